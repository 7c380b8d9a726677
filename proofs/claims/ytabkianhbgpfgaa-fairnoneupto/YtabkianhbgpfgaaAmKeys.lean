/- The abstract machine: keys looked up and put. -/
import Derived.Test.YtabkianhbgpfgaaAmMap
namespace Go.Am
open Go Go.RowKit
set_option linter.unusedSimpArgs false
set_option linter.unusedVariables false

section
variable {P : Program} {c : Cx} {w : World}

theorem eqK_kind {t : TypeId} {n : Nat} {x y : D} {b : Bool} (h : kindOf P t = some n) (e : eqK n x y = some b) : ∃ d, P.underlying t = some d ∧
    ((∃ k q a a', d = .int k ∧ x = .int q a ∧ y = .int q a' ∧ b = (a == a')) ∨ (∃ a a', d = .string ∧ x = .str a ∧ y = .str a' ∧ b = (a == a')) ∨ (∃ a a', d = .bool ∧ x = .bool a ∧ y = .bool a' ∧ b = (a == a'))) := by
  unfold eqK at e
  split at e
  · split at e <;> simp only [Option.some.injEq, reduceCtorEq] at e
    rename_i hk
    subst hk
    rcases kindOf_ok h with ⟨_, k, hu⟩ | ⟨h0, hu⟩ | ⟨h0, hu⟩
    · exact ⟨_, hu, .inl ⟨k, _, _, _, rfl, rfl, rfl, e.symm⟩⟩
    · cases h0
    · cases h0
  · simp only [Option.some.injEq] at e
    rcases kindOf_ok h with ⟨h0, k, hu⟩ | ⟨_, hu⟩ | ⟨h0, hu⟩
    · cases h0
    · exact ⟨_, hu, .inr (.inl ⟨_, _, rfl, rfl, rfl, e.symm⟩)⟩
    · cases h0
  · simp only [Option.some.injEq] at e
    rcases kindOf_ok h with ⟨h0, k, hu⟩ | ⟨h0, hu⟩ | ⟨_, hu⟩
    · cases h0
    · cases h0
    · exact ⟨_, hu, .inr (.inr ⟨_, _, rfl, rfl, rfl, e.symm⟩)⟩
  · cases e
/-- a scalar key is checked in no time -/
theorem checkK_ok {t : TypeId} {n d0 : Nat} {x : D} {v : Value} {b0 : Bool} (h : kindOf P t = some n) (hx : VC c x [v]) (e : (eqK n x x).isSome = true) : (Instr.checkKey b0 (d0 + 1) t v).run P w = .ok () w := by
  obtain ⟨b, e⟩ := Option.isSome_iff_exists.1 e
  obtain ⟨d, hu, hh⟩ := eqK_kind h e
  unfold Instr.checkKey
  rcases hh with ⟨k, q, a, a', rfl, rfl, _, _⟩ | ⟨a, a', rfl, rfl, _, _⟩ | ⟨a, a', rfl, rfl, _, _⟩ <;> simp only [VC, List.cons.injEq, and_true] at hx
  · subst hx; simp [run_underlying hu]
  · obtain ⟨a, rfl, _⟩ := hx; simp [run_underlying hu]
  · subst hx; simp [run_underlying hu]
theorem checkFields_ok {cs : Array Value} {b0 : Bool} {d0 : Nat} : ∀ (fs : List Field) (i : Nat) (ks : List Nat) (as : List D), kindsF P i fs = some ks → VCs c as (cs.toList.drop i) → (eqKs ks as as).isSome = true →
    (forIn fs PUnit.unit fun (f : Field) (_ : PUnit) => (if f.name ≠ "_" then do
        let a ← part f.type cs f.offset
        Instr.checkKey b0 (d0 + 1) f.type a
        pure (ForInStep.yield PUnit.unit)
      else pure (ForInStep.yield PUnit.unit) : Sem (ForInStep PUnit))).run P w = .ok PUnit.unit w
  | [], i, ks, as, _, _, _ => by simp
  | f :: fs, i, ks, as, hk, ha, e => by
    simp only [kindsF] at hk
    split at hk
    · rename_i hf
      obtain ⟨rfl, hn⟩ := hf
      simp only [Option.bind_eq_some_iff, Option.map_eq_some_iff] at hk
      obtain ⟨n, h1, ns, h2, rfl⟩ := hk
      match as, e with
      | a :: r, e =>
        obtain ⟨b, e⟩ := Option.isSome_iff_exists.1 e
        simp only [eqKs, Option.bind_eq_some_iff, Option.map_eq_some_iff] at e
        obtain ⟨x, e1, y, e2, rfl⟩ := e
        simp only [VCs] at ha
        obtain ⟨v, r1, k1, k2, k3⟩ := ha
        have g1 : cs[f.offset]? = some v := by
          have : (cs.toList.drop f.offset)[0]? = some v := by rw [k1]; rfl
          rw [List.getElem?_drop, Nat.add_zero, Array.getElem?_toList] at this
          exact this
        have g2 : cs.toList.drop (f.offset + 1) = r1 := by
          have : (cs.toList.drop f.offset).drop 1 = r1 := by rw [k1]; rfl
          rwa [List.drop_drop] at this
        have ih := checkFields_ok (b0 := b0) (d0 := d0) fs (f.offset + 1) ns r h2 (by rw [g2]; exact k3) (by rw [e2]; rfl)
        have hck := checkK_ok (w := w) (b0 := b0) (d0 := d0) h1 k2 (by rw [e1]; rfl)
        simp only [List.forIn_cons, ne_eq, hn, not_false_eq_true, if_true, Sem.run_bind, run_part_one (kindOf_agg h1) g1, Result.andThen_ok, hck, Sem.run_pure]
        simpa using ih
    · cases hk
theorem checkAgg_ok {kt : TypeId} {b0 : Bool} {ks : List Nat} {l : List D} {cs : Array Value} (d0 : Nat) (h1 : plainS P kt = some ks) (hv : VCs c l cs.toList) (e : (eqKs ks l l).isSome = true) : (Instr.checkKey b0 (d0 + 2) kt (.agg cs)).run P w = .ok () w := by
  obtain ⟨fs, hu, _, _, h4⟩ := plainS_ok h1
  have := checkFields_ok (w := w) (b0 := b0) (d0 := d0) fs.toList 0 ks l h4 (by simpa using hv) e
  show (Instr.checkKey b0 ((d0 + 1) + 1) kt (.agg cs)).run P w = _
  generalize d0 + 1 = d1 at this ⊢
  simp only [Instr.checkKey, Sem.run_bind, run_underlying hu, Result.andThen_ok]
  rw [← Array.forIn_toList]
  rw [this]
  simp
theorem checkKey_ok {kt : TypeId} {kd : D} {key : Value} {b0 : Bool} (hk : VV c kd key) (e : (keyEq P kt kd kd).isSome = true) : (Instr.checkKey b0 10000 kt key).run P w = .ok () w := by
  by_cases hag : ∃ l, kd = .agg l
  · obtain ⟨l, rfl⟩ := hag
    obtain ⟨cs, rfl, hv⟩ := VV.inv_agg hk
    obtain ⟨b, e⟩ := Option.isSome_iff_exists.1 e
    simp only [keyEq, Option.bind_eq_some_iff] at e
    obtain ⟨ks, h1, e⟩ := e
    exact checkAgg_ok 9998 h1 hv (by rw [e]; rfl)
  · have e' : ∃ n, kindOf P kt = some n ∧ (eqK n kd kd).isSome = true := by
      obtain ⟨b, e⟩ := Option.isSome_iff_exists.1 e
      have : (kindOf P kt).bind (fun n => eqK n kd kd) = some b := by
        revert e; cases kd <;> intro e <;> first | exact e | exact absurd ⟨_, rfl⟩ hag
      simp only [Option.bind_eq_some_iff] at this
      obtain ⟨n, h1, h2⟩ := this
      exact ⟨n, h1, by rw [h2]; rfl⟩
    obtain ⟨n, h1, h2⟩ := e'
    exact checkK_ok (d0 := 9999) h1 (VV.inv hk (fun l hl => hag ⟨l, hl⟩)) h2

/-- an entry -/
abbrev EntR (c : Cx) (e : D × T) (x : MapEntry) : Prop := VV c e.1 x.key ∧ ∃ y, e.2 = .d y ∧ VV c y x.val
/-- what a search finds -/
def Found (eq : D → D → Option Bool) (kd : D) (es : List (D × T)) (en : List MapEntry) (i0 : Nat) (r : Option T) (res : Option (Nat × Value)) : Prop :=
  (r = none ∧ res = none ∧ ∀ x, putK eq kd x es = some (es ++ [(kd, x)])) ∨
  ∃ i t k0 e0, r = some t ∧ es[i]? = some (k0, t) ∧ en[i]? = some e0 ∧ res = some (i0 + i, e0.val) ∧ eq kd k0 = some true ∧ ∀ x, putK eq kd x es = some (es.set i (kd, x))
theorem Found.skip {eq : D → D → Option Bool} {kd : D} {e : D × T} {x : MapEntry} {es : List (D × T)} {en : List MapEntry} {i0 : Nat} {r : Option T} {res : Option (Nat × Value)} (he : eq kd e.1 = some false) (h : Found eq kd es en (i0 + 1) r res) : Found eq kd (e :: es) (x :: en) i0 r res := by
  rcases h with ⟨h1, h2, h3⟩ | ⟨i, t, k0, e0, h1, h2, h3, h4, h5, h6⟩
  · exact .inl ⟨h1, h2, fun y => by simp [putK, he, h3]⟩
  · refine .inr ⟨i + 1, t, k0, e0, h1, by simpa using h2, by simpa using h3, ?_, h5, fun y => by simp [putK, he, h6]⟩
    rw [h4, show i0 + 1 + i = i0 + (i + 1) by omega]
theorem Found.here {eq : D → D → Option Bool} {kd k0 : D} {t : T} {x : MapEntry} {es : List (D × T)} {en : List MapEntry} {i0 : Nat} (he : eq kd k0 = some true) : Found eq kd ((k0, t) :: es) (x :: en) i0 (some t) (some (i0, x.val)) :=
  .inr ⟨0, t, k0, x, rfl, rfl, rfl, rfl, he, fun y => by simp [putK, he]⟩

theorem findNow_ok {eq : D → D → Option Bool} {d : TypeDesc} {kd : D} {key : Value} (hc : ∀ k0 u b, VV c k0 u → eq kd k0 = some b → Instr.sameNow d key u = some b) : ∀ (es : List (D × T)) (en : List MapEntry) (i0 : Nat) (r : Option T), All2 (EntR c) es en → findK eq kd es = some r →
    ∃ res, Instr.findNow d key en i0 = some res ∧ Found eq kd es en i0 r res
  | [], en, i0, r, ha, e => by
    rw [show en = [] from ha]
    simp only [findK, Option.some.injEq] at e; subst e
    exact ⟨none, rfl, .inl ⟨rfl, rfl, fun x => rfl⟩⟩
  | (k0, t) :: es, en, i0, r, ha, e => by
    obtain ⟨x, en', rfl, ⟨h1, h2⟩, h3⟩ := ha
    simp only [findK, Option.bind_eq_some_iff] at e
    obtain ⟨b, e1, e⟩ := e
    have hs := hc k0 x.key b h1 e1
    cases b
    · simp only [Bool.false_eq_true, if_false] at e
      obtain ⟨res, g1, g2⟩ := findNow_ok hc es en' (i0 + 1) r h3 e
      exact ⟨res, by simp [Instr.findNow, hs, g1], g2.skip e1⟩
    · simp only [if_true, Option.some.injEq] at e; subst e
      exact ⟨some (i0, x.val), by simp [Instr.findNow, hs], Found.here e1⟩
theorem findAsking_ok {eq : D → D → Option Bool} {kt : TypeId} {kd : D} {key : Value} (hc : ∀ k0 u b, VV c k0 u → eq kd k0 = some b → (Op.equal kt key u).run P w = .ok b w) : ∀ (es : List (D × T)) (en : List MapEntry) (i0 : Nat) (r : Option T), All2 (EntR c) es en → findK eq kd es = some r →
    ∃ res, (Instr.findAsking kt key en i0).run P w = .ok res w ∧ Found eq kd es en i0 r res
  | [], en, i0, r, ha, e => by
    rw [show en = [] from ha]
    simp only [findK, Option.some.injEq] at e; subst e
    exact ⟨none, rfl, .inl ⟨rfl, rfl, fun x => rfl⟩⟩
  | (k0, t) :: es, en, i0, r, ha, e => by
    obtain ⟨x, en', rfl, ⟨h1, h2⟩, h3⟩ := ha
    simp only [findK, Option.bind_eq_some_iff] at e
    obtain ⟨b, e1, e⟩ := e
    have hs := hc k0 x.key b h1 e1
    cases b
    · simp only [Bool.false_eq_true, if_false] at e
      obtain ⟨res, g1, g2⟩ := findAsking_ok hc es en' (i0 + 1) r h3 e
      exact ⟨res, by simp [Instr.findAsking, hs, g1], g2.skip e1⟩
    · simp only [if_true, Option.some.injEq] at e; subst e
      exact ⟨some (i0, x.val), by simp [Instr.findAsking, hs], Found.here e1⟩
theorem findKey_ok {kt : TypeId} {kd : D} {key : Value} {es : List (D × T)} {en : List MapEntry} {r : Option T} (hk : VV c kd key) (hs : (keyEq P kt kd kd).isSome = true) (ha : All2 (EntR c) es en) (e : findK (keyEq P kt) kd es = some r) :
    ∃ res, (Instr.findKey kt key en).run P w = .ok res w ∧ Found (keyEq P kt) kd es en 0 r res := by
  by_cases hag : ∃ l, kd = .agg l
  · obtain ⟨l, rfl⟩ := hag
    obtain ⟨cs, rfl, hv⟩ := VV.inv_agg hk
    obtain ⟨b, hs⟩ := Option.isSome_iff_exists.1 hs
    simp only [keyEq, Option.bind_eq_some_iff] at hs
    obtain ⟨ks, h1, _⟩ := hs
    obtain ⟨fs, hu, _, _, h4⟩ := plainS_ok h1
    obtain ⟨res, g1, g2⟩ := findAsking_ok (P := P) (w := w) (kt := kt) (key := .agg cs) (eq := keyEq P kt) (kd := .agg l) (fun k0 u b hu' he => by
      cases k0 with
      | agg l' =>
        obtain ⟨cs', rfl, hv'⟩ := VV.inv_agg hu'
        simp only [keyEq, Option.bind_eq_some_iff] at he
        obtain ⟨ks', h1', he⟩ := he
        exact eqS_ok (d0 := 9998) h1' hv hv' he
      | _ =>
        simp only [keyEq, Option.bind_eq_some_iff] at he
        obtain ⟨n, h1', he⟩ := he
        exfalso
        unfold eqK at he
        split at he <;> simp_all) es en 0 r ha e
    cases es with
    | nil =>
      rw [show en = [] from ha] at g1 ⊢
      refine ⟨res, ?_, by rw [show en = [] from ha] at g2; exact g2⟩
      simp only [Instr.findAsking, Sem.run_pure, Result.ok.injEq, and_true] at g1
      subst g1
      simp [Instr.findKey, run_underlying hu, Instr.findNow]
    | cons e0 es =>
      obtain ⟨x, en', rfl, _, _⟩ := ha
      refine ⟨res, ?_, g2⟩
      simp [Instr.findKey, run_underlying hu, Instr.findNow, Instr.sameNow, g1]
  · have e' : ∀ y, keyEq P kt kd y = (kindOf P kt).bind fun n => eqK n kd y := fun y => by
      cases kd <;> first | rfl | exact absurd ⟨_, rfl⟩ hag
    obtain ⟨b, hs⟩ := Option.isSome_iff_exists.1 hs
    rw [e', Option.bind_eq_some_iff] at hs
    obtain ⟨n, h1, h2⟩ := hs
    obtain ⟨d, hu, _⟩ := eqK_kind h1 h2
    have hk1 := VV.inv hk (fun l hl => hag ⟨l, hl⟩)
    obtain ⟨res, g1, g2⟩ := findNow_ok (d := d) (key := key) (eq := keyEq P kt) (kd := kd) (fun k0 u b hu' he => by
      rw [e', h1, Option.bind_some] at he
      obtain ⟨d', hd', hh⟩ := eqK_kind h1 he
      rw [hu] at hd'
      simp only [Option.some.injEq] at hd'
      subst hd'
      rcases hh with ⟨k, q, a, a', rfl, rfl, rfl, rfl⟩ | ⟨a, a', rfl, rfl, rfl, rfl⟩ | ⟨a, a', rfl, rfl, rfl, rfl⟩
      · simp only [VC, List.cons.injEq, and_true] at hk1
        rw [hk1, VV.of_int hu']; simp [Instr.sameNow]
      · simp only [VC, List.cons.injEq, and_true] at hk1
        obtain ⟨b1, rfl, rfl⟩ := hk1
        obtain ⟨b2, rfl, rfl⟩ := VV.of_str hu'
        simp only [Instr.sameNow, beq_toListBytes, ByteArray.toList_eq]
      · simp only [VC, List.cons.injEq, and_true] at hk1
        rw [hk1, VV.of_bool hu']; simp [Instr.sameNow]) es en 0 r ha e
    exact ⟨res, by simp [Instr.findKey, run_underlying hu, g1], g2⟩
theorem mapOf_ok {t kt e : TypeId} (h : mapOf P t = some (kt, e)) : P.underlying t = some (.map kt e) := by
  unfold mapOf at h
  split at h
  · simp only [Option.some.injEq, Prod.mk.injEq] at h; obtain ⟨rfl, rfl⟩ := h; assumption
  · cases h
/-- equal keys are the same bits -/
theorem sameK {n m : Nat} {x y : D} {u v : Value} (hx : VC c x [u]) (hy : VC c y [v]) (e : eqK n x y = some true) : Instr.sameBits m v u = true := by
  unfold eqK at e
  split at e
  · split at e <;> simp only [Option.some.injEq, reduceCtorEq, beq_iff_eq] at e
    subst_vars
    simp only [VC, List.cons.injEq, and_true] at hx hy
    subst hx; subst hy
    cases m <;> simp [Instr.sameBits]
  · simp only [Option.some.injEq, beq_iff_eq] at e
    subst e
    simp only [VC, List.cons.injEq, and_true] at hx hy
    obtain ⟨a, rfl, h1⟩ := hx
    obtain ⟨b, rfl, h2⟩ := hy
    have : b == a := by rw [beq_toListBytes, ByteArray.toList_eq, ByteArray.toList_eq, h1, h2]; simp
    cases m <;> simp only [Instr.sameBits] <;> exact this
  · simp only [Option.some.injEq, beq_iff_eq] at e
    subst e
    simp only [VC, List.cons.injEq, and_true] at hx hy
    subst hx; subst hy
    cases m <;> simp [Instr.sameBits]
  · cases e
theorem sameKs {m : Nat} : ∀ (ks : List Nat) (as bs : List D) (us vs : List Value), VCs c as us → VCs c bs vs → eqKs ks as bs = some true → vs.length = us.length ∧ ((vs.zip us).all fun (x, y) => Instr.sameBits m x y) = true
  | [], [], [], us, vs, h1, h2, _ => by simp only [VCs] at h1 h2; subst h1; subst h2; simp
  | n :: ns, a :: as, b :: bs, us, vs, h1, h2, e => by
    simp only [eqKs, Option.bind_eq_some_iff, Option.map_eq_some_iff] at e
    obtain ⟨x, e1, y, e2, e3⟩ := e
    simp only [Bool.and_eq_true] at e3
    obtain ⟨rfl, rfl⟩ := e3
    simp only [VCs] at h1 h2
    obtain ⟨u, r1, rfl, q1, q2⟩ := h1
    obtain ⟨v, r2, rfl, q3, q4⟩ := h2
    obtain ⟨i1, i2⟩ := sameKs (m := m) ns as bs r1 r2 q2 q4 e2
    refine ⟨by simp [i1], ?_⟩
    simp only [List.zip_cons_cons, List.all_cons, Bool.and_eq_true]
    exact ⟨sameK q1 q3 e1, i2⟩
theorem keyStays_ok {kt : TypeId} {kd k0 : D} {key old : Value} (hk : VV c kd key) (h0 : VV c k0 old) (e : keyEq P kt kd k0 = some true) : (Instr.keyThatStays old key).run P w = .ok key w := by
  have : Instr.sameBits 10000 old key = true := by
    by_cases hag : ∃ l, kd = .agg l
    · obtain ⟨l, rfl⟩ := hag
      obtain ⟨cs, rfl, hv⟩ := VV.inv_agg hk
      cases k0 with
      | agg l' =>
        obtain ⟨cs', rfl, hv'⟩ := VV.inv_agg h0
        simp only [keyEq, Option.bind_eq_some_iff] at e
        obtain ⟨ks', h1', he⟩ := e
        obtain ⟨i1, i2⟩ := sameKs (m := 9999) ks' l l' _ _ hv hv' he
        show Instr.sameBits (9999 + 1) _ _ = true
        simp only [Array.length_toList] at i1
        simp only [Instr.sameBits, i1, BEq.rfl, Bool.true_and]
        exact i2
      | _ =>
        simp only [keyEq, Option.bind_eq_some_iff] at e
        obtain ⟨n, h1', he⟩ := e
        exfalso
        unfold eqK at he
        split at he <;> simp_all
    · have e' : keyEq P kt kd k0 = (kindOf P kt).bind fun n => eqK n kd k0 := by
        cases kd <;> first | rfl | exact absurd ⟨_, rfl⟩ hag
      rw [e', Option.bind_eq_some_iff] at e
      obtain ⟨n, h1, h2⟩ := e
      have h3 : ∀ l, k0 ≠ .agg l := fun l hl => by subst hl; unfold eqK at h2; split at h2 <;> simp_all
      exact sameK (VV.inv hk (fun l hl => hag ⟨l, hl⟩)) (VV.inv h0 h3) h2
  simp [Instr.keyThatStays, this]
theorem putK_find {eq : D → D → Option Bool} {kd : D} {x : T} : ∀ (es es' : List (D × T)), putK eq kd x es = some es' → ∃ r, findK eq kd es = some r
  | [], _, _ => ⟨none, rfl⟩
  | e :: es, es', h => by
    simp only [putK, Option.bind_eq_some_iff] at h
    obtain ⟨b, h1, h⟩ := h
    cases b
    · simp only [Bool.false_eq_true, if_false, Option.map_eq_some_iff] at h
      obtain ⟨q, h2, _⟩ := h
      obtain ⟨r, h3⟩ := putK_find es q h2
      exact ⟨r, by simp [findK, h1, h3]⟩
    · exact ⟨some e.2, by simp [findK, h1]⟩
end

section
variable {P : Program} {A : Av} {ρ : Nat → Nat} {S : Root → List Nat} {hd : Root → Value} {fl : List Nat} {k k' : Wk} {vals : List (SV × Value)} {w : World}
theorem run_getObj_map' {r : Nat} {es : Array MapEntry} {clock : Nat} (h : w.heap[r]? = some (.map es clock)) : (getObj r).run P w = .ok (.map es clock) w := by
  simp [getObj, Sem.run, h]
theorem lookupE_ok (h : KR A ρ S hd fl k vals w) {t : TypeId} {ok : Bool} {m x sv : SV} {mv xv : Value} (hm : SO (cxOf A k.H.length ρ S fl w) k.get hd m mv) (hx : SO (cxOf A k.H.length ρ S fl w) k.get hd x xv) (e : lookupE P t m x ok k.H = some sv) :
    ∃ v, (Instr.lookup t mv xv ok).run P w = .ok v w ∧ SO (cxOf A k.H.length ρ S fl w) k.get hd sv v := by
  simp only [lookupE, Option.bind_eq_some_iff] at e
  obtain ⟨⟨kt, el⟩, h1, e⟩ := e
  have hu := mapOf_ok h1
  simp only at e
  split at e
  · rename_i kd
    split at e
    · rename_i hs
      simp only [Option.bind_eq_some_iff, Option.map_eq_some_iff] at e
      obtain ⟨r, e1, z, hz, ⟨y, b⟩, e2, e3⟩ := e
      simp only at e3
      obtain ⟨i, zv, z1, z2, z3, z4⟩ := zeroOf_ok hz
      have hzv := ofVal_ok (c := cxOf A k.H.length ρ S fl w) z3
      -- the entries
      have ent : ∃ (en : Array MapEntry) (es : List (D × T)), All2 (EntR (cxOf A k.H.length ρ S fl w)) es en.toList ∧ findK (keyEq P kt) kd es = some r ∧
          ((mv = .map none ∧ en = #[]) ∨ ∃ b cl, mv = .map (some b) ∧ w.heap[b]? = some (.map en cl)) := by
        split at e1
        · simp only [Option.some.injEq] at e1; subst e1
          have : mv = .map none := by have := VV.inv hm (by simp); simpa [VC] using this
          exact ⟨#[], [], rfl, rfl, .inl ⟨this, rfl⟩⟩
        · rename_i o
          split at e1
          · rename_i es ho
            have hv' := VV.inv hm (by simp)
            simp only [VC, List.cons.injEq, and_true] at hv'
            obtain ⟨_, en, cl, m2, m3⟩ := h.map o _ ho
            exact ⟨en, es, m3, e1, .inr ⟨_, cl, hv'.2, m2⟩⟩
          · cases e1
        · cases e1
      obtain ⟨en, es, a1, a2, hmv⟩ := ent
      obtain ⟨res, f1, f2⟩ := findKey_ok (w := w) hx hs a1 a2
      have hck : (Instr.checkKey en.isEmpty 10000 kt xv).run P w = .ok () w := checkKey_ok hx hs
      have hrun : (Instr.lookup t mv xv ok).run P w = match res with
          | some (_, v) => .ok (if ok then .tuple #[v, .bool true] else v) w
          | none => .ok (if ok then .tuple #[zv, .bool false] else zv) w := by
        rcases hmv with ⟨rfl, rfl⟩ | ⟨b, cl, rfl, hb⟩
        · have hck' : (Instr.checkKey true 10000 kt xv).run P w = .ok () w := checkKey_ok hx hs
          rcases res with _ | ⟨q, v⟩ <;> simp [Instr.lookup, run_underlying hu, hck', f1, z4 w]
          all_goals simp at f1
          all_goals simp [f1, z4 w]
        · rcases res with _ | ⟨q, v⟩ <;> simp [Instr.lookup, run_underlying hu, run_getObj_map' hb, hck, f1, z4 w]
      rw [hrun]
      rcases f2 with ⟨rfl, rfl, _⟩ | ⟨j, t0, k0, e0, rfl, g2, g3, rfl, _, _⟩
      · simp only [Option.some.injEq, Prod.mk.injEq] at e2
        obtain ⟨rfl, rfl⟩ := e2
        refine ⟨if ok then .tuple #[zv, .bool false] else zv, rfl, ?_⟩
        cases ok
        · simp only [Bool.false_eq_true, if_false] at e3 ⊢
          subst e3; exact hzv
        · simp only [if_true] at e3 ⊢
          subst e3
          exact ⟨_, rfl, _, _, rfl, hzv, _, _, rfl, VV.mk_bool _, rfl⟩
      · obtain ⟨e0', q1, q2⟩ := a1.get g2
        rw [g3] at q1
        simp only [Option.some.injEq] at q1
        subst q1
        obtain ⟨_, y', hy1, hy2⟩ := q2
        simp only at hy1
        subst hy1
        simp only [Option.some.injEq, Prod.mk.injEq] at e2
        obtain ⟨rfl, rfl⟩ := e2
        refine ⟨if ok then .tuple #[e0.val, .bool true] else e0.val, rfl, ?_⟩
        cases ok
        · simp only [Bool.false_eq_true, if_false] at e3 ⊢
          subst e3; exact hy2
        · simp only [if_true] at e3 ⊢
          subst e3
          exact ⟨_, rfl, _, _, rfl, hy2, _, _, rfl, VV.mk_bool _, rfl⟩
    · cases e
  · cases e
end
end Go.Am
