/- The abstract machine: slicing, lengths, structs by their parts. -/
import Derived.Test.YtabkianhbgpfgaaAmField
namespace Go.Am
open Go Go.RowKit
set_option linter.unusedSimpArgs false
set_option linter.unusedVariables false

/-- a bound that may be left out -/
def OptR (R : SV → Value → Prop) : Option SV → Option Value → Prop
  | none, none => True
  | some s, some v => R s v
  | _, _ => False

section
variable {P : Program} {c : Cx} {K : Root → Option T} {hd : Root → Value} {w : World}

theorem boundE_ok {x : Option SV} {v : Option Value} {d n y : Nat} {code : BoundsCode} (hx : OptR (SO c K hd) x v) (e : boundE x d = some n) (hle : n ≤ y) :
    (v = none ∧ n = d) ∨ ∃ u, v = some u ∧ x.isSome = true ∧ (Instr.sliceBound u y code).run P w = .ok n w := by
  unfold boundE at e
  split at e
  · simp only [Option.some.injEq] at e
    cases v with
    | none => exact .inl ⟨rfl, e.symm⟩
    | some u => exact hx.elim
  · rename_i q z
    split at e
    · simp only [Option.some.injEq] at e
      cases v with
      | none => exact hx.elim
      | some u =>
        rw [VV.of_int hx]
        refine .inr ⟨_, rfl, rfl, ?_⟩
        rw [run_sliceBound w q z y code (by omega) (by omega), e]
    · cases e
  · cases e
/-- two bounds -/
theorem bounds2 {lo hi : Option SV} {lv hv : Option Value} {l h len cap : Nat} {b : Bool} (hl : OptR (SO c K hd) lo lv) (hh : OptR (SO c K hd) hi hv) (el : boundE lo 0 = some l) (eh : boundE hi len = some h) (h1 : l ≤ h) (h2 : h ≤ cap) (h3 : len ≤ cap) :
    (Instr.sliceBounds b len cap lv hv none).run P w = .ok (l, h, cap) w := by
  rcases boundE_ok (P := P) (w := w) (code := if b then .sliceAcap else .sliceAlen) hh eh h2 with ⟨rfl, rfl⟩ | ⟨u, rfl, _, hr⟩ <;>
  rcases boundE_ok (P := P) (w := w) (code := .sliceB) hl el h1 with ⟨rfl, rfl⟩ | ⟨u', rfl, _, hr'⟩ <;> simp_all [Instr.sliceBounds]
/-- three bounds -/
theorem bounds3 {lo hi : Option SV} {m : SV} {lv hv : Option Value} {mv : Value} {l h mm len cap : Nat} {b : Bool} (hl : OptR (SO c K hd) lo lv) (hh : OptR (SO c K hd) hi hv) (hm : SO c K hd m mv) (el : boundE lo 0 = some l) (eh : boundE hi len = some h) (em : boundE (some m) 0 = some mm) (hs : hi.isSome = true) (h1 : l ≤ h) (h2 : h ≤ mm) (h3 : mm ≤ cap) :
    (Instr.sliceBounds b len cap lv hv (some mv)).run P w = .ok (l, h, mm) w := by
  rcases boundE_ok (P := P) (w := w) (code := if b then .slice3Acap else .slice3Alen) (x := some m) (v := some mv) (show OptR (SO c K hd) (some m) (some mv) from hm) em h3 with ⟨h0, _⟩ | ⟨u2, h0, _, hr2⟩
  · cases h0
  · simp only [Option.some.injEq] at h0
    subst h0
    rcases boundE_ok (P := P) (w := w) (code := .slice3B) hh eh h2 with ⟨rfl, rfl⟩ | ⟨u, rfl, _, hr⟩
    · cases hi with
      | none => cases hs
      | some x => exact hh.elim
    · rcases boundE_ok (P := P) (w := w) (code := .slice3C) hl el h1 with ⟨rfl, rfl⟩ | ⟨u', rfl, _, hr'⟩ <;> simp_all [Instr.sliceBounds]

theorem run_sliceAt_sl {t e : TypeId} {a : Option Addr} {len cap l h m : Nat} {lv hv mv : Option Value} (hu : P.underlying t = some (.slice e)) (hi : (P.info? e).isSome = true) (hb : (Instr.sliceBounds true len cap lv hv mv).run P w = .ok (l, h, m) w) :
    (Instr.sliceAt t (.slice a len cap) lv hv mv).run P w = .ok (.slice (if m = l then a else a.map (·.add (l * P.cellsOf e))) (h - l) (m - l)) w := by
  simp [Instr.sliceAt, run_underlying hu, Instr.slice, hb, run_sizeOf' hi]
theorem run_sliceAt_str {t : TypeId} {s : ByteArray} {l h m : Nat} {lv hv : Option Value} (hu : P.underlying t = some .string) (hb : (Instr.sliceBounds false s.size s.size lv hv none).run P w = .ok (l, h, m) w) :
    (Instr.sliceAt t (.string s) lv hv none).run P w = .ok (.string (s.extract l h)) w := by
  simp [Instr.sliceAt, run_underlying hu, Instr.slice, hb]

/-- a window of pure data -/
theorem sl_win {b : Bool} {xs : List D} {a : Option Addr} {len cap l h m n : Nat} (hv : VC c (.sl b xs) [.slice a len cap]) (h1 : l ≤ h) (h2 : h ≤ xs.length) (h3 : h ≤ m) (h4 : m ≤ cap) (hn : headD n (win xs l (h - l)) = true) :
    VC c (.sl b (win xs l (h - l))) [.slice (if m = l then a else a.map (·.add (l * n))) (h - l) (m - l)] := by
  simp only [VC, List.cons.injEq, Value.slice.injEq, and_true] at hv ⊢
  obtain ⟨a', len', cap', ⟨rfl, rfl, rfl⟩, q2, q3, q4⟩ := hv
  have hwl : (win xs l (h - l)).length = h - l := win_length _ _ _ (by omega)
  refine ⟨_, _, _, ⟨rfl, rfl, rfl⟩, hwl.symm, by omega, fun hne => ?_⟩
  have hpos : l < h := by
    rcases Nat.lt_or_ge l h with h0 | h0
    · exact h0
    · exfalso; apply hne; exact List.eq_nil_of_length_eq_zero (by omega)
  obtain ⟨ad, sz, rfl, g1, g2, g3, g4⟩ := q4 (by rintro rfl; simp at h2; omega)
  have hhead : n = sz := by
    cases hx : win xs l (h - l) with
    | nil => exact absurd hx hne
    | cons y r =>
      rw [hx] at hn
      simp only [headD, beq_iff_eq] at hn
      have hy : xs[l]? = some y := by
        have : (win xs l (h - l))[0]? = some y := by rw [hx]; rfl
        simpa using win_get this
      rw [← hn]; exact (VE.get xs ad 0 sz g4 l y hy).1
  refine ⟨ad.add (l * n), sz, by rw [if_neg (by omega)]; rfl, add_spot _ _ g1, by rw [add_block]; exact g2, g3, ?_⟩
  refine VE.shift _ (0 + l * sz) 0 sz (fun j => ?_) (g4.win l (h - l))
  rw [add_add _ _ _ g1, hhead]
  simp

theorem sliceStr_ok {s : List UInt8} {v : Value} {l h : Nat} (hv : VV c (.str s) v) (h1 : l ≤ h) (h2 : h ≤ s.length) : ∃ a : ByteArray, v = .string a ∧ a.size = s.length ∧ VV c (.str (win s l (h - l))) (.string (a.extract l h)) := by
  obtain ⟨a, rfl, rfl⟩ := hv.of_str
  refine ⟨a, rfl, by simp, VV.mk_str ?_⟩
  have : (a.extract l h).data = a.data.extract l h := by simp [ByteArray.data_extract]
  rw [this, Array.toList_extract, List.extract_eq_take_drop]
  rfl
end

section
variable {P : Program} {A : Av} {ρ : Nat → Nat} {S : Root → List Nat} {hd : Root → Value} {fl : List Nat} {k k' : Wk} {vals : List (SV × Value)} {w : World}

/-- a window of a row -/
theorem bor_win (h : KR A ρ S hd fl k vals w) {r : Root} {p : Path} {off len : Nat} {v : Value} {l h' m n : Nat} (hv : SB (cxOf A k.H.length ρ S fl w) k.get hd (.bor r p off len) v) (h1 : l ≤ h') (h2 : h' ≤ len) (h3 : h' ≤ m) (hn : winOk n r p (off + l) (h' - l) k = true) :
    ∃ a cap, v = .slice a len cap ∧ len ≤ cap ∧ (m ≤ cap → SB (cxOf A k.H.length ρ S fl w) k.get hd (.bor r p (off + l) (h' - l)) (.slice (if m = l then a else a.map (·.add (l * n))) (h' - l) (m - l))) := by
  obtain ⟨t0, es, hh, b1, b2, b3, b4, b5⟩ := id hv
  obtain ⟨a, mm, cap, a', cap', m1, m2, m3, m4, m5⟩ := b5
  subst m2
  refine ⟨a', cap', rfl, m3, fun hm => ⟨t0, es, hh, b1, b2, b3, by omega, a, mm, cap, _, m - l, m1, rfl, by omega, fun h0 => ?_, fun h0 => ?_⟩⟩
  · obtain ⟨q1, q2⟩ := m4 (by omega)
    have : l = 0 := by omega
    subst this
    subst q1
    refine ⟨?_, by omega⟩
    split
    · rfl
    · cases a' with
      | none => rfl
      | some ad =>
        simp only [Option.map_some, Option.some.injEq, Nat.zero_mul]
        rw [Addr.add_zero']
  · obtain ⟨g, el, n1, n2, n3⟩ := m5 (by omega)
    obtain ⟨h0', L, Sn, R, hS, foc⟩ := TC.focus p t0 (hd r) (S r) (.own es) (h.cont r t0 b1) b2
    have hlt : off + l < es.length := by omega
    have hel := List.getElem?_eq_getElem hlt
    refine ⟨g, es[off + l], n1, hel, ?_⟩
    rw [if_neg (by omega), n3]
    simp only [Option.map_some, Option.some.injEq]
    have hnc : es[off + l].nc = n := by
      simp only [winOk, b1, b2, Option.bind_some] at hn
      cases hx : win es (off + l) (h' - l) with
      | nil =>
        have := win_length es (off + l) (h' - l) (by omega)
        rw [hx] at this
        simp at this
        omega
      | cons y q =>
        rw [hx] at hn
        simp only [headT, beq_iff_eq] at hn
        have : (win es (off + l) (h' - l))[0]? = some y := by rw [hx]; rfl
        have := win_get this
        rw [Nat.add_zero, hel] at this
        simp only [Option.some.injEq] at this
        rw [this]; exact hn
    rcases foc.tc with ⟨a0, _, k2, _⟩ | ⟨g', cap0, cur, e, sz, S', k1, k2, k3, k4, k5, k6, k7, k8⟩
    · subst k2; simp at n2
    · have e1 := (TE.len _ _ _ _ k8).2 el (List.mem_of_getElem? n2)
      have e2 := (TE.len _ _ _ _ k8).2 _ (List.mem_of_getElem? hel)
      rw [add_plain', e1, hnc.symm.trans e2, e2, Nat.add_mul]

theorem sliceE_ok (h : KR A ρ S hd fl k vals w) {t : TypeId} {x sv : SV} {v : Value} {lo hi mx : Option SV} {lv hv mv : Option Value} (hx : SO (cxOf A k.H.length ρ S fl w) k.get hd x v)
    (hlo : OptR (SO (cxOf A k.H.length ρ S fl w) k.get hd) lo lv) (hhi : OptR (SO (cxOf A k.H.length ρ S fl w) k.get hd) hi hv) (hmx : OptR (SO (cxOf A k.H.length ρ S fl w) k.get hd) mx mv) (e : sliceE P t x lo hi mx k = some sv) :
    ∃ u, (Instr.sliceAt t v lv hv mv).run P w = .ok u w ∧ SO (cxOf A k.H.length ρ S fl w) k.get hd sv u := by
  unfold sliceE at e
  split at e
  · split at e
    · rename_i hu
      have : mv = none := by cases mv with | none => rfl | some y => exact hmx.elim
      subst this
      simp only [Option.bind_eq_some_iff] at e
      obtain ⟨l, e1, h', e2, e⟩ := e
      split at e
      · rename_i hc
        simp only [Option.some.injEq] at e; subst e
        obtain ⟨a, rfl, ha, hr⟩ := sliceStr_ok hx hc.1 hc.2
        rw [ha.symm] at e2
        exact ⟨_, run_sliceAt_str hu (bounds2 hlo hhi e1 e2 hc.1 (by omega) (Nat.le_refl _)), hr⟩
      · cases e
    · cases e
  · rename_i b xs
    have hv' := VV.inv hx (by simp)
    have hs : ∃ a len cap, v = .slice a len cap ∧ len = xs.length ∧ len ≤ cap := by
      simp only [VC, List.cons.injEq, and_true] at hv'
      obtain ⟨a, len, cap, q1, q2, q3, _⟩ := hv'
      exact ⟨a, len, cap, q1, q2, q3⟩
    obtain ⟨a, len, cap, rfl, rfl, hcap⟩ := hs
    split at e
    · rename_i el hu
      have : mv = none := by cases mv with | none => rfl | some y => exact hmx.elim
      subst this
      simp only [Option.bind_eq_some_iff] at e
      obtain ⟨l, e1, h', e2, e⟩ := e
      split at e
      · rename_i hc
        simp only [Option.some.injEq] at e; subst e
        exact ⟨_, run_sliceAt_sl hu hc.2.2.1 (bounds2 hlo hhi e1 e2 hc.1 (by omega) hcap), VV.one (sl_win hv' hc.1 hc.2.1 (by omega) (Nat.le_refl _) hc.2.2.2) (by simp)⟩
      · cases e
    · rename_i el m hu
      have : ∃ y, mv = some y ∧ SO (cxOf A k.H.length ρ S fl w) k.get hd m y := by cases mv with | none => exact hmx.elim | some y => exact ⟨y, rfl, hmx⟩
      obtain ⟨y, rfl, hm⟩ := this
      simp only [Option.bind_eq_some_iff] at e
      obtain ⟨l, e1, h', e2, mm, e3, e⟩ := e
      split at e
      · rename_i hc
        obtain ⟨c1, c2, c3, c4, c5, c6⟩ := hc
        simp only [Option.some.injEq] at e; subst e
        subst c2
        refine ⟨_, run_sliceAt_sl hu c5 (bounds3 hlo hhi hm e1 e2 e3 c4 c1 (Nat.le_refl _) (by omega)), sl_win hv' c1 c3 (Nat.le_refl _) (by omega) c6, ?_⟩
        rw [win_length _ _ _ (by omega)]
        exact ⟨_, rfl⟩
      · cases e
    · cases e
  · have hv' : v = .slice none 0 0 := by have := VV.inv hx (by simp); simpa [VC] using this
    subst hv'
    split at e
    · rename_i el hu
      have : mv = none := by cases mv with | none => rfl | some y => exact hmx.elim
      subst this
      simp only [Option.bind_eq_some_iff] at e
      obtain ⟨l, e1, h', e2, e⟩ := e
      split at e
      · rename_i hc
        obtain ⟨rfl, rfl, c3⟩ := hc
        simp only [Option.some.injEq] at e; subst e
        refine ⟨_, run_sliceAt_sl hu c3 (bounds2 hlo hhi e1 e2 (Nat.le_refl _) (Nat.le_refl _) (Nat.le_refl _)), VV.one (by simp [VC]) (by simp)⟩
      · cases e
    · rename_i el m hu
      have : ∃ y, mv = some y ∧ SO (cxOf A k.H.length ρ S fl w) k.get hd m y := by cases mv with | none => exact hmx.elim | some y => exact ⟨y, rfl, hmx⟩
      obtain ⟨y, rfl, hm⟩ := this
      simp only [Option.bind_eq_some_iff] at e
      obtain ⟨l, e1, h', e2, mm, e3, e⟩ := e
      split at e
      · rename_i hc
        obtain ⟨rfl, rfl, rfl, c4, c5⟩ := hc
        simp only [Option.some.injEq] at e; subst e
        refine ⟨_, run_sliceAt_sl hu c5 (bounds3 hlo hhi hm e1 e2 e3 c4 (Nat.le_refl _) (Nat.le_refl _) (Nat.le_refl _)), VV.one (by simp [VC]) (by simp)⟩
      · cases e
    · cases e
  · rename_i r p off len
    split at e
    · rename_i el hu
      have : mv = none := by cases mv with | none => rfl | some y => exact hmx.elim
      subst this
      simp only [Option.bind_eq_some_iff] at e
      obtain ⟨l, e1, h', e2, e⟩ := e
      split at e
      · rename_i hc
        obtain ⟨c1, c2, c3, c4⟩ := hc
        simp only [Option.some.injEq] at e; subst e
        have hcap : ∃ a cap, v = .slice a len cap ∧ len ≤ cap := by
          obtain ⟨a, cap, q1, q2, _⟩ := bor_win h (m := h') hx c1 c2 (Nat.le_refl _) c4
          exact ⟨a, cap, q1, q2⟩
        obtain ⟨a, cap, rfl, hlc⟩ := hcap
        obtain ⟨a', cap', q1, q2, q3⟩ := bor_win h (m := cap) hx c1 c2 (by omega) c4
        simp only [Value.slice.injEq, true_and] at q1
        obtain ⟨rfl, rfl⟩ := q1
        exact ⟨_, run_sliceAt_sl hu c3 (bounds2 hlo hhi e1 e2 c1 (by omega) hlc), q3 (Nat.le_refl _)⟩
      · cases e
    · rename_i el m hu
      have : ∃ y, mv = some y ∧ SO (cxOf A k.H.length ρ S fl w) k.get hd m y := by cases mv with | none => exact hmx.elim | some y => exact ⟨y, rfl, hmx⟩
      obtain ⟨y, rfl, hm⟩ := this
      simp only [Option.bind_eq_some_iff] at e
      obtain ⟨l, e1, h', e2, mm, e3, e⟩ := e
      split at e
      · rename_i hc
        obtain ⟨c1, c2, c3, c4, c5, c6⟩ := hc
        simp only [Option.some.injEq] at e; subst e
        obtain ⟨a, cap, rfl, q2, q3⟩ := bor_win h (m := mm) hx c1 (by omega) c2 c6
        exact ⟨_, run_sliceAt_sl hu c5 (bounds3 hlo hhi hm e1 e2 e3 c4 c1 c2 (by omega)), q3 (by omega)⟩
      · cases e
    · cases e
  · cases e

theorem lenE_ok (h : KR A ρ S hd fl k vals w) {t ty : TypeId} {x : SV} {v : Value} {n : Int} (hx : SO (cxOf A k.H.length ρ S fl w) k.get hd x v) (e : lenE P t k.H x = some n) : (Builtin.len_ #[t] ty #[v]).run P w = .ok (.int .i64 n) w := by
  unfold lenE at e
  split at e
  · split at e
    · rename_i hu
      simp only [Option.some.injEq] at e; subst e
      obtain ⟨a, rfl, rfl⟩ := VV.of_str hx
      simp [Builtin.len_, run_underlying hu, goInt]
    · cases e
  · split at e
    · rename_i hu
      simp only [Option.some.injEq] at e; subst e
      have hv' : v = .slice none 0 0 := by have := VV.inv hx (by simp); simpa [VC] using this
      subst hv'
      simp [Builtin.len_, run_underlying hu, goInt]
    · cases e
  · split at e
    · rename_i hu
      simp only [Option.some.injEq] at e; subst e
      have hv' := VV.inv hx (by simp)
      simp only [VC, List.cons.injEq, and_true] at hv'
      obtain ⟨a, len, cap, rfl, rfl, _⟩ := hv'
      simp [Builtin.len_, run_underlying hu, goInt]
    · cases e
  · split at e
    · rename_i hu
      simp only [Option.some.injEq] at e; subst e
      obtain ⟨_, a, rfl⟩ := hx
      simp [Builtin.len_, run_underlying hu, goInt]
    · cases e
  · split at e
    · rename_i hu
      simp only [Option.some.injEq] at e; subst e
      obtain ⟨t0, es, hh, b1, b2, b3, b4, b5⟩ := hx
      obtain ⟨a, mm, cap, a', cap', m1, rfl, m3, m4, m5⟩ := b5
      simp [Builtin.len_, run_underlying hu, goInt]
    · cases e
  · split at e
    · rename_i hu
      simp only [Option.some.injEq] at e; subst e
      have hv' : v = .map none := by have := VV.inv hx (by simp); simpa [VC] using this
      subst hv'
      simp [Builtin.len_, run_underlying hu, goInt]
    · cases e
  · rename_i o
    split at e
    · rename_i hu ho
      simp only [Option.some.injEq] at e; subst e
      have hv' := VV.inv hx (by simp)
      simp only [VC, List.cons.injEq, and_true] at hv'
      rw [hv'.2]
      obtain ⟨_, en, cl, m2, m3⟩ := h.map o _ ho
      have hl := m3.len
      have hb : w.heap[ρ o]? = some (.map en cl) := m2
      simp only [Array.length_toList] at hl
      simp [Builtin.len_, run_underlying hu, goInt, cxOf, getObj, Sem.run, hb, hl]
    · cases e
  · cases e
end

section
variable {P : Program} {c : Cx} {K : Root → Option T} {hd : Root → Value} {w : World}
theorem VCs.all2 : ∀ (l : List D) (cs : List Value), VCs c l cs → All2 (CO c K hd) (l.map .d) cs
  | [], cs, h => h
  | d :: ds, cs, h => by
    simp only [VCs] at h
    obtain ⟨v, r, rfl, h2, h3⟩ := h
    exact ⟨v, r, rfl, h2, VCs.all2 ds r h3⟩
theorem solid_cells {x : SV} {v : Value} (h : SO c K hd x v) (hs : x.solid = true) : All2 (CO c K hd) x.cells v.cells.toList ∧ v.cells.size = x.nc := by
  have one : ∀ (x : SV) (v : Value), SB c K hd x v → v.oneCell' = true → (∀ l, x ≠ .d (.agg l)) → x.cells = [x] → x.nc = 1 → All2 (CO c K hd) x.cells v.cells.toList ∧ v.cells.size = x.nc := fun x v h h1 h2 h3 h4 => by
    rw [h3, h4, cells_one h1]
    exact ⟨⟨v, [], rfl, CO.of_SB h h2, rfl⟩, rfl⟩
  cases x with
  | d y =>
    by_cases hy : ∃ l, y = .agg l
    · obtain ⟨l, rfl⟩ := hy
      obtain ⟨cs, rfl, h'⟩ := VV.inv_agg h
      exact ⟨VCs.all2 l _ h', by simpa [SV.nc, D.nc, Value.cells] using VCs.len _ _ h'⟩
    · have h1 := VV.inv h (fun l hl => hy ⟨l, hl⟩)
      refine one _ v h (VC.one _ _ h1) (fun l hl => by simp only [SV.d.injEq] at hl; exact hy ⟨l, hl⟩) ?_ ?_
      · cases y <;> first | rfl | exact absurd ⟨_, rfl⟩ hy
      · cases y <;> first | rfl | exact absurd ⟨_, rfl⟩ hy
  | agg l =>
    obtain ⟨cs, rfl, h⟩ := h
    exact ⟨h, by simpa [SV.nc, Value.cells] using h.len⟩
  | bor r p off len =>
    obtain ⟨t0, es, hh, b1, b2, b3, b4, b5⟩ := id h
    obtain ⟨a, mm, cap, a', cap', m1, rfl, m3, m4, m5⟩ := b5
    exact one _ _ h rfl (by simp) rfl rfl
  | loc r p i off =>
    obtain ⟨t0, es, g, n, cap, el', h1, h2, h3, h4, h5, rfl⟩ := id h
    exact one _ _ h rfl (by simp) rfl rfl
  | rp b cs =>
    obtain ⟨a, vs, rfl, _⟩ := id h
    exact one _ _ h rfl (by simp) rfl rfl
  | clip b l =>
    obtain ⟨_, a, rfl⟩ := id h
    exact one _ _ h rfl (by simp) rfl rfl
  | tup l => cases hs
  | dead => cases hs

theorem All2.drop {α β : Type} {R : α → β → Prop} : ∀ (n : Nat) {as : List α} {l : List β}, All2 R as l → All2 R (as.drop n) (l.drop n)
  | 0, _, _, h => by simpa using h
  | n + 1, [], _, h => by rw [show _ = [] from h]; simp [All2]
  | n + 1, a :: as, _, h => by
    obtain ⟨b, r, rfl, _, h3⟩ := h
    simpa using All2.drop n h3
theorem All2.take {α β : Type} {R : α → β → Prop} : ∀ (n : Nat) {as : List α} {l : List β}, All2 R as l → All2 R (as.take n) (l.take n)
  | 0, _, _, _ => by simp [All2]
  | n + 1, [], _, h => by rw [show _ = [] from h]; simp [All2]
  | n + 1, a :: as, _, h => by
    obtain ⟨b, r, rfl, h2, h3⟩ := h
    simp only [List.take_succ_cons]
    exact ⟨b, _, rfl, h2, All2.take n h3⟩
theorem fillE_ok {pl : Nat ⊕ List (Nat × Nat)} : ∀ (parts : List (Nat × SV)) (vs : List (Nat × Value)) (cs cs' : List SV) (cells : Array Value), All2 (fun (a : Nat × SV) (b : Nat × Value) => a.1 = b.1 ∧ SO c K hd a.2 b.2) parts vs →
    All2 (CO c K hd) cs cells.toList → fillE pl cs parts = some cs' → ∃ cells', Instr.fill (placeAt pl) cells vs = some cells' ∧ All2 (CO c K hd) cs' cells'.toList
  | [], vs, cs, cs', cells, hp, hc, e => by
    rw [show vs = [] from hp]
    simp only [fillE, Option.some.injEq] at e; subst e
    exact ⟨cells, rfl, hc⟩
  | (i, x) :: parts, vs, cs, cs', cells, hp, hc, e => by
    obtain ⟨⟨i', v⟩, r, rfl, ⟨hi, hv⟩, hr⟩ := hp
    simp only at hi hv
    subst hi
    simp only [fillE, Option.bind_eq_some_iff] at e
    obtain ⟨⟨o, n⟩, h1, e⟩ := e
    simp only at e
    split at e
    · rename_i hh
      obtain ⟨q1, q2⟩ := solid_cells hv hh.1
      have hl := hc.len
      simp only [Array.length_toList] at hl
      rw [fill_cons h1 (by rw [q2]; exact hh.2.1) (by omega)]
      refine fillE_ok parts r _ cs' _ hr ?_ e
      simp only
      exact ((hc.take o).append q1).append (hc.drop (o + n))
    · cases e
theorem buildE_ok {t : TypeId} {parts : List (Nat × SV)} {vs : List (Nat × Value)} {sv : SV} (hp : All2 (fun (a : Nat × SV) (b : Nat × Value) => a.1 = b.1 ∧ SO c K hd a.2 b.2) parts vs) (e : buildE P t parts = some sv) :
    ∃ u, (Instr.build t vs.toArray).run P w = .ok u w ∧ SO c K hd sv u := by
  unfold buildE at e
  split at e
  · rename_i z hz
    obtain ⟨i, zv, h1, h2, h3, _⟩ := zeroOf_ok hz
    obtain ⟨zc, rfl, hzc⟩ := VV.inv_agg (ofVal_ok (c := c) h3)
    simp only [Option.bind_eq_some_iff, Option.map_eq_some_iff] at e
    obtain ⟨pl, hpl, cs, hf, rfl⟩ := e
    obtain ⟨cells', f1, f2⟩ := fillE_ok parts vs _ cs zc hp (VCs.all2 _ _ hzc) hf
    refine ⟨.agg cells', run_build w t vs.toArray cells' ?_, by simpa using SV.mkAgg_ok f2⟩
    unfold placesOf at hpl
    split at hpl
    · rename_i fs hu
      simp only [Option.map_eq_some_iff] at hpl
      obtain ⟨ps, g1, rfl⟩ := hpl
      simp only [Program.built, h1, hu, h2, g1]
      have : (fun x => ps.toArray[x]?) = placeAt (.inr ps) := by funext j; simp [placeAt]
      rw [this]; simpa [Value.cells] using f1
    · rename_i n e hu
      simp only [Option.map_eq_some_iff] at hpl
      obtain ⟨ie, g1, rfl⟩ := hpl
      simp only [Program.built, h1, hu, h2, g1]
      exact f1
    · cases hpl
  · cases e
theorem SV.pures_VVs : ∀ (l : List SV) (ds : List D) (vs : List Value), SV.pures l = some ds → All2 (SO c K hd) l vs → VVs c ds vs
  | [], ds, vs, h, hv => by
    simp only [SV.pures, Option.some.injEq] at h; subst h
    exact hv
  | x :: l, ds, vs, h, hv => by
    obtain ⟨v, r, rfl, h1, h2⟩ := hv
    cases x with
    | d y =>
      simp only [SV.pures, Option.map_eq_some_iff] at h
      obtain ⟨ds', h3, rfl⟩ := h
      simp only [VVs]
      exact ⟨v, r, rfl, h1.1, h1.2, SV.pures_VVs l ds' r h3 h2⟩
    | _ => simp [SV.pures] at h
end
end Go.Am
