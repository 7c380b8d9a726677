/- The abstract machine: parts of structs, arrays, slices. -/
import Derived.Test.YtabkianhbgpfgaaAmPart
namespace Go.Am
open Go Go.RowKit
set_option linter.unusedSimpArgs false
set_option linter.unusedVariables false

theorem fieldOf_ok {P : Program} {t : TypeId} {f o n : Nat} {ag : Bool} (h : fieldOf P t f = some (o, n, ag)) : ∃ (fs : Array Field) (x : Field), P.underlying t = some (.struct fs) ∧ fs[f]? = some x ∧ o = x.offset ∧ n = P.cellsOf x.type ∧ aggO P x.type = some ag := by
  unfold fieldOf at h
  split at h
  · simp only [Option.bind_eq_some_iff, Option.map_eq_some_iff, Prod.mk.injEq] at h
    obtain ⟨x, h1, ag', h2, rfl, rfl, rfl⟩ := h
    exact ⟨_, x, ‹_›, h1, rfl, rfl, h2⟩
  · cases h
theorem add_add (a : Addr) (m n : Nat) (h : a.spot = none) : (a.add m).add n = a.add (m + n) := by
  obtain ⟨b, o, s⟩ := a
  simp only at h
  subst h
  rw [add_plain', add_plain', add_plain', Nat.add_assoc]
theorem add_spot (a : Addr) (m : Nat) (h : a.spot = none) : (a.add m).spot = none := by
  obtain ⟨b, o, s⟩ := a
  simp only at h
  subst h
  rw [add_plain']
theorem VC.cells {c : Cx} {x : D} {cs : List Value} (h : VC c x cs) : VCs c x.cells cs := by
  have hl := VC.len _ _ h
  cases x with
  | agg l => simpa [VC, D.cells] using h
  | _ =>
    simp only [D.nc] at hl
    match cs, hl with
    | [v], _ => simp only [D.cells, VCs]; exact ⟨v, [], rfl, h, rfl⟩
theorem VCs.drop {c : Cx} : ∀ (n : Nat) (l : List D) (cs : List Value), VCs c l cs → VCs c (l.drop n) (cs.drop n)
  | 0, _, _, h => by simpa using h
  | n + 1, [], _, h => by simp only [VCs] at h; subst h; simp [VCs]
  | n + 1, d :: ds, _, h => by
    simp only [VCs] at h
    obtain ⟨v, r, rfl, _, h3⟩ := h
    simpa using VCs.drop n ds r h3

section
variable {P : Program} {A : Av} {ρ : Nat → Nat} {S : Root → List Nat} {hd : Root → Value} {fl : List Nat} {k k' : Wk} {vals : List (SV × Value)} {w : World}

/-- further on in read-only cells -/
theorem SB.rp_drop {c : Cx} {K : Root → Option T} {b : Bool} {cs : List D} {a : Addr} (h : SB c K hd (.rp b cs) (.pointer (some a))) (n : Nat) : SB c K hd (.rp b (cs.drop n)) (.pointer (some (a.add n))) := by
  obtain ⟨a', vs, h1, h2, h3, h4, h5⟩ := h
  simp only [Value.pointer.injEq, Option.some.injEq] at h1
  subst h1
  refine ⟨_, vs.drop n, rfl, add_spot a n h2, by rw [add_block]; exact h3, fun j u hj => ?_, VCs.drop n _ _ h5⟩
  rw [List.getElem?_drop] at hj
  rw [add_add a n j h2]
  exact h4 _ u hj
/-- further on in an element -/
theorem loc_further (h : KR A ρ S hd fl k vals w) {r : Root} {p : Path} {i off off' : Nat} {v : Value} (hv : SB (cxOf A k.H.length ρ S fl w) k.get hd (.loc r p i off) v) (hl : locOk k r p i off' = true) (hle : off ≤ off') :
    ∃ a : Addr, v = .pointer (some a) ∧ a.spot = none ∧ SB (cxOf A k.H.length ρ S fl w) k.get hd (.loc r p i off') (.pointer (some (a.add (off' - off)))) := by
  obtain ⟨t, es, g, n, cap, el, h1, h2, h3, h4, h5, rfl⟩ := hv
  simp only [locOk, h1, Option.bind_some, h2, h4, decide_eq_true_eq] at hl
  refine ⟨_, rfl, rfl, t, es, g, n, cap, el, h1, h2, h3, h4, hl, ?_⟩
  rw [add_plain', show i * el.nc + off + (off' - off) = i * el.nc + off' by omega]
theorem locOk_get {r : Root} {p : Path} {i off : Nat} (hl : locOk k r p i off = true) : ∃ t, k.get r = some t := by
  unfold locOk at hl
  cases h : k.get r with
  | none => simp [h] at hl
  | some t => exact ⟨t, rfl⟩

theorem fieldAddrE_ok (h : KR A ρ S hd fl k vals w) {t : TypeId} {f : Nat} {u sv : SV} {v : Value} (hu : SO (cxOf A k.H.length ρ S fl w) k.get hd u v) (e : fieldAddrE P t u f k = some sv) :
    ∃ x, (Instr.fieldAt t v f).run P w = .ok x w ∧ SO (cxOf A k.H.length ρ S fl w) k.get hd sv x := by
  simp only [fieldAddrE, Option.bind_eq_some_iff] at e
  obtain ⟨⟨o, n, ag⟩, h1, e⟩ := e
  obtain ⟨fs, x, h2, h3, h4, h5, h6⟩ := fieldOf_ok h1
  simp only at e
  split at e
  · rename_i hn
    have hrun : ∀ a : Addr, (Instr.fieldAt t (.pointer (some a)) f).run P w = .ok (.pointer (some (a.add o))) w := fun a => by
      have : P.cellsOf x.type ≠ 0 := by omega
      simp [Instr.fieldAt, run_underlying h2, h3, Instr.sureAddr, fieldPlace, (run_isAgg h6 w).2, this, h4]
    split at e
    · rename_i r p i off hl
      split at e
      · rename_i hk
        simp only [Option.some.injEq] at e; subst e
        obtain ⟨t0, ht0⟩ := locOk_get hk
        obtain ⟨a, rfl, _, hs⟩ := loc_further h (asLoc_ok h hu hl ht0) hk (Nat.le_add_right _ _)
        rw [Nat.add_sub_cancel_left] at hs
        exact ⟨_, hrun a, hs⟩
      · cases e
    · rename_i b cs hl
      simp only [Option.some.injEq] at e; subst e
      have := asLoc_rp hl
      subst this
      obtain ⟨a, vs, rfl, _⟩ := id hu
      exact ⟨_, hrun a, SB.rp_drop (K := k.get) (hd := hd) hu o⟩
    · cases e
  · cases e

theorem run_sizeOf' {e : TypeId} (h : (P.info? e).isSome = true) : (sizeOf e).run P w = .ok (P.cellsOf e) w := by
  cases hi : P.info? e with
  | none => simp [hi] at h
  | some i => simp [sizeOf, typeInfo, hi, Program.cellsOf]
theorem info_of_pos {e : TypeId} (h : 0 < P.cellsOf e) : (P.info? e).isSome = true := by
  cases hi : P.info? e with
  | none => simp [Program.cellsOf, hi] at h
  | some i => rfl
theorem run_indexAt_sl {t e : TypeId} {a : Addr} {len cap : Nat} {q : IntKind} {n : Int} (hu : P.underlying t = some (.slice e)) (h0 : 0 ≤ n) (hn : n < len) (hi : (P.info? e).isSome = true) :
    (Instr.indexAt t (.slice (some a) len cap) (.int q n)).run P w = .ok (.pointer (some (a.add (n.toNat * P.cellsOf e)))) w := by
  simp [Instr.indexAt, asIntOf, run_underlying hu, h0, hn, run_sizeOf' hi]
theorem run_indexAt_arr {t e : TypeId} {a : Addr} {len : Nat} {q : IntKind} {n : Int} (hu : P.underlying t = some (.array len e)) (h0 : 0 ≤ n) (hn : n < len) (hi : (P.info? e).isSome = true) :
    (Instr.indexAt t (.pointer (some a)) (.int q n)).run P w = .ok (.pointer (some (a.add (n.toNat * P.cellsOf e)))) w := by
  simp [Instr.indexAt, asIntOf, run_underlying hu, h0, hn, run_sizeOf' hi, Instr.sureAddr]

/-- an element of pure data -/
theorem sl_elem {c : Cx} {K : Root → Option T} {b : Bool} {l : List D} {v : Value} (h : VC c (.sl b l) [v]) {n : Nat} {y : D} (hy : l[n]? = some y) :
    ∃ ad len cap, v = .slice (some ad) len cap ∧ len = l.length ∧ 0 < y.nc ∧ SB c K hd (.rp b y.cells) (.pointer (some (ad.add (n * y.nc)))) := by
  simp only [VC, List.cons.injEq, and_true] at h
  obtain ⟨a, len, cap, rfl, h2, h3, h4⟩ := h
  obtain ⟨ad, sz, rfl, h6, h7, h8, h9⟩ := h4 (by rintro rfl; simp at hy)
  obtain ⟨g1, cs, g2, g3⟩ := VE.get l ad 0 sz h9 n y hy
  refine ⟨ad, len, cap, rfl, h2, by omega, _, cs, rfl, add_spot _ _ h6, by rw [add_block]; exact h7, fun j u hj => ?_, VC.cells g3⟩
  rw [add_add _ _ _ h6, g1]
  simpa using g2 j u hj

theorem indexAddrE_ok (h : KR A ρ S hd fl k vals w) {t : TypeId} {u i sv : SV} {v iv : Value} (hu : SO (cxOf A k.H.length ρ S fl w) k.get hd u v) (hi : SO (cxOf A k.H.length ρ S fl w) k.get hd i iv) (e : indexAddrE P t u i k = some sv) :
    ∃ x, (Instr.indexAt t v iv).run P w = .ok x w ∧ SO (cxOf A k.H.length ρ S fl w) k.get hd sv x := by
  unfold indexAddrE at e
  split at e
  · rename_i q n
    rw [VV.of_int hi]
    split at e
    · rename_i el hel
      -- an element of pure data
      have pure : ∀ b l, VC (cxOf A k.H.length ρ S fl w) (.sl b l) [v] → (if 0 ≤ n then (l[n.toNat]?).bind fun y => if y.nc = P.cellsOf el then some (SV.rp b y.cells) else none else none) = some sv →
          ∃ x, (Instr.indexAt t v (.int q n)).run P w = .ok x w ∧ SO (cxOf A k.H.length ρ S fl w) k.get hd sv x := by
        intro b l hv e
        split at e
        · rename_i h0
          simp only [Option.bind_eq_some_iff] at e
          obtain ⟨y, hy, e⟩ := e
          split at e
          · rename_i hnc
            simp only [Option.some.injEq] at e; subst e
            obtain ⟨ad, len, cap, rfl, h2, h3, h4⟩ := sl_elem (K := k.get) (hd := hd) hv hy
            have hlt := (List.getElem?_eq_some_iff.1 hy).1
            refine ⟨_, run_indexAt_sl hel h0 (by omega) (info_of_pos (by omega)), ?_⟩
            rw [← hnc]; exact h4
          · cases e
        · cases e
      split at e
      · exact pure _ _ (VV.inv hu (by simp)) e
      · exact pure _ _ hu.1 e
      · rename_i r p off len
        split at e
        · rename_i hn
          obtain ⟨t0, es, h', b1, b2, b3, b4, b5⟩ := id hu
          simp only [b1, b2, Option.bind_some, Option.bind_eq_some_iff] at e
          obtain ⟨y, hy, e⟩ := e
          split at e
          · rename_i hnc
            simp only [Option.some.injEq] at e; subst e
            obtain ⟨a, m, cap, a', cap', m1, m2, m3, m4, m5⟩ := b5
            obtain ⟨g, el0, n1, n2, n3⟩ := m5 (by omega)
            subst m2; subst n3; subst n1; subst m1
            obtain ⟨h0, L, Sn, R, hS, foc⟩ := TC.focus p t0 (hd r) (S r) (.own es) (h.cont r t0 b1) b2
            have hh := NodeH.uniq p t0 (hd r) _ _ foc.node b3
            subst hh
            rcases foc.tc with ⟨a, _, k2, _⟩ | ⟨g', cap', cur, e, sz, S', k1, k2, k3, k4, k5, k6, k7, k8⟩
            · subst k2; simp at n2
            · have hu1 := (TE.len _ _ _ _ k8).2 el0 (List.mem_of_getElem? n2)
              have hu2 := (TE.len _ _ _ _ k8).2 y (List.mem_of_getElem? hy)
              have hsz : 0 < sz := Nat.pos_of_mul_pos_left k7
              refine ⟨_, run_indexAt_sl hel hn.1 hn.2 (info_of_pos (by omega)), t0, es, g, m, cap, y, b1, b2, b3, hy, by omega, ?_⟩
              rw [add_plain', hu1, ← hnc, hu2, Nat.add_mul]
              simp
          · cases e
        · cases e
      · cases e
    · rename_i len el hel
      split at e
      · rename_i r p j off hl
        split at e
        · rename_i hc
          simp only [Option.some.injEq] at e; subst e
          obtain ⟨t0, ht0⟩ := locOk_get hc.2.2.2
          obtain ⟨a, rfl, _, hs⟩ := loc_further h (asLoc_ok h hu hl ht0) hc.2.2.2 (Nat.le_add_right _ _)
          rw [Nat.add_sub_cancel_left] at hs
          exact ⟨_, run_indexAt_arr hel hc.1 hc.2.1 hc.2.2.1, hs⟩
        · cases e
      · rename_i b cs hl
        split at e
        · rename_i hc
          simp only [Option.some.injEq] at e; subst e
          have := asLoc_rp hl
          subst this
          obtain ⟨a, vs, rfl, _⟩ := id hu
          exact ⟨_, run_indexAt_arr hel hc.1 hc.2.1 hc.2.2, SB.rp_drop (K := k.get) (hd := hd) hu _⟩
        · cases e
      · cases e
    · cases e
  · cases e
end

section
variable {P : Program} {c : Cx} {K : Root → Option T} {hd : Root → Value} {w : World}
theorem CO.cell1 {x sv : SV} {v : Value} (h : CO c K hd x v) (e : Go.Am.cell1 x = some sv) : SO c K hd sv v := by
  cases x with
  | d y =>
    by_cases hy : ∃ l, y = .agg l
    · obtain ⟨l, rfl⟩ := hy; simp [Go.Am.cell1] at e
    · have : Go.Am.cell1 (.d y) = some (.d y) := by cases y <;> first | rfl | exact absurd ⟨_, rfl⟩ hy
      rw [this] at e
      simp only [Option.some.injEq] at e; subst e
      exact VV.one h (fun l hl => hy ⟨l, hl⟩)
  | agg l => exact False.elim h
  | tup l => exact False.elim h
  | _ => simp only [Go.Am.cell1, Option.some.injEq] at e; subst e; exact h
theorem extract_win (cs : Array Value) (o n : Nat) : (cs.extract o (o + n)).toList = win cs.toList o n := by
  simp [win, Array.toList_extract, List.extract_eq_take_drop]
theorem fieldE_ok {t : TypeId} {f : Nat} {u sv : SV} {v : Value} (hu : SO c K hd u v) (e : fieldE P t u f = some sv) :
    ∃ x, (Instr.field t v f).run P w = .ok x w ∧ SO c K hd sv x := by
  simp only [fieldE, Option.bind_eq_some_iff] at e
  obtain ⟨⟨o, n, ag⟩, h1, e⟩ := e
  obtain ⟨fs, x, h2, h3, h4, h5, h6⟩ := fieldOf_ok h1
  simp only at e
  have hrun : ∀ (cs : Array Value), (Instr.field t (.agg cs) f).run P w = (part x.type cs o).run P w := fun cs => by
    simp [Instr.field, run_underlying h2, h3, asAgg, h4]
  split at e
  · rename_i l
    obtain ⟨cs, rfl, hv⟩ := VV.inv_agg hu
    rw [hrun]
    split at e
    · rename_i hag
      subst hag
      split at e
      · rename_i hle
        simp only [Option.some.injEq] at e; subst e
        refine ⟨_, run_part_agg h6, VV.agg ?_⟩
        rw [extract_win, ← h5]
        exact VCs.win l _ hv o n
      · cases e
    · rename_i hag
      have hag : ag = false := by simpa using hag
      subst hag
      simp only [Option.bind_eq_some_iff] at e
      obtain ⟨y, hy, e⟩ := e
      obtain ⟨rfl, hne⟩ := D.sv1_ok e
      obtain ⟨z, g1, g2⟩ := VCs.get l _ hv o y hy
      exact ⟨z, run_part_one h6 (by simpa using g1), VV.one g2 hne⟩
  · rename_i l
    obtain ⟨cs, rfl, hv⟩ := hu
    rw [hrun]
    unfold partE at e
    split at e
    · rename_i hag
      subst hag
      split at e
      · rename_i hle
        simp only [Option.some.injEq] at e; subst e
        refine ⟨_, run_part_agg h6, ?_⟩
        have := SV.mkAgg_ok (hv.win o n)
        rw [← h5]
        rw [← extract_win, Array.toArray_toList] at this
        exact this
      · cases e
    · rename_i hag
      have hag : ag = false := by simpa using hag
      subst hag
      simp only [Option.bind_eq_some_iff] at e
      obtain ⟨y, hy, e⟩ := e
      obtain ⟨z, g1, g2⟩ := hv.get hy
      exact ⟨z, run_part_one h6 (by simpa using g1), g2.cell1 e⟩
  · cases e
theorem indexE_ok {t : TypeId} {u i sv : SV} {v iv : Value} (hu : SO c K hd u v) (hi : SO c K hd i iv) (e : indexE P t u i = some sv) :
    ∃ x, (Instr.index t v iv).run P w = .ok x w ∧ SO c K hd sv x := by
  unfold indexE at e
  split at e
  · rename_i q n
    rw [VV.of_int hi]
    split at e
    · rename_i s
      split at e
      · rename_i hs
        split at e
        · rename_i h0
          simp only [Option.map_eq_some_iff] at e
          obtain ⟨b, hb, rfl⟩ := e
          obtain ⟨a, rfl, rfl⟩ := VV.of_str hu
          have hlt : n.toNat < a.size := by
            have := (List.getElem?_eq_some_iff.1 hb).1
            simpa using this
          refine ⟨.int .u8 b.toNat, ?_, VV.mk_int _ _⟩
          rw [run_index_string w t a q n hs, dif_pos ⟨h0, by omega⟩]
          have : a[n.toNat]'hlt = b := by
            have := (List.getElem?_eq_some_iff.1 hb).2
            rw [Array.getElem_toList] at this
            exact this
          rw [this]
        · cases e
      · cases e
    · rename_i l
      obtain ⟨cs, rfl, hv⟩ := VV.inv_agg hu
      split at e
      · rename_i len el hel
        split at e
        · rename_i hn
          simp only [Option.bind_eq_some_iff] at e
          obtain ⟨ag, hag, e⟩ := e
          have hrun : (Instr.index t (.agg cs) (.int q n)).run P w = (part el cs (n.toNat * P.cellsOf el)).run P w := by
            simp [Instr.index, asIntOf, run_underlying hel, hn.1, hn.2.1, run_sizeOf' (info_of_pos hn.2.2)]
          rw [hrun]
          split at e
          · rename_i hag'
            subst hag'
            split at e
            · simp only [Option.some.injEq] at e; subst e
              refine ⟨_, run_part_agg hag, VV.agg ?_⟩
              rw [extract_win]
              exact VCs.win l _ hv _ _
            · cases e
          · rename_i hag'
            have hag' : ag = false := by simpa using hag'
            subst hag'
            simp only [Option.bind_eq_some_iff] at e
            obtain ⟨y, hy, e⟩ := e
            obtain ⟨rfl, hne⟩ := D.sv1_ok e
            obtain ⟨z, g1, g2⟩ := VCs.get l _ hv _ y hy
            exact ⟨z, run_part_one hag (by simpa using g1), VV.one g2 hne⟩
        · cases e
      · cases e
    · cases e
  · cases e
end
end Go.Am
