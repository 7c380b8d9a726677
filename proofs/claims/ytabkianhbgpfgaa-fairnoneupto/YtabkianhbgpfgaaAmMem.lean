/- The abstract machine: loads and stores, held against the model's own. -/
import Derived.Test.YtabkianhbgpfgaaAmAbsorb
namespace Go.Am
open Go

theorem info_of_underlying {P : Program} {t : TypeId} {d : TypeDesc} (h : P.underlying t = some d) : ∃ i, P.info? t = some i := by
  unfold Program.underlying at h
  cases hi : P.info? t with
  | none => rw [hi] at h; cases h
  | some i => exact ⟨i, rfl⟩
theorem run_sizeOf {P : Program} {t : TypeId} {d : TypeDesc} (h : P.underlying t = some d) (w : World) : (sizeOf t).run P w = .ok (P.cellsOf t) w := by
  obtain ⟨i, hi⟩ := info_of_underlying h
  simp [sizeOf, typeInfo, hi, Program.cellsOf]
theorem run_isAgg {P : Program} {t : TypeId} {b : Bool} (h : aggO P t = some b) (w : World) : (isAgg t).run P w = .ok b w ∧ (sizeOf t).run P w = .ok (P.cellsOf t) w := by
  unfold aggO at h
  cases hu : P.underlying t with
  | none => rw [hu] at h; cases h
  | some d =>
    rw [hu] at h
    refine ⟨?_, run_sizeOf hu w⟩
    simp only [isAgg, Sem.run_bind, run_underlying hu, Result.andThen_ok]
    cases d <;> simp_all
theorem run_loadVar_agg {P : Program} {t : TypeId} {w : World} {a : Addr} {cs : List Value} (h : aggO P t = some true) (hn : cs.length = P.cellsOf t) (hc : ∀ j u, cs[j]? = some u → w.cell? (a.add j) = some u) :
    (loadVar t a).run P w = .ok (.agg cs.toArray) w := by
  obtain ⟨h1, h2⟩ := run_isAgg h w
  have h3 := run_loadCells_list (P := P) w a cs hc
  rw [hn] at h3
  simp only [loadVar, Sem.run_bind, h1, Result.andThen_ok, if_true, h2, h3, Sem.run_pure]
theorem run_loadVar_one {P : Program} {t : TypeId} {w : World} {a : Addr} {v : Value} (h : aggO P t = some false) (hc : w.cell? a = some v) :
    (loadVar t a).run P w = .ok v w := by
  obtain ⟨h1, _⟩ := run_isAgg h w
  simp only [loadVar, Sem.run_bind, h1, Result.andThen_ok, Bool.false_eq_true, if_false, run_load, hc]

theorem T.at_append : ∀ (p q : Path) (t : T), t.at (p ++ q) = (t.at p).bind (·.at q)
  | [], q, t => rfl
  | (i, off) :: p, q, t => by
    cases t with
    | own es =>
      simp only [List.cons_append, T.at, Option.bind_assoc]
      congr 1; funext e; congr 1; funext c
      exact T.at_append p q c
    | _ => simp [T.at]
theorem NodeH.append {c : Cx} : ∀ (p q : Path) (t nd : T) (h h1 h2 : Value), t.at p = some nd → NodeH c h t p h1 → NodeH c h1 nd q h2 → NodeH c h t (p ++ q) h2
  | [], q, t, nd, h, h1, h2, ha, hn, hq => by
    simp only [T.at, Option.some.injEq] at ha
    simp only [NodeH] at hn
    subst ha; subst hn
    exact hq
  | (i, off) :: p, q, t, nd, h, h1, h2, ha, hn, hq => by
    cases t with
    | own es =>
      simp only [T.at, Option.bind_eq_some_iff] at ha
      obtain ⟨e0, he, c0, hc, ha⟩ := ha
      simp only [List.cons_append, NodeH] at hn ⊢
      obtain ⟨g, len, cap, cur, e, el, ct, cv, n1, n2, n3, n4, n5, n6⟩ := hn
      rw [he] at n3
      simp only [Option.some.injEq] at n3
      subst n3
      rw [hc] at n4
      simp only [Option.some.injEq] at n4
      subst n4
      exact ⟨g, len, cap, cur, e, e0, c0, cv, n1, n2, he, hc, n5, NodeH.append p q c0 nd cv h1 h2 ha n6 hq⟩
    | _ => simp [T.at] at ha

section
variable {P : Program} {A : Av} {ρ : Nat → Nat} {S : Root → List Nat} {hd : Root → Value} {fl : List Nat} {k k' : Wk} {vals : List (SV × Value)} {w : World}

/-- a place: its row's block, and the cells of its element -/
structure Place (c : Cx) (t : T) (h : Value) (Sr : List Nat) (p : Path) (i off : Nat) (v : Value) (es : List T) (el : T) (g cap : Nat) (cur : Array Value) (e : TypeId) (sz : Nat) (c1 : List Value) (L Sn R L1 Se R1 : List Nat) : Prop where
  foc : Focus c t h p (.own es) (.slice (some ⟨g, 0, none⟩) es.length cap) L Sn R
  hS : Sr = L ++ Sn ++ R
  hSn : Sn = g :: (L1 ++ Se ++ R1)
  hel : es[i]? = some el
  hoff : off < el.nc
  hv : v = .pointer (some ⟨g, i * sz + off, none⟩)
  hg : c.w.heap[g]? = some (.cells cur e (0, 0))
  hle : es.length ≤ cap
  hcap : cap ≤ maxLen
  hcur : cap * sz ≤ cur.size
  hsz : 0 < sz
  hnc : el.nc = sz
  hc1 : c1.length = sz
  hcs : cur.toList.take (es.length * sz) = (cur.toList.take (es.length * sz)).take (i * sz) ++ c1 ++ (cur.toList.take (es.length * sz)).drop (i * sz + sz)
  hci : ((cur.toList.take (es.length * sz)).take (i * sz)).length = i * sz
  hte : TC c el c1 Se
  hL1 : TE c (es.take i) sz ((cur.toList.take (es.length * sz)).take (i * sz)) L1
  hR1 : TE c (es.drop (i + 1)) sz ((cur.toList.take (es.length * sz)).drop (i * sz + sz)) R1

theorem place_ok {c : Cx} {K : Root → Option T} {r : Root} {p : Path} {i off : Nat} {v : Value} {S : Root → List Nat} (hc : ∀ t, K r = some t → TC c t [hd r] (S r)) (h : SB c K hd (.loc r p i off) v) :
    ∃ t es el g cap cur e sz c1 L Sn R L1 Se R1, K r = some t ∧ t.at p = some (.own es) ∧ Place c t (hd r) (S r) p i off v es el g cap cur e sz c1 L Sn R L1 Se R1 := by
  obtain ⟨t, es, g, n, cap, el, h1, h2, h3, h4, h5, h6⟩ := h
  obtain ⟨h0, L, Sn, R, hS, foc⟩ := TC.focus p t (hd r) (S r) (.own es) (hc t h1) h2
  have hh : h0 = .slice (some ⟨g, 0, none⟩) n cap := NodeH.uniq p t (hd r) _ _ foc.node h3
  subst hh
  rcases foc.tc with ⟨a, _, k2, _⟩ | ⟨g', cap', cur, e, sz, S', k1, k2, k3, k4, k5, k6, k7, k8⟩
  · subst k2; simp at h4
  · simp only [List.cons.injEq, Value.slice.injEq, Option.some.injEq, Addr.mk.injEq, and_true] at k1
    obtain ⟨rfl, rfl, rfl⟩ := k1
    obtain ⟨c1, L1, Se, R1, m1, m2, m3, m4, m5, m6, m7⟩ := TE.get k8 h4
    have hnc : el.nc = sz := by rw [← TC.len _ _ _ m5, m1]
    exact ⟨t, es, el, g, cap, cur, e, sz, c1, L, Sn, R, L1, Se, R1, h1, h2, ⟨foc, hS, by rw [k2, m4], h4, h5, by rw [h6, hnc], k3, k4, k5, k6, Nat.pos_of_mul_pos_left k7, hnc, m1, m2, m3, m5, m6, m7⟩⟩

theorem Place.cell {c : Cx} {t : T} {h : Value} {Sr : List Nat} {p : Path} {i off : Nat} {v : Value} {es : List T} {el : T} {g cap : Nat} {cur : Array Value} {e : TypeId} {sz : Nat} {c1 : List Value} {L Sn R L1 Se R1 : List Nat}
    (pl : Place c t h Sr p i off v es el g cap cur e sz c1 L Sn R L1 Se R1) {j : Nat} {u : Value} (hj : c1[j]? = some u) : cur[i * sz + j]? = some u ∧ c.w.cell? ⟨g, i * sz + j, none⟩ = some u := by
  have := cell_in pl.hcs pl.hci hj
  exact ⟨this, by simp [World.cell?, pl.hg, this]⟩

theorem D.sv1_ok {x : D} {sv : SV} (h : x.sv1 = some sv) : sv = .d x ∧ ∀ l, x ≠ .agg l := by
  cases x <;> simp_all [D.sv1]
theorem T.cells_cell {t ct : T} {off : Nat} (h : t.cells[off]? = some ct) : t.cell off = some ct := by
  have one : t.cells = [t] → (∀ l, t ≠ .agg l) → (∀ l, t ≠ .d (.agg l)) → t.cell off = some ct := fun hc h1 h2 => by
    rw [hc] at h
    cases off with
    | zero =>
      simp only [List.getElem?_cons_zero, Option.some.injEq] at h
      subst h
      cases t with
      | agg l => exact absurd rfl (h1 l)
      | d x => cases x <;> first | rfl | exact absurd rfl (h2 _)
      | _ => rfl
    | succ n => simp at h
  cases t with
  | agg cs => simpa [T.cells, T.cell] using h
  | d x => cases x <;> first | (exact one rfl (by simp) (by simp)) | simpa [T.cells, T.cell] using h
  | own es0 => exact one rfl (by simp) (by simp)
  | dead => exact one rfl (by simp) (by simp)
/-- a cell of a tree, as a slot's value -/
theorem cellSV_ok {c : Cx} {K : Root → Option T} {r : Root} {t : T} {p : Path} {i off : Nat} {v : Value} {es : List T} {el ct : T} {g cap : Nat} {cur : Array Value} {e : TypeId} {sz : Nat} {c1 : List Value} {L Sn R L1 Se R1 : List Nat} {Sr : List Nat}
    (hK : K r = some t) (hat : t.at p = some (.own es)) {o : Nat} (pl : Place c t (hd r) Sr p i o v es el g cap cur e sz c1 L Sn R L1 Se R1) (hct : el.cells[off]? = some ct) {sv : SV} (hsv : cellSV r p i off ct = some sv) :
    ∃ u, c1[off]? = some u ∧ CO c K hd sv u ∧ u.oneCell' = true := by
  obtain ⟨u, L2, Sc, R2, m1, m2, m3, m4, m5⟩ := TCs.get pl.hte.cells hct
  refine ⟨u, m1, ?_, TC.ones _ _ _ m3 u (by simp)⟩
  cases ct with
  | d x =>
    simp only [TC] at m3
    obtain ⟨rfl, _⟩ := D.sv1_ok hsv
    exact m3.2
  | own es' =>
    simp only [cellSV, Option.some.injEq] at hsv
    subst hsv
    have hcell : el.cell off = some (.own es') := T.cells_cell hct
    have hnode : NodeH c (.slice (some ⟨g, 0, none⟩) es.length cap) (.own es) [(i, off)] u := by
      simp only [NodeH]
      exact ⟨g, es.length, cap, cur, e, el, .own es', u, rfl, pl.hg, pl.hel, hcell, by rw [pl.hnc]; exact (pl.cell m1).1, rfl⟩
    refine ⟨t, es', u, hK, by rw [T.at_append, hat]; simp [T.at, pl.hel, hcell], NodeH.append p _ t _ _ _ _ hat pl.foc.node hnode, by omega, ?_⟩
    rcases m3 with ⟨a, k1, k2, _⟩ | ⟨g', cap', cur', e', sz', S', k1, k2, k3, k4, k5, k6, k7, k8⟩
    · simp only [List.cons.injEq, and_true] at k1
      subst k2
      exact ⟨a, 0, 0, a, 0, k1, by simpa using k1, Nat.le_refl _, fun _ => ⟨rfl, Nat.le_refl _⟩, fun h0 => by simp at h0⟩
    · simp only [List.cons.injEq, and_true] at k1
      refine ⟨_, es'.length, cap', _, cap', k1, k1, k4, fun _ => ⟨rfl, Nat.le_refl _⟩, fun h0 => ?_⟩
      exact ⟨g', es'[0], rfl, by simp, by simp⟩
  | agg l => simp [cellSV] at hsv
  | dead => simp [cellSV] at hsv

theorem cellsSV_ok {c : Cx} {K : Root → Option T} {r : Root} {t : T} {p : Path} {i o : Nat} {v : Value} {es : List T} {el : T} {g cap : Nat} {cur : Array Value} {e : TypeId} {sz : Nat} {c1 : List Value} {L Sn R L1 Se R1 : List Nat} {Sr : List Nat}
    (hK : K r = some t) (hat : t.at p = some (.own es)) (pl : Place c t (hd r) Sr p i o v es el g cap cur e sz c1 L Sn R L1 Se R1) : ∀ (cs : List T) (off : Nat) (svs : List SV), (∀ (j : Nat) (x : T), cs[j]? = some x → el.cells[off + j]? = some x) → cellsSV r p i off cs = some svs →
    All2 (CO c K hd) svs (win c1 off cs.length)
  | [], off, svs, _, h => by
    simp only [cellsSV, Option.some.injEq] at h
    subst h
    simp [win, All2]
  | ct :: cs, off, svs, hc, h => by
    simp only [cellsSV, Option.bind_eq_some_iff, Option.map_eq_some_iff] at h
    obtain ⟨sv, h1, svs', h2, rfl⟩ := h
    obtain ⟨u, m1, m2, _⟩ := cellSV_ok hK hat pl (by simpa using hc 0 ct rfl) h1
    have ih := cellsSV_ok hK hat pl cs (off + 1) svs' (fun j x hj => by have := hc (j + 1) x (by simpa using hj); rwa [show off + (j + 1) = off + 1 + j by omega] at this) h2
    have hlt := (List.getElem?_eq_some_iff.1 m1).1
    refine ⟨u, win c1 (off + 1) cs.length, ?_, m2, ih⟩
    simp only [win, List.length_cons]
    obtain ⟨_, hx⟩ := List.getElem?_eq_some_iff.1 m1
    rw [List.drop_eq_getElem_cons hlt, List.take_succ_cons, hx]

theorem SV.pures_ok {c : Cx} {K : Root → Option T} : ∀ (l : List SV) (ds : List D) (vs : List Value), SV.pures l = some ds → All2 (CO c K hd) l vs → VCs c ds vs
  | [], ds, vs, h, ha => by
    simp only [SV.pures, Option.some.injEq] at h
    subst h
    rw [show vs = [] from ha]
    simp [VCs]
  | u :: l, ds, vs, h, ha => by
    cases u with
    | d x =>
      simp only [SV.pures, Option.map_eq_some_iff] at h
      obtain ⟨r, h1, rfl⟩ := h
      obtain ⟨v, q, rfl, h2, h3⟩ := ha
      simp only [VCs]
      exact ⟨v, q, rfl, h2, SV.pures_ok l r q h1 h3⟩
    | _ => simp [SV.pures] at h
theorem SV.mkAgg_ok {c : Cx} {K : Root → Option T} {l : List SV} {vs : List Value} (h : All2 (CO c K hd) l vs) : SO c K hd (SV.mkAgg l) (.agg vs.toArray) := by
  unfold SV.mkAgg
  split
  · rename_i ds hds
    exact VV.agg (by simpa using SV.pures_ok l ds vs hds h)
  · exact ⟨_, rfl, by simpa using h⟩

theorem asLoc_ok (h : KR A ρ S hd fl k vals w) {u : SV} {v : Value} (hu : SO (cxOf A k.H.length ρ S fl w) k.get hd u v) {r : Root} {p : Path} {i off : Nat} {t0 : T} (hl : asLoc u = .loc r p i off) (hc : k.get r = some t0) : SB (cxOf A k.H.length ρ S fl w) k.get hd (.loc r p i off) v := by
  by_cases hp : ∃ n, u = .d (.ptr n)
  · obtain ⟨n, rfl⟩ := hp
    simp only [asLoc, SV.loc.injEq] at hl
    obtain ⟨rfl, rfl, rfl, rfl⟩ := hl
    have hb : ∃ c, k.H[n]? = some (.box c) ∧ t0 = .own [c] := by
      simp only [Wk.get, cont] at hc
      cases hH : k.H[n]? with
      | none => rw [hH] at hc; cases hc
      | some x =>
        rw [hH] at hc
        cases x with
        | box c => simp only [Option.some.injEq] at hc; exact ⟨c, rfl, hc.symm⟩
        | map es => cases hc
        | lock => cases hc
    obtain ⟨c, hH, rfl⟩ := hb
    have hv : VC (cxOf A k.H.length ρ S fl w) (.ptr n) [v] := VV.inv hu (by simp)
    simp only [VC, List.cons.injEq, and_true] at hv
    have hnc : 0 < c.nc := by
      rcases h.cont _ _ hc with ⟨a, _, k2, _⟩ | ⟨g', cap', cur, e, sz, S', k1, k2, k3, k4, k5, k6, k7, k8⟩
      · cases k2
      · rw [(TE.len _ _ _ _ k8).2 c (by simp)]; exact Nat.pos_of_mul_pos_left k7
    refine ⟨.own [c], [c], ρ n, 1, 1, c, hc, rfl, by rw [h.obj]; rfl, rfl, hnc, by simpa [cxOf] using hv.2⟩
  · have : asLoc u = u := by
      cases u with
      | d x => cases x <;> first | rfl | exact absurd ⟨_, rfl⟩ hp
      | _ => rfl
    rw [this] at hl
    subst hl
    exact hu
theorem asLoc_rp {u : SV} {b : Bool} {cs : List D} (hl : asLoc u = .rp b cs) : u = .rp b cs := by
  cases u with
  | d x => cases x <;> simp [asLoc] at hl
  | rp b' cs' => exact hl
  | _ => simp [asLoc] at hl

theorem win_length {α : Type} (l : List α) (o n : Nat) (h : o + n ≤ l.length) : (win l o n).length = n := by simp only [win, List.length_take, List.length_drop]; omega
theorem win_get {α : Type} {l : List α} {o n j : Nat} {x : α} (h : (win l o n)[j]? = some x) : l[o + j]? = some x := by
  simp only [win, List.getElem?_take, List.getElem?_drop] at h
  split at h
  · exact h
  · cases h

theorem loadE_ok (h : KR A ρ S hd fl k vals w) {t : TypeId} {u sv : SV} {v : Value} (hu : SO (cxOf A k.H.length ρ S fl w) k.get hd u v) (e : loadE P t u k = some sv) :
    ∃ val, (Instr.loadAt t v).run P w = .ok val w ∧ SO (cxOf A k.H.length ρ S fl w) k.get hd sv val := by
  unfold loadE at e
  split at e
  · rename_i r p i off hl
    simp only [Option.bind_eq_some_iff] at e
    obtain ⟨t0, hc, nd, hat, e⟩ := e
    split at e
    · rename_i es
      simp only [Option.bind_eq_some_iff] at e
      obtain ⟨el, hel, ag, hag, e⟩ := e
      obtain ⟨t1, es1, el1, g, cap, cur, ty, sz, c1, L, Sn, R, L1, Se, R1, q1, q2, pl⟩ := place_ok (fun t => h.cont r t) (asLoc_ok h hu hl hc)
      rw [hc] at q1
      simp only [Option.some.injEq] at q1
      subst q1
      rw [hat] at q2
      simp only [Option.some.injEq, T.own.injEq] at q2
      subst q2
      have := pl.hel
      rw [hel] at this
      simp only [Option.some.injEq] at this
      subst this
      have hv := pl.hv
      subst hv
      simp only [Instr.loadAt, Instr.sureAddr, Sem.run_bind, Sem.run_pure, Result.andThen_ok]
      have rd : ∀ (n : Nat) (j : Nat) (x : Value), (win c1 off n)[j]? = some x → w.cell? ((⟨g, i * sz + off, none⟩ : Addr).add j) = some x := fun n j x hj => by
        rw [add_plain', Nat.add_assoc]
        exact (pl.cell (win_get hj)).2
      cases ag with
      | true =>
        simp only [if_true] at e
        split at e
        · rename_i l
          split at e
          · rename_i hle
            simp only [Option.some.injEq] at e
            subst e
            have hte := pl.hte
            simp only [TC, VC] at hte
            have hlen := VCs.len _ _ hte.2
            refine ⟨_, run_loadVar_agg (cs := win c1 off (P.cellsOf t)) hag (win_length _ _ _ (by omega)) (rd _), ?_⟩
            exact VV.agg (by simpa using VCs.win l c1 hte.2 off (P.cellsOf t))
          · cases e
        · rename_i cs
          split at e
          · rename_i hle
            simp only [Option.map_eq_some_iff] at e
            obtain ⟨svs, e1, rfl⟩ := e
            have hlen := TCs.len _ _ _ (show TCs _ cs c1 Se from pl.hte)
            have a2 := cellsSV_ok (K := k.get) hc hat pl _ off svs (fun j x hj => by
              have := win_get hj
              simpa [T.cells] using this) e1
            rw [win_length cs _ _ (by omega)] at a2
            exact ⟨_, run_loadVar_agg (cs := win c1 off (P.cellsOf t)) hag (win_length _ _ _ (by omega)) (rd _), SV.mkAgg_ok a2⟩
          · cases e
        · cases e
      | false =>
        simp only [Bool.false_eq_true, if_false, Option.bind_eq_some_iff] at e
        obtain ⟨ct, hct, e⟩ := e
        obtain ⟨x, m1, m2, m3⟩ := cellSV_ok (K := k.get) hc hat pl (T.cell_cells hct) e
        refine ⟨x, run_loadVar_one hag (pl.cell m1).2, ?_⟩
        cases ct with
        | d y =>
          obtain ⟨rfl, hy⟩ := D.sv1_ok e
          exact VV.one m2 hy
        | own es' => simp only [cellSV, Option.some.injEq] at e; subst e; exact m2
        | agg l => simp [cellSV] at e
        | dead => simp [cellSV] at e
    · cases e
  · rename_i b cs hl
    have hl' := asLoc_rp hl
    subst hl'
    simp only [Option.bind_eq_some_iff] at e
    obtain ⟨ag, hag, e⟩ := e
    obtain ⟨a, vs, rfl, h2, h3, h4, h5⟩ := hu
    have hlen := VCs.len _ _ h5
    simp only [Instr.loadAt, Instr.sureAddr, Sem.run_bind, Sem.run_pure, Result.andThen_ok]
    cases ag with
    | true =>
      simp only [if_true] at e
      split at e
      · rename_i hle
        simp only [Option.some.injEq] at e
        subst e
        refine ⟨_, run_loadVar_agg (cs := vs.take (P.cellsOf t)) hag (by simp; omega) (fun j x hj => h4 j x ?_), ?_⟩
        · rw [List.getElem?_take] at hj
          split at hj
          · exact hj
          · cases hj
        · have := VCs.win cs vs h5 0 (P.cellsOf t)
          simp only [win, List.drop_zero] at this
          exact VV.agg (by simpa using this)
      · cases e
    | false =>
      simp only [Bool.false_eq_true, if_false, Option.bind_eq_some_iff] at e
      obtain ⟨x, hx, e⟩ := e
      obtain ⟨rfl, hy⟩ := D.sv1_ok e
      obtain ⟨y, m1, m2⟩ := VCs.get cs vs h5 0 x hx
      exact ⟨y, run_loadVar_one hag (by have := h4 0 y m1; simpa [Addr.add, cxOf] using this), VV.one m2 hy⟩
  · cases e

theorem isOwn_of {el ct : T} {b : Nat} {q : Path} {es : List T} (h1 : el.cell b = some ct) (h2 : ct.at q = some (.own es)) : isOwn el = true := by
  have : ∃ l, ct = .own l := by
    cases ct with
    | own l => exact ⟨l, rfl⟩
    | d x => cases q <;> simp [T.at] at h2
    | agg l => cases q <;> simp [T.at] at h2
    | dead => cases q <;> simp [T.at] at h2
  obtain ⟨l, rfl⟩ := this
  cases el with
  | own l' => rfl
  | agg cs =>
    simp only [T.cell] at h1
    simp only [isOwn, List.any_eq_true]
    exact ⟨_, List.mem_of_getElem? h1, rfl⟩
  | d x => cases x <;> simp [T.cell] at h1
  | dead => simp [T.cell] at h1

theorem seg_replace {X c1 vs : List Value} {a sz off N : Nat} (hN : X.take N = (X.take N).take a ++ c1 ++ (X.take N).drop (a + sz)) (ha : ((X.take N).take a).length = a) (h1 : c1.length = sz) (hf : off + vs.length ≤ sz) :
    (X.take (a + off) ++ vs ++ X.drop (a + off + vs.length)).take N = (X.take N).take a ++ (c1.take off ++ vs ++ c1.drop (off + vs.length)) ++ (X.take N).drop (a + sz) := by
  have hlen := congrArg List.length hN
  simp only [List.length_append, List.length_take, List.length_drop] at hlen ha
  have hc : ∀ j, j < sz → c1[j]? = X[a + j]? := fun j hj => by
    have e1 : (X.take N)[a + j]? = c1[j]? := by
      rw [hN, List.append_assoc, List.getElem?_append_right (by simp; omega)]
      simp only [List.length_take]
      rw [show a + j - min a (min N X.length) = j by omega, List.getElem?_append_left (by omega)]
    rw [← e1, List.getElem?_take, if_pos (by omega)]
  apply List.ext_getElem?
  intro j
  by_cases h0 : j < a
  · rw [List.getElem?_take, if_pos (by omega), List.append_assoc, List.getElem?_append_left (by simp; omega), List.append_assoc, List.getElem?_append_left (by simp; omega)]
    simp only [List.getElem?_take]
    rw [if_pos (by omega), if_pos h0, if_pos (by omega)]
  · by_cases h2 : j < a + sz
    · have hr : ((X.take N).take a ++ (c1.take off ++ vs ++ c1.drop (off + vs.length)) ++ (X.take N).drop (a + sz))[j]? = (c1.take off ++ vs ++ c1.drop (off + vs.length))[j - a]? := by
        rw [List.append_assoc, List.getElem?_append_right (by simp; omega)]
        simp only [List.length_take]
        rw [show j - min a (min N X.length) = j - a by omega, List.getElem?_append_left (by simp; omega)]
      rw [hr, List.getElem?_take, if_pos (by omega)]
      by_cases h3 : j < a + off
      · rw [List.append_assoc, List.getElem?_append_left (by simp; omega), List.append_assoc, List.getElem?_append_left (by simp; omega)]
        simp only [List.getElem?_take]
        rw [if_pos h3, if_pos (by omega), hc _ (by omega)]
        congr 1; omega
      · by_cases h4 : j < a + off + vs.length
        · rw [List.append_assoc, List.getElem?_append_right (by simp; omega), List.getElem?_append_left (by simp; omega), List.append_assoc, List.getElem?_append_right (by simp; omega), List.getElem?_append_left (by simp; omega)]
          congr 1; simp; omega
        · rw [List.getElem?_append_right (by simp; omega), List.getElem?_append_right (by simp; omega)]
          simp only [List.length_append, List.length_take, List.getElem?_drop]
          rw [hc _ (by omega)]
          congr 1; omega
    · have hr : ((X.take N).take a ++ (c1.take off ++ vs ++ c1.drop (off + vs.length)) ++ (X.take N).drop (a + sz))[j]? = (X.take N)[j]? := by
        rw [List.getElem?_append_right (by simp; omega), List.getElem?_drop]
        congr 1; simp; omega
      rw [hr, List.getElem?_take, List.getElem?_take]
      split
      · rw [List.getElem?_append_right (by simp; omega), List.getElem?_drop]
        congr 1; simp; omega
      · rfl

theorem setRow_heap_ne (w : World) (g b : Nat) (cs : Array Value) (h : b ≠ g) : (w.setRow g cs).heap[b]? = w.heap[b]? := by
  simp only [World.setRow, Array.getElem?_modify]
  rw [if_neg (Ne.symm h)]

/-- an element's cells are written -/
theorem KR.write {r : Root} {t t' : T} {p : Path} {i off : Nat} {v : Value} {es : List T} {el el' : T} {g cap : Nat} {cur : Array Value} {ty : TypeId} {sz : Nat} {c1 vs : List Value} {L Sn R L1 Se R1 : List Nat} {M : List Nat} {o : Nat}
    (h : KR A ρ S hd (M ++ fl) k vals w) (hr : k.get r = some t) (hat : t.at p = some (.own es)) (pl : Place (cxOf A k.H.length ρ S (M ++ fl) w) t (hd r) (S r) p i o v es el g cap cur ty sz c1 L Sn R L1 Se R1)
    (hf : off + vs.length ≤ sz) (hnc : el'.nc = el.nc) (hp : t.put p (.own (es.set i el')) = some t') (hs : k.set r t' = some k') {La Mb Rc : List Nat} (hSe : Se = La ++ Mb ++ Rc)
    (hel : ∀ c', Ext (cxOf A k.H.length ρ S (M ++ fl) w) c' → Kept (cxOf A k.H.length ρ S (M ++ fl) w) c' (La ++ M ++ Rc) → TC c' el' (c1.take off ++ vs ++ c1.drop (off + vs.length)) (La ++ M ++ Rc)) :
    let w' := w.setRow g (cur.toList.take (i * sz + off) ++ vs ++ cur.toList.drop (i * sz + off + vs.length)).toArray
    let k'' := if isOwn el then k'.tell (.killN r (p.length + 1)) else k'
    ∃ S', KR A ρ S' hd fl k'' vals w' ∧ Ext (cxOf A k.H.length ρ S (M ++ fl) w) (cxOf A k.H.length ρ S' fl w') := by
  intro w' k''
  obtain ⟨g1, g2, g3, g4⟩ := Wk.set_spec hs ⟨t, hr, fun _ _ => trivial⟩
  have hSr := pl.hS
  rw [pl.hSn, hSe] at hSr
  have e1 : S r = (L ++ g :: (L1 ++ La)) ++ Mb ++ (Rc ++ R1 ++ R) := by rw [hSr]; simp
  have d1 := h.dis.drop e1
  have d2 := Dis.attach (r := r) (L := L ++ g :: (L1 ++ La)) (M := M) (R := Rc ++ R1 ++ R) (fl := fl) d1 (by simp)
  have e2 : upd (upd S r ((L ++ g :: (L1 ++ La)) ++ (Rc ++ R1 ++ R))) r ((L ++ g :: (L1 ++ La)) ++ M ++ (Rc ++ R1 ++ R)) = upd S r ((L ++ g :: (L1 ++ La)) ++ M ++ (Rc ++ R1 ++ R)) := by
    funext x; simp only [upd]; split <;> rfl
  rw [e2] at d2
  have own1 : ∀ b, Own (upd S r ((L ++ g :: (L1 ++ La)) ++ M ++ (Rc ++ R1 ++ R))) fl b → Own S (M ++ fl) b := fun b hb => by
    rw [← e2] at hb
    exact Own.drop e1 ((Own.attach (r := r) (L := L ++ g :: (L1 ++ La)) (M := M) (R := Rc ++ R1 ++ R) (by simp)).1 hb)
  have hgS : g ∈ S r := by rw [hSr]; simp
  have hw' : ∀ b, b ≠ g → w'.heap[b]? = w.heap[b]? := fun b hb => setRow_heap_ne w g b _ hb
  have ws : WS S (M ++ fl) w (upd S r ((L ++ g :: (L1 ++ La)) ++ M ++ (Rc ++ R1 ++ R))) fl w' :=
    ⟨rfl, rfl, rfl, by simp [w'], fun b _ hn => hw' b (fun e => hn (.inl ⟨r, e ▸ hgS⟩)), fun b hb => .inl (own1 b hb)⟩
  have ext : Ext (cxOf A k.H.length ρ S (M ++ fl) w) (cxOf A k.H.length ρ (upd S r ((L ++ g :: (L1 ++ La)) ++ M ++ (Rc ++ R1 ++ R))) fl w') := ws.ext (Nat.le_refl _) (fun _ _ => rfl)
  have hnd := h.dis.nd r
  rw [hSr] at hnd
  have hgn : ∀ b, b ∈ L ∨ b ∈ L1 ∨ b ∈ La ∨ b ∈ Mb ∨ b ∈ Rc ∨ b ∈ R1 ∨ b ∈ R → b ≠ g := fun b hb e => by
    subst e
    simp only [List.nodup_append, List.nodup_cons, List.append_assoc, List.cons_append, List.mem_append, List.mem_cons] at hnd
    grind
  have hgM : ∀ b, b ∈ M → b ≠ g := fun b hb e => h.dis.oneF r g hgS (by rw [← e]; simp [hb])
  have hg' : w'.heap[g]? = some (.cells (cur.toList.take (i * sz + off) ++ vs ++ cur.toList.drop (i * sz + off + vs.length)).toArray ty (0, 0)) := setRow_heap w g cur _ ty _ pl.hg
  have il := (List.getElem?_eq_some_iff.1 pl.hel).1
  have hlen1 : es.length * sz ≤ cur.size := Nat.le_trans (Nat.mul_le_mul_right _ pl.hle) pl.hcur
  have hi1 : i * sz + sz ≤ es.length * sz := by
    have : (i + 1) * sz ≤ es.length * sz := Nat.mul_le_mul_right _ il
    rwa [Nat.add_mul, Nat.one_mul] at this
  have keptS : ∀ b ∈ L ++ R, w'.heap[b]? = w.heap[b]? := fun b hb => hw' b (hgn b (by rcases List.mem_append.1 hb with q | q <;> simp [q]))
  have hnode : TC (cxOf A k.H.length ρ (upd S r ((L ++ g :: (L1 ++ La)) ++ M ++ (Rc ++ R1 ++ R))) fl w') (.own (es.set i el')) [.slice (some ⟨g, 0, none⟩) es.length cap] (g :: (L1 ++ (La ++ M ++ Rc) ++ R1)) := by
    simp only [TC]
    refine .inr ⟨g, cap, _, ty, sz, L1 ++ (La ++ M ++ Rc) ++ R1, by rw [List.length_set], rfl, hg', by rw [List.length_set]; exact pl.hle, pl.hcap, ?_, by rw [List.length_set]; exact Nat.mul_pos (by omega) pl.hsz, ?_⟩
    · simp only [List.size_toArray, List.length_append, List.length_take, List.length_drop, Array.length_toList]
      have := pl.hcur
      omega
    · rw [List.length_set]
      have := seg_replace (vs := vs) (off := off) pl.hcs pl.hci pl.hc1 hf
      simp only at this ⊢
      rw [this]
      refine TE.put ext il pl.hL1 pl.hR1 (fun b hb => hw' b (hgn b (by rcases List.mem_append.1 hb with q | q <;> simp [q]))) ?_ (hel _ ext (fun b hb => hw' b ?_))
      · simp only [List.length_append, List.length_take, List.length_drop, pl.hc1]; omega
      · simp only [List.mem_append] at hb
        rcases hb with (q | q) | q
        · exact hgn b (by simp [q])
        · exact hgM b q
        · exact hgn b (by simp [q])
  have hroot := pl.foc.put _ _ t' _ ext keptS hp hnode
  have eS : L ++ g :: (L1 ++ (La ++ M ++ Rc) ++ R1) ++ R = (L ++ g :: (L1 ++ La)) ++ M ++ (Rc ++ R1 ++ R) := by simp
  rw [eS] at hroot
  have get : ∀ r', k''.get r' = if r' = r then some t' else k.get r' := fun r' => by
    show k''.get r' = _
    rw [← g1]
    simp only [k'']; split <;> rfl
  have hH : k''.H = k'.H := by simp only [k'']; split <;> rfl
  have keptO : ∀ r', r' ≠ r → ∀ b ∈ S r', w'.heap[b]? = w.heap[b]? := fun r' hne b hb => hw' b (fun e => hne (h.dis.one r' r b hb (e ▸ hgS)))
  have hold : ∀ r' q, (r' = r → isOwn el = true → q.length < p.length + 1) → Hold (cxOf A k.H.length ρ S (M ++ fl) w) (cxOf A k.H.length ρ (upd S r ((L ++ g :: (L1 ++ La)) ++ M ++ (Rc ++ R1 ++ R))) fl w') k.get k''.get hd hd r' q := fun r' q hq => by
    by_cases hne : r' = r
    · subst hne
      intro t0 es0 b1 b2
      rw [hr] at b1
      simp only [Option.some.injEq] at b1
      subst b1
      obtain ⟨es', o1, o2, o3⟩ := pl.foc.oth (cxOf A k.H.length ρ (upd S r' ((L ++ g :: (L1 ++ La)) ++ M ++ (Rc ++ R1 ++ R))) fl w') (.own (es.set i el')) t' (fun q' => ∀ b x, q' ≠ (i, b) :: x) keptS hp rfl (fun q' es1 hQ ha => by
        cases q' with
        | nil =>
          simp only [T.at, Option.some.injEq, T.own.injEq] at ha
          subst ha
          refine ⟨_, rfl, ⟨by simp, fun j x hx => ?_⟩, fun _ hh => hh⟩
          by_cases hj : i = j
          · subst hj
            rw [pl.hel] at hx
            simp only [Option.some.injEq] at hx
            subst hx
            exact ⟨el', by rw [List.getElem?_set_self il], hnc⟩
          · exact ⟨x, by rw [List.getElem?_set_ne hj]; exact hx, rfl⟩
        | cons ab q' =>
          obtain ⟨a, b⟩ := ab
          have hai : a ≠ i := fun e => hQ b q' (by rw [e])
          simp only [T.at, Option.bind_eq_some_iff] at ha
          obtain ⟨x, hx, y, hy, ha⟩ := ha
          have hx' : (es.set i el')[a]? = some x := by rw [List.getElem?_set_ne (Ne.symm hai)]; exact hx
          refine ⟨es1, by simp [T.at, hx', hy, ha], SameShape.refl _, fun h1 hh => ?_⟩
          simp only [NodeH] at hh ⊢
          obtain ⟨g', len', cap', cur', e', el0, ct, cv, n1, n2, n3, n4, n5, n6⟩ := hh
          simp only [Value.slice.injEq, Option.some.injEq, Addr.mk.injEq, and_true] at n1
          obtain ⟨n1, _, _⟩ := n1
          subst n1
          have hgg := pl.hg
          rw [hgg] at n2
          simp only [Option.some.injEq, Obj.cells.injEq, and_true] at n2
          obtain ⟨n2, _⟩ := n2
          subst n2
          rw [hx] at n3
          simp only [Option.some.injEq] at n3
          subst n3
          rw [hy] at n4
          simp only [Option.some.injEq] at n4
          subst n4
          have hxn : x.nc = sz := by
            rcases pl.foc.tc with ⟨_, _, k2, _⟩ | ⟨g0, cap0, cur0, e0, sz0, S0, k1, k2, k3, k4, k5, k6, k7, k8⟩
            · subst k2; simp at hx
            · have := (TE.len _ _ _ _ k8).2
              rw [this x (List.mem_of_getElem? hx), ← this el (List.mem_of_getElem? pl.hel), pl.hnc]
          have hbl := T.cell_lt hy
          have hal := (List.getElem?_eq_some_iff.1 hx).1
          have hrange : a * sz + b < i * sz + off ∨ i * sz + off + vs.length ≤ a * sz + b := by
            rcases Nat.lt_or_gt_of_ne hai with hlt | hgt
            · left
              have : (a + 1) * sz ≤ i * sz := Nat.mul_le_mul_right _ hlt
              rw [Nat.add_mul] at this
              omega
            · right
              have : (i + 1) * sz ≤ a * sz := Nat.mul_le_mul_right _ hgt
              rw [Nat.add_mul] at this
              omega
          have hcell : (cur.toList.take (i * sz + off) ++ vs ++ cur.toList.drop (i * sz + off + vs.length))[a * sz + b]? = cur[a * sz + b]? := by
            rcases hrange with q | q
            · rw [List.append_assoc, List.getElem?_append_left (by simp; omega), List.getElem?_take, if_pos q]; simp
            · rw [List.getElem?_append_right (by simp; omega), List.getElem?_drop]
              simp only [List.length_append, List.length_take, Array.length_toList]
              rw [show i * sz + off + vs.length + (a * sz + b - (min (i * sz + off) cur.size + vs.length)) = a * sz + b by omega]
              simp
          rw [hxn] at n5
          obtain ⟨v', St, f1, f2, f3⟩ : ∃ v' St, cur[a * sz + b]? = some v' ∧ TC (cxOf A k.H.length ρ S (M ++ fl) w) y [v'] St ∧ ∀ z ∈ St, z ∈ L1 ∨ z ∈ R1 := by
            rcases Nat.lt_or_gt_of_ne hai with hlt | hgt
            · obtain ⟨v', St, f1, f2, f3⟩ := TE.sub pl.hL1 (n := a) (t := x) (by rw [List.getElem?_take, if_pos hlt]; exact hx) hy
              refine ⟨v', St, ?_, f2, fun z hz => .inl (f3 z hz)⟩
              rw [List.getElem?_take] at f1
              split at f1
              · rw [List.getElem?_take] at f1
                split at f1
                · simpa using f1
                · cases f1
              · cases f1
            · obtain ⟨v', St, f1, f2, f3⟩ := TE.sub pl.hR1 (n := a - (i + 1)) (t := x) (by rw [List.getElem?_drop, show i + 1 + (a - (i + 1)) = a by omega]; exact hx) hy
              refine ⟨v', St, ?_, f2, fun z hz => .inr (f3 z hz)⟩
              rw [List.getElem?_drop] at f1
              have e3 : i * sz + sz + ((a - (i + 1)) * sz + b) = a * sz + b := by
                have : a = (a - (i + 1)) + i + 1 := by omega
                conv => rhs; rw [this]
                simp only [Nat.add_mul]
                omega
              rw [e3, List.getElem?_take] at f1
              split at f1
              · simpa using f1
              · cases f1
          rw [n5] at f1
          simp only [Option.some.injEq] at f1
          subst f1
          exact ⟨g, len', cap', _, ty, x, y, cv, by simp_all, hg', hx', hy, by rw [hxn, List.getElem?_toArray, hcell]; exact n5, NodeH.ext q' y cv h1 St f2 (fun z hz => hw' z (hgn z (by rcases f3 z hz with q | q <;> simp [q]))) n6⟩) q es0 (fun q' hq' => by
        subst hq'
        intro b x hqx
        subst hqx
        rw [T.at_append, hat] at b2
        simp only [Option.bind_some, T.at, pl.hel, Option.bind_eq_some_iff] at b2
        obtain ⟨ct, hct, hca⟩ := b2
        have := hq rfl (isOwn_of hct hca)
        simp at this) b2
      exact ⟨t', es', by rw [get, if_pos rfl], o1, o2, o3⟩
    · exact h.hold _ (by rw [get, if_neg hne]) rfl (keptO r' hne) q
  refine ⟨_, ⟨fun r' t0 h0 => ?_, fun r' h0 hm => ?_, h.obj, fun n es0 he => ?_, d2, ws.blk h, fun pr hpr => ?_, ws.frm h, h.Fold, by rw [hH, g2]; exact h.rho⟩, ext⟩
  · rw [hH, g2]
    rw [get] at h0
    by_cases hne : r' = r
    · subst hne
      rw [if_pos rfl] at h0
      simp only [Option.some.injEq] at h0
      subst h0
      rw [upd_same]
      exact hroot
    · rw [if_neg hne] at h0
      rw [upd_other _ _ hne]
      exact TC.ext ext _ _ _ (keptO r' hne) (h.cont r' t0 h0)
  · rw [get] at h0
    by_cases hne : r' = r
    · rw [if_pos hne] at h0; cases h0
    · rw [if_neg hne] at h0
      rw [upd_other _ _ hne]
      exact h.gone r' h0 (fun n es e hm' => hm n es e (by rw [hH]; exact (g4 n es).2 hm'))
  · rw [hH] at he ⊢
    rw [g2]
    have he' := (g4 n es0).1 he
    obtain ⟨m1, en, cl, m2, m3⟩ := h.map n es0 he'
    have hne : (Root.o n) ≠ r := by
      rintro rfl
      simp [Wk.get, Go.Am.cont, he'] at hr
    rw [upd_other _ _ hne]
    exact ⟨m1, en, cl, by rw [← m2]; exact keptO _ hne (ρ n) (by rw [m1]; simp), m3.imp (fun a _ b ⟨q1, y, q2, q3⟩ => ⟨VV.ext ext q1, y, q2, VV.ext ext q3⟩)⟩
  · rw [hH, g2]
    by_cases hio : isOwn el = true
    · have e3 : trv k''.tr pr.1 = (Tr.killN r (p.length + 1)).sv (trv k.tr pr.1) := by
        simp only [k'', hio, if_true, Wk.tell, g3]
        exact trv_append _ _ _
      rw [e3]
      exact SO.killN ext r (p.length + 1) (fun r' q hq => hold r' q (fun e _ => hq e)) (h.vals pr hpr)
    · have e3 : k''.tr = k.tr := by simp only [k'', if_neg hio, g3]
      rw [e3]
      exact SO.keep ext (fun r' q => hold r' q (fun _ h0 => absurd h0 hio)) (h.vals pr hpr)

theorem storeE_ok (h : KR A ρ S hd fl k vals w) {nv : Nat} {t : TypeId} {a v : SV} {av vv : Value} (ha : (a, av) ∈ vals) (hv : (v, vv) ∈ vals) (e : storeE P nv t a v k = some k') :
    ∃ w' S', (Instr.storeAt t av vv).run P w = .ok () w' ∧ KR A ρ S' hd fl k' vals w' ∧ k'.H.length = k.H.length := by
  simp only [storeE, Option.bind_eq_some_iff] at e
  obtain ⟨⟨x, k1⟩, e1, e2⟩ := e
  obtain ⟨S1, M, g1, g2, g3, g4⟩ := absorb_ok h hv e1
  have hloc := g1.vals (a, av) ha
  simp only at e2 hloc
  split at e2
  · rename_i r p i off hl
    split at e2
    · rename_i hsz
      obtain ⟨hsz, hpos⟩ := hsz
      simp only [Option.bind_eq_some_iff] at e2
      obtain ⟨t0, hc, nd, hat, e2⟩ := e2
      split at e2
      · rename_i es
        simp only [Option.bind_eq_some_iff] at e2
        obtain ⟨el, hel, e2⟩ := e2
        obtain ⟨t1, es1, el1, g, cap, cur, ty, sz, c1, L, Sn, R, L1, Se, R1, q1, q2, pl⟩ := place_ok (fun t => g1.cont r t) (asLoc_ok g1 hloc hl hc)
        rw [hc] at q1
        simp only [Option.some.injEq] at q1
        subst q1
        rw [hat] at q2
        simp only [Option.some.injEq, T.own.injEq] at q2
        subst q2
        have := pl.hel
        rw [hel] at this
        simp only [Option.some.injEq] at this
        subst this
        split at e2
        · rename_i hfit
          simp only [Option.bind_eq_some_iff, Option.map_eq_some_iff] at e2
          obtain ⟨c', hput, k2, hset, hk⟩ := e2
          have hvl : vv.cells.toList.length = x.nc := TC.len _ _ _ g3
          have hf : off + vv.cells.toList.length ≤ sz := by rw [hvl, ← pl.hnc]; exact hfit
          have hcv := pl.hv
          have hrange : i * sz + off + vv.cells.toList.length ≤ cur.size := by
            have il := (List.getElem?_eq_some_iff.1 pl.hel).1
            have h1 : es.length * sz ≤ cur.size := Nat.le_trans (Nat.mul_le_mul_right _ pl.hle) pl.hcur
            have h2 : (i + 1) * sz ≤ es.length * sz := Nat.mul_le_mul_right _ il
            rw [Nat.add_mul, Nat.one_mul] at h2
            omega
          have hrun : (Instr.storeAt t av vv).run P w = .ok () (w.setRow g (cur.toList.take (i * sz + off) ++ vv.cells.toList ++ cur.toList.drop (i * sz + off + vv.cells.toList.length)).toArray) := by
            have hi : ∃ inf, P.info? t = some inf := by
              cases hi : P.info? t with
              | none => simp [Program.cellsOf, hi] at hsz; omega
              | some inf => exact ⟨inf, rfl⟩
            obtain ⟨inf, hi⟩ := hi
            have hso : (sizeOf t).run P w = .ok (P.cellsOf t) w := by simp [sizeOf, typeInfo, hi, Program.cellsOf]
            have hst := run_storeCells_at P g (i * sz + off) ty vv.cells.toList 0 cur w pl.hg (by simpa using hrange) (TC.ones _ _ _ g3)
            subst hcv
            simp only [Instr.storeAt, Instr.sureAddr, Sem.run_bind, Sem.run_pure, Result.andThen_ok, storeVar, hso]
            have hne : ¬ (vv.cells.size ≠ P.cellsOf t) := by rw [← Array.length_toList, hvl, hsz]; simp
            simp only [hne, if_false]
            simpa using hst
          have hk' : k' = if isOwn el then k2.tell (.killN r (p.length + 1)) else k2 := hk.symm
          by_cases hfull : off = 0 ∧ x.nc = el.nc
          · rw [if_pos hfull] at hput
            obtain ⟨rfl, hfull⟩ := hfull
            obtain ⟨S', w1, w2⟩ := KR.write (vs := vv.cells.toList) (off := 0) g1 hc hat pl hf hfull hput hset (La := []) (Mb := Se) (Rc := []) (by simp) (fun c' hx hkp => by
              have e0 : c1.take 0 ++ vv.cells.toList ++ c1.drop (0 + vv.cells.toList.length) = vv.cells.toList := by
                rw [List.drop_of_length_le (by rw [pl.hc1, hvl, hfull, pl.hnc]; omega)]; simp
              rw [e0]
              simp only [List.nil_append, List.append_nil] at hkp ⊢
              exact TC.ext hx _ _ _ hkp g3)
            subst hk'
            refine ⟨_, S', hrun, w1, ?_⟩
            rw [← g4, ← set_hlen hset]
            split <;> rfl
          · rw [if_neg hfull] at hput
            obtain ⟨La, Mb, Rc, m1, m2⟩ := TC.setCells pl.hte off x.nc
            obtain ⟨S', w1, w2⟩ := KR.write (vs := vv.cells.toList) (off := off) g1 hc hat pl hf (T.setCells_nc (by rw [T.cells_len]; exact hfit)) hput hset m1 (fun c' hx hkp => m2 c' _ _ M hx (T.cells_len x) (TC.cells (TC.ext hx _ _ _ (fun b hb => hkp b (by simp [hb])) g3)) (fun b hb => hkp b (by rcases List.mem_append.1 hb with q | q <;> simp [q])))
            subst hk'
            refine ⟨_, S', hrun, w1, ?_⟩
            rw [← g4, ← set_hlen hset]
            split <;> rfl
        · cases e2
      · cases e2
    · cases e2
  · cases e2
end
end Go.Am
