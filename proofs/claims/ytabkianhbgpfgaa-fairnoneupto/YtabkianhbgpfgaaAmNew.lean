/- The abstract machine: new boxes, new rows, appends. -/
import Derived.Test.YtabkianhbgpfgaaAmMem
namespace Go.Am
open Go Go.RowKit

section
variable {P : Program} {A : Av} {ρ : Nat → Nat} {S : Root → List Nat} {hd : Root → Value} {fl : List Nat} {k k' : Wk} {vals : List (SV × Value)} {w : World}

/-- what an operation leaves -/
def Left (A : Av) (k' : Wk) (vals : List (SV × Value)) (sv : SV) (v : Value) (w' : World) : Prop :=
  ∃ ρ' S' hd', KR A ρ' S' hd' [] k' vals w' ∧ SO (cxOf A k'.H.length ρ' S' [] w') k'.get hd' sv v

/-- a new block of cells -/
theorem KR.alloc {M : List Nat} (h : KR A ρ S hd (M ++ fl) k vals w) (o : Obj) : KR A ρ S hd ((w.heap.size :: M) ++ fl) k vals (w.alloc o) ∧ Ext (cxOf A k.H.length ρ S (M ++ fl) w) (cxOf A k.H.length ρ S ((w.heap.size :: M) ++ fl) (w.alloc o)) := by
  have hn := h.dis.ndF
  rw [List.nodup_append] at hn
  refine KR.world (w := w) (w' := w.alloc o) rfl rfl rfl (by simp) h (fun b hb _ => Below.heap_alloc w o b hb) (fun b hb => ?_) ?_
  · rcases List.mem_cons.1 hb with rfl | hb
    · exact .inr ⟨Nat.le_refl _, by simp⟩
    · exact .inl hb
  · exact List.nodup_cons.2 ⟨fun hc => absurd (h.blk w.heap.size (.inr (List.mem_append_left _ hc))).1 (Nat.lt_irrefl _), hn.1⟩
theorem KR.drew (h : KR A ρ S hd fl k vals w) : KR A ρ S hd fl k vals w.drew ∧ Ext (cxOf A k.H.length ρ S fl w) (cxOf A k.H.length ρ S fl w.drew) := by
  have := KR.world (w := w) (w' := w.drew) (M := []) (M' := []) rfl rfl rfl (Nat.le_refl _) (by simpa using h) (fun _ _ _ => rfl) (by simp) (by simp)
  simpa using this

theorem get_append {ob : Ob} (r : Root) : ({ k with H := k.H ++ [ob] } : Wk).get r = if r = .o k.H.length then (match ob with | .box x => some (.own [x]) | _ => none) else k.get r := by
  cases r with
  | l n j => simp [Wk.get, Go.Am.cont]
  | o n =>
    simp only [Wk.get, Go.Am.cont, Root.o.injEq]
    rcases Nat.lt_trichotomy n k.H.length with h | h | h
    · rw [List.getElem?_append_left h, if_neg (by omega)]
    · subst h; rw [if_pos rfl, List.getElem?_append_right (Nat.le_refl _)]; simp only [Nat.sub_self, List.getElem?_cons_zero]; cases ob <;> rfl
    · rw [if_neg (by omega), List.getElem?_eq_none (by simp; omega), List.getElem?_eq_none (by omega)]
/-- a new shared object -/
theorem KR.newOb {N : List Nat} (h : KR A ρ S hd (N ++ fl) k vals w) (ob : Ob) (g : Nat) (hb : ∀ x, ob = .box x → TC (cxOf A k.H.length ρ S (N ++ fl) w) (.own [x]) [.slice (some ⟨g, 0, none⟩) 1 1] N)
    (hm : ∀ es, ob = .map es → N = [g] ∧ MapOK (cxOf A k.H.length ρ S (N ++ fl) w) g es) (hl : ob ≠ .lock) :
    KR A (fun o => if o = k.H.length then g else ρ o) (upd S (.o k.H.length) N) (upd hd (.o k.H.length) (.slice (some ⟨g, 0, none⟩) 1 1)) fl { k with H := k.H ++ [ob] } vals w ∧
      Ext (cxOf A k.H.length ρ S (N ++ fl) w) (cxOf A (k.H.length + 1) (fun o => if o = k.H.length then g else ρ o) (upd S (.o k.H.length) N) fl w) := by
  have hnone : k.get (.o k.H.length) = none := by simp [Wk.get, Go.Am.cont]
  have hS0 : S (.o k.H.length) = [] := h.gone _ hnone (fun n es e he => by
    simp only [Root.o.injEq] at e; subst e; simp at he)
  have d2 := Dis.attach (r := .o k.H.length) (L := []) (R := []) (M := N) (fl := fl) h.dis (by simpa using hS0)
  simp only [List.nil_append, List.append_nil] at d2
  have own1 : ∀ b, Own (upd S (.o k.H.length) N) fl b → Own S (N ++ fl) b := fun b hb => by
    have := (Own.attach (S := S) (r := .o k.H.length) (L := []) (R := []) (M := N) (fl := fl) (b := b) (by simpa using hS0)).1 (by simpa using hb)
    exact this
  have ws : WS S (N ++ fl) w (upd S (.o k.H.length) N) fl w := WS.stay own1
  have ext : Ext (cxOf A k.H.length ρ S (N ++ fl) w) (cxOf A (k.H.length + 1) (fun o => if o = k.H.length then g else ρ o) (upd S (.o k.H.length) N) fl w) := ws.ext (by omega) (fun o ho => by rw [if_neg (by omega)])
  have hlen : ({ k with H := k.H ++ [ob] } : Wk).H.length = k.H.length + 1 := by simp
  refine ⟨⟨fun r t0 h0 => ?_, fun r h0 hm' => ?_, fun m => ?_, fun m es he => ?_, d2, ws.blk h, fun p hp => ?_, h.fr, h.Fold, ?_⟩, ext⟩
  · rw [hlen]
    rw [get_append] at h0
    split at h0
    · rename_i e; subst e
      rw [upd_same, upd_same]
      split at h0
      · rename_i x
        simp only [Option.some.injEq] at h0
        subst h0
        exact TC.ext ext _ _ _ (fun _ _ => rfl) (hb x rfl)
      · cases h0
    · rename_i e
      rw [upd_other _ _ e, upd_other _ _ e]
      exact TC.ext ext _ _ _ (fun _ _ => rfl) (h.cont r t0 h0)
  · rw [get_append] at h0
    split at h0
    · rename_i e; subst e
      exfalso
      cases ob with
      | box x => cases h0
      | lock => exact hl rfl
      | map es => exact hm' _ es rfl (by simp)
    · rename_i e
      rw [upd_other _ _ e]
      refine h.gone r h0 (fun n es en he => hm' n es en ?_)
      rw [List.getElem?_append_left (List.getElem?_eq_some_iff.1 he).1]; exact he
  · by_cases hmn : m = k.H.length
    · subst hmn; rw [upd_same, if_pos rfl]
    · rw [upd_other _ _ (by simpa using hmn), if_neg hmn]; exact h.obj m
  · rw [hlen]
    by_cases hmn : m = k.H.length
    · subst hmn
      simp only [List.getElem?_append_right (Nat.le_refl _), Nat.sub_self, List.getElem?_cons_zero, Option.some.injEq] at he
      obtain ⟨m1, en, cl, m2, m3⟩ := hm es he
      rw [upd_same, if_pos rfl]
      exact ⟨m1, en, cl, m2, m3.imp (fun a _ b ⟨q1, y, q2, q3⟩ => ⟨VV.ext ext q1, y, q2, VV.ext ext q3⟩)⟩
    · have hlt : m < k.H.length := by
        have := (List.getElem?_eq_some_iff.1 he).1
        simp at this; omega
      simp only at he
      rw [List.getElem?_append_left hlt] at he
      rw [upd_other _ _ (by simpa using hmn), if_neg hmn]
      obtain ⟨m1, en, cl, m2, m3⟩ := h.map m es he
      exact ⟨m1, en, cl, m2, m3.imp (fun a _ b ⟨q1, y, q2, q3⟩ => ⟨VV.ext ext q1, y, q2, VV.ext ext q3⟩)⟩
  · rw [hlen]
    refine SO.keep ext (fun r q => ?_) (h.vals p hp)
    by_cases hr : r = .o k.H.length
    · subst hr
      intro t es h1 _
      rw [hnone] at h1; cases h1
    · exact h.hold _ (by rw [get_append, if_neg hr]) (upd_other _ _ hr) (fun _ _ => rfl) q
  · have := h.rho
    rw [hlen]
    exact ⟨by omega, fun o ho => by rw [if_neg (by omega)]; exact this.2 o ho⟩

theorem box_row {c : Cx} {t : T} {cs : List Value} {M : List Nat} {g : Nat} {ty : TypeId} (ht : TC c t cs M) (hg : c.w.heap[g]? = some (.cells cs.toArray ty (0, 0))) (h0 : 0 < t.nc) : TC c (.own [t]) [.slice (some ⟨g, 0, none⟩) 1 1] (g :: M) := by
  have hl := TC.len _ _ _ ht
  simp only [TC]
  refine .inr ⟨g, 1, cs.toArray, ty, t.nc, M, rfl, rfl, hg, Nat.le_refl _, by decide, by simp [hl], by simpa using h0, ?_⟩
  simp only [TE]
  refine ⟨cs, [], M, [], ?_, by simp, hl, ht, rfl, rfl⟩
  simp only [List.length_cons, List.length_nil, List.append_nil]
  rw [List.take_of_length_le (by simp [hl])]

/-- a new box, known to one slot or shared -/
theorem boxE_ok {h : Hint} {dst : Nat} {x : T} {M : List Nat} {cs : Array Value} {ty : TypeId} {sv : SV} (hk : KR A ρ S hd (M ++ fl) k vals w) (ht : TC (cxOf A k.H.length ρ S (M ++ fl) w) x cs.toList M) (e : boxE h dst x k = some (sv, k')) :
    ∃ ρ' S' hd', KR A ρ' S' hd' fl k' vals (w.alloc (.cells cs ty)) ∧ SO (cxOf A k'.H.length ρ' S' fl (w.alloc (.cells cs ty))) k'.get hd' sv (.pointer (some ⟨w.heap.size, 0, none⟩)) := by
  unfold boxE at e
  split at e
  · cases e
  · rename_i hnc
    obtain ⟨g1, g2⟩ := hk.alloc (.cells cs ty)
    have hx := TC.ext g2 _ _ _ (fun b hb => Below.heap_alloc w _ b (hk.blk b (.inr (by simp [hb]))).1) ht
    have hb := box_row (g := w.heap.size) (ty := ty) hx (by simpa [cxOf] using heap_alloc_new w _) (by omega)
    split at e
    · simp only [Option.some.injEq, Prod.mk.injEq] at e
      obtain ⟨rfl, rfl⟩ := e
      obtain ⟨n1, n2⟩ := g1.newOb (.box x) w.heap.size (fun y hy => by simp only [Ob.box.injEq] at hy; subst hy; exact hb) (fun es he => by cases he) (by simp)
      refine ⟨_, _, _, n1, ?_⟩
      refine VV.one ?_ (by simp)
      simp only [VC]
      exact ⟨by simp [cxOf], by simp [cxOf]⟩
    · simp only [Option.some.injEq, Prod.mk.injEq] at e
      obtain ⟨rfl, rfl⟩ := e
      obtain ⟨n1, n2⟩ := g1.newRoot (n := dst) (j := 0) hb
      refine ⟨ρ, _, _, n1, ?_⟩
      exact ⟨.own [x], [x], w.heap.size, 1, 1, x, by simp [Wk.get, Wk.new, Go.Am.cont, lookR], rfl, by simp [NodeH], rfl, by omega, by simp⟩

/-! ### constants, zero values -/
theorem ofCell_ok {c : Cx} {v : Value} {x : D} (h : D.ofCell v = some x) : VC c x [v] ∧ ∀ l, x ≠ .agg l := by
  unfold D.ofCell at h
  split at h <;> first | (simp only [Option.some.injEq] at h; subst h; simp [VC]) | simp at h
theorem ofCells_ok {c : Cx} : ∀ (vs : List Value) (l : List D), vs.mapM D.ofCell = some l → VCs c l vs
  | [], l, h => by simp at h; subst h; simp [VCs]
  | v :: vs, l, h => by
    simp only [List.mapM_cons, Option.pure_def, Option.bind_eq_bind, Option.bind_eq_some_iff, Option.some.injEq] at h
    obtain ⟨x, h1, r, h2, rfl⟩ := h
    simp only [VCs]
    exact ⟨v, vs, rfl, (ofCell_ok h1).1, ofCells_ok vs r h2⟩
theorem ofVal_ok {c : Cx} {v : Value} {x : D} (h : D.ofVal v = some x) : VV c x v := by
  unfold D.ofVal at h
  split at h
  · rename_i cs
    simp only [Option.map_eq_some_iff] at h
    obtain ⟨l, h1, rfl⟩ := h
    exact VV.agg (ofCells_ok _ _ h1)
  · obtain ⟨h1, h2⟩ := ofCell_ok (c := c) h
    exact VV.one h1 h2
theorem zeroOf_ok {t : TypeId} {z : D} (h : zeroOf P t = some z) : ∃ i zv, P.info? t = some i ∧ i.zero = some zv ∧ D.ofVal zv = some z ∧ ∀ w : World, (zeroValue t).run P w = .ok zv w := by
  simp only [zeroOf, Option.bind_eq_some_iff] at h
  obtain ⟨zv, ⟨i, h1, h2⟩, h3⟩ := h
  exact ⟨i, zv, h1, h2, h3, fun w => by simp [zeroValue, typeInfo, h1, h2]⟩
theorem ofD1s_ok {c : Cx} : ∀ (l : List D) (cs : List Value), VCs c l cs → TCs c (l.map T.ofD1) cs []
  | [], cs, h => by simp only [VCs] at h; simp [h, TCs]
  | d :: ds, cs, h => by
    simp only [VCs] at h
    obtain ⟨v, r, rfl, h2, h3⟩ := h
    simp only [List.map_cons, TCs]
    refine ⟨v, r, [], [], rfl, rfl, ?_, ofD1s_ok ds r h3⟩
    cases d <;> first | (simp only [T.ofD1, TC]; exact ⟨trivial, h2⟩) | skip
    simp only [VC] at h2
    exact .inl ⟨none, h2, rfl, rfl⟩
theorem ofZero_ok {c : Cx} {z : D} {cs : List Value} (h : VC c z cs) : TC c (T.ofZero z) cs [] := by
  unfold T.ofZero
  split
  · rename_i l
    simp only [VC] at h
    split
    · exact ofD1s_ok l cs h
    · simp only [TC, VC]; exact ⟨trivial, h⟩
  · cases z <;> first | (simp only [T.ofD1, TC]; exact ⟨trivial, h⟩) | skip
    simp only [VC] at h
    exact .inl ⟨none, h, rfl, rfl⟩
theorem ofZero_nc (z : D) : (T.ofZero z).nc = z.nc := by
  unfold T.ofZero
  split
  · split <;> simp [T.nc, D.nc]
  · cases z <;> rfl

theorem maxLen_eq : maxLen = 9223372036854775807 := rfl
theorem le_maxLen {n : Nat} (h : n ≤ 9223372036854775807) : n ≤ maxLen := by rw [maxLen_eq]; exact h

/-! ### rows of zeros -/
theorem zeros_ok {c : Cx} {t : T} {zc : List Value} {sz : Nat} (ht : TC c t zc []) (hz : zc.length = sz) : ∀ (n : Nat) (cs : List Value), cs.length = n * sz → (∀ j, j < n * sz → cs[j]? = zc[j % sz]?) → TE c (List.replicate n t) sz cs []
  | 0, cs, hl, _ => by
    simp only [Nat.zero_mul] at hl
    simp [TE, List.eq_nil_of_length_eq_zero hl]
  | n + 1, cs, hl, hc => by
    simp only [List.replicate_succ, TE]
    have e : (n + 1) * sz = sz + n * sz := by rw [Nat.add_mul]; omega
    rw [e] at hl hc
    refine ⟨cs.take sz, cs.drop sz, [], [], (List.take_append_drop _ _).symm, rfl, by simp; omega, ?_, zeros_ok ht hz n _ (by simp; omega) (fun j hj => ?_)⟩
    · have : cs.take sz = zc := by
        apply List.ext_getElem?
        intro j
        rw [List.getElem?_take]
        split
        · rename_i hj
          rw [hc j (by omega), Nat.mod_eq_of_lt hj]
        · rw [List.getElem?_eq_none (by omega)]
      rw [this]; exact ht
    · rw [List.getElem?_drop, hc _ (by omega)]
      simp
theorem madeCells_get (z : Array Value) (n j : Nat) (hj : j < n) (hz : 0 < z.size) : (madeCells z n).toList[j]? = z.toList[j % z.size]? := by
  have h2 : j % z.size < z.size := Nat.mod_lt _ hz
  simp only [madeCells, Array.getElem?_toList, Array.getElem?_map]
  rw [Array.getElem?_eq_getElem (by simpa using hj), Array.getElem?_eq_getElem h2]
  simp [getElem!_pos z (j % z.size) h2]
theorem made_row {c : Cx} {t : T} {z : Array Value} {g : Nat} {ty : TypeId} {n m : Nat} (ht : TC c t z.toList []) (hz : 0 < z.size) (hn0 : 0 < n) (hnm : n ≤ m) (hm : m ≤ maxLen) (hg : c.w.heap[g]? = some (.cells (madeCells z (m * z.size)) ty (0, 0))) :
    TC c (.own (List.replicate n t)) [.slice (some ⟨g, 0, none⟩) n m] [g] := by
  simp only [TC]
  refine .inr ⟨g, m, _, ty, z.size, [], by simp, rfl, hg, by simpa using hnm, hm, by simp [size_madeCells], by simpa using Nat.mul_pos hn0 hz, ?_⟩
  have hle : n * z.size ≤ m * z.size := Nat.mul_le_mul_right _ hnm
  refine zeros_ok ht (by simp) _ _ (by rw [List.length_take, List.length_replicate, Array.length_toList, size_madeCells]; omega) (fun j hj => ?_)
  simp only [List.length_replicate]
  rw [List.getElem?_take, if_pos hj]
  exact madeCells_get z _ j (by omega) hz

theorem new_bor {dst : Nat} {es : List T} {hv : Value} {c : Cx} {hd' : Root → Value} {k0 : Wk} {M : List Nat} (ht : TC c (.own es) [hv] M) (hh : hd' (.l dst 0) = hv) : SO c (k0.new dst 0 (.own es)).get hd' (.bor (.l dst 0) [] 0 es.length) hv := by
  refine ⟨.own es, es, hv, by simp [Wk.get, Wk.new, Go.Am.cont, lookR], rfl, by simp [NodeH, hh], by omega, ?_⟩
  rcases ht with ⟨a, k1, k2, _⟩ | ⟨g', cap', cur', e', sz', S', k1, k2, k3, k4, k5, k6, k7, k8⟩
  · simp only [List.cons.injEq, and_true] at k1
    subst k2
    exact ⟨a, 0, 0, a, 0, k1, by simpa using k1, Nat.le_refl _, fun _ => ⟨rfl, Nat.le_refl _⟩, fun h0 => by simp at h0⟩
  · simp only [List.cons.injEq, and_true] at k1
    refine ⟨_, es.length, cap', _, cap', k1, k1, k4, fun _ => ⟨rfl, Nat.le_refl _⟩, fun h0 => ?_⟩
    exact ⟨g', es[0], rfl, by simp, by simp⟩

theorem makeE_ok {dst : Nat} {t : TypeId} {l c : SV} {lv cv : Value} {sv : SV} (h : KR A ρ S hd fl k vals w) (hl : SO (cxOf A k.H.length ρ S fl w) k.get hd l lv) (hc : SO (cxOf A k.H.length ρ S fl w) k.get hd c cv)
    (e : makeE P dst t l c k = some (sv, k')) : ∃ v w' ρ' S' hd', (Instr.makeSlice t lv cv).run P w = .ok v w' ∧ KR A ρ' S' hd' fl k' vals w' ∧ SO (cxOf A k'.H.length ρ' S' fl w') k'.get hd' sv v := by
  unfold makeE at e
  split at e
  · rename_i kl n kc m
    simp only [Option.bind_eq_some_iff] at e
    obtain ⟨ty, h1, z, h2, e⟩ := e
    split at e
    · rename_i hh
      obtain ⟨a1, a2, a0, a3, a4, a5, a6⟩ := hh
      simp only [Option.some.injEq, Prod.mk.injEq] at e
      obtain ⟨rfl, rfl⟩ := e
      obtain ⟨i, zv, b1, b2, b3, _⟩ := zeroOf_ok h2
      have hu : P.underlying t = some (.slice ty) := by
        unfold elemOf at h1
        split at h1
        · simp only [Option.some.injEq] at h1; subst h1; assumption
        · cases h1
      have hlv : lv = .int kl n := by simpa [VC] using VV.inv hl (by simp)
      have hcv : cv = .int kc m := by simpa [VC] using VV.inv hc (by simp)
      subst hlv; subst hcv
      have hcells : P.cellsOf ty = i.size := by simp [Program.cellsOf, b1]
      have hbytes : P.bytesOf ty = i.bytes := by simp [Program.bytesOf, b1]
      rw [hbytes] at a3
      have hrun := run_make (P := P) w t ty i zv hu b1 b2 kl kc n m a1 a2 a3 a4
      have hzv := ofVal_ok (c := cxOf A k.H.length ρ S ([w.heap.size] ++ fl) (w.alloc (.cells (madeCells zv.cells (m.toNat * i.size)) ty))) b3
      have hzs : zv.cells.size = i.size := by rw [← Array.length_toList, VC.len _ _ hzv.1, a6, hcells]
      obtain ⟨g1, g2⟩ := KR.alloc (M := []) (by simpa using h) (.cells (madeCells zv.cells (m.toNat * i.size)) ty)
      have hpos : 0 < zv.cells.size := by rw [hzs, ← hcells]; exact a5
      have hrow : ∃ N, (N = [w.heap.size] ∨ N = []) ∧ TC (cxOf A k.H.length ρ S ([w.heap.size] ++ fl) (w.alloc (.cells (madeCells zv.cells (m.toNat * i.size)) ty))) (.own (List.replicate n.toNat (T.ofZero z))) [.slice (some ⟨w.heap.size, 0, none⟩) n.toNat m.toNat] N := by
        by_cases hn : n = 0
        · have hm := a0 hn
          subst hn; subst hm
          exact ⟨[], .inr rfl, .inl ⟨some ⟨w.heap.size, 0, none⟩, rfl, rfl, rfl⟩⟩
        · exact ⟨_, .inl rfl, made_row (n := n.toNat) (m := m.toNat) (g := w.heap.size) (ty := ty) (ofZero_ok hzv.1) hpos (by omega) (by omega) (le_maxLen (by omega)) (by rw [hzs]; simpa [cxOf] using heap_alloc_new w _)⟩
      obtain ⟨N, hN, hrow⟩ := hrow
      have hnd := g1.dis.ndF
      obtain ⟨l1, l2⟩ := g1.letGo (fl' := N ++ fl) (by rcases hN with rfl | rfl; exact hnd; simp at hnd; simpa using hnd.2) (fun b hb => by rcases hN with rfl | rfl; exact hb; simp at hb; simp [hb])
      have hrow' := TC.ext l2 _ _ _ (fun _ _ => rfl) hrow
      obtain ⟨n1, n2⟩ := l1.newRoot (n := dst) (j := 0) hrow'
      refine ⟨_, _, ρ, _, _, hrun, n1, ?_⟩
      have := new_bor (dst := dst) (k0 := k) (hd' := upd hd (.l dst 0) (.slice (some ⟨w.heap.size, 0, none⟩) n.toNat m.toNat)) (TC.ext n2 _ _ _ (fun _ _ => rfl) hrow') (by simp)
      rw [List.length_replicate] at this
      exact this
    · cases e
  · cases e
end
end Go.Am
