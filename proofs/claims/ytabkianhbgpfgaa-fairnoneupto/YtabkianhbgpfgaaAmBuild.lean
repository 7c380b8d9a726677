/- The abstract machine: slices written out, appends. -/
import Derived.Test.YtabkianhbgpfgaaAmNew
namespace Go.Am
open Go Go.RowKit

/-- parts taken in, each with what it owns -/
def PT (c : Cx) : List (Nat × T) → List (Nat × Value) → List Nat → Prop
  | [], vs, M => vs = [] ∧ M = []
  | (i, t) :: ps, vs, M => ∃ v r M1 M2, vs = (i, v) :: r ∧ M = M1 ++ M2 ∧ TC c t v.cells.toList M1 ∧ PT c ps r M2
theorem PT.ext {c c' : Cx} (h : Ext c c') : ∀ (ps : List (Nat × T)) (vs : List (Nat × Value)) (M : List Nat), Kept c c' M → PT c ps vs M → PT c' ps vs M
  | [], _, _, _, hp => hp
  | (i, t) :: ps, vs, M, hk, hp => by
    obtain ⟨v, r, M1, M2, h1, rfl, h3, h4⟩ := hp
    exact ⟨v, r, M1, M2, h1, rfl, TC.ext h _ _ _ hk.left h3, PT.ext h ps r M2 hk.right h4⟩

theorem foldl_seg (off : Nat) : ∀ (l : List Value) (n : Nat) (cells : Array Value), off + n + l.length ≤ cells.size →
    ((l.zipIdx n).foldl (fun (cs : Array Value) (p : Value × Nat) => cs.setIfInBounds (off + p.2) p.1) cells) = (cells.toList.take (off + n) ++ l ++ cells.toList.drop (off + n + l.length)).toArray
  | [], n, cells, _ => by simp
  | v :: rest, n, cells, h => by
    simp only [List.zipIdx_cons, List.foldl_cons]
    rw [foldl_seg off rest (n + 1) _ (by simp at h ⊢; omega)]
    have e := list_seg_step cells.toList (off + n) v rest (by simp at h ⊢; omega)
    congr 1
    simpa [Array.toList_setIfInBounds, Nat.add_assoc] using e
theorem fill_cons {place : Nat → Option (Nat × Nat)} {cells : Array Value} {i off size : Nat} {v : Value} {rest : List (Nat × Value)} (hp : place i = some (off, size)) (hs : v.cells.size = size) (hf : off + size ≤ cells.size) :
    Instr.fill place cells ((i, v) :: rest) = Instr.fill place (cells.toList.take off ++ v.cells.toList ++ cells.toList.drop (off + size)).toArray rest := by
  simp only [Instr.fill, hp]
  have h1 : (decide (v.cells.size ≠ size) || decide (off + v.cells.size > cells.size)) = false := by simp; omega
  rw [show (v.cells.size ≠ size || decide (off + v.cells.size > cells.size)) = false from h1]
  simp only [Bool.false_eq_true, if_false]
  congr 1
  have := foldl_seg off v.cells.toList 0 cells (by simp; omega)
  simp only [Nat.add_zero, Array.length_toList, hs] at this
  rw [← this, ← Array.foldl_toList]
  congr 1
  simp

/-- a row, part after part -/
theorem fill_ok {c : Cx} {sz : Nat} (hsz : 0 < sz) : ∀ (ps : List (Nat × T)) (vs : List (Nat × Value)) (M : List Nat) (es es' : List T) (cells : Array Value) (M0 : List Nat), PT c ps vs M → (∀ p ∈ ps, p.2.nc = sz) → TE c es sz cells.toList M0 → (M0 ++ M).Nodup → setAt es ps = some es' →
    ∃ (cells' : Array Value) (M' : List Nat), Instr.fill (fun i => some (i * sz, sz)) cells vs = some cells' ∧ TE c es' sz cells'.toList M' ∧ M'.Nodup ∧ ∀ b ∈ M', b ∈ M0 ++ M
  | [], vs, M, es, es', cells, M0, hp, _, ht, hn, hs => by
    obtain ⟨rfl, rfl⟩ := hp
    simp only [setAt, Option.some.injEq] at hs
    subst hs
    exact ⟨cells, M0, rfl, ht, by simpa using hn, by simp⟩
  | (i, t) :: ps, vs, M, es, es', cells, M0, hp, hnc, ht, hn, hs => by
    obtain ⟨v, r, M1, M2, rfl, rfl, h3, h4⟩ := hp
    simp only [setAt] at hs
    split at hs
    · rename_i hi
      have hl := TE.len _ _ _ _ ht
      have hv : v.cells.size = sz := by rw [← Array.length_toList, TC.len _ _ _ h3]; exact hnc (i, t) (by simp)
      have hi1 : i * sz + sz ≤ cells.size := by
        have : (i + 1) * sz ≤ es.length * sz := Nat.mul_le_mul_right _ hi
        rw [Nat.add_mul, Nat.one_mul] at this
        have := hl.1
        simp at this
        omega
      rw [fill_cons rfl hv hi1]
      obtain ⟨c1, L, Se, R, k1, k2, k3, k4, k5, k6, k7⟩ := TE.get ht (List.getElem?_eq_getElem hi)
      have hput := TE.put (c := c) (c' := c) ⟨fun _ _ hp => ⟨hp, rfl⟩, Nat.le_refl _, fun _ _ => rfl⟩ hi k6 k7 (fun _ _ => rfl) (by simp [hv]) h3
      subst k4
      have hn' : (L ++ M1 ++ R ++ M2).Nodup := by
        have hsub : (L ++ M1 ++ R ++ M2).Perm (L ++ R ++ (M1 ++ M2)) := by
          rw [List.append_assoc, List.append_assoc, List.append_assoc]
          refine List.Perm.append_left L ?_
          exact List.perm_append_comm_assoc M1 R M2
        rw [hsub.nodup_iff]
        refine List.Nodup.sublist ?_ hn
        refine List.Sublist.append (List.Sublist.append ?_ (List.Sublist.refl _)) (List.Sublist.refl _)
        exact List.sublist_append_left _ _
      obtain ⟨cells', M', f1, f2, f3, f4⟩ := fill_ok hsz ps r M2 _ es' (cells.toList.take (i * sz) ++ v.cells.toList ++ cells.toList.drop (i * sz + sz)).toArray _ h4 (fun p hp => hnc p (by simp [hp])) (by simpa using hput) hn' hs
      refine ⟨cells', M', f1, f2, f3, fun b hb => ?_⟩
      have := f4 b hb
      simp only [List.mem_append] at this ⊢
      grind
    · cases hs

section
variable {P : Program} {A : Av} {ρ : Nat → Nat} {S : Root → List Nat} {hd : Root → Value} {fl : List Nat} {k k' : Wk} {vals : List (SV × Value)} {w : World}

theorem absorbP_ok {nv : Nat} : ∀ (l : List (Nat × SV)) (vs : List (Nat × Value)) (ps : List (Nat × T)) (k k' : Wk) (S : Root → List Nat) (fl : List Nat), KR A ρ S hd fl k vals w → All2 (fun (a : Nat × SV) (b : Nat × Value) => a.1 = b.1 ∧ (a.2, b.2) ∈ vals) l vs → absorbP nv l k = some (ps, k') →
    ∃ S' M, KR A ρ S' hd (M ++ fl) k' vals w ∧ Ext (cxOf A k.H.length ρ S fl w) (cxOf A k'.H.length ρ S' (M ++ fl) w) ∧ PT (cxOf A k'.H.length ρ S' (M ++ fl) w) ps vs M ∧ k'.H.length = k.H.length
  | [], vs, ps, k, k', S, fl, h, hall, e => by
    simp only [absorbP, Option.some.injEq, Prod.mk.injEq] at e
    obtain ⟨rfl, rfl⟩ := e
    rw [show vs = [] from hall]
    exact ⟨S, [], by simpa using h, by simpa using (⟨fun _ _ hp => ⟨hp, rfl⟩, Nat.le_refl _, fun _ _ => rfl⟩ : Ext _ _), ⟨rfl, rfl⟩, rfl⟩
  | (i, u) :: l, vs, ps, k, k', S, fl, h, hall, e => by
    simp only [absorbP, Option.bind_eq_some_iff, Option.map_eq_some_iff] at e
    obtain ⟨⟨t, k1⟩, e1, ⟨ts', k2⟩, e2, e3⟩ := e
    simp only [Prod.mk.injEq] at e3
    obtain ⟨rfl, rfl⟩ := e3
    obtain ⟨⟨i', v⟩, r, rfl, ⟨hi, hv⟩, hrest⟩ := hall
    simp only at hi hv
    subst hi
    obtain ⟨S1, M1, g1, g2, g3, g4⟩ := absorb_ok h hv e1
    obtain ⟨S2, M2, p1, p2, p3, p4⟩ := absorbP_ok l r ts' k1 k2 S1 (M1 ++ fl) g1 hrest e2
    have hperm : (M2 ++ (M1 ++ fl)).Perm ((M1 ++ M2) ++ fl) := by
      rw [List.append_assoc]
      exact List.perm_append_comm_assoc M2 M1 fl
    obtain ⟨p1', e1'⟩ := p1.perm hperm
    rw [e1'] at p2 p3
    refine ⟨S2, M1 ++ M2, p1', ⟨fun b g hp => ?_, Nat.le_trans g2.nO p2.nO, fun o ho => rfl⟩, ?_, p4.trans g4⟩
    · have q1 := g2.pm b g hp
      have q2 := p2.pm b g q1.1
      exact ⟨q2.1, q2.2.trans q1.2⟩
    · exact ⟨v, r, M1, M2, rfl, rfl, TC.ext p2 _ _ _ (fun _ _ => rfl) g3, p3⟩

theorem elemOf_ok {t e : TypeId} (h : elemOf P t = some e) : P.underlying t = some (.slice e) := by
  unfold elemOf at h
  split at h
  · simp only [Option.some.injEq] at h; subst h; assumption
  · cases h

theorem buildSliceE_ok {nv dst : Nat} {lit : Bool} {t : TypeId} {len : Nat} {l : List (Nat × SV)} {vs : List (Nat × Value)} {sv : SV} (h : KR A ρ S hd fl k vals w) (hall : All2 (fun (a : Nat × SV) (b : Nat × Value) => a.1 = b.1 ∧ (a.2, b.2) ∈ vals) l vs)
    (e : buildSliceE P nv dst lit t len l k = some (sv, k')) : ∃ v w' ρ' S' hd', (Instr.buildSlice t len vs.toArray).run P w = .ok v w' ∧ KR A ρ' S' hd' fl k' vals w' ∧ SO (cxOf A k'.H.length ρ' S' fl w') k'.get hd' sv v := by
  simp only [buildSliceE, Option.bind_eq_some_iff] at e
  obtain ⟨ty, h1, z, h2, ⟨ps, k1⟩, h3, e⟩ := e
  split at e
  · rename_i hh
    obtain ⟨a1, a2, a3, a4⟩ := hh
    simp only [Option.bind_eq_some_iff] at e
    obtain ⟨es, hes, e⟩ := e
    have hu := elemOf_ok h1
    obtain ⟨i, zv, b1, b2, b3, hzr⟩ := zeroOf_ok h2
    have hcells : P.cellsOf ty = i.size := by simp [Program.cellsOf, b1]
    obtain ⟨S1, M, g1, g2, g3, g4⟩ := absorbP_ok l vs ps k k1 S fl h hall h3
    have hzv := ofVal_ok (c := cxOf A k1.H.length ρ S1 (M ++ fl) w) b3
    have hzs : zv.cells.size = i.size := by rw [← Array.length_toList, VC.len _ _ hzv.1, a4, hcells]
    have hpos : 0 < i.size := by rw [← hcells]; exact a1
    have hn := g1.dis.ndF
    rw [List.nodup_append] at hn
    have hz0 := ofZero_ok hzv.1
    have hte : TE (cxOf A k1.H.length ρ S1 (M ++ fl) w) (List.replicate len (T.ofZero z)) i.size (madeCells zv.cells (len * i.size)).toList [] :=
      zeros_ok hz0 (by simp [hzs]) len _ (by simp [size_madeCells]) (fun j hj => by rw [madeCells_get _ _ _ hj (by omega), hzs])
    obtain ⟨cells', M', f1, f2, f3, f4⟩ := fill_ok hpos ps vs M _ es _ [] g3 (fun p hp => by
      have := List.all_eq_true.1 a2 p hp
      rw [← hcells]; simpa using this) hte (by simpa using hn.1) hes
    have hlen : es.length = len := by
      have : ∀ (ps : List (Nat × T)) (es es' : List T), setAt es ps = some es' → es'.length = es.length := by
        intro ps
        induction ps with
        | nil => intro es es' h; simp only [setAt, Option.some.injEq] at h; rw [h]
        | cons p ps ih =>
          intro es es' h
          simp only [setAt] at h
          split at h
          · rw [ih _ _ h]; simp
          · cases h
      rw [this ps _ es hes]; simp
    have hrun : (Instr.buildSlice t len vs.toArray).run P w = .ok (.slice (some ⟨w.heap.size, 0, none⟩) len len) (w.alloc (.cells cells' ty)) := by
      have hle : ¬ (len * i.size > 2 ^ 24) := by rw [← hcells]; simp only [Nat.not_lt]; exact a3
      have hf : Instr.fill (fun i_1 => some (i_1 * i.size, i.size)) (madeCells zv.cells (len * i.size)) vs = some cells' := f1
      by_cases h0 : len = 0
      · have hf0 : Instr.fill (fun i_1 => some (i_1 * i.size, i.size)) #[] vs = some cells' := by
          have hm : madeCells zv.cells 0 = #[] := Array.eq_empty_of_size_eq_zero (size_madeCells _ _)
          rw [h0, Nat.zero_mul, hm] at hf; exact hf
        subst h0
        have hr0 : ∀ f : Nat → Value, (Array.range 0).map f = #[] := fun f => Array.eq_empty_of_size_eq_zero (by simp)
        simp [Instr.buildSlice, run_underlying hu, sizeOf, typeInfo, b1, newRow, hr0, hf0]
      · have hle' : ¬ (16777216 < len * i.size) := by simpa using hle
        have hf' : Instr.fill (fun i_1 => some (i_1 * i.size, i.size)) (Array.map (fun x => zv.cells[x % zv.cells.size]!) (Array.range (len * i.size))) vs = some cells' := hf
        have hne : len * i.size ≠ 0 := Nat.mul_ne_zero h0 (by omega)
        simp [Instr.buildSlice, run_underlying hu, sizeOf, typeInfo, b1, hle', zeroValue, b2, newRow, hf', hne]
    obtain ⟨g5, g6⟩ := g1.alloc (.cells cells' ty)
    have hte2 := TE.ext g6 _ _ _ _ (fun b hb => Below.heap_alloc w _ b (g1.blk b (.inr (by have := f4 b hb; simp at this; simp [this]))).1) f2
    have hsz := (TE.len _ _ _ _ f2).1
    -- the row, and which blocks float
    have fin : ∀ N, N.Nodup → (∀ b ∈ N, b ∈ w.heap.size :: M) → TC (cxOf A k1.H.length ρ S1 ((w.heap.size :: M) ++ fl) (w.alloc (.cells cells' ty))) (.own es) [.slice (some ⟨w.heap.size, 0, none⟩) len len] N →
        ∃ v w' ρ' S' hd', (Instr.buildSlice t len vs.toArray).run P w = .ok v w' ∧ KR A ρ' S' hd' fl k' vals w' ∧ SO (cxOf A k'.H.length ρ' S' fl w') k'.get hd' sv v := by
      intro N hN1 hN2 hrow
      have hn2 := g5.dis.ndF
      rw [List.nodup_append] at hn2
      split at e
      · split at e
        · simp only [Option.map_eq_some_iff, Prod.mk.injEq] at e
          obtain ⟨ds, hds, rfl, rfl⟩ := e
          obtain ⟨g7, g8⟩ := g5.letGo (fl' := fl) hn2.2.1 (fun b hb => List.mem_append_right _ hb)
          refine ⟨_, _, ρ, _, _, hrun, g7, VV.one (T.frz_ok g8 false (.own es) (.sl false ds) _ N (by simp [T.frz, hds]) (fun g hg => ?_) hrow) (by simp)⟩
          have hm := hN2 g hg
          have hb := g5.blk g (.inr (List.mem_append_left _ hm))
          refine ⟨⟨fun ho => ?_, hb.2.1 _, hb.1⟩, rfl⟩
          rcases ho with ⟨r, ho⟩ | ho
          · exact g5.dis.oneF r g ho (List.mem_append_left _ hm)
          · exact hn2.2.2 g hm g ho rfl
        · cases e
      simp only [Option.some.injEq, Prod.mk.injEq] at e
      obtain ⟨rfl, rfl⟩ := e
      obtain ⟨g7, g8⟩ := g5.letGo (fl' := N ++ fl) (by
        rw [List.nodup_append]
        exact ⟨hN1, hn2.2.1, fun a ha b hb => hn2.2.2 a (hN2 a ha) b hb⟩) (fun b hb => by
        rcases List.mem_append.1 hb with q | q
        · exact List.mem_append_left _ (hN2 b q)
        · exact List.mem_append_right _ q)
      have hrow' := TC.ext g8 _ _ _ (fun _ _ => rfl) hrow
      obtain ⟨n1, n2⟩ := g7.newRoot (n := dst) (j := 0) hrow'
      refine ⟨_, _, ρ, _, _, hrun, n1, ?_⟩
      have := new_bor (dst := dst) (k0 := k1) (hd' := upd hd (.l dst 0) (.slice (some ⟨w.heap.size, 0, none⟩) len len)) (TC.ext n2 _ _ _ (fun _ _ => rfl) hrow') (by simp)
      rw [hlen] at this
      exact this
    by_cases h0 : len = 0
    · refine fin [] (by simp) (by simp) ?_
      have : es = [] := List.eq_nil_of_length_eq_zero (hlen.trans h0)
      subst this; subst h0
      exact .inl ⟨_, rfl, rfl, rfl⟩
    · refine fin (w.heap.size :: M') (List.nodup_cons.2 ⟨fun hc => ?_, f3⟩) (fun b hb => ?_) ?_
      · have := f4 _ hc
        simp at this
        exact absurd (g1.blk _ (.inr (by simp [this]))).1 (Nat.lt_irrefl _)
      · rcases List.mem_cons.1 hb with rfl | hb
        · simp
        · have := f4 b hb; simp at this; simp [this]
      · simp only [TC]
        refine .inr ⟨w.heap.size, len, cells', ty, i.size, M', by rw [hlen], rfl, by simpa [cxOf] using heap_alloc_new w _, by omega, ?_, ?_, ?_, ?_⟩
        · rw [hcells] at a3
          refine le_maxLen (Nat.le_trans (Nat.le_mul_of_pos_right len hpos) (Nat.le_trans a3 (by decide)))
        · simp only [Array.length_toList] at hsz; rw [hsz, hlen]; exact Nat.le_refl _
        · rw [hlen]; exact Nat.mul_pos (by omega) hpos
        · rw [List.take_of_length_le (by rw [hsz]; exact Nat.le_refl _)]; exact hte2
  · cases e
end
end Go.Am
