/- The abstract machine: trees frozen to pure data; a slot's value taken into a tree. -/
import Derived.Test.YtabkianhbgpfgaaAmKeep
namespace Go.Am
open Go

theorem VE.shift {c : Cx} {a a' : Addr} : ∀ (l : List D) (o o' sz : Nat), (∀ j, a'.add (o' + j) = a.add (o + j)) → VE c l a o sz → VE c l a' o' sz
  | [], _, _, _, _, _ => by simp [VE]
  | d :: ds, o, o', sz, he, h => by
    simp only [VE] at h ⊢
    obtain ⟨⟨cs, h1, h2, h3⟩, h4⟩ := h
    refine ⟨⟨cs, h1, fun j v hj => by rw [he]; exact h2 j v hj, h3⟩, VE.shift ds (o + sz) (o' + sz) sz (fun j => ?_) h4⟩
    have := he (sz + j)
    rwa [← Nat.add_assoc, ← Nat.add_assoc] at this
theorem VE.drop {c : Cx} {a : Addr} : ∀ (n : Nat) (l : List D) (o sz : Nat), VE c l a o sz → VE c (l.drop n) a (o + n * sz) sz
  | 0, l, o, sz, h => by simpa using h
  | n + 1, [], o, sz, h => by simp [VE]
  | n + 1, d :: ds, o, sz, h => by
    simp only [VE] at h
    have := VE.drop n ds (o + sz) sz h.2
    simp only [List.drop_succ_cons]
    rwa [show o + (n + 1) * sz = o + sz + n * sz by rw [Nat.add_mul]; omega]
theorem VE.take {c : Cx} {a : Addr} : ∀ (n : Nat) (l : List D) (o sz : Nat), VE c l a o sz → VE c (l.take n) a o sz
  | 0, l, o, sz, _ => by simp [VE]
  | n + 1, [], o, sz, h => by simp [VE]
  | n + 1, d :: ds, o, sz, h => by
    simp only [VE, List.take_succ_cons] at h ⊢
    exact ⟨h.1, VE.take n ds (o + sz) sz h.2⟩
theorem VE.win {c : Cx} {a : Addr} {l : List D} {o sz : Nat} (h : VE c l a o sz) (n m : Nat) : VE c (Go.Am.win l n m) a (o + n * sz) sz := VE.take m _ _ sz (VE.drop n l o sz h)

theorem T.frzs_len (b : Bool) : ∀ (ts : List T) (ds : List D), T.frzs b ts = some ds → ds.length = ts.length
  | [], ds, h => by simp only [T.frzs, Option.some.injEq] at h; subst h; rfl
  | t :: ts, ds, h => by
    simp only [T.frzs, Option.bind_eq_some_iff, Option.map_eq_some_iff] at h
    obtain ⟨x, _, r, h2, rfl⟩ := h
    simp [T.frzs_len b ts r h2]
/-- what is let go, or lent, is pure -/
def Pure (c c' : Cx) (b : Bool) (S : List Nat) : Prop := ∀ g ∈ S, c'.pm b g ∧ c'.w.heap[g]? = c.w.heap[g]?
theorem Pure.left {c c' : Cx} {b : Bool} {X Y : List Nat} (h : Pure c c' b (X ++ Y)) : Pure c c' b X := fun g hg => h g (List.mem_append_left _ hg)
theorem Pure.right {c c' : Cx} {b : Bool} {X Y : List Nat} (h : Pure c c' b (X ++ Y)) : Pure c c' b Y := fun g hg => h g (List.mem_append_right _ hg)

mutual
theorem T.frz_ok {c c' : Cx} (hx : Ext c c') (b : Bool) : ∀ (t : T) (x : D) (cs : List Value) (S : List Nat), T.frz b t = some x → Pure c c' b S → TC c t cs S → VC c' x cs
  | .d y, x, cs, S, h, _, ht => by
    simp only [T.frz, Option.some.injEq] at h
    subst h
    simp only [TC] at ht
    exact VC.ext hx _ _ ht.2.norm
  | .agg ts, x, cs, S, h, hp, ht => by
    simp only [T.frz, Option.map_eq_some_iff] at h
    obtain ⟨l, h1, rfl⟩ := h
    simp only [TC] at ht
    simp only [VC]
    exact T.frzs_cells hx b ts l cs S h1 hp ht
  | .own es, x, cs, S, h, hp, ht => by
    simp only [T.frz, Option.map_eq_some_iff] at h
    obtain ⟨l, h1, rfl⟩ := h
    have hlen := T.frzs_len b es l h1
    rcases ht with ⟨a, k1, k2, _⟩ | ⟨g, cap, cur, e, sz, S', k1, k2, k3, k4, k5, k6, k7, k8⟩
    · subst k2
      simp only [T.frzs, Option.some.injEq] at h1
      subst h1
      simp only [VC]
      exact ⟨a, 0, 0, k1, rfl, Nat.le_refl _, fun hne => absurd rfl hne⟩
    · subst k2
      have hg := hp g (by simp)
      simp only [VC]
      refine ⟨some ⟨g, 0, none⟩, es.length, cap, k1, hlen.symm, k4, fun hne => ⟨⟨g, 0, none⟩, sz, rfl, rfl, hg.1, Nat.pos_of_mul_pos_left k7, ?_⟩⟩
      refine T.frzs_elems hx b es l sz _ S' h1 (fun y hy => hp y (by simp [hy])) k8 ⟨g, 0, none⟩ 0 (fun j v hj => ?_)
      rw [add_plain', World.cell?, hg.2, k3]
      simp only [Nat.zero_add, Option.isSome_none]
      rw [List.getElem?_take] at hj
      split at hj
      · simpa using hj
      · cases hj
  | .dead, x, cs, S, h, _, _ => by simp [T.frz] at h
theorem T.frzs_cells {c c' : Cx} (hx : Ext c c') (b : Bool) : ∀ (ts : List T) (ds : List D) (cs : List Value) (S : List Nat), T.frzs b ts = some ds → Pure c c' b S → TCs c ts cs S → VCs c' ds cs
  | [], ds, cs, S, h, _, ht => by
    simp only [T.frzs, Option.some.injEq] at h
    subst h
    simp only [TCs] at ht
    simp [VCs, ht.1]
  | t :: ts, ds, cs, S, h, hp, ht => by
    simp only [T.frzs, Option.bind_eq_some_iff, Option.map_eq_some_iff] at h
    obtain ⟨x, h1, r, h2, rfl⟩ := h
    simp only [TCs] at ht
    obtain ⟨v, q, S1, S2, k1, k2, k3, k4⟩ := ht
    subst k2
    simp only [VCs]
    exact ⟨v, q, k1, T.frz_ok hx b t x _ S1 h1 hp.left k3, T.frzs_cells hx b ts r q S2 h2 hp.right k4⟩
theorem T.frzs_elems {c c' : Cx} (hx : Ext c c') (b : Bool) : ∀ (ts : List T) (ds : List D) (sz : Nat) (cs : List Value) (S : List Nat), T.frzs b ts = some ds → Pure c c' b S → TE c ts sz cs S →
    ∀ (a : Addr) (o : Nat), (∀ j v, cs[j]? = some v → c'.w.cell? (a.add (o + j)) = some v) → VE c' ds a o sz
  | [], ds, sz, cs, S, h, _, _ => by
    simp only [T.frzs, Option.some.injEq] at h
    subst h
    simp [VE]
  | t :: ts, ds, sz, cs, S, h, hp, ht => by
    simp only [T.frzs, Option.bind_eq_some_iff, Option.map_eq_some_iff] at h
    obtain ⟨x, h1, r, h2, rfl⟩ := h
    simp only [TE] at ht
    obtain ⟨c1, c2, S1, S2, k1, k2, k3, k4, k5⟩ := ht
    subst k1; subst k2
    intro a o hr
    simp only [VE]
    refine ⟨⟨c1, k3, fun j v hj => hr j v (by rw [List.getElem?_append_left (List.getElem?_eq_some_iff.1 hj).1]; exact hj), T.frz_ok hx b t x _ S1 h1 hp.left k4⟩,
      T.frzs_elems hx b ts r sz c2 S2 h2 hp.right k5 a (o + sz) (fun j v hj => ?_)⟩
    have := hr (sz + j) v (by rw [List.getElem?_append_right (by omega), k3]; simpa using hj)
    rwa [← Nat.add_assoc] at this
end

/-- a window on a frozen row -/
theorem frz_win {c c' : Cx} (hx : Ext c c') {b : Bool} {es : List T} {l : List D} {h' v : Value} {Sn : List Nat} (hf : T.frzs b es = some l) (hp : Pure c c' b Sn) (ht : TC c (.own es) [h'] Sn) {off len : Nat} (hle : off + len ≤ es.length) (hw : Win h' es off len v) :
    VC c' (.sl b (win l off len)) [v] := by
  have hlen := T.frzs_len b es l hf
  obtain ⟨a, n, cap, a', cap', m1, m2, m3, m4, m5⟩ := hw
  subst m2
  have hwl : (win l off len).length = len := by simp only [win, List.length_take, List.length_drop]; omega
  simp only [VC]
  refine ⟨a', len, cap', rfl, hwl.symm, m3, fun hne => ?_⟩
  have hl0 : 0 < len := by
    rcases Nat.eq_zero_or_pos len with h0 | h0
    · subst h0; simp [win] at hne
    · exact h0
  obtain ⟨g, el, n1, n2, n3⟩ := m5 hl0
  rcases ht with ⟨a0, k1, k2, _⟩ | ⟨g0, cap0, cur, e, sz, S', k1, k2, k3, k4, k5, k6, k7, k8⟩
  · subst k2; simp at n2
  · subst k2; subst n1
    simp only [List.cons.injEq, and_true] at k1
    rw [m1] at k1
    simp only [Value.slice.injEq, Option.some.injEq, Addr.mk.injEq, and_true] at k1
    obtain ⟨k1, _, _⟩ := k1
    subst k1
    have hnc : el.nc = sz := (TE.len _ _ _ _ k8).2 el (List.mem_of_getElem? n2)
    have hg := hp g (by simp)
    refine ⟨⟨g, off * el.nc, none⟩, sz, n3, rfl, hg.1, Nat.pos_of_mul_pos_left k7, ?_⟩
    have hv : VE c' l ⟨g, 0, none⟩ 0 sz := T.frzs_elems hx b es l sz _ S' hf (fun y hy => hp y (by simp [hy])) k8 ⟨g, 0, none⟩ 0 (fun j v hj => by
      rw [add_plain', World.cell?, hg.2, k3]
      simp only [Nat.zero_add, Option.isSome_none]
      rw [List.getElem?_take] at hj
      split at hj
      · simpa using hj
      · cases hj)
    refine VE.shift _ (0 + off * sz) 0 sz (fun j => ?_) (hv.win off len)
    rw [add_plain', add_plain', hnc]
    simp

/-- the whole row, under another header -/
theorem Win.whole {c : Cx} {es : List T} {h' v : Value} {Sn : List Nat} (hw : Win h' es 0 es.length v) (ht : TC c (.own es) [h'] Sn) : TC c (.own es) [v] Sn := by
  obtain ⟨a, n, cap, a', cap', m1, m2, m3, m4, m5⟩ := hw
  obtain ⟨q1, q2⟩ := m4 rfl
  subst m2; subst q1
  rcases ht with ⟨a0, k1, k2, k3⟩ | ⟨g, cap0, cur, e, sz, S', k1, k2, k3, k4, k5, k6, k7, k8⟩
  · subst k2; subst k3
    rw [m1] at k1
    simp only [List.cons.injEq, Value.slice.injEq, and_true] at k1
    obtain ⟨rfl, _, rfl⟩ := k1
    have : cap' = 0 := by omega
    subst this
    exact .inl ⟨a', rfl, rfl, rfl⟩
  · rw [m1] at k1
    simp only [List.cons.injEq, Value.slice.injEq, and_true] at k1
    obtain ⟨rfl, _, rfl⟩ := k1
    exact .inr ⟨g, cap', cur, e, sz, S', rfl, k2, k3, m3, Nat.le_trans q2 k5, Nat.le_trans (Nat.mul_le_mul_right _ q2) k6, k7, k8⟩

section
variable {A : Av} {ρ : Nat → Nat} {S : Root → List Nat} {hd : Root → Value} {fl : List Nat} {k k' : Wk} {vals : List (SV × Value)} {w : World} {nv : Nat}

theorem at_put_ok : ∀ (p : Path) (t nd nd' : T), t.at p = some nd → nd'.nc = 1 → ∃ t', t.put p nd' = some t'
  | [], _, _, nd', _, _ => ⟨nd', rfl⟩
  | (i, off) :: p, t, nd, nd', h, h1 => by
    cases t with
    | own es =>
      simp only [T.at, Option.bind_eq_some_iff] at h
      obtain ⟨e, he, c, hc, h⟩ := h
      obtain ⟨c', hc'⟩ := at_put_ok p c nd nd' h h1
      exact ⟨_, by simp only [T.put, he, hc, hc', Option.bind_some, Option.map_some]; rfl⟩
    | _ => simp [T.at] at h

theorem trv_append (a : List Tr) (x : Tr) (u : SV) : trv (a ++ [x]) u = x.sv (trv a u) := by
  induction a generalizing u with
  | nil => rfl
  | cons y a ih => simp only [List.cons_append, trv]; exact ih _

/-- a row is taken out: it floats from now on -/
theorem KR.takeOut (h : KR A ρ S hd fl k vals w) {r : Root} {t t' : T} {p : Path} {es : List T} {h' : Value} {L Sn R : List Nat}
    (hr : k.get r = some t) (hS : S r = L ++ Sn ++ R) (hf : Focus (cxOf A k.H.length ρ S fl w) t (hd r) p (.own es) h' L Sn R)
    (hp : t.put p .dead = some t') (hs : k.set r t' = some k') :
    KR A ρ (upd S r (L ++ R)) hd (Sn ++ fl) (k'.tell (.kill r p)) vals w ∧ Ext (cxOf A k.H.length ρ S fl w) (cxOf A k.H.length ρ (upd S r (L ++ R)) (Sn ++ fl) w) := by
  have hext : Ext (cxOf A k.H.length ρ S fl w) (cxOf A k.H.length ρ (upd S r (L ++ R)) (Sn ++ fl) w) := (WS.stay (fun b hb => (Own.detach hS).1 hb)).ext (Nat.le_refl _) (fun _ _ => rfl)
  exact h.giveUp (.kill r p) hr hS hf hp rfl hs (.inl rfl) (by simp only [TC]; exact ⟨trivial, h', rfl, TC.ones _ _ _ hf.tc _ (by simp)⟩) (fun u v hh hu => SO.kill hext r p hh hu)
/-- a row is frozen where it stands -/
theorem KR.freeze (h : KR A ρ S hd fl k vals w) {r : Root} {t t' nd' : T} {p : Path} {es : List T} {l : List D} {h' : Value} {L Sn R : List Nat}
    (hr : k.get r = some t) (hS : S r = L ++ Sn ++ R) (hf : Focus (cxOf A k.H.length ρ S fl w) t (hd r) p (.own es) h' L Sn R) (hat : t.at p = some (.own es)) (hl : T.frzs false es = some l)
    (hnd : nd' = .dead ∨ nd' = .d (.sl false l)) (hp : t.put p nd' = some t') (hs : k.set r t' = some k') :
    KR A ρ (upd S r (L ++ R)) hd fl (k'.tell (.frz r p l)) vals w ∧ Ext (cxOf A k.H.length ρ S fl w) (cxOf A k.H.length ρ (upd S r (L ++ R)) fl w) ∧
      Pure (cxOf A k.H.length ρ S fl w) (cxOf A k.H.length ρ (upd S r (L ++ R)) fl w) false Sn := by
  have hext : Ext (cxOf A k.H.length ρ S fl w) (cxOf A k.H.length ρ (upd S r (L ++ R)) fl w) := (WS.stay (fun b hb => Own.drop hS hb)).ext (Nat.le_refl _) (fun _ _ => rfl)
  have hSn : ∀ b ∈ Sn, b ∈ S r := fun b hb => by rw [hS]; simp [hb]
  have hpure : Pure (cxOf A k.H.length ρ S fl w) (cxOf A k.H.length ρ (upd S r (L ++ R)) fl w) false Sn := fun g hg => by
    have hb := h.blk g (.inl ⟨r, hSn g hg⟩)
    refine ⟨⟨fun ho => ?_, hb.2.1 _, hb.1⟩, rfl⟩
    rcases ho with ⟨r', ho⟩ | ho
    · by_cases hne : r' = r
      · subst hne
        rw [upd_same] at ho
        have := h.dis.nd r'
        rw [hS] at this
        simp only [List.nodup_append, List.append_assoc] at this
        rcases List.mem_append.1 ho with ho | ho
        · exact this.2.2 g ho g (by simp [hg]) rfl
        · exact this.2.1.2.2 g hg g ho rfl
      · rw [upd_other _ _ hne] at ho
        exact hne (h.dis.one r' r g ho (hSn g hg))
    · exact h.dis.oneF r g (hSn g hg) ho
  have hvc : ∀ off len v, SB (cxOf A k.H.length ρ S fl w) k.get hd (.bor r p off len) v → VC (cxOf A k.H.length ρ (upd S r (L ++ R)) fl w) (.sl false (win l off len)) [v] := fun off len v hb => by
    obtain ⟨t0, es0, h0, b1, b2, b3, b4, b5⟩ := hb
    rw [hr] at b1
    simp only [Option.some.injEq] at b1
    subst b1
    rw [hat] at b2
    simp only [Option.some.injEq, T.own.injEq] at b2
    subst b2
    have : h0 = h' := NodeH.uniq p t (hd r) h0 h' b3 hf.node
    subst this
    exact frz_win hext hl hpure hf.tc b4 b5
  have := h.giveUp (M := []) (.frz r p l) hr hS hf hp (by rcases hnd with rfl | rfl <;> rfl) hs (.inr rfl) (by
    rcases hnd with rfl | rfl
    · simp only [TC]; exact ⟨trivial, h', rfl, TC.ones _ _ _ hf.tc _ (by simp)⟩
    · simp only [TC]
      exact ⟨trivial, T.frz_ok (c := cxOf A k.H.length ρ S fl w) hext false (.own es) _ _ Sn (by simp [T.frz, hl]) hpure hf.tc⟩) (fun u v hh hu => SO.frz hext r p l hh hvc hu)
  exact ⟨this.1, hext, hpure⟩

theorem cxOf_congr {S : Root → List Nat} {fl fl' : List Nat} (h : ∀ b, b ∈ fl ↔ b ∈ fl') (nO : Nat) : cxOf A nO ρ S fl w = cxOf A nO ρ S fl' w := by
  unfold cxOf
  have : (fun (t : Bool) (b : Nat) => ¬ Own S fl b ∧ ¬ A.F t b ∧ b < w.heap.size) = (fun t b => ¬ Own S fl' b ∧ ¬ A.F t b ∧ b < w.heap.size) := by
    funext t b
    simp only [Own, h]
  rw [this]
theorem KR.perm (h : KR A ρ S hd fl k vals w) {fl' : List Nat} (hp : fl.Perm fl') : KR A ρ S hd fl' k vals w ∧ cxOf A k.H.length ρ S fl w = cxOf A k.H.length ρ S fl' w := by
  have hm : ∀ b, b ∈ fl ↔ b ∈ fl' := fun b => hp.mem_iff
  have e := cxOf_congr (A := A) (ρ := ρ) (w := w) (S := S) hm k.H.length
  have ho : ∀ b, Own S fl' b → Own S fl b := fun b hb => hb.imp id (hm b).2
  refine ⟨⟨fun r t ht => by rw [← e]; exact h.cont r t ht, h.gone, h.obj, fun n es he => by rw [← e]; exact h.map n es he, h.dis.float (hp.nodup_iff.1 h.dis.ndF) (fun b hb => (hm b).2 hb), fun b hb => h.blk b (ho b hb), fun p hp => by rw [← e]; exact h.vals p hp, h.fr, h.Fold, h.rho⟩, e⟩
/-- floating blocks are let go -/
theorem KR.letGo (h : KR A ρ S hd fl k vals w) {fl' : List Nat} (hn : fl'.Nodup) (hs : ∀ b ∈ fl', b ∈ fl) : KR A ρ S hd fl' k vals w ∧ Ext (cxOf A k.H.length ρ S fl w) (cxOf A k.H.length ρ S fl' w) := by
  have hext : Ext (cxOf A k.H.length ρ S fl w) (cxOf A k.H.length ρ S fl' w) := (WS.stay (fun b hb => hb.imp id (hs b))).ext (Nat.le_refl _) (fun _ _ => rfl)
  refine ⟨⟨fun r t ht => TC.ext hext _ _ _ (fun _ _ => rfl) (h.cont r t ht), h.gone, h.obj, fun n es he => ?_, h.dis.float hn hs, fun b hb => h.blk b (hb.imp id (hs b)), fun p hp => ?_, h.fr, h.Fold, h.rho⟩, hext⟩
  · obtain ⟨m1, en, cl, m2, m3⟩ := h.map n es he
    exact ⟨m1, en, cl, m2, m3.imp (fun a _ b ⟨q1, y, q2, q3⟩ => ⟨VV.ext hext q1, y, q2, VV.ext hext q3⟩)⟩
  · exact SO.keep hext (fun r q => h.hold _ rfl rfl (fun _ _ => rfl) q) (h.vals p hp)

theorem set_hlen {r : Root} {t : T} (hs : k.set r t = some k') : k'.H.length = k.H.length := by
  cases r with
  | l n j => simp only [Wk.set, Option.some.injEq] at hs; subst hs; rfl
  | o n =>
    simp only [Wk.set] at hs
    split at hs
    · simp only [Option.some.injEq] at hs; subst hs; simp
    · cases hs

theorem absorb1_ok (h : KR A ρ S hd fl k vals w) {v : SV} {val : Value} {t : T} (hv : SB (cxOf A k.H.length ρ S fl w) k.get hd v val) (hnd : ∀ y, v ≠ .d y) (e : absorb1 nv v k = some (t, k')) :
    ∃ S' M, KR A ρ S' hd (M ++ fl) k' vals w ∧ Ext (cxOf A k.H.length ρ S fl w) (cxOf A k'.H.length ρ S' (M ++ fl) w) ∧ TC (cxOf A k'.H.length ρ S' (M ++ fl) w) t [val] M ∧ k'.H.length = k.H.length := by
  cases v with
  | d y => exact absurd rfl (hnd y)
  | clip b l =>
    simp only [absorb1, Option.some.injEq, Prod.mk.injEq] at e
    obtain ⟨rfl, rfl⟩ := e
    exact ⟨S, [], by simpa using h, by simpa using (⟨fun _ _ hp => ⟨hp, rfl⟩, Nat.le_refl _, fun _ _ => rfl⟩ : Ext _ _), by simp only [TC, List.nil_append]; exact ⟨trivial, hv.1⟩, rfl⟩
  | bor r p off len =>
    obtain ⟨t0, es, h', b1, b2, b3, b4, b5⟩ := hv
    obtain ⟨h0, L, Sn, R, hS, foc⟩ := TC.focus p t0 (hd r) (S r) (.own es) (h.cont r t0 b1) b2
    have hh : h0 = h' := NodeH.uniq p t0 (hd r) h0 h' foc.node b3
    subst hh
    simp only [absorb1, b1, b2, Option.bind_some] at e
    -- a frozen row
    have frozen : ∀ (nd' : T) (k0 : Wk) (l : List D) (t1 : T), T.frzs false es = some l → (nd' = .dead ∨ nd' = .d (.sl false l)) → t0.put p nd' = some t1 → k.set r t1 = some k0 →
        (T.d (.sl false (win l off len)), k0.tell (.frz r p l)) = (t, k') →
        ∃ S' M, KR A ρ S' hd (M ++ fl) k' vals w ∧ Ext (cxOf A k.H.length ρ S fl w) (cxOf A k'.H.length ρ S' (M ++ fl) w) ∧ TC (cxOf A k'.H.length ρ S' (M ++ fl) w) t [val] M ∧ k'.H.length = k.H.length := by
      intro nd' k0 l t1 f1 f2 f3 f4 f5
      simp only [Prod.mk.injEq] at f5
      obtain ⟨rfl, rfl⟩ := f5
      obtain ⟨g1, g2, g3⟩ := h.freeze b1 hS foc b2 f1 f2 f3 f4
      have hl : (k0.tell (.frz r p l)).H.length = k.H.length := set_hlen (k' := k0) f4
      refine ⟨_, [], by simpa using g1, by rw [hl]; simpa using g2, ?_, hl⟩
      rw [hl]
      simp only [TC, List.nil_append]
      exact ⟨trivial, frz_win g2 f1 g3 foc.tc b4 b5⟩
    split at e
    · rename_i n j
      split at e
      · rename_i hc
        obtain ⟨_, rfl, rfl⟩ := hc
        simp only [T.at, Option.some.injEq] at b2
        subst b2
        simp only [Wk.set, Option.map_some, Option.some.injEq, Prod.mk.injEq] at e
        obtain ⟨rfl, rfl⟩ := e
        obtain ⟨g1, g2⟩ := h.takeOut (k' := { k with ct := ((n, j), .dead) :: k.ct }) (t' := .dead) b1 hS foc rfl rfl
        refine ⟨_, Sn, g1, g2, ?_, rfl⟩
        exact b5.whole (TC.ext g2 _ _ _ (fun _ _ => rfl) foc.tc)
      · simp only [Option.bind_eq_some_iff, Option.map_eq_some_iff] at e
        obtain ⟨l, f1, k0, f2, f3⟩ := e
        exact frozen .dead k0 l .dead f1 (.inl rfl) rfl f2 f3
    · simp only [Option.bind_eq_some_iff, Option.map_eq_some_iff] at e
      obtain ⟨l, f1, c', f2, k0, f3, f4⟩ := e
      exact frozen _ k0 l c' f1 (.inr rfl) f2 f3 f4
  | agg l => exact hv.elim
  | tup l => exact hv.elim
  | _ => simp [absorb1] at e

theorem absorbs_ok : ∀ (l : List SV) (vs : List Value) (ts : List T) (k k' : Wk) (S : Root → List Nat) (fl : List Nat), KR A ρ S hd fl k vals w →
    (∀ k0 S0 fl0, KR A ρ S0 hd fl0 k0 vals w → k0.H.length = k.H.length → All2 (fun u v => CO (cxOf A k0.H.length ρ S0 fl0 w) k0.get hd (trv k0.tr u) v) l vs) → absorbs nv l k = some (ts, k') →
    ∃ S' M, KR A ρ S' hd (M ++ fl) k' vals w ∧ Ext (cxOf A k.H.length ρ S fl w) (cxOf A k'.H.length ρ S' (M ++ fl) w) ∧ TCs (cxOf A k'.H.length ρ S' (M ++ fl) w) ts vs M ∧ k'.H.length = k.H.length
  | [], vs, ts, k, k', S, fl, h, hall, e => by
    simp only [absorbs, Option.some.injEq, Prod.mk.injEq] at e
    obtain ⟨rfl, rfl⟩ := e
    have := hall k S fl h rfl
    rw [show vs = [] from this]
    exact ⟨S, [], by simpa using h, by simpa using (⟨fun _ _ hp => ⟨hp, rfl⟩, Nat.le_refl _, fun _ _ => rfl⟩ : Ext _ _), by simp [TCs], rfl⟩
  | u :: l, vs, ts, k, k', S, fl, h, hall, e => by
    simp only [absorbs, Option.bind_eq_some_iff, Option.map_eq_some_iff] at e
    obtain ⟨⟨t, k1⟩, e1, ⟨ts', k2⟩, e2, e3⟩ := e
    simp only [Prod.mk.injEq] at e3
    obtain ⟨rfl, rfl⟩ := e3
    obtain ⟨v, r, rfl, hv, _⟩ := hall k S fl h rfl
    have step : ∃ S1 M1, KR A ρ S1 hd (M1 ++ fl) k1 vals w ∧ Ext (cxOf A k.H.length ρ S fl w) (cxOf A k1.H.length ρ S1 (M1 ++ fl) w) ∧ TC (cxOf A k1.H.length ρ S1 (M1 ++ fl) w) t [v] M1 ∧ k1.H.length = k.H.length := by
      by_cases hu : ∃ y, trv k.tr u = .d y
      · obtain ⟨y, hy⟩ := hu
        rw [hy] at e1 hv
        simp only [absorb1, Option.some.injEq, Prod.mk.injEq] at e1
        obtain ⟨rfl, rfl⟩ := e1
        exact ⟨S, [], by simpa using h, by simpa using (⟨fun _ _ hp => ⟨hp, rfl⟩, Nat.le_refl _, fun _ _ => rfl⟩ : Ext _ _), by simp only [TC, List.nil_append]; exact ⟨trivial, hv⟩, rfl⟩
      · have hu' : ∀ y, trv k.tr u ≠ .d y := fun y hy => hu ⟨y, hy⟩
        exact absorb1_ok h (CO.to_SB hu' hv) hu' e1
    obtain ⟨S1, M1, g1, g2, g3, g4⟩ := step
    obtain ⟨S2, M2, p1, p2, p3, p4⟩ := absorbs_ok l r ts' k1 k2 S1 (M1 ++ fl) g1 (fun k0 S0 fl0 h0 hl => by
      obtain ⟨b, r', q1, _, q3⟩ := hall k0 S0 fl0 h0 (hl.trans g4)
      simp only [List.cons.injEq] at q1
      rw [q1.2]; exact q3) e2
    have hperm : (M2 ++ (M1 ++ fl)).Perm ((M1 ++ M2) ++ fl) := by
      rw [List.append_assoc]
      exact List.perm_append_comm_assoc M2 M1 fl
    obtain ⟨p1', e1'⟩ := p1.perm hperm
    rw [e1'] at p2 p3
    refine ⟨S2, M1 ++ M2, p1', ⟨fun b g hp => ?_, Nat.le_trans g2.nO p2.nO, fun o ho => rfl⟩, ?_, p4.trans g4⟩
    · have q1 := g2.pm b g hp
      have q2 := p2.pm b g q1.1
      exact ⟨q2.1, q2.2.trans q1.2⟩
    · simp only [TCs]
      exact ⟨v, r, M1, M2, rfl, rfl, TC.ext p2 _ _ _ (fun _ _ => rfl) g3, p3⟩

theorem trv_agg (a : List Tr) (l : List SV) : trv a (.agg l) = .agg (l.map (trv a)) := by
  induction a generalizing l with
  | nil => simp [trv]
  | cons x a ih =>
    have svs : ∀ l, Tr.svs x l = l.map x.sv := fun l => by
      induction l with
      | nil => rfl
      | cons a r ih => simp [Tr.svs, ih]
    have : x.sv (.agg l) = .agg (l.map x.sv) := by rw [← svs]; cases x <;> rfl
    simp only [trv, this, ih, List.map_map]
    congr 1
theorem trv_d (a : List Tr) (y : D) : trv a (.d y) = .d y := by
  induction a with
  | nil => rfl
  | cons x a ih =>
    have : x.sv (.d y) = .d y := by cases x <;> rfl
    simp only [trv, this, ih]
theorem All2.of_map {α α' β : Type} {R : α' → β → Prop} (g : α → α') : ∀ {as : List α} {l : List β}, All2 R (as.map g) l → All2 (fun a b => R (g a) b) as l
  | [], _, h => h
  | a :: as, l, h => by
    obtain ⟨b, r, h1, h2, h3⟩ := h
    exact ⟨b, r, h1, h2, All2.of_map g h3⟩
/-- a slot's value, a struct's too, is taken in -/
theorem absorb_ok (h : KR A ρ S hd fl k vals w) {v : SV} {val : Value} {t : T} (hm : (v, val) ∈ vals) (e : absorb nv v k = some (t, k')) :
    ∃ S' M, KR A ρ S' hd (M ++ fl) k' vals w ∧ Ext (cxOf A k.H.length ρ S fl w) (cxOf A k'.H.length ρ S' (M ++ fl) w) ∧ TC (cxOf A k'.H.length ρ S' (M ++ fl) w) t val.cells.toList M ∧ k'.H.length = k.H.length := by
  have hv := h.vals (v, val) hm
  by_cases hag : ∃ l, v = .agg l
  · obtain ⟨l, rfl⟩ := hag
    simp only [absorb, Option.map_eq_some_iff] at e
    obtain ⟨⟨ts, k1⟩, e1, e2⟩ := e
    simp only [Prod.mk.injEq] at e2
    obtain ⟨rfl, rfl⟩ := e2
    have all : ∀ k0 S0 fl0, KR A ρ S0 hd fl0 k0 vals w → ∃ cs, val = .agg cs ∧ All2 (fun u v => CO (cxOf A k0.H.length ρ S0 fl0 w) k0.get hd (trv k0.tr u) v) l cs.toList := fun k0 S0 fl0 h0 => by
      have := h0.vals _ hm
      simp only [trv_agg] at this
      obtain ⟨cs, h1, h2⟩ := this
      exact ⟨cs, h1, h2.of_map⟩
    obtain ⟨cs, rfl, _⟩ := all k S fl h
    obtain ⟨S', M, g1, g2, g3, g4⟩ := absorbs_ok (nv := nv) l cs.toList ts k k1 S fl h (fun k0 S0 fl0 h0 hl => by
      obtain ⟨cs', h1, h2⟩ := all k0 S0 fl0 h0
      simp only [Value.agg.injEq] at h1
      rw [h1]; exact h2) e1
    exact ⟨S', M, g1, g2, TC.mk g3, g4⟩
  · have hne : ∀ l, v ≠ .agg l := fun l hl => hag ⟨l, hl⟩
    have e' : absorb1 nv (trv k.tr v) k = some (t, k') := by
      revert e hne
      cases v <;> intro e hne <;> first | exact e | exact absurd rfl (hne _)
    simp only at hv
    by_cases hd' : ∃ y, trv k.tr v = .d y
    · obtain ⟨y, hy⟩ := hd'
      rw [hy] at e' hv
      simp only [absorb1, Option.some.injEq, Prod.mk.injEq] at e'
      obtain ⟨rfl, rfl⟩ := e'
      exact ⟨S, [], by simpa using h, by simpa using (⟨fun _ _ hp => ⟨hp, rfl⟩, Nat.le_refl _, fun _ _ => rfl⟩ : Ext _ _), by simp only [TC, List.nil_append]; exact ⟨trivial, hv.1⟩, rfl⟩
    · have hnd : ∀ y, trv k.tr v ≠ .d y := fun y hy => hd' ⟨y, hy⟩
      by_cases htu : ∃ l, trv k.tr v = .tup l
      · obtain ⟨l, hl⟩ := htu
        rw [hl] at e'
        simp [absorb1] at e'
      · by_cases hag' : ∃ l, trv k.tr v = .agg l
        · obtain ⟨l, hl⟩ := hag'
          rw [hl] at e'
          simp [absorb1] at e'
        · have hsb := S1.to_SB (fun l hl => hag' ⟨l, hl⟩) (SO.to_S1 (fun l hl => htu ⟨l, hl⟩) hv)
          obtain ⟨S', M, g1, g2, g3, g4⟩ := absorb1_ok h hsb hnd e'
          refine ⟨S', M, g1, g2, ?_, g4⟩
          rw [cells_one (TC.ones _ _ _ g3 val (by simp))]
          exact g3
end
end Go.Am
