/- The abstract machine: when memory holds a tree, which blocks the tree owns, and how a part of it is replaced. -/
import Derived.Test.YtabkianhbgpfgaaAmRel
namespace Go.Am
open Go

mutual
def TC (c : Cx) : T → List Value → List Nat → Prop
  | .d x, cs, S => S = [] ∧ VC c x cs
  | .dead, cs, S => S = [] ∧ ∃ v, cs = [v] ∧ v.oneCell' = true
  | .agg ts, cs, S => TCs c ts cs S
  | .own es, cs, S => (∃ a, cs = [.slice a 0 0] ∧ es = [] ∧ S = []) ∨
      ∃ g cap cur e sz S', cs = [.slice (some ⟨g, 0, none⟩) es.length cap] ∧ S = g :: S' ∧ c.w.heap[g]? = some (.cells cur e (0, 0)) ∧
        es.length ≤ cap ∧ cap ≤ maxLen ∧ cap * sz ≤ cur.size ∧ 0 < es.length * sz ∧ TE c es sz (cur.toList.take (es.length * sz)) S'
def TCs (c : Cx) : List T → List Value → List Nat → Prop
  | [], cs, S => cs = [] ∧ S = []
  | t :: ts, cs, S => ∃ v r S1 S2, cs = v :: r ∧ S = S1 ++ S2 ∧ TC c t [v] S1 ∧ TCs c ts r S2
def TE (c : Cx) : List T → Nat → List Value → List Nat → Prop
  | [], _, cs, S => cs = [] ∧ S = []
  | t :: ts, sz, cs, S => ∃ c1 c2 S1 S2, cs = c1 ++ c2 ∧ S = S1 ++ S2 ∧ c1.length = sz ∧ TC c t c1 S1 ∧ TE c ts sz c2 S2
end

def Kept (c c' : Cx) (S : List Nat) : Prop := ∀ g ∈ S, c'.w.heap[g]? = c.w.heap[g]?
theorem Kept.left {c c' : Cx} {A B : List Nat} (h : Kept c c' (A ++ B)) : Kept c c' A := fun g hg => h g (List.mem_append_left _ hg)
theorem Kept.right {c c' : Cx} {A B : List Nat} (h : Kept c c' (A ++ B)) : Kept c c' B := fun g hg => h g (List.mem_append_right _ hg)

mutual
theorem TC.ext {c c' : Cx} (h : Ext c c') : ∀ (t : T) (cs : List Value) (S : List Nat), Kept c c' S → TC c t cs S → TC c' t cs S
  | .d x, cs, S, _, hv => by simp only [TC] at hv ⊢; exact ⟨hv.1, VC.ext h x cs hv.2⟩
  | .dead, cs, S, _, hv => by simpa only [TC] using hv
  | .agg ts, cs, S, hk, hv => by simp only [TC] at hv ⊢; exact TCs.ext h ts cs S hk hv
  | .own es, cs, S, hk, hv => by
    simp only [TC] at hv ⊢
    rcases hv with hv | ⟨g, cap, cur, e, sz, S', h1, h2, h3, h4, h5, h6, h7, h8⟩
    · exact .inl hv
    · subst h2
      exact .inr ⟨g, cap, cur, e, sz, S', h1, rfl, by rw [hk g (by simp)]; exact h3, h4, h5, h6, h7, TE.ext h es sz _ S' (fun x hx => hk x (by simp [hx])) h8⟩
theorem TCs.ext {c c' : Cx} (h : Ext c c') : ∀ (ts : List T) (cs : List Value) (S : List Nat), Kept c c' S → TCs c ts cs S → TCs c' ts cs S
  | [], _, _, _, hv => by simpa only [TCs] using hv
  | t :: ts, cs, S, hk, hv => by
    simp only [TCs] at hv ⊢
    obtain ⟨v, r, S1, S2, h1, h2, h3, h4⟩ := hv
    subst h2
    exact ⟨v, r, S1, S2, h1, rfl, TC.ext h t _ _ hk.left h3, TCs.ext h ts _ _ hk.right h4⟩
theorem TE.ext {c c' : Cx} (h : Ext c c') : ∀ (ts : List T) (sz : Nat) (cs : List Value) (S : List Nat), Kept c c' S → TE c ts sz cs S → TE c' ts sz cs S
  | [], _, _, _, _, hv => by simpa only [TE] using hv
  | t :: ts, sz, cs, S, hk, hv => by
    simp only [TE] at hv ⊢
    obtain ⟨c1, c2, S1, S2, h1, h2, h3, h4, h5⟩ := hv
    subst h2
    exact ⟨c1, c2, S1, S2, h1, rfl, h3, TC.ext h t _ _ hk.left h4, TE.ext h ts sz _ _ hk.right h5⟩
end

theorem TCs.len {c : Cx} : ∀ (ts : List T) (cs : List Value) (S : List Nat), TCs c ts cs S → cs.length = ts.length
  | [], _, _, hv => by simp only [TCs] at hv; simp [hv.1]
  | t :: ts, cs, S, hv => by
    simp only [TCs] at hv
    obtain ⟨v, r, S1, S2, h1, h2, h3, h4⟩ := hv
    subst h1
    simp [TCs.len ts r S2 h4]
theorem TC.len {c : Cx} (t : T) (cs : List Value) (S : List Nat) (hv : TC c t cs S) : cs.length = t.nc := by
  cases t with
  | d x => simp only [TC] at hv; exact VC.len x cs hv.2
  | dead => obtain ⟨_, v, h, _⟩ := hv; simp [h, T.nc]
  | agg ts => exact TCs.len ts cs S hv
  | own es => rcases hv with ⟨a, h, _⟩ | ⟨g, cap, cur, e, sz, S', h, _⟩ <;> simp [h, T.nc]
theorem TE.len {c : Cx} : ∀ (ts : List T) (sz : Nat) (cs : List Value) (S : List Nat), TE c ts sz cs S → cs.length = ts.length * sz ∧ ∀ t ∈ ts, t.nc = sz
  | [], _, _, _, hv => by simp only [TE] at hv; simp [hv.1]
  | t :: ts, sz, cs, S, hv => by
    simp only [TE] at hv
    obtain ⟨c1, c2, S1, S2, h1, h2, h3, h4, h5⟩ := hv
    obtain ⟨i1, i2⟩ := TE.len ts sz c2 S2 h5
    subst h1
    refine ⟨by simp [h3, i1, Nat.add_mul, Nat.add_comm], fun u hu => ?_⟩
    rcases List.mem_cons.1 hu with rfl | hu
    · rw [← TC.len _ _ _ h4, h3]
    · exact i2 u hu
mutual
theorem TC.ones {c : Cx} : ∀ (t : T) (cs : List Value) (S : List Nat), TC c t cs S → ∀ v ∈ cs, v.oneCell' = true
  | .d x, cs, S, hv => by simp only [TC] at hv; exact VC.ones x cs hv.2
  | .dead, cs, S, hv => by obtain ⟨_, v, h, h1⟩ := hv; simp [h, h1]
  | .agg ts, cs, S, hv => by simp only [TC] at hv; exact TCs.ones ts cs S hv
  | .own es, cs, S, hv => by rcases hv with ⟨a, h, _⟩ | ⟨g, cap, cur, e, sz, S', h, _⟩ <;> simp [h, Value.oneCell']
theorem TCs.ones {c : Cx} : ∀ (ts : List T) (cs : List Value) (S : List Nat), TCs c ts cs S → ∀ v ∈ cs, v.oneCell' = true
  | [], cs, S, hv => by simp only [TCs] at hv; simp [hv.1]
  | t :: ts, cs, S, hv => by
    simp only [TCs] at hv
    obtain ⟨v, r, S1, S2, h1, h2, h3, h4⟩ := hv
    subst h1
    intro u hu
    rcases List.mem_cons.1 hu with rfl | hu
    · exact TC.ones t _ _ h3 _ (by simp)
    · exact TCs.ones ts r S2 h4 u hu
end
theorem TE.ones {c : Cx} : ∀ (ts : List T) (sz : Nat) (cs : List Value) (S : List Nat), TE c ts sz cs S → ∀ v ∈ cs, v.oneCell' = true
  | [], _, cs, S, hv => by simp only [TE] at hv; simp [hv.1]
  | t :: ts, sz, cs, S, hv => by
    simp only [TE] at hv
    obtain ⟨c1, c2, S1, S2, h1, h2, h3, h4, h5⟩ := hv
    subst h1
    intro u hu
    rcases List.mem_append.1 hu with hu | hu
    · exact TC.ones t _ _ h4 u hu
    · exact TE.ones ts sz c2 S2 h5 u hu

/-! ### lists of cells -/
theorem TCs.append {c : Cx} : ∀ (a : List T) (cs : List Value) (S : List Nat) (b : List T) (ds : List Value) (R : List Nat), TCs c a cs S → TCs c b ds R → TCs c (a ++ b) (cs ++ ds) (S ++ R)
  | [], _, _, _, _, _, h, h' => by simp only [TCs] at h; obtain ⟨rfl, rfl⟩ := h; simpa using h'
  | t :: ts, cs, S, b, ds, R, h, h' => by
    simp only [TCs] at h
    obtain ⟨v, r, S1, S2, h1, h2, h3, h4⟩ := h
    subst h1; subst h2
    simp only [List.cons_append, TCs]
    exact ⟨v, r ++ ds, S1, S2 ++ R, rfl, by simp, h3, TCs.append ts r S2 b ds R h4 h'⟩
theorem TCs.split {c : Cx} : ∀ (n : Nat) (ts : List T) (cs : List Value) (S : List Nat), TCs c ts cs S →
    ∃ S1 S2, S = S1 ++ S2 ∧ TCs c (ts.take n) (cs.take n) S1 ∧ TCs c (ts.drop n) (cs.drop n) S2
  | 0, ts, cs, S, h => ⟨[], S, rfl, by simp [TCs], by simpa using h⟩
  | n + 1, [], cs, S, h => by simp only [TCs] at h; obtain ⟨rfl, rfl⟩ := h; exact ⟨[], [], rfl, by simp [TCs], by simp [TCs]⟩
  | n + 1, t :: ts, cs, S, h => by
    simp only [TCs] at h
    obtain ⟨v, r, S1, S2, h1, h2, h3, h4⟩ := h
    obtain ⟨A, B, h5, h6, h7⟩ := TCs.split n ts r S2 h4
    subst h1; subst h2; subst h5
    refine ⟨S1 ++ A, B, by simp, ?_, by simpa using h7⟩
    simp only [List.take_succ_cons, TCs]
    exact ⟨v, _, S1, A, rfl, rfl, h3, h6⟩
theorem TCs.get {c : Cx} {ts : List T} {cs : List Value} {S : List Nat} (h : TCs c ts cs S) {n : Nat} {t : T} (ht : ts[n]? = some t) :
    ∃ v L St R, cs[n]? = some v ∧ S = L ++ St ++ R ∧ TC c t [v] St ∧ TCs c (ts.take n) (cs.take n) L ∧ TCs c (ts.drop (n + 1)) (cs.drop (n + 1)) R := by
  obtain ⟨A, B, h1, h2, h3⟩ := TCs.split n ts cs S h
  have hd : ts.drop n = t :: ts.drop (n + 1) := by
    obtain ⟨hn, hx⟩ := List.getElem?_eq_some_iff.1 ht
    rw [List.drop_eq_getElem_cons hn, hx]
  rw [hd] at h3
  simp only [TCs] at h3
  obtain ⟨v, r, S1, S2, h4, h5, h6, h7⟩ := h3
  subst h1; subst h5
  have hr : cs.drop (n + 1) = r := by rw [← List.tail_drop, h4]; rfl
  refine ⟨v, A, S1, S2, ?_, by simp, h6, h2, by rw [hr]; exact h7⟩
  have := congrArg (·[0]?) h4
  simpa using this
theorem TCs.of_d {c : Cx} : ∀ (l : List D) (cs : List Value), VCs c l cs → TCs c (l.map .d) cs []
  | [], cs, h => by simp only [VCs] at h; simp [h, TCs]
  | d :: ds, cs, h => by
    simp only [VCs] at h
    obtain ⟨v, r, h1, h2, h3⟩ := h
    subst h1
    simp only [List.map_cons, TCs]
    exact ⟨v, r, [], [], rfl, rfl, by simp only [TC]; exact ⟨trivial, h2⟩, TCs.of_d ds r h3⟩
theorem TC.cells {c : Cx} {t : T} {cs : List Value} {S : List Nat} (h : TC c t cs S) : TCs c t.cells cs S := by
  have hl := TC.len t cs S h
  have one : t.nc = 1 → (∀ v, cs = [v] → TCs c [t] [v] S) := fun _ v hv => by
    subst hv
    simp only [TCs]
    exact ⟨v, [], S, [], rfl, by simp, h, rfl, rfl⟩
  have one' : t.nc = 1 → TCs c [t] cs S := fun h1 => by
    rw [h1] at hl
    match cs, hl, one h1 with
    | [v], _, k => exact k v rfl
  cases t with
  | agg ts => exact h
  | own es => exact one' rfl
  | dead => exact one' rfl
  | d x =>
    cases x with
    | agg l => simp only [TC, VC] at h; obtain ⟨rfl, h⟩ := h; exact TCs.of_d l cs h
    | _ => exact one' rfl
theorem T.pures_spec {c : Cx} : ∀ (ts : List T) (ds : List D), T.pures ts = some ds → ∀ (cs : List Value) (S : List Nat), TCs c ts cs S → S = [] ∧ VCs c ds cs
  | [], ds, h => by
    simp only [T.pures, Option.some.injEq] at h
    subst h
    intro cs S hc
    simp only [TCs] at hc
    exact ⟨hc.2, by simp [VCs, hc.1]⟩
  | t :: ts, ds, h => by
    cases t with
    | d x =>
      simp only [T.pures, Option.map_eq_some_iff] at h
      obtain ⟨r, h1, h2⟩ := h
      subst h2
      intro cs S hc
      simp only [TCs, TC] at hc
      obtain ⟨v, q, S1, S2, h3, h4, ⟨h5, h6⟩, h7⟩ := hc
      obtain ⟨i1, i2⟩ := T.pures_spec ts r h1 q S2 h7
      subst h3; subst h4; subst h5; subst i1
      exact ⟨rfl, by simp only [VCs]; exact ⟨v, q, rfl, h6, i2⟩⟩
    | _ => simp [T.pures] at h
theorem TC.mk {c : Cx} {ts : List T} {cs : List Value} {S : List Nat} (h : TCs c ts cs S) : TC c (T.mkAgg ts) cs S := by
  unfold T.mkAgg
  split
  · rename_i ds hd
    obtain ⟨h1, h2⟩ := T.pures_spec ts ds hd cs S h
    subst h1
    simp only [TC, VC]
    exact ⟨trivial, h2⟩
  · exact h
theorem T.cell_cells {t ct : T} {off : Nat} (h : t.cell off = some ct) : t.cells[off]? = some ct := by
  unfold T.cell at h
  split at h
  · exact h
  · simpa [T.cells] using h
  · rename_i h1 h2
    split at h
    · rename_i h0
      subst h0
      cases t with
      | agg cs => exact absurd rfl (h1 cs)
      | d x =>
        cases x with
        | agg l => exact absurd rfl (h2 l)
        | _ => simpa [T.cells] using h
      | _ => simpa [T.cells] using h
    · cases h
/-- some cells of an element replaced -/
theorem TC.setCells {c : Cx} {t : T} {cs : List Value} {S : List Nat} (h : TC c t cs S) (off n : Nat) :
    ∃ L M R, S = L ++ M ++ R ∧ ∀ (c' : Cx) (vs : List T) (ws : List Value) (Sv : List Nat), Ext c c' → vs.length = n → TCs c' vs ws Sv → Kept c c' (L ++ R) →
      TC c' (t.setCells off vs) (cs.take off ++ ws ++ cs.drop (off + ws.length)) (L ++ Sv ++ R) := by
  have hc := h.cells
  obtain ⟨L, B, h1, h2, h3⟩ := TCs.split off t.cells cs S hc
  obtain ⟨M, R, h4, _, h6⟩ := TCs.split n (t.cells.drop off) (cs.drop off) B h3
  subst h1; subst h4
  refine ⟨L, M, R, by simp, fun c' vs ws Sv hx hn hv hk => ?_⟩
  have hl := TCs.len vs ws Sv hv
  unfold T.setCells
  refine TC.mk ?_
  rw [List.drop_drop, List.drop_drop] at h6
  rw [hl, hn]
  exact TCs.append _ _ _ _ _ _ (TCs.append _ _ _ _ _ _ (TCs.ext hx _ _ _ hk.left h2) hv) (TCs.ext hx _ _ _ hk.right h6)
/-! ### lists of elements -/
theorem TE.append {c : Cx} : ∀ (a : List T) (sz : Nat) (cs : List Value) (S : List Nat) (b : List T) (ds : List Value) (R : List Nat), TE c a sz cs S → TE c b sz ds R → TE c (a ++ b) sz (cs ++ ds) (S ++ R)
  | [], _, _, _, _, _, _, h, h' => by simp only [TE] at h; obtain ⟨rfl, rfl⟩ := h; simpa using h'
  | t :: ts, sz, cs, S, b, ds, R, h, h' => by
    simp only [TE] at h
    obtain ⟨c1, c2, S1, S2, h1, h2, h3, h4, h5⟩ := h
    subst h1; subst h2
    simp only [List.cons_append, TE]
    exact ⟨c1, c2 ++ ds, S1, S2 ++ R, by simp, by simp, h3, h4, TE.append ts sz c2 S2 b ds R h5 h'⟩
theorem TE.split {c : Cx} : ∀ (n : Nat) (ts : List T) (sz : Nat) (cs : List Value) (S : List Nat), TE c ts sz cs S →
    ∃ S1 S2, S = S1 ++ S2 ∧ TE c (ts.take n) sz (cs.take (n * sz)) S1 ∧ TE c (ts.drop n) sz (cs.drop (n * sz)) S2
  | 0, ts, sz, cs, S, h => ⟨[], S, rfl, by simp [TE], by simpa using h⟩
  | n + 1, [], sz, cs, S, h => by simp only [TE] at h; obtain ⟨rfl, rfl⟩ := h; exact ⟨[], [], rfl, by simp [TE], by simp [TE]⟩
  | n + 1, t :: ts, sz, cs, S, h => by
    simp only [TE] at h
    obtain ⟨c1, c2, S1, S2, h1, h2, h3, h4, h5⟩ := h
    obtain ⟨A, B, h6, h7, h8⟩ := TE.split n ts sz c2 S2 h5
    subst h1; subst h2; subst h6
    have e : (n + 1) * sz = c1.length + n * sz := by rw [Nat.add_mul, h3]; omega
    refine ⟨S1 ++ A, B, by simp, ?_, ?_⟩
    · rw [e, List.take_length_add_append]
      simp only [List.take_succ_cons, TE]
      exact ⟨c1, _, S1, A, rfl, rfl, h3, h4, h7⟩
    · rw [e, List.drop_length_add_append]
      simpa using h8
theorem TE.get {c : Cx} {ts : List T} {sz : Nat} {cs : List Value} {S : List Nat} (h : TE c ts sz cs S) {n : Nat} {t : T} (ht : ts[n]? = some t) :
    ∃ c1 L St R, c1.length = sz ∧ cs = cs.take (n * sz) ++ c1 ++ cs.drop (n * sz + sz) ∧ (cs.take (n * sz)).length = n * sz ∧ S = L ++ St ++ R ∧ TC c t c1 St ∧ TE c (ts.take n) sz (cs.take (n * sz)) L ∧ TE c (ts.drop (n + 1)) sz (cs.drop (n * sz + sz)) R := by
  obtain ⟨A, B, h1, h2, h3⟩ := TE.split n ts sz cs S h
  have hn := (List.getElem?_eq_some_iff.1 ht).1
  have hd : ts.drop n = t :: ts.drop (n + 1) := by
    obtain ⟨hn, hx⟩ := List.getElem?_eq_some_iff.1 ht
    rw [List.drop_eq_getElem_cons hn, hx]
  rw [hd] at h3
  simp only [TE] at h3
  obtain ⟨c1, c2, S1, S2, h4, h5, h6, h7, h8⟩ := h3
  subst h1; subst h5
  have hr : cs.drop (n * sz + sz) = c2 := by rw [← List.drop_drop, h4, ← h6, List.drop_left]
  refine ⟨c1, A, S1, S2, h6, ?_, ?_, by simp, h7, h2, by rw [hr]; exact h8⟩
  · rw [hr, List.append_assoc, ← h4, List.take_append_drop]
  · have := (TE.len _ _ _ _ h).1
    rw [List.length_take, this]
    have : n * sz ≤ ts.length * sz := Nat.mul_le_mul_right _ (Nat.le_of_lt hn)
    omega
theorem TE.put {c c' : Cx} (hx : Ext c c') {ts : List T} {sz n : Nat} {cs c1 : List Value} {L R St : List Nat} {t : T} (hn : n < ts.length) (hl : TE c (ts.take n) sz (cs.take (n * sz)) L) (hr : TE c (ts.drop (n + 1)) sz (cs.drop (n * sz + sz)) R)
    (hk : Kept c c' (L ++ R)) (h1 : c1.length = sz) (ht : TC c' t c1 St) : TE c' (ts.set n t) sz (cs.take (n * sz) ++ c1 ++ cs.drop (n * sz + sz)) (L ++ St ++ R) := by
  rw [List.set_eq_take_append_cons_drop, if_pos hn]
  have e : ts.take n ++ t :: ts.drop (n + 1) = (ts.take n ++ [t]) ++ ts.drop (n + 1) := by simp
  rw [e]
  refine TE.append _ _ _ _ _ _ _ (TE.append _ _ _ _ _ _ _ (TE.ext hx _ _ _ _ hk.left hl) ?_) (TE.ext hx _ _ _ _ hk.right hr)
  simp only [TE]
  exact ⟨c1, [], St, [], by simp, by simp, h1, ht, rfl, rfl⟩

/-! ### the header of a node -/
def NodeH (c : Cx) : Value → T → Path → Value → Prop
  | h, _, [], h' => h' = h
  | h, .own es, (i, off) :: p, h' => ∃ g len cap cur e el ct cv, h = .slice (some ⟨g, 0, none⟩) len cap ∧ c.w.heap[g]? = some (.cells cur e (0, 0)) ∧ es[i]? = some el ∧ el.cell off = some ct ∧ cur[i * el.nc + off]? = some cv ∧ NodeH c cv ct p h'
  | _, _, _ :: _, _ => False

theorem T.put_elem (e c' : T) (off : Nat) : e.putCell off c' = e.setCells off [c'] ∨ (e.nc = 1 ∧ (∀ l, e ≠ .agg l) ∧ (∀ l, e ≠ .d (.agg l)) ∧ e.putCell off c' = c') := by
  cases e with
  | d y => cases y <;> first | exact .inl rfl | exact .inr ⟨rfl, by simp, by simp, rfl⟩
  | agg l => exact .inl rfl
  | own es => exact .inr ⟨rfl, by simp, by simp, rfl⟩
  | dead => exact .inr ⟨rfl, by simp, by simp, rfl⟩

/-! ### shapes -/
def SameShape (es es' : List T) : Prop := es'.length = es.length ∧ ∀ (i : Nat) (e : T), es[i]? = some e → ∃ e' : T, es'[i]? = some e' ∧ e'.nc = e.nc
theorem SameShape.refl (es : List T) : SameShape es es := ⟨rfl, fun _ e h => ⟨e, h, rfl⟩⟩
theorem T.cells_len (t : T) : t.cells.length = t.nc := by
  cases t with
  | d x => cases x <;> simp [T.cells, T.nc, D.nc]
  | _ => simp [T.cells, T.nc]
theorem T.mkAgg_cells (ts : List T) : (T.mkAgg ts).cells = ts := by
  unfold T.mkAgg
  split
  · rename_i ds hd
    have : ∀ (ts : List T) (ds : List D), T.pures ts = some ds → ds.map T.d = ts := by
      intro ts
      induction ts with
      | nil => intro ds h; simp [T.pures] at h; simp [h]
      | cons t r ih =>
        intro ds h
        cases t with
        | d x =>
          simp only [T.pures, Option.map_eq_some_iff] at h
          obtain ⟨q, h1, h2⟩ := h
          subst h2
          simp [ih q h1]
        | _ => simp [T.pures] at h
    simpa [T.cells] using this ts ds hd
  · rfl
theorem T.mkAgg_cell (ts : List T) (off : Nat) : (T.mkAgg ts).cell off = ts[off]? := by
  have h := T.mkAgg_cells ts
  unfold T.mkAgg at h ⊢
  split at h
  · rename_i ds hd
    have h' : ds.map T.d = ts := by simpa [T.cells] using h
    rw [← h']
    simp [T.cell]
  · simp [T.cell]
theorem T.mkAgg_nc (ts : List T) : (T.mkAgg ts).nc = ts.length := by rw [← T.cells_len, T.mkAgg_cells]
theorem T.cell_lt {e c : T} {off : Nat} (h : e.cell off = some c) : off < e.nc := by
  have := T.cell_cells h
  rw [← T.cells_len]
  exact (List.getElem?_eq_some_iff.1 this).1
theorem T.setCells_nc {e : T} {off : Nat} {vs : List T} (h : off + vs.length ≤ e.nc) : (e.setCells off vs).nc = e.nc := by
  have := T.cells_len e
  unfold T.setCells
  rw [T.mkAgg_nc]
  simp
  omega
theorem T.setCells_other {e : T} {off off' : Nat} {vs : List T} {d : T} (h : off + vs.length ≤ e.nc) (hd : e.cells[off']? = some d) (hne : off' < off ∨ off + vs.length ≤ off') : (e.setCells off vs).cell off' = some d := by
  have hl := T.cells_len e
  unfold T.setCells
  rw [T.mkAgg_cell]
  rcases hne with hne | hne
  · rw [List.append_assoc, List.getElem?_append_left (by simp; omega), List.getElem?_take, if_pos hne]; exact hd
  · rw [List.getElem?_append_right (by simp; omega), List.getElem?_drop]
    simp only [List.length_append, List.length_take]
    rw [show off + vs.length + (off' - (min off e.cells.length + vs.length)) = off' by omega]
    exact hd
theorem T.putCell_nc {e c x : T} {off : Nat} (h : e.cell off = some x) (h1 : c.nc = 1) : (e.putCell off c).nc = e.nc := by
  have hlt := T.cell_lt h
  rcases T.put_elem e c off with q | ⟨q1, _, _, q4⟩
  · rw [q]; exact T.setCells_nc (by simp; omega)
  · rw [q4, h1, q1]
theorem T.putCell_other {e c d x : T} {off off' : Nat} (h : e.cell off = some x) (hd : e.cell off' = some d) (hne : off' ≠ off) : (e.putCell off c).cell off' = some d := by
  have hlt := T.cell_lt h
  have hlt' := T.cell_lt hd
  rcases T.put_elem e c off with q | ⟨q1, q2, q3, q4⟩
  · rw [q]; exact T.setCells_other (by simp; omega) (T.cell_cells hd) (by simp; omega)
  · omega
theorem T.putCell_same {e c x : T} {off : Nat} (h : e.cell off = some x) (h1 : c.nc = 1) (h2 : ∀ l, c ≠ .agg l) (h3 : ∀ l, c ≠ .d (.agg l)) : (e.putCell off c).cell off = some c := by
  have hlt := T.cell_lt h
  have hl := T.cells_len e
  rcases T.put_elem e c off with q | ⟨q1, q2, q3, q4⟩
  · rw [q]
    unfold T.setCells
    rw [T.mkAgg_cell, List.append_assoc, List.getElem?_append_right (by simp; omega)]
    simp only [List.length_take]
    rw [show off - min off e.cells.length = 0 by omega]
    simp
  · have : off = 0 := by omega
    subst this
    rw [q4]
    cases c with
    | agg l => exact absurd rfl (h2 l)
    | d y => cases y <;> first | exact absurd rfl (h3 _) | rfl
    | _ => rfl

theorem NodeH.uniq {c : Cx} : ∀ (p : Path) (t : T) (h a b : Value), NodeH c h t p a → NodeH c h t p b → a = b
  | [], _, _, _, _, ha, hb => by simp only [NodeH] at ha hb; rw [ha, hb]
  | (i, off) :: p, t, h, a, b, ha, hb => by
    cases t with
    | own es =>
      simp only [NodeH] at ha hb
      obtain ⟨g, len, cap, cur, e, el, ct, cv, n1, n2, n3, n4, n5, n6⟩ := ha
      obtain ⟨g', len', cap', cur', e', el', ct', cv', m1, m2, m3, m4, m5, m6⟩ := hb
      subst n1
      simp only [Value.slice.injEq, Option.some.injEq, Addr.mk.injEq, and_true] at m1
      obtain ⟨m1, _, _⟩ := m1
      subst m1
      rw [n2] at m2
      simp only [Option.some.injEq, Obj.cells.injEq, and_true] at m2
      obtain ⟨m2, _⟩ := m2
      subst m2
      rw [n3] at m3
      simp only [Option.some.injEq] at m3
      subst m3
      rw [n4] at m4
      simp only [Option.some.injEq] at m4
      subst m4
      rw [n5] at m5
      simp only [Option.some.injEq] at m5
      subst m5
      exact NodeH.uniq p ct cv a b n6 m6
    | d x => simp [NodeH] at ha
    | agg l => simp [NodeH] at ha
    | dead => simp [NodeH] at ha

/-- what a node's header was, it is where nothing of the road was touched -/
theorem NodeH.ext {c c' : Cx} : ∀ (q : Path) (t : T) (h h' : Value) (S : List Nat), TC c t [h] S → Kept c c' S → NodeH c h t q h' → NodeH c' h t q h'
  | [], _, _, _, _, _, _, hn => hn
  | (i, off) :: q, t, h, h', S, ht, hk, hn => by
    cases t with
    | own es =>
      simp only [NodeH] at hn ⊢
      obtain ⟨g, len, cap, cur, e, el, ct, cv, n1, n2, n3, n4, n5, n6⟩ := hn
      rcases ht with ⟨a, _, h2, _⟩ | ⟨g', cap', cur', e', sz, S', h1, h2, h3, h4, h5, h6, h7, h8⟩
      · subst h2; simp at n3
      · subst n1
        simp only [List.cons.injEq, Value.slice.injEq, Option.some.injEq, Addr.mk.injEq, and_true] at h1
        obtain ⟨h1, _, _⟩ := h1
        subst h1
        rw [n2] at h3
        simp only [Option.some.injEq, Obj.cells.injEq, and_true] at h3
        obtain ⟨h3, _⟩ := h3
        subst h3; subst h2
        obtain ⟨c1, L1, Se, R1, k1, k2, k3, k4, k5, k6, k7⟩ := TE.get h8 n3
        obtain ⟨v, L2, Sc, R2, m1, m2, m3, m4, m5⟩ := TCs.get k5.cells (T.cell_cells n4)
        have hnc : el.nc = sz := by rw [← TC.len _ _ _ k5, k1]
        have hoff : off < c1.length := (List.getElem?_eq_some_iff.1 m1).1
        have e1 : (cur.toList.take (es.length * sz))[i * sz + off]? = some v := by
          rw [k2, List.append_assoc, List.getElem?_append_right (by omega), k3, show i * sz + off - i * sz = off by omega, List.getElem?_append_left hoff]
          exact m1
        rw [List.getElem?_take] at e1
        have hv : cv = v := by
          split at e1
          · rw [hnc] at n5
            have e2 : cur[i * sz + off]? = some v := by simpa using e1
            rw [e2] at n5
            simpa using n5.symm
          · cases e1
        subst hv; subst k4; subst m2
        exact ⟨g, len, cap, cur, e, el, ct, cv, rfl, by rw [hk g (by simp)]; exact n2, n3, n4, n5, NodeH.ext q ct cv h' Sc m3 (fun x hx => hk x (by simp [hx])) n6⟩
    | d x => simp [NodeH] at hn
    | agg l => simp [NodeH] at hn
    | dead => simp [NodeH] at hn

theorem TCs.sub {c : Cx} {ts : List T} {cs : List Value} {S : List Nat} (h : TCs c ts cs S) {n : Nat} {t : T} (ht : ts[n]? = some t) :
    ∃ v St, cs[n]? = some v ∧ TC c t [v] St ∧ ∀ z ∈ St, z ∈ S := by
  obtain ⟨v, L, St, R, h1, h2, h3, _, _⟩ := TCs.get h ht
  exact ⟨v, St, h1, h3, fun z hz => by rw [h2]; simp [hz]⟩
theorem TE.sub {c : Cx} {ts : List T} {sz : Nat} {cs : List Value} {S : List Nat} (h : TE c ts sz cs S) {n : Nat} {t y : T} {off : Nat} (ht : ts[n]? = some t) (hy : t.cell off = some y) :
    ∃ v St, cs[n * sz + off]? = some v ∧ TC c y [v] St ∧ ∀ z ∈ St, z ∈ S := by
  obtain ⟨c1, L1, Se, R1, k1, k2, k3, k4, k5, k6, k7⟩ := TE.get h ht
  obtain ⟨v, St, h1, h2, h3⟩ := TCs.sub k5.cells (T.cell_cells hy)
  have hoff : off < c1.length := (List.getElem?_eq_some_iff.1 h1).1
  refine ⟨v, St, ?_, h2, fun z hz => by rw [k4]; simp [h3 z hz]⟩
  rw [k2, List.append_assoc, List.getElem?_append_right (by omega), k3, show n * sz + off - n * sz = off by omega, List.getElem?_append_left hoff]
  exact h1
theorem cell_in {cur : Array Value} {n sz i off : Nat} {c1 : List Value} {v : Value} (k2 : cur.toList.take n = (cur.toList.take n).take (i * sz) ++ c1 ++ (cur.toList.take n).drop (i * sz + sz)) (k3 : ((cur.toList.take n).take (i * sz)).length = i * sz) (m1 : c1[off]? = some v) :
    cur[i * sz + off]? = some v := by
  have hoff : off < c1.length := (List.getElem?_eq_some_iff.1 m1).1
  have e1 : (cur.toList.take n)[i * sz + off]? = some v := by
    rw [k2, List.append_assoc, List.getElem?_append_right (by omega), k3, show i * sz + off - i * sz = off by omega, List.getElem?_append_left hoff]
    exact m1
  rw [List.getElem?_take] at e1
  split at e1
  · simpa using e1
  · cases e1

/-- a node within a tree, and what may be put in its place -/
structure Focus (c : Cx) (t : T) (h : Value) (p : Path) (nd : T) (h' : Value) (L Sn R : List Nat) : Prop where
  node : NodeH c h t p h'
  tc : TC c nd [h'] Sn
  put : ∀ (c' : Cx) (nd' t' : T) (Sn' : List Nat), Ext c c' → Kept c c' (L ++ R) → t.put p nd' = some t' → TC c' nd' [h'] Sn' → TC c' t' [h] (L ++ Sn' ++ R)
  oth : ∀ (c' : Cx) (nd' t' : T) (Q : Path → Prop), Kept c c' (L ++ R) → t.put p nd' = some t' → nd'.nc = 1 →
    (∀ q es, Q q → nd.at q = some (.own es) → ∃ es', nd'.at q = some (.own es') ∧ SameShape es es' ∧ ∀ h1, NodeH c h' nd q h1 → NodeH c' h' nd' q h1) →
    ∀ q es, (∀ q', q = p ++ q' → Q q') → t.at q = some (.own es) → ∃ es', t'.at q = some (.own es') ∧ SameShape es es' ∧ ∀ h1, NodeH c h t q h1 → NodeH c' h t' q h1

theorem T.put_nc : ∀ (p : Path) (t nd nd' t' : T), t.at p = some nd → t.put p nd' = some t' → t.nc = 1 → nd'.nc = 1 → t'.nc = 1
  | [], _, _, _, _, _, hp, _, h => by simp only [T.put, Option.some.injEq] at hp; subst hp; exact h
  | (i, off) :: p, t, nd, nd', t', _, hp, _, _ => by
    cases t with
    | own es =>
      simp only [T.put, Option.bind_eq_some_iff, Option.map_eq_some_iff] at hp
      obtain ⟨e, _, ct, _, c', _, rfl⟩ := hp
      rfl
    | _ => simp [T.put] at hp

theorem TC.focus {c : Cx} : ∀ (p : Path) (t : T) (h : Value) (S : List Nat) (nd : T), TC c t [h] S → t.at p = some nd →
    ∃ h' L Sn R, S = L ++ Sn ++ R ∧ Focus c t h p nd h' L Sn R
  | [], t, h, S, nd, ht, hat => by
    simp only [T.at, Option.some.injEq] at hat
    subst hat
    refine ⟨h, [], S, [], by simp, rfl, ht, fun c' nd' t' Sn' _ _ hp hn => ?_, fun c' nd' t' Q _ hp _ hb q es hq => ?_⟩
    · simp only [T.put, Option.some.injEq] at hp
      subst hp
      simpa using hn
    · simp only [T.put, Option.some.injEq] at hp
      subst hp
      exact hb q es (hq q rfl)
  | (i, off) :: p, t, h, S, nd, ht, hat => by
    cases t with
    | own es =>
      simp only [T.at, Option.bind_eq_some_iff] at hat
      obtain ⟨el, he, ct, hct, hat⟩ := hat
      have hn := (List.getElem?_eq_some_iff.1 he).1
      rcases ht with ⟨a, _, h2, _⟩ | ⟨g, cap, cur, e, sz, S', h1, h2, h3, h4, h5, h6, h7, h8⟩
      · subst h2; simp at he
      · obtain ⟨c1, L1, Se, R1, k1, k2, k3, k4, k5, k6, k7⟩ := TE.get h8 he
        obtain ⟨v, L2, Sc, R2, m1, m2, m3, m4, m5⟩ := TCs.get k5.cells (T.cell_cells hct)
        obtain ⟨h', L3, Sn, R3, n2, foc⟩ := TC.focus p ct v Sc nd m3 hat
        have hnc : el.nc = sz := by rw [← TC.len _ _ _ k5, k1]
        have hctn : ct.nc = 1 := by rw [← TC.len _ _ _ m3]; rfl
        have hoff : off < c1.length := (List.getElem?_eq_some_iff.1 m1).1
        have e1 : cur[i * el.nc + off]? = some v := by
          rw [hnc]
          have e1 : (cur.toList.take (es.length * sz))[i * sz + off]? = some v := by
            rw [k2, List.append_assoc, List.getElem?_append_right (by omega), k3, show i * sz + off - i * sz = off by omega, List.getElem?_append_left hoff]
            exact m1
          rw [List.getElem?_take] at e1
          split at e1
          · simpa using e1
          · cases e1
        subst h2; subst k4; subst m2; subst n2
        simp only [List.cons.injEq, and_true] at h1
        refine ⟨h', g :: L1 ++ L2 ++ L3, Sn, R3 ++ R2 ++ R1, by simp, ?_, foc.tc, fun c' nd' t' Sn' hx hk hp hnd => ?_, fun c' nd' t' Q hk hp hnc1 hb q es0 hq hq0 => ?_⟩
        · simp only [NodeH]
          exact ⟨g, es.length, cap, cur, e, el, ct, v, h1, h3, he, hct, e1, foc.node⟩
        · simp only [T.put, he, hct, Option.bind_some, Option.map_eq_some_iff] at hp
          obtain ⟨ct', hp, hp2⟩ := hp
          subst hp2
          have n5 := foc.put c' nd' ct' Sn' hx (fun x hx' => hk x (by rcases List.mem_append.1 hx' with q | q <;> simp [q])) hp hnd
          have hg : c'.w.heap[g]? = some (.cells cur e (0, 0)) := by rw [hk g (by simp)]; exact h3
          have el' : TC c' (el.putCell off ct') c1 (L2 ++ (L3 ++ Sn' ++ R3) ++ R2) := by
            rcases T.put_elem el ct' off with q | ⟨q1, q2, q3, q4⟩
            · rw [q]
              unfold T.setCells
              refine TC.mk ?_
              have ee : c1 = c1.take off ++ [v] ++ c1.drop (off + 1) := by
                obtain ⟨hh, hv⟩ := List.getElem?_eq_some_iff.1 m1
                rw [List.append_assoc, List.singleton_append, ← hv, ← List.drop_eq_getElem_cons hh, List.take_append_drop]
              rw [ee]
              refine TCs.append _ _ _ _ _ _ (TCs.append _ _ _ _ _ _ (TCs.ext hx _ _ _ (fun x hx' => hk x (by simp [hx'])) m4) ?_) ?_
              · simp only [TCs]; exact ⟨v, [], _, [], rfl, by simp, n5, rfl, rfl⟩
              · simp only [List.length_cons, List.length_nil]
                exact TCs.ext hx _ _ _ (fun x hx' => hk x (by simp [hx'])) m5
            · rw [q4]
              have hl1 := TC.len _ _ _ k5
              rw [q1] at hl1
              have hoff0 : off = 0 := by omega
              subst hoff0
              have hcel : el.cells = [el] := by
                cases el with
                | agg l => exact absurd rfl (q2 l)
                | d y => cases y <;> first | rfl | exact absurd rfl (q3 _)
                | _ => rfl
              match c1, hl1, m1 with
              | [u], _, m1 =>
                simp only [List.getElem?_cons_zero, Option.some.injEq] at m1
                subst m1
                rw [hcel] at m4 m5
                simp only [List.take_zero, TCs] at m4
                simp only [Nat.zero_add, List.drop_succ_cons, List.drop_zero, TCs] at m5
                rw [m4.2, m5.2]
                simpa using n5
          simp only [TC]
          refine .inr ⟨g, cap, cur, e, sz, L1 ++ (L2 ++ (L3 ++ Sn' ++ R3) ++ R2) ++ R1, by rw [List.length_set, h1], by simp, hg, by rw [List.length_set]; exact h4, h5, h6, by rw [List.length_set]; exact h7, ?_⟩
          rw [List.length_set]
          rw [k2]
          exact TE.put hx hn k6 k7 (fun x hx' => hk x (by rcases List.mem_append.1 hx' with q | q <;> simp [q])) k1 el'
        · simp only [T.put, he, hct, Option.bind_some, Option.map_eq_some_iff] at hp
          obtain ⟨ct', hp, hp2⟩ := hp
          subst hp2
          have hg : c'.w.heap[g]? = some (.cells cur e (0, 0)) := by rw [hk g (by simp)]; exact h3
          have hct1 : ct'.nc = 1 := T.put_nc p ct nd nd' ct' hat hp hctn hnc1
          have hpn : (el.putCell off ct').nc = el.nc := T.putCell_nc hct hct1
          have hset : ∀ (j : Nat) (x : T), es[j]? = some x → ∃ x' : T, (es.set i (el.putCell off ct'))[j]? = some x' ∧ x'.nc = x.nc ∧ (j ≠ i → x' = x) ∧ (j = i → x = el ∧ x' = el.putCell off ct') := by
            intro j x hx
            by_cases hj : i = j
            · subst hj
              rw [he] at hx
              simp only [Option.some.injEq] at hx
              subst hx
              exact ⟨_, by rw [List.getElem?_set_self (by simpa using hn)], hpn, fun h => absurd rfl h, fun _ => ⟨rfl, rfl⟩⟩
            · exact ⟨x, by rw [List.getElem?_set_ne hj]; exact hx, rfl, fun _ => rfl, fun h => absurd h.symm hj⟩
          cases q with
          | nil =>
            simp only [T.at, Option.some.injEq, T.own.injEq] at hq0
            subst hq0
            refine ⟨_, rfl, ⟨by simp, fun j x hx => ?_⟩, fun h1 hh => hh⟩
            obtain ⟨x', a1, a2, _⟩ := hset j x hx
            exact ⟨x', a1, a2⟩
          | cons ab q =>
            obtain ⟨a, b⟩ := ab
            simp only [T.at, Option.bind_eq_some_iff] at hq0
            obtain ⟨x, hx, y, hy, hq0⟩ := hq0
            obtain ⟨x', a1, a2, a3, a4⟩ := hset a x hx
            -- the cell by which the road goes on
            have goOn : ∀ y' es', x'.cell b = some y' → y'.at q = some (.own es') → SameShape es0 es' →
                (∀ cv hq, cur[a * x.nc + b]? = some cv → NodeH c cv y q hq → NodeH c' cv y' q hq) →
                ∃ es', (T.own (es.set i (el.putCell off ct'))).at ((a, b) :: q) = some (.own es') ∧ SameShape es0 es' ∧ ∀ hq, NodeH c h (T.own es) ((a, b) :: q) hq → NodeH c' h (T.own (es.set i (el.putCell off ct'))) ((a, b) :: q) hq := by
              intro y' es' b1 b2 b3 b4
              refine ⟨es', by simp [T.at, a1, b1, b2], b3, fun hq hh => ?_⟩
              simp only [NodeH] at hh ⊢
              obtain ⟨g', len', cap', cur', e', el', ct'', cv, d1, d2, d3, d4, d5, d6⟩ := hh
              rw [h1] at d1
              simp only [Value.slice.injEq, Option.some.injEq, Addr.mk.injEq, and_true] at d1
              obtain ⟨d1, _, _⟩ := d1
              subst d1
              rw [h3] at d2
              simp only [Option.some.injEq, Obj.cells.injEq, and_true] at d2
              obtain ⟨d2, _⟩ := d2
              subst d2
              rw [hx] at d3
              simp only [Option.some.injEq] at d3
              subst d3
              rw [hy] at d4
              simp only [Option.some.injEq] at d4
              subst d4
              exact ⟨g, es.length, cap, cur, e, x', y', cv, h1, hg, a1, b1, by rw [a2]; exact d5, b4 cv hq d5 d6⟩
            by_cases ha : a = i
            · obtain ⟨ax, ax'⟩ := a4 ha
              subst ax; subst ax'; subst ha
              by_cases hb' : b = off
              · subst hb'
                rw [hct] at hy
                simp only [Option.some.injEq] at hy
                subst hy
                obtain ⟨es', c1', c2', c3'⟩ := foc.oth c' nd' ct' Q (fun x hx' => hk x (by rcases List.mem_append.1 hx' with q | q <;> simp [q])) hp hnc1 hb q es0 (fun q' hq' => hq q' (by rw [hq']; rfl)) hq0
                have hce : (x.putCell b ct').cell b = some ct' := by
                  by_cases hag : (∀ l, ct' ≠ .agg l) ∧ (∀ l, ct' ≠ .d (.agg l))
                  · exact T.putCell_same hct hct1 hag.1 hag.2
                  · exfalso
                    cases q with
                    | nil => simp only [T.at, Option.some.injEq] at c1'; subst c1'; exact hag ⟨by simp, by simp⟩
                    | cons z q => cases ct' with
                      | own _ => exact hag ⟨by simp, by simp⟩
                      | _ => simp [T.at] at c1'
                refine goOn ct' es' hce c1' c2' fun cv h1 d5 d6 => ?_
                have : cv = v := by rw [e1] at d5; simpa using d5.symm
                subst this
                exact c3' h1 d6
              · refine goOn y es0 (T.putCell_other hct hy hb') hq0 (SameShape.refl _) fun cv h1 d5 d6 => ?_
                have hyc := T.cell_cells hy
                have hyl := T.cell_lt hy
                have fin : ∀ v' Sc', c1[b]? = some v' → TC c y [v'] Sc' → (∀ z ∈ Sc', z ∈ L2 ∨ z ∈ R2) → NodeH c' cv y q h1 := fun v' Sc' f1 f2 f3 => by
                  have : cv = v' := by
                    rw [hnc] at d5
                    have := cell_in k2 k3 f1
                    rw [d5] at this
                    simpa using this
                  subst this
                  exact NodeH.ext q y cv h1 Sc' f2 (fun z hz => hk z (by rcases f3 z hz with w | w <;> simp [w])) d6
                rcases Nat.lt_or_gt_of_ne hb' with hlt | hgt
                · obtain ⟨v', St, g1, g2, g3⟩ := TCs.sub m4 (n := b) (t := y) (by rw [List.getElem?_take, if_pos hlt]; exact hyc)
                  exact fin v' St (by rw [List.getElem?_take, if_pos hlt] at g1; exact g1) g2 (fun z hz => .inl (g3 z hz))
                · obtain ⟨v', St, g1, g2, g3⟩ := TCs.sub m5 (n := b - (off + 1)) (t := y) (by rw [List.getElem?_drop, show off + 1 + (b - (off + 1)) = b by omega]; exact hyc)
                  exact fin v' St (by rw [List.getElem?_drop, show off + 1 + (b - (off + 1)) = b by omega] at g1; exact g1) g2 (fun z hz => .inr (g3 z hz))
            · have := a3 ha
              subst this
              refine goOn y es0 hy hq0 (SameShape.refl _) fun cv h1 d5 d6 => ?_
              have hxn : x'.nc = sz := (TE.len _ _ _ _ h8).2 x' (List.mem_of_getElem? hx)
              have al := (List.getElem?_eq_some_iff.1 hx).1
              have fin : ∀ v' Sc', (cur.toList.take (es.length * sz))[a * sz + b]? = some v' → TC c y [v'] Sc' → (∀ z ∈ Sc', z ∈ L1 ∨ z ∈ R1) → NodeH c' cv y q h1 := fun v' Sc' f1 f2 f3 => by
                have : cv = v' := by
                  rw [hxn] at d5
                  rw [List.getElem?_take] at f1
                  split at f1
                  · have f1' : cur[a * sz + b]? = some v' := by simpa using f1
                    rw [d5] at f1'
                    simpa using f1'
                  · cases f1
                subst this
                exact NodeH.ext q y cv h1 Sc' f2 (fun z hz => hk z (by rcases f3 z hz with w | w <;> simp [w])) d6
              rcases Nat.lt_or_gt_of_ne ha with hlt | hgt
              · obtain ⟨v', St, g1, g2, g3⟩ := TE.sub k6 (n := a) (t := x') (by rw [List.getElem?_take, if_pos hlt]; exact hx) hy
                refine fin v' St ?_ g2 (fun z hz => .inl (g3 z hz))
                rw [List.getElem?_take] at g1
                split at g1
                · exact g1
                · cases g1
              · obtain ⟨v', St, g1, g2, g3⟩ := TE.sub k7 (n := a - (i + 1)) (t := x') (by rw [List.getElem?_drop, show i + 1 + (a - (i + 1)) = a by omega]; exact hx) hy
                refine fin v' St ?_ g2 (fun z hz => .inr (g3 z hz))
                rw [List.getElem?_drop] at g1
                have e2 : i * sz + sz + ((a - (i + 1)) * sz + b) = a * sz + b := by
                  have : a = (a - (i + 1)) + i + 1 := by omega
                  conv => rhs; rw [this]
                  simp only [Nat.add_mul]
                  omega
                rw [e2] at g1
                exact g1
    | d x => simp [T.at] at hat
    | agg l => simp [T.at] at hat
    | dead => simp [T.at] at hat
end Go.Am
