/- The abstract machine: when memory holds what a tree says; what stays when memory changes elsewhere; how a part of a tree is replaced. -/
import Derived.Test.YtabkianhbgpfgaaAmRun
namespace Go.Am
open Go

/-- a world, which blocks pure data may lie in, how many objects there are, and where -/
structure Cx where
  w : World
  pm : Bool → Nat → Prop
  nO : Nat
  ρ : Nat → Nat

/-- a value of the form that the data asks for -/
def fits (d : D) (v : Value) : Prop := match d with | .agg _ => ∃ cs, v = .agg cs | _ => v.oneCell' = true
mutual
/-- cells hold data -/
def VC (c : Cx) : D → List Value → Prop
  | .int k n, cs => cs = [.int k n]
  | .bool b, cs => cs = [.bool b]
  | .str s, cs => ∃ b : ByteArray, cs = [.string b] ∧ b.data.toList = s
  | .nils, cs => cs = [.slice none 0 0]
  | .sl b l, cs => ∃ a len cap, cs = [.slice a len cap] ∧ len = l.length ∧ len ≤ cap ∧ (l ≠ [] → ∃ ad sz, a = some ad ∧ ad.spot = none ∧ c.pm b ad.block ∧ 0 < sz ∧ VE c l ad 0 sz)
  | .agg l, cs => VCs c l cs
  | .nilp, cs => cs = [.pointer none]
  | .ptr o, cs => o < c.nO ∧ cs = [.pointer (some ⟨c.ρ o, 0, none⟩)]
  | .nilm, cs => cs = [.map none]
  | .map o, cs => o < c.nO ∧ cs = [.map (some (c.ρ o))]
  | .nilf, cs => cs = [.nilFunc]
  | .fn f a b, cs => ∃ av bv : Array Value, cs = [.func f av bv] ∧ VVs c a av.toList ∧ VVs c b bv.toList
  | .nili, cs => cs = [.nilIface]
  | .iface t x, cs => ∃ v, cs = [.iface t v] ∧ VC c x v.cells.toList ∧ fits x v
def VCs (c : Cx) : List D → List Value → Prop
  | [], cs => cs = []
  | d :: ds, cs => ∃ v r, cs = v :: r ∧ VC c d [v] ∧ VCs c ds r
def VVs (c : Cx) : List D → List Value → Prop
  | [], vs => vs = []
  | d :: ds, vs => ∃ v r, vs = v :: r ∧ VC c d v.cells.toList ∧ fits d v ∧ VVs c ds r
def VE (c : Cx) : List D → Addr → Nat → Nat → Prop
  | [], _, _, _ => True
  | d :: ds, a, o, sz => (∃ cs, cs.length = sz ∧ (∀ j v, cs[j]? = some v → c.w.cell? (a.add (o + j)) = some v) ∧ VC c d cs) ∧ VE c ds a (o + sz) sz
end
/-- a value holds data -/
def VV (c : Cx) (d : D) (v : Value) : Prop := VC c d v.cells.toList ∧ fits d v

/-- c' has what c has -/
structure Ext (c c' : Cx) : Prop where
  pm : ∀ b g, c.pm b g → c'.pm b g ∧ c'.w.heap[g]? = c.w.heap[g]?
  nO : c.nO ≤ c'.nO
  ρ : ∀ o, o < c.nO → c'.ρ o = c.ρ o

theorem add_block (a : Addr) (n : Nat) : (a.add n).block = a.block := by unfold Addr.add; split <;> rfl
theorem add_plain' (b o n : Nat) : (⟨b, o, none⟩ : Addr).add n = ⟨b, o + n, none⟩ := by unfold Addr.add; split <;> simp_all
theorem cell_same {w w' : World} {a : Addr} (h : w'.heap[a.block]? = w.heap[a.block]?) : w'.cell? a = w.cell? a := by simp [World.cell?, h]

mutual
theorem VC.ext {c c' : Cx} (h : Ext c c') : ∀ (d : D) (cs : List Value), VC c d cs → VC c' d cs
  | .int _ _, _, hv => by simpa [VC] using hv
  | .bool _, _, hv => by simpa [VC] using hv
  | .str _, _, hv => by simpa [VC] using hv
  | .nils, _, hv => by simpa [VC] using hv
  | .nilp, _, hv => by simpa [VC] using hv
  | .nilm, _, hv => by simpa [VC] using hv
  | .nilf, _, hv => by simpa [VC] using hv
  | .nili, _, hv => by simpa [VC] using hv
  | .ptr o, cs, hv => by
    simp only [VC] at hv ⊢
    exact ⟨Nat.lt_of_lt_of_le hv.1 h.nO, by rw [h.ρ o hv.1]; exact hv.2⟩
  | .map o, cs, hv => by
    simp only [VC] at hv ⊢
    exact ⟨Nat.lt_of_lt_of_le hv.1 h.nO, by rw [h.ρ o hv.1]; exact hv.2⟩
  | .agg l, cs, hv => by simp only [VC] at hv ⊢; exact VCs.ext h l cs hv
  | .sl b l, cs, hv => by
    simp only [VC] at hv ⊢
    obtain ⟨a, len, cap, h1, h2, h3, h4⟩ := hv
    refine ⟨a, len, cap, h1, h2, h3, fun hl => ?_⟩
    obtain ⟨ad, sz, h5, h6, h7, h8, h9⟩ := h4 hl
    exact ⟨ad, sz, h5, h6, (h.pm _ _ h7).1, h8, VE.ext h l ad 0 sz (h.pm _ _ h7).2 h9⟩
  | .fn f a b, cs, hv => by
    simp only [VC] at hv ⊢
    obtain ⟨av, bv, h1, h2, h3⟩ := hv
    exact ⟨av, bv, h1, VVs.ext h a _ h2, VVs.ext h b _ h3⟩
  | .iface t x, cs, hv => by
    simp only [VC] at hv ⊢
    obtain ⟨v, h1, h2, h3⟩ := hv
    exact ⟨v, h1, VC.ext h _ _ h2, h3⟩
theorem VCs.ext {c c' : Cx} (h : Ext c c') : ∀ (l : List D) (cs : List Value), VCs c l cs → VCs c' l cs
  | [], _, hv => by simpa [VCs] using hv
  | d :: ds, cs, hv => by
    simp only [VCs] at hv ⊢
    obtain ⟨v, r, h1, h2, h3⟩ := hv
    exact ⟨v, r, h1, VC.ext h d _ h2, VCs.ext h ds _ h3⟩
theorem VVs.ext {c c' : Cx} (h : Ext c c') : ∀ (l : List D) (cs : List Value), VVs c l cs → VVs c' l cs
  | [], _, hv => by simpa [VVs] using hv
  | d :: ds, cs, hv => by
    simp only [VVs] at hv ⊢
    obtain ⟨v, r, h1, h2, h3, h4⟩ := hv
    exact ⟨v, r, h1, VC.ext h _ _ h2, h3, VVs.ext h ds _ h4⟩
theorem VE.ext {c c' : Cx} (h : Ext c c') : ∀ (l : List D) (a : Addr) (o sz : Nat), c'.w.heap[a.block]? = c.w.heap[a.block]? → VE c l a o sz → VE c' l a o sz
  | [], _, _, _, _, _ => by simp [VE]
  | d :: ds, a, o, sz, hb, hv => by
    simp only [VE] at hv ⊢
    obtain ⟨⟨cs, h1, h2, h3⟩, h4⟩ := hv
    refine ⟨⟨cs, h1, fun j v hj => ?_, VC.ext h d cs h3⟩, VE.ext h ds a (o + sz) sz hb h4⟩
    rw [cell_same (w := c.w) (by rw [add_block]; exact hb)]
    exact h2 j v hj
end
theorem VV.ext {c c' : Cx} (h : Ext c c') {d : D} {v : Value} (hv : VV c d v) : VV c' d v := ⟨VC.ext h _ _ hv.1, hv.2⟩

theorem VCs.len {c : Cx} : ∀ (l : List D) (cs : List Value), VCs c l cs → cs.length = l.length
  | [], _, hv => by simp only [VCs] at hv; simp [hv]
  | d :: ds, cs, hv => by
    simp only [VCs] at hv
    obtain ⟨v, r, h1, h2, h3⟩ := hv
    subst h1
    simp [VCs.len ds r h3]
theorem VC.len {c : Cx} (d : D) (cs : List Value) (hv : VC c d cs) : cs.length = d.nc := by
  cases d with
  | agg l => exact VCs.len l cs hv
  | ptr o => simp only [VC] at hv; simp [hv.2, D.nc]
  | map o => simp only [VC] at hv; simp [hv.2, D.nc]
  | str s => obtain ⟨b, h, _⟩ := hv; simp [h, D.nc]
  | sl b l => obtain ⟨a, len, cap, h, _⟩ := hv; simp [h, D.nc]
  | fn f a b => obtain ⟨av, bv, h, _⟩ := hv; simp [h, D.nc]
  | iface t x => obtain ⟨v, h, _⟩ := hv; simp [h, D.nc]
  | _ => simp only [VC] at hv; simp [hv, D.nc]
mutual
theorem VC.one {c : Cx} : ∀ (d : D) (v : Value), VC c d [v] → v.oneCell' = true
  | .agg l, v, hv => by simp only [VC] at hv; exact VCs.one l [v] hv v (by simp)
  | .int _ _, v, hv => by simp only [VC, List.cons.injEq, and_true] at hv; simp [hv, Value.oneCell']
  | .bool _, v, hv => by simp only [VC, List.cons.injEq, and_true] at hv; simp [hv, Value.oneCell']
  | .nils, v, hv => by simp only [VC, List.cons.injEq, and_true] at hv; simp [hv, Value.oneCell']
  | .nilp, v, hv => by simp only [VC, List.cons.injEq, and_true] at hv; simp [hv, Value.oneCell']
  | .nilm, v, hv => by simp only [VC, List.cons.injEq, and_true] at hv; simp [hv, Value.oneCell']
  | .nilf, v, hv => by simp only [VC, List.cons.injEq, and_true] at hv; simp [hv, Value.oneCell']
  | .nili, v, hv => by simp only [VC, List.cons.injEq, and_true] at hv; simp [hv, Value.oneCell']
  | .ptr _, v, hv => by simp only [VC, List.cons.injEq, and_true] at hv; simp [hv.2, Value.oneCell']
  | .map _, v, hv => by simp only [VC, List.cons.injEq, and_true] at hv; simp [hv.2, Value.oneCell']
  | .str _, v, hv => by obtain ⟨b, h, _⟩ := hv; simp at h; simp [h, Value.oneCell']
  | .sl _ _, v, hv => by obtain ⟨a, len, cap, h, _⟩ := hv; simp at h; simp [h, Value.oneCell']
  | .fn _ _ _, v, hv => by obtain ⟨av, bv, h, _⟩ := hv; simp at h; simp [h, Value.oneCell']
  | .iface _ _, v, hv => by obtain ⟨u, h, _⟩ := hv; simp at h; simp [h, Value.oneCell']
theorem VCs.one {c : Cx} : ∀ (l : List D) (cs : List Value), VCs c l cs → ∀ v ∈ cs, v.oneCell' = true
  | [], _, hv => by simp only [VCs] at hv; simp [hv]
  | d :: ds, cs, hv => by
    simp only [VCs] at hv
    obtain ⟨v, r, h1, h2, h3⟩ := hv
    subst h1
    intro u hu
    rcases List.mem_cons.1 hu with rfl | hu
    · exact VC.one d _ h2
    · exact VCs.one ds r h3 u hu
end
theorem VC.ones {c : Cx} (d : D) (cs : List Value) (hv : VC c d cs) : ∀ v ∈ cs, v.oneCell' = true := by
  have hl := VC.len d cs hv
  cases d with
  | agg l => exact VCs.one l cs hv
  | _ =>
    simp only [D.nc] at hl
    match cs, hl with
    | [u], _ => intro v hu; rw [List.mem_singleton.1 hu]; exact VC.one _ u hv
theorem cells_one {v : Value} (h : v.oneCell' = true) : v.cells = #[v] := by cases v <;> simp_all [Value.cells, Value.oneCell']
theorem VV.agg {c : Cx} {l : List D} {cs : Array Value} (h : VCs c l cs.toList) : VV c (.agg l) (.agg cs) := ⟨by simpa [Value.cells, VC] using h, cs, rfl⟩
theorem VV.one {c : Cx} {d : D} {v : Value} (hv : VC c d [v]) (ha : ∀ l, d ≠ .agg l) : VV c d v := by
  have h1 := VC.one d v hv
  refine ⟨by rw [cells_one h1]; exact hv, ?_⟩
  cases d with
  | agg l => exact absurd rfl (ha l)
  | _ => exact h1
theorem VV.inv {c : Cx} {d : D} {v : Value} (hv : VV c d v) (ha : ∀ l, d ≠ .agg l) : VC c d [v] := by
  obtain ⟨h1, h2⟩ := hv
  cases d with
  | agg l => exact absurd rfl (ha l)
  | _ => rwa [cells_one h2] at h1
theorem VV.inv_agg {c : Cx} {l : List D} {v : Value} (hv : VV c (.agg l) v) : ∃ cs, v = .agg cs ∧ VCs c l cs.toList := by
  obtain ⟨h1, cs, rfl⟩ := hv
  exact ⟨cs, rfl, by simpa [Value.cells, VC] using h1⟩
theorem VV.of_cells {c : Cx} {d : D} {cs : List Value} (hv : VC c d cs) (ha : ∀ l, d ≠ .agg l) : ∃ v, cs = [v] ∧ VV c d v := by
  have hl := VC.len d cs hv
  have h1 : d.nc = 1 := by cases d <;> first | rfl | exact absurd rfl (ha _)
  rw [h1] at hl
  match cs, hl with
  | [u], _ => exact ⟨u, rfl, VV.one hv ha⟩
theorem VCs.get {c : Cx} : ∀ (l : List D) (cs : List Value), VCs c l cs → ∀ (i : Nat) (x : D), l[i]? = some x → ∃ v, cs[i]? = some v ∧ VC c x [v]
  | [], _, _ => by simp
  | d :: ds, cs, hv => by
    simp only [VCs] at hv
    obtain ⟨v, r, h1, h2, h3⟩ := hv
    subst h1
    intro i x hx
    cases i with
    | zero => simp at hx; subst hx; exact ⟨v, by simp, h2⟩
    | succ i => simp at hx; obtain ⟨u, h4, h5⟩ := VCs.get ds r h3 i x hx; exact ⟨u, by simpa using h4, h5⟩
theorem VCs.win {c : Cx} : ∀ (l : List D) (cs : List Value), VCs c l cs → ∀ o n, VCs c (win l o n) (win cs o n)
  | [], cs, hv => by simp only [VCs] at hv; subst hv; intro o n; simp [Go.Am.win, VCs]
  | d :: ds, cs, hv => by
    have hv0 := hv
    simp only [VCs] at hv
    obtain ⟨v, r, h1, h2, h3⟩ := hv
    subst h1
    intro o n
    cases o with
    | zero =>
      cases n with
      | zero => simp [Go.Am.win, VCs]
      | succ n =>
        have := VCs.win ds r h3 0 n
        simp only [Go.Am.win, List.drop_zero, List.take_succ_cons, VCs] at this ⊢
        exact ⟨v, _, rfl, h2, this⟩
    | succ o => simpa [Go.Am.win] using VCs.win ds r h3 o n
theorem VCs.append {c : Cx} : ∀ (l : List D) (cs : List Value) (l' : List D) (cs' : List Value), VCs c l cs → VCs c l' cs' → VCs c (l ++ l') (cs ++ cs')
  | [], _, _, _, hv, h' => by simp only [VCs] at hv; subst hv; simpa using h'
  | d :: ds, cs, l', cs', hv, h' => by
    simp only [VCs] at hv
    obtain ⟨v, r, h1, h2, h3⟩ := hv
    subst h1
    simp only [List.cons_append, VCs]
    exact ⟨v, _, rfl, h2, VCs.append ds r l' cs' h3 h'⟩
/-- an element of a slice of pure data -/
theorem VE.get {c : Cx} : ∀ (l : List D) (a : Addr) (o sz : Nat), VE c l a o sz → ∀ (i : Nat) (x : D), l[i]? = some x →
    x.nc = sz ∧ ∃ cs, (∀ j v, cs[j]? = some v → c.w.cell? (a.add (o + i * sz + j)) = some v) ∧ VC c x cs
  | [], _, _, _, _ => by simp
  | d :: ds, a, o, sz, hv => by
    simp only [VE] at hv
    obtain ⟨⟨cs, h1, h2, h3⟩, h4⟩ := hv
    intro i x hx
    cases i with
    | zero => simp at hx; subst hx; exact ⟨by rw [← VC.len _ _ h3, h1], cs, fun j v hj => by simpa using h2 j v hj, h3⟩
    | succ i =>
      simp at hx
      obtain ⟨h5, cs', h6, h7⟩ := VE.get ds a (o + sz) sz h4 i x hx
      refine ⟨h5, cs', fun j v hj => ?_, h7⟩
      have := h6 j v hj
      rwa [show o + (i + 1) * sz + j = o + sz + i * sz + j by rw [Nat.add_mul]; omega]
theorem lends_len : ∀ l : List D, (D.lends l).length = l.length
  | [] => rfl
  | x :: l => by simp [D.lends, lends_len l]
theorem fits_lend {x : D} {v : Value} (h : fits x v) : fits x.lend v := by cases x <;> exact h
theorem VC.norm1 {c : Cx} {x : D} {cs : List Value} (h : VC c x cs) : VC c x.norm1 cs := by
  cases x with
  | nils => simp only [VC] at h; simp only [D.norm1, VC]; exact ⟨none, 0, 0, h, rfl, Nat.le_refl _, fun q => absurd rfl q⟩
  | _ => exact h
theorem VCs.norm1 {c : Cx} : ∀ (l : List D) (cs : List Value), VCs c l cs → VCs c (l.map D.norm1) cs
  | [], cs, h => h
  | d :: ds, cs, h => by
    simp only [VCs] at h
    obtain ⟨v, r, rfl, h2, h3⟩ := h
    exact ⟨v, r, rfl, h2.norm1, VCs.norm1 ds r h3⟩
theorem VC.norm {c : Cx} {x : D} {cs : List Value} (h : VC c x cs) : VC c x.norm cs := by
  cases x with
  | agg l => simp only [VC] at h; simp only [D.norm, VC]; exact VCs.norm1 l cs h
  | _ => exact h.norm1
theorem fits_norm {x : D} {v : Value} (h : fits x v) : fits x.norm v := by cases x <;> exact h
theorem VV.norm {c : Cx} {x : D} {v : Value} (h : VV c x v) : VV c x.norm v := ⟨h.1.norm, fits_norm h.2⟩
theorem norm_agg {x : D} (h : ∀ l, x ≠ .agg l) : ∀ l, x.norm ≠ .agg l := by cases x <;> simp [D.norm, D.norm1] at h ⊢
mutual
theorem VC.lend {c : Cx} (hm : ∀ b, c.pm false b → c.pm true b) : ∀ (d : D) (cs : List Value), VC c d cs → VC c d.lend cs
  | .int _ _, _, hv => hv
  | .bool _, _, hv => hv
  | .str _, _, hv => hv
  | .nils, _, hv => hv
  | .nilp, _, hv => hv
  | .nilm, _, hv => hv
  | .nilf, _, hv => hv
  | .nili, _, hv => hv
  | .ptr _, _, hv => hv
  | .map _, _, hv => hv
  | .agg l, cs, hv => by simp only [VC] at hv; simp only [D.lend, VC]; exact VCs.lend hm l cs hv
  | .sl b l, cs, hv => by
    simp only [VC] at hv
    simp only [D.lend, VC]
    obtain ⟨a, len, cap, h1, h2, h3, h4⟩ := hv
    refine ⟨a, len, cap, h1, by rw [lends_len]; exact h2, h3, fun hl => ?_⟩
    obtain ⟨ad, sz, h5, h6, h7, h8, h9⟩ := h4 (fun e => by subst e; exact hl rfl)
    exact ⟨ad, sz, h5, h6, by cases b <;> first | exact hm _ h7 | exact h7, h8, VE.lend hm l ad 0 sz h9⟩
  | .fn f a b, cs, hv => by
    simp only [VC] at hv
    simp only [D.lend, VC]
    obtain ⟨av, bv, h1, h2, h3⟩ := hv
    exact ⟨av, bv, h1, VVs.lend hm a _ h2, VVs.lend hm b _ h3⟩
  | .iface t x, cs, hv => by
    simp only [VC] at hv
    simp only [D.lend, VC]
    obtain ⟨v, h1, h2, h3⟩ := hv
    exact ⟨v, h1, VC.lend hm _ _ h2, fits_lend h3⟩
theorem VCs.lend {c : Cx} (hm : ∀ b, c.pm false b → c.pm true b) : ∀ (l : List D) (cs : List Value), VCs c l cs → VCs c (D.lends l) cs
  | [], _, hv => hv
  | d :: ds, cs, hv => by
    simp only [VCs] at hv
    obtain ⟨v, r, h1, h2, h3⟩ := hv
    exact ⟨v, r, h1, VC.lend hm d _ h2, VCs.lend hm ds _ h3⟩
theorem VVs.lend {c : Cx} (hm : ∀ b, c.pm false b → c.pm true b) : ∀ (l : List D) (cs : List Value), VVs c l cs → VVs c (D.lends l) cs
  | [], _, hv => hv
  | d :: ds, cs, hv => by
    simp only [VVs] at hv
    obtain ⟨v, r, h1, h2, h3, h4⟩ := hv
    exact ⟨v, r, h1, VC.lend hm d _ h2, fits_lend h3, VVs.lend hm ds _ h4⟩
theorem VE.lend {c : Cx} (hm : ∀ b, c.pm false b → c.pm true b) : ∀ (l : List D) (a : Addr) (o sz : Nat), VE c l a o sz → VE c (D.lends l) a o sz
  | [], _, _, _, hv => hv
  | d :: ds, a, o, sz, hv => by
    simp only [VE] at hv
    obtain ⟨⟨cs, h1, h2, h3⟩, h4⟩ := hv
    exact ⟨⟨cs, h1, h2, VC.lend hm d cs h3⟩, VE.lend hm ds a (o + sz) sz h4⟩
end
theorem VVs.canon {c : Cx} (hm : ∀ b, c.pm false b → c.pm true b) {sn : Bool} {l : List D} {cs : List Value} (h : VVs c l cs) : VVs c (canon sn l) cs := by
  unfold Go.Am.canon
  split
  · exact h
  · exact VVs.lend hm l cs h
end Go.Am
