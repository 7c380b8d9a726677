/- The abstract machine: appends, held against the model's own. -/
import Derived.Test.YtabkianhbgpfgaaAmBuild
namespace Go.Am
open Go Go.RowKit

/-- the cells of a slice can be read -/
def Reads (w : World) (a : Option Addr) (ns : List Value) : Prop := ∀ j u, ns[j]? = some u → ∃ ad, a = some ad ∧ w.cell? (ad.add j) = some u

section
variable {P : Program} {w : World}
theorem run_first {size m cap : Nat} {a : Option Addr} {ns : List Value} (hl : ns.length = m * size) (hr : Reads w a ns) (hn : a = none → ns = []) : (Builtin.firstCells size m (.slice a m cap)).run P w = .ok ns.toArray w := by
  cases a with
  | none => rw [hn rfl]; exact run_firstCells_none w size m m cap
  | some ad => exact run_firstCells_some w size m ad m cap ns hl (fun j u hj => by obtain ⟨ad', h1, h2⟩ := hr j u hj; simp only [Option.some.injEq] at h1; subst h1; exact h2)

theorem run_append_room' {t ty e e0 : TypeId} {i : TypeInfo} (ht : P.underlying t = some (.slice e)) (hi : P.info? e = some i) {g n cap : Nat} {cur : Array Value} (hg : w.heap[g]? = some (.cells cur e0 (0, 0)))
    {xa : Option Addr} {m xc : Nat} {ns : List Value} (hl : ns.length = m * i.size) (hr : Reads w xa ns) (hn : xa = none → ns = []) (h1 : ∀ u ∈ ns, u.oneCell' = true) (hroom : n + m ≤ cap) (hfit : n * i.size + ns.length ≤ cur.size) :
    (Builtin.append_ #[t, t] ty #[.slice (some ⟨g, 0, none⟩) n cap, .slice xa m xc]).run P w =
      .ok (.slice (some ⟨g, 0, none⟩) (n + m) cap) (w.setRow g (cur.toList.take (n * i.size) ++ ns ++ cur.toList.drop (n * i.size + ns.length)).toArray) := by
  have hf := run_first (P := P) (cap := xc) hl hr hn
  have hst := run_storeCells_at P g (n * i.size) e0 ns 0 cur w hg (by simpa using hfit) h1
  simp only [Nat.add_zero] at hst
  have ha : (⟨g, 0, none⟩ : Addr).add (n * i.size) = ⟨g, n * i.size, none⟩ := by rw [add_plain']; simp
  simp [Builtin.append_, run_underlying ht, sizeOf, typeInfo, hi, Builtin.lenOf, hroom, hf, ha, hst]

theorem run_append_stay {t ty e : TypeId} {i : TypeInfo} (ht : P.underlying t = some (.slice e)) (hi : P.info? e = some i) {sa xa : Option Addr} {xc : Nat} (hn : (Builtin.firstCells i.size 0 (.slice xa 0 xc)).run P w = .ok #[] w) :
    (Builtin.append_ #[t, t] ty #[.slice sa 0 0, .slice xa 0 xc]).run P w = .ok (.slice sa 0 0) w := by
  cases sa <;> simp [Builtin.append_, run_underlying ht, sizeOf, typeInfo, hi, Builtin.lenOf, hn, storeCells]

theorem run_append_grow' {t ty e : TypeId} {i : TypeInfo} {z : Value} (ht : P.underlying t = some (.slice e)) (hi : P.info? e = some i) (hz : i.zero = some z) {sa : Option Addr} {n cap : Nat} {os : List Value} (hlo : os.length = n * i.size) (hro : Reads w sa os) (hno : sa = none → os = [])
    {xa : Option Addr} {m xc : Nat} {ns : List Value} (hl : ns.length = m * i.size) (hr : Reads w xa ns) (hn : xa = none → ns = []) (hg : cap < n + m) (h63 : ((n + m : Nat) : Int) ≤ 9223372036854775807) (hfit : Builtin.nextslicecap (n + m) cap * i.bytes ≤ 281474976710656) :
    (Builtin.append_ #[t, t] ty #[.slice sa n cap, .slice xa m xc]).run P w =
      .ok (.slice (some ⟨w.heap.size, 0, none⟩) (n + m) (grownCap w (n + m) cap e)) (w.drew.alloc (.cells (os.toArray ++ ns.toArray ++ Builtin.zeroCells z.cells (grownCap w (n + m) cap e - (n + m))) e)) := by
  have hn' : ¬ (n + m ≤ cap) := by omega
  have h63' : ¬ (9223372036854775807 < ((n : Int) + (m : Int))) := by omega
  have h48' : ¬ (281474976710656 < Builtin.nextslicecap (n + m) cap * i.bytes) := by omega
  have hf := run_first (P := P) (w := w.drew) (cap := xc) hl (fun j u hj => by simpa using hr j u hj) hn
  have hfo := run_first (P := P) (w := w.drew) (cap := cap) hlo (fun j u hj => by simpa using hro j u hj) hno
  simp [Builtin.append_, run_underlying ht, sizeOf, typeInfo, zeroValue, hi, hz, Builtin.lenOf, hn', h63', h48', Question.forced, hf, hfo, newRow, grownCap]
  congr 2
  apply Array.ext'
  simp [List.append_assoc]
end

theorem VE.cells {c : Cx} {a : Addr} : ∀ (l : List D) (o sz : Nat), VE c l a o sz → ∃ ns, ns.length = l.length * sz ∧ (∀ j u, ns[j]? = some u → c.w.cell? (a.add (o + j)) = some u) ∧ TE c (l.map .d) sz ns []
  | [], o, sz, _ => ⟨[], by simp, by simp, by simp [TE]⟩
  | d :: ds, o, sz, h => by
    simp only [VE] at h
    obtain ⟨⟨cs, h1, h2, h3⟩, h4⟩ := h
    obtain ⟨ns, k1, k2, k3⟩ := VE.cells ds (o + sz) sz h4
    refine ⟨cs ++ ns, by simp [h1, k1, Nat.add_mul, Nat.add_comm], fun j u hj => ?_, ?_⟩
    · by_cases hlt : j < sz
      · rw [List.getElem?_append_left (by omega)] at hj; exact h2 j u hj
      · rw [List.getElem?_append_right (by omega), h1] at hj
        have := k2 _ u hj
        rwa [show o + sz + (j - sz) = o + j by omega] at this
    · simp only [List.map_cons, TE]
      exact ⟨cs, ns, [], [], rfl, rfl, h1, by simp only [TC]; exact ⟨trivial, h3⟩, k3⟩
theorem TE.plain {c : Cx} : ∀ (ts : List T) (sz : Nat) (cs : List Value) (S : List Nat), plainT ts = true → TE c ts sz cs S → S = []
  | [], _, _, _, _, h => by simp only [TE] at h; exact h.2
  | t :: ts, sz, cs, S, hp, h => by
    cases t with
    | d x =>
      simp only [TE, TC] at h
      obtain ⟨c1, c2, S1, S2, rfl, rfl, _, ⟨rfl, _⟩, h5⟩ := h
      simpa using TE.plain ts sz c2 S2 hp h5
    | _ => simp [plainT] at hp
theorem TE.nc_eq {c : Cx} {ts : List T} {sz sz' : Nat} {cs : List Value} {S : List Nat} (h : TE c ts sz cs S) (hu : uniform sz' ts = true) (hne : ts ≠ []) : sz = sz' := by
  match ts, hne with
  | t :: r, _ =>
    have h1 := (TE.len _ _ _ _ h).2 t (by simp)
    have h2 := List.all_eq_true.1 hu t (by simp)
    simp at h2
    omega

/-- what is appended: its header, its cells -/
structure News (c : Cx) (news : List T) (sz : Nat) (v : Value) (xa : Option Addr) (xc : Nat) (ns : List Value) (M : List Nat) : Prop where
  hv : v = .slice xa news.length xc
  te : TE c news sz ns M
  rd : Reads c.w xa ns
  no : xa = none → ns = []

section
variable {P : Program} {A : Av} {ρ : Nat → Nat} {S : Root → List Nat} {hd : Root → Value} {fl : List Nat} {k k' : Wk} {vals : List (SV × Value)} {w : World}

/-- a window on a row: its cells -/
theorem win_row {c : Cx} {es : List T} {h' v : Value} {Sn : List Nat} {off len sz : Nat} (ht : TC c (.own es) [h'] Sn) (hle : off + len ≤ es.length) (hw : Win h' es off len v) (hpl : plainT (win es off len) = true) (hu : uniform sz (win es off len) = true) :
    ∃ xa xc ns, News c (win es off len) sz v xa xc ns [] := by
  have hwl := win_length es off len hle
  obtain ⟨a, n, cap, a', cap', m1, m2, m3, m4, m5⟩ := hw
  subst m2
  rcases Nat.eq_zero_or_pos len with h0 | h0
  · subst h0
    have : win es off 0 = [] := by simp [win]
    rw [this]
    exact ⟨a', cap', [], rfl, by simp [TE], fun j u hj => by simp at hj, fun _ => rfl⟩
  · obtain ⟨g, el, n1, n2, n3⟩ := m5 h0
    rcases ht with ⟨a0, k1, k2, _⟩ | ⟨g0, cap0, cur, e, sz0, S', k1, k2, k3, k4, k5, k6, k7, k8⟩
    · subst k2; simp at n2
    · subst n1
      simp only [List.cons.injEq, and_true] at k1
      rw [m1] at k1
      simp only [Value.slice.injEq, Option.some.injEq, Addr.mk.injEq, and_true] at k1
      obtain ⟨rfl, _, _⟩ := k1
      have hnc : el.nc = sz0 := (TE.len _ _ _ _ k8).2 el (List.mem_of_getElem? n2)
      obtain ⟨Sa, Sb, _, _, t2⟩ := TE.split off es sz0 _ S' k8
      obtain ⟨Sc, Sd, _, t4, _⟩ := TE.split len _ sz0 _ Sb t2
      have hsc := TE.plain _ _ _ _ hpl t4
      subst hsc
      have hne : win es off len ≠ [] := fun hc => by rw [hc] at hwl; simp at hwl; omega
      have hsz := TE.nc_eq t4 hu hne
      subst hsz
      refine ⟨_, cap', _, by rw [hwl], t4, fun j u hj => ⟨_, n3, ?_⟩, fun hc => by rw [n3] at hc; cases hc⟩
      rw [add_plain', World.cell?, k3]
      simp only [Option.isSome_none]
      rw [List.getElem?_take] at hj
      split at hj
      · rw [List.getElem?_drop, List.getElem?_take] at hj
        split at hj
        · rw [hnc]; simpa using hj
        · cases hj
      · cases hj

theorem newsE_ok {nv sz : Nat} {v : SV} {val : Value} {news : List T} (h : KR A ρ S hd fl k vals w) (hv : SO (cxOf A k.H.length ρ S fl w) k.get hd v val) (e : newsE nv v k = some (news, k')) (hu : uniform sz news = true) :
    ∃ S' M xa xc ns, KR A ρ S' hd (M ++ fl) k' vals w ∧ Ext (cxOf A k.H.length ρ S fl w) (cxOf A k'.H.length ρ S' (M ++ fl) w) ∧ News (cxOf A k'.H.length ρ S' (M ++ fl) w) news sz val xa xc ns M ∧ k'.H.length = k.H.length := by
  have same : ∀ xa xc ns, News (cxOf A k.H.length ρ S fl w) news sz val xa xc ns [] → k' = k →
      ∃ S' M xa xc ns, KR A ρ S' hd (M ++ fl) k' vals w ∧ Ext (cxOf A k.H.length ρ S fl w) (cxOf A k'.H.length ρ S' (M ++ fl) w) ∧ News (cxOf A k'.H.length ρ S' (M ++ fl) w) news sz val xa xc ns M ∧ k'.H.length = k.H.length :=
    fun xa xc ns hn hk => by subst hk; exact ⟨S, [], xa, xc, ns, by simpa using h, by simpa using (⟨fun _ _ hp => ⟨hp, rfl⟩, Nat.le_refl _, fun _ _ => rfl⟩ : Ext _ _), by simpa using hn, rfl⟩
  have pure : ∀ b l, VC (cxOf A k.H.length ρ S fl w) (.sl b l) [val] → news = l.map .d → k' = k →
      ∃ S' M xa xc ns, KR A ρ S' hd (M ++ fl) k' vals w ∧ Ext (cxOf A k.H.length ρ S fl w) (cxOf A k'.H.length ρ S' (M ++ fl) w) ∧ News (cxOf A k'.H.length ρ S' (M ++ fl) w) news sz val xa xc ns M ∧ k'.H.length = k.H.length := by
    intro b l hvc hn hk
    subst hn
    simp only [VC, List.cons.injEq, and_true] at hvc
    obtain ⟨a, len, cap, rfl, rfl, h3, h4⟩ := hvc
    by_cases hl : l = []
    · subst hl
      exact same a cap [] ⟨rfl, by simp [TE], fun j u hj => by simp at hj, fun _ => rfl⟩ hk
    · obtain ⟨ad, sz', rfl, q2, q3, q4, q5⟩ := h4 hl
      obtain ⟨ns, n1, n2, n3⟩ := VE.cells l 0 sz' q5
      have hsz := TE.nc_eq n3 hu (by simpa using hl)
      subst hsz
      exact same (some ad) cap ns ⟨by simp, n3, fun j u hj => ⟨ad, rfl, by simpa using n2 j u hj⟩, fun hc => by cases hc⟩ hk
  cases v with
  | d x =>
    cases x with
    | nils =>
      simp only [newsE, Option.some.injEq, Prod.mk.injEq] at e
      obtain ⟨rfl, rfl⟩ := e
      have hvc : VC (cxOf A k.H.length ρ S fl w) .nils [val] := VV.inv hv (by simp)
      simp only [VC, List.cons.injEq, and_true] at hvc
      exact same none 0 [] ⟨hvc, by simp [TE], fun j u hj => by simp at hj, fun _ => rfl⟩ rfl
    | sl b l =>
      simp only [newsE, Option.some.injEq, Prod.mk.injEq] at e
      obtain ⟨rfl, rfl⟩ := e
      exact pure b l (VV.inv hv (by simp)) rfl rfl
    | _ => simp [newsE] at e
  | clip b l =>
    simp only [newsE, Option.some.injEq, Prod.mk.injEq] at e
    obtain ⟨rfl, rfl⟩ := e
    exact pure b l hv.1 rfl rfl
  | bor r p off len =>
    obtain ⟨t0, es, h', b1, b2, b3, b4, b5⟩ := hv
    obtain ⟨h0, L, Sn, R, hS, foc⟩ := TC.focus p t0 (hd r) (S r) (.own es) (h.cont r t0 b1) b2
    have hh : h0 = h' := NodeH.uniq p t0 (hd r) h0 h' foc.node b3
    subst hh
    simp only [newsE, b1, b2, Option.bind_some] at e
    have copied : (if plainT (win es off len) = true then some (win es off len, k) else none) = some (news, k') →
        ∃ S' M xa xc ns, KR A ρ S' hd (M ++ fl) k' vals w ∧ Ext (cxOf A k.H.length ρ S fl w) (cxOf A k'.H.length ρ S' (M ++ fl) w) ∧ News (cxOf A k'.H.length ρ S' (M ++ fl) w) news sz val xa xc ns M ∧ k'.H.length = k.H.length := by
      intro e
      split at e
      · rename_i hpl
        simp only [Option.some.injEq, Prod.mk.injEq] at e
        obtain ⟨rfl, rfl⟩ := e
        obtain ⟨xa, xc, ns, hn⟩ := win_row foc.tc b4 b5 hpl hu
        exact same xa xc ns hn rfl
      · cases e
    split at e
    · rename_i n j
      split at e
      · rename_i hc
        obtain ⟨_, rfl, rfl⟩ := hc
        simp only [T.at, Option.some.injEq] at b2
        subst b2
        simp only [Wk.set, Option.map_some, Option.some.injEq, Prod.mk.injEq] at e
        obtain ⟨rfl, rfl⟩ := e
        obtain ⟨g1, g2⟩ := h.takeOut (k' := { k with ct := ((n, j), .dead) :: k.ct }) (t' := .dead) b1 hS foc rfl rfl
        have ht := TC.ext g2 _ _ _ (fun _ _ => rfl) foc.tc
        have hw := b5.whole ht
        rcases hw with ⟨a, k1, k2, k3⟩ | ⟨g, cap, cur, ty, sz', S', k1, k2, k3, k4, k5, k6, k7, k8⟩
        · subst k2; subst k3
          simp only [List.cons.injEq, and_true] at k1
          exact ⟨_, [], a, 0, [], g1, g2, ⟨k1, by simp [TE], fun j u hj => by simp at hj, fun _ => rfl⟩, rfl⟩
        · simp only [List.cons.injEq, and_true] at k1
          subst k2
          have hne : es ≠ [] := fun hc => by subst hc; simp at k7
          · have hsz := TE.nc_eq k8 hu hne
            subst hsz
            have hn := g1.dis.ndF
            obtain ⟨g3, g4⟩ := g1.letGo (fl' := S' ++ fl) (by simp at hn; exact hn.2) (fun b hb => by simp at hb ⊢; exact .inr hb)
            refine ⟨_, S', some ⟨g, 0, none⟩, cap, _, g3, ⟨fun t b hp => ⟨(g4.pm t b (g2.pm t b hp).1).1, rfl⟩, Nat.le_refl _, fun _ _ => rfl⟩, ⟨k1, TE.ext g4 _ _ _ _ (fun _ _ => rfl) k8, fun j u hj => ⟨_, rfl, ?_⟩, fun hc => by cases hc⟩, rfl⟩
            have hcell : w.cell? ⟨g, 0 + j, none⟩ = some u := by
              rw [World.cell?, show w.heap[g]? = _ from k3]
              simp only [Option.isSome_none, Nat.zero_add]
              rw [List.getElem?_take] at hj
              split at hj
              · simpa using hj
              · cases hj
            rw [add_plain']
            exact hcell
      · exact copied e
    · exact copied e
  | _ => simp [newsE] at e

/-- what is appended to: its header, its cells -/
inductive Olds (c : Cx) (olds : List T) (sz : Nat) (v : Value) : List Nat → Prop
  | empty (sa : Option Addr) (ho : olds = []) (hv : v = .slice sa 0 0) : Olds c olds sz v []
  | row (g cap : Nat) (cur : Array Value) (e0 : TypeId) (S0 : List Nat) (hv : v = .slice (some ⟨g, 0, none⟩) olds.length cap) (hg : c.w.heap[g]? = some (.cells cur e0 (0, 0))) (hle : olds.length ≤ cap) (hcap : cap ≤ maxLen)
      (hcur : cap * sz ≤ cur.size) (te : TE c olds sz (cur.toList.take (olds.length * sz)) S0) : Olds c olds sz v (g :: S0)

theorem take_two {α : Type} (X ns : List α) (n m : Nat) (h1 : n ≤ X.length) (h2 : ns.length = m) (_h3 : n + m ≤ X.length) : (X.take n ++ ns ++ X.drop (n + m)).take (n + m) = X.take n ++ ns := by
  rw [List.take_append_of_le_length (by simp; omega)]
  exact List.take_of_length_le (by simp; omega)

theorem append_final {t ty e : TypeId} {i : TypeInfo} {z : Value} (ht : P.underlying t = some (.slice e)) (hi : P.info? e = some i) (hz : i.zero = some z) (hzs : z.cells.size = i.size) (hsz : 0 < i.size) {dst : Nat} {olds news : List T} {sval xval : Value} {xa : Option Addr} {xc : Nat} {ns : List Value} {N0 M : List Nat} (hok : N0 = [] ∨ 0 < olds.length + news.length)
    (h : KR A ρ S hd ((N0 ++ M) ++ fl) k vals w) (ho : Olds (cxOf A k.H.length ρ S ((N0 ++ M) ++ fl) w) olds i.size sval N0) (hn : News (cxOf A k.H.length ρ S ((N0 ++ M) ++ fl) w) news i.size xval xa xc ns M)
    (hb : (olds.length + news.length) * i.bytes ≤ 140737488355328) (h63 : olds.length + news.length ≤ 9223372036854775807) :
    ∃ v w' ρ' S' hd', (Builtin.append_ #[t, t] ty #[sval, xval]).run P w = .ok v w' ∧ KR A ρ' S' hd' fl (k.new dst 0 (.own (olds ++ news))) vals w' ∧
      SO (cxOf A (k.new dst 0 (.own (olds ++ news))).H.length ρ' S' fl w') (k.new dst 0 (.own (olds ++ news))).get hd' (.bor (.l dst 0) [] 0 (olds ++ news).length) v := by
  have hnl := TE.len _ _ _ _ hn.te
  have hones := TE.ones _ _ _ _ hn.te
  have hxv := hn.hv
  subst hxv
  -- the row becomes a root
  have fin : ∀ (w' : World) (N : List Nat) (v : Value), KR A ρ S hd (N ++ fl) k vals w' → TC (cxOf A k.H.length ρ S (N ++ fl) w') (.own (olds ++ news)) [v] N → (Builtin.append_ #[t, t] ty #[sval, .slice xa news.length xc]).run P w = .ok v w' →
      ∃ v w' ρ' S' hd', (Builtin.append_ #[t, t] ty #[sval, .slice xa news.length xc]).run P w = .ok v w' ∧ KR A ρ' S' hd' fl (k.new dst 0 (.own (olds ++ news))) vals w' ∧
        SO (cxOf A (k.new dst 0 (.own (olds ++ news))).H.length ρ' S' fl w') (k.new dst 0 (.own (olds ++ news))).get hd' (.bor (.l dst 0) [] 0 (olds ++ news).length) v := by
    intro w' N v hk hrow hrun
    obtain ⟨n1, n2⟩ := hk.newRoot (n := dst) (j := 0) hrow
    exact ⟨v, w', ρ, _, _, hrun, n1, new_bor (dst := dst) (k0 := k) (hd' := upd hd (.l dst 0) v) (TC.ext n2 _ _ _ (fun _ _ => rfl) hrow) (by simp)⟩
  -- a new block
  have grow : ∀ (sa : Option Addr) (sCap : Nat) (os : List Value) (S0 : List Nat), sval = .slice sa olds.length sCap → Reads w sa os → (sa = none → os = []) → TE (cxOf A k.H.length ρ S ((N0 ++ M) ++ fl) w) olds i.size os S0 → (∀ b ∈ S0, b ∈ N0) → S0.Nodup → sCap < olds.length + news.length →
      ∃ v w' ρ' S' hd', (Builtin.append_ #[t, t] ty #[sval, .slice xa news.length xc]).run P w = .ok v w' ∧ KR A ρ' S' hd' fl (k.new dst 0 (.own (olds ++ news))) vals w' ∧
        SO (cxOf A (k.new dst 0 (.own (olds ++ news))).H.length ρ' S' fl w') (k.new dst 0 (.own (olds ++ news))).get hd' (.bor (.l dst 0) [] 0 (olds ++ news).length) v := by
    intro sa sCap os S0 hsv hro hno hte hS0 hS0n hlt
    have hol := TE.len _ _ _ _ hte
    have hrun := run_append_grow' (P := P) (w := w) (ty := ty) (cap := sCap) (xc := xc) ht hi hz hol.1 hro hno hnl.1 hn.rd hn.no hlt (by omega) (growslice_fits hlt hb)
    rw [← hsv] at hrun
    obtain ⟨d1, d2⟩ := h.drew
    obtain ⟨a1, a2⟩ := d1.alloc (.cells (os.toArray ++ ns.toArray ++ Builtin.zeroCells z.cells (grownCap w (olds.length + news.length) sCap e - (olds.length + news.length))) e)
    have hnd := a1.dis.ndF
    rw [List.nodup_append] at hnd
    have hnd2 := (List.nodup_cons.1 hnd.1)
    have hnd3 := hnd2.2
    rw [List.nodup_append] at hnd3
    obtain ⟨l1, l2⟩ := a1.letGo (fl' := (w.heap.size :: (S0 ++ M)) ++ fl) (by
      rw [List.nodup_append]
      refine ⟨List.nodup_cons.2 ⟨fun hc => hnd2.1 ?_, ?_⟩, hnd.2.1, fun a ha b hb => hnd.2.2 a ?_ b hb⟩
      · rcases List.mem_append.1 hc with q | q
        · exact List.mem_append_left _ (hS0 _ q)
        · exact List.mem_append_right _ q
      · rw [List.nodup_append]
        exact ⟨hS0n, hnd3.2.1, fun a ha b hb => hnd3.2.2 a (hS0 a ha) b hb⟩
      · rcases List.mem_cons.1 ha with rfl | ha
        · simp
        · rcases List.mem_append.1 ha with q | q
          · exact List.mem_cons_of_mem _ (List.mem_append_left _ (hS0 _ q))
          · exact List.mem_cons_of_mem _ (List.mem_append_right _ q)) (fun b hb => by
      rcases List.mem_append.1 hb with q | q
      · rcases List.mem_cons.1 q with rfl | q
        · simp
        · rcases List.mem_append.1 q with q | q
          · exact List.mem_append_left _ (List.mem_cons_of_mem _ (List.mem_append_left _ (hS0 _ q)))
          · exact List.mem_append_left _ (List.mem_cons_of_mem _ (List.mem_append_right _ q))
      · exact List.mem_append_right _ q)
    have ex : Ext (cxOf A k.H.length ρ S ((N0 ++ M) ++ fl) w) (cxOf A k.H.length ρ S ((w.heap.size :: (S0 ++ M)) ++ fl) (w.drew.alloc (.cells (os.toArray ++ ns.toArray ++ Builtin.zeroCells z.cells (grownCap w (olds.length + news.length) sCap e - (olds.length + news.length))) e))) :=
      ⟨fun t b hp => by
        have q1 := d2.pm t b hp; have q2 := a2.pm t b q1.1; have q3 := l2.pm t b q2.1
        exact ⟨q3.1, q3.2.trans (q2.2.trans q1.2)⟩, Nat.le_refl _, fun _ _ => rfl⟩
    have kp : ∀ b, b ∈ N0 ++ M → (w.drew.alloc (.cells (os.toArray ++ ns.toArray ++ Builtin.zeroCells z.cells (grownCap w (olds.length + news.length) sCap e - (olds.length + news.length))) e)).heap[b]? = w.heap[b]? := fun b hb =>
      Below.heap_alloc w.drew _ b (h.blk b (.inr (List.mem_append_left _ hb))).1
    have t1 := TE.ext ex _ _ _ _ (fun b hb => kp b (List.mem_append_left _ (hS0 b hb))) hte
    have t2 := TE.ext ex _ _ _ _ (fun b hb => kp b (List.mem_append_right _ hb)) hn.te
    have hC := grownCap_ge w (olds.length + news.length) sCap e
    refine fin _ (w.heap.size :: (S0 ++ M)) _ l1 ?_ hrun
    simp only [TC]
    refine .inr ⟨w.heap.size, _, _, e, i.size, S0 ++ M, by rw [List.length_append], rfl, by simpa [cxOf] using heap_alloc_new w.drew _, by rw [List.length_append]; exact hC, grownCap_le_maxLen w _ _ e (le_maxLen h63), ?_, ?_, ?_⟩
    · simp only [Array.size_append, List.size_toArray, List.length_append, size_zeroCells, hzs, hol.1, hnl.1, ← Nat.add_mul]
      refine Nat.mul_le_mul_right _ ?_
      omega
    · rw [List.length_append]; exact Nat.mul_pos (by omega) hsz
    · have : (os ++ ns).length = (olds ++ news).length * i.size := by rw [List.length_append, List.length_append, hol.1, hnl.1, Nat.add_mul]
      simp only [Array.toList_append, ← this]
      rw [List.take_left]
      exact TE.append _ _ _ _ _ _ _ t1 t2
  cases ho with
  | empty sa ho hv =>
    subst ho; subst hv
    by_cases hm : news.length = 0
    · have hnn : news = [] := List.eq_nil_of_length_eq_zero hm
      have hns : ns = [] := List.eq_nil_of_length_eq_zero (by rw [hnl.1, hm]; simp)
      have hrun : (Builtin.append_ #[t, t] ty #[.slice sa 0 0, .slice xa news.length xc]).run P w = .ok (.slice sa 0 0) w := by
        rw [hm]
        refine run_append_stay ht hi ?_
        have := run_first (P := P) (w := w) (size := i.size) (m := 0) (a := xa) (cap := xc) (ns := ns) (by rw [hns]; simp) hn.rd hn.no
        rw [hns] at this
        exact this
      have hnd := h.dis.ndF
      rw [List.nodup_append] at hnd
      obtain ⟨l1, _⟩ := h.letGo (fl' := [] ++ fl) (by simpa using hnd.2.1) (fun b hb => List.mem_append_right _ (by simpa using hb))
      refine fin w [] (.slice sa 0 0) l1 ?_ hrun
      subst hnn
      exact .inl ⟨sa, rfl, rfl, rfl⟩
    · exact grow sa 0 [] [] rfl (fun j u hj => by simp at hj) (fun _ => rfl) (by simp [TE]) (by simp) (by simp) (by simp; omega)
  | row g cap cur e0 S0 hv hg hle hcap hcur te =>
    subst hv
    have hnd := h.dis.ndF
    rw [List.nodup_append, List.nodup_append] at hnd
    have hS0n := (List.nodup_cons.1 hnd.1.1)
    have hol := TE.len _ _ _ _ te
    have hlen1 : olds.length * i.size ≤ cur.size := Nat.le_trans (Nat.mul_le_mul_right _ hle) hcur
    by_cases hroom : olds.length + news.length ≤ cap
    · have hlen2 : (olds.length + news.length) * i.size ≤ cur.size := Nat.le_trans (Nat.mul_le_mul_right _ hroom) hcur
      rw [Nat.add_mul] at hlen2
      have hrun := run_append_room' (P := P) (w := w) (ty := ty) (xc := xc) (n := olds.length) ht hi (show w.heap[g]? = _ from hg) hnl.1 hn.rd hn.no hones hroom (by rw [hnl.1]; exact hlen2)
      obtain ⟨k1, k2⟩ := KR.world (w := w) (w' := w.setRow g (cur.toList.take (olds.length * i.size) ++ ns ++ cur.toList.drop (olds.length * i.size + ns.length)).toArray) (M := (g :: S0) ++ M) (M' := (g :: S0) ++ M) rfl rfl rfl (by simp) h
        (fun b _ hb => setRow_heap_ne w g b _ (fun e => hb (by simp [e]))) (fun b hb => .inl hb) (by rw [List.nodup_append]; exact hnd.1)
      have kp : ∀ b, b ≠ g → (w.setRow g (cur.toList.take (olds.length * i.size) ++ ns ++ cur.toList.drop (olds.length * i.size + ns.length)).toArray).heap[b]? = w.heap[b]? := fun b hb => setRow_heap_ne w g b _ hb
      have t1 := TE.ext k2 _ _ _ _ (fun b hb => kp b (fun e => hS0n.1 (e ▸ hb))) te
      have t2 := TE.ext k2 _ _ _ _ (fun b hb => kp b (fun e => hnd.1.2.2 g (by simp) b hb e.symm)) hn.te
      refine fin _ ((g :: S0) ++ M) _ k1 ?_ hrun
      simp only [TC]
      refine .inr ⟨g, cap, _, e0, i.size, S0 ++ M, by rw [List.length_append], rfl, setRow_heap w g cur _ e0 _ hg, by rw [List.length_append]; exact hroom, hcap, ?_, by rw [List.length_append]; exact Nat.mul_pos (by rcases hok with h0 | h0; cases h0; exact h0) hsz, ?_⟩
      · simp only [List.size_toArray, List.length_append, List.length_take, List.length_drop, Array.length_toList]
        rw [hnl.1]
        omega
      · rw [List.length_append, Nat.add_mul, ← hnl.1]
        rw [take_two _ _ _ _ (by simpa using hlen1) rfl (by rw [hnl.1]; simpa using hlen2)]
        exact TE.append _ _ _ _ _ _ _ t1 t2
    · refine grow (some ⟨g, 0, none⟩) cap _ S0 rfl (fun j u hj => ⟨_, rfl, ?_⟩) (fun hc => by cases hc) te (fun b hb => by simp [hb]) hS0n.2 (by omega)
      rw [add_plain', World.cell?, show w.heap[g]? = _ from hg]
      simp only [Option.isSome_none, Nat.zero_add]
      rw [List.getElem?_take] at hj
      split at hj
      · simpa using hj
      · cases hj

theorem appendE_ok {nv dst : Nat} {t ty : TypeId} {s x sv : SV} {sval xval : Value} (h : KR A ρ S hd fl k vals w) (htr : k.tr = []) (hs : (s, sval) ∈ vals) (hx : (x, xval) ∈ vals) (e : appendE P nv dst t s x k = some (sv, k')) :
    ∃ v w' ρ' S' hd', (Builtin.append_ #[t, t] ty #[sval, xval]).run P w = .ok v w' ∧ KR A ρ' S' hd' fl k' vals w' ∧ SO (cxOf A k'.H.length ρ' S' fl w') k'.get hd' sv v := by
  simp only [appendE, oldsE, Option.bind_eq_some_iff] at e
  obtain ⟨et, h1, z, hz, ⟨news, k1⟩, h2, e⟩ := e
  split at e
  · rename_i hh
    obtain ⟨a1, a2, a3⟩ := hh
    simp only [Option.bind_eq_some_iff] at e
    obtain ⟨⟨olds, k2⟩, h3, e⟩ := e
    split at e
    · rename_i hbd
      obtain ⟨hb, h63⟩ := hbd
      simp only [Option.some.injEq, Prod.mk.injEq] at e
      obtain ⟨rfl, rfl⟩ := e
      have hu := elemOf_ok h1
      obtain ⟨i, zv, b1, b2, b3, _⟩ := zeroOf_ok hz
      have hcells : P.cellsOf et = i.size := by simp [Program.cellsOf, b1]
      have hbytes : P.bytesOf et = i.bytes := by simp [Program.bytesOf, b1]
      rw [hbytes] at hb
      rw [hcells] at a1 a2 a3
      have hzs : zv.cells.size = i.size := by
        rw [← Array.length_toList, VC.len _ _ (ofVal_ok (c := cxOf A k.H.length ρ S fl w) b3).1, a3]
      have hvx := h.vals (x, xval) hx
      rw [htr] at hvx
      obtain ⟨S1, M, xa, xc, ns, g1, g2, g3, g4⟩ := newsE_ok h hvx h2 a2
      have hvs := g1.vals (s, sval) hs
      simp only at hvs h3
      have fin0 : ∀ (sa : Option Addr), sval = .slice sa 0 0 → olds = [] → k2 = k1 → ∃ v w' ρ' S' hd', (Builtin.append_ #[t, t] ty #[sval, xval]).run P w = .ok v w' ∧ KR A ρ' S' hd' fl (k2.new dst 0 (.own (olds ++ news))) vals w' ∧
          SO (cxOf A (k2.new dst 0 (.own (olds ++ news))).H.length ρ' S' fl w') (k2.new dst 0 (.own (olds ++ news))).get hd' (.bor (.l dst 0) [] 0 (olds ++ news).length) v := by
        intro sa q1 q2 q3
        subst q2; subst q3
        exact append_final hu b1 b2 hzs a1 (N0 := []) (M := M) (.inl rfl) (by simpa using g1) (Olds.empty sa rfl q1) (by simpa using g3) hb h63
      generalize htv : trv k1.tr s = u at h3 hvs
      split at h3
      · simp only [Option.some.injEq, Prod.mk.injEq] at h3
        obtain ⟨rfl, rfl⟩ := h3
        have hvc : VC (cxOf A k1.H.length ρ S1 (M ++ fl) w) .nils [sval] := VV.inv hvs (by simp)
        simp only [VC, List.cons.injEq, and_true] at hvc
        exact fin0 none hvc rfl rfl
      · simp only [Option.some.injEq, Prod.mk.injEq] at h3
        obtain ⟨rfl, rfl⟩ := h3
        obtain ⟨_, a, ha⟩ := hvs
        exact fin0 a ha rfl rfl
      · rename_i r p off len
        split at h3
        · rename_i hoff
          subst hoff
          simp only [Option.bind_eq_some_iff] at h3
          obtain ⟨t0, hc, nd, hat, h3⟩ := h3
          split at h3
          · rename_i es
            split at h3
            · rename_i hcond
              obtain ⟨c1, c2, c3⟩ := hcond
              simp only [Option.bind_eq_some_iff, Option.map_eq_some_iff] at h3
              obtain ⟨t1, hput, k3, hset, h3⟩ := h3
              simp only [Prod.mk.injEq] at h3
              obtain ⟨rfl, rfl⟩ := h3
              obtain ⟨t0', es', h', d1, d2, d3, d4, d5⟩ := hvs
              rw [hc] at d1
              simp only [Option.some.injEq] at d1
              subst d1
              rw [hat] at d2
              simp only [Option.some.injEq, T.own.injEq] at d2
              subst d2
              obtain ⟨h0, L, Sn, R, hS, foc⟩ := TC.focus p t0 (hd r) (S1 r) (.own es) (g1.cont r t0 hc) hat
              have hh : h0 = h' := NodeH.uniq p t0 (hd r) h0 h' foc.node d3
              subst hh
              obtain ⟨f1, f2⟩ := g1.takeOut hc hS foc hput hset
              have hlen3 : (k3.tell (.kill r p)).H.length = k1.H.length := set_hlen (k' := k3) hset
              have ftc := TC.ext f2 _ _ _ (fun _ _ => rfl) foc.tc
              have fnews : News (cxOf A (k3.tell (.kill r p)).H.length ρ (upd S1 r (L ++ R)) (Sn ++ (M ++ fl)) w) news i.size xval xa xc ns M := by
                rw [hlen3]
                exact ⟨g3.hv, TE.ext f2 _ _ _ _ (fun _ _ => rfl) g3.te, g3.rd, g3.no⟩
              obtain ⟨a, n, cap, a', cap', m1, m2, m3, m4, m5⟩ := d5
              obtain ⟨q1, q2⟩ := m4 rfl
              subst q1
              rcases ftc with ⟨a0, k1', k2', k3'⟩ | ⟨g, cap0, cur, e0, sz, S', k1', k2', k3', k4', k5', k6', k7', k8'⟩
              · subst k2'; subst k3'
                rw [m1] at k1'
                simp only [List.cons.injEq, Value.slice.injEq, and_true] at k1'
                obtain ⟨rfl, _, rfl⟩ := k1'
                have hl0 : len = 0 := by simp at c1; exact c1
                have hc0 : cap' = 0 := by omega
                subst hl0; subst hc0
                exact append_final hu b1 b2 hzs a1 (N0 := []) (M := M) (.inl rfl) (by simpa using f1) (Olds.empty a' (by simp) m2) (by simpa using fnews) hb h63
              · subst k2'
                rw [m1] at k1'
                simp only [List.cons.injEq, Value.slice.injEq, and_true] at k1'
                obtain ⟨rfl, rfl, rfl⟩ := k1'
                have hne : es ≠ [] := fun hc => by subst hc; simp at k7'
                have hsz := TE.nc_eq k8' c2 hne
                rw [hcells] at hsz
                subst hsz
                obtain ⟨S0, S3, t1', t2', t3'⟩ := TE.split len es i.size _ S' k8'
                rw [t1'] at f1 fnews t2'
                have hnd := f1.dis.ndF
                have hnd' : ((g :: S0) ++ (M ++ fl)).Nodup := by
                  refine List.Nodup.sublist ?_ hnd
                  rw [List.cons_append, List.cons_append]
                  refine List.Sublist.cons_cons g ?_
                  rw [List.append_assoc]
                  exact List.Sublist.append (List.Sublist.refl _) (List.sublist_append_right _ _)
                obtain ⟨l1, l2⟩ := f1.letGo (fl' := (g :: S0) ++ (M ++ fl)) hnd' (fun b hb => by
                  simp only [List.cons_append, List.mem_cons, List.mem_append] at hb ⊢
                  rcases hb with q | q | q | q <;> simp [q])
                have ea : (g :: S0) ++ (M ++ fl) = ((g :: S0) ++ M) ++ fl := (List.append_assoc _ _ _).symm
                rw [ea] at l1 l2
                have htl : (es.take len).length = len := by simp; omega
                refine append_final hu b1 b2 hzs a1 (N0 := g :: S0) (M := M) (.inr ?_) l1 (Olds.row g cap' cur e0 S0 (by rw [htl]; exact m2) (by simpa [cxOf] using k3') (by rw [htl]; exact m3) (Nat.le_trans q2 k5') (Nat.le_trans (Nat.mul_le_mul_right _ q2) k6') ?_) ⟨fnews.hv, TE.ext l2 _ _ _ _ (fun _ _ => rfl) fnews.te, fnews.rd, fnews.no⟩ hb h63
                · have c3' := c3
                  simp only [okLen, Bool.or_eq_true, decide_eq_true_eq, List.isEmpty_iff, Bool.not_eq_true', List.isEmpty_eq_false_iff] at c3'
                  rcases c3' with (c3' | c3') | c3'
                  · rw [htl]; omega
                  · exact absurd c3' hne
                  · have := List.length_pos_iff.2 c3'; omega
                · rw [htl]
                  rw [hlen3] at l2 ⊢
                  have hmin : len * i.size ≤ es.length * i.size := Nat.mul_le_mul_right _ c1
                  rw [List.take_take, Nat.min_eq_left hmin] at t2'
                  exact TE.ext l2 _ _ _ _ (fun _ _ => rfl) t2'
            · cases h3
          · cases h3
        · cases h3
      · cases h3
    · cases e
  · cases e
end
end Go.Am
