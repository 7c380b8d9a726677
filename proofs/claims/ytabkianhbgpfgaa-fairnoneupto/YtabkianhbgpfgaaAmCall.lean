/- The abstract machine: a call, seen by its caller: what the callee begins with, and what is left. -/
import Derived.Test.YtabkianhbgpfgaaAmCut
namespace Go.Am
open Go Go.RowKit
set_option linter.unusedSimpArgs false
set_option linter.unusedVariables false

/-- what a callee begins with. R: the roots that it does not get: local ones, locked objects -/
def avCall (A : Av) (sn : Bool) (R : Root → Bool) (S : Root → List Nat) (fl : List Nat) (w : World) (n : Nat) (ρ : Nat → Nat) : Av :=
  { w0 := w, F := fun t b => A.F t b ∨ ((t = false ∨ sn = false) ∧ ((∃ r, R r = true ∧ b ∈ S r) ∨ b ∈ fl)), O0 := fun b => ∃ r, R r = false ∧ b ∈ S r, n0 := n, ρ0 := ρ, mono := fun b h => by
      rcases h with h | ⟨h, q⟩
      · exact .inl (A.mono b h)
      · exact .inr ⟨.inl rfl, q⟩ }
/-- what the callee owns at first -/
def sCall (R : Root → Bool) (S : Root → List Nat) : Root → List Nat := fun r => if R r then [] else S r

section
variable {P : Program} {A : Av} {ρ : Nat → Nat} {S : Root → List Nat} {hd : Root → Value} {fl : List Nat} {k k' : Wk} {vals : List (SV × Value)} {w : World}

theorem enterCall (h : KR A ρ S hd fl k vals w) (sn : Bool) (lk : List Nat) (R : Root → Bool) (H : List Ob) (hR : ∀ n j, R (.l n j) = true) (hlk : ∀ n ∈ lk, R (.o n) = true) (hlen : H.length = k.H.length)
    (h1 : ∀ n, R (.o n) = true → ∀ ob, H[n]? = some ob → ob = .lock) (h2 : ∀ n, R (.o n) = false → H[n]? = k.H[n]?) :
    KR (avCall A sn R S fl w H.length ρ) ρ (sCall R S) hd [] { ct := [], H } [] w ∧ Ext (cxS sn lk A k.H.length ρ S fl w) (cxOf (avCall A sn R S fl w H.length ρ) H.length ρ (sCall R S) [] w) := by
  have own : ∀ b, Own (sCall R S) [] b → ∃ r, R r = false ∧ b ∈ S r := fun b hb => by
    rcases hb with ⟨r, hr⟩ | hb
    · unfold sCall at hr
      split at hr
      · simp at hr
      · rename_i hf; exact ⟨r, by simpa using hf, hr⟩
    · simp at hb
  have ext : Ext (cxS sn lk A k.H.length ρ S fl w) (cxOf (avCall A sn R S fl w H.length ρ) H.length ρ (sCall R S) [] w) := by
    refine ⟨fun t b hp => ⟨?_, rfl⟩, by show k.H.length ≤ H.length; omega, fun _ _ => rfl⟩
    rcases hp with ⟨q1, q2, q3⟩ | ⟨q1, q2, q3, q4, q5⟩
    · refine ⟨fun ho => ?_, fun hF => ?_, q3⟩
      · obtain ⟨r, _, hr⟩ := own b ho; exact q1 (.inl ⟨r, hr⟩)
      · rcases hF with hF | ⟨_, ⟨r, _, hr⟩ | hr⟩
        · exact q2 hF
        · exact q1 (.inl ⟨r, hr⟩)
        · exact q1 (.inr hr)
    · subst q1; subst q2
      refine ⟨fun ho => ?_, fun hF => ?_, q4⟩
      · obtain ⟨r, hf, hr⟩ := own b ho
        cases r with
        | l n j => rw [hR] at hf; cases hf
        | o n => have := hlk n (q5 n hr); rw [hf] at this; cases this
      · rcases hF with hF | ⟨hF | hF, _⟩
        · exact q3 hF
        · cases hF
        · cases hF
  have extO : Ext (cxOf A k.H.length ρ S fl w) (cxOf (avCall A sn R S fl w H.length ρ) H.length ρ (sCall R S) [] w) :=
    ⟨fun t b hp => ext.pm t b (.inl hp), ext.nO, fun _ _ => rfl⟩
  have get : ∀ r, R r = false → ({ ct := [], H } : Wk).get r = k.get r := fun r hr => by
    cases r with
    | l n j => rw [hR] at hr; cases hr
    | o n => simp only [Wk.get, Go.Am.cont, h2 n hr]
  have getN : ∀ r, R r = true → ({ ct := [], H } : Wk).get r = none := fun r hr => by
    cases r with
    | l n j => rfl
    | o n =>
      simp only [Wk.get, Go.Am.cont]
      cases hH : H[n]? with
      | none => rfl
      | some ob => rw [h1 n hr ob hH]
  have sF : ∀ r, R r = false → sCall R S r = S r := fun r hr => by simp [sCall, hr]
  have sT : ∀ r, R r = true → sCall R S r = [] := fun r hr => by simp [sCall, hr]
  have sub : ∀ r b, b ∈ sCall R S r → b ∈ S r ∧ R r = false := fun r b hb => by
    unfold sCall at hb
    split at hb
    · simp at hb
    · rename_i hf; exact ⟨hb, by simpa using hf⟩
  refine ⟨⟨fun r t ht => ?_, fun r hr hm => ?_, h.obj, fun n es he => ?_, ⟨fun r => ?_, by simp, fun r r' b hb hb' => h.dis.one r r' b (sub r b hb).1 (sub r' b hb').1, by simp⟩, fun b hb => ?_, by simp, ⟨rfl, rfl, rfl, Nat.le_refl _, fun _ _ _ => rfl⟩, fun t b hF => ?_, ⟨Nat.le_refl _, fun _ _ => rfl⟩⟩, ext⟩
  · cases hr : R r with
    | true => rw [getN r hr] at ht; cases ht
    | false =>
      rw [get r hr] at ht
      rw [sF r hr]
      exact TC.ext extO _ _ _ (fun _ _ => rfl) (h.cont r t ht)
  · cases hr' : R r with
    | true => exact sT r hr'
    | false =>
      rw [get r hr'] at hr
      rw [sF r hr']
      exact h.gone r hr (fun n es e he => hm n es e (by subst e; rw [h2 n hr']; exact he))
  · have hr : R (.o n) = false := by
      cases hr : R (.o n) with
      | false => rfl
      | true => have := h1 n hr _ he; cases this
    rw [sF _ hr]
    simp only at he
    rw [h2 n hr] at he
    obtain ⟨m1, en, cl, m2, m3⟩ := h.map n es he
    exact ⟨m1, en, cl, m2, m3.imp (fun a _ b ⟨q1, y, q2, q3⟩ => ⟨VV.ext extO q1, y, q2, VV.ext extO q3⟩)⟩
  · unfold sCall; split
    · simp
    · exact h.dis.nd r
  · obtain ⟨r, hf, hr⟩ := own b hb
    have hb' := h.blk b (.inl ⟨r, hr⟩)
    refine ⟨hb'.1, fun t hF => ?_, fun _ => ⟨r, hf, hr⟩⟩
    rcases hF with hF | ⟨_, ⟨r', hr1, hr2⟩ | hr2⟩
    · exact hb'.2.1 t hF
    · have := h.dis.one r r' b hr hr2; subst this; rw [hf] at hr1; cases hr1
    · exact h.dis.oneF r b hr hr2
  · have hsz := h.fr.size
    rcases hF with hF | ⟨_, ⟨r', hr1, hr2⟩ | hr2⟩
    · exact Nat.lt_of_lt_of_le (h.Fold t b hF) hsz
    · exact (h.blk b (.inl ⟨r', hr2⟩)).1
    · exact (h.blk b (.inr hr2)).1

/-- which roots the caller has kept for itself -/
def keptR (R : Root → Bool) (n0 : Nat) : Root → Bool
  | .l n j => true
  | .o n => decide (n < n0) && R (.o n)
def s3 (R : Root → Bool) (n0 : Nat) (S S2 : Root → List Nat) : Root → List Nat := fun r => if keptR R n0 r then S r else S2 r
def hd3 (R : Root → Bool) (n0 : Nat) (hd hd2 : Root → Value) : Root → Value := fun r => if keptR R n0 r then hd r else hd2 r
def obImm : Ob → Bool
  | .box c => c.imm
  | .map es => es.all fun e => e.1.imm && e.2.imm
  | .lock => true

structure LeftCall (A : Av) (ρ : Nat → Nat) (S : Root → List Nat) (hd : Root → Value) (fl : List Nat) (k : Wk) (w : World) (sn : Bool) (R : Root → Bool) (H2 : List Ob) (ρ' : Nat → Nat) (S2 : Root → List Nat) (hd2 : Root → Value) (M : List Nat) (w' : World) (H3 : List Ob) (tr' : List Tr) : Prop where
  kr : ∀ vals', (∀ p ∈ vals', SO (cxOf A H3.length ρ' (s3 R k.H.length S S2) (M ++ fl) w') ({ k with H := H3, tr := tr' } : Wk).get (hd3 R k.H.length hd hd2) (trv tr' p.1) p.2) → KR A ρ' (s3 R k.H.length S S2) (hd3 R k.H.length hd hd2) (M ++ fl) { k with H := H3, tr := tr' } vals' w'
  ret : ∀ rs vs, (sn = true → T.imms rs = true) → RetAll (cxOf (avCall A sn R S fl w k.H.length ρ) H2.length ρ' S2 M w') rs vs M → RetAll (cxOf A H3.length ρ' (s3 R k.H.length S S2) (M ++ fl) w') rs vs M
  ext : Ext (cxOf A k.H.length ρ S fl w) (cxOf A H3.length ρ' (s3 R k.H.length S S2) (M ++ fl) w')
  hold : ∀ r q, keptR R k.H.length r = true → Hold (cxOf A k.H.length ρ S fl w) (cxOf A H3.length ρ' (s3 R k.H.length S S2) (M ++ fl) w') k.get ({ k with H := H3, tr := tr' } : Wk).get hd (hd3 R k.H.length hd hd2) r q
  rho : ∀ o, o < k.H.length → ρ' o = ρ o

theorem leaveCall (h : KR A ρ S hd fl k vals w) {sn : Bool} {R : Root → Bool} {H2 : List Ob} {ρ' : Nat → Nat} {S2 : Root → List Nat} {hd2 : Root → Value} {M : List Nat} {w' : World} (hR : ∀ n j, R (.l n j) = true)
    (g : KR (avCall A sn R S fl w k.H.length ρ) ρ' S2 hd2 M { ct := [], H := H2 } [] w') (H3 : List Ob) (tr' : List Tr) (hlen : H3.length = H2.length) (h31 : ∀ n, n < k.H.length → R (.o n) = true → H3[n]? = k.H[n]?)
    (h32 : ∀ n, ¬ (n < k.H.length ∧ R (.o n) = true) → H3[n]? = H2[n]?) (himm : sn = true → ∀ n ob, ¬ (n < k.H.length ∧ R (.o n) = true) → H2[n]? = some ob → obImm ob = true) :
    LeftCall A ρ S hd fl k w sn R H2 ρ' S2 hd2 M w' H3 tr' := by
  have hsz : w.heap.size ≤ w'.heap.size := g.fr.size
  have hrho : ∀ o, o < k.H.length → ρ' o = ρ o := g.rho.2
  have hn0 : k.H.length ≤ H2.length := g.rho.1
  -- who owns what behind the call
  have new : ∀ b, ((∃ r, b ∈ S2 r) ∨ b ∈ M) → b < w.heap.size → ∃ r, R r = false ∧ b ∈ S r := fun b hb hlt => (g.blk b hb).2.2 hlt
  have own : ∀ b, Own (s3 R k.H.length S S2) (M ++ fl) b → ((∃ r, keptR R k.H.length r = true ∧ b ∈ S r) ∨ b ∈ fl) ∨ ((∃ r, b ∈ S2 r) ∨ b ∈ M) := fun b hb => by
    rcases hb with ⟨r, hr⟩ | hb
    · unfold s3 at hr
      split at hr
      · rename_i hk; exact .inl (.inl ⟨r, hk, hr⟩)
      · exact .inr (.inl ⟨r, hr⟩)
    · rcases List.mem_append.1 hb with hb | hb
      · exact .inr (.inr hb)
      · exact .inl (.inr hb)
  have kR : ∀ r b, keptR R k.H.length r = true → b ∈ S r → R r = true := fun r b hk hb => by
    cases r with
    | l n j => exact hR n j
    | o n => simp only [keptR, Bool.and_eq_true] at hk; exact hk.2
  have old : ∀ b, ((∃ r, keptR R k.H.length r = true ∧ b ∈ S r) ∨ b ∈ fl) → b < w.heap.size ∧ ¬ ∃ r, R r = false ∧ b ∈ S r := fun b hb => by
    rcases hb with ⟨r, hk, hr⟩ | hb
    · refine ⟨(h.blk b (.inl ⟨r, hr⟩)).1, fun ⟨r', hf, hr'⟩ => ?_⟩
      have := h.dis.one r r' b hr hr'
      subst this
      rw [kR r b hk hr] at hf; cases hf
    · exact ⟨(h.blk b (.inr hb)).1, fun ⟨r', hf, hr'⟩ => h.dis.oneF r' b hr' hb⟩
  have apart : ∀ b, ((∃ r, keptR R k.H.length r = true ∧ b ∈ S r) ∨ b ∈ fl) → ¬ ((∃ r, b ∈ S2 r) ∨ b ∈ M) := fun b h1 h2 => (old b h1).2 (new b h2 (old b h1).1)
  have same : ∀ b, b < w.heap.size → (¬ ∃ r, R r = false ∧ b ∈ S r) → w'.heap[b]? = w.heap[b]? := fun b hlt hn => g.fr.kept b hlt hn
  have ext : Ext (cxOf A k.H.length ρ S fl w) (cxOf A H3.length ρ' (s3 R k.H.length S S2) (M ++ fl) w') := by
    refine ⟨fun t b hp => ⟨⟨fun ho => ?_, hp.2.1, Nat.lt_of_lt_of_le hp.2.2 hsz⟩, same b hp.2.2 (fun ⟨r, _, hr⟩ => hp.1 (.inl ⟨r, hr⟩))⟩, by show k.H.length ≤ H3.length; omega, hrho⟩
    rcases own b ho with (⟨r, _, hr⟩ | hr) | hr
    · exact hp.1 (.inl ⟨r, hr⟩)
    · exact hp.1 (.inr hr)
    · obtain ⟨r, _, hr⟩ := new b hr hp.2.2; exact hp.1 (.inl ⟨r, hr⟩)
  -- what the callee left, for the caller
  have ext2 : ∀ t b, (sn = true → t = false) → (cxOf (avCall A sn R S fl w k.H.length ρ) H2.length ρ' S2 M w').pm t b → (cxOf A H3.length ρ' (s3 R k.H.length S S2) (M ++ fl) w').pm t b := fun t b ht hp => by
    refine ⟨fun ho => ?_, fun hF => hp.2.1 (.inl hF), hp.2.2⟩
    have htt : t = false ∨ sn = false := by cases sn with | true => exact .inl (ht rfl) | false => exact .inr rfl
    rcases own b ho with (⟨r, hk, hr⟩ | hr) | hr
    · exact hp.2.1 (.inr ⟨htt, .inl ⟨r, kR r b hk hr, hr⟩⟩)
    · exact hp.2.1 (.inr ⟨htt, .inr hr⟩)
    · exact hp.1 hr
  have extA : sn = false → Ext (cxOf (avCall A sn R S fl w k.H.length ρ) H2.length ρ' S2 M w') (cxOf A H3.length ρ' (s3 R k.H.length S S2) (M ++ fl) w') := fun hs =>
    ⟨fun t b hp => ⟨ext2 t b (fun h => by rw [hs] at h; cases h) hp, rfl⟩, by show H2.length ≤ H3.length; omega, fun _ _ => rfl⟩
  have extB : Ext (cxOf (avCall A sn R S fl w k.H.length ρ) H2.length ρ' S2 M w').no (cxOf A H3.length ρ' (s3 R k.H.length S S2) (M ++ fl) w') :=
    ⟨fun t b hp => ⟨ext2 t b (fun _ => hp.1) hp.2, rfl⟩, by show H2.length ≤ H3.length; omega, fun _ _ => rfl⟩
  have tc : ∀ t cs Sx, (sn = true → t.imm = true) → TC (cxOf (avCall A sn R S fl w k.H.length ρ) H2.length ρ' S2 M w') t cs Sx → TC (cxOf A H3.length ρ' (s3 R k.H.length S S2) (M ++ fl) w') t cs Sx := fun t cs Sx hi ht => by
    cases hs : sn with
    | false => subst hs; exact TC.ext (extA rfl) _ _ _ (fun _ _ => rfl) ht
    | true => exact TC.ext extB _ _ _ (fun _ _ => rfl) (TC.no t cs Sx (hi hs) ht)
  have vv : ∀ x v, (sn = true → x.imm = true) → VV (cxOf (avCall A sn R S fl w k.H.length ρ) H2.length ρ' S2 M w') x v → VV (cxOf A H3.length ρ' (s3 R k.H.length S S2) (M ++ fl) w') x v := fun x v hi hv => by
    cases hs : sn with
    | false => subst hs; exact VV.ext (extA rfl) hv
    | true => exact ⟨VC.ext extB _ _ (VC.no x _ (hi hs) hv.1), hv.2⟩
  have kept : ∀ r, keptR R k.H.length r = true → ∀ b ∈ S r, w'.heap[b]? = w.heap[b]? := fun r hk b hb => by
    have := old b (.inl ⟨r, hk, hb⟩)
    exact same b this.1 this.2
  have getK : ∀ r, keptR R k.H.length r = true → ({ k with H := H3, tr := tr' } : Wk).get r = k.get r := fun r hk => by
    cases r with
    | l n j => rfl
    | o n =>
      simp only [keptR, Bool.and_eq_true, decide_eq_true_eq] at hk
      simp only [Wk.get, Go.Am.cont, h31 n hk.1 hk.2]
  have getO : ∀ r, keptR R k.H.length r = false → ∃ n, r = .o n ∧ ¬ (n < k.H.length ∧ R (.o n) = true) ∧ ({ k with H := H3, tr := tr' } : Wk).get r = ({ ct := [], H := H2 } : Wk).get r := fun r hk => by
    cases r with
    | l n j => cases hk
    | o n =>
      have hn : ¬ (n < k.H.length ∧ R (.o n) = true) := fun ⟨q1, q2⟩ => by simp [keptR, q1, q2] at hk
      exact ⟨n, rfl, hn, by simp only [Wk.get, Go.Am.cont, h32 n hn]⟩
  refine ⟨fun vals' hv => ⟨fun r t ht => ?_, fun r hr hm => ?_, fun n => ?_, fun n es he => ?_, ⟨fun r => ?_, ?_, fun r r' b hb hb' => ?_, fun r b hb hb' => ?_⟩, fun b hb => ?_, hv, ?_, h.Fold, ?_⟩, fun rs vs hi hr => ?_, ext, fun r q hk => ?_, hrho⟩
  · cases hk : keptR R k.H.length r with
    | true =>
      rw [getK r hk] at ht
      have e1 : s3 R k.H.length S S2 r = S r := by simp [s3, hk]
      have e2 : hd3 R k.H.length hd hd2 r = hd r := by simp [hd3, hk]
      rw [e1, e2]
      exact TC.ext ext _ _ _ (kept r hk) (h.cont r t ht)
    | false =>
      obtain ⟨n, rfl, hn, e⟩ := getO r hk
      rw [e] at ht
      have e1 : s3 R k.H.length S S2 (.o n) = S2 (.o n) := by simp [s3, hk]
      have e2 : hd3 R k.H.length hd hd2 (.o n) = hd2 (.o n) := by simp [hd3, hk]
      rw [e1, e2]
      refine tc _ _ _ (fun hs => ?_) (g.cont _ t ht)
      simp only [Wk.get, Go.Am.cont] at ht
      split at ht
      · rename_i c hc
        simp only [Option.some.injEq] at ht
        subst ht
        have := himm hs n _ hn hc
        simp only [obImm] at this
        simp [T.imm, T.imms, this]
      · cases ht
  · cases hk : keptR R k.H.length r with
    | true =>
      rw [getK r hk] at hr
      have e1 : s3 R k.H.length S S2 r = S r := by simp [s3, hk]
      rw [e1]
      refine h.gone r hr (fun n es e he => hm n es e ?_)
      subst e
      simp only [keptR, Bool.and_eq_true, decide_eq_true_eq] at hk
      show H3[n]? = _
      rw [h31 n hk.1 hk.2]; exact he
    | false =>
      obtain ⟨n, rfl, hn, e⟩ := getO r hk
      rw [e] at hr
      have e1 : s3 R k.H.length S S2 (.o n) = S2 (.o n) := by simp [s3, hk]
      rw [e1]
      refine g.gone _ hr (fun m es e he => hm m es e ?_)
      simp only [Root.o.injEq] at e
      subst e
      show H3[n]? = _
      rw [h32 n hn]; exact he
  · unfold hd3
    split
    · rename_i hk
      simp only [keptR, Bool.and_eq_true, decide_eq_true_eq] at hk
      rw [h.obj, hrho n hk.1]
    · exact g.obj n
  · have hsame : ∀ x y, EntR (cxOf A k.H.length ρ S fl w) x y → EntR (cxOf A H3.length ρ' (s3 R k.H.length S S2) (M ++ fl) w') x y := fun x y ⟨q1, z, q2, q3⟩ => ⟨VV.ext ext q1, z, q2, VV.ext ext q3⟩
    cases hk : keptR R k.H.length (.o n) with
    | true =>
      have hk' := hk
      simp only [keptR, Bool.and_eq_true, decide_eq_true_eq] at hk'
      simp only at he
      rw [h31 n hk'.1 hk'.2] at he
      have e1 : s3 R k.H.length S S2 (.o n) = S (.o n) := by simp [s3, hk]
      rw [e1, hrho n hk'.1]
      obtain ⟨m1, en, cl, m2, m3⟩ := h.map n es he
      refine ⟨m1, en, cl, ?_, m3.imp (fun a _ b q => hsame a b q)⟩
      show w'.heap[ρ n]? = _
      rw [kept _ hk (ρ n) (by rw [m1]; simp)]; exact m2
    | false =>
      have hn : ¬ (n < k.H.length ∧ R (.o n) = true) := fun ⟨q1, q2⟩ => by simp [keptR, q1, q2] at hk
      simp only at he
      rw [h32 n hn] at he
      have e1 : s3 R k.H.length S S2 (.o n) = S2 (.o n) := by simp [s3, hk]
      rw [e1]
      obtain ⟨m1, en, cl, m2, m3⟩ := g.map n es he
      refine ⟨m1, en, cl, m2, m3.imp (fun a ha b ⟨q1, z, q2, q3⟩ => ?_)⟩
      have hi : sn = true → a.1.imm = true ∧ a.2.imm = true := fun hs => by
        have := himm hs n _ hn he
        simp only [obImm] at this
        have := List.all_eq_true.1 this a ha
        simpa using this
      exact ⟨vv _ _ (fun hs => (hi hs).1) q1, z, q2, vv _ _ (fun hs => by have := (hi hs).2; rw [q2] at this; simpa [T.imm] using this) q3⟩
  · unfold s3; split
    · exact h.dis.nd r
    · exact g.dis.nd r
  · rw [List.nodup_append]
    exact ⟨g.dis.ndF, h.dis.ndF, fun a ha b hb hab => apart b (.inr hb) (.inr (hab ▸ ha))⟩
  · unfold s3 at hb hb'
    split at hb <;> split at hb'
    · exact h.dis.one r r' b hb hb'
    · rename_i q1 q2; exact absurd (.inl ⟨r', hb'⟩) (apart b (.inl ⟨r, q1, hb⟩))
    · rename_i q1 q2; exact absurd (.inl ⟨r, hb⟩) (apart b (.inl ⟨r', q2, hb'⟩))
    · exact g.dis.one r r' b hb hb'
  · unfold s3 at hb
    split at hb
    · rename_i hk
      rcases List.mem_append.1 hb' with q | q
      · exact apart b (.inl ⟨r, hk, hb⟩) (.inr q)
      · exact h.dis.oneF r b hb q
    · rcases List.mem_append.1 hb' with q | q
      · exact g.dis.oneF r b hb q
      · exact apart b (.inr q) (.inl ⟨r, hb⟩)
  · have hA := h.fr.size
    rcases own b hb with (⟨r, _, hr⟩ | hr) | hr
    · have := h.blk b (.inl ⟨r, hr⟩); exact ⟨by omega, this.2⟩
    · have := h.blk b (.inr hr); exact ⟨by omega, this.2⟩
    · have hb' := g.blk b hr
      refine ⟨hb'.1, fun t hF => hb'.2.1 t (.inl hF), fun hlt => ?_⟩
      obtain ⟨r, _, hr'⟩ := new b hr (by omega)
      exact (h.blk b (.inl ⟨r, hr'⟩)).2.2 hlt
  · have hA := h.fr.size
    refine ⟨g.fr.os.trans h.fr.os, g.fr.tape.trans h.fr.tape, g.fr.output.trans h.fr.output, by omega, fun b hlt hO => ?_⟩
    rw [same b (by omega) (fun ⟨r, _, hr⟩ => hO ((h.blk b (.inl ⟨r, hr⟩)).2.2 hlt))]
    exact h.fr.kept b hlt hO
  · have := h.rho
    refine ⟨?_, fun o ho => ?_⟩
    · show A.n0 ≤ H3.length; omega
    · rw [hrho o (by omega)]; exact this.2 o ho
  · cases hs : sn with
    | false => subst hs; exact RetAll.ext (extA rfl) _ _ _ (fun _ _ => rfl) hr
    | true => exact RetAll.ext extB _ _ _ (fun _ _ => rfl) (RetAll.no rs vs M (hi hs) hr)
  · intro t es h1 h2
    refine ⟨t, es, by rw [getK r hk]; exact h1, h2, SameShape.refl _, fun h' hn => ?_⟩
    have e2 : hd3 R k.H.length hd hd2 r = hd r := by simp [hd3, hk]
    rw [e2]
    exact NodeH.ext q t _ h' _ (h.cont r t h1) (kept r hk) hn
end
end Go.Am
