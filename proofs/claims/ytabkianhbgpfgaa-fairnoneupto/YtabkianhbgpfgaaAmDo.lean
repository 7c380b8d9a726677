/- The abstract machine: a call, done. -/
import Derived.Test.YtabkianhbgpfgaaAmCall
namespace Go.Am
open Go Go.RowKit
set_option linter.unusedSimpArgs false
set_option linter.unusedVariables false

theorem lockAll_get (H : List Ob) (n : Nat) (ob : Ob) (h : (lockAll H)[n]? = some ob) : ob = .lock := by
  simp only [lockAll, List.getElem?_map, Option.map_eq_some_iff] at h
  obtain ⟨_, _, h⟩ := h
  exact h.symm
theorem lockSome_len : ∀ (lk : List Nat) (H : List Ob), (lockSome lk H).length = H.length
  | [], H => rfl
  | n :: lk, H => by
    show (lockSome lk (H.set n .lock)).length = _
    rw [lockSome_len lk]; simp
theorem lockSome_out : ∀ (lk : List Nat) (H : List Ob) (n : Nat), n ∉ lk → (lockSome lk H)[n]? = H[n]?
  | [], H, n, _ => rfl
  | m :: lk, H, n, h => by
    show (lockSome lk (H.set m .lock))[n]? = _
    simp only [List.mem_cons, not_or] at h
    rw [lockSome_out lk _ n h.2, List.getElem?_set_ne (Ne.symm h.1)]
theorem lockSome_keep : ∀ (lk : List Nat) (H : List Ob) (n : Nat), H[n]? = some .lock → (lockSome lk H)[n]? = some .lock
  | [], H, n, h => h
  | m :: lk, H, n, h => by
    show (lockSome lk (H.set m .lock))[n]? = _
    refine lockSome_keep lk _ n ?_
    by_cases hm : m = n
    · subst hm; rw [List.getElem?_set_self (List.getElem?_eq_some_iff.1 h).1]
    · rw [List.getElem?_set_ne hm]; exact h
theorem lockSome_in : ∀ (lk : List Nat) (H : List Ob) (n : Nat) (ob : Ob), n ∈ lk → (lockSome lk H)[n]? = some ob → ob = .lock
  | m :: lk, H, n, ob, h, he => by
    have hlt : n < H.length := by
      have := (List.getElem?_eq_some_iff.1 he).1
      rwa [lockSome_len] at this
    by_cases hm : m = n
    · subst hm
      have h2 : (lockSome lk (H.set m .lock))[m]? = some .lock := lockSome_keep lk _ m (List.getElem?_set_self hlt)
      have he' : (lockSome lk (H.set m .lock))[m]? = some ob := he
      rw [h2] at he'
      simpa using he'.symm
    · have : n ∈ lk := by
        rcases List.mem_cons.1 h with h | h
        · exact absurd h.symm hm
        · exact h
      exact lockSome_in lk (H.set m .lock) n ob this he
theorem unlock_len (H0 : List Ob) : ∀ (lk : List Nat) (H : List Ob), (unlock H0 lk H).length = H.length
  | [], H => rfl
  | n :: lk, H => by
    show (unlock H0 lk (match H0[n]? with | some x => H.set n x | none => H)).length = _
    rw [unlock_len H0 lk]
    split <;> simp
theorem unlock_out (H0 : List Ob) : ∀ (lk : List Nat) (H : List Ob) (n : Nat), ¬ (n < H0.length ∧ n ∈ lk) → (unlock H0 lk H)[n]? = H[n]?
  | [], H, n, _ => rfl
  | m :: lk, H, n, h => by
    show (unlock H0 lk (match H0[m]? with | some x => H.set m x | none => H))[n]? = _
    rw [unlock_out H0 lk _ n (fun ⟨q1, q2⟩ => h ⟨q1, by simp [q2]⟩)]
    split
    · rename_i x hx
      have hm : m < H0.length := (List.getElem?_eq_some_iff.1 hx).1
      by_cases hmn : m = n
      · subst hmn; exact absurd ⟨hm, by simp⟩ h
      · rw [List.getElem?_set_ne hmn]
    · rfl
theorem unlock_keep (H0 : List Ob) : ∀ (lk : List Nat) (H : List Ob) (n : Nat), n < H0.length → H[n]? = H0[n]? → (unlock H0 lk H)[n]? = H0[n]?
  | [], H, n, _, h => h
  | m :: lk, H, n, hn, h => by
    show (unlock H0 lk (match H0[m]? with | some x => H.set m x | none => H))[n]? = _
    refine unlock_keep H0 lk _ n hn ?_
    split
    · rename_i x hx
      by_cases hmn : m = n
      · subst hmn
        have : m < H.length := by
          rw [hx] at h
          exact (List.getElem?_eq_some_iff.1 h).1
        rw [List.getElem?_set_self this, hx]
      · rw [List.getElem?_set_ne hmn]; exact h
    · exact h
theorem unlock_in (H0 : List Ob) : ∀ (lk : List Nat) (H : List Ob) (n : Nat), n < H0.length → n < H.length → n ∈ lk → (unlock H0 lk H)[n]? = H0[n]?
  | m :: lk, H, n, hn, hl, h => by
    show (unlock H0 lk (match H0[m]? with | some x => H.set m x | none => H))[n]? = _
    by_cases hmn : m = n
    · subst hmn
      refine unlock_keep H0 lk _ m hn ?_
      rw [List.getElem?_eq_getElem hn]
      simp only
      rw [List.getElem?_set_self hl]
    · refine unlock_in H0 lk _ n hn ?_ (by
        rcases List.mem_cons.1 h with h | h
        · exact absurd h.symm hmn
        · exact h)
      split <;> simpa using hl
theorem sameObs_box : ∀ (H H2 : List Ob) (n : Nat) (c : T), sameObs H H2 = true → H[n]? = some (.box c) → ∃ c', H2[n]? = some (.box c') ∧ c'.nc = c.nc
  | [], _, n, c, _, h => by simp at h
  | a :: r, H2, n, c, hs, h => by
    cases H2 with
    | nil => cases a <;> simp [sameObs] at hs
    | cons b r' =>
      cases n with
      | zero =>
        simp only [List.getElem?_cons_zero, Option.some.injEq] at h
        subst h
        cases b with
        | box c' => simp only [sameObs, Bool.and_eq_true, beq_iff_eq] at hs; exact ⟨c', rfl, hs.1.symm⟩
        | _ => simp [sameObs] at hs
      | succ n =>
        have hs' : sameObs r r' = true := by cases a <;> cases b <;> simp [sameObs] at hs <;> first | exact hs | exact hs.2
        obtain ⟨c', h1, h2⟩ := sameObs_box r r' n c hs' (by simpa using h)
        exact ⟨c', by simpa using h1, h2⟩
theorem obsImm_get : ∀ (H : List Ob) (n : Nat) (ob : Ob), obsImm H = true → H[n]? = some ob → obImm ob = true
  | [], n, ob, _, h => by simp at h
  | a :: r, n, ob, hi, h => by
    cases n with
    | zero =>
      simp only [List.getElem?_cons_zero, Option.some.injEq] at h
      subst h
      cases a with
      | box c => simp only [obsImm, Bool.and_eq_true] at hi; exact hi.1
      | map es => simp only [obsImm, Bool.and_eq_true] at hi; exact hi.1
      | lock => rfl
    | succ n =>
      have : obsImm r = true := by
        cases a with
        | box c => simp only [obsImm, Bool.and_eq_true] at hi; exact hi.2
        | map es => simp only [obsImm, Bool.and_eq_true] at hi; exact hi.2
        | lock => exact hi
      exact obsImm_get r n ob this (by simpa using h)

section
variable {P : Program} {A : Av} {ρ : Nat → Nat} {S : Root → List Nat} {hd : Root → Value} {fl : List Nat} {k k' : Wk} {vals : List (SV × Value)} {w : World}

theorem callE_ok {call : CallF} (hc : CallOK P call) {hint : Hint} {dst : Nat} {f : FuncId} {ds : List D} {b : Lend} {args : Array Value} {sv : SV} (h : KR A ρ S hd fl k vals w) (hargs : VVs (cxS b.sn b.lk A k.H.length ρ S fl w) ds args.toList) (e : callE call hint dst f ds b k = some (sv, k')) :
    (∃ fn, P.funcs[f]? = some fn ∧ fn.body.isSome = true ∧ (fn.name == "runtime.NumGoroutine") = false) ∧
    Calls P f args w fun e w' => ∃ v, e = .returned v ∧ ∃ ρ' S' hd', KR A ρ' S' hd' fl k' vals w' ∧ SO (cxOf A k'.H.length ρ' S' fl w') k'.get hd' sv v := by
  unfold callE at e
  split at e
  · simp only [Option.bind_eq_some_iff] at e
    obtain ⟨⟨rs, H2⟩, e1, e⟩ := e
    simp only at e
    split at e
    · rename_i hh
      obtain ⟨hl2, hsn⟩ := hh
      obtain ⟨c1, c2⟩ := hc f ds _ rs H2 e1
      have hlen : (lockAll k.H).length = k.H.length := by simp [lockAll]
      obtain ⟨q1, q2⟩ := enterCall h b.sn b.lk (fun _ => true) (lockAll k.H) (fun _ _ => rfl) (fun _ _ => rfl) hlen (fun n _ ob => lockAll_get _ n ob) (fun n hn => by cases hn)
      refine ⟨c1, Calls.mono (c2 (avCall A b.sn (fun _ => true) S fl w (lockAll k.H).length ρ) _ hd args rfl q1 (VVs.ext q2 _ _ hargs)) fun en w' ho => ?_⟩
      obtain ⟨v, rfl, ρ', S2, hd2, M, vs, g1, g2, rfl⟩ := ho
      rw [hlen] at g1 g2
      have L := leaveCall h (sn := b.sn) (R := fun _ => true) (fun _ _ => rfl) g1 k.H k.tr hl2.symm (fun _ _ _ => rfl) (fun n hn => by
        have : k.H.length ≤ n := by
          rcases Nat.lt_or_ge n k.H.length with q | q
          · exact absurd ⟨q, rfl⟩ hn
          · exact q
        rw [List.getElem?_eq_none this, List.getElem?_eq_none (by omega)]) (fun _ n ob hn ho => by
        have := (List.getElem?_eq_some_iff.1 ho).1
        exact absurd ⟨by omega, rfl⟩ hn)
      have kr := L.kr vals (fun p hp => SO.keep L.ext (fun r q => by
        cases hk : keptR (fun _ => true) k.H.length r with
        | true => exact L.hold r q hk
        | false =>
          cases r with
          | l n j => cases hk
          | o n =>
            simp only [keptR, Bool.and_true, decide_eq_false_iff_not] at hk
            intro t es h1 _
            simp only [Wk.get, Go.Am.cont, List.getElem?_eq_none (Nat.le_of_not_lt hk)] at h1
            cases h1) (h.vals p hp))
      obtain ⟨S', hd', r1, r2, _⟩ := resE_ok kr (L.ret rs vs hsn g2) e
      exact ⟨_, rfl, ρ', S', hd', r1, r2⟩
    · cases e
  · simp only [Option.bind_eq_some_iff] at e
    obtain ⟨⟨rs, H2⟩, e1, e⟩ := e
    simp only at e
    split at e
    · rename_i hh
      obtain ⟨hsn, hsame⟩ := hh
      obtain ⟨c1, c2⟩ := hc f ds _ rs H2 e1
      have hlen := lockSome_len b.lk k.H
      let R : Root → Bool := fun r => match r with | .l _ _ => true | .o n => b.lk.contains n
      have hRo : ∀ n, R (.o n) = b.lk.contains n := fun n => rfl
      obtain ⟨q1, q2⟩ := enterCall h b.sn b.lk R (lockSome b.lk k.H) (fun _ _ => rfl) (fun n hn => by rw [hRo]; simpa using hn) hlen (fun n hn ob => lockSome_in b.lk _ n ob (by rw [hRo] at hn; simpa using hn)) (fun n hn => lockSome_out b.lk _ n (by rw [hRo] at hn; simpa using hn))
      refine ⟨c1, Calls.mono (c2 (avCall A b.sn R S fl w (lockSome b.lk k.H).length ρ) _ hd args rfl q1 (VVs.ext q2 _ _ hargs)) fun en w' ho => ?_⟩
      obtain ⟨v, rfl, ρ', S2, hd2, M, vs, g1, g2, rfl⟩ := ho
      rw [hlen] at g1 g2
      have hn0 : k.H.length ≤ H2.length := g1.rho.1
      have L := leaveCall h (sn := b.sn) (R := R) (fun _ _ => rfl) g1 (unlock k.H b.lk H2) (k.tr ++ [.killO]) (unlock_len _ _ _) (fun n hn hr => unlock_in _ _ _ n hn (by omega) (by rw [hRo] at hr; simpa using hr)) (fun n hn => unlock_out _ _ _ n (fun ⟨p1, p2⟩ => hn ⟨p1, by rw [hRo]; simpa using p2⟩))
        (fun hs n ob _ ho => obsImm_get H2 n ob (hsn hs).2 ho)
      have kr := L.kr vals (fun p hp => by
        rw [trv_append]
        refine SO.killO L.ext (fun r q hq => ?_) (h.vals p hp)
        cases hk : keptR R k.H.length r with
        | true => exact L.hold r q hk
        | false =>
          cases r with
          | l n j => cases hk
          | o n =>
            have hq0 := hq n rfl
            subst hq0
            intro t es h1 h2
            have h1' := h1
            simp only [Wk.get, Go.Am.cont] at h1'
            split at h1'
            · rename_i c hcb
              simp only [Option.some.injEq] at h1'
              subst h1'
              simp only [T.at, Option.some.injEq, T.own.injEq] at h2
              subst h2
              have hlt : n < k.H.length := (List.getElem?_eq_some_iff.1 hcb).1
              have hnk : n ∉ b.lk := fun hc' => by simp [keptR, hRo, hlt, hc'] at hk
              obtain ⟨c', d1, d2⟩ := sameObs_box _ H2 n c hsame (by rw [lockSome_out _ _ _ hnk]; exact hcb)
              refine ⟨.own [c'], [c'], ?_, rfl, ⟨rfl, fun i e he => ?_⟩, fun h' hn => ?_⟩
              · simp only [Wk.get, Go.Am.cont, unlock_out k.H b.lk H2 n (fun hx => hnk hx.2), d1]
              · cases i with
                | zero => simp at he; subst he; exact ⟨c', rfl, d2⟩
                | succ i => simp at he
              · simp only [NodeH] at hn ⊢
                rw [hn]
                have e2 : hd3 R k.H.length hd hd2 (.o n) = hd2 (.o n) := by simp [hd3, hk]
                rw [e2, h.obj, g1.obj, L.rho n hlt]
            · cases h1')
      obtain ⟨S', hd', r1, r2, _⟩ := resE_ok kr (L.ret rs vs (fun hs => (hsn hs).1) g2) e
      exact ⟨_, rfl, ρ', S', hd', r1, r2⟩
    · cases e
end
end Go.Am
