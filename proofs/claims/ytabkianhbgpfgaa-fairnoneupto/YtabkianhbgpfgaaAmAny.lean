/- The abstract machine: what an operation looks at, and what it changes. No memory here: data alone. -/
import Derived.Test.YtabkianhbgpfgaaAmLeave
namespace Go.Am
open Go
set_option linter.unusedSimpArgs false
set_option linter.unusedVariables false

/-! ### only the operands count -/
theorem map_congr_op {l : List Operand} {σ τ : Operand → SV} (h : ∀ x ∈ l, σ x = τ x) : l.map σ = l.map τ := List.map_congr_left h
theorem pairs_congr {l : List (Nat × Operand)} {σ τ : Operand → SV} (h : ∀ x ∈ l.map (·.2), σ x = τ x) : l.map (fun p => (p.1, σ p.2)) = l.map (fun p => (p.1, τ p.2)) :=
  List.map_congr_left fun p hp => by rw [h p.2 (List.mem_map.2 ⟨p, hp, rfl⟩)]
section
variable {P : Program} {call : CallF} {h : Hint} {dst : Nat} {ty : TypeId}

theorem opE_congr (op : Op) {σ τ : Operand → SV} (k : Wk) (hx : ∀ x ∈ op.operands, σ x = τ x) : opE P h dst ty op σ k = opE P h dst ty op τ k := by
  unfold opE
  cases op <;> simp only [Op.operands] at hx <;> simp only
  case build t ps => rw [pairs_congr fun x hm => hx x (by simpa using hm)]
  case buildSlice t n ps => rw [pairs_congr fun x hm => hx x (by simpa using hm)]
  case makeFunc fn a c => rw [map_congr_op (l := a.toList) fun x hm => hx x (by simp at hm; simp [hm]), map_congr_op (l := c.toList) fun x hm => hx x (by simp at hm; simp [hm])]
  case makeMap t r => cases r <;> simp_all
  case slice t x lo hi mx => cases lo <;> cases hi <;> cases mx <;> simp_all
  case call c =>
    obtain ⟨callee, args, ats⟩ := c
    have ha : args.toList.map σ = args.toList.map τ := map_congr_op fun x hm => hx x (by simp at hm; simp [Call.operands, hm])
    cases callee with
    | builtin b =>
      cases b <;> simp only
      all_goals
        generalize args.toList = l at ha hx ⊢
        generalize ats.toList = tl
        match l with
        | [] => rfl
        | [x] => simp at ha; first | rfl | (simp only [ha]; done) | (match tl with | [] => rfl | [_] => simp only [ha] | _ :: _ :: _ => rfl)
        | [x, y] => simp at ha; first | rfl | (simp only [ha]; done) | (obtain ⟨h1, h2⟩ := ha; match tl with | [] => rfl | [_] => rfl | [_, _] => simp only [h1, h2] | _ :: _ :: _ :: _ => rfl)
        | _ :: _ :: _ :: _ => rfl
    | _ => rfl
  all_goals (first | rfl | (simp_all; done))

/-! ### what changes nothing leans on its operands' roots alone -/
theorem asLoc_rts {u : SV} : (asLoc u).rts = u.rts := by
  unfold asLoc
  split
  · rfl
  · rfl
theorem loadE_at {t : TypeId} {u : SV} {k k2 : Wk} (hr : ∀ r ∈ u.rts, k2.get r = k.get r) : loadE P t u k2 = loadE P t u k := by
  rw [← asLoc_rts] at hr
  unfold loadE
  split
  · rename_i r p i off he
    rw [he] at hr
    rw [hr r (by simp [SV.rts])]
  · rfl
  · rfl
theorem locOk_at {k k2 : Wk} {r : Root} {p : Path} {i off : Nat} (hr : k2.get r = k.get r) : locOk k2 r p i off = locOk k r p i off := by
  unfold locOk; rw [hr]
theorem winOk_at {n : Nat} {k k2 : Wk} {r : Root} {p : Path} {o m : Nat} (hr : k2.get r = k.get r) : winOk n r p o m k2 = winOk n r p o m k := by
  unfold winOk; rw [hr]
theorem fieldAddrE_at {t : TypeId} {u : SV} {f : Nat} {k k2 : Wk} (hr : ∀ r ∈ u.rts, k2.get r = k.get r) : fieldAddrE P t u f k2 = fieldAddrE P t u f k := by
  rw [← asLoc_rts] at hr
  unfold fieldAddrE
  congr 1
  funext ⟨o, n, _⟩
  simp only
  split
  · split
    · rename_i r p i off he
      rw [he] at hr
      rw [locOk_at (hr r (by simp [SV.rts]))]
    · rfl
    · rfl
  · rfl
theorem indexAddrE_at {t : TypeId} {u i : SV} {k k2 : Wk} (hr : ∀ r ∈ u.rts, k2.get r = k.get r) : indexAddrE P t u i k2 = indexAddrE P t u i k := by
  unfold indexAddrE
  split
  · split
    · split
      · rfl
      · rfl
      · rename_i r p off len
        rw [hr r (by simp [SV.rts])]
      · rfl
    · rw [← asLoc_rts] at hr
      split
      · rename_i r p j off he
        rw [he] at hr
        rw [locOk_at (hr r (by simp [SV.rts]))]
      · rfl
      · rfl
    · rfl
  · rfl
theorem sliceE_at {t : TypeId} {u : SV} {lo hi mx : Option SV} {k k2 : Wk} (hr : ∀ r ∈ u.rts, k2.get r = k.get r) : sliceE P t u lo hi mx k2 = sliceE P t u lo hi mx k := by
  unfold sliceE
  split
  · rfl
  · rfl
  · rfl
  · rename_i r p off len
    have : ∀ n o m, winOk n r p o m k2 = winOk n r p o m k := fun n o m => winOk_at (hr r (by simp [SV.rts]))
    simp only [this]
  · rfl
theorem lookupE_at {t : TypeId} {m key : SV} {ok : Bool} {H H2 : List Ob} (hr : H2 = H ∨ m.rts.any Root.isO = false) : lookupE P t m key ok H2 = lookupE P t m key ok H := by
  rcases hr with rfl | hr
  · rfl
  · unfold lookupE
    congr 1
    funext ⟨kt, e⟩
    simp only
    split
    · split
      · split
        · rfl
        · simp [SV.rts, Root.isO] at hr
        · rfl
      · rfl
    · rfl
theorem lenE_at {t : TypeId} {u : SV} {H H2 : List Ob} (hr : H2 = H ∨ u.rts.any Root.isO = false) : lenE P t H2 u = lenE P t H u := by
  rcases hr with rfl | hr
  · rfl
  · unfold lenE
    split <;> first | rfl | simp [SV.rts, Root.isO] at hr
theorem absorb_d {nv : Nat} {x : D} {k : Wk} : absorb nv (.d x) k = some (.d x, k) := by
  simp only [absorb, trv_d, absorb1]
theorem absorbP_d {nv : Nat} : ∀ (l : List (Nat × SV)) (k : Wk), l.all (fun p => isD p.2) = true → ∃ ps, ∀ k, absorbP nv l k = some (ps, k)
  | [], k, _ => ⟨[], fun _ => rfl⟩
  | (i, v) :: l, k, h => by
    simp only [List.all_cons, Bool.and_eq_true] at h
    obtain ⟨ps, hp⟩ := absorbP_d (nv := nv) l k h.2
    cases v with
    | d x => exact ⟨(i, .d x) :: ps, fun k => by simp only [absorbP, absorb_d, Option.bind_some, hp, Option.map_some]⟩
    | _ => simp [isD] at h

/-- an operation that changes nothing -/
theorem opE_read {op : Op} {σ : Operand → SV} {k k' : Wk} {v : SV} (hc : ∀ c, op = .call c → ∃ b, c.callee = .builtin b) (he : effOf h dst op = false) (e : opE P h dst ty op σ k = some (v, k')) :
    k' = k ∧ ∀ k2 : Wk, (reads op = true → ∀ x ∈ op.operands, ∀ r ∈ (σ x).rts, k2.get r = k.get r) → (reads op = true → k2.H = k.H ∨ ∀ x ∈ op.operands, (σ x).rts.any Root.isO = false) → opE P h dst ty op σ k2 = some (v, k2) := by
  unfold opE at e ⊢
  cases op <;> simp only [effOf, Bool.true_eq_false] at he <;> simp only [Op.operands] at e ⊢
  case move x => simp only [Option.some.injEq, Prod.mk.injEq] at e; obtain ⟨rfl, rfl⟩ := e; exact ⟨rfl, fun _ _ _ => rfl⟩
  case pick c a b => split at e <;> simp only [Option.some.injEq, Prod.mk.injEq, reduceCtorEq] at e; obtain ⟨rfl, rfl⟩ := e; exact ⟨rfl, fun _ _ _ => rfl⟩
  case build t ps => simp only [Option.map_eq_some_iff, Prod.mk.injEq] at e; obtain ⟨_, e1, rfl, rfl⟩ := e; exact ⟨rfl, fun _ _ _ => by rw [e1]; rfl⟩
  case buildSlice t n ps =>
    simp only [Bool.not_eq_false'] at he
    rw [he] at e ⊢
    simp only [buildSliceE, Option.bind_eq_some_iff] at e ⊢
    obtain ⟨ty, h1, z, h2, ⟨p1, k1⟩, h3, e⟩ := e
    split at e
    · rename_i hh
      simp only [Option.bind_eq_some_iff, if_true] at e
      obtain ⟨es, hes, e⟩ := e
      split at e
      · rename_i hall
        obtain ⟨p2, hp⟩ := absorbP_d (nv := h.nv) _ k hall
        rw [hp k] at h3
        simp only [Option.some.injEq, Prod.mk.injEq] at h3
        obtain ⟨rfl, rfl⟩ := h3
        simp only [Option.map_eq_some_iff, Prod.mk.injEq] at e
        obtain ⟨ds, hds, rfl, rfl⟩ := e
        refine ⟨rfl, fun k2 _ _ => ⟨ty, h1, z, h2, (p2, k2), hp k2, ?_⟩⟩
        simp only
        rw [if_pos hh, hes]
        simp only [Option.bind_some, if_true]
        rw [if_pos hall, hds]
        rfl
      · cases e
    · cases e
  case load t a =>
    simp only [Option.map_eq_some_iff, Prod.mk.injEq] at e; obtain ⟨_, e1, rfl, rfl⟩ := e
    exact ⟨rfl, fun k2 hr _ => by rw [loadE_at (hr rfl a (by simp)), e1]; rfl⟩
  case nilCheck x => split at e <;> simp only [Option.some.injEq, Prod.mk.injEq, reduceCtorEq] at e <;> (obtain ⟨rfl, rfl⟩ := e; first | exact ⟨rfl, fun _ _ _ => rfl⟩ | exact ⟨rfl, fun _ _ _ => trivial⟩)
  case binOp => simp only [Option.map_eq_some_iff, Prod.mk.injEq] at e; obtain ⟨_, e1, rfl, rfl⟩ := e; exact ⟨rfl, fun _ _ _ => by rw [e1]; rfl⟩
  case unOp => simp only [Option.map_eq_some_iff, Prod.mk.injEq] at e; obtain ⟨_, e1, rfl, rfl⟩ := e; exact ⟨rfl, fun _ _ _ => by rw [e1]; rfl⟩
  case convert => simp only [Option.map_eq_some_iff, Prod.mk.injEq] at e; obtain ⟨_, e1, rfl, rfl⟩ := e; exact ⟨rfl, fun _ _ _ => by rw [e1]; rfl⟩
  case makeFunc f a c =>
    simp only [Option.bind_eq_some_iff, Option.map_eq_some_iff, Prod.mk.injEq] at e ⊢
    obtain ⟨a1, h1, a2, h2, rfl, rfl⟩ := e
    exact ⟨rfl, fun k2 _ _ => ⟨a1, h1, a2, h2, by simp⟩⟩
  case slice t x lo hi mx =>
    simp only [Option.map_eq_some_iff, Prod.mk.injEq] at e; obtain ⟨_, e1, rfl, rfl⟩ := e
    exact ⟨rfl, fun k2 hr _ => by rw [sliceE_at (hr rfl x (by simp)), e1]; rfl⟩
  case fieldAddr t x f =>
    simp only [Option.map_eq_some_iff, Prod.mk.injEq] at e; obtain ⟨_, e1, rfl, rfl⟩ := e
    exact ⟨rfl, fun k2 hr _ => by rw [fieldAddrE_at (hr rfl x (by simp)), e1]; rfl⟩
  case field => simp only [Option.map_eq_some_iff, Prod.mk.injEq] at e; obtain ⟨_, e1, rfl, rfl⟩ := e; exact ⟨rfl, fun _ _ _ => by rw [e1]; rfl⟩
  case indexAddr t x i =>
    simp only [Option.map_eq_some_iff, Prod.mk.injEq] at e; obtain ⟨_, e1, rfl, rfl⟩ := e
    exact ⟨rfl, fun k2 hr _ => by rw [indexAddrE_at (hr rfl x (by simp)), e1]; rfl⟩
  case index => simp only [Option.map_eq_some_iff, Prod.mk.injEq] at e; obtain ⟨_, e1, rfl, rfl⟩ := e; exact ⟨rfl, fun _ _ _ => by rw [e1]; rfl⟩
  case lookup t m key ok =>
    simp only [Option.map_eq_some_iff, Prod.mk.injEq] at e; obtain ⟨_, e1, rfl, rfl⟩ := e
    exact ⟨rfl, fun k2 _ hh => by rw [lookupE_at ((hh rfl).imp id fun q => q m (by simp)), e1]; rfl⟩
  case extract x n =>
    split at e
    · simp only [Option.map_eq_some_iff, Prod.mk.injEq] at e; obtain ⟨_, e1, rfl, rfl⟩ := e; exact ⟨rfl, fun _ _ _ => by rw [e1]; rfl⟩
    · cases e
  case call c =>
    obtain ⟨b, hb⟩ := hc c rfl
    obtain ⟨callee, args, ats⟩ := c
    simp only at hb
    subst hb
    cases b <;> simp only [effOf, Bool.true_eq_false] at he
    simp only at e ⊢
    split at e
    · rename_i x t hx ht
      simp only [Option.map_eq_some_iff, Prod.mk.injEq] at e
      obtain ⟨n, e1, rfl, rfl⟩ := e
      refine ⟨rfl, fun k2 _ hh => ?_⟩
      rw [lenE_at ((hh rfl).imp id fun q => q x ?_), e1]
      · rfl
      · have : x ∈ args := by rw [← Array.mem_toList_iff, hx]; simp
        simp [Call.operands, this]
    · cases e
end
end Go.Am
