/- The abstract machine: what an operation may change: contents are laid ahead of the old ones; shared objects stay where no operand leans on one. -/
import Derived.Test.YtabkianhbgpfgaaAmAny
namespace Go.Am
open Go
set_option linter.unusedSimpArgs false
set_option linter.unusedVariables false

/-- k' grows out of k; the objects stay where b -/
structure Grown (b : Prop) (k k' : Wk) : Prop where
  ct : ∃ pre, k'.ct = pre ++ k.ct
  H : b → k'.H = k.H
theorem Grown.refl (b : Prop) (k : Wk) : Grown b k k := ⟨⟨[], rfl⟩, fun _ => rfl⟩
theorem Grown.trans {b : Prop} {k k1 k2 : Wk} (x : Grown b k k1) (y : Grown b k1 k2) : Grown b k k2 := by
  obtain ⟨p, hp⟩ := x.ct
  obtain ⟨q, hq⟩ := y.ct
  exact ⟨⟨q ++ p, by rw [hq, hp, List.append_assoc]⟩, fun h => (y.H h).trans (x.H h)⟩
theorem Grown.tell {b : Prop} {k k' : Wk} (h : Grown b k k') (x : Tr) : Grown b k (k'.tell x) := ⟨h.ct, h.H⟩
theorem Grown.new {b : Prop} {k k' : Wk} (h : Grown b k k') (n j : Nat) (t : T) : Grown b k (k'.new n j t) := by
  obtain ⟨p, hp⟩ := h.ct
  exact ⟨⟨((n, j), t) :: p, by simp [Wk.new, hp]⟩, h.H⟩
theorem Grown.imp {b c : Prop} {k k' : Wk} (h : Grown b k k') (f : c → b) : Grown c k k' := ⟨h.ct, fun hc => h.H (f hc)⟩
theorem Grown.set {k k' : Wk} {r : Root} {t : T} (h : k.set r t = some k') : Grown (r.isO = false) k k' := by
  cases r with
  | l n j => simp only [Wk.set, Option.some.injEq] at h; subst h; exact ⟨⟨[((n, j), t)], rfl⟩, fun _ => rfl⟩
  | o n =>
    simp only [Wk.set] at h
    split at h
    · simp only [Option.some.injEq] at h; subst h; exact ⟨⟨[], rfl⟩, fun h => by cases h⟩
    · cases h

abbrev NoO (v : SV) : Prop := v.rts.any Root.isO = false
theorem NoO.bor {r : Root} {p : Path} {o l : Nat} : NoO (.bor r p o l) ↔ r.isO = false := by simp [NoO, SV.rts]
theorem NoO.loc {r : Root} {p : Path} {i o : Nat} : NoO (.loc r p i o) ↔ r.isO = false := by simp [NoO, SV.rts]
theorem rtss_any {f : Root → Bool} : ∀ (l : List SV), (SV.rtss l).any f = false ↔ ∀ v ∈ l, v.rts.any f = false
  | [] => by simp [SV.rtss]
  | v :: l => by simp only [SV.rtss, List.any_append, Bool.or_eq_false_iff, rtss_any l, List.forall_mem_cons]
theorem svs_map (x : Tr) (l : List SV) : Tr.svs x l = l.map x.sv := by induction l with | nil => rfl | cons a r ih => simp [Tr.svs, ih]
mutual
theorem Tr.noO (x : Tr) : ∀ (v : SV), NoO v → NoO (x.sv v)
  | .d y, h => by cases x <;> exact h
  | .bor r p o l, h => by
    rw [NoO.bor] at h
    cases x <;> simp only [Tr.sv] <;> (repeat' split) <;> first | (simp [NoO, SV.rts, Root.isO]; done) | (rw [NoO.bor]; exact h)
  | .loc r p i o, h => by
    rw [NoO.loc] at h
    cases x <;> simp only [Tr.sv] <;> (repeat' split) <;> first | (simp [NoO, SV.rts, Root.isO]; done) | (rw [NoO.loc]; exact h) | simp_all
  | .rp _ _, h => by cases x <;> exact h
  | .clip _ _, h => by cases x <;> exact h
  | .dead, h => by cases x <;> exact h
  | .agg l, h => by
    have : x.sv (.agg l) = .agg (Tr.svs x l) := by cases x <;> rfl
    rw [this]; exact Tr.noOs x l h
  | .tup l, h => by
    have : x.sv (.tup l) = .tup (Tr.svs x l) := by cases x <;> rfl
    rw [this]; exact Tr.noOs x l h
theorem Tr.noOs (x : Tr) : ∀ (l : List SV), (SV.rtss l).any Root.isO = false → (SV.rtss (Tr.svs x l)).any Root.isO = false
  | [], h => h
  | v :: l, h => by
    simp only [SV.rtss, Tr.svs, List.any_append, Bool.or_eq_false_iff] at h ⊢
    exact ⟨Tr.noO x v h.1, Tr.noOs x l h.2⟩
end
theorem trv_noO : ∀ (a : List Tr) (v : SV), NoO v → NoO (trv a v)
  | [], _, h => h
  | x :: a, v, h => trv_noO a _ (Tr.noO x v h)

theorem absorb1_grown {nv : Nat} {v : SV} {k k' : Wk} {t : T} (e : absorb1 nv v k = some (t, k')) : Grown (NoO v) k k' := by
  cases v with
  | d x => simp only [absorb1, Option.some.injEq, Prod.mk.injEq] at e; rw [← e.2]; exact .refl _ _
  | clip b l => simp only [absorb1, Option.some.injEq, Prod.mk.injEq] at e; rw [← e.2]; exact .refl _ _
  | bor r p off len =>
    simp only [absorb1, Option.bind_eq_some_iff] at e
    obtain ⟨c, _, nd, _, e⟩ := e
    split at e
    · split at e
      · split at e
        · simp only [Option.map_eq_some_iff, Prod.mk.injEq] at e
          obtain ⟨k1, h1, _, rfl⟩ := e
          exact ((Grown.set h1).tell _).imp NoO.bor.1
        · simp only [Option.bind_eq_some_iff, Option.map_eq_some_iff, Prod.mk.injEq] at e
          obtain ⟨_, _, k1, h1, _, rfl⟩ := e
          exact ((Grown.set h1).tell _).imp NoO.bor.1
      · simp only [Option.bind_eq_some_iff, Option.map_eq_some_iff, Prod.mk.injEq] at e
        obtain ⟨_, _, _, _, k1, h1, _, rfl⟩ := e
        exact ((Grown.set h1).tell _).imp NoO.bor.1
    · cases e
  | _ => simp [absorb1] at e
theorem absorbs_grown {nv : Nat} : ∀ (l : List SV) {k k' : Wk} {ts : List T}, absorbs nv l k = some (ts, k') → Grown (∀ v ∈ l, NoO v) k k'
  | [], k, k', ts, e => by simp only [absorbs, Option.some.injEq, Prod.mk.injEq] at e; rw [← e.2]; exact .refl _ _
  | v :: l, k, k', ts, e => by
    simp only [absorbs, Option.bind_eq_some_iff, Option.map_eq_some_iff, Prod.mk.injEq] at e
    obtain ⟨⟨t, k1⟩, e1, ⟨ts', k2⟩, e2, _, rfl⟩ := e
    exact ((absorb1_grown e1).imp fun h => trv_noO _ _ (h v (by simp))).trans ((absorbs_grown l e2).imp fun h u hu => h u (by simp [hu]))
theorem absorb_grown {nv : Nat} {v : SV} {k k' : Wk} {t : T} (e : absorb nv v k = some (t, k')) : Grown (NoO v) k k' := by
  by_cases hv : ∃ l, v = .agg l
  · obtain ⟨l, rfl⟩ := hv
    simp only [absorb, Option.map_eq_some_iff, Prod.mk.injEq] at e
    obtain ⟨⟨ts, k1⟩, e1, _, rfl⟩ := e
    exact (absorbs_grown l e1).imp fun h => (rtss_any l).1 h
  · have e' : absorb1 nv (trv k.tr v) k = some (t, k') := by
      revert e hv
      cases v <;> intro e hv <;> first | exact e | exact absurd ⟨_, rfl⟩ hv
    exact (absorb1_grown e').imp (trv_noO _ _)
theorem absorbP_grown {nv : Nat} : ∀ (l : List (Nat × SV)) {k k' : Wk} {ts : List (Nat × T)}, absorbP nv l k = some (ts, k') → Grown (∀ v ∈ l, NoO v.2) k k'
  | [], k, k', ts, e => by simp only [absorbP, Option.some.injEq, Prod.mk.injEq] at e; rw [← e.2]; exact .refl _ _
  | (i, v) :: l, k, k', ts, e => by
    simp only [absorbP, Option.bind_eq_some_iff, Option.map_eq_some_iff, Prod.mk.injEq] at e
    obtain ⟨⟨t, k1⟩, e1, ⟨ts', k2⟩, e2, _, rfl⟩ := e
    exact ((absorb_grown e1).imp fun h => h (i, v) (by simp)).trans ((absorbP_grown l e2).imp fun h u hu => h u (by simp [hu]))
theorem asLoc_noO {v : SV} (h : NoO v) : NoO (asLoc v) := by rw [NoO, asLoc_rts]; exact h

section
variable {P : Program} {h : Hint} {dst : Nat} {ty : TypeId}
theorem storeE_grown {nv : Nat} {t : TypeId} {a v : SV} {k k' : Wk} (e : storeE P nv t a v k = some k') : Grown (NoO a ∧ NoO v) k k' := by
  simp only [storeE, Option.bind_eq_some_iff] at e
  obtain ⟨⟨x, k1⟩, e1, e⟩ := e
  have g1 := (absorb_grown e1).imp (c := NoO a ∧ NoO v) (·.2)
  simp only at e
  split at e
  · rename_i r p i off hl
    split at e
    · simp only [Option.bind_eq_some_iff] at e
      obtain ⟨c, _, nd, _, e⟩ := e
      split at e
      · simp only [Option.bind_eq_some_iff] at e
        obtain ⟨el, _, e⟩ := e
        split at e
        · simp only [Option.bind_eq_some_iff, Option.map_eq_some_iff] at e
          obtain ⟨c', _, k2, h2, rfl⟩ := e
          have hr : NoO a ∧ NoO v → r.isO = false := fun q => by
            have := asLoc_noO (trv_noO k1.tr a q.1)
            rw [hl] at this
            exact NoO.loc.1 this
          have g2 := g1.trans ((Grown.set h2).imp hr)
          split
          · exact g2.tell _
          · exact g2
        · cases e
      · cases e
    · cases e
  · cases e
theorem newsE_grown {nv : Nat} {v : SV} {k k' : Wk} {l : List T} (e : newsE nv v k = some (l, k')) : Grown True k k' := by
  cases v with
  | d x => cases x <;> simp only [newsE, Option.some.injEq, Prod.mk.injEq, reduceCtorEq] at e <;> (rw [← e.2]; exact .refl _ _)
  | clip b l => simp only [newsE, Option.some.injEq, Prod.mk.injEq] at e; rw [← e.2]; exact .refl _ _
  | bor r p off len =>
    simp only [newsE, Option.bind_eq_some_iff] at e
    obtain ⟨c, _, nd, _, e⟩ := e
    split at e
    · split at e
      · split at e
        · simp only [Option.map_eq_some_iff, Prod.mk.injEq] at e
          obtain ⟨k1, h1, _, rfl⟩ := e
          exact ((Grown.set h1).imp fun _ => rfl).tell _
        · split at e
          · simp only [Option.some.injEq, Prod.mk.injEq] at e; rw [← e.2]; exact .refl _ _
          · cases e
      · split at e
        · simp only [Option.some.injEq, Prod.mk.injEq] at e; rw [← e.2]; exact .refl _ _
        · cases e
    · cases e
  | _ => simp [newsE] at e
theorem appendE_grown {nv : Nat} {t : TypeId} {s x v : SV} {k k' : Wk} (e : appendE P nv dst t s x k = some (v, k')) : Grown (NoO s) k k' := by
  simp only [appendE, oldsE, Option.bind_eq_some_iff] at e
  obtain ⟨ety, _, z, _, ⟨news, k1⟩, e1, e⟩ := e
  have g1 := (newsE_grown e1).imp (c := NoO s) fun _ => trivial
  split at e
  · simp only [Option.bind_eq_some_iff] at e
    obtain ⟨⟨olds, k2⟩, e2, e⟩ := e
    have g2 : Grown (NoO s) k1 k2 := by
      split at e2
      · simp only [Option.some.injEq, Prod.mk.injEq] at e2; rw [← e2.2]; exact .refl _ _
      · simp only [Option.some.injEq, Prod.mk.injEq] at e2; rw [← e2.2]; exact .refl _ _
      · rename_i r p off len hs
        split at e2
        · simp only [Option.bind_eq_some_iff] at e2
          obtain ⟨c, _, nd, _, e2⟩ := e2
          split at e2
          · split at e2
            · simp only [Option.bind_eq_some_iff, Option.map_eq_some_iff, Prod.mk.injEq] at e2
              obtain ⟨c', _, k3, h3, _, rfl⟩ := e2
              refine ((Grown.set h3).imp fun q => ?_).tell _
              have := trv_noO k1.tr s q
              rw [hs] at this
              exact NoO.bor.1 this
            · cases e2
          · cases e2
        · cases e2
      · cases e2
    simp only at e
    split at e
    · simp only [Option.some.injEq, Prod.mk.injEq] at e
      rw [← e.2]
      exact (g1.trans g2).new _ _ _
    · cases e
  · cases e

/-- every operation but calls of functions -/
theorem opE_grown {op : Op} {σ : Operand → SV} {k k' : Wk} {v : SV} (e : opE P h dst ty op σ k = some (v, k')) : Grown (hOf h dst op = false ∧ ∀ x ∈ op.operands, NoO (σ x)) k k' := by
  unfold opE at e
  cases op <;> simp only at e
  case move x => simp only [Option.some.injEq, Prod.mk.injEq] at e; rw [← e.2]; exact .refl _ _
  case assign x =>
    unfold assignE at e
    split at e
    · split at e <;> simp only [Option.some.injEq, Prod.mk.injEq] at e <;> rw [← e.2]
      · exact (Grown.refl _ _).new _ _ _
      · exact .refl _ _
    · split at e
      · simp only [Option.some.injEq, Prod.mk.injEq] at e; rw [← e.2]; exact .refl _ _
      · simp only [Option.bind_eq_some_iff] at e
        obtain ⟨c, _, e⟩ := e
        split at e
        · split at e <;> simp only [Option.some.injEq, Prod.mk.injEq] at e <;> rw [← e.2]
          · refine (Grown.new ?_ _ _ _).tell _
            exact ⟨⟨[_], rfl⟩, fun _ => rfl⟩
          · exact .refl _ _
        · cases e
    · simp only [Option.some.injEq, Prod.mk.injEq] at e; rw [← e.2]; exact .refl _ _
  case pick c a b => split at e <;> simp only [Option.some.injEq, Prod.mk.injEq, reduceCtorEq] at e; rw [← e.2]; exact .refl _ _
  case alloc t =>
    simp only [Option.bind_eq_some_iff] at e
    obtain ⟨z, _, e⟩ := e
    unfold boxE at e
    split at e
    · cases e
    · split at e <;> simp only [Option.some.injEq, Prod.mk.injEq] at e <;> rw [← e.2]
      · rename_i hc; exact ⟨⟨[], rfl⟩, fun q => by simp [hOf, hc] at q; exact absurd hc (by simp [q.1])⟩
      · exact (Grown.refl _ _).new _ _ _
  case box t x =>
    simp only [Option.bind_eq_some_iff] at e
    obtain ⟨⟨y, k1⟩, e1, e⟩ := e
    have g1 := absorb_grown e1
    simp only at e
    split at e
    · unfold boxE at e
      split at e
      · cases e
      · split at e <;> simp only [Option.some.injEq, Prod.mk.injEq] at e <;> rw [← e.2]
        · rename_i hc; exact ⟨g1.ct, fun q => by simp [hOf, hc] at q; exact absurd hc (by simp [q.1])⟩
        · exact (g1.imp fun q => q.2 x (by simp [Op.operands])).new _ _ _
    · cases e
  case build t ps => simp only [Option.map_eq_some_iff, Prod.mk.injEq] at e; obtain ⟨_, _, _, rfl⟩ := e; exact .refl _ _
  case buildSlice t n ps =>
    simp only [buildSliceE, Option.bind_eq_some_iff] at e
    obtain ⟨ety, _, z, _, ⟨p1, k1⟩, h3, e⟩ := e
    have g1 := (absorbP_grown _ h3).imp (c := hOf h dst (.buildSlice t n ps) = false ∧ ∀ x ∈ (Op.buildSlice t n ps).operands, NoO (σ x)) (fun q u hu => by
      simp only [List.mem_map] at hu
      obtain ⟨p, hp, rfl⟩ := hu
      exact q.2 p.2 (by simp only [Op.operands, List.mem_toArray, List.mem_map]; exact ⟨p, hp, rfl⟩))
    split at e
    · simp only [Option.bind_eq_some_iff] at e
      obtain ⟨es, _, e⟩ := e
      split at e
      · split at e
        · simp only [Option.map_eq_some_iff, Prod.mk.injEq] at e; obtain ⟨_, _, _, rfl⟩ := e; exact g1
        · cases e
      · simp only [Option.some.injEq, Prod.mk.injEq] at e; rw [← e.2]; exact g1.new _ _ _
    · cases e
  case load t a => simp only [Option.map_eq_some_iff, Prod.mk.injEq] at e; obtain ⟨_, _, _, rfl⟩ := e; exact .refl _ _
  case store t a x =>
    simp only [Option.map_eq_some_iff, Prod.mk.injEq] at e
    obtain ⟨k1, e1, _, rfl⟩ := e
    exact (storeE_grown e1).imp fun q => ⟨q.2 a (by simp [Op.operands]), q.2 x (by simp [Op.operands])⟩
  case nilCheck x => split at e <;> simp only [Option.some.injEq, Prod.mk.injEq, reduceCtorEq] at e <;> (rw [← e.2]; exact .refl _ _)
  case makeMap t r =>
    cases r with
    | none => simp only [Option.some.injEq, Prod.mk.injEq] at e; rw [← e.2]; exact ⟨⟨[], rfl⟩, fun q => by simp [hOf] at q⟩
    | some n =>
      simp only at e
      split at e
      · simp only [Option.some.injEq, Prod.mk.injEq] at e; rw [← e.2]; exact ⟨⟨[], rfl⟩, fun q => by simp [hOf] at q⟩
      · cases e
  case makeSlice t l c =>
    unfold makeE at e
    split at e
    · simp only [Option.bind_eq_some_iff] at e
      obtain ⟨_, _, _, _, e⟩ := e
      split at e
      · simp only [Option.some.injEq, Prod.mk.injEq] at e; rw [← e.2]; exact (Grown.refl _ _).new _ _ _
      · cases e
    · cases e
  case makeFunc f a c =>
    simp only [Option.bind_eq_some_iff, Option.map_eq_some_iff, Prod.mk.injEq] at e
    obtain ⟨_, _, _, _, _, rfl⟩ := e
    exact .refl _ _
  case extract x n =>
    split at e
    · simp only [Option.map_eq_some_iff, Prod.mk.injEq] at e; obtain ⟨_, _, _, rfl⟩ := e; exact .refl _ _
    · cases e
  case mapUpdate t m key x =>
    simp only [Option.map_eq_some_iff, Prod.mk.injEq] at e
    obtain ⟨k1, e1, _, rfl⟩ := e
    simp only [mapPutE, Option.bind_eq_some_iff] at e1
    obtain ⟨⟨kt, _⟩, _, e1⟩ := e1
    refine ⟨?_, fun q => by simp [hOf] at q⟩
    simp only at e1
    split at e1
    · split at e1
      · simp only [Option.bind_eq_some_iff] at e1
        obtain ⟨⟨y, k2⟩, e2, e1⟩ := e1
        simp only at e1
        split at e1
        · simp only [Option.map_eq_some_iff] at e1
          obtain ⟨_, _, rfl⟩ := e1
          exact (absorb_grown e2).ct
        · cases e1
      · cases e1
    · cases e1
  case call c =>
    obtain ⟨callee, args, ats⟩ := c
    cases callee with
    | builtin b =>
      cases b <;> simp only [reduceCtorEq] at e
      case len =>
        split at e
        · simp only [Option.map_eq_some_iff, Prod.mk.injEq] at e; obtain ⟨_, _, _, rfl⟩ := e; exact .refl _ _
        · cases e
      case append =>
        split at e
        · rename_i x y t u hx ht
          split at e
          · refine (appendE_grown e).imp fun q => q.2 x ?_
            have : x ∈ args := by rw [← Array.mem_toList_iff, hx]; simp
            simp [Op.operands, Call.operands, this]
          · cases e
        · cases e
    | _ => simp at e
  all_goals first | (cases e; done) | (simp only [Option.map_eq_some_iff, Prod.mk.injEq] at e; obtain ⟨_, _, _, rfl⟩ := e; exact .refl _ _)

/-! ### calls -/
theorem snap1_grown {nv : Nat} {v : SV} {k k' : Wk} {b b' : Lend} {x : D} (e : snap1 nv v k b = some (x, k', b')) : Grown True k k' := by
  cases v with
  | d x => simp only [snap1, Option.some.injEq, Prod.mk.injEq] at e; rw [← e.2.1]; exact .refl _ _
  | clip t l => simp only [snap1, Option.some.injEq, Prod.mk.injEq] at e; rw [← e.2.1]; exact .refl _ _
  | bor r p off len =>
    simp only [snap1, Option.bind_eq_some_iff] at e
    obtain ⟨c, _, nd, _, e⟩ := e
    split at e
    · split at e
      · split at e
        · simp only [Option.bind_eq_some_iff, Option.map_eq_some_iff, Prod.mk.injEq] at e
          obtain ⟨l, _, k1, h1, _, rfl, _⟩ := e
          exact ((Grown.set h1).imp fun _ => rfl).tell _
        · simp only [Option.map_eq_some_iff, Prod.mk.injEq] at e; obtain ⟨_, _, _, rfl, _⟩ := e; exact .refl _ _
      · simp only [Option.map_eq_some_iff, Prod.mk.injEq] at e; obtain ⟨_, _, _, rfl, _⟩ := e; exact .refl _ _
      · simp only [Option.map_eq_some_iff, Prod.mk.injEq] at e; obtain ⟨_, _, _, rfl, _⟩ := e; exact .refl _ _
    · cases e
  | _ => simp [snap1] at e
theorem snaps_grown {nv : Nat} : ∀ (l : List SV) {k k' : Wk} {b b' : Lend} {xs : List D}, snaps nv l k b = some (xs, k', b') → Grown True k k'
  | [], k, k', b, b', xs, e => by simp only [snaps, Option.some.injEq, Prod.mk.injEq] at e; rw [← e.2.1]; exact .refl _ _
  | v :: l, k, k', b, b', xs, e => by
    simp only [snaps, Option.bind_eq_some_iff, Option.map_eq_some_iff, Prod.mk.injEq] at e
    obtain ⟨⟨x, k1, b1⟩, e1, ⟨ys, k2, b2⟩, e2, _, rfl, _⟩ := e
    exact (snap1_grown e1).trans (snaps_grown l e2)
theorem snap_grown {nv : Nat} {v : SV} {k k' : Wk} {b b' : Lend} {x : D} (e : snap nv v k b = some (x, k', b')) : Grown True k k' := by
  by_cases hv : ∃ l, v = .agg l
  · obtain ⟨l, rfl⟩ := hv
    simp only [snap, Option.map_eq_some_iff, Prod.mk.injEq] at e
    obtain ⟨⟨xs, k1, b1⟩, e1, _, rfl, _⟩ := e
    exact snaps_grown l e1
  · have e' : snap1 nv (trv k.tr v) k b = some (x, k', b') := by
      revert e hv
      cases v <;> intro e hv <;> first | exact e | exact absurd ⟨_, rfl⟩ hv
    exact snap1_grown e'
theorem snapA_grown {nv : Nat} : ∀ (l : List SV) {k k' : Wk} {b b' : Lend} {xs : List D}, snapA nv l k b = some (xs, k', b') → Grown True k k'
  | [], k, k', b, b', xs, e => by simp only [snapA, Option.some.injEq, Prod.mk.injEq] at e; rw [← e.2.1]; exact .refl _ _
  | v :: l, k, k', b, b', xs, e => by
    simp only [snapA, Option.bind_eq_some_iff, Option.map_eq_some_iff, Prod.mk.injEq] at e
    obtain ⟨⟨x, k1, b1⟩, e1, ⟨ys, k2, b2⟩, e2, _, rfl, _⟩ := e
    exact (snap_grown e1).trans (snapA_grown l e2)
theorem resCell_grown {j j' : Nat} {t : T} {k k' : Wk} {v : SV} (e : resCell dst j t k = some (v, j', k')) : Grown True k k' := by
  cases t <;> simp only [resCell, Option.some.injEq, Prod.mk.injEq, reduceCtorEq] at e <;> rw [← e.2.2]
  · exact .refl _ _
  · exact (Grown.refl _ _).new _ _ _
theorem resCells_grown : ∀ (l : List T) {j j' : Nat} {k k' : Wk} {vs : List SV}, resCells dst j l k = some (vs, j', k') → Grown True k k'
  | [], j, j', k, k', vs, e => by simp only [resCells, Option.some.injEq, Prod.mk.injEq] at e; rw [← e.2.2]; exact .refl _ _
  | t :: l, j, j', k, k', vs, e => by
    simp only [resCells, Option.bind_eq_some_iff, Option.map_eq_some_iff, Prod.mk.injEq] at e
    obtain ⟨⟨v, j1, k1⟩, e1, ⟨ws, j2, k2⟩, e2, _, _, rfl⟩ := e
    exact (resCell_grown e1).trans (resCells_grown l e2)
theorem res1_grown {j j' : Nat} {t : T} {k k' : Wk} {v : SV} (e : res1 dst j t k = some (v, j', k')) : Grown True k k' := by
  cases t with
  | agg ts =>
    simp only [res1, Option.map_eq_some_iff, Prod.mk.injEq] at e
    obtain ⟨⟨vs, j1, k1⟩, e1, _, _, rfl⟩ := e
    exact resCells_grown ts e1
  | d x => exact resCell_grown (dst := dst) (t := .d x) e
  | own es => exact resCell_grown (dst := dst) (t := .own es) e
  | dead => simp [res1, resCell] at e
theorem resAll_grown : ∀ (l : List T) {j : Nat} {k k' : Wk} {vs : List SV}, resAll dst j l k = some (vs, k') → Grown True k k'
  | [], j, k, k', vs, e => by simp only [resAll, Option.some.injEq, Prod.mk.injEq] at e; rw [← e.2]; exact .refl _ _
  | t :: l, j, k, k', vs, e => by
    simp only [resAll, Option.bind_eq_some_iff, Option.map_eq_some_iff, Prod.mk.injEq] at e
    obtain ⟨⟨v, j1, k1⟩, e1, ⟨ws, k2⟩, e2, _, rfl⟩ := e
    exact (res1_grown e1).trans (resAll_grown l e2)
theorem resE_grown {rs : List T} {k k' : Wk} {v : SV} (e : resE dst rs k = some (v, k')) : Grown True k k' := by
  simp only [resE, Option.map_eq_some_iff, Prod.mk.injEq] at e
  obtain ⟨⟨vs, k1⟩, e1, _, rfl⟩ := e
  exact resAll_grown rs e1
theorem callE_grown {call : CallF} {f : FuncId} {ds : List D} {b : Lend} {k k' : Wk} {v : SV} (e : callE call h dst f ds b k = some (v, k')) : Grown (h.keep.contains dst = true) k k' := by
  unfold callE at e
  split at e
  · simp only [Option.bind_eq_some_iff] at e
    obtain ⟨⟨rs, H2⟩, _, e⟩ := e
    simp only at e
    split at e
    · exact (resE_grown e).imp fun _ => trivial
    · cases e
  · rename_i hk
    simp only [Option.bind_eq_some_iff] at e
    obtain ⟨⟨rs, H2⟩, _, e⟩ := e
    simp only at e
    split at e
    · exact ⟨(resE_grown e).ct, fun q => absurd q hk⟩
    · cases e
theorem stepE_grown {call : CallF} {op : Op} {σ : Operand → SV} {k k' : Wk} {v : SV} (e : stepE P call h dst ty op σ k = some (v, k')) : Grown (hOf h dst op = false ∧ ∀ x ∈ op.operands, NoO (σ x)) k k' := by
  unfold stepE at e
  split at e
  · rename_i f args ats
    split at e
    · simp only [Option.bind_eq_some_iff] at e
      obtain ⟨⟨ds, k1, b⟩, e1, e2⟩ := e
      refine ((snapA_grown _ e1).imp fun _ => trivial).trans ((callE_grown e2).imp fun q => ?_)
      simpa [hOf] using q.1
    · cases e
  · exact opE_grown e
end
end Go.Am
