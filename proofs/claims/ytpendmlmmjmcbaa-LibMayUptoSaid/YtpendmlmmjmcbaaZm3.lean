/- A part of the proof: texts of mine, merged by a program (wip/dev/merge.py). -/
import Derived.Test.YtpendmlmmjmcbaaZm2
import Derived.Tactics
import Derived.LoopN
import Derived.Scope
/- The abstract machine: what an operation may change: contents are laid ahead of the old ones; shared objects stay where no operand leans on one. -/
namespace Go.Am
open Go
set_option linter.unusedSimpArgs false
set_option linter.unusedVariables false

/-- k' grows out of k; the objects stay where b -/
structure Grown (b : Prop) (k k' : Wk) : Prop where
  ct : ∃ pre, k'.ct = pre ++ k.ct
  H : b → k'.H = k.H
theorem Grown.refl (b : Prop) (k : Wk) : Grown b k k := ⟨⟨[], rfl⟩, fun _ => rfl⟩
theorem Grown.trans {b : Prop} {k k1 k2 : Wk} (x : Grown b k k1) (y : Grown b k1 k2) : Grown b k k2 := by
  obtain ⟨p, hp⟩ := x.ct
  obtain ⟨q, hq⟩ := y.ct
  exact ⟨⟨q ++ p, by rw [hq, hp, List.append_assoc]⟩, fun h => (y.H h).trans (x.H h)⟩
theorem Grown.tell {b : Prop} {k k' : Wk} (h : Grown b k k') (x : Tr) : Grown b k (k'.tell x) := ⟨h.ct, h.H⟩
theorem Grown.new {b : Prop} {k k' : Wk} (h : Grown b k k') (n j : Nat) (t : T) : Grown b k (k'.new n j t) := by
  obtain ⟨p, hp⟩ := h.ct
  exact ⟨⟨((n, j), t) :: p, by simp [Wk.new, hp]⟩, h.H⟩
theorem Grown.imp {b c : Prop} {k k' : Wk} (h : Grown b k k') (f : c → b) : Grown c k k' := ⟨h.ct, fun hc => h.H (f hc)⟩
theorem Grown.set {k k' : Wk} {r : Root} {t : T} (h : k.set r t = some k') : Grown (r.isO = false) k k' := by
  cases r with
  | l n j => simp only [Wk.set, Option.some.injEq] at h; subst h; exact ⟨⟨[((n, j), t)], rfl⟩, fun _ => rfl⟩
  | o n =>
    simp only [Wk.set] at h
    split at h
    · simp only [Option.some.injEq] at h; subst h; exact ⟨⟨[], rfl⟩, fun h => by cases h⟩
    · cases h

abbrev NoO (v : SV) : Prop := v.rts.any Root.isO = false
theorem NoO.bor {r : Root} {p : Path} {o l : Nat} : NoO (.bor r p o l) ↔ r.isO = false := by simp [NoO, SV.rts]
theorem NoO.loc {r : Root} {p : Path} {i o : Nat} : NoO (.loc r p i o) ↔ r.isO = false := by simp [NoO, SV.rts]
theorem rtss_any {f : Root → Bool} : ∀ (l : List SV), (SV.rtss l).any f = false ↔ ∀ v ∈ l, v.rts.any f = false
  | [] => by simp [SV.rtss]
  | v :: l => by simp only [SV.rtss, List.any_append, Bool.or_eq_false_iff, rtss_any l, List.forall_mem_cons]
theorem svs_map (x : Tr) (l : List SV) : Tr.svs x l = l.map x.sv := by induction l with | nil => rfl | cons a r ih => simp [Tr.svs, ih]
mutual
theorem Tr.noO (x : Tr) : ∀ (v : SV), NoO v → NoO (x.sv v)
  | .d y, h => by cases x <;> exact h
  | .bor r p o l, h => by
    rw [NoO.bor] at h
    cases x <;> simp only [Tr.sv] <;> (repeat' split) <;> first | (simp [NoO, SV.rts, Root.isO]; done) | (rw [NoO.bor]; exact h)
  | .loc r p i o, h => by
    rw [NoO.loc] at h
    cases x <;> simp only [Tr.sv] <;> (repeat' split) <;> first | (simp [NoO, SV.rts, Root.isO]; done) | (rw [NoO.loc]; exact h) | simp_all
  | .rp _ _, h => by cases x <;> exact h
  | .clip _ _, h => by cases x <;> exact h
  | .dead, h => by cases x <;> exact h
  | .agg l, h => by
    have : x.sv (.agg l) = .agg (Tr.svs x l) := by cases x <;> rfl
    rw [this]; exact Tr.noOs x l h
  | .tup l, h => by
    have : x.sv (.tup l) = .tup (Tr.svs x l) := by cases x <;> rfl
    rw [this]; exact Tr.noOs x l h
theorem Tr.noOs (x : Tr) : ∀ (l : List SV), (SV.rtss l).any Root.isO = false → (SV.rtss (Tr.svs x l)).any Root.isO = false
  | [], h => h
  | v :: l, h => by
    simp only [SV.rtss, Tr.svs, List.any_append, Bool.or_eq_false_iff] at h ⊢
    exact ⟨Tr.noO x v h.1, Tr.noOs x l h.2⟩
end
theorem trv_noO : ∀ (a : List Tr) (v : SV), NoO v → NoO (trv a v)
  | [], _, h => h
  | x :: a, v, h => trv_noO a _ (Tr.noO x v h)

theorem absorb1_grown {nv : Nat} {v : SV} {k k' : Wk} {t : T} (e : absorb1 nv v k = some (t, k')) : Grown (NoO v) k k' := by
  cases v with
  | d x => simp only [absorb1, Option.some.injEq, Prod.mk.injEq] at e; rw [← e.2]; exact .refl _ _
  | clip b l => simp only [absorb1, Option.some.injEq, Prod.mk.injEq] at e; rw [← e.2]; exact .refl _ _
  | bor r p off len =>
    simp only [absorb1, Option.bind_eq_some_iff] at e
    obtain ⟨c, _, nd, _, e⟩ := e
    split at e
    · split at e
      · split at e
        · simp only [Option.map_eq_some_iff, Prod.mk.injEq] at e
          obtain ⟨k1, h1, _, rfl⟩ := e
          exact ((Grown.set h1).tell _).imp NoO.bor.1
        · simp only [Option.bind_eq_some_iff, Option.map_eq_some_iff, Prod.mk.injEq] at e
          obtain ⟨_, _, k1, h1, _, rfl⟩ := e
          exact ((Grown.set h1).tell _).imp NoO.bor.1
      · simp only [Option.bind_eq_some_iff, Option.map_eq_some_iff, Prod.mk.injEq] at e
        obtain ⟨_, _, _, _, k1, h1, _, rfl⟩ := e
        exact ((Grown.set h1).tell _).imp NoO.bor.1
    · cases e
  | _ => simp [absorb1] at e
theorem absorbs_grown {nv : Nat} : ∀ (l : List SV) {k k' : Wk} {ts : List T}, absorbs nv l k = some (ts, k') → Grown (∀ v ∈ l, NoO v) k k'
  | [], k, k', ts, e => by simp only [absorbs, Option.some.injEq, Prod.mk.injEq] at e; rw [← e.2]; exact .refl _ _
  | v :: l, k, k', ts, e => by
    simp only [absorbs, Option.bind_eq_some_iff, Option.map_eq_some_iff, Prod.mk.injEq] at e
    obtain ⟨⟨t, k1⟩, e1, ⟨ts', k2⟩, e2, _, rfl⟩ := e
    exact ((absorb1_grown e1).imp fun h => trv_noO _ _ (h v (by simp))).trans ((absorbs_grown l e2).imp fun h u hu => h u (by simp [hu]))
theorem absorb_grown {nv : Nat} {v : SV} {k k' : Wk} {t : T} (e : absorb nv v k = some (t, k')) : Grown (NoO v) k k' := by
  by_cases hv : ∃ l, v = .agg l
  · obtain ⟨l, rfl⟩ := hv
    simp only [absorb, Option.map_eq_some_iff, Prod.mk.injEq] at e
    obtain ⟨⟨ts, k1⟩, e1, _, rfl⟩ := e
    exact (absorbs_grown l e1).imp fun h => (rtss_any l).1 h
  · have e' : absorb1 nv (trv k.tr v) k = some (t, k') := by
      revert e hv
      cases v <;> intro e hv <;> first | exact e | exact absurd ⟨_, rfl⟩ hv
    exact (absorb1_grown e').imp (trv_noO _ _)
theorem absorbP_grown {nv : Nat} : ∀ (l : List (Nat × SV)) {k k' : Wk} {ts : List (Nat × T)}, absorbP nv l k = some (ts, k') → Grown (∀ v ∈ l, NoO v.2) k k'
  | [], k, k', ts, e => by simp only [absorbP, Option.some.injEq, Prod.mk.injEq] at e; rw [← e.2]; exact .refl _ _
  | (i, v) :: l, k, k', ts, e => by
    simp only [absorbP, Option.bind_eq_some_iff, Option.map_eq_some_iff, Prod.mk.injEq] at e
    obtain ⟨⟨t, k1⟩, e1, ⟨ts', k2⟩, e2, _, rfl⟩ := e
    exact ((absorb_grown e1).imp fun h => h (i, v) (by simp)).trans ((absorbP_grown l e2).imp fun h u hu => h u (by simp [hu]))
theorem absorbF_grown {nv : Nat} {v : SV} {k k' : Wk} {t : T} (e : absorbF nv v k = some (t, k')) : Grown (NoO v) k k' := by
  simp only [absorbF, Option.map_eq_some_iff, Prod.mk.injEq] at e
  obtain ⟨⟨t0, k0⟩, e, rfl, rfl⟩ := e
  exact absorb_grown e
theorem asLoc_noO {v : SV} (h : NoO v) : NoO (asLoc v) := by rw [NoO, asLoc_rts]; exact h

section
variable {P : Program} {h : Hint} {dst : Nat} {ty : TypeId}
theorem storeE_grown {nv : Nat} {t : TypeId} {a v : SV} {k k' : Wk} (e : storeE P nv t a v k = some k') : Grown (NoO a ∧ NoO v) k k' := by
  simp only [storeE, Option.bind_eq_some_iff] at e
  obtain ⟨⟨x, k1⟩, e1, e⟩ := e
  have g1 := (absorbF_grown e1).imp (c := NoO a ∧ NoO v) (·.2)
  simp only at e
  split at e
  · rename_i r p i off hl
    split at e
    · simp only [Option.bind_eq_some_iff] at e
      obtain ⟨c, _, nd, _, e⟩ := e
      split at e
      · simp only [Option.bind_eq_some_iff] at e
        obtain ⟨el, _, e⟩ := e
        split at e
        · simp only [Option.bind_eq_some_iff, Option.map_eq_some_iff] at e
          obtain ⟨c', _, k2, h2, rfl⟩ := e
          have hr : NoO a ∧ NoO v → r.isO = false := fun q => by
            have := asLoc_noO (trv_noO k1.tr a q.1)
            rw [hl] at this
            exact NoO.loc.1 this
          have g2 := g1.trans ((Grown.set h2).imp hr)
          split
          · exact g2.tell _
          · exact g2
        · cases e
      · cases e
    · cases e
  · cases e
theorem newsE_grown {nv : Nat} {v : SV} {k k' : Wk} {l : List T} (e : newsE nv v k = some (l, k')) : Grown True k k' := by
  cases v with
  | d x => cases x <;> simp only [newsE, Option.some.injEq, Prod.mk.injEq, reduceCtorEq] at e <;> (rw [← e.2]; exact .refl _ _)
  | clip b l => simp only [newsE, Option.some.injEq, Prod.mk.injEq] at e; rw [← e.2]; exact .refl _ _
  | bor r p off len =>
    simp only [newsE, Option.bind_eq_some_iff] at e
    obtain ⟨c, _, nd, _, e⟩ := e
    split at e
    · split at e
      · split at e
        · simp only [Option.map_eq_some_iff, Prod.mk.injEq] at e
          obtain ⟨k1, h1, _, rfl⟩ := e
          exact ((Grown.set h1).imp fun _ => rfl).tell _
        · split at e
          · simp only [Option.some.injEq, Prod.mk.injEq] at e; rw [← e.2]; exact .refl _ _
          · cases e
      · split at e
        · simp only [Option.some.injEq, Prod.mk.injEq] at e; rw [← e.2]; exact .refl _ _
        · cases e
    · cases e
  | _ => simp [newsE] at e
theorem appendE_grown {nv : Nat} {t : TypeId} {s x v : SV} {k k' : Wk} (e : appendE P nv dst t s x k = some (v, k')) : Grown (NoO s) k k' := by
  simp only [appendE, oldsE, Option.bind_eq_some_iff] at e
  obtain ⟨ety, _, z, _, ⟨news, k1⟩, e1, e⟩ := e
  have g1 := (newsE_grown e1).imp (c := NoO s) fun _ => trivial
  split at e
  · simp only [Option.bind_eq_some_iff] at e
    obtain ⟨⟨olds, k2⟩, e2, e⟩ := e
    have g2 : Grown (NoO s) k1 k2 := by
      split at e2
      · simp only [Option.some.injEq, Prod.mk.injEq] at e2; rw [← e2.2]; exact .refl _ _
      · simp only [Option.some.injEq, Prod.mk.injEq] at e2; rw [← e2.2]; exact .refl _ _
      · rename_i r p off len hs
        split at e2
        · simp only [Option.bind_eq_some_iff] at e2
          obtain ⟨c, _, nd, _, e2⟩ := e2
          split at e2
          · split at e2
            · simp only [Option.bind_eq_some_iff, Option.map_eq_some_iff, Prod.mk.injEq] at e2
              obtain ⟨c', _, k3, h3, _, rfl⟩ := e2
              refine ((Grown.set h3).imp fun q => ?_).tell _
              have := trv_noO k1.tr s q
              rw [hs] at this
              exact NoO.bor.1 this
            · cases e2
          · cases e2
        · cases e2
      · cases e2
    simp only at e
    split at e
    · simp only [Option.some.injEq, Prod.mk.injEq] at e
      rw [← e.2]
      exact (g1.trans g2).new _ _ _
    · cases e
  · cases e

/-- every operation but calls of functions -/
theorem opE_grown {op : Op} {σ : Operand → SV} {k k' : Wk} {v : SV} (e : opE P h dst ty op σ k = some (v, k')) : Grown (hOf h dst op = false ∧ ∀ x ∈ op.operands, NoO (σ x)) k k' := by
  unfold opE at e
  cases op <;> simp only at e
  case move x => simp only [Option.some.injEq, Prod.mk.injEq] at e; rw [← e.2]; exact .refl _ _
  case assign x =>
    unfold assignE at e
    split at e
    · split at e <;> simp only [Option.some.injEq, Prod.mk.injEq] at e <;> rw [← e.2]
      · exact (Grown.refl _ _).new _ _ _
      · exact .refl _ _
    · split at e
      · simp only [Option.some.injEq, Prod.mk.injEq] at e; rw [← e.2]; exact .refl _ _
      · simp only [Option.bind_eq_some_iff] at e
        obtain ⟨c, _, e⟩ := e
        split at e
        · split at e <;> simp only [Option.some.injEq, Prod.mk.injEq] at e <;> rw [← e.2]
          · refine (Grown.new ?_ _ _ _).tell _
            exact ⟨⟨[_], rfl⟩, fun _ => rfl⟩
          · exact .refl _ _
        · cases e
    · simp only [Option.some.injEq, Prod.mk.injEq] at e; rw [← e.2]; exact .refl _ _
  case pick c a b => split at e <;> simp only [Option.some.injEq, Prod.mk.injEq, reduceCtorEq] at e; rw [← e.2]; exact .refl _ _
  case alloc t =>
    simp only [Option.bind_eq_some_iff] at e
    obtain ⟨z, _, e⟩ := e
    unfold boxE at e
    split at e
    · cases e
    · split at e <;> simp only [Option.some.injEq, Prod.mk.injEq] at e <;> rw [← e.2]
      · rename_i hc; exact ⟨⟨[], rfl⟩, fun q => by simp [hOf, hc] at q; exact absurd hc (by simp [q.1])⟩
      · exact (Grown.refl _ _).new _ _ _
  case box t x =>
    simp only [Option.bind_eq_some_iff] at e
    obtain ⟨⟨y, k1⟩, e1, e⟩ := e
    have g1 := absorbF_grown e1
    simp only at e
    split at e
    · unfold boxE at e
      split at e
      · cases e
      · split at e <;> simp only [Option.some.injEq, Prod.mk.injEq] at e <;> rw [← e.2]
        · rename_i hc; exact ⟨g1.ct, fun q => by simp [hOf, hc] at q; exact absurd hc (by simp [q.1])⟩
        · exact (g1.imp fun q => q.2 x (by simp [Op.operands])).new _ _ _
    · cases e
  case build t ps => simp only [Option.map_eq_some_iff, Prod.mk.injEq] at e; obtain ⟨_, _, _, rfl⟩ := e; exact .refl _ _
  case buildSlice t n ps =>
    simp only [buildSliceE, Option.bind_eq_some_iff] at e
    obtain ⟨ety, _, z, _, ⟨p1, k1⟩, h3, e⟩ := e
    have g1 := (absorbP_grown _ h3).imp (c := hOf h dst (.buildSlice t n ps) = false ∧ ∀ x ∈ (Op.buildSlice t n ps).operands, NoO (σ x)) (fun q u hu => by
      simp only [List.mem_map] at hu
      obtain ⟨p, hp, rfl⟩ := hu
      exact q.2 p.2 (by simp only [Op.operands, List.mem_toArray, List.mem_map]; exact ⟨p, hp, rfl⟩))
    split at e
    · simp only [Option.bind_eq_some_iff] at e
      obtain ⟨es, _, e⟩ := e
      split at e
      · split at e
        · simp only [Option.map_eq_some_iff, Prod.mk.injEq] at e; obtain ⟨_, _, _, rfl⟩ := e; exact g1
        · cases e
      · simp only [Option.some.injEq, Prod.mk.injEq] at e; rw [← e.2]; exact g1.new _ _ _
    · cases e
  case load t a => simp only [Option.map_eq_some_iff, Prod.mk.injEq] at e; obtain ⟨_, _, _, rfl⟩ := e; exact .refl _ _
  case store t a x =>
    simp only [Option.map_eq_some_iff, Prod.mk.injEq] at e
    obtain ⟨k1, e1, _, rfl⟩ := e
    exact (storeE_grown e1).imp fun q => ⟨q.2 a (by simp [Op.operands]), q.2 x (by simp [Op.operands])⟩
  case nilCheck x => split at e <;> simp only [Option.some.injEq, Prod.mk.injEq, reduceCtorEq] at e <;> (rw [← e.2]; exact .refl _ _)
  case makeMap t r =>
    cases r with
    | none => simp only [Option.some.injEq, Prod.mk.injEq] at e; rw [← e.2]; exact ⟨⟨[], rfl⟩, fun q => by simp [hOf] at q⟩
    | some n =>
      simp only at e
      split at e
      · simp only [Option.some.injEq, Prod.mk.injEq] at e; rw [← e.2]; exact ⟨⟨[], rfl⟩, fun q => by simp [hOf] at q⟩
      · cases e
  case makeSlice t l c =>
    unfold makeE at e
    split at e
    · simp only [Option.bind_eq_some_iff] at e
      obtain ⟨_, _, _, _, e⟩ := e
      split at e
      · simp only [Option.some.injEq, Prod.mk.injEq] at e; rw [← e.2]; exact (Grown.refl _ _).new _ _ _
      · cases e
    · cases e
  case makeFunc f a c =>
    simp only [Option.bind_eq_some_iff, Option.map_eq_some_iff, Prod.mk.injEq] at e
    obtain ⟨_, _, _, _, _, rfl⟩ := e
    exact .refl _ _
  case extract x n =>
    split at e
    · simp only [Option.map_eq_some_iff, Prod.mk.injEq] at e; obtain ⟨_, _, _, rfl⟩ := e; exact .refl _ _
    · cases e
  case mapUpdate t m key x =>
    simp only [Option.map_eq_some_iff, Prod.mk.injEq] at e
    obtain ⟨k1, e1, _, rfl⟩ := e
    simp only [mapPutE, Option.bind_eq_some_iff] at e1
    obtain ⟨⟨kt, _⟩, _, e1⟩ := e1
    refine ⟨?_, fun q => by simp [hOf] at q⟩
    simp only at e1
    split at e1
    · split at e1
      · simp only [Option.bind_eq_some_iff] at e1
        obtain ⟨⟨y, k2⟩, e2, e1⟩ := e1
        simp only at e1
        split at e1
        · simp only [Option.map_eq_some_iff] at e1
          obtain ⟨_, _, rfl⟩ := e1
          exact (absorb_grown e2).ct
        · cases e1
      · cases e1
    · cases e1
  case call c =>
    obtain ⟨callee, args, ats⟩ := c
    cases callee with
    | builtin b =>
      cases b <;> simp only [reduceCtorEq] at e
      case len =>
        split at e
        · simp only [Option.map_eq_some_iff, Prod.mk.injEq] at e; obtain ⟨_, _, _, rfl⟩ := e; exact .refl _ _
        · cases e
      case min =>
        split at e
        · simp only [Option.map_eq_some_iff, Prod.mk.injEq] at e; obtain ⟨_, _, _, rfl⟩ := e; exact .refl _ _
        · cases e
      case max =>
        split at e
        · simp only [Option.map_eq_some_iff, Prod.mk.injEq] at e; obtain ⟨_, _, _, rfl⟩ := e; exact .refl _ _
        · cases e
      case append =>
        split at e
        · rename_i x y t u hx ht
          split at e
          · refine (appendE_grown e).imp fun q => q.2 x ?_
            have : x ∈ args := by rw [← Array.mem_toList_iff, hx]; simp
            simp [Op.operands, Call.operands, this]
          · cases e
        · cases e
    | _ => simp at e
  all_goals first | (cases e; done) | (simp only [Option.map_eq_some_iff, Prod.mk.injEq] at e; obtain ⟨_, _, _, rfl⟩ := e; exact .refl _ _)

/-! ### calls -/
theorem snap1_grown {nv : Nat} {v : SV} {k k' : Wk} {b b' : Lend} {x : D} (e : snap1 nv v k b = some (x, k', b')) : Grown True k k' := by
  cases v with
  | d x => simp only [snap1, Option.some.injEq, Prod.mk.injEq] at e; rw [← e.2.1]; exact .refl _ _
  | clip t l => simp only [snap1, Option.some.injEq, Prod.mk.injEq] at e; rw [← e.2.1]; exact .refl _ _
  | bor r p off len =>
    simp only [snap1, Option.bind_eq_some_iff] at e
    obtain ⟨c, _, nd, _, e⟩ := e
    split at e
    · split at e
      · split at e
        · simp only [Option.bind_eq_some_iff, Option.map_eq_some_iff, Prod.mk.injEq] at e
          obtain ⟨l, _, k1, h1, _, rfl, _⟩ := e
          exact ((Grown.set h1).imp fun _ => rfl).tell _
        · simp only [Option.map_eq_some_iff, Prod.mk.injEq] at e; obtain ⟨_, _, _, rfl, _⟩ := e; exact .refl _ _
      · simp only [Option.map_eq_some_iff, Prod.mk.injEq] at e; obtain ⟨_, _, _, rfl, _⟩ := e; exact .refl _ _
      · simp only [Option.map_eq_some_iff, Prod.mk.injEq] at e; obtain ⟨_, _, _, rfl, _⟩ := e; exact .refl _ _
    · cases e
  | _ => simp [snap1] at e
theorem snaps_grown {nv : Nat} : ∀ (l : List SV) {k k' : Wk} {b b' : Lend} {xs : List D}, snaps nv l k b = some (xs, k', b') → Grown True k k'
  | [], k, k', b, b', xs, e => by simp only [snaps, Option.some.injEq, Prod.mk.injEq] at e; rw [← e.2.1]; exact .refl _ _
  | v :: l, k, k', b, b', xs, e => by
    simp only [snaps, Option.bind_eq_some_iff, Option.map_eq_some_iff, Prod.mk.injEq] at e
    obtain ⟨⟨x, k1, b1⟩, e1, ⟨ys, k2, b2⟩, e2, _, rfl, _⟩ := e
    exact (snap1_grown e1).trans (snaps_grown l e2)
theorem snap_grown {nv : Nat} {v : SV} {k k' : Wk} {b b' : Lend} {x : D} (e : snap nv v k b = some (x, k', b')) : Grown True k k' := by
  by_cases hv : ∃ l, v = .agg l
  · obtain ⟨l, rfl⟩ := hv
    simp only [snap, Option.map_eq_some_iff, Prod.mk.injEq] at e
    obtain ⟨⟨xs, k1, b1⟩, e1, _, rfl, _⟩ := e
    exact snaps_grown l e1
  · have e' : snap1 nv (trv k.tr v) k b = some (x, k', b') := by
      revert e hv
      cases v <;> intro e hv <;> first | exact e | exact absurd ⟨_, rfl⟩ hv
    exact snap1_grown e'
theorem snapA_grown {nv : Nat} : ∀ (l : List SV) {k k' : Wk} {b b' : Lend} {xs : List D}, snapA nv l k b = some (xs, k', b') → Grown True k k'
  | [], k, k', b, b', xs, e => by simp only [snapA, Option.some.injEq, Prod.mk.injEq] at e; rw [← e.2.1]; exact .refl _ _
  | v :: l, k, k', b, b', xs, e => by
    simp only [snapA, Option.bind_eq_some_iff, Option.map_eq_some_iff, Prod.mk.injEq] at e
    obtain ⟨⟨x, k1, b1⟩, e1, ⟨ys, k2, b2⟩, e2, _, rfl, _⟩ := e
    exact (snap_grown e1).trans (snapA_grown l e2)
theorem resCell_grown {j j' : Nat} {t : T} {k k' : Wk} {v : SV} (e : resCell dst j t k = some (v, j', k')) : Grown True k k' := by
  cases t <;> simp only [resCell, Option.some.injEq, Prod.mk.injEq, reduceCtorEq] at e <;> rw [← e.2.2]
  · exact .refl _ _
  · exact (Grown.refl _ _).new _ _ _
theorem resCells_grown : ∀ (l : List T) {j j' : Nat} {k k' : Wk} {vs : List SV}, resCells dst j l k = some (vs, j', k') → Grown True k k'
  | [], j, j', k, k', vs, e => by simp only [resCells, Option.some.injEq, Prod.mk.injEq] at e; rw [← e.2.2]; exact .refl _ _
  | t :: l, j, j', k, k', vs, e => by
    simp only [resCells, Option.bind_eq_some_iff, Option.map_eq_some_iff, Prod.mk.injEq] at e
    obtain ⟨⟨v, j1, k1⟩, e1, ⟨ws, j2, k2⟩, e2, _, _, rfl⟩ := e
    exact (resCell_grown e1).trans (resCells_grown l e2)
theorem res1_grown {j j' : Nat} {t : T} {k k' : Wk} {v : SV} (e : res1 dst j t k = some (v, j', k')) : Grown True k k' := by
  cases t with
  | agg ts =>
    simp only [res1, Option.map_eq_some_iff, Prod.mk.injEq] at e
    obtain ⟨⟨vs, j1, k1⟩, e1, _, _, rfl⟩ := e
    exact resCells_grown ts e1
  | d x => exact resCell_grown (dst := dst) (t := .d x) e
  | own es => exact resCell_grown (dst := dst) (t := .own es) e
  | dead => simp [res1, resCell] at e
theorem resAll_grown : ∀ (l : List T) {j : Nat} {k k' : Wk} {vs : List SV}, resAll dst j l k = some (vs, k') → Grown True k k'
  | [], j, k, k', vs, e => by simp only [resAll, Option.some.injEq, Prod.mk.injEq] at e; rw [← e.2]; exact .refl _ _
  | t :: l, j, k, k', vs, e => by
    simp only [resAll, Option.bind_eq_some_iff, Option.map_eq_some_iff, Prod.mk.injEq] at e
    obtain ⟨⟨v, j1, k1⟩, e1, ⟨ws, k2⟩, e2, _, rfl⟩ := e
    exact (res1_grown e1).trans (resAll_grown l e2)
theorem resE_grown {rs : List T} {k k' : Wk} {v : SV} (e : resE dst rs k = some (v, k')) : Grown True k k' := by
  simp only [resE, Option.map_eq_some_iff, Prod.mk.injEq] at e
  obtain ⟨⟨vs, k1⟩, e1, _, rfl⟩ := e
  exact resAll_grown rs e1
theorem callE_grown {call : CallF} {f : FuncId} {ds : List D} {b : Lend} {k k' : Wk} {v : SV} (e : callE call h dst f ds b k = some (v, k')) : Grown (h.keep.contains dst = true) k k' := by
  unfold callE at e
  split at e
  · simp only [Option.bind_eq_some_iff] at e
    obtain ⟨⟨rs, H2⟩, _, e⟩ := e
    simp only at e
    split at e
    · exact (resE_grown e).imp fun _ => trivial
    · cases e
  · rename_i hk
    simp only [Option.bind_eq_some_iff] at e
    obtain ⟨⟨rs, H2⟩, _, e⟩ := e
    simp only at e
    split at e
    · exact ⟨(resE_grown e).ct, fun q => absurd q hk⟩
    · cases e
theorem stepE_grown {call : CallF} {op : Op} {σ : Operand → SV} {k k' : Wk} {v : SV} (e : stepE P call h dst ty op σ k = some (v, k')) : Grown (hOf h dst op = false ∧ ∀ x ∈ op.operands, NoO (σ x)) k k' := by
  unfold stepE at e
  split at e
  · rename_i f args ats
    split at e
    · simp only [Option.bind_eq_some_iff] at e
      obtain ⟨⟨ds, k1, b⟩, e1, e2⟩ := e
      refine ((snapA_grown _ e1).imp fun _ => trivial).trans ((callE_grown e2).imp fun q => ?_)
      simpa [hOf] using q.1
    · cases e
  · exact opE_grown e
end
end Go.Am
/- The abstract machine: an operation leans on the roots of its operands alone: on contents that agree there it does the same. Data alone. -/
namespace Go.Am
open Go
set_option linter.unusedSimpArgs false
set_option linter.unusedVariables false

/-- contents that agree outside Z; the shared objects too, if b -/
structure Sm (Z : Root → Prop) (b : Bool) (k k' : Wk) : Prop where
  get : ∀ r, ¬ Z r → k'.get r = k.get r
  H : b = true → k'.H = k.H
  tr : k'.tr = k.tr
  nr : k.tr.any Tr.isRen = false
  obj : b = false → ∀ n, Z (.o n)
/-- the same was laid on both -/
structure Par (b : Bool) (k k' k1 k1' : Wk) : Prop where
  ct : ∃ pre, k1.ct = pre ++ k.ct ∧ k1'.ct = pre ++ k'.ct
  H : b = true → k1'.H = k1.H
  Hs : b = false → k1.H = k.H ∧ k1'.H = k'.H
  tr : k1'.tr = k1.tr

section
variable {Z : Root → Prop} {b : Bool} {k k' k1 k1' k2 k2' : Wk}
theorem Par.refl (s : Sm Z b k k') : Par b k k' k k' := ⟨⟨[], rfl, rfl⟩, s.H, fun _ => ⟨rfl, rfl⟩, s.tr⟩
theorem Par.trans (x : Par b k k' k1 k1') (y : Par b k1 k1' k2 k2') : Par b k k' k2 k2' := by
  obtain ⟨p, h1, h2⟩ := x.ct
  obtain ⟨q, h3, h4⟩ := y.ct
  exact ⟨⟨q ++ p, by rw [h3, h1, List.append_assoc], by rw [h4, h2, List.append_assoc]⟩, y.H, fun h => ⟨(y.Hs h).1.trans (x.Hs h).1, (y.Hs h).2.trans (x.Hs h).2⟩, y.tr⟩
theorem lookR_app (p l : List ((Nat × Nat) × T)) (x : Nat × Nat) : lookR (p ++ l) x = (lookR p x).or (lookR l x) := by
  induction p with
  | nil => simp [lookR]
  | cons a p ih => obtain ⟨y, t⟩ := a; simp only [List.cons_append, lookR]; split <;> simp [ih]
theorem Sm.next (s : Sm Z b k k') (p : Par b k k' k1 k1') (hn : k1.tr.any Tr.isRen = false) : Sm Z b k1 k1' := by
  obtain ⟨pre, h1, h2⟩ := p.ct
  refine ⟨fun r hr => ?_, p.H, p.tr, hn, s.obj⟩
  cases r with
  | l n j =>
    have := s.get _ hr
    simp only [Wk.get, Go.Am.cont] at this ⊢
    rw [h1, h2, lookR_app, lookR_app, this]
  | o n =>
    cases b with
    | true => simp only [Wk.get, Go.Am.cont, p.H rfl]
    | false => exact absurd (s.obj rfl n) hr
theorem Par.tell (p : Par b k k' k1 k1') (x : Tr) : Par b k k' (k1.tell x) (k1'.tell x) := ⟨p.ct, p.H, p.Hs, by simp [Wk.tell, p.tr]⟩
theorem Par.new (p : Par b k k' k1 k1') (n j : Nat) (t : T) : Par b k k' (k1.new n j t) (k1'.new n j t) := by
  obtain ⟨pre, h1, h2⟩ := p.ct
  exact ⟨⟨((n, j), t) :: pre, by simp [Wk.new, h1], by simp [Wk.new, h2]⟩, p.H, p.Hs, by simp [Wk.new, p.tr]⟩
theorem set_sim (s : Sm Z b k k') {r : Root} (hr : ¬ Z r) {t : T} (e : k.set r t = some k1) : ∃ k1', k'.set r t = some k1' ∧ Par b k k' k1 k1' ∧ k1.tr = k.tr := by
  cases r with
  | l n j =>
    simp only [Wk.set, Option.some.injEq] at e
    subst e
    exact ⟨_, rfl, ⟨⟨[((n, j), t)], rfl, rfl⟩, s.H, fun _ => ⟨rfl, rfl⟩, s.tr⟩, rfl⟩
  | o n =>
    cases b with
    | false => exact absurd (s.obj rfl n) hr
    | true =>
      simp only [Wk.set] at e ⊢
      split at e
      · simp only [Option.some.injEq] at e
        subst e
        exact ⟨_, rfl, ⟨⟨[], rfl, rfl⟩, fun _ => by simp [s.H rfl], by simp, s.tr⟩, rfl⟩
      · cases e

/-! ### roots of values behind what is told -/
mutual
theorem Tr.rts_le (x : Tr) (hx : x.isRen = false) : ∀ (v : SV), ∀ r ∈ (x.sv v).rts, r ∈ v.rts
  | .d y, r, hr => by cases x <;> exact hr
  | .rp _ _, r, hr => by cases x <;> exact hr
  | .clip _ _, r, hr => by cases x <;> exact hr
  | .dead, r, hr => by cases x <;> exact hr
  | .bor q p o m, r, hr => by
    cases x with
    | ren a b => simp [Tr.isRen] at hx
    | _ => simp only [Tr.sv] at hr; (repeat' split at hr) <;> simp [SV.rts] at hr ⊢ <;> exact hr
  | .loc q p i o, r, hr => by
    cases x with
    | ren a b => simp [Tr.isRen] at hx
    | _ => simp only [Tr.sv] at hr; (repeat' split at hr) <;> simp [SV.rts] at hr ⊢ <;> exact hr
  | .agg l, r, hr => by
    have e : x.sv (.agg l) = .agg (Tr.svs x l) := by cases x <;> rfl
    rw [e] at hr
    exact Tr.rtss_le x hx l r hr
  | .tup l, r, hr => by
    have e : x.sv (.tup l) = .tup (Tr.svs x l) := by cases x <;> rfl
    rw [e] at hr
    exact Tr.rtss_le x hx l r hr
theorem Tr.rtss_le (x : Tr) (hx : x.isRen = false) : ∀ (l : List SV), ∀ r ∈ SV.rtss (Tr.svs x l), r ∈ SV.rtss l
  | [], r, hr => hr
  | v :: l, r, hr => by
    simp only [Tr.svs, SV.rtss, List.mem_append] at hr ⊢
    rcases hr with hr | hr
    · exact .inl (Tr.rts_le x hx v r hr)
    · exact .inr (Tr.rtss_le x hx l r hr)
end
theorem trv_rts_le : ∀ (a : List Tr), a.any Tr.isRen = false → ∀ (v : SV), ∀ r ∈ (trv a v).rts, r ∈ v.rts
  | [], _, _, _, hr => hr
  | x :: a, h, v, r, hr => by
    simp only [List.any_cons, Bool.or_eq_false_iff] at h
    exact Tr.rts_le x h.1 v r (trv_rts_le a h.2 _ r hr)
/-- the value leans on nothing in Z -/
abbrev Off (Z : Root → Prop) (v : SV) : Prop := ∀ r ∈ v.rts, ¬ Z r
theorem Off.trv {v : SV} (h : Off Z v) {a : List Tr} (ha : a.any Tr.isRen = false) : Off Z (trv a v) := fun r hr => h r (trv_rts_le a ha v r hr)
theorem Off.bor {r : Root} {p : Path} {o l : Nat} (h : Off Z (.bor r p o l)) : ¬ Z r := h r (by simp [SV.rts])
theorem Off.loc {r : Root} {p : Path} {i o : Nat} (h : Off Z (.loc r p i o)) : ¬ Z r := h r (by simp [SV.rts])
theorem Off.asLoc {v : SV} (h : Off Z v) : Off Z (asLoc v) := by unfold Off; rw [asLoc_rts]; exact h
theorem Off.mem {l : List SV} (h : Off Z (.agg l)) {v : SV} (hv : v ∈ l) : Off Z v := fun r hr => h r (by
  show r ∈ SV.rtss l
  induction l with
  | nil => cases hv
  | cons a l ih =>
    simp only [SV.rtss, List.mem_append]
    rcases List.mem_cons.1 hv with rfl | hv
    · exact .inl hr
    · exact .inr (ih (fun r hr => h r (by show r ∈ SV.rtss (a :: l); simp only [SV.rtss, List.mem_append]; exact .inr hr)) hv))

/-- what one step gives -/
def Step1 (Z : Root → Prop) (b : Bool) (k k' k1 k1' : Wk) : Prop := Par b k k' k1 k1' ∧ k1.tr.any Tr.isRen = false
theorem Step1.refl (s : Sm Z b k k') : Step1 Z b k k' k k' := ⟨Par.refl s, s.nr⟩
theorem Step1.trans (x : Step1 Z b k k' k1 k1') (y : Step1 Z b k1 k1' k2 k2') : Step1 Z b k k' k2 k2' := ⟨x.1.trans y.1, y.2⟩
theorem Sm.step (s : Sm Z b k k') (x : Step1 Z b k k' k1 k1') : Sm Z b k1 k1' := s.next x.1 x.2
theorem Step1.tell (x : Step1 Z b k k' k1 k1') {t : Tr} (ht : t.isRen = false) : Step1 Z b k k' (k1.tell t) (k1'.tell t) := ⟨x.1.tell t, by simp [Wk.tell, x.2, ht]⟩
theorem Step1.new (x : Step1 Z b k k' k1 k1') (n j : Nat) (t : T) : Step1 Z b k k' (k1.new n j t) (k1'.new n j t) := ⟨x.1.new n j t, by simp [Wk.new, x.2, Tr.isRen]⟩
theorem setS (s : Sm Z b k k') {r : Root} (hr : ¬ Z r) {t : T} (e : k.set r t = some k1) : ∃ k1', k'.set r t = some k1' ∧ Step1 Z b k k' k1 k1' := by
  obtain ⟨k1', h1, h2, h3⟩ := set_sim s hr e
  exact ⟨k1', h1, h2, by rw [h3]; exact s.nr⟩

theorem absorb1_sim (s : Sm Z b k k') {nv : Nat} {v : SV} {t : T} (ho : Off Z v) (e : absorb1 nv v k = some (t, k1)) : ∃ k1', absorb1 nv v k' = some (t, k1') ∧ Step1 Z b k k' k1 k1' := by
  cases v with
  | d x => simp only [absorb1, Option.some.injEq, Prod.mk.injEq] at e ⊢; obtain ⟨rfl, rfl⟩ := e; exact ⟨k', ⟨rfl, rfl⟩, .refl s⟩
  | clip c l => simp only [absorb1, Option.some.injEq, Prod.mk.injEq] at e ⊢; obtain ⟨rfl, rfl⟩ := e; exact ⟨k', ⟨rfl, rfl⟩, .refl s⟩
  | bor r p off len =>
    simp only [absorb1, s.get r ho.bor, Option.bind_eq_some_iff] at e ⊢
    obtain ⟨c, hc, nd, hnd, e⟩ := e
    split at e
    · rename_i es
      split at e
      · split at e
        · rename_i n j hcond
          simp only [Option.map_eq_some_iff, Prod.mk.injEq] at e
          obtain ⟨k2, h1, rfl, rfl⟩ := e
          obtain ⟨k2', h2, h3⟩ := setS s ho.bor h1
          exact ⟨_, ⟨c, hc, _, hnd, by simp only; rw [if_pos hcond, h2]; rfl⟩, h3.tell rfl⟩
        · rename_i n j hcond
          simp only [Option.bind_eq_some_iff, Option.map_eq_some_iff, Prod.mk.injEq] at e
          obtain ⟨l, hl, k2, h1, rfl, rfl⟩ := e
          obtain ⟨k2', h2, h3⟩ := setS s ho.bor h1
          exact ⟨_, ⟨c, hc, _, hnd, by simp only; rw [if_neg hcond, hl]; simp only [Option.bind_some, h2, Option.map_some]⟩, h3.tell rfl⟩
      · rename_i r0 p0 hne
        simp only [Option.bind_eq_some_iff, Option.map_eq_some_iff, Prod.mk.injEq] at e
        obtain ⟨l, hl, c', hc', k2, h1, rfl, rfl⟩ := e
        obtain ⟨k2', h2, h3⟩ := setS s ho.bor h1
        refine ⟨_, ⟨c, hc, _, hnd, ?_⟩, h3.tell rfl⟩
        simp only [hl, Option.bind_some, hc', h2, Option.map_some]
    · cases e
  | _ => simp [absorb1] at e
theorem absorbs_sim {nv : Nat} : ∀ (l : List SV) {k k' k1 : Wk} {ts : List T}, Sm Z b k k' → (∀ v ∈ l, Off Z v) → absorbs nv l k = some (ts, k1) → ∃ k1', absorbs nv l k' = some (ts, k1') ∧ Step1 Z b k k' k1 k1'
  | [], k, k', k1, ts, s, _, e => by simp only [absorbs, Option.some.injEq, Prod.mk.injEq] at e ⊢; obtain ⟨rfl, rfl⟩ := e; exact ⟨k', ⟨rfl, rfl⟩, .refl s⟩
  | v :: l, k, k', k1, ts, s, ho, e => by
    simp only [absorbs, Option.bind_eq_some_iff, Option.map_eq_some_iff, Prod.mk.injEq] at e
    obtain ⟨⟨t, k2⟩, e1, ⟨ts', k3⟩, e2, rfl, rfl⟩ := e
    obtain ⟨k2', h1, h2⟩ := absorb1_sim s ((ho v (by simp)).trv s.nr) e1
    obtain ⟨k3', h3, h4⟩ := absorbs_sim l (s.step h2) (fun u hu => ho u (by simp [hu])) e2
    exact ⟨k3', by simp only [absorbs, s.tr, h1, Option.bind_some, h3, Option.map_some], h2.trans h4⟩
theorem absorb_sim (s : Sm Z b k k') {nv : Nat} {v : SV} {t : T} (ho : Off Z v) (e : absorb nv v k = some (t, k1)) : ∃ k1', absorb nv v k' = some (t, k1') ∧ Step1 Z b k k' k1 k1' := by
  by_cases hv : ∃ l, v = .agg l
  · obtain ⟨l, rfl⟩ := hv
    simp only [absorb, Option.map_eq_some_iff, Prod.mk.injEq] at e
    obtain ⟨⟨ts, k2⟩, e1, rfl, rfl⟩ := e
    obtain ⟨k2', h1, h2⟩ := absorbs_sim l s (fun v hv => ho.mem hv) e1
    exact ⟨k2', by simp only [absorb, h1, Option.map_some], h2⟩
  · have eq : ∀ k : Wk, absorb nv v k = absorb1 nv (trv k.tr v) k := fun k => by
      cases v <;> first | rfl | exact absurd ⟨_, rfl⟩ hv
    rw [eq] at e
    rw [eq, s.tr]
    exact absorb1_sim s (ho.trv s.nr) e
theorem absorbP_sim {nv : Nat} : ∀ (l : List (Nat × SV)) {k k' k1 : Wk} {ts : List (Nat × T)}, Sm Z b k k' → (∀ v ∈ l, Off Z v.2) → absorbP nv l k = some (ts, k1) → ∃ k1', absorbP nv l k' = some (ts, k1') ∧ Step1 Z b k k' k1 k1'
  | [], k, k', k1, ts, s, _, e => by simp only [absorbP, Option.some.injEq, Prod.mk.injEq] at e ⊢; obtain ⟨rfl, rfl⟩ := e; exact ⟨k', ⟨rfl, rfl⟩, .refl s⟩
  | (i, v) :: l, k, k', k1, ts, s, ho, e => by
    simp only [absorbP, Option.bind_eq_some_iff, Option.map_eq_some_iff, Prod.mk.injEq] at e
    obtain ⟨⟨t, k2⟩, e1, ⟨ts', k3⟩, e2, rfl, rfl⟩ := e
    obtain ⟨k2', h1, h2⟩ := absorb_sim s (ho (i, v) (by simp)) e1
    obtain ⟨k3', h3, h4⟩ := absorbP_sim l (s.step h2) (fun u hu => ho u (by simp [hu])) e2
    exact ⟨k3', by simp only [absorbP, h1, Option.bind_some, h3, Option.map_some], h2.trans h4⟩

variable {P : Program} {h : Hint} {dst : Nat} {ty : TypeId}
theorem absorbF_sim (s : Sm Z b k k') {nv : Nat} {v : SV} {t : T} (ho : Off Z v) (e : absorbF nv v k = some (t, k1)) : ∃ k1', absorbF nv v k' = some (t, k1') ∧ Step1 Z b k k' k1 k1' := by
  simp only [absorbF, Option.map_eq_some_iff, Prod.mk.injEq] at e
  obtain ⟨⟨t0, k0⟩, e, rfl, rfl⟩ := e
  obtain ⟨k1', h1, h2⟩ := absorb_sim s ho e
  exact ⟨k1', by simp only [absorbF, h1, Option.map_some], h2⟩
theorem storeE_sim (s : Sm Z b k k') {nv : Nat} {t : TypeId} {a v : SV} (ha : Off Z a) (hv : Off Z v) (e : storeE P nv t a v k = some k1) : ∃ k1', storeE P nv t a v k' = some k1' ∧ Step1 Z b k k' k1 k1' := by
  simp only [storeE, Option.bind_eq_some_iff] at e
  obtain ⟨⟨x, k2⟩, e1, e⟩ := e
  obtain ⟨k2', h1, h2⟩ := absorbF_sim s hv e1
  have s2 := s.step h2
  simp only at e
  split at e
  · rename_i r p i off hl
    have hr : ¬ Z r := by
      have := (ha.trv s2.nr).asLoc
      rw [hl] at this
      exact this.loc
    split at e
    · rename_i hc
      simp only [Option.bind_eq_some_iff] at e
      obtain ⟨c, q1, nd, q2, e⟩ := e
      split at e
      · rename_i es
        simp only [Option.bind_eq_some_iff] at e
        obtain ⟨el, q3, e⟩ := e
        split at e
        · rename_i hlt
          simp only [Option.bind_eq_some_iff, Option.map_eq_some_iff] at e
          obtain ⟨c', q4, k3, q5, rfl⟩ := e
          obtain ⟨k3', h3, h4⟩ := setS s2 hr q5
          refine ⟨if isOwn el then k3'.tell (.killN r (p.length + 1)) else k3', ?_, ?_⟩
          · simp only [storeE, h1, Option.bind_some, s2.tr, hl]
            rw [if_pos hc, s2.get r hr, q1]
            simp only [Option.bind_some, q2, q3]
            rw [if_pos hlt, q4]
            simp only [Option.bind_some, h3, Option.map_some]
          · split
            · exact h2.trans (h4.tell rfl)
            · exact h2.trans h4
        · cases e
      · cases e
    · cases e
  · cases e
theorem newsE_sim (s : Sm Z b k k') {nv : Nat} {v : SV} {l : List T} (ho : Off Z v) (e : newsE nv v k = some (l, k1)) : ∃ k1', newsE nv v k' = some (l, k1') ∧ Step1 Z b k k' k1 k1' := by
  cases v with
  | d x => cases x <;> simp only [newsE, Option.some.injEq, Prod.mk.injEq, reduceCtorEq] at e ⊢ <;> (obtain ⟨rfl, rfl⟩ := e; exact ⟨k', ⟨rfl, rfl⟩, .refl s⟩)
  | clip c l => simp only [newsE, Option.some.injEq, Prod.mk.injEq] at e ⊢; obtain ⟨rfl, rfl⟩ := e; exact ⟨k', ⟨rfl, rfl⟩, .refl s⟩
  | bor r p off len =>
    simp only [newsE, s.get r ho.bor, Option.bind_eq_some_iff] at e ⊢
    obtain ⟨c, hc, nd, hnd, e⟩ := e
    split at e
    · split at e
      · rename_i es n j
        split at e
        · rename_i hcond
          simp only [Option.map_eq_some_iff, Prod.mk.injEq] at e
          obtain ⟨k2, h1, rfl, rfl⟩ := e
          obtain ⟨k2', h2, h3⟩ := setS s ho.bor h1
          exact ⟨_, ⟨c, hc, _, hnd, by simp only; rw [if_pos hcond, h2]; rfl⟩, h3.tell rfl⟩
        · rename_i hcond
          split at e
          · rename_i hp
            simp only [Option.some.injEq, Prod.mk.injEq] at e
            obtain ⟨rfl, rfl⟩ := e
            exact ⟨k', ⟨c, hc, _, hnd, by simp only; rw [if_neg hcond, if_pos hp]⟩, .refl s⟩
          · cases e
      · split at e
        · rename_i hp
          simp only [Option.some.injEq, Prod.mk.injEq] at e
          obtain ⟨rfl, rfl⟩ := e
          exact ⟨k', ⟨c, hc, _, hnd, by simp only; rw [if_pos hp]⟩, .refl s⟩
        · cases e
    · cases e
  | _ => simp [newsE] at e
theorem oldsE_sim (s : Sm Z b k k') {n : Nat} {news olds : List T} {v : SV} (ho : Off Z v) (e : oldsE n news v k = some (olds, k1)) : ∃ k1', oldsE n news v k' = some (olds, k1') ∧ Step1 Z b k k' k1 k1' := by
  unfold oldsE at e
  split at e
  · simp only [Option.some.injEq, Prod.mk.injEq] at e; obtain ⟨rfl, rfl⟩ := e; exact ⟨k', rfl, .refl s⟩
  · simp only [Option.some.injEq, Prod.mk.injEq] at e; obtain ⟨rfl, rfl⟩ := e; exact ⟨k', rfl, .refl s⟩
  · rename_i r p off len
    split at e
    · rename_i h0
      simp only [Option.bind_eq_some_iff] at e
      obtain ⟨c, q1, nd, q2, e⟩ := e
      split at e
      · split at e
        · rename_i hc2
          simp only [Option.bind_eq_some_iff, Option.map_eq_some_iff, Prod.mk.injEq] at e
          obtain ⟨c', q3, k4, q4, rfl, rfl⟩ := e
          obtain ⟨k4', h3, h4⟩ := setS s ho.bor q4
          refine ⟨_, ?_, h4.tell rfl⟩
          unfold oldsE
          simp only
          rw [if_pos h0, s.get r ho.bor, q1]
          simp only [Option.bind_some, q2]
          rw [if_pos hc2, q3]
          simp only [Option.bind_some, h3, Option.map_some]
        · cases e
      · cases e
    · cases e
  · cases e
theorem appendE_sim (s : Sm Z b k k') {nv : Nat} {t : TypeId} {x y v : SV} (hx : Off Z x) (hy : Off Z y) (e : appendE P nv dst t x y k = some (v, k1)) : ∃ k1', appendE P nv dst t x y k' = some (v, k1') ∧ Step1 Z b k k' k1 k1' := by
  simp only [appendE, Option.bind_eq_some_iff] at e
  obtain ⟨ety, u1, z, u2, ⟨news, k2⟩, e1, e⟩ := e
  obtain ⟨k2', h1, h2⟩ := newsE_sim s hy e1
  have s2 := s.step h2
  split at e
  · rename_i hcond
    simp only [Option.bind_eq_some_iff] at e
    obtain ⟨⟨olds, k3⟩, e2, e⟩ := e
    obtain ⟨k3', h3, h4⟩ := oldsE_sim s2 (hx.trv s2.nr) e2
    simp only at e
    split at e
    · rename_i hr
      simp only [Option.some.injEq, Prod.mk.injEq] at e
      obtain ⟨rfl, rfl⟩ := e
      refine ⟨k3'.new dst 0 (.own (olds ++ news)), ?_, (h2.trans h4).new _ _ _⟩
      simp only [appendE, u1, u2, Option.bind_some, h1]
      rw [if_pos hcond, s2.tr, h3]
      simp only [Option.bind_some]
      rw [if_pos hr]
    · cases e
  · cases e

theorem assignE_sim (s : Sm Z b k k') {sl : Bool} {u v : SV} (ho : Off Z u) (e : assignE dst sl u k = some (v, k1)) : ∃ k1', assignE dst sl u k' = some (v, k1') ∧ Par b k k' k1 k1' := by
  have plain : (∀ k : Wk, assignE dst sl u k = some (u, k)) → ∃ k1', assignE dst sl u k' = some (v, k1') ∧ Par b k k' k1 k1' := fun hp => by
    rw [hp] at e ⊢
    simp only [Option.some.injEq, Prod.mk.injEq] at e
    obtain ⟨rfl, rfl⟩ := e
    exact ⟨k', rfl, Par.refl s⟩
  cases u with
  | d x =>
    cases x with
    | nils =>
      simp only [assignE] at e ⊢
      split at e <;> simp only [Option.some.injEq, Prod.mk.injEq] at e <;> obtain ⟨rfl, rfl⟩ := e
      · rename_i hs; exact ⟨_, by rw [if_pos hs], (Par.refl s).new _ _ _⟩
      · rename_i hs; exact ⟨_, by rw [if_neg hs], Par.refl s⟩
    | _ => exact plain fun _ => rfl
  | bor r p off len =>
    cases r with
    | o n => exact plain fun _ => rfl
    | l n j =>
      cases p with
      | cons _ _ => exact plain fun _ => rfl
      | nil =>
        cases off with
        | succ _ => exact plain fun _ => rfl
        | zero =>
          simp only [assignE] at e ⊢
          split at e
          · rename_i hc
            simp only [Option.some.injEq, Prod.mk.injEq] at e
            obtain ⟨rfl, rfl⟩ := e
            exact ⟨_, by rw [if_pos hc], Par.refl s⟩
          · rename_i hc
            simp only [Option.bind_eq_some_iff] at e
            obtain ⟨c, hg, e⟩ := e
            rw [if_neg hc, s.get _ ho.bor, hg]
            simp only [Option.bind_some]
            split at e
            · split at e <;> simp only [Option.some.injEq, Prod.mk.injEq] at e <;> obtain ⟨rfl, rfl⟩ := e
              · rename_i es hl
                exact ⟨_, if_pos hl, ⟨⟨[((dst, 0), .own es), ((n, j), .dead)], rfl, rfl⟩, s.H, fun _ => ⟨rfl, rfl⟩, by simp [Wk.tell, Wk.new, s.tr]⟩⟩
              · rename_i hl; exact ⟨_, if_neg hl, Par.refl s⟩
            · cases e
  | _ => exact plain fun _ => rfl
theorem opE_sim (s : Sm Z b k k') {op : Op} {σ : Operand → SV} {v : SV} (hh : b = false → hrOf h dst op = false) (ho : ∀ x ∈ op.operands, Off Z (σ x)) (e : opE P h dst ty op σ k = some (v, k1)) : ∃ k1', opE P h dst ty op σ k' = some (v, k1') ∧ Par b k k' k1 k1' := by
  have pt : b = true ∨ ∀ n, Z (.o n) := by cases b with | true => exact .inl rfl | false => exact .inr (s.obj rfl)
  -- what lies in a map, of an operand
  have mapAt : ∀ {x : Operand} {o : Nat}, x ∈ op.operands → σ x = .d (.map o) → b = true := fun {x o} hx hm => by
    rcases pt with q | q
    · exact q
    · exact absurd (q o) (ho x hx _ (by rw [hm]; simp [SV.rts]))
  by_cases hef : effOf h dst op = false ∧ ∀ c, op = .call c → ∃ b, c.callee = .builtin b
  · obtain ⟨rfl, hr⟩ := opE_read hef.2 hef.1 e
    refine ⟨k', hr k' (fun _ x hx r hrr => s.get r (ho x hx r hrr)) (fun _ => ?_), Par.refl s⟩
    rcases pt with q | q
    · exact .inl (s.H q)
    · right
      intro x hx
      refine List.any_eq_false.2 fun r hr => ?_
      cases r with
      | l n j => simp [Root.isO]
      | o n => exact absurd (q n) (ho x hx _ hr)
  unfold opE at e ⊢
  cases op <;> simp only at e ⊢ <;> simp only [Op.operands] at ho <;> try (exact absurd ⟨rfl, by simp⟩ hef)
  case assign x => exact assignE_sim s (ho x (by simp)) e
  case alloc t =>
    simp only [Option.bind_eq_some_iff] at e ⊢
    obtain ⟨z, hz, e⟩ := e
    unfold boxE at e ⊢
    split at e
    · cases e
    · rename_i hn
      split at e <;> simp only [Option.some.injEq, Prod.mk.injEq] at e <;> obtain ⟨rfl, rfl⟩ := e
      · rename_i hc
        have hb : b = true := by cases b with | true => rfl | false => have := hh rfl; simp only [hrOf] at this; rw [hc] at this; cases this
        have hH := s.H hb
        refine ⟨{ k' with H := k'.H ++ [.box (T.ofZero z)] }, ⟨z, hz, by rw [if_neg hn, if_pos hc, hH]⟩, ⟨⟨[], rfl, rfl⟩, fun _ => by simp [hH], (fun q => by rw [hb] at q; cases q), s.tr⟩⟩
      · rename_i hc; exact ⟨_, ⟨z, hz, by rw [if_neg hn, if_neg hc]⟩, (Par.refl s).new _ _ _⟩
  case box t x =>
    simp only [Option.bind_eq_some_iff] at e ⊢
    obtain ⟨⟨y, k2⟩, e1, e⟩ := e
    obtain ⟨k2', h1, h2⟩ := absorbF_sim s (ho x (by simp)) e1
    simp only at e
    split at e
    · rename_i hnc
      unfold boxE at e ⊢
      split at e
      · cases e
      · rename_i hn
        split at e <;> simp only [Option.some.injEq, Prod.mk.injEq] at e <;> obtain ⟨rfl, rfl⟩ := e
        · rename_i hc
          have hb : b = true := by cases b with | true => rfl | false => have := hh rfl; simp only [hrOf] at this; rw [hc] at this; cases this
          have hH := h2.1.H hb
          exact ⟨{ k2' with H := k2'.H ++ [.box y] }, ⟨_, h1, by simp only; rw [if_pos hnc, if_neg hn, if_pos hc, hH]⟩, ⟨h2.1.ct, fun _ => by simp [hH], (fun q => by rw [hb] at q; cases q), h2.1.tr⟩⟩
        · rename_i hc; exact ⟨_, ⟨_, h1, by simp only; rw [if_pos hnc, if_neg hn, if_neg hc]⟩, h2.1.new _ _ _⟩
    · cases e
  case buildSlice t n ps =>
    simp only [buildSliceE, Option.bind_eq_some_iff] at e
    obtain ⟨ety, u1, z, u2, ⟨p1, k2⟩, e1, e⟩ := e
    obtain ⟨k2', h1, h2⟩ := absorbP_sim _ s (fun u hu => by
      simp only [List.mem_map] at hu
      obtain ⟨p, hp, rfl⟩ := hu
      exact ho p.2 (by simp only [List.mem_toArray, List.mem_map]; exact ⟨p, hp, rfl⟩)) e1
    split at e
    · rename_i hcond
      simp only [Option.bind_eq_some_iff] at e
      obtain ⟨es, u3, e⟩ := e
      have goal : ∀ r : Option (SV × Wk), (∃ w1, (if (h.lits.contains dst) = true then (if (ps.toList.map fun p => (p.1, σ p.2)).all (fun p => isD p.2) = true then (T.frzs false es).map fun ds => (.d (.sl false ds), k2') else none) else some (.bor (.l dst 0) [] 0 n, k2'.new dst 0 (.own es))) = some (v, w1) ∧ Par b k k' k1 w1) →
          ∃ k1', buildSliceE P h.nv dst (h.lits.contains dst) t n (ps.toList.map fun p => (p.1, σ p.2)) k' = some (v, k1') ∧ Par b k k' k1 k1' := fun _ ⟨w1, q1, q2⟩ => by
        refine ⟨w1, ?_, q2⟩
        simp only [buildSliceE, u1, u2, Option.bind_some, h1]
        rw [if_pos hcond, u3]
        simpa using q1
      refine goal none ?_
      split at e
      · rename_i hl
        split at e
        · rename_i hall
          simp only [Option.map_eq_some_iff, Prod.mk.injEq] at e
          obtain ⟨ds, u4, rfl, rfl⟩ := e
          exact ⟨k2', by rw [if_pos hl, if_pos hall, u4]; rfl, h2.1⟩
        · cases e
      · rename_i hl
        simp only [Option.some.injEq, Prod.mk.injEq] at e
        obtain ⟨rfl, rfl⟩ := e
        exact ⟨_, by rw [if_neg hl], h2.1.new _ _ _⟩
    · cases e
  case store t a x =>
    simp only [Option.map_eq_some_iff, Prod.mk.injEq] at e ⊢
    obtain ⟨k2, e1, rfl, rfl⟩ := e
    obtain ⟨k2', h1, h2⟩ := storeE_sim s (ho a (by simp)) (ho x (by simp)) e1
    exact ⟨k2', ⟨k2', h1, rfl, rfl⟩, h2.1⟩
  case makeMap t r =>
    have hb : b = true := by cases b with | true => rfl | false => have := hh rfl; simp [hrOf] at this
    have hH := s.H hb
    cases r with
    | none =>
      simp only [Option.some.injEq, Prod.mk.injEq] at e ⊢
      obtain ⟨rfl, rfl⟩ := e
      exact ⟨_, ⟨by rw [hH], rfl⟩, ⟨⟨[], rfl, rfl⟩, fun _ => by simp [hH], (fun q => by rw [hb] at q; cases q), s.tr⟩⟩
    | some n =>
      simp only at e ⊢
      split at e
      · simp only [Option.some.injEq, Prod.mk.injEq] at e
        obtain ⟨rfl, rfl⟩ := e
        exact ⟨{ k' with H := k'.H ++ [.map []] }, by rw [hH], ⟨⟨[], rfl, rfl⟩, fun _ => by simp [hH], (fun q => by rw [hb] at q; cases q), s.tr⟩⟩
      · cases e
  case makeSlice t l c =>
    unfold makeE at e ⊢
    split at e
    · simp only [Option.bind_eq_some_iff] at e ⊢
      obtain ⟨ety, u1, z, u2, e⟩ := e
      split at e
      · rename_i hc
        simp only [Option.some.injEq, Prod.mk.injEq] at e
        obtain ⟨rfl, rfl⟩ := e
        exact ⟨_, ⟨ety, u1, z, u2, by rw [if_pos hc]⟩, (Par.refl s).new _ _ _⟩
      · cases e
    · cases e
  case mapUpdate t m key x =>
    simp only [Option.map_eq_some_iff, Prod.mk.injEq] at e ⊢
    obtain ⟨k2, e1, rfl, rfl⟩ := e
    simp only [mapPutE, Option.bind_eq_some_iff] at e1
    obtain ⟨⟨kt, et⟩, u1, e1⟩ := e1
    simp only at e1
    split at e1
    · rename_i o kd hm hk
      have hb := mapAt (x := m) (by simp [Op.operands]) hm
      split at e1
      · rename_i hc
        simp only [Option.bind_eq_some_iff] at e1
        obtain ⟨⟨y, k3⟩, e2, e1⟩ := e1
        obtain ⟨k3', h1, h2⟩ := absorb_sim s (ho x (by simp)) e2
        have hH := h2.1.H hb
        simp only at e1
        split at e1
        · rename_i y' es hes
          simp only [Option.map_eq_some_iff] at e1
          obtain ⟨es', u2, rfl⟩ := e1
          refine ⟨_, ⟨{ k3' with H := k3'.H.set o (.map es') }, ?_, rfl, rfl⟩, ⟨h2.1.ct, fun _ => by simp [hH], (fun q => by rw [hb] at q; cases q), h2.1.tr⟩⟩
          simp only [mapPutE, u1, Option.bind_some]
          rw [hm, hk]
          simp only
          rw [if_pos hc, h1]
          simp only [Option.bind_some, hH, hes, u2, Option.map_some]
        · cases e1
      · cases e1
    · cases e1
  case call c =>
    obtain ⟨callee, args, ats⟩ := c
    cases callee with
    | builtin bi =>
      cases bi <;> simp only [reduceCtorEq] at e ⊢
      case len => exact absurd ⟨rfl, fun c hc => by cases hc; exact ⟨_, rfl⟩⟩ hef
      case min => exact absurd ⟨rfl, fun c hc => by cases hc; exact ⟨_, rfl⟩⟩ hef
      case max => exact absurd ⟨rfl, fun c hc => by cases hc; exact ⟨_, rfl⟩⟩ hef
      case append =>
        split at e
        · rename_i x y t u hx ht
          have hmx : x ∈ args := by rw [← Array.mem_toList_iff, hx]; simp
          have hmy : y ∈ args := by rw [← Array.mem_toList_iff, hx]; simp
          split at e
          · rename_i htu
            obtain ⟨k1', h1, h2⟩ := appendE_sim s (ho x (by simp [Call.operands, hmx])) (ho y (by simp [Call.operands, hmy])) e
            exact ⟨k1', by rw [if_pos htu]; exact h1, h2.1⟩
          · cases e
        · cases e
    | _ => simp at e
  all_goals (cases e)

/-! ### calls -/
theorem snap1_sim (s : Sm Z b k k') {nv : Nat} {v : SV} {l l' : Lend} {x : D} (ho : Off Z v) (e : snap1 nv v k l = some (x, k1, l')) : ∃ k1', snap1 nv v k' l = some (x, k1', l') ∧ Step1 Z b k k' k1 k1' := by
  cases v with
  | d y => simp only [snap1, Option.some.injEq, Prod.mk.injEq] at e ⊢; obtain ⟨rfl, rfl, rfl⟩ := e; exact ⟨k', ⟨rfl, rfl, rfl⟩, .refl s⟩
  | clip c y => simp only [snap1, Option.some.injEq, Prod.mk.injEq] at e ⊢; obtain ⟨rfl, rfl, rfl⟩ := e; exact ⟨k', ⟨rfl, rfl, rfl⟩, .refl s⟩
  | bor r p off len =>
    simp only [snap1, s.get r ho.bor, Option.bind_eq_some_iff] at e ⊢
    obtain ⟨c, hc, nd, hnd, e⟩ := e
    split at e
    · split at e
      · rename_i es n j
        split at e
        · rename_i hcond
          simp only [Option.bind_eq_some_iff, Option.map_eq_some_iff, Prod.mk.injEq] at e
          obtain ⟨y, hy, k2, h1, rfl, rfl, rfl⟩ := e
          obtain ⟨k2', h2, h3⟩ := setS s ho.bor h1
          exact ⟨_, ⟨c, hc, _, hnd, by simp only; rw [if_pos hcond, hy]; simp only [Option.bind_some, h2, Option.map_some]⟩, h3.tell rfl⟩
        · rename_i hcond
          simp only [Option.map_eq_some_iff, Prod.mk.injEq] at e
          obtain ⟨y, hy, rfl, rfl, rfl⟩ := e
          exact ⟨k', ⟨c, hc, _, hnd, by simp only; rw [if_neg hcond, hy]; rfl⟩, .refl s⟩
      · rename_i es n j hne
        simp only [Option.map_eq_some_iff, Prod.mk.injEq] at e
        obtain ⟨y, hy, rfl, rfl, rfl⟩ := e
        refine ⟨k', ⟨c, hc, _, hnd, ?_⟩, .refl s⟩
        cases p with
        | nil => exact absurd rfl hne
        | cons a p => simp only [hy, Option.map_some]
      · rename_i es n
        simp only [Option.map_eq_some_iff, Prod.mk.injEq] at e
        obtain ⟨y, hy, rfl, rfl, rfl⟩ := e
        exact ⟨k', ⟨c, hc, _, hnd, by simp only [hy, Option.map_some]⟩, .refl s⟩
    · cases e
  | _ => simp [snap1] at e
theorem snaps_sim {nv : Nat} : ∀ (l : List SV) {k k' k1 : Wk} {d d' : Lend} {xs : List D}, Sm Z b k k' → (∀ v ∈ l, Off Z v) → snaps nv l k d = some (xs, k1, d') → ∃ k1', snaps nv l k' d = some (xs, k1', d') ∧ Step1 Z b k k' k1 k1'
  | [], k, k', k1, d, d', xs, s, _, e => by simp only [snaps, Option.some.injEq, Prod.mk.injEq] at e ⊢; obtain ⟨rfl, rfl, rfl⟩ := e; exact ⟨k', ⟨rfl, rfl, rfl⟩, .refl s⟩
  | v :: l, k, k', k1, d, d', xs, s, ho, e => by
    simp only [snaps, Option.bind_eq_some_iff, Option.map_eq_some_iff, Prod.mk.injEq] at e
    obtain ⟨⟨x, k2, d2⟩, e1, ⟨ys, k3, d3⟩, e2, rfl, rfl, rfl⟩ := e
    obtain ⟨k2', h1, h2⟩ := snap1_sim s ((ho v (by simp)).trv s.nr) e1
    obtain ⟨k3', h3, h4⟩ := snaps_sim l (s.step h2) (fun u hu => ho u (by simp [hu])) e2
    exact ⟨k3', by simp only [snaps, s.tr, h1, Option.bind_some, h3, Option.map_some], h2.trans h4⟩
theorem snap_sim (s : Sm Z b k k') {nv : Nat} {v : SV} {d d' : Lend} {x : D} (ho : Off Z v) (e : snap nv v k d = some (x, k1, d')) : ∃ k1', snap nv v k' d = some (x, k1', d') ∧ Step1 Z b k k' k1 k1' := by
  by_cases hv : ∃ l, v = .agg l
  · obtain ⟨l, rfl⟩ := hv
    simp only [snap, Option.map_eq_some_iff, Prod.mk.injEq] at e
    obtain ⟨⟨xs, k2, d2⟩, e1, rfl, rfl, rfl⟩ := e
    obtain ⟨k2', h1, h2⟩ := snaps_sim l s (fun v hv => ho.mem hv) e1
    exact ⟨k2', by simp only [snap, h1, Option.map_some], h2⟩
  · have eq : ∀ k : Wk, snap nv v k d = snap1 nv (trv k.tr v) k d := fun k => by
      cases v <;> first | rfl | exact absurd ⟨_, rfl⟩ hv
    rw [eq] at e
    rw [eq, s.tr]
    exact snap1_sim s (ho.trv s.nr) e
theorem snapA_sim {nv : Nat} : ∀ (l : List SV) {k k' k1 : Wk} {d d' : Lend} {xs : List D}, Sm Z b k k' → (∀ v ∈ l, Off Z v) → snapA nv l k d = some (xs, k1, d') → ∃ k1', snapA nv l k' d = some (xs, k1', d') ∧ Step1 Z b k k' k1 k1'
  | [], k, k', k1, d, d', xs, s, _, e => by simp only [snapA, Option.some.injEq, Prod.mk.injEq] at e ⊢; obtain ⟨rfl, rfl, rfl⟩ := e; exact ⟨k', ⟨rfl, rfl, rfl⟩, .refl s⟩
  | v :: l, k, k', k1, d, d', xs, s, ho, e => by
    simp only [snapA, Option.bind_eq_some_iff, Option.map_eq_some_iff, Prod.mk.injEq] at e
    obtain ⟨⟨x, k2, d2⟩, e1, ⟨ys, k3, d3⟩, e2, rfl, rfl, rfl⟩ := e
    obtain ⟨k2', h1, h2⟩ := snap_sim s (ho v (by simp)) e1
    obtain ⟨k3', h3, h4⟩ := snapA_sim l (s.step h2) (fun u hu => ho u (by simp [hu])) e2
    exact ⟨k3', by simp only [snapA, h1, Option.bind_some, h3, Option.map_some], h2.trans h4⟩
theorem resCell_sim (s : Sm Z b k k') {j j' : Nat} {t : T} {v : SV} (e : resCell dst j t k = some (v, j', k1)) : ∃ k1', resCell dst j t k' = some (v, j', k1') ∧ Step1 Z b k k' k1 k1' := by
  cases t <;> simp only [resCell, Option.some.injEq, Prod.mk.injEq, reduceCtorEq] at e ⊢ <;> obtain ⟨rfl, rfl, rfl⟩ := e
  · exact ⟨k', ⟨rfl, rfl, rfl⟩, .refl s⟩
  · exact ⟨_, ⟨rfl, rfl, rfl⟩, (Step1.refl s).new _ _ _⟩
theorem resCells_sim : ∀ (l : List T) {j j' : Nat} {k k' k1 : Wk} {vs : List SV}, Sm Z b k k' → resCells dst j l k = some (vs, j', k1) → ∃ k1', resCells dst j l k' = some (vs, j', k1') ∧ Step1 Z b k k' k1 k1'
  | [], j, j', k, k', k1, vs, s, e => by simp only [resCells, Option.some.injEq, Prod.mk.injEq] at e ⊢; obtain ⟨rfl, rfl, rfl⟩ := e; exact ⟨k', ⟨rfl, rfl, rfl⟩, .refl s⟩
  | t :: l, j, j', k, k', k1, vs, s, e => by
    simp only [resCells, Option.bind_eq_some_iff, Option.map_eq_some_iff, Prod.mk.injEq] at e
    obtain ⟨⟨v, j1, k2⟩, e1, ⟨ws, j2, k3⟩, e2, rfl, rfl, rfl⟩ := e
    obtain ⟨k2', h1, h2⟩ := resCell_sim s e1
    obtain ⟨k3', h3, h4⟩ := resCells_sim l (s.step h2) e2
    exact ⟨k3', by simp only [resCells, h1, Option.bind_some, h3, Option.map_some], h2.trans h4⟩
theorem res1_sim (s : Sm Z b k k') {j j' : Nat} {t : T} {v : SV} (e : res1 dst j t k = some (v, j', k1)) : ∃ k1', res1 dst j t k' = some (v, j', k1') ∧ Step1 Z b k k' k1 k1' := by
  cases t with
  | agg ts =>
    simp only [res1, Option.map_eq_some_iff, Prod.mk.injEq] at e
    obtain ⟨⟨vs, j1, k2⟩, e1, rfl, rfl, rfl⟩ := e
    obtain ⟨k2', h1, h2⟩ := resCells_sim ts s e1
    exact ⟨k2', by simp only [res1, h1, Option.map_some], h2⟩
  | d x => exact resCell_sim (dst := dst) (t := .d x) s e
  | own es => exact resCell_sim (dst := dst) (t := .own es) s e
  | dead => simp [res1, resCell] at e
theorem resAll_sim : ∀ (l : List T) {j : Nat} {k k' k1 : Wk} {vs : List SV}, Sm Z b k k' → resAll dst j l k = some (vs, k1) → ∃ k1', resAll dst j l k' = some (vs, k1') ∧ Step1 Z b k k' k1 k1'
  | [], j, k, k', k1, vs, s, e => by simp only [resAll, Option.some.injEq, Prod.mk.injEq] at e ⊢; obtain ⟨rfl, rfl⟩ := e; exact ⟨k', ⟨rfl, rfl⟩, .refl s⟩
  | t :: l, j, k, k', k1, vs, s, e => by
    simp only [resAll, Option.bind_eq_some_iff, Option.map_eq_some_iff, Prod.mk.injEq] at e
    obtain ⟨⟨v, j1, k2⟩, e1, ⟨ws, k3⟩, e2, rfl, rfl⟩ := e
    obtain ⟨k2', h1, h2⟩ := res1_sim s e1
    obtain ⟨k3', h3, h4⟩ := resAll_sim l (s.step h2) e2
    exact ⟨k3', by simp only [resAll, h1, Option.bind_some, h3, Option.map_some], h2.trans h4⟩
theorem resE_sim (s : Sm Z b k k') {rs : List T} {v : SV} (e : resE dst rs k = some (v, k1)) : ∃ k1', resE dst rs k' = some (v, k1') ∧ Step1 Z b k k' k1 k1' := by
  simp only [resE, Option.map_eq_some_iff, Prod.mk.injEq] at e
  obtain ⟨⟨vs, k2⟩, e1, rfl, rfl⟩ := e
  obtain ⟨k2', h1, h2⟩ := resAll_sim rs s e1
  exact ⟨k2', by simp only [resE, h1, Option.map_some], h2⟩
theorem callE_sim (s : Sm Z true k k') {call : CallF} {f : FuncId} {ds : List D} {d : Lend} {v : SV} (e : callE call h dst f ds d k = some (v, k1)) : ∃ k1', callE call h dst f ds d k' = some (v, k1') ∧ Par true k k' k1 k1' := by
  have hH := s.H rfl
  unfold callE at e ⊢
  rw [hH]
  split at e
  · rename_i hk
    rw [if_pos hk]
    simp only [Option.bind_eq_some_iff] at e ⊢
    obtain ⟨⟨rs, H2⟩, e1, e⟩ := e
    simp only at e
    split at e
    · rename_i hc
      obtain ⟨k1', h1, h2⟩ := resE_sim s e
      exact ⟨k1', ⟨_, e1, by simp only; rw [if_pos hc]; exact h1⟩, h2.1⟩
    · cases e
  · rename_i hk
    rw [if_neg hk]
    simp only [Option.bind_eq_some_iff] at e ⊢
    obtain ⟨⟨rs, H2⟩, e1, e⟩ := e
    simp only at e
    split at e
    · rename_i hc
      have s2 : Sm (fun r => Z r ∨ r.isO = true) true { k with H := unlock k.H d.lk H2, tr := k.tr ++ [.killO] } { k' with H := unlock k.H d.lk H2, tr := k'.tr ++ [.killO] } := by
        refine ⟨fun r hr => ?_, fun _ => rfl, by simp [s.tr], by simp [s.nr, Tr.isRen], by simp⟩
        cases r with
        | l n j => exact s.get (.l n j) (fun hz => hr (.inl hz))
        | o n => exact absurd (.inr rfl) hr
      obtain ⟨k1', h1, h2⟩ := resE_sim s2 e
      obtain ⟨pre, p1, p2⟩ := h2.1.ct
      exact ⟨k1', ⟨_, e1, by simp only; rw [if_pos hc]; exact h1⟩, ⟨⟨pre, p1, p2⟩, h2.1.H, by simp, h2.1.tr⟩⟩
    · cases e
theorem stepE_sim (s : Sm Z b k k') {call : CallF} {op : Op} {σ : Operand → SV} {v : SV} (hh : b = false → hrOf h dst op = false) (ho : ∀ x ∈ op.operands, Off Z (σ x)) (e : stepE P call h dst ty op σ k = some (v, k1)) : ∃ k1', stepE P call h dst ty op σ k' = some (v, k1') ∧ Par b k k' k1 k1' := by
  have plain : opE P h dst ty op σ k = some (v, k1) → ∃ k1', opE P h dst ty op σ k' = some (v, k1') ∧ Par b k k' k1 k1' := fun e => opE_sim s hh ho e
  unfold stepE at e ⊢
  split at e
  · rename_i f args ats
    have hb : b = true := by cases b with | true => rfl | false => have := hh rfl; simp [hrOf] at this
    subst hb
    simp only
    split at e
    · rename_i g first cap hf
      simp only [Option.bind_eq_some_iff] at e ⊢
      obtain ⟨⟨ds, k2, d⟩, e1, e2⟩ := e
      obtain ⟨k2', h1, h2⟩ := snapA_sim _ s (fun u hu => by
        simp only [List.mem_map] at hu
        obtain ⟨x, hx, rfl⟩ := hu
        exact ho x (by simp [Op.operands, Call.operands]; exact .inr (by simpa using hx))) e1
      obtain ⟨k1', h3, h4⟩ := callE_sim (s.step h2) e2
      exact ⟨k1', ⟨_, h1, h3⟩, h2.1.trans h4⟩
    · cases e
  · rename_i hne
    obtain ⟨k1', h1, h2⟩ := plain e
    exact ⟨k1', h1, h2⟩
end
end Go.Am
/- The abstract machine: two neighbouring operations that do not meet may change places. Data alone. -/
namespace Go.Am
open Go
set_option linter.unusedSimpArgs false
set_option linter.unusedVariables false

/-! ### slots and roots -/
theorem look_map {α β : Type} (f : α → β) (l : List (Nat × α)) (t : Nat) : look (l.map fun p => (p.1, f p.2)) t = (look l t).map f := by
  induction l with
  | nil => rfl
  | cons p r ih => obtain ⟨q, v⟩ := p; simp only [List.map_cons, look]; split <;> simp_all
theorem get_fin (s : St) (d : Option Nat) (v : SV) (k : Wk) (t : Nat) : (s.fin d v k).get t = if d = some t then v else trv k.tr (s.get t) := by
  have h0 : (look (trs k.tr s.env) t).getD .dead = trv k.tr (s.get t) := by
    rw [look_trs]
    unfold St.get
    cases look s.env t with
    | none => simp [trv_dead]
    | some u => rfl
  cases d with
  | none => simpa [St.fin, St.get] using h0
  | some d =>
    simp only [St.fin, St.get, look, Option.some.injEq] at h0 ⊢
    split
    · rfl
    · exact h0
theorem histTr_nil : ∀ (a : List Tr), histTr a [] = []
  | [] => rfl
  | x :: a => by
    have : x.hist [] = [] := by cases x <;> simp [Tr.hist]
    simp only [histTr, this, histTr_nil a]
theorem hist_add (hi : Hist) (tr : List Tr) (d : Option Nat) (v : SV) (t : Nat) : histOf (histAdd hi tr d v) t = if d = some t then v.srts else histTr tr (histOf hi t) := by
  have h0 : (look (hi.map fun p => (p.1, histTr tr p.2)) t).getD [] = histTr tr (histOf hi t) := by
    rw [look_map]
    unfold histOf
    cases look hi t with
    | none => simp [histTr_nil]
    | some u => rfl
  cases d with
  | none => simpa [histAdd, histOf] using h0
  | some d =>
    simp only [histAdd, histOf, look, Option.some.injEq] at h0 ⊢
    split
    · rfl
    · exact h0
theorem Tr.hist_sub (x : Tr) (l : List Root) : ∀ r ∈ l, r ∈ x.hist l := fun r hr => by
  cases x <;> simp only [Tr.hist] <;> first | exact hr | (split <;> simp [hr])
theorem histTr_sub : ∀ (a : List Tr) (l : List Root), ∀ r ∈ l, r ∈ histTr a l
  | [], _, r, hr => hr
  | x :: a, l, r, hr => histTr_sub a _ r (Tr.hist_sub x l r hr)
theorem Tr.hist_id (x : Tr) (l : List Root) (h : ∀ r ∈ l, r ∉ x.rts) : x.hist l = l := by
  cases x <;> simp only [Tr.hist] <;> try rfl
  rename_i a b
  rw [if_neg]
  intro hc
  simp only [List.any_eq_true, decide_eq_true_eq] at hc
  obtain ⟨r, hr, rfl⟩ := hc
  exact h _ hr (by simp [Tr.rts])
theorem histTr_id : ∀ (a : List Tr) (l : List Root), (∀ r ∈ l, r ∉ a.flatMap Tr.rts) → histTr a l = l
  | [], _, _ => rfl
  | x :: a, l, h => by
    simp only [histTr]
    rw [Tr.hist_id x l (fun r hr hx => h r hr (by simp [hx])), histTr_id a l (fun r hr hx => h r hr (by simp only [List.flatMap_cons, List.mem_append]; exact .inr hx))]
mutual
theorem Tr.rts_sub (x : Tr) : ∀ (v : SV) (L : List Root), (∀ r ∈ v.srts, r ∈ L) → ∀ r ∈ (x.sv v).srts, r ∈ x.hist L
  | .d y, L, h, r, hr => by cases x <;> simp [Tr.sv, SV.srts] at hr
  | .rp _ _, L, h, r, hr => by cases x <;> simp [Tr.sv, SV.srts] at hr
  | .clip _ _, L, h, r, hr => by cases x <;> simp [Tr.sv, SV.srts] at hr
  | .dead, L, h, r, hr => by cases x <;> simp [Tr.sv, SV.srts] at hr
  | .bor q p o n, L, h, r, hr => by
    have hq : q ∈ L := h q (by simp [SV.srts])
    cases x with
    | ren a b =>
      simp only [Tr.sv, Tr.hist] at hr ⊢
      split at hr
      · rename_i e
        simp only [SV.srts, List.mem_singleton] at hr
        subst hr
        rw [if_pos (by simp only [List.any_eq_true, decide_eq_true_eq]; exact ⟨q, hq, e⟩)]
        simp
      · simp only [SV.srts, List.mem_singleton] at hr
        subst hr
        split <;> simp [hq]
    | _ =>
      simp only [Tr.sv, Tr.hist] at hr ⊢
      (repeat' split at hr) <;> simp [SV.srts] at hr <;> (subst hr; exact hq)
  | .loc q p i o, L, h, r, hr => by
    have hq : q ∈ L := h q (by simp [SV.srts])
    cases x with
    | ren a b =>
      simp only [Tr.sv, Tr.hist] at hr ⊢
      split at hr
      · rename_i e
        simp only [SV.srts, List.mem_singleton] at hr
        subst hr
        rw [if_pos (by simp only [List.any_eq_true, decide_eq_true_eq]; exact ⟨q, hq, e⟩)]
        simp
      · simp only [SV.srts, List.mem_singleton] at hr
        subst hr
        split <;> simp [hq]
    | _ =>
      simp only [Tr.sv, Tr.hist] at hr ⊢
      (repeat' split at hr) <;> simp [SV.srts] at hr <;> (subst hr; exact hq)
  | .agg l, L, h, r, hr => by
    have : x.sv (.agg l) = .agg (Tr.svs x l) := by cases x <;> rfl
    rw [this] at hr
    exact Tr.rtss_sub x l L h r hr
  | .tup l, L, h, r, hr => by
    have : x.sv (.tup l) = .tup (Tr.svs x l) := by cases x <;> rfl
    rw [this] at hr
    exact Tr.rtss_sub x l L h r hr
theorem Tr.rtss_sub (x : Tr) : ∀ (l : List SV) (L : List Root), (∀ r ∈ SV.srtss l, r ∈ L) → ∀ r ∈ SV.srtss (Tr.svs x l), r ∈ x.hist L
  | [], L, h, r, hr => by simp [Tr.svs, SV.srtss] at hr
  | v :: l, L, h, r, hr => by
    simp only [Tr.svs, SV.srtss, List.mem_append] at h hr
    rcases hr with hr | hr
    · exact Tr.rts_sub x v L (fun q hq => h q (.inl hq)) r hr
    · exact Tr.rtss_sub x l L (fun q hq => h q (.inr hq)) r hr
end
theorem trv_rts_sub : ∀ (a : List Tr) (v : SV) (L : List Root), (∀ r ∈ v.srts, r ∈ L) → ∀ r ∈ (trv a v).srts, r ∈ histTr a L
  | [], _, _, h => h
  | x :: a, v, L, h => trv_rts_sub a _ _ (Tr.rts_sub x v L h)
mutual
theorem Tr.sv_id (x : Tr) : ∀ (v : SV), (∀ r ∈ v.srts, r ∉ x.rts) → (x.isKillO = true → v.srts.any Root.isO = false) → x.sv v = v
  | .d _, _, _ => by cases x <;> rfl
  | .rp _ _, _, _ => by cases x <;> rfl
  | .clip _ _, _, _ => by cases x <;> rfl
  | .dead, _, _ => by cases x <;> rfl
  | .bor q p o n, h, hk => by
    have hq := h q (by simp [SV.srts])
    cases x with
    | killO =>
      have : q.isO = false := by simpa [SV.srts] using hk rfl
      cases q with
      | l n j => rfl
      | o n => cases this
    | ren a b => simp only [Tr.rts, List.mem_cons, not_or] at hq; simp only [Tr.sv]; rw [if_neg hq.1]
    | kill r p' => simp only [Tr.rts, List.mem_singleton] at hq; simp only [Tr.sv]; rw [if_neg hq]
    | killN r m => simp only [Tr.rts, List.mem_singleton] at hq; simp only [Tr.sv]; rw [if_neg (fun e => hq e.1)]
    | frz r p' l => simp only [Tr.rts, List.mem_singleton] at hq; simp only [Tr.sv]; rw [if_neg hq]
  | .loc q p i o, h, hk => by
    have hq := h q (by simp [SV.srts])
    cases x with
    | killO =>
      have : q.isO = false := by simpa [SV.srts] using hk rfl
      cases q with
      | l n j => cases p <;> rfl
      | o n => cases this
    | ren a b => simp only [Tr.rts, List.mem_cons, not_or] at hq; simp only [Tr.sv]; rw [if_neg hq.1]
    | kill r p' => simp only [Tr.rts, List.mem_singleton] at hq; simp only [Tr.sv]; rw [if_neg hq]
    | killN r m => simp only [Tr.rts, List.mem_singleton] at hq; simp only [Tr.sv]; rw [if_neg (fun e => hq e.1)]
    | frz r p' l => simp only [Tr.rts, List.mem_singleton] at hq; simp only [Tr.sv]; rw [if_neg hq]
  | .agg l, h, hk => by
    have : x.sv (.agg l) = .agg (Tr.svs x l) := by cases x <;> rfl
    rw [this, Tr.svs_id x l h hk]
  | .tup l, h, hk => by
    have : x.sv (.tup l) = .tup (Tr.svs x l) := by cases x <;> rfl
    rw [this, Tr.svs_id x l h hk]
theorem Tr.svs_id (x : Tr) : ∀ (l : List SV), (∀ r ∈ SV.srtss l, r ∉ x.rts) → (x.isKillO = true → (SV.srtss l).any Root.isO = false) → Tr.svs x l = l
  | [], _, _ => rfl
  | v :: l, h, hk => by
    simp only [SV.srtss, List.mem_append] at h
    simp only [SV.srtss, List.any_append, Bool.or_eq_false_iff] at hk
    simp only [Tr.svs]
    rw [Tr.sv_id x v (fun r hr => h r (.inl hr)) (fun q => (hk q).1), Tr.svs_id x l (fun r hr => h r (.inr hr)) (fun q => (hk q).2)]
end
theorem trv_id : ∀ (a : List Tr) (v : SV), (∀ r ∈ v.srts, r ∉ a.flatMap Tr.rts) → (a.any Tr.isKillO = true → v.srts.any Root.isO = false) → trv a v = v
  | [], _, _, _ => rfl
  | x :: a, v, h, hk => by
    simp only [List.any_cons, Bool.or_eq_true] at hk
    simp only [trv]
    rw [Tr.sv_id x v (fun r hr hx => h r hr (by simp [hx])) (fun q => hk (.inl q)), trv_id a v (fun r hr hx => h r hr (by simp only [List.flatMap_cons, List.mem_append]; exact .inr hx)) (fun q => hk (.inr q))]

/-! ### an operation, by what it looks at -/
theorem ofCell_noO {v : Value} {x : D} (h : D.ofCell v = some x) : SV.rts (.d x) = [] := by
  unfold D.ofCell at h
  split at h <;> simp only [Option.some.injEq, reduceCtorEq] at h <;> subst h <;> rfl
theorem evalC_rts (x : Operand) : (evalC x).rts = [] := by
  unfold evalC
  split
  · rename_i v
    cases hv : D.ofVal v with
    | none => rfl
    | some x =>
      simp only
      unfold D.ofVal at hv
      split at hv
      · simp only [Option.map_eq_some_iff] at hv
        obtain ⟨l, _, rfl⟩ := hv
        rfl
      · exact ofCell_noO hv
  · rfl
  · rfl
theorem tmp_mem {op : Op} {t : Nat} (h : .tmp t ∈ op.operands) : t ∈ tmpsOf op := by
  simp only [tmpsOf, List.mem_filterMap]
  exact ⟨.tmp t, by simpa using h, rfl⟩

section
variable {P : Program} {call : CallF} {h : Hint} {ops : List Oper}

theorem stepE_congr {dst : Nat} {ty : TypeId} (op : Op) {σ τ : Operand → SV} (k : Wk) (hx : ∀ x ∈ op.operands, σ x = τ x) : stepE P call h dst ty op σ k = stepE P call h dst ty op τ k := by
  have hp := opE_congr (P := P) (h := h) (dst := dst) (ty := ty) op k hx
  unfold stepE
  cases op with
  | call c =>
    obtain ⟨callee, args, ats⟩ := c
    cases callee with
    | value f =>
      simp only
      rw [hx f (by simp [Op.operands, Call.operands]), map_congr_op (l := args.toList) fun x hm => hx x (by simp at hm; simp [Op.operands, Call.operands, hm])]
    | _ => exact hp
  | _ => exact hp
theorem val_congr {s s2 : St} {op : Op} (hx : ∀ t ∈ tmpsOf op, s2.get t = s.get t) : ∀ x ∈ op.operands, s2.val x = s.val x := fun x hm => by
  cases x with
  | tmp t => exact hx t (tmp_mem hm)
  | _ => rfl
theorem looks_tmp {o : Oper} {t : Nat} (ht : t ∈ tmpsOf o.op) : t ∈ looks ops o := List.mem_append_left _ ht
theorem wantE_congr {s s2 : St} {o : Oper} (hx : ∀ t ∈ looks ops o, s2.get t = s.get t) : wantE ops s2 o = wantE ops s o := by
  unfold wantE
  split
  · rfl
  · rename_i j want hg
    cases hj : (ops[j]?).bind (·.dst) with
    | none => rfl
    | some t => simp only; rw [hx t (by simp [looks, hg, hj])]
theorem evalO_congr {s s2 : St} {o : Oper} (hx : ∀ t ∈ looks ops o, s2.get t = s.get t) (hc : s2.ct = s.ct) (hH : s2.H = s.H) : evalO P call h ops o s2 = evalO P call h ops o s := by
  unfold evalO
  have hw : s2.wk = s.wk := by simp only [St.wk, hc, hH]
  rw [wantE_congr hx, hw, stepE_congr o.op s.wk (val_congr fun t ht => hx t (looks_tmp ht))]
theorem reads_plain {h : Hint} {dst : Nat} {op : Op} (hr : reads op = false) : effOf h dst op = false ∧ ∀ c, op ≠ .call c := by
  cases op <;> simp [reads] at hr <;> simp [effOf]
theorem stepE_plain {dst : Nat} {ty : TypeId} {op : Op} (hc : ∀ c, op = .call c → ∃ b, c.callee = .builtin b) (σ : Operand → SV) (k : Wk) : stepE P call h dst ty op σ k = opE P h dst ty op σ k := by
  unfold stepE
  cases op with
  | call c =>
    obtain ⟨b, hb⟩ := hc c rfl
    obtain ⟨callee, args, ats⟩ := c
    simp only at hb
    subst hb
    rfl
  | _ => rfl
/-- an operation on contents that agree where it looks -/
theorem evalO_sim {Z : Root → Prop} {b : Bool} {s s2 : St} {o : Oper} {w : Bool} {v : SV} {k : Wk} (sm : Sm Z b s.wk s2.wk) (hg : ∀ t ∈ looks ops o, s2.get t = s.get t) (hh : b = false → w = true → hrOf h (o.dst.getD 0) o.op = false) (ho : reads o.op = true → w = true → ∀ t ∈ looks ops o, Off Z (s.get t))
    (e : evalO P call h ops o s = some (w, v, k)) : ∃ k2, evalO P call h ops o s2 = some (w, v, k2) ∧ Par b s.wk s2.wk k k2 := by
  simp only [evalO, Option.bind_eq_some_iff] at e
  obtain ⟨w0, e0, e⟩ := e
  have hv := val_congr (s := s) (s2 := s2) (op := o.op) fun t ht => hg t (looks_tmp ht)
  split at e
  · rename_i hw0
    subst hw0
    simp only [Option.map_eq_some_iff, Prod.mk.injEq] at e
    obtain ⟨⟨v', k'⟩, e1, rfl, rfl, rfl⟩ := e
    have fin : ∀ k2, stepE P call h (o.dst.getD 0) o.type o.op s.val s2.wk = some (v', k2) → evalO P call h ops o s2 = some (true, v', k2) := fun k2 q => by
      simp only [evalO, wantE_congr hg, e0, Option.bind_some, if_true, stepE_congr o.op s2.wk hv, q, Option.map_some]
    cases hrd : reads o.op with
    | true =>
      obtain ⟨k2, h1, h2⟩ := stepE_sim sm (fun q => hh q rfl) (fun x hx => by
        cases x with
        | tmp t => exact ho hrd rfl t (looks_tmp (tmp_mem hx))
        | _ => intro r hr; simp only [St.val] at hr; rw [evalC_rts] at hr; cases hr) e1
      exact ⟨k2, fin k2 h1, h2⟩
    | false =>
      obtain ⟨q1, q2⟩ := reads_plain (h := h) (dst := o.dst.getD 0) hrd
      have hc : ∀ c, o.op = .call c → ∃ b, c.callee = .builtin b := fun c q => absurd q (q2 c)
      rw [stepE_plain hc] at e1
      obtain ⟨rfl, hr⟩ := opE_read hc q1 e1
      exact ⟨s2.wk, fin _ (by rw [stepE_plain hc]; exact hr s2.wk (fun q => by rw [hrd] at q; cases q) (fun q => by rw [hrd] at q; cases q)), Par.refl sm⟩
  · rename_i hw0
    simp only [Option.some.injEq, Prod.mk.injEq] at e
    obtain ⟨rfl, rfl, rfl⟩ := e
    have : w0 = false := by simpa using hw0
    exact ⟨s2.wk, by simp only [evalO, wantE_congr hg, e0, Option.bind_some, this, Bool.false_eq_true, if_false], Par.refl sm⟩
theorem evalO_grown {s : St} {o : Oper} {w : Bool} {v : SV} {k : Wk} (e : evalO P call h ops o s = some (w, v, k)) : Grown (hOf h (o.dst.getD 0) o.op = false ∧ ∀ t ∈ looks ops o, NoO (s.get t)) s.wk k ∧ ((w && effOf h (o.dst.getD 0) o.op) = false → k = s.wk) := by
  simp only [evalO, Option.bind_eq_some_iff] at e
  obtain ⟨w0, e0, e⟩ := e
  split at e
  · rename_i hw0
    subst hw0
    simp only [Option.map_eq_some_iff, Prod.mk.injEq] at e
    obtain ⟨⟨v', k'⟩, e1, rfl, _, rfl⟩ := e
    refine ⟨(stepE_grown e1).imp fun q => ⟨q.1, fun x hx => ?_⟩, fun he => ?_⟩
    · cases x with
      | tmp t => exact q.2 t (looks_tmp (tmp_mem hx))
      | _ => simp only [St.val]; rw [NoO, evalC_rts]; rfl
    · simp only [Bool.true_and] at he
      have hc : ∀ c, o.op = .call c → ∃ b, c.callee = .builtin b := fun c hcc => by
        obtain ⟨callee, args, ats⟩ := c
        rw [hcc] at he
        cases callee with
        | builtin b => exact ⟨b, rfl⟩
        | value f => simp [effOf] at he
        | invoke r m => simp [effOf] at he
      rw [stepE_plain hc] at e1
      exact (opE_read hc he e1).1
  · simp only [Option.some.injEq, Prod.mk.injEq] at e
    rw [← e.2.2]
    exact ⟨.refl _ _, fun _ => rfl⟩
end

/-! ### what is told of apart roots may be told in either order -/
mutual
theorem Tr.comm (x y : Tr) (hd : ∀ r ∈ x.rts, r ∉ y.rts) (hx : x.isKillO = true → y.rts.any Root.isO = false) (hy : y.isKillO = true → x.rts.any Root.isO = false) : ∀ v : SV, x.sv (y.sv v) = y.sv (x.sv v)
  | .d _ => by cases x <;> cases y <;> rfl
  | .rp _ _ => by cases x <;> cases y <;> rfl
  | .clip _ _ => by cases x <;> cases y <;> rfl
  | .dead => by cases x <;> cases y <;> rfl
  | .agg l => by
    have ex : ∀ l, x.sv (.agg l) = .agg (Tr.svs x l) := fun l => by cases x <;> rfl
    have ey : ∀ l, y.sv (.agg l) = .agg (Tr.svs y l) := fun l => by cases y <;> rfl
    rw [ex, ey, ex, ey, Tr.comms x y hd hx hy l]
  | .tup l => by
    have ex : ∀ l, x.sv (.tup l) = .tup (Tr.svs x l) := fun l => by cases x <;> rfl
    have ey : ∀ l, y.sv (.tup l) = .tup (Tr.svs y l) := fun l => by cases y <;> rfl
    rw [ex, ey, ex, ey, Tr.comms x y hd hx hy l]
  | .bor r p o n => by
    by_cases h1 : r ∈ x.rts
    · have h2 : r ∉ y.rts := hd r h1
      have ok : y.isKillO = true → r.isO = false := fun q => List.any_eq_false.1 (hy q) r h1 |> fun z => by simpa using z
      have e1 : y.sv (.bor r p o n) = .bor r p o n := Tr.sv_id y _ (by simpa [SV.srts] using h2) (fun q => by simpa [SV.srts] using ok q)
      rw [e1]
      refine (Tr.sv_id y _ (fun q hq => ?_) (fun hk => ?_)).symm
      · have := Tr.rts_sub x (.bor r p o n) x.rts (fun q hq => by simp [SV.srts] at hq; subst hq; exact h1) q hq
        cases x <;> simp only [Tr.hist] at this <;> first | exact hd q this | (split at this <;> first | exact hd q this | (rcases List.mem_cons.1 this with rfl | this <;> first | exact hd q this | exact hd _ (by simp [Tr.rts])))
      · have hno := hy hk
        refine List.any_eq_false.2 fun q hq => ?_
        have := Tr.rts_sub x (.bor r p o n) x.rts (fun q hq => by simp [SV.srts] at hq; subst hq; exact h1) q hq
        have hin : q ∈ x.rts := by
          cases x <;> simp only [Tr.hist] at this <;> first | exact this | (split at this <;> first | exact this | (rcases List.mem_cons.1 this with rfl | this <;> first | exact this | simp [Tr.rts]))
        exact List.any_eq_false.1 hno q hin
    · by_cases hk : x.isKillO = true
      · cases x with
        | killO =>
          cases r with
          | l a b =>
            have e1 : Tr.killO.sv (.bor (.l a b) p o n) = .bor (.l a b) p o n := rfl
            rw [e1]
            refine Tr.sv_id .killO _ (by simp [Tr.rts]) (fun _ => List.any_eq_false.2 fun q hq => ?_)
            cases y with
            | ren c d => simp only [Tr.sv] at hq; split at hq <;> simp [SV.srts] at hq <;> subst hq <;> simp [Root.isO]
            | _ => simp only [Tr.sv] at hq; (repeat' split at hq) <;> simp [SV.srts] at hq <;> subst hq <;> simp [Root.isO]
          | o m =>
            have hym : Root.o m ∉ y.rts := fun hq => by have := List.any_eq_false.1 (hx rfl) _ hq; simp [Root.isO] at this
            by_cases hyk : y.isKillO = true
            · cases y <;> simp [Tr.isKillO] at hyk; rfl
            · have e1 : y.sv (.bor (.o m) p o n) = .bor (.o m) p o n := Tr.sv_id y _ (by simpa [SV.srts] using hym) (fun q => absurd q hyk)
              rw [e1]
              have e2 : Tr.killO.sv (.bor (.o m) p o n) = .dead := rfl
              rw [e2]
              cases y <;> rfl
        | _ => simp [Tr.isKillO] at hk
      · have e1 : x.sv (.bor r p o n) = .bor r p o n := Tr.sv_id x _ (by simpa [SV.srts] using h1) (fun q => absurd q hk)
        rw [e1]
        refine Tr.sv_id x _ (fun q hq hin => ?_) (fun q => absurd q hk)
        have := Tr.rts_sub y (.bor r p o n) [r] (fun q hq => by simpa [SV.srts] using hq) q hq
        cases y with
        | ren c d =>
          simp only [Tr.hist] at this
          split at this
          · rcases List.mem_cons.1 this with rfl | this
            · exact hd _ hin (by simp [Tr.rts])
            · simp at this; subst this; exact h1 hin
          · simp at this; subst this; exact h1 hin
        | _ => simp only [Tr.hist, List.mem_singleton] at this; subst this; exact h1 hin
  | .loc r p i o => by
    by_cases h1 : r ∈ x.rts
    · have h2 : r ∉ y.rts := hd r h1
      have ok : y.isKillO = true → r.isO = false := fun q => List.any_eq_false.1 (hy q) r h1 |> fun z => by simpa using z
      have e1 : y.sv (.loc r p i o) = .loc r p i o := Tr.sv_id y _ (by simpa [SV.srts] using h2) (fun q => by simpa [SV.srts] using ok q)
      rw [e1]
      refine (Tr.sv_id y _ (fun q hq => ?_) (fun hk => ?_)).symm
      · have := Tr.rts_sub x (.loc r p i o) x.rts (fun q hq => by simp [SV.srts] at hq; subst hq; exact h1) q hq
        cases x <;> simp only [Tr.hist] at this <;> first | exact hd q this | (split at this <;> first | exact hd q this | (rcases List.mem_cons.1 this with rfl | this <;> first | exact hd q this | exact hd _ (by simp [Tr.rts])))
      · have hno := hy hk
        refine List.any_eq_false.2 fun q hq => ?_
        have := Tr.rts_sub x (.loc r p i o) x.rts (fun q hq => by simp [SV.srts] at hq; subst hq; exact h1) q hq
        have hin : q ∈ x.rts := by
          cases x <;> simp only [Tr.hist] at this <;> first | exact this | (split at this <;> first | exact this | (rcases List.mem_cons.1 this with rfl | this <;> first | exact this | simp [Tr.rts]))
        exact List.any_eq_false.1 hno q hin
    · by_cases hk : x.isKillO = true
      · cases x with
        | killO =>
          cases r with
          | l a b =>
            have e1 : Tr.killO.sv (.loc (.l a b) p i o) = .loc (.l a b) p i o := by cases p <;> rfl
            rw [e1]
            refine Tr.sv_id .killO _ (by simp [Tr.rts]) (fun _ => List.any_eq_false.2 fun q hq => ?_)
            cases y with
            | ren c d => simp only [Tr.sv] at hq; split at hq <;> simp [SV.srts] at hq <;> subst hq <;> simp [Root.isO]
            | _ => simp only [Tr.sv] at hq; (repeat' split at hq) <;> simp [SV.srts] at hq <;> subst hq <;> simp [Root.isO]
          | o m =>
            have hym : Root.o m ∉ y.rts := fun hq => by have := List.any_eq_false.1 (hx rfl) _ hq; simp [Root.isO] at this
            by_cases hyk : y.isKillO = true
            · cases y <;> simp [Tr.isKillO] at hyk; rfl
            · have e1 : y.sv (.loc (.o m) p i o) = .loc (.o m) p i o := Tr.sv_id y _ (by simpa [SV.srts] using hym) (fun q => absurd q hyk)
              rw [e1]
              cases p with
              | nil => exact e1.symm
              | cons a p =>
                have e2 : Tr.killO.sv (.loc (.o m) (a :: p) i o) = .dead := rfl
                rw [e2]
                cases y <;> rfl
        | _ => simp [Tr.isKillO] at hk
      · have e1 : x.sv (.loc r p i o) = .loc r p i o := Tr.sv_id x _ (by simpa [SV.srts] using h1) (fun q => absurd q hk)
        rw [e1]
        refine Tr.sv_id x _ (fun q hq hin => ?_) (fun q => absurd q hk)
        have := Tr.rts_sub y (.loc r p i o) [r] (fun q hq => by simpa [SV.srts] using hq) q hq
        cases y with
        | ren c d =>
          simp only [Tr.hist] at this
          split at this
          · rcases List.mem_cons.1 this with rfl | this
            · exact hd _ hin (by simp [Tr.rts])
            · simp at this; subst this; exact h1 hin
          · simp at this; subst this; exact h1 hin
        | _ => simp only [Tr.hist, List.mem_singleton] at this; subst this; exact h1 hin
theorem Tr.comms (x y : Tr) (hd : ∀ r ∈ x.rts, r ∉ y.rts) (hx : x.isKillO = true → y.rts.any Root.isO = false) (hy : y.isKillO = true → x.rts.any Root.isO = false) : ∀ l : List SV, Tr.svs x (Tr.svs y l) = Tr.svs y (Tr.svs x l)
  | [] => rfl
  | v :: l => by simp only [Tr.svs, Tr.comm x y hd hx hy v, Tr.comms x y hd hx hy l]
end
theorem trv_sv (x : Tr) : ∀ (a : List Tr) (v : SV), (∀ y ∈ a, (∀ r ∈ x.rts, r ∉ y.rts) ∧ (x.isKillO = true → y.rts.any Root.isO = false) ∧ (y.isKillO = true → x.rts.any Root.isO = false)) → x.sv (trv a v) = trv a (x.sv v)
  | [], _, _ => rfl
  | y :: a, v, h => by
    obtain ⟨h1, h2, h3⟩ := h y (by simp)
    simp only [trv]
    rw [trv_sv x a _ (fun z hz => h z (by simp [hz])), Tr.comm x y h1 h2 h3]
theorem trv_comm : ∀ (a b : List Tr) (v : SV), (∀ x ∈ a, ∀ y ∈ b, (∀ r ∈ x.rts, r ∉ y.rts) ∧ (x.isKillO = true → y.rts.any Root.isO = false) ∧ (y.isKillO = true → x.rts.any Root.isO = false)) → trv a (trv b v) = trv b (trv a v)
  | [], _, _, _ => rfl
  | x :: a, b, v, h => by
    simp only [trv]
    rw [trv_sv x b v (h x (by simp)), trv_comm a b _ (fun z hz => h z (by simp [hz]))]
theorem histTr_plain : ∀ (a : List Tr) (l : List Root), a.any Tr.isRen = false → histTr a l = l
  | [], _, _ => rfl
  | x :: a, l, h => by
    simp only [List.any_cons, Bool.or_eq_false_iff] at h
    have : x.hist l = l := by cases x <;> first | rfl | simp [Tr.isRen] at h
    simp only [histTr, this, histTr_plain a l h.2]
theorem histTr_comm (a b : List Tr) (l : List Root) (h : a.any Tr.isRen = false ∨ b.any Tr.isRen = false) : histTr a (histTr b l) = histTr b (histTr a l) := by
  rcases h with h | h
  · rw [histTr_plain a _ h, histTr_plain a _ h]
  · rw [histTr_plain b _ h, histTr_plain b _ h]
end Go.Am
/- The abstract machine: the operations of a region that draws its order, in any order. Data alone. -/
namespace Go.Am
open Go
set_option linter.unusedSimpArgs false
set_option linter.unusedVariables false

structure Eqv (c d : Cf) : Prop where
  get : ∀ t, d.1.get t = c.1.get t
  ct : ∀ x, lookR d.1.ct x = lookR c.1.ct x
  H : d.1.H = c.1.H
  hi : ∀ t, histOf d.2 t = histOf c.2 t
theorem Eqv.refl (c : Cf) : Eqv c c := ⟨fun _ => rfl, fun _ => rfl, rfl, fun _ => rfl⟩
theorem Eqv.trans {a b c : Cf} (x : Eqv a b) (y : Eqv b c) : Eqv a c := ⟨fun t => (y.get t).trans (x.get t), fun t => (y.ct t).trans (x.ct t), y.H.trans x.H, fun t => (y.hi t).trans (x.hi t)⟩
/-- each slot leans on roots that are told -/
def Inv (c : Cf) : Prop := ∀ t, ∀ r ∈ (c.1.get t).srts, r ∈ histOf c.2 t

theorem mem_meet {a b : List Root} (h : meet a b = false) : ∀ r ∈ b, r ∉ a := fun r hb ha => by
  simp only [meet, List.any_eq_false] at h
  have := h r ha
  simp only [List.any_eq_true, decide_eq_true_eq, not_exists, not_and] at this
  exact this r hb rfl
theorem newKeys_pre {k k' : Wk} {pre : List ((Nat × Nat) × T)} (hp : k'.ct = pre ++ k.ct) : newKeys k k' = pre.map fun p => Root.l p.1.1 p.1.2 := by
  unfold newKeys
  rw [hp]; simp
theorem lookR_none {pre : List ((Nat × Nat) × T)} {n j : Nat} (h : Root.l n j ∉ pre.map fun p => Root.l p.1.1 p.1.2) : lookR pre (n, j) = none := by
  induction pre with
  | nil => rfl
  | cons p pre ih =>
    obtain ⟨⟨a, b⟩, t⟩ := p
    simp only [List.map_cons, List.mem_cons, not_or] at h
    show (if (a, b) = (n, j) then some t else lookR pre (n, j)) = _
    rw [if_neg (fun e => h.1 (by cases e; rfl))]
    exact ih h.2
theorem newKeys_get {k k' : Wk} (hg : ∃ pre, k'.ct = pre ++ k.ct) (n j : Nat) (h : Root.l n j ∉ newKeys k k') : lookR k'.ct (n, j) = lookR k.ct (n, j) := by
  obtain ⟨pre, hp⟩ := hg
  rw [newKeys_pre hp] at h
  rw [hp, lookR_app, lookR_none h]; rfl

section
variable {P : Program} {call : CallF} {h : Hint} {ops : List Oper}

theorem runOpF_some {o : Oper} {c d : Cf} {f : Fp} (e : runOpF P call h ops o c = some (d, f)) :
    ∃ w v k, evalO P call h ops o c.1 = some (w, v, k) ∧ d = (c.1.fin o.dst v k, histAdd c.2 k.tr o.dst v) ∧ f = fpOf h ops o c.2 c.1 w v k := by
  simp only [runOpF, Option.map_eq_some_iff, Prod.mk.injEq] at e
  obtain ⟨⟨w, v, k⟩, e1, e2, e3⟩ := e
  exact ⟨w, v, k, e1, e2.symm, e3.symm⟩
theorem runOpF_mk {o : Oper} {c : Cf} {w : Bool} {v : SV} {k : Wk} (e : evalO P call h ops o c.1 = some (w, v, k)) :
    runOpF P call h ops o c = some ((c.1.fin o.dst v k, histAdd c.2 k.tr o.dst v), fpOf h ops o c.2 c.1 w v k) := by
  simp only [runOpF, e, Option.map_some]
theorem fpOf_congr {o : Oper} {c d : Cf} {w : Bool} {v : SV} {k k' : Wk} (hg : ∀ t ∈ looks ops o, d.1.get t = c.1.get t) (hh : ∀ t ∈ looks ops o, histOf d.2 t = histOf c.2 t) (h1 : newKeys d.1.wk k' = newKeys c.1.wk k) (h2 : k'.tr = k.tr) : fpOf h ops o d.2 d.1 w v k' = fpOf h ops o c.2 c.1 w v k := by
  unfold fpOf
  have : (looks ops o).flatMap (histOf d.2) = (looks ops o).flatMap (histOf c.2) := by
    simp only [List.flatMap_def]
    rw [List.map_congr_left hh]
  have hcur : ((looks ops o).flatMap fun t => (d.1.get t).rts) = (looks ops o).flatMap fun t => (c.1.get t).rts := by
    simp only [List.flatMap_def]
    rw [List.map_congr_left fun t ht => by rw [hg t ht]]
  rw [this, hcur, h1, h2]
theorem Eqv.sm {c d : Cf} (q : Eqv c d) : Sm (fun _ => False) true c.1.wk d.1.wk := by
  refine ⟨fun r _ => ?_, fun _ => q.H, rfl, rfl, by simp⟩
  cases r with
  | l n j => simp only [Wk.get, Go.Am.cont, St.wk, q.ct]
  | o n => simp only [Wk.get, Go.Am.cont, St.wk, q.H]
theorem Par.keys {b : Bool} {k k' k1 k1' : Wk} (p : Par b k k' k1 k1') : newKeys k' k1' = newKeys k k1 := by
  obtain ⟨pre, h1, h2⟩ := p.ct
  rw [newKeys_pre h1, newKeys_pre h2]

theorem runOpF_congr {o : Oper} {c d c1 : Cf} {f : Fp} (q : Eqv c d) (e : runOpF P call h ops o c = some (c1, f)) : ∃ d1, runOpF P call h ops o d = some (d1, f) ∧ Eqv c1 d1 := by
  obtain ⟨w, v, k, e1, rfl, rfl⟩ := runOpF_some e
  obtain ⟨k2, e2, p⟩ := evalO_sim q.sm (fun t _ => q.get t) (fun h => by cases h) (fun _ _ t _ r _ h => h) e1
  refine ⟨(d.1.fin o.dst v k2, histAdd d.2 k2.tr o.dst v), by rw [runOpF_mk e2, fpOf_congr (c := c) (fun t _ => q.get t) (fun t _ => q.hi t) p.keys p.tr], fun t => ?_, fun x => ?_, p.H rfl, fun t => ?_⟩
  · simp only [get_fin, q.get, p.tr]
  · obtain ⟨pre, h1, h2⟩ := p.ct
    show lookR k2.ct x = lookR k.ct x
    rw [h1, h2, lookR_app, lookR_app]
    show _ = (lookR pre x).or (lookR c.1.ct x)
    rw [← q.ct]; rfl
  · simp only [hist_add, q.hi, p.tr]
theorem runOpsF_congr : ∀ (l : List Oper) {c d c1 : Cf} {fs : List Fp}, Eqv c d → runOpsF P call h ops l c = some (c1, fs) → ∃ d1, runOpsF P call h ops l d = some (d1, fs) ∧ Eqv c1 d1
  | [], c, d, c1, fs, q, e => by
    simp only [runOpsF, Option.some.injEq, Prod.mk.injEq] at e
    obtain ⟨rfl, rfl⟩ := e
    exact ⟨d, rfl, q⟩
  | o :: l, c, d, c1, fs, q, e => by
    simp only [runOpsF, Option.bind_eq_some_iff, Option.map_eq_some_iff, Prod.mk.injEq] at e
    obtain ⟨⟨c2, f⟩, e1, ⟨c3, fs'⟩, e2, rfl, rfl⟩ := e
    obtain ⟨d2, g1, q2⟩ := runOpF_congr q e1
    obtain ⟨d3, g2, q3⟩ := runOpsF_congr l q2 e2
    exact ⟨d3, by simp only [runOpsF, g1, Option.bind_some, g2, Option.map_some], q3⟩
theorem Inv.step {o : Oper} {c d : Cf} {f : Fp} (hi : Inv c) (e : runOpF P call h ops o c = some (d, f)) : Inv d := by
  obtain ⟨w, v, k, e1, rfl, rfl⟩ := runOpF_some e
  intro t r hr
  simp only [get_fin, hist_add] at hr ⊢
  split at hr
  · rw [if_pos ‹_›]; exact hr
  · rw [if_neg ‹_›]; exact trv_rts_sub _ _ _ (hi t) r hr

/-- what is changed does not touch what another operation leans on -/
theorem stays {w : Bool} {v : SV} {k : Wk} {o : Oper} {c : Cf} (e : evalO P call h ops o c.1 = some (w, v, k)) {L : List Root}
    (hm : ∀ r ∈ L, r ∉ (fpOf h ops o c.2 c.1 w v k).wr) (hh : (fpOf h ops o c.2 c.1 w v k).hw = true → L.any Root.isO = false) :
    (∀ u : SV, (∀ r ∈ u.srts, r ∈ L) → trv k.tr u = u) ∧ (∀ M : List Root, (∀ r ∈ M, r ∈ L) → histTr k.tr M = M) ∧ ((fpOf h ops o c.2 c.1 w v k).hw = false → k.H = c.1.H ∧ k.tr.any Tr.isKillO = false) := by
  have hwr : (fpOf h ops o c.2 c.1 w v k).wr = newKeys c.1.wk k ++ k.tr.flatMap Tr.rts := rfl
  have hhv : (fpOf h ops o c.2 c.1 w v k).hw = ((w && effOf h (o.dst.getD 0) o.op) && (hOf h (o.dst.getD 0) o.op || ((looks ops o).flatMap fun t => (c.1.get t).rts).any Root.isO || k.tr.any Tr.isKillO)) := rfl
  rw [hwr] at hm
  have hm2 : ∀ r ∈ L, r ∉ k.tr.flatMap Tr.rts := fun r hr hx => hm r hr (List.mem_append_right _ hx)
  obtain ⟨g, g2⟩ := evalO_grown e
  have hw0 : (fpOf h ops o c.2 c.1 w v k).hw = false → k.H = c.1.H ∧ k.tr.any Tr.isKillO = false := fun hf => by
    cases he : (w && effOf h (o.dst.getD 0) o.op) with
    | false => rw [g2 he]; exact ⟨rfl, rfl⟩
    | true =>
      rw [hhv, he] at hf
      simp only [Bool.true_and, Bool.or_eq_false_iff] at hf
      refine ⟨g.H ⟨hf.1.1, fun t ht => ?_⟩, hf.2⟩
      have h3 := List.any_eq_false.1 hf.1.2
      exact List.any_eq_false.2 fun r hr => h3 r (List.mem_flatMap.2 ⟨t, ht, hr⟩)
  refine ⟨fun u hu => trv_id _ _ (fun r hr => hm2 r (hu r hr)) (fun hk => ?_), fun M hM => histTr_id _ _ (fun r hr => hm2 r (hM r hr)), hw0⟩
  have : (fpOf h ops o c.2 c.1 w v k).hw = true := by
    cases hf : (fpOf h ops o c.2 c.1 w v k).hw with
    | true => rfl
    | false => rw [(hw0 hf).2] at hk; cases hk
  exact List.any_eq_false.2 fun r hr => List.any_eq_false.1 (hh this) r (hu r hr)

theorem apart_spec {x y : Fp} (hp : apartFp x y = true) : (∀ d, x.dst = some d → d ∉ y.sl) ∧ (∀ d, x.dst = some d → y.dst ≠ some d) ∧ (∀ d, y.dst = some d → d ∉ x.sl) ∧ (∀ r ∈ y.rd, r ∉ x.wr) ∧ (∀ r ∈ y.wr, r ∉ x.wr) ∧ (∀ r ∈ x.rd, r ∉ y.wr) ∧ (x.hw = true → y.hr = false ∧ y.hw = false) ∧ (y.hw = true → x.hr = false) ∧ (x.ren = false ∨ y.ren = false) := by
  simp only [apartFp, Bool.and_eq_true, Bool.not_eq_true', Bool.and_eq_false_iff] at hp
  obtain ⟨⟨⟨⟨⟨⟨⟨h1, h2⟩, h3⟩, h4⟩, h5⟩, h6⟩, h7⟩, h8⟩ := hp
  refine ⟨fun d hd => ?_, fun d hd => ?_, fun d hd => ?_, mem_meet h3, mem_meet h4, mem_meet h5, fun q => ?_, fun q => ?_, h8⟩
  · rw [hd] at h1; simp at h1; exact h1.1
  · rw [hd] at h1; simp at h1; exact fun e => h1.2 e
  · rw [hd] at h2; simp at h2; exact h2
  · rcases h6 with x | x
    · rw [q] at x; cases x
    · simpa using x
  · rcases h7 with x | x
    · rw [q] at x; cases x
    · exact x

/-- what an operation leans on, if another one does not change it -/
theorem look_same {o p : Oper} {c : Cf} {w wp : Bool} {v vp : SV} {k kp : Wk} {ct : List ((Nat × Nat) × T)} (hi : Inv c) (ep : evalO P call h ops p c.1 = some (wp, vp, kp)) (hd : ∀ t ∈ looks ops o, p.dst ≠ some t)
    {L : List Root} (hL : ∀ t ∈ looks ops o, ∀ r ∈ histOf c.2 t, r ∈ L) (hm : ∀ r ∈ L, r ∉ (fpOf h ops p c.2 c.1 wp vp kp).wr) (hh : (fpOf h ops p c.2 c.1 wp vp kp).hw = true → L.any Root.isO = false) :
    ∀ t ∈ looks ops o, (c.1.fin p.dst vp kp).get t = c.1.get t := fun t ht => by
  obtain ⟨t1, _, _⟩ := stays ep hm hh
  rw [get_fin, if_neg (hd t ht)]
  exact t1 _ (fun r hr => hL t ht r (hi t r hr))

theorem swap {a i : Oper} {c c1 c2 : Cf} {fa fi : Fp} (hi : Inv c) (ea : runOpF P call h ops a c = some (c1, fa)) (ei : runOpF P call h ops i c1 = some (c2, fi)) (hp : apartFp fa fi = true) :
    ∃ d1 d2, runOpF P call h ops i c = some (d1, fi) ∧ runOpF P call h ops a d1 = some (d2, fa) ∧ Eqv c2 d2 := by
  obtain ⟨wa, va, ka, ea1, rfl, hfa⟩ := runOpF_some ea
  obtain ⟨wi, vi, ki, ei1, rfl, hfi⟩ := runOpF_some ei
  obtain ⟨s1, s2, s3, m1, m2, m3, w1, w2, rn⟩ := apart_spec hp
  have da : fa.dst = a.dst := by rw [hfa]; rfl
  have di : fi.dst = i.dst := by rw [hfi]; rfl
  have la : fa.sl = looks ops a := by rw [hfa]; rfl
  have li : fi.sl = looks ops i := by rw [hfi]; rfl
  have ne1 : ∀ t ∈ looks ops i, a.dst ≠ some t := fun t ht e => s1 t (da.trans e) (by rw [li]; exact ht)
  have ne2 : ∀ t ∈ looks ops a, i.dst ≠ some t := fun t ht e => s3 t (di.trans e) (by rw [la]; exact ht)
  have ne3 : ∀ t, a.dst = some t → i.dst ≠ some t := fun t e q => s2 t (da.trans e) (di.trans q)
  simp only at ei1
  -- what i leans on
  have rdI : fi.rd = (looks ops i).flatMap (histOf (histAdd c.2 ka.tr a.dst va)) ++ vi.srts ++ (if reads i.op then (looks ops i).flatMap fun t => ((c.1.fin a.dst va ka).get t).rts else []) := by rw [hfi]; rfl
  have rdA : fa.rd = (looks ops a).flatMap (histOf c.2) ++ va.srts ++ (if reads a.op then (looks ops a).flatMap fun t => (c.1.get t).rts else []) := by rw [hfa]; rfl
  have inI : ∀ t ∈ looks ops i, ∀ r ∈ histOf c.2 t, r ∈ fi.rd := fun t ht r hr => by
    rw [rdI]
    exact List.mem_append_left _ (List.mem_append_left _ (List.mem_flatMap.2 ⟨t, ht, by rw [hist_add, if_neg (ne1 t ht)]; exact histTr_sub _ _ r hr⟩))
  have inIv : ∀ r ∈ vi.srts, r ∈ fi.rd := fun r hr => by rw [rdI]; exact List.mem_append_left _ (List.mem_append_right _ hr)
  have inIc : reads i.op = true → ∀ t ∈ looks ops i, ∀ r ∈ ((c.1.fin a.dst va ka).get t).rts, r ∈ fi.rd := fun hrd t ht r hr => by rw [rdI, if_pos hrd]; exact List.mem_append_right _ (List.mem_flatMap.2 ⟨t, ht, hr⟩)
  have inA : ∀ t ∈ looks ops a, ∀ r ∈ histOf c.2 t, r ∈ fa.rd := fun t ht r hr => by rw [rdA]; exact List.mem_append_left _ (List.mem_append_left _ (List.mem_flatMap.2 ⟨t, ht, hr⟩))
  have inAv : ∀ r ∈ va.srts, r ∈ fa.rd := fun r hr => by rw [rdA]; exact List.mem_append_left _ (List.mem_append_right _ hr)
  have inAc : reads a.op = true → ∀ t ∈ looks ops a, ∀ r ∈ (c.1.get t).rts, r ∈ fa.rd := fun hrd t ht r hr => by rw [rdA, if_pos hrd]; exact List.mem_append_right _ (List.mem_flatMap.2 ⟨t, ht, hr⟩)
  -- of shared objects
  have noA : fi.hw = true → (wa = true → hrOf h (a.dst.getD 0) a.op = false) ∧ fa.rd.any Root.isO = false ∧ fa.wr.any Root.isO = false ∧ ka.tr.any Tr.isKillO = false := fun q => by
    have e : fa.hr = ((wa && hrOf h (a.dst.getD 0) a.op) || fa.rd.any Root.isO || fa.wr.any Root.isO || ka.tr.any Tr.isKillO) := by rw [hfa]; rfl
    have := w2 q
    rw [e] at this
    simp only [Bool.or_eq_false_iff] at this
    exact ⟨fun hw => by simpa [hw] using this.1.1.1, this.1.1.2, this.1.2, this.2⟩
  have noI : fa.hw = true → (wi = true → hrOf h (i.dst.getD 0) i.op = false) ∧ fi.rd.any Root.isO = false ∧ fi.wr.any Root.isO = false ∧ ki.tr.any Tr.isKillO = false := fun q => by
    have e : fi.hr = ((wi && hrOf h (i.dst.getD 0) i.op) || fi.rd.any Root.isO || fi.wr.any Root.isO || ki.tr.any Tr.isKillO) := by rw [hfi]; rfl
    have := (w1 q).1
    rw [e] at this
    simp only [Bool.or_eq_false_iff] at this
    exact ⟨fun hw => by simpa [hw] using this.1.1.1, this.1.1.2, this.1.2, this.2⟩
  have wrA : fa.wr = newKeys c.1.wk ka ++ ka.tr.flatMap Tr.rts := by rw [hfa]; rfl
  have wrI : fi.wr = newKeys (c.1.fin a.dst va ka).wk ki ++ ki.tr.flatMap Tr.rts := by rw [hfi]; rfl
  -- i ahead of a
  have st1 := stays (L := fi.rd) ea1 (fun r hr => by rw [← hfa]; exact m1 r hr) (fun q => by rw [← hfa] at q; exact (noI q).2.1)
  rw [← hfa] at st1
  obtain ⟨t1, t2, t3⟩ := st1
  have getI : ∀ t ∈ looks ops i, (c.1.fin a.dst va ka).get t = c.1.get t := fun t ht => by
    rw [get_fin, if_neg (ne1 t ht)]
    exact t1 _ (fun r hr => inI t ht r (hi t r hr))
  have gA := (evalO_grown ea1).1.ct
  have sm1 : Sm (fun r => r ∈ fa.wr ∨ (fa.hw = true ∧ r.isO = true)) (!fa.hw) (c.1.fin a.dst va ka).wk c.1.wk := by
    refine ⟨fun r hr => ?_, fun q => ?_, rfl, rfl, fun q n => .inr ⟨by simpa using q, rfl⟩⟩
    · cases r with
      | l n j =>
        have : Root.l n j ∉ newKeys c.1.wk ka := fun hx => hr (.inl (by rw [wrA]; exact List.mem_append_left _ hx))
        simp only [Wk.get, Go.Am.cont]
        exact (newKeys_get gA n j this).symm
      | o n =>
        have : fa.hw = false := by cases hw : fa.hw with | false => rfl | true => exact absurd (.inr ⟨hw, rfl⟩) hr
        simp only [Wk.get, Go.Am.cont, St.wk, St.fin, (t3 this).1]
    · exact (t3 (by simpa using q)).1.symm
  obtain ⟨ki', ei2, p1⟩ := evalO_sim sm1 (fun t ht => (getI t ht).symm) (fun q => (noI (by simpa using q)).1) (fun hrd _ t ht r hr hz => by
    have hrI := inIc hrd t ht r hr
    rcases hz with hz | ⟨q, hz⟩
    · exact m1 r hrI hz
    · have := List.any_eq_false.1 (noI q).2.1 r hrI; rw [hz] at this; simp at this) ei1
  have fpi : fpOf h ops i c.2 c.1 wi vi ki' = fi := by
    rw [hfi]
    exact fpOf_congr (c := (c.1.fin a.dst va ka, histAdd c.2 ka.tr a.dst va)) (d := c) (fun t ht => (getI t ht).symm) (fun t ht => by simp only; rw [hist_add, if_neg (ne1 t ht), t2 _ (inI t ht)]) p1.keys p1.tr
  -- a behind it
  have st2 := stays (L := fa.rd) ei2 (fun r hr => by rw [fpi]; exact m3 r hr) (fun q => by rw [fpi] at q; exact (noA q).2.1)
  rw [fpi] at st2
  obtain ⟨u1, u2, u3⟩ := st2
  have getA : ∀ t ∈ looks ops a, (c.1.fin i.dst vi ki').get t = c.1.get t := fun t ht => by
    rw [get_fin, if_neg (ne2 t ht)]
    exact u1 _ (fun r hr => inA t ht r (hi t r hr))
  have gI := (evalO_grown ei2).1.ct
  have wrI' : fi.wr = newKeys c.1.wk ki' ++ ki'.tr.flatMap Tr.rts := by rw [← fpi]; rfl
  have sm2 : Sm (fun r => r ∈ fi.wr ∨ (fi.hw = true ∧ r.isO = true)) (!fi.hw) c.1.wk (c.1.fin i.dst vi ki').wk := by
    refine ⟨fun r hr => ?_, fun q => ?_, rfl, rfl, fun q n => .inr ⟨by simpa using q, rfl⟩⟩
    · cases r with
      | l n j =>
        have : Root.l n j ∉ newKeys c.1.wk ki' := fun hx => hr (.inl (by rw [wrI']; exact List.mem_append_left _ hx))
        simp only [Wk.get, Go.Am.cont]
        exact newKeys_get gI n j this
      | o n =>
        have : fi.hw = false := by cases hw : fi.hw with | false => rfl | true => exact absurd (.inr ⟨hw, rfl⟩) hr
        simp only [Wk.get, Go.Am.cont, St.wk, St.fin, (u3 this).1]
    · exact (u3 (by simpa using q)).1
  obtain ⟨ka', ea2, p2⟩ := evalO_sim sm2 getA (fun q => (noA (by simpa using q)).1) (fun hrd _ t ht r hr hz => by
    have hrA := inAc hrd t ht r hr
    rcases hz with hz | ⟨q, hz⟩
    · exact m3 r hrA hz
    · have := List.any_eq_false.1 (noA q).2.1 r hrA; rw [hz] at this; simp at this) ea1
  have fpa : fpOf h ops a (histAdd c.2 ki'.tr i.dst vi) (c.1.fin i.dst vi ki') wa va ka' = fa := by
    rw [hfa]
    exact fpOf_congr (c := c) (d := (c.1.fin i.dst vi ki', histAdd c.2 ki'.tr i.dst vi)) getA (fun t ht => by simp only; rw [hist_add, if_neg (ne2 t ht), u2 _ (inA t ht)]) p2.keys p2.tr
  -- what is told
  have vi1 : trv ka.tr vi = vi := t1 _ inIv
  have va1 : trv ki'.tr va = va := u1 _ inAv
  have told : ∀ x ∈ ki.tr, ∀ y ∈ ka.tr, (∀ r ∈ x.rts, r ∉ y.rts) ∧ (x.isKillO = true → y.rts.any Root.isO = false) ∧ (y.isKillO = true → x.rts.any Root.isO = false) := fun x hx y hy => by
    have hxw : ∀ r ∈ x.rts, r ∈ fi.wr := fun r hr => by rw [wrI]; exact List.mem_append_right _ (List.mem_flatMap.2 ⟨x, hx, hr⟩)
    have hyw : ∀ r ∈ y.rts, r ∈ fa.wr := fun r hr => by rw [wrA]; exact List.mem_append_right _ (List.mem_flatMap.2 ⟨y, hy, hr⟩)
    refine ⟨fun r h1 h2 => m2 r (hxw r h1) (hyw r h2), fun q => ?_, fun q => ?_⟩
    · have hw : fi.hw = true := by
        cases hw : fi.hw with
        | true => rfl
        | false =>
          have := (u3 hw).2
          rw [p1.tr] at this
          have := List.any_eq_false.1 this x hx
          rw [q] at this; simp at this
      exact List.any_eq_false.2 fun r hr => List.any_eq_false.1 (noA hw).2.2.1 r (hyw r hr)
    · have hw : fa.hw = true := by
        cases hw : fa.hw with
        | true => rfl
        | false =>
          have := List.any_eq_false.1 (t3 hw).2 y hy
          rw [q] at this; simp at this
      exact List.any_eq_false.2 fun r hr => List.any_eq_false.1 (noI hw).2.2.1 r (hxw r hr)
  have rens : ka.tr.any Tr.isRen = false ∨ ki.tr.any Tr.isRen = false := by
    have e1 : fa.ren = ka.tr.any Tr.isRen := by rw [hfa]; rfl
    have e2 : fi.ren = ki.tr.any Tr.isRen := by rw [hfi]; rfl
    rw [← e1, ← e2]; exact rn
  refine ⟨_, _, (runOpF_mk ei2).trans (congrArg some (Prod.ext rfl fpi)), (runOpF_mk (c := (c.1.fin i.dst vi ki', histAdd c.2 ki'.tr i.dst vi)) ea2).trans (congrArg some (Prod.ext rfl fpa)), fun t => ?_, fun x => ?_, ?_, fun t => ?_⟩
  · simp only [get_fin, p1.tr, p2.tr]
    by_cases h1 : a.dst = some t
    · rw [if_pos h1, if_neg (ne3 t h1), if_pos h1, ← p1.tr, va1]
    · rw [if_neg h1, if_neg h1]
      by_cases h2 : i.dst = some t
      · rw [if_pos h2, if_pos h2, vi1]
      · rw [if_neg h2, if_neg h2]
        exact (trv_comm _ _ _ told).symm
  · obtain ⟨pi, q1, q2⟩ := p1.ct
    obtain ⟨pa, q3, q4⟩ := p2.ct
    show lookR ka'.ct x = lookR ki.ct x
    rw [q1, q4]
    show lookR (pa ++ ki'.ct) x = lookR (pi ++ ka.ct) x
    rw [q2, q3, lookR_app, lookR_app, lookR_app, lookR_app]
    obtain ⟨n, j⟩ := x
    by_cases hk : Root.l n j ∈ pa.map fun p => Root.l p.1.1 p.1.2
    · have h1 : Root.l n j ∈ fa.wr := by rw [wrA, newKeys_pre q3]; exact List.mem_append_left _ hk
      have h2 : Root.l n j ∉ pi.map fun p => Root.l p.1.1 p.1.2 := fun hx => m2 _ (by rw [wrI, newKeys_pre q1]; exact List.mem_append_left _ hx) h1
      rw [lookR_none h2]; simp
    · rw [lookR_none hk]; simp
  · show ka'.H = ki.H
    cases hwa : fa.hw with
    | true =>
      have hb : (!fa.hw) = false := by rw [hwa]; rfl
      have hb2 : (!fi.hw) = true := by rw [(w1 hwa).2]; rfl
      rw [p2.H hb2]
      exact (p1.Hs hb).1.symm
    | false =>
      have hb : (!fa.hw) = true := by rw [hwa]; rfl
      have h1 := p1.H hb
      cases hwi : fi.hw with
      | true =>
        have hb2 : (!fi.hw) = false := by rw [hwi]; rfl
        rw [(p2.Hs hb2).2]; exact h1
      | false =>
        have hb2 : (!fi.hw) = true := by rw [hwi]; rfl
        rw [p2.H hb2, ← h1, (t3 hwa).1, (u3 hwi).1]
  · simp only [hist_add, p1.tr, p2.tr]
    by_cases h1 : a.dst = some t
    · rw [if_pos h1, if_neg (ne3 t h1), if_pos h1, ← p1.tr, u2 _ inAv]
    · rw [if_neg h1, if_neg h1]
      by_cases h2 : i.dst = some t
      · rw [if_pos h2, if_pos h2, t2 _ inIv]
      · rw [if_neg h2, if_neg h2]
        exact histTr_comm _ _ _ rens

/-- one that meets none of those ahead of it goes first -/
theorem front : ∀ (A : List Oper) (i : Oper) (B : List Oper) {c c' : Cf} {fs : List Fp}, Inv c → runOpsF P call h ops (A ++ i :: B) c = some (c', fs) → (∀ fi, fs[A.length]? = some fi → ∀ f ∈ fs.take A.length, apartFp f fi = true) →
    ∃ c1 d fi, fs[A.length]? = some fi ∧ runOpF P call h ops i c = some (c1, fi) ∧ runOpsF P call h ops (A ++ B) c1 = some (d, fs.take A.length ++ fs.drop (A.length + 1)) ∧ Eqv c' d
  | [], i, B, c, c', fs, hi, e, hp => by
    simp only [List.nil_append, runOpsF, Option.bind_eq_some_iff, Option.map_eq_some_iff, Prod.mk.injEq] at e
    obtain ⟨⟨c1, f⟩, e1, ⟨c2, fs'⟩, e2, rfl, rfl⟩ := e
    exact ⟨c1, c2, f, rfl, e1, by simpa using e2, .refl _⟩
  | a :: A, i, B, c, c', fs, hi, e, hp => by
    simp only [List.cons_append, runOpsF, Option.bind_eq_some_iff, Option.map_eq_some_iff, Prod.mk.injEq] at e
    obtain ⟨⟨ca, fa⟩, e1, ⟨c2, fs'⟩, e2, rfl, rfl⟩ := e
    simp only at e2
    obtain ⟨c1, d, fi, g1, g2, g3, g4⟩ := front A i B (hi.step e1) e2 (fun fi q f hf => hp fi (by simpa using q) f (by simp [hf]))
    have hap := hp fi (by simpa using g1) fa (by simp)
    obtain ⟨d1, d2, p1, p2, p3⟩ := swap hi e1 g2 hap
    obtain ⟨d3, r1, r2⟩ := runOpsF_congr _ p3 g3
    refine ⟨d1, d3, fi, by simpa using g1, p1, ?_, g4.trans r2⟩
    simp only [List.cons_append, runOpsF, p2, Option.bind_some, r1, Option.map_some, List.length_cons, List.take_succ_cons, List.drop_succ_cons]
end
end Go.Am
/- The abstract machine: a region against the machine's rule: one that keeps the text's order, and one that draws it. -/
namespace Go.Am
open Go Go.RowKit
set_option linter.unusedSimpArgs false
set_option linter.unusedVariables false

/-! ### what goes before what -/
theorem befOf_fold (acc : List Nat) (x : Nat) : ∀ (l : List Edge) (m : Nat), (l.foldl (fun m e => if Region.binds .any e then m ||| 2 ^ e.on ||| (acc[e.on]?).getD 0 else m) m).testBit x = true →
    m.testBit x = true ∨ ∃ e ∈ l, Region.binds .any e = true ∧ (x = e.on ∨ ((acc[e.on]?).getD 0).testBit x = true)
  | [], m, h => .inl h
  | e :: l, m, h => by
    simp only [List.foldl_cons] at h
    rcases befOf_fold acc x l _ h with q | ⟨e', h1, h2⟩
    · split at q
      · rename_i hb
        simp only [Nat.testBit_or, Bool.or_eq_true, Nat.testBit_two_pow, decide_eq_true_eq] at q
        rcases q with (q | q) | q
        · exact .inl q
        · exact .inr ⟨e, by simp, hb, .inl q.symm⟩
        · exact .inr ⟨e, by simp, hb, .inr q⟩
      · exact .inl q
    · exact .inr ⟨e', by simp [h1], h2⟩
theorem befs_spec : ∀ (l : List Oper) (acc bs : List Nat), befs l acc = some bs → (∃ r, bs = acc ++ r) ∧ bs.length = acc.length + l.length ∧
    ∀ i o, l[i]? = some o → (∀ e ∈ o.after.toList, Region.binds .any e = true → e.on < acc.length + i) ∧ ∃ b, bs[acc.length + i]? = some b ∧ b = befOf (bs.take (acc.length + i)) o
  | [], acc, bs, h => by simp only [befs, Option.some.injEq] at h; subst h; exact ⟨⟨[], by simp⟩, by simp, by simp⟩
  | o :: l, acc, bs, h => by
    simp only [befs] at h
    split at h
    · rename_i hall
      obtain ⟨⟨r, hr⟩, h2, h3⟩ := befs_spec l _ bs h
      simp only [List.length_append, List.length_cons, List.length_nil] at h2 h3
      refine ⟨⟨befOf acc o :: r, by rw [hr]; simp⟩, by simp only [List.length_cons]; omega, fun i o' ho => ?_⟩
      cases i with
      | zero =>
        simp only [List.getElem?_cons_zero, Option.some.injEq] at ho
        subst ho
        refine ⟨fun e he hb => ?_, befOf acc o, by rw [hr]; simp, ?_⟩
        · have := List.all_eq_true.1 hall e he
          simpa [hb] using this
        · rw [hr]; simp
      | succ i =>
        simp only [List.getElem?_cons_succ] at ho
        obtain ⟨q1, q2⟩ := h3 i o' ho
        have e1 : acc.length + (0 + 1) + i = acc.length + (i + 1) := by omega
        rw [e1] at q1 q2
        exact ⟨q1, q2⟩
    · cases h
theorem checkRow_spec (b : Nat) (f : Fp) : ∀ (l : List Fp) (j : Nat), checkRow b f j l = true → ∀ i g, l[i]? = some g → b.testBit (j + i) = false → apartFp g f = true
  | [], j, _, i, g, hg, _ => by simp at hg
  | a :: l, j, h, i, g, hg, hb => by
    simp only [checkRow, Bool.and_eq_true, Bool.or_eq_true] at h
    cases i with
    | zero =>
      simp only [List.getElem?_cons_zero, Option.some.injEq] at hg
      subst hg
      rcases h.1 with q | q
      · rw [Nat.add_zero] at hb; rw [hb] at q; cases q
      · exact q
    | succ i =>
      simp only [List.getElem?_cons_succ] at hg
      exact checkRow_spec b f l (j + 1) h.2 i g hg (by rw [show j + 1 + i = j + (i + 1) by omega]; exact hb)
theorem checkF_spec (all : List Fp) : ∀ (bs : List Nat) (fs : List Fp) (i : Nat), checkF all i bs fs = true → ∀ j b f, bs[j]? = some b → fs[j]? = some f → checkRow b f 0 (all.take (i + j)) = true
  | [], fs, i, _, j, b, f, hb, _ => by simp at hb
  | b0 :: bs, [], i, _, j, b, f, _, hf => by simp at hf
  | b0 :: bs, f0 :: fs, i, h, j, b, f, hb, hf => by
    simp only [checkF, Bool.and_eq_true] at h
    cases j with
    | zero =>
      simp only [List.getElem?_cons_zero, Option.some.injEq] at hb hf
      subst hb; subst hf
      exact h.1
    | succ j =>
      simp only [List.getElem?_cons_succ] at hb hf
      have := checkF_spec all bs fs (i + 1) h.2 j b f hb hf
      rwa [show i + 1 + j = i + (j + 1) by omega] at this

section
variable {P : Program} {A : Av} {call : CallF} {hint : Hint}

theorem SR.drawn {s : St} {a : Act} {w : World} {n : Nat} (hs : SR A s a w) : SR A s a { w with drawn := n } := by
  obtain ⟨ρ, S, hd, h, hv⟩ := hs
  have ext : Ext (cxOf A s.H.length ρ S [] w) (cxOf A s.H.length ρ S [] { w with drawn := n }) := ⟨fun t b hp => ⟨hp, rfl⟩, Nat.le_refl _, fun _ _ => rfl⟩
  refine ⟨ρ, S, hd, ⟨fun r t ht => TC.ext ext _ _ _ (fun _ _ => rfl) (h.cont r t ht), h.gone, h.obj, fun n es he => ?_, h.dis, h.blk, by simp, ⟨h.fr.os, h.fr.tape, h.fr.output, h.fr.size, h.fr.kept⟩, h.Fold, h.rho⟩, fun t => ?_⟩
  · obtain ⟨m1, en, cl, m2, m3⟩ := h.map n es he
    exact ⟨m1, en, cl, m2, m3.imp (fun a _ b ⟨q1, y, q2, q3⟩ => ⟨VV.ext ext q1, y, q2, VV.ext ext q3⟩)⟩
  · exact SO.keep ext (fun r q => h.hold (k' := s.wk) (hd' := hd) _ rfl rfl (fun _ _ => rfl) q) (hv t)

theorem runOp_evalO {ops : List Oper} {o : Oper} {s : St} : runOp P call hint ops o s = (evalO P call hint ops o s).map fun (w, v, k) => s.fin o.dst v k := by
  unfold runOp evalO
  cases wantE ops s o with
  | none => rfl
  | some w =>
    cases w with
    | true => simp only [Option.bind_some, if_true, Option.map_map]; rfl
    | false => rfl
theorem runOpF_op {ops : List Oper} {o : Oper} {c d : Cf} {f : Fp} (e : runOpF P call hint ops o c = some (d, f)) : runOp P call hint ops o c.1 = some d.1 := by
  obtain ⟨w, v, k, e1, rfl, rfl⟩ := runOpF_some e
  rw [runOp_evalO, e1]; rfl
theorem runOpsF_len {ops : List Oper} : ∀ (l : List Oper) {c d : Cf} {fs : List Fp}, runOpsF P call hint ops l c = some (d, fs) → fs.length = l.length
  | [], c, d, fs, e => by simp only [runOpsF, Option.some.injEq, Prod.mk.injEq] at e; rw [← e.2]; rfl
  | o :: l, c, d, fs, e => by
    simp only [runOpsF, Option.bind_eq_some_iff, Option.map_eq_some_iff, Prod.mk.injEq] at e
    obtain ⟨⟨c1, f⟩, _, ⟨c2, fs'⟩, e2, _, rfl⟩ := e
    simp [runOpsF_len l e2]

/-- the text's order -/
theorem runOps_ok (hc : CallOK P call) {ops : Array Oper} {Q : Exit → Act → World → Prop} {D : List Deferred} {N : Nat} : ∀ (l : List Oper) {s s' : St} {a : Act} {w : World}, SR A s a w → a.defers = D → a.tmps.size = N → (∀ o ∈ l, ∀ d, o.dst = some d → d < N) → runOps P call hint ops.toList l s = some s' →
    (∀ a' w', SR A s' a' w' → a'.defers = D → a'.tmps.size = N → Q .normal a' w') → wpList P ops Q l a w
  | [], s, s', a, w, hs, h1, h2, hd, e, hQ => by
    simp only [runOps, Option.some.injEq] at e
    subst e
    exact hQ a w hs h1 h2
  | o :: l, s, s', a, w, hs, h1, h2, hd, e, hQ => by
    simp only [runOps, Option.bind_eq_some_iff] at e
    obtain ⟨s1, e1, e2⟩ := e
    refine wpList_step fun K hK => runOp_ok hc hs (fun d q => by rw [h2]; exact hd o (by simp) d q) e1 fun a' w' g1 g2 g3 => hK _ _ ?_
    exact runOps_ok hc l g1 (g2.trans h1) (g3.trans h2) (fun o' ho => hd o' (by simp [ho])) e2 hQ

theorem filterMap_len {α : Type} (l : List α) : ∀ (L : List Nat), (∀ i ∈ L, i < l.length) → (L.filterMap fun i => l[i]?).length = L.length
  | [], _ => rfl
  | i :: L, h => by
    have hi := h i (by simp)
    rw [List.filterMap_cons, List.getElem?_eq_getElem hi]
    simp [filterMap_len l L (fun j hj => h j (by simp [hj]))]

theorem setTrue (listed : Array Bool) (i j : Nat) (hi : i < listed.size) : (listed.setIfInBounds i true).getD j true = if j = i then true else listed.getD j true := by
  by_cases h : j = i
  · subst h; simp [hi]
  · rw [if_neg h]; simp [Array.getD_eq_getD_getElem?, Array.getElem?_setIfInBounds_ne (Ne.symm h)]
theorem getD_tf {listed : Array Bool} {i : Nat} (hi : i < listed.size) : listed.getD i false = listed.getD i true := by simp [Array.getD_eq_getD_getElem?, hi]

/-- any order -/
theorem wpAny_ok (hc : CallOK P call) {ops : Array Oper} {bs : List Nat} (hb : befs ops.toList [] = some bs) {Q : Exit → Act → World → Prop} {D : List Deferred} {N : Nat} (hd : ∀ o ∈ ops.toList, ∀ d, o.dst = some d → d < N) :
    ∀ (m : Nat) (listed : Array Bool) (fs : List Fp) (c c' : Cf) (a : Act) (w : World), listed.size = ops.size → ((List.range ops.size).filter fun i => !listed.getD i true).length = m →
      (∀ i b, listed.getD i false = true → bs[i]? = some b → ∀ x, b.testBit x = true → listed.getD x false = true) →
      Inv c → SR A c.1 a w → a.defers = D → a.tmps.size = N →
      runOpsF P call hint ops.toList (((List.range ops.size).filter fun i => !listed.getD i true).filterMap fun i => ops.toList[i]?) c = some (c', fs) →
      (((List.range ops.size).filter fun i => !listed.getD i true).zip fs).Pairwise (fun x y => ∀ b, bs[y.1]? = some b → b.testBit x.1 = false → apartFp x.2 y.2 = true) →
      (∀ c2 a' w', Eqv c' c2 → SR A c2.1 a' w' → a'.defers = D → a'.tmps.size = N → Q .normal a' w') → wpAny P .any ops Q m listed a w := by
  obtain ⟨_, hbl, hbs⟩ := befs_spec _ _ _ hb
  simp only [List.length_nil, Nat.zero_add, Array.length_toList] at hbl hbs
  have hbs' : ∀ i o, ops[i]? = some o → (∀ e ∈ o.after.toList, Region.binds .any e = true → e.on < i) ∧ ∃ b, bs[i]? = some b ∧ b = befOf (bs.take i) o := fun i o ho => hbs i o (by rw [Array.getElem?_toList]; exact ho)
  intro m
  induction m with
  | zero =>
    intro listed fs c c' a w hsz hm hcl hinv hs h1 h2 e hpw hQ
    have hnil := List.eq_nil_of_length_eq_zero hm
    rw [hnil] at e
    simp only [List.filterMap_nil, runOpsF, Option.some.injEq, Prod.mk.injEq] at e
    obtain ⟨rfl, _⟩ := e
    refine ⟨?_, hQ c a w (.refl _) hs h1 h2⟩
    refine List.eq_nil_iff_forall_not_mem.2 fun i hi => ?_
    simp only [Region.ready, List.mem_filter, Bool.and_eq_true] at hi
    have : i ∈ (List.range ops.size).filter fun i => !listed.getD i true := List.mem_filter.2 ⟨hi.1, hi.2.1⟩
    rw [hnil] at this
    cases this
  | succ m ih =>
    intro listed fs c c' a w hsz hm hcl hinv hs h1 h2 e hpw hQ
    refine ⟨fun hr => ?_, fun i hi => ?_⟩
    · -- the first that is left is ready
      exfalso
      generalize hL : ((List.range ops.size).filter fun i => !listed.getD i true) = L at hm
      cases L with
      | nil => cases hm
      | cons l0 L =>
        have hl0 : l0 ∈ (List.range ops.size).filter fun i => !listed.getD i true := by rw [hL]; simp
        obtain ⟨q1, q2⟩ := List.mem_filter.1 hl0
        have hlt : l0 < ops.size := by simpa using q1
        obtain ⟨o, ho⟩ : ∃ o, ops[l0]? = some o := ⟨_, Array.getElem?_eq_getElem hlt⟩
        have : l0 ∈ Region.ready .any ops listed := by
          simp only [Region.ready, List.mem_filter, Bool.and_eq_true]
          refine ⟨q1, q2, ?_⟩
          rw [ho]
          simp only [Option.map_some, Option.getD_some]
          rw [Array.all_eq_true']
          intro e he
          cases hbe : Region.binds .any e with
          | false => rfl
          | true =>
            have hon := (hbs' l0 o ho).1 e (by simpa using he) hbe
            simp only [Bool.not_true, Bool.false_or]
            rw [getD_tf (by omega)]
            cases hx : listed.getD e.on true with
            | true => rfl
            | false =>
              have hmem : e.on ∈ (List.range ops.size).filter fun i => !listed.getD i true := List.mem_filter.2 ⟨by simp; omega, by simp [hx]⟩
              have hsorted : ((List.range ops.size).filter fun i => !listed.getD i true).Pairwise (· < ·) := List.Pairwise.filter _ List.pairwise_lt_range
              rw [hL] at hmem hsorted
              rw [List.pairwise_cons] at hsorted
              rcases List.mem_cons.1 hmem with h | h
              · omega
              · have := hsorted.1 _ h; omega
        rw [hr] at this
        cases this
    · simp only [Region.ready, List.mem_filter, Bool.and_eq_true] at hi
      obtain ⟨q1, q2, q3⟩ := hi
      have hlt : i < ops.size := by simpa using q1
      obtain ⟨o, ho⟩ : ∃ o, ops[i]? = some o := ⟨_, Array.getElem?_eq_getElem hlt⟩
      rw [ho] at q3
      simp only [Option.map_some, Option.getD_some] at q3
      rw [Array.all_eq_true'] at q3
      have hun : listed.getD i true = false := by simpa using q2
      have hmem : i ∈ (List.range ops.size).filter fun i => !listed.getD i true := List.mem_filter.2 ⟨q1, q2⟩
      obtain ⟨LA, LB, hL⟩ := List.append_of_mem hmem
      have hall : ∀ x ∈ LA ++ i :: LB, x < ops.size ∧ listed.getD x true = false := fun x hx => by
        rw [← hL] at hx
        obtain ⟨a1, a2⟩ := List.mem_filter.1 hx
        exact ⟨by simpa using a1, by simpa using a2⟩
      have hsorted : (LA ++ i :: LB).Pairwise (· < ·) := by rw [← hL]; exact List.Pairwise.filter _ List.pairwise_lt_range
      have hnd : (LA ++ i :: LB).Nodup := hsorted.imp (fun h => Nat.ne_of_lt h)
      rw [hL] at e hpw hm
      have hoi : ops.toList[i]? = some o := by rw [Array.getElem?_toList]; exact ho
      have hlenA := filterMap_len ops.toList LA (fun x hx => by rw [Array.length_toList]; exact (hall x (by simp [hx])).1)
      have hlenB := filterMap_len ops.toList LB (fun x hx => by rw [Array.length_toList]; exact (hall x (by simp [hx])).1)
      rw [List.filterMap_append, List.filterMap_cons, hoi] at e
      simp only at e
      have hlen := runOpsF_len _ e
      simp only [List.length_append, List.length_cons, hlenA, hlenB] at hlen
      -- those ahead of it that are left need not go before it
      obtain ⟨hedge, b, hbi, hbo⟩ := hbs' i o ho
      have hfree : ∀ x ∈ LA, b.testBit x = false := fun x hx => by
        cases hbx : b.testBit x with
        | false => rfl
        | true =>
          exfalso
          have hux := (hall x (by simp [hx])).2
          rw [hbo] at hbx
          rcases befOf_fold _ x _ 0 hbx with q | ⟨ed, he, hbe, q⟩
          · simp at q
          · have hon := hedge ed he hbe
            have hlis : listed.getD ed.on false = true := by
              have := q3 ed (by simpa using he)
              simpa [hbe] using this
            rcases q with rfl | q
            · rw [getD_tf (by omega), hux] at hlis; cases hlis
            · rw [List.getElem?_take, if_pos hon] at q
              cases hbe2 : bs[ed.on]? with
              | none => rw [hbe2] at q; simp at q
              | some b2 =>
                rw [hbe2] at q
                have := hcl ed.on b2 hlis hbe2 x q
                rw [getD_tf (by have := (hall x (by simp [hx])).1; omega), hux] at this
                cases this
      -- the footprints, parted
      obtain ⟨fA, fi0, fB, hfs, hfA⟩ : ∃ fA fi fB, fs = fA ++ fi :: fB ∧ fA.length = LA.length := by
        have hlt' : LA.length < fs.length := by omega
        refine ⟨fs.take LA.length, fs[LA.length], fs.drop (LA.length + 1), ?_, by simp; omega⟩
        rw [List.getElem_cons_drop]
        exact (List.take_append_drop _ _).symm
      subst hfs
      rw [List.zip_append (by omega), List.zip_cons_cons] at hpw
      obtain ⟨c1, d, fi, g1, g2, g3, g4⟩ := front _ o _ hinv e (fun fi hfi f hf => by
        rw [hlenA, ← hfA] at hfi hf
        simp only [List.getElem?_append_right (Nat.le_refl _), Nat.sub_self, List.getElem?_cons_zero, Option.some.injEq] at hfi
        subst hfi
        rw [List.take_left'] at hf
        · obtain ⟨p, hp, rfl⟩ := List.getElem_of_mem hf
          have hz : (LA[p]'(by omega), fA[p]) ∈ LA.zip fA := List.mem_iff_getElem.2 ⟨p, by simp; omega, by simp⟩
          exact (List.pairwise_append.1 hpw).2.2 _ hz (i, fi0) (by simp) b hbi (hfree _ (by simp))
        · rfl)
      rw [hlenA, ← hfA] at g1 g3
      simp only [List.getElem?_append_right (Nat.le_refl _), Nat.sub_self, List.getElem?_cons_zero, Option.some.injEq] at g1
      subst g1
      have e3 : (fA ++ fi0 :: fB).take fA.length ++ (fA ++ fi0 :: fB).drop (fA.length + 1) = fA ++ fB := by simp
      rw [e3] at g3
      -- what is left behind it
      have hset : ∀ x, (listed.setIfInBounds i true).getD x true = if x = i then true else listed.getD x true := fun x => setTrue listed i x (by omega)
      have hL2 : ((List.range ops.size).filter fun x => !(listed.setIfInBounds i true).getD x true) = LA ++ LB := by
        have e1 : ((List.range ops.size).filter fun x => !(listed.setIfInBounds i true).getD x true) = ((List.range ops.size).filter fun x => !listed.getD x true).filter fun x => decide (x ≠ i) := by
          rw [List.filter_filter]
          refine List.filter_congr fun x _ => ?_
          rw [hset]
          by_cases hx : x = i
          · simp [hx]
          · simp [hx]
        rw [e1, hL, List.filter_append, List.filter_cons]
        have n1 := List.nodup_append.1 hnd
        rw [List.filter_eq_self.2 (fun x hx => by
          simp only [decide_eq_true_eq]
          exact fun h => n1.2.2 x hx i (by simp) h), List.filter_eq_self.2 (fun x hx => by
          simp only [decide_eq_true_eq]
          intro h
          subst h
          exact (List.nodup_cons.1 n1.2.1).1 hx)]
        simp
      unfold wpOp
      rw [ho]
      simp only
      have main := runOp_ok (Q := Q) hc hs (fun d q => by rw [h2]; exact hd o (List.mem_of_getElem? hoi) d q) (runOpF_op g2) (K := wpAny P .any ops Q m (listed.setIfInBounds i true)) (fun a' w' k1 k2 k3 => by
        refine ih (listed.setIfInBounds i true) (fA ++ fB) c1 d a' w' (by simpa using hsz) ?_ (fun j bj hj hbj x hx => ?_) (hinv.step g2) k1 (k2.trans h1) (k3.trans h2) ?_ ?_ (fun c2 a2 w2 p1 => hQ c2 a2 w2 (g4.trans p1))
        · rw [hL2]; simp only [List.length_append, List.length_cons] at hm ⊢; omega
        · have hjs : j < (listed.setIfInBounds i true).size := by
            rcases Nat.lt_or_ge j (listed.setIfInBounds i true).size with q | q
            · exact q
            · simp [Array.getD_eq_getD_getElem?, Array.getElem?_eq_none q] at hj
          have old : ∀ y, listed.getD y false = true → (listed.setIfInBounds i true).getD y false = true := fun y hy => by
            have hys : y < listed.size := by
              rcases Nat.lt_or_ge y listed.size with q | q
              · exact q
              · simp [Array.getD_eq_getD_getElem?, Array.getElem?_eq_none q] at hy
            rw [getD_tf (by simpa using hys), hset]
            by_cases hyi : y = i
            · rw [if_pos hyi]
            · rw [if_neg hyi]; exact (getD_tf hys).symm.trans hy
          by_cases hji : j = i
          · subst hji
            rw [hbi] at hbj
            simp only [Option.some.injEq] at hbj
            subst hbj
            rw [hbo] at hx
            rcases befOf_fold _ x _ 0 hx with q | ⟨ed, he, hbe, q⟩
            · simp at q
            · have hlis : listed.getD ed.on false = true := by
                have := q3 ed (by simpa using he)
                simpa [hbe] using this
              rcases q with rfl | q
              · exact old _ hlis
              · rw [List.getElem?_take, if_pos (hedge ed he hbe)] at q
                cases hbe2 : bs[ed.on]? with
                | none => rw [hbe2] at q; simp at q
                | some b2 =>
                  rw [hbe2] at q
                  exact old _ (hcl ed.on b2 hlis hbe2 x q)
          · rw [getD_tf hjs, hset, if_neg hji] at hj
            have hjs' : j < listed.size := by simpa using hjs
            rw [← getD_tf hjs'] at hj
            exact old _ (hcl j bj hj hbj x hx)
        · rw [hL2, List.filterMap_append]; exact g3
        · rw [hL2, List.zip_append (by omega)]
          refine hpw.sublist ?_
          exact List.Sublist.append (List.Sublist.refl _) (List.sublist_cons_self _ _))
      split
      · rename_i hw
        rw [if_pos hw] at main
        exact .inl main
      · rename_i hw
        rw [if_neg hw] at main
        exact main

theorem Inv.start (s : St) : Inv (s, hist0 s) := fun t r hr => by
  have : histOf (hist0 s) t = (s.get t).srts := by
    simp only [histOf, hist0, St.get, look_map]
    cases look s.env t with
    | none => rfl
    | some u => rfl
  rw [this]; exact hr

/-- a region that draws its order -/
theorem region_any (hc : CallOK P call) (hm : P.follows .mixedOrders = true) {id : Nat} {ops : Array Oper} {Q : Exit → Act → World → Prop} {s : St} {c' : Cf} {fs : List Fp} {a : Act} {w : World} (hs : SR A s a w) (hd : ∀ o ∈ ops.toList, ∀ d, o.dst = some d → d < a.tmps.size)
    (e : runOpsF P call hint ops.toList ops.toList (s, hist0 s) = some (c', fs)) (hk : checkR ops.toList fs = true)
    (hQ : ∀ c2 a' w', Eqv c' c2 → SR A c2.1 a' w' → a'.defers = a.defers → a'.tmps.size = a.tmps.size → Q .normal a' w') : (Code.region id ops true).wp P Q a w := by
  unfold checkR at hk
  split at hk
  · rename_i bs hb
    have hbl := (befs_spec _ _ _ hb).2.1
    simp only [List.length_nil, Nat.zero_add, Array.length_toList] at hbl
    have hlen := runOpsF_len _ e
    rw [Array.length_toList] at hlen
    have hall : ((List.range ops.size).filter fun i => !(Array.replicate ops.size false).getD i true) = List.range ops.size := by
      refine List.filter_eq_self.2 fun x hx => ?_
      have : x < ops.size := by simpa using hx
      simp [Array.getD_eq_getD_getElem?, this]
    have hfm : (List.range ops.size).filterMap (fun i => ops.toList[i]?) = ops.toList := by
      have : ∀ (l pre : List Oper), (List.range' pre.length l.length).filterMap (fun i => (pre ++ l)[i]?) = l := fun l => by
        induction l with
        | nil => intro pre; rfl
        | cons x l ih =>
          intro pre
          rw [List.length_cons, List.range'_succ, List.filterMap_cons]
          have e1 : (pre ++ x :: l)[pre.length]? = some x := by simp
          rw [e1]
          have := ih (pre ++ [x])
          simp only [List.length_append, List.length_singleton, List.append_assoc, List.singleton_append] at this
          simp only [this]
      have := this ops.toList []
      rw [List.length_nil, ← List.range_eq_range', Array.length_toList] at this
      exact this
    refine wp_region_any hm (wpAny_ok (hint := hint) (D := a.defers) (N := a.tmps.size) hc hb hd ops.size _ fs (s, hist0 s) c' a _ (by simp) (by rw [hall]; simp) (fun i b hi => ?_) (Inv.start s) hs.drawn rfl rfl ?_ ?_ hQ)
    · exfalso
      by_cases hlt : i < ops.size
      · simp [Array.getD_eq_getD_getElem?, hlt] at hi
      · simp [Array.getD_eq_getD_getElem?, hlt] at hi
    · rw [hall, hfm]; exact e
    · rw [hall, List.pairwise_iff_getElem]
      intro i j hi hj hij b hbj hbf
      simp only [List.getElem_zip, List.getElem_range] at hbj hbf ⊢
      simp only [List.length_zip, List.length_range, hlen, Nat.min_self] at hi hj
      have := checkF_spec fs bs fs 0 hk j b (fs[j]'(by omega)) hbj (List.getElem?_eq_getElem _)
      exact checkRow_spec b _ _ 0 this i _ (by rw [Nat.zero_add, List.getElem?_take, if_pos hij]; exact List.getElem?_eq_getElem _) (by simpa using hbf)
  · cases hk
end
end Go.Am
/- The abstract machine: code, loops, whole functions: what the abstract machine answers, the machine does. -/
namespace Go.Am
open Go Go.RowKit
set_option linter.unusedSimpArgs false
set_option linter.unusedVariables false

def Ex.exit' : Ex → Exit
  | .normal => .normal
  | .exit id => .exit id
  | .ret => .ret

section
variable {P : Program} {A : Av} {call : CallF} {hint : Hint}

theorem prune_eqv {c c' : Cf} (q : Eqv c c') (live : List Nat) : prune live c'.1 = prune live c.1 := by
  have : (live.map fun t => (t, c'.1.get t)) = live.map fun t => (t, c.1.get t) := List.map_congr_left fun t _ => by rw [q.get]
  have hp : ∀ l, pick c'.1.ct l = pick c.1.ct l := fun l => by
    induction l with
    | nil => rfl
    | cons x l ih => simp only [pick, q.ct, ih]
  simp only [Go.Am.prune, this, hp, q.H]
theorem opsOk_spec {n : Nat} {ops : Array Oper} (h : opsOk n ops = true) : ∀ o ∈ ops.toList, ∀ d, o.dst = some d → d < n := fun o ho d hd => by
  have := List.all_eq_true.1 h o ho
  rw [hd] at this
  simpa using this

theorem region_text (hc : CallOK P call) {id : Nat} {ops : Array Oper} {Q : Exit → Act → World → Prop} {s s' : St} {a : Act} {w : World} (hs : SR A s a w) (hd : ∀ o ∈ ops.toList, ∀ d, o.dst = some d → d < a.tmps.size)
    (e : runOps P call hint ops.toList ops.toList s = some s') (hQ : ∀ a' w', SR A s' a' w' → a'.defers = a.defers → a'.tmps.size = a.tmps.size → Q .normal a' w') : (Code.region id ops false).wp P Q a w :=
  wp_region (by rw [List.range_eq_range', ← Array.length_toList, wpOps_eq_wpList ops.toList 0 (by simp)]; exact runOps_ok (hint := hint) hc ops.toList hs rfl rfl hd e hQ)

theorem codeN_ok (hc : CallOK P call) (hm : P.follows .mixedOrders = true) (fuel : Nat) : ∀ (c : Code) {s s' : St} {ex : Ex} {a : Act} {w : World} {Q : Exit → Act → World → Prop}, codeN P call hint fuel c s = some (ex, s') → SR A s a w → codeOk a.tmps.size c = true →
    (∀ a' w', SR A s' a' w' → a'.defers = a.defers → a'.tmps.size = a.tmps.size → Q ex.exit' a' w') → c.wp P Q a w
  | .skip, s, s', ex, a, w, Q, e, hs, hk, hQ => by
    simp only [codeN, Option.some.injEq, Prod.mk.injEq] at e
    obtain ⟨rfl, rfl⟩ := e
    exact wp_skip (hQ a w hs rfl rfl)
  | .label l, s, s', ex, a, w, Q, e, hs, hk, hQ => by
    simp only [codeN, Option.some.injEq, Prod.mk.injEq] at e
    obtain ⟨rfl, rfl⟩ := e
    exact wp_label (hQ a w hs rfl rfl)
  | .ret, s, s', ex, a, w, Q, e, hs, hk, hQ => by
    simp only [codeN, Option.some.injEq, Prod.mk.injEq] at e
    obtain ⟨rfl, rfl⟩ := e
    exact wp_ret (hQ a w hs rfl rfl)
  | .exit id, s, s', ex, a, w, Q, e, hs, hk, hQ => by
    simp only [codeN, Option.some.injEq, Prod.mk.injEq] at e
    obtain ⟨rfl, rfl⟩ := e
    exact wp_exit (hQ a w hs rfl rfl)
  | .region id ops dr, s, s', ex, a, w, Q, e, hs, hk, hQ => by
    simp only [codeOk] at hk
    simp only [codeN] at e
    cases dr with
    | true =>
      simp only [if_true, Option.bind_eq_some_iff] at e
      obtain ⟨⟨c', fs⟩, e1, e⟩ := e
      simp only at e
      split at e
      · rename_i hck
        simp only [Option.some.injEq, Prod.mk.injEq] at e
        obtain ⟨rfl, rfl⟩ := e
        refine region_any hc hm hs (opsOk_spec hk) e1 hck fun c2 a' w' q1 q2 q3 q4 => hQ a' w' ?_ q3 q4
        rw [← prune_eqv q1]
        exact q2.prune _
      · cases e
    | false =>
      simp only [Bool.false_eq_true, if_false, Option.map_eq_some_iff, Prod.mk.injEq] at e
      obtain ⟨s1, e1, rfl, rfl⟩ := e
      exact region_text hc hs (opsOk_spec hk) e1 fun a' w' q2 q3 q4 => hQ a' w' (q2.prune _) q3 q4
  | .seq x y, s, s', ex, a, w, Q, e, hs, hk, hQ => by
    simp only [codeOk, Bool.and_eq_true] at hk
    simp only [codeN, Option.bind_eq_some_iff] at e
    obtain ⟨⟨ex1, s1⟩, e1, e2⟩ := e
    refine wp_seq (codeN_ok hc hm fuel x e1 hs hk.1 fun a' w' g1 g2 g3 => ?_)
    simp only at e2
    split at e2
    · refine codeN_ok hc hm fuel y e2 g1 (by rw [g3]; exact hk.2) fun a2 w2 p1 p2 p3 => hQ a2 w2 p1 (p2.trans g2) (p3.trans g3)
    · rename_i ex0 hne
      simp only [Option.some.injEq, Prod.mk.injEq] at e2
      obtain ⟨rfl, rfl⟩ := e2
      cases ex1 with
      | normal => exact absurd rfl hne
      | exit id => exact hQ a' w' g1 g2 g3
      | ret => exact hQ a' w' g1 g2 g3
  | .cond c x y, s, s', ex, a, w, Q, e, hs, hk, hQ => by
    simp only [codeOk, Bool.and_eq_true] at hk
    simp only [codeN] at e
    have hs0 := hs
    obtain ⟨ρ, S, hd, h, hv⟩ := hs0
    have hcv := SR.val hv c
    split at e
    · rename_i t ht
      rw [ht] at hcv
      refine wp_cond (VV.of_bool hcv) ?_
      cases t with
      | true => exact codeN_ok hc hm fuel x e hs hk.1 hQ
      | false => exact codeN_ok hc hm fuel y e hs hk.2 hQ
    · cases e
  | .block id c, s, s', ex, a, w, Q, e, hs, hk, hQ => by
    simp only [codeOk] at hk
    simp only [codeN, Option.map_eq_some_iff, Prod.mk.injEq] at e
    obtain ⟨⟨ex1, s1⟩, e1, e2, rfl⟩ := e
    refine wp_block (codeN_ok hc hm fuel c e1 hs hk fun a' w' g1 g2 g3 => ?_)
    have := hQ a' w' g1 g2 g3
    simp only at e2
    cases ex1 with
    | normal => simp at e2; subst e2; exact this
    | ret => simp at e2; subst e2; exact this
    | exit id' =>
      simp only [Ex.exit', Exit.inBlock]
      by_cases hid : id' = id
      · subst hid; rw [if_pos rfl] at e2 ⊢; subst e2; exact this
      · rw [if_neg hid]; rw [if_neg (by simp [hid])] at e2; subst e2; exact this
  | .loop c, s, s', ex, a, w, Q, e, hs, hk, hQ => by
    simp only [codeOk] at hk
    simp only [codeN] at e
    refine wp_loop_rounds fuel ?_
    have key : ∀ (n : Nat) (s : St) (a1 : Act) (w1 : World), loopN (codeN P call hint fuel c) n s = some (ex, s') → SR A s a1 w1 → a1.defers = a.defers → a1.tmps.size = a.tmps.size → Code.rounds P c Q n a1 w1 := by
      intro n
      induction n with
      | zero => intro s a1 w1 e; cases e
      | succ n ih =>
        intro s a1 w1 e hs h1 h2
        simp only [loopN, Option.bind_eq_some_iff] at e
        obtain ⟨⟨ex1, s1⟩, e1, e2⟩ := e
        rw [rounds_succ]
        refine codeN_ok hc hm fuel c e1 hs (by rw [h2]; exact hk) fun a' w' g1 g2 g3 => ?_
        simp only at e2
        split at e2
        · exact ih s1 a' w' e2 g1 (g2.trans h1) (g3.trans h2)
        · rename_i ex0 hne
          simp only [Option.some.injEq, Prod.mk.injEq] at e2
          obtain ⟨rfl, rfl⟩ := e2
          cases ex1 with
          | normal => exact absurd rfl hne
          | exit id => exact hQ a' w' g1 (g2.trans h1) (g3.trans h2)
          | ret => exact hQ a' w' g1 (g2.trans h1) (g3.trans h2)
    exact key fuel s a w e hs rfl rfl
  | .scope c, s, s', ex, a, w, Q, e, hs, hk, hQ => by
    simp only [codeOk] at hk
    simp only [codeN] at e
    refine wp_scope_straight (codeN_ok hc hm fuel c e hs hk fun a' w' g1 g2 g3 => ?_)
    have := hQ a' w' g1 g2 g3
    cases ex <;> exact this
  | .rangeFunc _ _ _ _, s, s', ex, a, w, Q, e, hs, hk, hQ => by simp [codeN] at e
  | .goto _, s, s', ex, a, w, Q, e, hs, hk, hQ => by simp [codeN] at e
  | .refuse _, s, s', ex, a, w, Q, e, hs, hk, hQ => by simp [codeN] at e

/-! ### a function's results -/
def retF (tmps : Array Value) : ResultVar → Sem Value
  | .tmp t => pure (tmps.getD t undef)
  | .cell p t => do loadVar t (← asAddr (tmps.getD p undef))
theorem retVals_ok {ρ : Nat → Nat} {S : Root → List Nat} {hd : Root → Value} {s : St} {a : Act} {w : World} (h : KR A ρ S hd [] s.wk [] w) (hv : ∀ t, SO (cxOf A s.H.length ρ S [] w) s.wk.get hd (s.get t) (a.tmps.getD t undef)) :
    ∀ (l : List ResultVar) (svs : List SV), retVals P s l = some svs → ∃ vs : List Value, (l.mapM (retF a.tmps)).run P w = .ok vs w ∧ All2 (fun u v => SO (cxOf A s.H.length ρ S [] w) s.wk.get hd u v) svs vs
  | [], svs, e => by
    simp only [retVals, Option.some.injEq] at e
    subst e
    exact ⟨[], by simp, rfl⟩
  | r :: l, svs, e => by
    simp only [retVals, Option.bind_eq_some_iff, Option.map_eq_some_iff] at e
    obtain ⟨u, e1, us, e2, rfl⟩ := e
    obtain ⟨vs, h1, h2⟩ := retVals_ok h hv l us e2
    have one : ∃ v, (retF a.tmps r).run P w = .ok v w ∧ SO (cxOf A s.H.length ρ S [] w) s.wk.get hd u v := by
      cases r with
      | tmp t =>
        simp only [retVal, Option.some.injEq] at e1
        subst e1
        exact ⟨_, rfl, hv t⟩
      | cell p t =>
        obtain ⟨val, q1, q2⟩ := loadE_ok h (hv p) e1
        exact ⟨val, run_sure q1, q2⟩
    obtain ⟨v, g1, g2⟩ := one
    refine ⟨v :: vs, ?_, v, vs, rfl, g2, h2⟩
    rw [List.mapM_cons]
    simp only [Sem.run_bind, g1, Result.andThen_ok, h1, Sem.run_pure]

theorem results_ok {fn : Func} {a : Act} {w : World} {vs : List Value} (h : (fn.results.toList.mapM (retF a.tmps)).run P w = .ok vs w) : (results fn a.tmps).run P w = .ok (tupV vs) w := by
  have e : results fn a.tmps = (do let vs ← fn.results.mapM (retF a.tmps); pure (if h : vs.size = 1 then vs[0] else .tuple vs)) := rfl
  rw [e, Array.mapM_eq_mapM_toList, map_eq_pure_bind]
  simp only [Sem.run_bind, h, Result.andThen_ok, Sem.run_pure]
  match vs with
  | [] => rfl
  | [x] => rfl
  | x :: y :: r => simp [tupV]

theorem frz_fits {b : Bool} {t : T} {x : D} {v : Value} (h : T.frz b t = some x) (hf : fitsT t v) : fits x v := by
  cases t with
  | d y => simp only [T.frz, Option.some.injEq] at h; subst h; exact fits_norm hf
  | own es => simp only [T.frz, Option.map_eq_some_iff] at h; obtain ⟨l, _, rfl⟩ := h; exact hf
  | agg cs => simp only [T.frz, Option.map_eq_some_iff] at h; obtain ⟨l, _, rfl⟩ := h; exact hf
  | dead => simp [T.frz] at h
theorem RetAll.frz {c c' : Cx} (hx : Ext c c') : ∀ (ts : List T) (vs : List Value) (M : List Nat) (xs : List D), T.frzs false ts = some xs → Pure c c' false M → RetAll c ts vs M → RetAll c' (xs.map T.d) vs []
  | [], vs, M, xs, e, _, h => by
    simp only [T.frzs, Option.some.injEq] at e
    subst e
    obtain ⟨rfl, rfl⟩ := h
    exact ⟨rfl, rfl⟩
  | t :: ts, vs, M, xs, e, hp, h => by
    simp only [T.frzs, Option.bind_eq_some_iff, Option.map_eq_some_iff] at e
    obtain ⟨x, e1, ys, e2, rfl⟩ := e
    obtain ⟨v, r, M1, M2, rfl, rfl, h3, h4, h5⟩ := h
    exact ⟨v, _, [], [], rfl, rfl, by simp only [TC]; exact ⟨trivial, T.frz_ok hx false t x _ M1 e1 hp.left h3⟩, frz_fits e1 h4, RetAll.frz hx ts r M2 ys e2 hp.right h5⟩

theorem RetAll.lend {c : Cx} (hm : ∀ b, c.pm false b → c.pm true b) : ∀ (xs : List D) (vs : List Value), RetAll c (xs.map T.d) vs [] → RetAll c ((D.lends xs).map T.d) vs []
  | [], vs, h => h
  | x :: xs, vs, h => by
    obtain ⟨v, r, M1, M2, rfl, hM, h3, h4, h5⟩ := h
    obtain ⟨rfl, rfl⟩ : M1 = [] ∧ M2 = [] := by simpa using hM.symm
    simp only [TC] at h3
    exact ⟨v, r, [], [], rfl, rfl, by simp only [TC]; exact ⟨trivial, VC.lend hm _ _ h3.2⟩, fits_lend h4, RetAll.lend hm xs r h5⟩
theorem RetAll.canon {c : Cx} (hm : ∀ b, c.pm false b → c.pm true b) {sn : Bool} {xs : List D} {vs : List Value} (h : RetAll c (xs.map T.d) vs []) : RetAll c ((canon sn xs).map T.d) vs [] := by
  unfold Go.Am.canon
  split
  · exact h
  · exact RetAll.lend hm xs vs h

theorem leave_ok {fn : Func} {s : St} {a : Act} {w : World} {ex : Ex} {own : Bool} {rs : List T} {H2 : List Ob} (hs : SR A s a w) (e : leave P own fn A.n0 (ex, s) = some (rs, H2)) :
    (∀ id, ex ≠ .exit id) ∧ ∃ v, (results fn a.tmps).run P w = .ok v w ∧ Over A H2 rs v w := by
  have hne : ∀ id, ex ≠ .exit id := fun id h => by subst h; simp [leave] at e
  refine ⟨hne, ?_⟩
  have e' : ((retVals P s fn.results.toList).bind fun vs => (absorbA vs s.wk).bind fun (ts, k) => (settle own ts).map fun ts => (ts, trunc A.n0 ts k.H)) = some (rs, H2) := by
    revert e hne
    cases ex with
    | exit id => intro e hne; exact absurd rfl (hne id)
    | _ => intro e _; exact e
  simp only [Option.bind_eq_some_iff, Option.map_eq_some_iff, Prod.mk.injEq] at e'
  obtain ⟨svs, e1, ⟨ts1, k⟩, e2, ts, e3, rfl, rfl⟩ := e'
  obtain ⟨ρ, S, hd, h, hv⟩ := hs
  obtain ⟨vs, h1, h2⟩ := retVals_ok h hv _ _ e1
  refine ⟨_, results_ok h1, ?_⟩
  have hk : KR A ρ S hd [] s.wk (svs.zip vs) w := h.withVals (fun p hp => by
    have : ∀ (svs : List SV) (vs : List Value), All2 (fun u v => SO (cxOf A s.H.length ρ S [] w) s.wk.get hd u v) svs vs → ∀ p ∈ svs.zip vs, SO (cxOf A s.H.length ρ S [] w) s.wk.get hd p.1 p.2 := by
      intro svs
      induction svs with
      | nil => intro vs _ p hp; simp at hp
      | cons u us ih =>
        intro vs ha p hp
        obtain ⟨v, r, rfl, q1, q2⟩ := ha
        rcases List.mem_cons.1 hp with rfl | hp
        · exact q1
        · exact ih r q2 p hp
    exact this svs vs h2 p hp)
  have hall : All2 (fun u v => (u, v) ∈ svs.zip vs) svs vs := by
    have : ∀ (svs : List SV) (vs : List Value) (L : List (SV × Value)), All2 (fun u v => SO (cxOf A s.H.length ρ S [] w) s.wk.get hd u v) svs vs → (∀ p ∈ svs.zip vs, p ∈ L) → All2 (fun u v => (u, v) ∈ L) svs vs := by
      intro svs
      induction svs with
      | nil => intro vs L ha _; exact ha
      | cons u us ih =>
        intro vs L ha hL
        obtain ⟨v, r, rfl, q1, q2⟩ := ha
        exact ⟨v, r, rfl, hL _ (by simp), ih r L q2 (fun p hp => hL p (by simp [hp]))⟩
    exact this svs vs _ h2 (fun p hp => hp)
  obtain ⟨S1, M1, g1, g2, g3, g4⟩ := absorbA_ok svs vs ts1 s.wk k S [] hk hall e2
  rw [List.append_nil] at g1 g2 g3
  have settled : ∃ M, KR A ρ S1 hd M k (svs.zip vs) w ∧ RetAll (cxOf A k.H.length ρ S1 M w) ts vs M := by
    unfold settle at e3
    split at e3
    · simp only [Option.some.injEq] at e3
      subst e3
      exact ⟨M1, g1, g3⟩
    · simp only [Option.map_eq_some_iff] at e3
      obtain ⟨xs, e3, rfl⟩ := e3
      obtain ⟨q1, q2⟩ := g1.letGo (fl' := []) (by simp) (by simp)
      refine ⟨[], q1, RetAll.canon (cxOf_mono _ _ _ _ _ _) (RetAll.frz q2 ts1 vs M1 xs e3 (fun g hg => ?_) g3)⟩
      have hb := g1.blk g (.inr hg)
      refine ⟨⟨fun ho => ?_, hb.2.1 _, hb.1⟩, rfl⟩
      rcases ho with ⟨r, ho⟩ | ho
      · exact g1.dis.oneF r g ho hg
      · simp at ho
  clear g1 g2 g3
  obtain ⟨M, g1, g3⟩ := settled
  have hn := g1.rho.1
  have full : ∃ S', KR A ρ S' hd M { ct := [], H := k.H } [] w ∧ RetAll (cxOf A k.H.length ρ S' M w) ts vs M := by
    obtain ⟨S', q1, q2⟩ := g1.cut (n2 := k.H.length) (Nat.le_refl _) hn (.inl rfl)
    rw [List.take_length] at q1
    exact ⟨S', q1, RetAll.ext q2 _ _ _ (fun _ _ => rfl) g3⟩
  unfold trunc
  split
  · obtain ⟨S', q1, q2⟩ := full
    exact ⟨ρ, S', hd, M, vs, q1, q2, rfl⟩
  · split
    · rename_i hl
      obtain ⟨hl1, hl2⟩ := hl
      obtain ⟨S', q1, q2⟩ := g1.cut (n2 := A.n0) hn (Nat.le_refl _) (.inr (fun ob hob => List.all_eq_true.1 hl2 ob hob))
      have hlen : (k.H.take A.n0).length = A.n0 := by simp; omega
      exact ⟨ρ, S', hd, M, vs, q1, by rw [hlen]; exact RetAll.ext q2 _ _ _ (fun _ _ => rfl) (RetAll.lo _ _ _ hl1 g3), rfl⟩
    · obtain ⟨S', q1, q2⟩ := full
      exact ⟨ρ, S', hd, M, vs, q1, q2, rfl⟩

/-! ### whole functions -/
theorem look_enter (ds : List D) (vs : List Value) (t : Nat) {c : Cx} {K : Root → Option T} {hd : Root → Value} (h : VVs c ds vs) : ∀ j, SO c K hd ((look ((ds.zipIdx j).map fun p => (p.2, SV.d p.1)) t).getD .dead) ((if j ≤ t then vs[t - j]? else none).getD undef) := by
  induction ds generalizing vs with
  | nil => intro j; trivial
  | cons d ds ih =>
    intro j
    simp only [VVs] at h
    obtain ⟨v, r, rfl, h1, h2, h3⟩ := h
    simp only [List.zipIdx_cons, List.map_cons, look]
    by_cases hj : j = t
    · subst hj
      rw [if_pos rfl, if_pos (Nat.le_refl _), Nat.sub_self]
      exact (⟨h1, h2⟩ : VV c d v)
    · rw [if_neg hj]
      have := ih r h3 (j + 1)
      by_cases hlt : j ≤ t
      · rw [if_pos (by omega)] at this
        rw [if_pos hlt, show t - j = (t - (j + 1)) + 1 by omega, List.getElem?_cons_succ]
        exact this
      · rw [if_neg (by omega)] at this
        rw [if_neg hlt]
        exact this
theorem enter_ok {ds : List D} {H : List Ob} {args : Array Value} {S : Root → List Nat} {hd : Root → Value} {n : Nat} (h : KR A A.ρ0 S hd [] { ct := [], H } [] A.w0) (ha : VVs (cxOf A H.length A.ρ0 S [] A.w0) ds args.toList) :
    SR A (enter ds H) { tmps := args ++ Array.replicate (n - args.size) undef, defers := [] } A.w0 := by
  refine ⟨A.ρ0, S, hd, h, fun t => ?_⟩
  have := look_enter (K := (enter ds H).wk.get) (hd := hd) ds args.toList t ha 0
  simp only [Nat.zero_le, if_true, Nat.sub_zero] at this
  have e2 : ((args ++ Array.replicate (n - args.size) undef).getD t undef) = (args.toList[t]?).getD undef := by
    rw [Array.getElem?_toList]
    by_cases hlt : t < args.size
    · rw [Array.getD_eq_getD_getElem?, Array.getElem?_append_left hlt]
    · rw [Array.getD_eq_getD_getElem?, Array.getElem?_append_right (by omega), Array.getElem?_eq_none (xs := args) (by omega)]
      by_cases h2 : t - args.size < n - args.size
      · rw [Array.getElem?_replicate, if_pos h2]; rfl
      · rw [Array.getElem?_replicate, if_neg h2]
  show SO _ _ _ ((look (ds.zipIdx.map fun p => (p.2, SV.d p.1)) t).getD .dead) _
  rw [e2]
  exact this

theorem VVs.len {c : Cx} : ∀ (l : List D) (vs : List Value), VVs c l vs → vs.length = l.length
  | [], vs, h => by simp only [VVs] at h; simp [h]
  | d :: ds, vs, h => by
    simp only [VVs] at h
    obtain ⟨v, r, rfl, _, _, h3⟩ := h
    simp [VVs.len ds r h3]

theorem opsOk_mono {n m : Nat} (h : n ≤ m) {ops : Array Oper} (hk : opsOk n ops = true) : opsOk m ops = true := by
  refine List.all_eq_true.2 fun o ho => ?_
  have := List.all_eq_true.1 hk o ho
  cases hd : o.dst with
  | none => rfl
  | some d =>
    simp only [hd, decide_eq_true_eq] at this ⊢
    exact Nat.lt_of_lt_of_le this h
theorem codeOk_mono {n m : Nat} (h : n ≤ m) : ∀ (c : Code), codeOk n c = true → codeOk m c = true
  | .region _ ops _, hk => opsOk_mono h hk
  | .seq a b, hk => by simp only [codeOk, Bool.and_eq_true] at hk ⊢; exact ⟨codeOk_mono h a hk.1, codeOk_mono h b hk.2⟩
  | .cond _ a b, hk => by simp only [codeOk, Bool.and_eq_true] at hk ⊢; exact ⟨codeOk_mono h a hk.1, codeOk_mono h b hk.2⟩
  | .block _ c, hk => codeOk_mono h c hk
  | .loop c, hk => codeOk_mono h c hk
  | .scope c, hk => codeOk_mono h c hk
  | .skip, _ => rfl
  | .rangeFunc _ _ _ _, _ => rfl
  | .exit _, _ => rfl
  | .label _, _ => rfl
  | .goto _, _ => rfl
  | .ret, _ => rfl
  | .refuse _, _ => rfl

/-- WHAT THE ABSTRACT MACHINE ANSWERS OF A CALL, THE MACHINE DOES -/
theorem callN_ok (hm : P.follows .mixedOrders = true) (hints : FuncId → Hint) : ∀ n, CallOK P (callN P hints n)
  | 0 => fun f ds H rs H2 e => by simp [callN] at e
  | n + 1 => fun f ds H rs H2 e => by
    have ih := callN_ok hm hints n
    simp only [callN, Option.bind_eq_some_iff] at e
    obtain ⟨fn, hf, c, hb, e⟩ := e
    split at e
    · rename_i hh
      obtain ⟨hl, hk, hnm⟩ := hh
      simp only [Option.bind_eq_some_iff] at e
      obtain ⟨⟨ex, s'⟩, e1, e2⟩ := e
      refine ⟨⟨fn, hf, by rw [hb]; rfl, hnm⟩, fun A S hd args hA hkr hargs => ?_⟩
      refine calls_of_wp hf hb (codeN_ok ih hm n c e1 (enter_ok hkr hargs) (codeOk_mono (by simp; omega) c hk) fun a' w' g1 g2 g3 => ?_)
      rw [← hA] at e2
      obtain ⟨q1, v, q2, q3⟩ := leave_ok g1 e2
      cases ex with
      | exit id => exact absurd rfl (q1 id)
      | normal => exact ⟨g2, v, q2, v, rfl, q3⟩
      | ret => exact ⟨g2, v, q2, v, rfl, q3⟩
    · cases e
end
end Go.Am
/- The abstract machine with fuel enough: calls and code by equations. -/
namespace Go.Am
open Go
set_option linter.unusedSimpArgs false
set_option linter.unusedVariables false

/-! ### more fuel, the same answer -/
def CallLe (c c' : CallF) : Prop := ∀ f ds H r, c f ds H = some r → c' f ds H = some r
section
variable {P : Program} {c c' : CallF} {h : Hint}
theorem callE_mono (hc : CallLe c c') {dst : Nat} {f : FuncId} {ds : List D} {b : Lend} {k : Wk} {r : SV × Wk} (e : callE c h dst f ds b k = some r) : callE c' h dst f ds b k = some r := by
  unfold callE at e ⊢
  split at e
  · rename_i hk
    rw [if_pos hk]
    simp only [Option.bind_eq_some_iff] at e ⊢
    obtain ⟨x, e1, e2⟩ := e
    exact ⟨x, hc _ _ _ _ e1, e2⟩
  · rename_i hk
    rw [if_neg hk]
    simp only [Option.bind_eq_some_iff] at e ⊢
    obtain ⟨x, e1, e2⟩ := e
    exact ⟨x, hc _ _ _ _ e1, e2⟩
theorem stepE_mono (hc : CallLe c c') {dst : Nat} {ty : TypeId} {op : Op} {σ : Operand → SV} {k : Wk} {r : SV × Wk} (e : stepE P c h dst ty op σ k = some r) : stepE P c' h dst ty op σ k = some r := by
  unfold stepE at e ⊢
  split at e
  · simp only
    split at e
    · simp only [Option.bind_eq_some_iff] at e ⊢
      obtain ⟨x, e1, e2⟩ := e
      exact ⟨x, e1, callE_mono hc e2⟩
    · cases e
  · exact e
theorem evalO_mono (hc : CallLe c c') {ops : List Oper} {o : Oper} {s : St} {r : Bool × SV × Wk} (e : evalO P c h ops o s = some r) : evalO P c' h ops o s = some r := by
  simp only [evalO, Option.bind_eq_some_iff] at e ⊢
  obtain ⟨w, e1, e2⟩ := e
  refine ⟨w, e1, ?_⟩
  split at e2
  · rename_i hw
    rw [if_pos hw]
    simp only [Option.map_eq_some_iff] at e2 ⊢
    obtain ⟨x, e3, e4⟩ := e2
    exact ⟨x, stepE_mono hc e3, e4⟩
  · rename_i hw
    rw [if_neg hw]; exact e2
theorem runOp_mono (hc : CallLe c c') {ops : List Oper} {o : Oper} {s s' : St} (e : runOp P c h ops o s = some s') : runOp P c' h ops o s = some s' := by
  rw [runOp_evalO] at e ⊢
  simp only [Option.map_eq_some_iff] at e ⊢
  obtain ⟨x, e1, e2⟩ := e
  exact ⟨x, evalO_mono hc e1, e2⟩
theorem runOps_mono (hc : CallLe c c') {ops : List Oper} : ∀ (l : List Oper) {s s' : St}, runOps P c h ops l s = some s' → runOps P c' h ops l s = some s'
  | [], s, s', e => e
  | o :: l, s, s', e => by
    simp only [runOps, Option.bind_eq_some_iff] at e ⊢
    obtain ⟨x, e1, e2⟩ := e
    exact ⟨x, runOp_mono hc e1, runOps_mono hc l e2⟩
theorem runOpF_mono (hc : CallLe c c') {ops : List Oper} {o : Oper} {s : Cf} {r : Cf × Fp} (e : runOpF P c h ops o s = some r) : runOpF P c' h ops o s = some r := by
  simp only [runOpF, Option.map_eq_some_iff] at e ⊢
  obtain ⟨x, e1, e2⟩ := e
  exact ⟨x, evalO_mono hc e1, e2⟩
theorem runOpsF_mono (hc : CallLe c c') {ops : List Oper} : ∀ (l : List Oper) {s : Cf} {r : Cf × List Fp}, runOpsF P c h ops l s = some r → runOpsF P c' h ops l s = some r
  | [], s, r, e => e
  | o :: l, s, r, e => by
    simp only [runOpsF, Option.bind_eq_some_iff, Option.map_eq_some_iff] at e ⊢
    obtain ⟨x, e1, y, e2, e3⟩ := e
    exact ⟨x, runOpF_mono hc e1, y, runOpsF_mono hc l e2, e3⟩
theorem loopN_mono {f f' : St → Option (Ex × St)} (hf : ∀ s r, f s = some r → f' s = some r) : ∀ (n m : Nat), n ≤ m → ∀ s r, loopN f n s = some r → loopN f' m s = some r
  | 0, _, _, _, _, e => by cases e
  | n + 1, 0, h, _, _, _ => by omega
  | n + 1, m + 1, h, s, r, e => by
    simp only [loopN, Option.bind_eq_some_iff] at e ⊢
    obtain ⟨⟨ex, s1⟩, e1, e2⟩ := e
    refine ⟨⟨ex, s1⟩, hf _ _ e1, ?_⟩
    simp only at e2 ⊢
    split at e2
    · exact loopN_mono hf n m (by omega) _ _ e2
    · exact e2
theorem codeN_mono (hc : CallLe c c') {n m : Nat} (hn : n ≤ m) : ∀ (cd : Code) (s : St) (r : Ex × St), codeN P c h n cd s = some r → codeN P c' h m cd s = some r
  | .skip, s, r, e => e
  | .label _, s, r, e => e
  | .ret, s, r, e => e
  | .exit _, s, r, e => e
  | .goto _, s, r, e => by cases e
  | .refuse _, s, r, e => by cases e
  | .rangeFunc _ _ _ _, s, r, e => by cases e
  | .region id ops dr, s, r, e => by
    simp only [codeN] at e ⊢
    cases dr with
    | true =>
      simp only [if_true, Option.bind_eq_some_iff] at e ⊢
      obtain ⟨x, e1, e2⟩ := e
      exact ⟨x, runOpsF_mono hc _ e1, e2⟩
    | false =>
      simp only [Bool.false_eq_true, if_false, Option.map_eq_some_iff] at e ⊢
      obtain ⟨x, e1, e2⟩ := e
      exact ⟨x, runOps_mono hc _ e1, e2⟩
  | .seq a b, s, r, e => by
    simp only [codeN, Option.bind_eq_some_iff] at e ⊢
    obtain ⟨⟨ex, s1⟩, e1, e2⟩ := e
    refine ⟨⟨ex, s1⟩, codeN_mono hc hn a _ _ e1, ?_⟩
    simp only at e2 ⊢
    split at e2
    · exact codeN_mono hc hn b _ _ e2
    · exact e2
  | .cond o a b, s, r, e => by
    simp only [codeN] at e ⊢
    split at e
    · split at e
      · rename_i ht; rw [if_pos ht]; exact codeN_mono hc hn a _ _ e
      · rename_i ht; rw [if_neg ht]; exact codeN_mono hc hn b _ _ e
    · cases e
  | .block id a, s, r, e => by
    simp only [codeN, Option.map_eq_some_iff] at e ⊢
    obtain ⟨x, e1, e2⟩ := e
    exact ⟨x, codeN_mono hc hn a _ _ e1, e2⟩
  | .loop a, s, r, e => by
    simp only [codeN] at e ⊢
    exact loopN_mono (fun s r => codeN_mono hc hn a s r) n m hn s r e
  | .scope a, s, r, e => by
    simp only [codeN] at e ⊢
    exact codeN_mono hc hn a _ _ e
theorem callN_le {hints : FuncId → Hint} : ∀ n, CallLe (callN P hints n) (callN P hints (n + 1))
  | 0 => fun f ds H r e => by cases e
  | n + 1 => fun f ds H r e => by
    have ih := callN_le (hints := hints) n
    simp only [callN, Option.bind_eq_some_iff] at e ⊢
    obtain ⟨fn, h1, cd, h2, e⟩ := e
    refine ⟨fn, h1, cd, h2, ?_⟩
    split at e
    · rename_i hh
      rw [if_pos hh]
      simp only [Option.bind_eq_some_iff] at e ⊢
      obtain ⟨x, e1, e2⟩ := e
      exact ⟨x, codeN_mono ih (Nat.le_succ n) cd _ _ e1, e2⟩
    · cases e
theorem callN_mono {hints : FuncId → Hint} {n m : Nat} (h : n ≤ m) : CallLe (callN P hints n) (callN P hints m) := by
  induction h with
  | refl => exact fun _ _ _ _ e => e
  | step _ ih => exact fun f ds H r e => callN_le _ f ds H r (ih f ds H r e)
end

/-! ### the limit -/
open Classical in
noncomputable def lim {α : Type} (g : Nat → Option α) : Option α := if h : ∃ r, ∃ n, g n = some r then some (Classical.choose h) else none
theorem lim_iff {α : Type} {g : Nat → Option α} (hg : ∀ n m r, n ≤ m → g n = some r → g m = some r) {r : α} : lim g = some r ↔ ∃ n, g n = some r := by
  unfold lim
  constructor
  · intro h
    split at h
    · rename_i hx
      simp only [Option.some.injEq] at h
      rw [← h]
      exact Classical.choose_spec hx
    · cases h
  · rintro ⟨n, hn⟩
    have hx : ∃ r, ∃ n, g n = some r := ⟨r, n, hn⟩
    rw [dif_pos hx]
    obtain ⟨m, hm⟩ := Classical.choose_spec hx
    have h1 := hg n (max n m) r (Nat.le_max_left _ _) hn
    have h2 := hg m (max n m) _ (Nat.le_max_right _ _) hm
    rw [h1] at h2
    simp only [Option.some.injEq] at h2
    rw [← h2]

section
variable (P : Program) (hints : FuncId → Hint)
noncomputable def callX : CallF := fun f ds H => lim fun n => callN P hints n f ds H
noncomputable def codeX (h : Hint) (c : Code) (s : St) : Option (Ex × St) := lim fun n => codeN P (callN P hints n) h n c s
variable {P hints}
theorem callX_iff {f : FuncId} {ds : List D} {H : List Ob} {r : List T × List Ob} : callX P hints f ds H = some r ↔ ∃ n, callN P hints n f ds H = some r :=
  lim_iff fun n m r h e => callN_mono h f ds H r e
theorem codeX_iff {h : Hint} {c : Code} {s : St} {r : Ex × St} : codeX P hints h c s = some r ↔ ∃ n, codeN P (callN P hints n) h n c s = some r :=
  lim_iff fun n m r hn e => codeN_mono (callN_mono hn) hn c s r e
theorem callN_X (n : Nat) : CallLe (callN P hints n) (callX P hints) := fun f ds H r e => callX_iff.2 ⟨n, e⟩

/-! ### what the limit does, fuel enough does -/
section
variable {h : Hint}
theorem callE_cont {dst : Nat} {f : FuncId} {ds : List D} {b : Lend} {k : Wk} {r : SV × Wk} (e : callE (callX P hints) h dst f ds b k = some r) : ∃ n, callE (callN P hints n) h dst f ds b k = some r := by
  unfold callE at e
  split at e
  · rename_i hk
    simp only [Option.bind_eq_some_iff] at e
    obtain ⟨x, e1, e2⟩ := e
    obtain ⟨n, hn⟩ := callX_iff.1 e1
    exact ⟨n, by unfold callE; rw [if_pos hk, hn]; exact e2⟩
  · rename_i hk
    simp only [Option.bind_eq_some_iff] at e
    obtain ⟨x, e1, e2⟩ := e
    obtain ⟨n, hn⟩ := callX_iff.1 e1
    exact ⟨n, by unfold callE; rw [if_neg hk, hn]; exact e2⟩
theorem stepE_cont {dst : Nat} {ty : TypeId} {op : Op} {σ : Operand → SV} {k : Wk} {r : SV × Wk} (e : stepE P (callX P hints) h dst ty op σ k = some r) : ∃ n, stepE P (callN P hints n) h dst ty op σ k = some r := by
  by_cases hc : ∃ f args ats, op = .call { callee := .value f, args := args, argTypes := ats }
  · obtain ⟨f, args, ats, rfl⟩ := hc
    unfold stepE at e ⊢
    simp only at e ⊢
    split at e
    · simp only [Option.bind_eq_some_iff] at e
      obtain ⟨x, e1, e2⟩ := e
      obtain ⟨n, hn⟩ := callE_cont e2
      exact ⟨n, by rw [e1]; exact hn⟩
    · cases e
  · have : ∀ call : CallF, stepE P call h dst ty op σ k = opE P h dst ty op σ k := fun call => by
      unfold stepE
      split
      · exact absurd ⟨_, _, _, rfl⟩ hc
      · rfl
    rw [this] at e
    exact ⟨0, by rw [this]; exact e⟩
theorem evalO_cont {ops : List Oper} {o : Oper} {s : St} {r : Bool × SV × Wk} (e : evalO P (callX P hints) h ops o s = some r) : ∃ n, evalO P (callN P hints n) h ops o s = some r := by
  simp only [evalO, Option.bind_eq_some_iff] at e
  obtain ⟨w, e1, e2⟩ := e
  split at e2
  · rename_i hw
    simp only [Option.map_eq_some_iff] at e2
    obtain ⟨x, e3, e4⟩ := e2
    obtain ⟨n, hn⟩ := stepE_cont e3
    exact ⟨n, by simp only [evalO, e1, Option.bind_some, hw, if_true, hn, Option.map_some]; rw [← e4]⟩
  · rename_i hw
    exact ⟨0, by simp only [evalO, e1, Option.bind_some]; rw [if_neg hw]; exact e2⟩
theorem runOps_cont {ops : List Oper} : ∀ (l : List Oper) {s s' : St}, runOps P (callX P hints) h ops l s = some s' → ∃ n, runOps P (callN P hints n) h ops l s = some s'
  | [], s, s', e => ⟨0, e⟩
  | o :: l, s, s', e => by
    simp only [runOps, Option.bind_eq_some_iff] at e
    obtain ⟨x, e1, e2⟩ := e
    rw [runOp_evalO] at e1
    simp only [Option.map_eq_some_iff] at e1
    obtain ⟨y, e3, e4⟩ := e1
    obtain ⟨n, hn⟩ := evalO_cont e3
    obtain ⟨m, hm⟩ := runOps_cont l e2
    refine ⟨max n m, ?_⟩
    simp only [runOps, Option.bind_eq_some_iff]
    refine ⟨x, ?_, runOps_mono (callN_mono (Nat.le_max_right n m)) l hm⟩
    rw [runOp_evalO, evalO_mono (callN_mono (Nat.le_max_left n m)) hn]
    simp only [Option.map_some, e4]
theorem runOpsF_cont {ops : List Oper} : ∀ (l : List Oper) {s : Cf} {r : Cf × List Fp}, runOpsF P (callX P hints) h ops l s = some r → ∃ n, runOpsF P (callN P hints n) h ops l s = some r
  | [], s, r, e => ⟨0, e⟩
  | o :: l, s, r, e => by
    simp only [runOpsF, Option.bind_eq_some_iff, Option.map_eq_some_iff] at e
    obtain ⟨x, e1, y, e2, e3⟩ := e
    simp only [runOpF, Option.map_eq_some_iff] at e1
    obtain ⟨z, e4, e5⟩ := e1
    obtain ⟨n, hn⟩ := evalO_cont e4
    obtain ⟨m, hm⟩ := runOpsF_cont l e2
    refine ⟨max n m, ?_⟩
    simp only [runOpsF, Option.bind_eq_some_iff, Option.map_eq_some_iff]
    refine ⟨x, ?_, y, runOpsF_mono (callN_mono (Nat.le_max_right n m)) l hm, e3⟩
    simp only [runOpF, evalO_mono (callN_mono (Nat.le_max_left n m)) hn, Option.map_some, e5]

/-! ### equations -/
theorem ext_some {α : Type} {x y : Option α} (h : ∀ r, x = some r ↔ y = some r) : x = y := Option.ext h
theorem codeX_plain {c : Code} {s : St} {x : Option (Ex × St)} (hx : ∀ n, codeN P (callN P hints n) h n c s = x) : codeX P hints h c s = x :=
  ext_some fun r => by rw [codeX_iff]; simp [hx]
theorem codeX_skip {s : St} : codeX P hints h .skip s = some (.normal, s) := codeX_plain fun _ => rfl
theorem codeX_label {l : Nat} {s : St} : codeX P hints h (.label l) s = some (.normal, s) := codeX_plain fun _ => rfl
theorem codeX_ret {s : St} : codeX P hints h .ret s = some (.ret, s) := codeX_plain fun _ => rfl
theorem codeX_exit {id : Nat} {s : St} : codeX P hints h (.exit id) s = some (.exit id, s) := codeX_plain fun _ => rfl
theorem codeX_region {id : Nat} {ops : Array Oper} {s : St} : codeX P hints h (.region id ops false) s = (runOps P (callX P hints) h ops.toList ops.toList s).map fun s' => (.normal, prune (h.live id) s') :=
  ext_some fun r => by
    rw [codeX_iff]
    simp only [codeN, Bool.false_eq_true, if_false, Option.map_eq_some_iff]
    constructor
    · rintro ⟨n, x, e1, e2⟩; exact ⟨x, runOps_mono (callN_X n) _ e1, e2⟩
    · rintro ⟨x, e1, e2⟩; obtain ⟨n, hn⟩ := runOps_cont _ e1; exact ⟨n, x, hn, e2⟩
theorem codeX_draw {id : Nat} {ops : Array Oper} {s : St} : codeX P hints h (.region id ops true) s = (runOpsF P (callX P hints) h ops.toList ops.toList (s, hist0 s)).bind fun (c, fs) => if checkR ops.toList fs then some (.normal, prune (h.live id) c.1) else none :=
  ext_some fun r => by
    rw [codeX_iff]
    simp only [codeN, if_true, Option.bind_eq_some_iff]
    constructor
    · rintro ⟨n, x, e1, e2⟩; exact ⟨x, runOpsF_mono (callN_X n) _ e1, e2⟩
    · rintro ⟨x, e1, e2⟩; obtain ⟨n, hn⟩ := runOpsF_cont _ e1; exact ⟨n, x, hn, e2⟩
/-- what comes behind a piece of code -/
noncomputable def thenX (P : Program) (hints : FuncId → Hint) (h : Hint) (b : Code) (r : Ex × St) : Option (Ex × St) := match r.1 with | .normal => codeX P hints h b r.2 | e => some (e, r.2)
theorem codeX_seq {a b : Code} {s : St} : codeX P hints h (.seq a b) s = (codeX P hints h a s).bind (thenX P hints h b) :=
  ext_some fun r => by
    rw [codeX_iff]
    simp only [codeN, Option.bind_eq_some_iff, thenX]
    constructor
    · rintro ⟨n, ⟨ex, s1⟩, e1, e2⟩
      refine ⟨⟨ex, s1⟩, codeX_iff.2 ⟨n, e1⟩, ?_⟩
      simp only at e2 ⊢
      cases ex with
      | normal => exact codeX_iff.2 ⟨n, e2⟩
      | _ => exact e2
    · rintro ⟨⟨ex, s1⟩, e1, e2⟩
      obtain ⟨n, hn⟩ := codeX_iff.1 e1
      simp only at e2
      split at e2
      · obtain ⟨m, hm⟩ := codeX_iff.1 e2
        exact ⟨max n m, ⟨.normal, s1⟩, codeN_mono (callN_mono (Nat.le_max_left n m)) (Nat.le_max_left n m) a _ _ hn, codeN_mono (callN_mono (Nat.le_max_right n m)) (Nat.le_max_right n m) b _ _ hm⟩
      · rename_i hne
        refine ⟨n, ⟨ex, s1⟩, hn, ?_⟩
        cases ex with
        | normal => exact absurd rfl hne
        | _ => exact e2
theorem codeX_cond {o : Operand} {a b : Code} {s : St} : codeX P hints h (.cond o a b) s = match s.val o with | .d (.bool t) => if t then codeX P hints h a s else codeX P hints h b s | _ => none :=
  ext_some fun r => by
    rw [codeX_iff]
    simp only [codeN]
    generalize s.val o = v
    cases v with
    | d x =>
      cases x with
      | bool t => cases t <;> simp [codeX_iff]
      | _ => simp
    | _ => simp
theorem codeX_block {id : Nat} {a : Code} {s : St} : codeX P hints h (.block id a) s = (codeX P hints h a s).map fun r => (if r.1 = .exit id then .normal else r.1, r.2) :=
  ext_some fun r => by
    rw [codeX_iff]
    simp only [codeN, Option.map_eq_some_iff]
    constructor
    · rintro ⟨n, x, e1, e2⟩; exact ⟨x, codeX_iff.2 ⟨n, e1⟩, e2⟩
    · rintro ⟨x, e1, e2⟩; obtain ⟨n, hn⟩ := codeX_iff.1 e1; exact ⟨n, x, hn, e2⟩
theorem codeX_scope {a : Code} {s : St} : codeX P hints h (.scope a) s = codeX P hints h a s :=
  ext_some fun r => by rw [codeX_iff, codeX_iff]; simp only [codeN]
theorem codeX_loop {a : Code} {s : St} : codeX P hints h (.loop a) s = (codeX P hints h a s).bind (thenX P hints h (.loop a)) :=
  ext_some fun r => by
    rw [codeX_iff]
    simp only [Option.bind_eq_some_iff, thenX]
    constructor
    · rintro ⟨n, e⟩
      simp only [codeN] at e
      cases n with
      | zero => cases e
      | succ n =>
        have e0 := e
        simp only [loopN, Option.bind_eq_some_iff] at e
        obtain ⟨⟨ex, s1⟩, e1, e2⟩ := e
        refine ⟨⟨ex, s1⟩, codeX_iff.2 ⟨n + 1, e1⟩, ?_⟩
        simp only at e2 ⊢
        cases ex with
        | normal =>
          refine codeX_iff.2 ⟨n + 1, ?_⟩
          simp only [codeN]
          exact loopN_mono (fun _ _ e => e) n (n + 1) (Nat.le_succ n) _ _ e2
        | _ => exact e2
    · rintro ⟨⟨ex, s1⟩, e1, e2⟩
      obtain ⟨n, hn⟩ := codeX_iff.1 e1
      simp only at e2
      split at e2
      · obtain ⟨m, hm⟩ := codeX_iff.1 e2
        simp only [codeN] at hm
        refine ⟨max n m + 1, ?_⟩
        simp only [codeN, loopN, Option.bind_eq_some_iff]
        exact ⟨⟨.normal, s1⟩, codeN_mono (callN_mono (by omega)) (by omega) a _ _ hn, loopN_mono (fun s r e => codeN_mono (callN_mono (by omega)) (by omega) a s r e) m (max n m) (Nat.le_max_right n m) _ _ hm⟩
      · rename_i hne
        refine ⟨n + 1, ?_⟩
        simp only [codeN, loopN, Option.bind_eq_some_iff]
        refine ⟨⟨ex, s1⟩, codeN_mono (callN_mono (Nat.le_succ n)) (Nat.le_succ n) a _ _ hn, ?_⟩
        cases ex with
        | normal => exact absurd rfl hne
        | _ => exact e2
end
theorem callX_eq {f : FuncId} {ds : List D} {H : List Ob} {fn : Func} {c : Code} (hf : P.funcs[f]? = some fn) (hb : fn.body = some c) (hl : ds.length = fn.params.size + fn.nfree) (hk : codeOk fn.ntmps c = true) (hn : (fn.name == "runtime.NumGoroutine") = false) :
    callX P hints f ds H = (codeX P hints (hints f) c (enter ds H)).bind (leave P (hints f).own fn H.length) :=
  ext_some fun r => by
    rw [callX_iff]
    simp only [Option.bind_eq_some_iff]
    constructor
    · rintro ⟨n, e⟩
      cases n with
      | zero => cases e
      | succ n =>
        simp only [callN, hf, hb, Option.bind_some] at e
        rw [if_pos ⟨hl, hk, hn⟩] at e
        simp only [Option.bind_eq_some_iff] at e
        obtain ⟨x, e1, e2⟩ := e
        exact ⟨x, codeX_iff.2 ⟨n, e1⟩, e2⟩
    · rintro ⟨x, e1, e2⟩
      obtain ⟨n, hn'⟩ := codeX_iff.1 e1
      refine ⟨n + 1, ?_⟩
      simp only [callN, hf, hb, Option.bind_some]
      rw [if_pos ⟨hl, hk, hn⟩]
      simp only [Option.bind_eq_some_iff]
      exact ⟨x, hn', e2⟩
end
end Go.Am
/- The abstract machine: how code is gone through, by equations on states that are written out. -/
namespace Go.Am
open Go
set_option linter.unusedSimpArgs false
set_option linter.unusedVariables false

section
variable {P : Program} {hints : FuncId → Hint} {call : CallF} {h : Hint}

/-! ### code -/
def exOut (id : Nat) (e : Ex) : Ex := if e = .exit id then .normal else e
theorem exOut_normal (id : Nat) : exOut id .normal = .normal := rfl
theorem exOut_ret (id : Nat) : exOut id .ret = .ret := rfl
theorem exOut_exit (id j : Nat) : exOut id (.exit j) = if j = id then .normal else .exit j := by
  unfold exOut; by_cases h : j = id <;> simp [h]
theorem codeX_block' {id : Nat} {a : Code} {s : St} : codeX P hints h (.block id a) s = (codeX P hints h a s).bind fun r => some (exOut id r.1, r.2) := by
  rw [codeX_block, Option.map_eq_bind]; rfl
theorem thenX_normal {b : Code} {s : St} : thenX P hints h b (.normal, s) = codeX P hints h b s := rfl
theorem thenX_ret {b : Code} {s : St} : thenX P hints h b (.ret, s) = some (.ret, s) := rfl
theorem thenX_exit {b : Code} {s : St} {i : Nat} : thenX P hints h b (.exit i, s) = some (.exit i, s) := rfl
noncomputable def condX (P : Program) (hints : FuncId → Hint) (h : Hint) (v : SV) (a b : Code) (s : St) : Option (Ex × St) := match v with | .d (.bool t) => if t then codeX P hints h a s else codeX P hints h b s | _ => none
theorem codeX_cond' {o : Operand} {a b : Code} {s : St} : codeX P hints h (.cond o a b) s = condX P hints h (s.val o) a b s := codeX_cond
theorem condX_bool {t : Bool} {a b : Code} {s : St} : condX P hints h (.d (.bool t)) a b s = if t = true then codeX P hints h a s else codeX P hints h b s := rfl

/-! ### regions -/
theorem codeX_region' {id : Nat} {ops : Array Oper} {s : St} : codeX P hints h (.region id ops false) s = (runOps P (callX P hints) h ops.toList ops.toList s).bind fun s' => some (.normal, prune (h.live id) s') := by
  rw [codeX_region, Option.map_eq_bind]; rfl
theorem runOps_nil {ops : List Oper} {s : St} : runOps P call h ops [] s = some s := rfl
theorem runOps_cons {ops r : List Oper} {o : Oper} {s : St} : runOps P call h ops (o :: r) s = (runOp P call h ops o s).bind fun s' => runOps P call h ops r s' := rfl
def stepS (P : Program) (call : CallF) (h : Hint) (d : Option Nat) (ty : TypeId) (op : Op) (s : St) : Option St := (stepE P call h (d.getD 0) ty op s.val s.wk).bind fun p => some (s.fin d p.1 p.2)
theorem runOp_plain {ops : List Oper} {d : Option Nat} {op : Op} {ty : TypeId} {pos : String} {after : Array Edge} {s : St} : runOp P call h ops { dst := d, op := op, type := ty, pos := pos, after := after, guard := none } s = stepS P call h d ty op s := by
  show (stepE P call h (d.getD 0) ty op s.val s.wk).map _ = _
  rw [Option.map_eq_bind]; rfl
def stepG (P : Program) (call : CallF) (h : Hint) (d : Option Nat) (ty : TypeId) (op : Op) (want : Bool) (g : SV) (s : St) : Option St :=
  match g with
  | .d (.bool b) => if b = want then stepS P call h d ty op s else some (s.fin d (.tup []) s.wk)
  | .tup [] => some (s.fin d (.tup []) s.wk)
  | _ => none
theorem stepG_bool {d : Option Nat} {ty : TypeId} {op : Op} {want b : Bool} {s : St} : stepG P call h d ty op want (.d (.bool b)) s = if b = want then stepS P call h d ty op s else some (s.fin d (.tup []) s.wk) := rfl
theorem stepG_skip {d : Option Nat} {ty : TypeId} {op : Op} {want : Bool} {s : St} : stepG P call h d ty op want (.tup []) s = some (s.fin d (.tup []) s.wk) := rfl
/-- the slot of a guard -/
def gslot (ops : List Oper) (j : Nat) : Nat := ((ops[j]?).bind (·.dst)).getD 0
theorem runOp_guard {ops : List Oper} {d : Option Nat} {op : Op} {ty : TypeId} {pos : String} {after : Array Edge} {j : Nat} {want : Bool} {s : St} (hj : ((ops[j]?).bind (·.dst)).isSome = true) :
    runOp P call h ops { dst := d, op := op, type := ty, pos := pos, after := after, guard := some (j, want) } s = stepG P call h d ty op want (s.get (gslot ops j)) s := by
  obtain ⟨t, ht⟩ := Option.isSome_iff_exists.1 hj
  have hg : gslot ops j = t := by simp [gslot, ht]
  rw [hg]
  simp only [runOp, wantE, ht]
  generalize s.get t = g
  have hp : ∀ b : Bool, ((some b).bind fun w => if w = true then (stepE P call h (d.getD 0) ty op s.val s.wk).map fun p => s.fin d p.1 p.2 else some (s.fin d (.tup []) s.wk)) = if b = true then stepS P call h d ty op s else some (s.fin d (.tup []) s.wk) := fun b => by
    cases b
    · rfl
    · simp only [Option.bind_some, if_true, stepS]; rw [Option.map_eq_bind]; rfl
  cases g with
  | d x =>
    cases x with
    | bool b =>
      refine (hp (b == want)).trans ?_
      cases b <;> cases want <;> rfl
    | _ => rfl
  | tup l =>
    cases l with
    | nil => exact hp false
    | cons _ _ => rfl
  | _ => rfl

/-! ### states -/
theorem val_tmp {s : St} {t : Nat} : s.val (.tmp t) = s.get t := rfl
theorem val_int {s : St} {k : IntKind} {n : Int} : s.val (.const (.int k n)) = .d (.int k n) := rfl
theorem val_bool {s : St} {b : Bool} : s.val (.const (.bool b)) = .d (.bool b) := rfl
theorem val_str {s : St} {b : ByteArray} : s.val (.const (.string b)) = .d (.str b.data.toList) := rfl
theorem val_nils {s : St} : s.val (.const (.slice none 0 0)) = .d .nils := rfl
theorem val_nilp {s : St} : s.val (.const (.pointer none)) = .d .nilp := rfl
theorem val_nilm {s : St} : s.val (.const (.map none)) = .d .nilm := rfl
theorem val_nilf {s : St} : s.val (.const .nilFunc) = .d .nilf := rfl
theorem val_nili {s : St} : s.val (.const .nilIface) = .d .nili := rfl
theorem val_func {s : St} {f : FuncId} : s.val (.func f) = .d (.fn (.func f) [] []) := rfl
theorem val_agg {s : St} {cs : Array Value} : s.val (.const (.agg cs)) = match (cs.toList.mapM D.ofCell).map D.agg with | some x => .d x | none => .dead := rfl
theorem get_mk {env : List (Nat × SV)} {ct : List ((Nat × Nat) × T)} {H : List Ob} {t : Nat} : St.get ⟨env, ct, H⟩ t = (look env t).getD .dead := rfl
theorem look_nil {t : Nat} : look ([] : List (Nat × SV)) t = none := rfl
theorem look_cons {k t : Nat} {v : SV} {r : List (Nat × SV)} : look ((k, v) :: r) t = if k = t then some v else look r t := rfl
theorem lookL_nil {t : Nat} : look ([] : List (Nat × List Nat)) t = none := rfl
theorem lookL_cons {k t : Nat} {v : List Nat} {r : List (Nat × List Nat)} : look ((k, v) :: r) t = if k = t then some v else look r t := rfl
theorem lookR_nil {t : Nat × Nat} : lookR ([] : List ((Nat × Nat) × T)) t = none := rfl
theorem lookR_cons {a b c d : Nat} {v : T} {r : List ((Nat × Nat) × T)} : lookR (((a, b), v) :: r) (c, d) = if a = c ∧ b = d then some v else lookR r (c, d) := by
  simp only [lookR, Prod.mk.injEq]
theorem wk_mk {env : List (Nat × SV)} {ct : List ((Nat × Nat) × T)} {H : List Ob} : St.wk ⟨env, ct, H⟩ = ⟨ct, H, []⟩ := rfl
theorem fin_some {env : List (Nat × SV)} {ct ct' : List ((Nat × Nat) × T)} {H H' : List Ob} {d : Nat} {v : SV} {tr : List Tr} : St.fin ⟨env, ct, H⟩ (some d) v ⟨ct', H', tr⟩ = ⟨(d, v) :: trs tr env, ct', H'⟩ := rfl
theorem fin_none {env : List (Nat × SV)} {ct ct' : List ((Nat × Nat) × T)} {H H' : List Ob} {v : SV} {tr : List Tr} : St.fin ⟨env, ct, H⟩ none v ⟨ct', H', tr⟩ = ⟨trs tr env, ct', H'⟩ := rfl
theorem trs_nil {env : List (Nat × SV)} : trs [] env = env := rfl
theorem trs_cons {x : Tr} {r : List Tr} {env : List (Nat × SV)} : trs (x :: r) env = trs r (x.env env) := rfl
theorem trenv_nil {x : Tr} : x.env [] = [] := rfl
theorem trenv_cons {x : Tr} {t : Nat} {v : SV} {r : List (Nat × SV)} : x.env ((t, v) :: r) = (t, x.sv v) :: x.env r := rfl
theorem sv_d {x : Tr} {y : D} : x.sv (.d y) = .d y := by cases x <;> rfl
theorem sv_rp {x : Tr} {b : Bool} {y : List D} : x.sv (.rp b y) = .rp b y := by cases x <;> rfl
theorem sv_clip {x : Tr} {b : Bool} {y : List D} : x.sv (.clip b y) = .clip b y := by cases x <;> rfl
theorem sv_dead {x : Tr} : x.sv .dead = .dead := by cases x <;> rfl
theorem sv_agg {x : Tr} {l : List SV} : x.sv (.agg l) = .agg (l.map x.sv) := by
  have : ∀ l, Tr.svs x l = l.map x.sv := fun l => by induction l with | nil => rfl | cons a r ih => simp [Tr.svs, ih]
  rw [← this]; cases x <;> rfl
theorem sv_tup {x : Tr} {l : List SV} : x.sv (.tup l) = .tup (l.map x.sv) := by
  have : ∀ l, Tr.svs x l = l.map x.sv := fun l => by induction l with | nil => rfl | cons a r ih => simp [Tr.svs, ih]
  rw [← this]; cases x <;> rfl
theorem trv_nil {v : SV} : trv [] v = v := rfl
theorem trv_cons {x : Tr} {r : List Tr} {v : SV} : trv (x :: r) v = trv r (x.sv v) := rfl
def envOf (s : St) : List Nat → List (Nat × SV)
  | [] => []
  | t :: r => (t, s.get t) :: envOf s r
theorem prune_eq {live : List Nat} {s : St} : prune live s = ⟨envOf s live, pick s.ct (dedup (SV.rootss ((envOf s live).map (·.2)))), s.H⟩ := by
  have : ∀ l : List Nat, (l.map fun t => (t, s.get t)) = envOf s l := fun l => by induction l with | nil => rfl | cons a r ih => simp [envOf, ih]
  simp only [prune, this]
theorem prune_mk {live : List Nat} {env : List (Nat × SV)} {ct : List ((Nat × Nat) × T)} {H : List Ob} : prune live ⟨env, ct, H⟩ = ⟨envOf ⟨env, ct, H⟩ live, pick ct (dedup (SV.rootss ((envOf ⟨env, ct, H⟩ live).map (·.2)))), H⟩ := prune_eq
theorem envOf_nil {s : St} : envOf s [] = [] := rfl
theorem envOf_cons {s : St} {t : Nat} {r : List Nat} : envOf s (t :: r) = (t, s.get t) :: envOf s r := rfl
theorem enter_eq {ds : List D} {H : List Ob} : enter ds H = ⟨(ds.zipIdx).map fun p => (p.2, .d p.1), [], H⟩ := rfl

/-! ### operations -/
section
variable {dst : Nat} {ty : TypeId} {ρ : Operand → SV} {k : Wk}
theorem st_move {x : Operand} : stepE P call h dst ty (.move x) ρ k = some (ρ x, k) := rfl
theorem st_assign {x : Operand} : stepE P call h dst ty (.assign x) ρ k = assignE dst (elemOf P ty).isSome (ρ x) k := rfl
theorem st_pick {c a b : Operand} : stepE P call h dst ty (.pick c a b) ρ k = match ρ c with | .d (.bool t) => some (if t = true then ρ a else ρ b, k) | _ => none := rfl
theorem st_alloc {e : TypeId} : stepE P call h dst ty (.alloc e) ρ k = (zeroOf P e).bind fun z => boxE h dst (T.ofZero z) k := rfl
theorem st_box {e : TypeId} {x : Operand} : stepE P call h dst ty (.box e x) ρ k = (absorbF h.nv (ρ x) k).bind fun p => if p.1.nc = P.cellsOf e then boxE h dst p.1 p.2 else none := rfl
theorem st_build {t : TypeId} {ps : Array (Nat × Operand)} : stepE P call h dst ty (.build t ps) ρ k = (buildE P t (ps.toList.map fun p => (p.1, ρ p.2))).bind fun v => some (v, k) := by
  show Option.map _ _ = _; rw [Option.map_eq_bind]; rfl
theorem st_buildSlice {t : TypeId} {n : Nat} {ps : Array (Nat × Operand)} : stepE P call h dst ty (.buildSlice t n ps) ρ k = buildSliceE P h.nv dst (h.lits.contains dst) t n (ps.toList.map fun p => (p.1, ρ p.2)) k := rfl
theorem st_load {t : TypeId} {a : Operand} : stepE P call h dst ty (.load t a) ρ k = (loadE P t (ρ a) k).bind fun v => some (v, k) := by
  show Option.map _ _ = _; rw [Option.map_eq_bind]; rfl
theorem st_store {t : TypeId} {a x : Operand} : stepE P call h dst ty (.store t a x) ρ k = (storeE P h.nv t (ρ a) (ρ x) k).bind fun k => some (.dead, k) := by
  show Option.map _ _ = _; rw [Option.map_eq_bind]; rfl
theorem st_binOp {op : BinOp} {t t' : TypeId} {x y : Operand} : stepE P call h dst ty (.binOp op t x y t') ρ k = (binE P (isConst x || isConst y) op t (ρ x) (ρ y)).bind fun y => some (.d y, k) := by
  show Option.map _ _ = _; rw [Option.map_eq_bind]; rfl
theorem st_unOp {op : UnOp} {t : TypeId} {x : Operand} : stepE P call h dst ty (.unOp op t x) ρ k = (unE op (ρ x)).bind fun y => some (.d y, k) := by
  show Option.map _ _ = _; rw [Option.map_eq_bind]; rfl
theorem st_convert {s t : TypeId} {x : Operand} : stepE P call h dst ty (.convert s t x) ρ k = (convE P s t (ρ x)).bind fun y => some (.d y, k) := by
  show Option.map _ _ = _; rw [Option.map_eq_bind]; rfl
theorem st_makeFunc {f : Fn} {a c : Array Operand} : stepE P call h dst ty (.makeFunc f a c) ρ k = (SV.pures (a.toList.map ρ)).bind fun a => (SV.pures (c.toList.map ρ)).bind fun c => some (.d (.fn f a c), k) := by
  show Option.bind _ _ = _; simp only [Option.map_eq_bind]; rfl
theorem st_makeMap {t : TypeId} : stepE P call h dst ty (.makeMap t none) ρ k = some (.d (.map k.H.length), { k with H := k.H ++ [.map []] }) := rfl
theorem st_makeSlice {t : TypeId} {l c : Operand} : stepE P call h dst ty (.makeSlice t l c) ρ k = makeE P dst t (ρ l) (ρ c) k := rfl
theorem st_slice {t : TypeId} {x : Operand} {lo hi mx : Option Operand} : stepE P call h dst ty (.slice t x lo hi mx) ρ k = (sliceE P t (ρ x) (lo.map ρ) (hi.map ρ) (mx.map ρ) k).bind fun v => some (v, k) := by
  show Option.map _ _ = _; rw [Option.map_eq_bind]; rfl
theorem st_fieldAddr {t : TypeId} {x : Operand} {f : Nat} : stepE P call h dst ty (.fieldAddr t x f) ρ k = (fieldAddrE P t (ρ x) f k).bind fun v => some (v, k) := by
  show Option.map _ _ = _; rw [Option.map_eq_bind]; rfl
theorem st_field {t : TypeId} {x : Operand} {f : Nat} : stepE P call h dst ty (.field t x f) ρ k = (fieldE P t (ρ x) f).bind fun v => some (v, k) := by
  show Option.map _ _ = _; rw [Option.map_eq_bind]; rfl
theorem st_indexAddr {t : TypeId} {x i : Operand} : stepE P call h dst ty (.indexAddr t x i) ρ k = (indexAddrE P t (ρ x) (ρ i) k).bind fun v => some (v, k) := by
  show Option.map _ _ = _; rw [Option.map_eq_bind]; rfl
theorem st_index {t : TypeId} {x i : Operand} : stepE P call h dst ty (.index t x i) ρ k = (indexE P t (ρ x) (ρ i)).bind fun v => some (v, k) := by
  show Option.map _ _ = _; rw [Option.map_eq_bind]; rfl
theorem st_lookup {t : TypeId} {m key : Operand} {ok : Bool} : stepE P call h dst ty (.lookup t m key ok) ρ k = (lookupE P t (ρ m) (ρ key) ok k.H).bind fun v => some (v, k) := by
  show Option.map _ _ = _; rw [Option.map_eq_bind]; rfl
theorem st_mapUpdate {t : TypeId} {m key x : Operand} : stepE P call h dst ty (.mapUpdate t m key x) ρ k = (mapPutE P h.nv t (ρ m) (ρ key) (ρ x) k).bind fun k => some (.dead, k) := by
  show Option.map _ _ = _; rw [Option.map_eq_bind]; rfl
theorem st_nilCheck {x : Operand} : stepE P call h dst ty (.nilCheck x) ρ k = match ρ x with | .loc r p i o => some (.loc r p i o, k) | .rp b cs => some (.rp b cs, k) | .d (.ptr o) => some (.d (.ptr o), k) | .d (.fn (.func f) a c) => some (.d (.fn (.func f) a c), k) | _ => none := rfl
theorem st_extract {x : Operand} {n : Nat} : stepE P call h dst ty (.extract x n) ρ k = match ρ x with | .tup l => (l[n]?).bind fun v => some (v, k) | _ => none := by
  show (match ρ x with | .tup l => (l[n]?).map (·, k) | _ => none) = _
  cases ρ x <;> simp only [Option.map_eq_bind] <;> rfl
def callV (P : Program) (call : CallF) (h : Hint) (dst : Nat) (f : SV) (xs : List SV) (k : Wk) : Option (SV × Wk) :=
  match f with
  | .d (.fn (.func g) first cap) => (snapA h.nv xs k {}).bind fun (ds, k, b) => callE call h dst g (canon b.sn (first ++ ds ++ cap)) b k
  | _ => none
theorem st_call {f : Operand} {args : Array Operand} {ats : Array TypeId} : stepE P call h dst ty (.call { callee := .value f, args := args, argTypes := ats }) ρ k = callV P call h dst (ρ f) (args.toList.map ρ) k := by
  show (match ρ f with | .d (.fn (.func g) first cap) => _ | _ => none) = _
  rfl
theorem callV_fn {g : FuncId} {first cap : List D} {xs : List SV} : callV P call h dst (.d (.fn (.func g) first cap)) xs k = (snapA h.nv xs k {}).bind fun p => callE call h dst g (canon p.2.2.sn (first ++ p.1 ++ cap)) p.2.2 p.2.1 := rfl
theorem st_len {args : Array Operand} {ats : Array TypeId} : stepE P call h dst ty (.call { callee := .builtin .len, args := args, argTypes := ats }) ρ k = match args.toList, ats.toList with | [x], [t] => (lenE P t k.H (ρ x)).bind fun n => some (.d (.int .i64 n), k) | _, _ => none := by
  show (match args.toList, ats.toList with | [x], [t] => (lenE P t k.H (ρ x)).map fun n => (SV.d (.int .i64 n), k) | _, _ => none) = _
  simp only [Option.map_eq_bind]; rfl
theorem st_min {args : Array Operand} {ats : Array TypeId} : stepE P call h dst ty (.call { callee := .builtin .min, args := args, argTypes := ats }) ρ k = match args.toList with | [x, y] => (minE (ρ x) (ρ y)).bind fun n => some (.d n, k) | _ => none := by
  show (match args.toList with | [x, y] => (minE (ρ x) (ρ y)).map fun n => (SV.d n, k) | _ => none) = _
  simp only [Option.map_eq_bind]; rfl
theorem st_max {args : Array Operand} {ats : Array TypeId} : stepE P call h dst ty (.call { callee := .builtin .max, args := args, argTypes := ats }) ρ k = match args.toList with | [x, y] => (maxE (ρ x) (ρ y)).bind fun n => some (.d n, k) | _ => none := by
  show (match args.toList with | [x, y] => (maxE (ρ x) (ρ y)).map fun n => (SV.d n, k) | _ => none) = _
  simp only [Option.map_eq_bind]; rfl
theorem st_append {args : Array Operand} {ats : Array TypeId} : stepE P call h dst ty (.call { callee := .builtin .append, args := args, argTypes := ats }) ρ k = match args.toList, ats.toList with | [x, y], [t, u] => if t = u then appendE P h.nv dst t (ρ x) (ρ y) k else none | _, _ => none := rfl
end
end

/-! ### what a function leaves -/
def leaveR (P : Program) (own : Bool) (rs : List ResultVar) (n0 : Nat) (r : Ex × St) : Option (List T × List Ob) :=
  match r.1 with
  | .exit _ => none
  | _ => (retVals P r.2 rs).bind fun vs => (absorbA vs r.2.wk).bind fun p => (settle own p.1).bind fun ts => some (ts, trunc n0 ts p.2.H)
theorem leaveR_eq {P : Program} {own : Bool} {fn : Func} {n0 : Nat} : leave P own fn n0 = leaveR P own fn.results.toList n0 := by
  funext ⟨ex, s⟩
  unfold leave leaveR
  cases ex <;> simp only [Option.map_eq_bind] <;> rfl
theorem leaveR_ret {P : Program} {own : Bool} {rs : List ResultVar} {n0 : Nat} {s : St} : leaveR P own rs n0 (.ret, s) = (retVals P s rs).bind fun vs => (absorbA vs s.wk).bind fun p => (settle own p.1).bind fun ts => some (ts, trunc n0 ts p.2.H) := rfl
theorem leaveR_normal {P : Program} {own : Bool} {rs : List ResultVar} {n0 : Nat} {s : St} : leaveR P own rs n0 (.normal, s) = (retVals P s rs).bind fun vs => (absorbA vs s.wk).bind fun p => (settle own p.1).bind fun ts => some (ts, trunc n0 ts p.2.H) := rfl
theorem retVals_nil {P : Program} {s : St} : retVals P s [] = some [] := rfl
theorem retVals_cons {P : Program} {s : St} {r : ResultVar} {rs : List ResultVar} : retVals P s (r :: rs) = (retVal P s r).bind fun v => (retVals P s rs).bind fun vs => some (v :: vs) := by
  simp only [retVals, Option.map_eq_bind]; rfl
theorem retVal_tmp {P : Program} {s : St} {t : Nat} : retVal P s (.tmp t) = some (s.get t) := rfl
theorem retVal_cell {P : Program} {s : St} {t ty : Nat} : retVal P s (.cell t ty) = loadE P ty (s.get t) s.wk := rfl
theorem absorbA_nil {k : Wk} : absorbA [] k = some ([], k) := rfl
theorem absorbA_cons {v : SV} {r : List SV} {k : Wk} : absorbA (v :: r) k = (absorb 0 v k).bind fun p => (absorbA r p.2).bind fun q => some (p.1 :: q.1, q.2) := by
  simp only [absorbA, Option.map_eq_bind]; rfl
theorem settle_own {ts : List T} : settle true ts = some ts := rfl
theorem settle_frz {ts : List T} : settle false ts = (T.frzs false ts).bind fun xs => some ((canon false xs).map T.d) := by
  simp only [settle, Option.map_eq_bind]; rfl
theorem frzs_nil {b : Bool} : T.frzs b [] = some [] := rfl
theorem frzs_cons {b : Bool} {t : T} {r : List T} : T.frzs b (t :: r) = (T.frz b t).bind fun x => (T.frzs b r).bind fun xs => some (x :: xs) := by
  simp only [T.frzs, Option.map_eq_bind]; rfl
theorem frz_d {b : Bool} {x : D} : T.frz b (.d x) = some x.norm := by simp only [T.frz]
theorem frz_own {b : Bool} {es : List T} : T.frz b (.own es) = (T.frzs b es).bind fun xs => some (.sl b xs) := by simp only [T.frz, Option.map_eq_bind]; rfl
theorem frz_agg {b : Bool} {es : List T} : T.frz b (.agg es) = (T.frzs b es).bind fun xs => some (.agg xs) := by simp only [T.frz, Option.map_eq_bind]; rfl
theorem trunc_same {ts : List T} {H : List Ob} : trunc H.length ts H = H := by simp [trunc]
theorem callX_leave {P : Program} {hints : FuncId → Hint} {f : FuncId} {ds : List D} {H : List Ob} {fn : Func} {c : Code} {rs : List ResultVar} (hf : P.funcs[f]? = some fn) (hb : fn.body = some c) (hl : ds.length = fn.params.size + fn.nfree) (hk : codeOk fn.ntmps c = true) (hn : (fn.name == "runtime.NumGoroutine") = false) (hr : fn.results.toList = rs) :
    callX P hints f ds H = (codeX P hints (hints f) c (enter ds H)).bind (leaveR P (hints f).own rs H.length) := by
  rw [callX_eq hf hb hl hk hn, leaveR_eq, hr]

attribute [go_sem] codeX_seq codeX_region' codeX_block' codeX_cond' codeX_skip codeX_ret codeX_exit codeX_label codeX_scope exOut_normal exOut_ret exOut_exit thenX_normal thenX_ret thenX_exit condX_bool runOps_nil runOps_cons runOp_plain val_tmp val_int val_bool val_nils val_nilp val_nilm val_nilf val_nili val_func get_mk look_nil look_cons lookL_nil lookL_cons lookR_nil lookR_cons wk_mk fin_some fin_none trs_nil trs_cons trenv_nil trenv_cons sv_d sv_rp sv_clip sv_dead sv_agg sv_tup trv_nil trv_cons prune_mk envOf_nil envOf_cons st_move st_assign st_pick st_alloc st_box st_build st_buildSlice st_load st_store st_binOp st_unOp st_convert st_makeFunc st_makeMap st_makeSlice st_slice st_fieldAddr st_field st_indexAddr st_index st_lookup st_mapUpdate st_nilCheck st_extract st_call st_len st_min st_max st_append callV_fn
attribute [go_sem] leaveR_ret leaveR_normal retVals_nil retVals_cons retVal_tmp retVal_cell absorbA_nil absorbA_cons settle_own settle_frz frzs_nil frzs_cons frz_d frz_own frz_agg trunc_same stepS
attribute [go_sem] Option.bind_some Option.bind_none Option.getD_some Option.getD_none List.map_cons List.map_nil Option.map_some Option.map_none List.cons_append List.nil_append List.append_nil Prod.mk.injEq List.zipIdx_cons List.zipIdx_nil enter_eq
end Go.Am
/- The abstract machine: what the operations do on values that are written out. -/
namespace Go.Am
open Go
set_option linter.unusedSimpArgs false
set_option linter.unusedVariables false

theorem wrap_i64 {x : Int} (h1 : -9223372036854775808 ≤ x) (h2 : x ≤ 9223372036854775807) : IntKind.i64.wrap x = x := by
  simp only [IntKind.wrap, IntKind.signed, IntKind.bits]; simp; omega
theorem wrap_u8 {x : Int} (h1 : 0 ≤ x) (h2 : x ≤ 255) : IntKind.u8.wrap x = x := by
  simp only [IntKind.wrap, IntKind.signed, IntKind.bits]; simp; omega
theorem wrap_u64 {x : Int} (h1 : 0 ≤ x) (h2 : x ≤ 18446744073709551615) : IntKind.u64.wrap x = x := by
  simp only [IntKind.wrap, IntKind.signed, IntKind.bits]; simp; omega

section
variable {P : Program} {dst nv : Nat} {sl : Bool} {k : Wk}
@[go_sem] theorem as_int {q : IntKind} {n : Int} : assignE dst sl (.d (.int q n)) k = some (.d (.int q n), k) := rfl
@[go_sem] theorem as_bool {b : Bool} : assignE dst sl (.d (.bool b)) k = some (.d (.bool b), k) := rfl
@[go_sem] theorem as_str {s : List UInt8} : assignE dst sl (.d (.str s)) k = some (.d (.str s), k) := rfl
@[go_sem] theorem as_sl {b : Bool} {l : List D} : assignE dst sl (.d (.sl b l)) k = some (.d (.sl b l), k) := rfl
@[go_sem] theorem as_agg {l : List D} : assignE dst sl (.d (.agg l)) k = some (.d (.agg l), k) := rfl
@[go_sem] theorem as_nilp : assignE dst sl (.d .nilp) k = some (.d .nilp, k) := rfl
@[go_sem] theorem as_ptr {o : Nat} : assignE dst sl (.d (.ptr o)) k = some (.d (.ptr o), k) := rfl
@[go_sem] theorem as_nilm : assignE dst sl (.d .nilm) k = some (.d .nilm, k) := rfl
@[go_sem] theorem as_map {o : Nat} : assignE dst sl (.d (.map o)) k = some (.d (.map o), k) := rfl
@[go_sem] theorem as_nilf : assignE dst sl (.d .nilf) k = some (.d .nilf, k) := rfl
@[go_sem] theorem as_fn {f : Fn} {a c : List D} : assignE dst sl (.d (.fn f a c)) k = some (.d (.fn f a c), k) := rfl
@[go_sem] theorem as_nili : assignE dst sl (.d .nili) k = some (.d .nili, k) := rfl
@[go_sem] theorem as_nils : assignE dst sl (.d .nils) k = if sl = true then some (.bor (.l dst 0) [] 0 0, k.new dst 0 (.own [])) else some (.d .nils, k) := rfl
@[go_sem] theorem as_rp {b : Bool} {l : List D} : assignE dst sl (.rp b l) k = some (.rp b l, k) := rfl
@[go_sem] theorem as_clip {b : Bool} {l : List D} : assignE dst sl (.clip b l) k = some (.clip b l, k) := rfl
@[go_sem] theorem as_loc {r : Root} {p : Path} {i o : Nat} : assignE dst sl (.loc r p i o) k = some (.loc r p i o, k) := rfl
@[go_sem] theorem as_svagg {l : List SV} : assignE dst sl (.agg l) k = some (.agg l, k) := rfl
@[go_sem] theorem as_svtup {l : List SV} : assignE dst sl (.tup l) k = some (.tup l, k) := rfl
@[go_sem] theorem as_borO {n : Nat} {p : Path} {o len : Nat} : assignE dst sl (.bor (.o n) p o len) k = some (.bor (.o n) p o len, k) := by cases p <;> cases o <;> rfl
@[go_sem] theorem as_borP {r : Root} {a : Nat × Nat} {p : Path} {o len : Nat} : assignE dst sl (.bor r (a :: p) o len) k = some (.bor r (a :: p) o len, k) := by cases r <;> cases o <;> rfl
@[go_sem] theorem as_bor {n j len : Nat} : assignE dst sl (.bor (.l n j) [] 0 len) k = if (n, j) = (dst, 0) then some (.bor (.l n j) [] 0 len, k) else (k.get (.l n j)).bind fun c => match c with
    | .own es => if len = es.length then some (.bor (.l dst 0) [] 0 len, ({ k with ct := ((n, j), .dead) :: k.ct }.new dst 0 c).tell (.ren (n, j) (dst, 0))) else some (.bor (.l n j) [] 0 len, k)
    | _ => none := rfl

/-! numbers -/
section
variable {c : Bool} {t : TypeId} {q : IntKind} {a b : Int}
@[go_sem] theorem bin_add : binE P c .add t (.d (.int q a)) (.d (.int q b)) = some (.int q (q.wrap (a + b))) := by simp [binE, intOp]
@[go_sem] theorem bin_sub : binE P c .sub t (.d (.int q a)) (.d (.int q b)) = some (.int q (q.wrap (a - b))) := by simp [binE, intOp]
@[go_sem] theorem bin_mul : binE P c .mul t (.d (.int q a)) (.d (.int q b)) = some (.int q (q.wrap (a * b))) := by simp [binE, intOp]
@[go_sem] theorem bin_quo : binE P c .quo t (.d (.int q a)) (.d (.int q b)) = if b = 0 then none else some (.int q (q.wrap (a.tdiv b))) := by simp [binE, intOp]
@[go_sem] theorem bin_rem : binE P c .rem t (.d (.int q a)) (.d (.int q b)) = if b = 0 then none else some (.int q (a.tmod b)) := by simp [binE, intOp]
@[go_sem] theorem bin_eql : binE P c .eql t (.d (.int q a)) (.d (.int q b)) = some (.bool (decide (a = b))) := by simp [binE, intOp]; rfl
@[go_sem] theorem bin_neq : binE P c .neq t (.d (.int q a)) (.d (.int q b)) = some (.bool (decide (a ≠ b))) := by simp [binE, intOp, bne]; rfl
@[go_sem] theorem bin_lss : binE P c .lss t (.d (.int q a)) (.d (.int q b)) = some (.bool (decide (a < b))) := by simp [binE, intOp]
@[go_sem] theorem bin_leq : binE P c .leq t (.d (.int q a)) (.d (.int q b)) = some (.bool (decide (a ≤ b))) := by simp [binE, intOp]
@[go_sem] theorem bin_gtr : binE P c .gtr t (.d (.int q a)) (.d (.int q b)) = some (.bool (decide (b < a))) := by simp [binE, intOp]
@[go_sem] theorem bin_geq : binE P c .geq t (.d (.int q a)) (.d (.int q b)) = some (.bool (decide (b ≤ a))) := by simp [binE, intOp]
@[go_sem] theorem bin_eqlB {x y : Bool} : binE P c .eql t (.d (.bool x)) (.d (.bool y)) = match P.underlying t with | some .bool => some (.bool (decide (x = y))) | _ => none := by
  simp only [binE, eqV]
  cases P.underlying t with
  | none => rfl
  | some d => cases d <;> first | rfl | (cases x <;> cases y <;> rfl)
@[go_sem] theorem bin_neqB {x y : Bool} : binE P c .neq t (.d (.bool x)) (.d (.bool y)) = match P.underlying t with | some .bool => some (.bool (decide (x ≠ y))) | _ => none := by
  simp only [binE, eqV]
  cases P.underlying t with
  | none => rfl
  | some d => cases d <;> first | rfl | (cases x <;> cases y <;> rfl)
@[go_sem] theorem bin_eqlA {x y : List D} : binE P c .eql t (.d (.agg x)) (.d (.agg y)) = (plainS P t).bind fun ks => (eqKs ks x y).bind fun b => some (.bool b) := by
  simp only [binE, eqV]
  cases plainS P t with
  | none => rfl
  | some ks => simp only [Option.bind_some]; cases eqKs ks x y <;> rfl
@[go_sem] theorem bin_neqA {x y : List D} : binE P c .neq t (.d (.agg x)) (.d (.agg y)) = (plainS P t).bind fun ks => (eqKs ks x y).bind fun b => some (.bool !b) := by
  simp only [binE, eqV]
  cases plainS P t with
  | none => rfl
  | some ks => simp only [Option.bind_some]; cases eqKs ks x y <;> rfl
@[go_sem] theorem bin_eqlS {x y : List UInt8} : binE P c .eql t (.d (.str x)) (.d (.str y)) = some (.bool (decide (x = y))) := by
  have : (x == y) = decide (x = y) := by rw [Bool.eq_iff_iff]; simp
  simp only [binE, strOp, this]
@[go_sem] theorem bin_neqS {x y : List UInt8} : binE P c .neq t (.d (.str x)) (.d (.str y)) = some (.bool (decide (x ≠ y))) := by
  have : (!(x == y)) = decide (x ≠ y) := by rw [Bool.eq_iff_iff]; simp
  simp only [binE, strOp, this]
end
@[go_sem] theorem eqKs_nil : eqKs [] [] [] = some true := rfl
@[go_sem] theorem eqKs_int {ns : List Nat} {q : IntKind} {a b : Int} {r s : List D} : eqKs (0 :: ns) (.int q a :: r) (.int q b :: s) = (eqKs ns r s).bind fun x => some (decide (a = b) && x) := by
  simp only [eqKs, eqK, if_true, Option.bind_some, Option.map_eq_bind]; rfl
@[go_sem] theorem eqKs_bool {ns : List Nat} {a b : Bool} {r s : List D} : eqKs (2 :: ns) (.bool a :: r) (.bool b :: s) = (eqKs ns r s).bind fun x => some (decide (a = b) && x) := by
  simp only [eqKs, eqK, Option.bind_some, Option.map_eq_bind]; cases a <;> cases b <;> rfl
@[go_sem] theorem eqKs_str {ns : List Nat} {a b : List UInt8} {r s : List D} : eqKs (1 :: ns) (.str a :: r) (.str b :: s) = (eqKs ns r s).bind fun x => some (decide (a = b) && x) := by
  have : (a == b) = decide (a = b) := by rw [Bool.eq_iff_iff]; simp
  simp only [eqKs, eqK, Option.bind_some, Option.map_eq_bind, this]; rfl
@[go_sem] theorem un_not {b : Bool} : unE .not (.d (.bool b)) = some (.bool !b) := rfl
@[go_sem] theorem un_neg {q : IntKind} {n : Int} : unE .neg (.d (.int q n)) = some (.int q (q.wrap (0 - n))) := rfl
@[go_sem] theorem conv_int {s t : TypeId} {q : IntKind} {n : Int} : convE P s t (.d (.int q n)) = match P.underlying s, P.underlying t with | some _, some (.int q) => some (.int q (q.wrap n)) | some _, some .string => some (.str (Utf8.encode n).data.toList) | _, _ => none := rfl

/-! slices, structs, places -/
@[go_sem] theorem min_i {q r : IntKind} {a b : Int} : minE (.d (.int q a)) (.d (.int r b)) = some (.int q (if b < a then b else a)) := rfl
@[go_sem] theorem max_i {q r : IntKind} {a b : Int} : maxE (.d (.int q a)) (.d (.int r b)) = some (.int q (if b > a then b else a)) := rfl
@[go_sem] theorem len_sl {t : TypeId} {H : List Ob} {b : Bool} {l : List D} : lenE P t H (.d (.sl b l)) = match P.underlying t with | some (.slice _) => some (l.length : Int) | _ => none := rfl
@[go_sem] theorem len_nils {t : TypeId} {H : List Ob} : lenE P t H (.d .nils) = match P.underlying t with | some (.slice _) => some 0 | _ => none := rfl
@[go_sem] theorem len_str {t : TypeId} {H : List Ob} {s : List UInt8} : lenE P t H (.d (.str s)) = match P.underlying t with | some .string => some (s.length : Int) | _ => none := rfl
@[go_sem] theorem len_bor {t : TypeId} {H : List Ob} {r : Root} {p : Path} {o n : Nat} : lenE P t H (.bor r p o n) = match P.underlying t with | some (.slice _) => some (n : Int) | _ => none := rfl
@[go_sem] theorem len_clip {t : TypeId} {H : List Ob} {b : Bool} {l : List D} : lenE P t H (.clip b l) = match P.underlying t with | some (.slice _) => some (l.length : Int) | _ => none := rfl
@[go_sem] theorem ia_sl {t : TypeId} {b : Bool} {l : List D} {q : IntKind} {n : Int} : indexAddrE P t (.d (.sl b l)) (.d (.int q n)) k = match P.underlying t with | some (.slice e) => if 0 ≤ n then (l[n.toNat]?).bind fun y => if y.nc = P.cellsOf e then some (.rp b y.cells) else none else none | _ => none := by
  simp only [indexAddrE]
  cases P.underlying t with
  | none => rfl
  | some d => cases d <;> rfl
@[go_sem] theorem ia_bor {t : TypeId} {r : Root} {p : Path} {o len : Nat} {q : IntKind} {n : Int} : indexAddrE P t (.bor r p o len) (.d (.int q n)) k = match P.underlying t with
    | some (.slice e) => if 0 ≤ n ∧ n < len then (k.get r).bind fun c => (c.at p).bind fun nd => match nd with
      | .own es => (es[o + n.toNat]?).bind fun y => if y.nc = P.cellsOf e then some (.loc r p (o + n.toNat) 0) else none
      | _ => none
      else none
    | _ => none := by
  simp only [indexAddrE]
  cases P.underlying t with
  | none => rfl
  | some d => cases d <;> rfl
@[go_sem] theorem ld_rp {t : TypeId} {b : Bool} {cs : List D} : loadE P t (.rp b cs) k = (aggO P t).bind fun ag => if ag = true then (if P.cellsOf t ≤ cs.length then some (.d (.agg (cs.take (P.cellsOf t)))) else none) else (cs[0]?).bind D.sv1 := rfl
/-- what stands in an element -/
def loadC (P : Program) (t : TypeId) (r : Root) (p : Path) (i off : Nat) (e : T) : Option SV :=
  (aggO P t).bind fun ag => if ag = true then
      match e with
      | .d (.agg l) => if off + P.cellsOf t ≤ l.length then some (.d (.agg (win l off (P.cellsOf t)))) else none
      | .agg cs => if off + P.cellsOf t ≤ cs.length then (cellsSV r p i off (win cs off (P.cellsOf t))).map SV.mkAgg else none
      | _ => none
    else (e.cell off).bind (cellSV r p i off)
@[go_sem] theorem ld_loc {t : TypeId} {r : Root} {p : Path} {i off : Nat} : loadE P t (.loc r p i off) k = (k.get r).bind fun c => (c.at p).bind fun nd => match nd with | .own es => (es[i]?).bind (loadC P t r p i off) | _ => none := by
  simp only [loadE, asLoc]
  cases k.get r with
  | none => rfl
  | some c =>
    simp only [Option.bind_some]
    cases c.at p with
    | none => rfl
    | some nd => cases nd <;> rfl
@[go_sem] theorem ld_ptr {t : TypeId} {n : Nat} : loadE P t (.d (.ptr n)) k = loadE P t (.loc (.o n) [] 0 0) k := rfl
@[go_sem] theorem loadC_d {t : TypeId} {r : Root} {p : Path} {i off : Nat} {x : D} : loadC P t r p i off (.d x) = (aggO P t).bind fun ag => if ag = true then (match x with | .agg l => if off + P.cellsOf t ≤ l.length then some (.d (.agg (win l off (P.cellsOf t)))) else none | _ => none) else (T.cell (.d x) off).bind (cellSV r p i off) := by
  simp only [loadC]; cases x <;> rfl
@[go_sem] theorem loadC_own {t : TypeId} {r : Root} {p : Path} {i off : Nat} {es : List T} : loadC P t r p i off (.own es) = (aggO P t).bind fun ag => if ag = true then none else (T.cell (.own es) off).bind (cellSV r p i off) := rfl
@[go_sem] theorem loadC_agg {t : TypeId} {r : Root} {p : Path} {i off : Nat} {cs : List T} : loadC P t r p i off (.agg cs) = (aggO P t).bind fun ag => if ag = true then (if off + P.cellsOf t ≤ cs.length then (cellsSV r p i off (win cs off (P.cellsOf t))).map SV.mkAgg else none) else (T.cell (.agg cs) off).bind (cellSV r p i off) := rfl
@[go_sem] theorem cell_agg {l : List T} {o : Nat} : T.cell (.agg l) o = l[o]? := rfl
@[go_sem] theorem cell_dagg {l : List D} {o : Nat} : T.cell (.d (.agg l)) o = (l[o]?).bind fun x => some (.d x) := by
  show (l[o]?).map _ = _; rw [Option.map_eq_bind]; rfl
@[go_sem] theorem cell_int {q : IntKind} {n : Int} : T.cell (.d (.int q n)) 0 = some (.d (.int q n)) := rfl
@[go_sem] theorem cell_bool {b : Bool} : T.cell (.d (.bool b)) 0 = some (.d (.bool b)) := rfl
@[go_sem] theorem cell_str {s : List UInt8} : T.cell (.d (.str s)) 0 = some (.d (.str s)) := rfl
@[go_sem] theorem cell_sl {b : Bool} {l : List D} : T.cell (.d (.sl b l)) 0 = some (.d (.sl b l)) := rfl
@[go_sem] theorem cell_nils : T.cell (.d .nils) 0 = some (.d .nils) := rfl
@[go_sem] theorem cell_ptr {o : Nat} : T.cell (.d (.ptr o)) 0 = some (.d (.ptr o)) := rfl
@[go_sem] theorem cell_nilp : T.cell (.d .nilp) 0 = some (.d .nilp) := rfl
@[go_sem] theorem cell_map {o : Nat} : T.cell (.d (.map o)) 0 = some (.d (.map o)) := rfl
@[go_sem] theorem cell_fn {f : Fn} {a c : List D} : T.cell (.d (.fn f a c)) 0 = some (.d (.fn f a c)) := rfl
@[go_sem] theorem cell_own {es : List T} : T.cell (.own es) 0 = some (.own es) := rfl
@[go_sem] theorem csv_d {r : Root} {p : Path} {i o : Nat} {x : D} : cellSV r p i o (.d x) = x.sv1 := rfl
@[go_sem] theorem csv_own {r : Root} {p : Path} {i o : Nat} {es : List T} : cellSV r p i o (.own es) = some (.bor r (p ++ [(i, o)]) 0 es.length) := rfl
@[go_sem] theorem sv1_int {q : IntKind} {n : Int} : D.sv1 (.int q n) = some (.d (.int q n)) := rfl
@[go_sem] theorem sv1_bool {b : Bool} : D.sv1 (.bool b) = some (.d (.bool b)) := rfl
@[go_sem] theorem sv1_str {s : List UInt8} : D.sv1 (.str s) = some (.d (.str s)) := rfl
@[go_sem] theorem sv1_sl {b : Bool} {l : List D} : D.sv1 (.sl b l) = some (.d (.sl b l)) := rfl
@[go_sem] theorem sv1_nils : D.sv1 .nils = some (.d .nils) := rfl
@[go_sem] theorem sv1_ptr {o : Nat} : D.sv1 (.ptr o) = some (.d (.ptr o)) := rfl
@[go_sem] theorem sv1_nilp : D.sv1 .nilp = some (.d .nilp) := rfl
@[go_sem] theorem sv1_map {o : Nat} : D.sv1 (.map o) = some (.d (.map o)) := rfl
@[go_sem] theorem sv1_nilm : D.sv1 .nilm = some (.d .nilm) := rfl
@[go_sem] theorem sv1_fn {f : Fn} {a c : List D} : D.sv1 (.fn f a c) = some (.d (.fn f a c)) := rfl
@[go_sem] theorem cells_int {q : IntKind} {n : Int} : D.cells (.int q n) = [.int q n] := rfl
@[go_sem] theorem cells_bool {b : Bool} : D.cells (.bool b) = [.bool b] := rfl
@[go_sem] theorem cells_str {s : List UInt8} : D.cells (.str s) = [.str s] := rfl
@[go_sem] theorem cells_sl {b : Bool} {l : List D} : D.cells (.sl b l) = [.sl b l] := rfl
@[go_sem] theorem cells_agg {l : List D} : D.cells (.agg l) = l := rfl
@[go_sem] theorem cells_nils : D.cells .nils = [.nils] := rfl
@[go_sem] theorem nc_int {q : IntKind} {n : Int} : D.nc (.int q n) = 1 := rfl
@[go_sem] theorem nc_bool {b : Bool} : D.nc (.bool b) = 1 := rfl
@[go_sem] theorem nc_str {s : List UInt8} : D.nc (.str s) = 1 := rfl
@[go_sem] theorem nc_sl {b : Bool} {l : List D} : D.nc (.sl b l) = 1 := rfl
@[go_sem] theorem nc_agg {l : List D} : D.nc (.agg l) = l.length := rfl
@[go_sem] theorem nc_nils : D.nc .nils = 1 := rfl
@[go_sem] theorem nc_ptr {o : Nat} : D.nc (.ptr o) = 1 := rfl
@[go_sem] theorem nc_map {o : Nat} : D.nc (.map o) = 1 := rfl
@[go_sem] theorem nc_fn {f : Fn} {a c : List D} : D.nc (.fn f a c) = 1 := rfl
@[go_sem] theorem tnc_d {x : D} : T.nc (.d x) = x.nc := rfl
@[go_sem] theorem tnc_own {l : List T} : T.nc (.own l) = 1 := rfl
@[go_sem] theorem tnc_agg {l : List T} : T.nc (.agg l) = l.length := rfl
@[go_sem] theorem fa_rp {t : TypeId} {b : Bool} {cs : List D} {f : Nat} : fieldAddrE P t (.rp b cs) f k = (fieldOf P t f).bind fun p => if 0 < p.2.1 then some (.rp b (cs.drop p.1)) else none := rfl
@[go_sem] theorem fa_loc {t : TypeId} {r : Root} {p : Path} {i o f : Nat} : fieldAddrE P t (.loc r p i o) f k = (fieldOf P t f).bind fun q => if 0 < q.2.1 then (if locOk k r p i (o + q.1) = true then some (.loc r p i (o + q.1)) else none) else none := rfl
@[go_sem] theorem fa_ptr {t : TypeId} {n f : Nat} : fieldAddrE P t (.d (.ptr n)) f k = fieldAddrE P t (.loc (.o n) [] 0 0) f k := rfl
@[go_sem] theorem fe_agg {t : TypeId} {l : List D} {f : Nat} : fieldE P t (.d (.agg l)) f = (fieldOf P t f).bind fun q => if q.2.2 = true then (if q.1 + q.2.1 ≤ l.length then some (.d (.agg (win l q.1 q.2.1))) else none) else (l[q.1]?).bind D.sv1 := rfl
@[go_sem] theorem at_nil {t : T} : t.at [] = some t := by unfold T.at; rfl
@[go_sem] theorem at_cons {es : List T} {i o : Nat} {p : Path} : T.at (.own es) ((i, o) :: p) = (es[i]?).bind fun e => (e.cell o).bind fun c => c.at p := by simp only [T.at]
@[go_sem] theorem put_nil {t x : T} : t.put [] x = some x := by unfold T.put; rfl
@[go_sem] theorem put_cons {es : List T} {i o : Nat} {p : Path} {x : T} : T.put (.own es) ((i, o) :: p) x = (es[i]?).bind fun e => (e.cell o).bind fun c => (c.put p x).bind fun c' => some (.own (es.set i (e.putCell o c'))) := by simp only [T.put, Option.map_eq_bind]; rfl
@[go_sem] theorem get_l {ct : List ((Nat × Nat) × T)} {H : List Ob} {tr : List Tr} {n j : Nat} : Wk.get ⟨ct, H, tr⟩ (.l n j) = lookR ct (n, j) := rfl
@[go_sem] theorem get_o {ct : List ((Nat × Nat) × T)} {H : List Ob} {tr : List Tr} {n : Nat} : Wk.get ⟨ct, H, tr⟩ (.o n) = match H[n]? with | some (.box c) => some (.own [c]) | _ => none := rfl
@[go_sem] theorem set_l {ct : List ((Nat × Nat) × T)} {H : List Ob} {tr : List Tr} {n j : Nat} {t : T} : Wk.set ⟨ct, H, tr⟩ (.l n j) t = some ⟨((n, j), t) :: ct, H, tr⟩ := rfl
@[go_sem] theorem set_o {ct : List ((Nat × Nat) × T)} {H : List Ob} {tr : List Tr} {n : Nat} {c : T} : Wk.set ⟨ct, H, tr⟩ (.o n) (.own [c]) = some ⟨ct, H.set n (.box c), tr⟩ := rfl
@[go_sem] theorem tell_mk {ct : List ((Nat × Nat) × T)} {H : List Ob} {tr : List Tr} {x : Tr} : Wk.tell ⟨ct, H, tr⟩ x = ⟨ct, H, tr ++ [x]⟩ := rfl
@[go_sem] theorem new_mk {ct : List ((Nat × Nat) × T)} {H : List Ob} {tr : List Tr} {n j : Nat} {t : T} : Wk.new ⟨ct, H, tr⟩ n j t = ⟨((n, j), t) :: ct, H, tr ++ [.kill (.l n j) []]⟩ := rfl
@[go_sem] theorem box_eq {h : Hint} {x : T} : boxE h dst x k = if x.nc = 0 then none else if h.objs.contains dst = true then some (.d (.ptr k.H.length), { k with H := k.H ++ [.box x] }) else some (.loc (.l dst 0) [] 0 0, k.new dst 0 (.own [x])) := rfl
attribute [go_sem] absorb_d
@[go_sem] theorem locOk_eq {r : Root} {p : Path} {i off : Nat} : locOk k r p i off = ((k.get r).bind fun c => c.at p).any fun nd => match nd with | .own es => (es[i]?).any fun e => decide (off < e.nc) | _ => false := by
  unfold locOk
  cases (k.get r).bind fun c => c.at p with
  | none => rfl
  | some x => cases x with
    | own es => simp only [Option.any_some]; cases es[i]? <;> rfl
    | _ => rfl
@[go_sem] theorem any_map {α β : Type} {o : Option α} {f : α → β} {g : β → Bool} : (o.map f).any g = o.any fun x => g (f x) := by cases o <;> rfl
@[go_sem] theorem any_true {α : Type} {o : Option α} : o.any (fun _ => true) = o.isSome := by cases o <;> rfl
@[go_sem] theorem bind_dup {α β : Type} {o : Option α} {f : α → α → Option β} : (o.bind fun x => o.bind fun y => f x y) = o.bind fun x => f x x := by cases o <;> rfl
@[go_sem] theorem ab_clip {b : Bool} {l : List D} : absorb nv (.clip b l) k = some (.d (.sl b l), k) := by
  have : ∀ a : List Tr, trv a (.clip b l) = .clip b l := fun a => by
    induction a with
    | nil => rfl
    | cons x a ih => simp only [trv, sv_clip, ih]
  show absorb1 nv (trv k.tr (.clip b l)) k = _
  rw [this]; rfl
@[go_sem] theorem ab_bor {r : Root} {p : Path} {o len : Nat} : absorb nv (.bor r p o len) k = absorb1 nv (trv k.tr (.bor r p o len)) k := rfl
@[go_sem] theorem ab_loc {r : Root} {p : Path} {i o : Nat} : absorb nv (.loc r p i o) k = absorb1 nv (trv k.tr (.loc r p i o)) k := rfl
@[go_sem] theorem ab_agg {l : List SV} : absorb nv (.agg l) k = (absorbs nv l k).bind fun p => some (T.mkAgg p.1, p.2) := by show (absorbs nv l k).map _ = _; rw [Option.map_eq_bind]; rfl
@[go_sem] theorem ab1_d {x : D} : absorb1 nv (.d x) k = some (.d x, k) := rfl
@[go_sem] theorem ab1_l {n j o len : Nat} : absorb1 nv (.bor (.l n j) [] o len) k = (k.get (.l n j)).bind fun c => match c with
    | .own es => if nv ≤ n ∧ o = 0 ∧ len = es.length then (k.set (.l n j) .dead).bind fun (k : Wk) => some (.own es, k.tell (.kill (.l n j) []))
      else (T.frzs false es).bind fun l => (k.set (.l n j) .dead).bind fun (k : Wk) => some (.d (.sl false (win l o len)), k.tell (.frz (.l n j) [] l))
    | _ => none := by
  simp only [absorb1]
  cases k.get (.l n j) with
  | none => rfl
  | some c =>
    simp only [Option.bind_some, at_nil]
    cases c with
    | own es => simp only [Option.map_eq_bind]; rfl
    | _ => rfl
@[go_sem] theorem abs_nil : absorbs nv [] k = some ([], k) := rfl
@[go_sem] theorem abs_cons {v : SV} {r : List SV} : absorbs nv (v :: r) k = (absorb1 nv (trv k.tr v) k).bind fun p => (absorbs nv r p.2).bind fun q => some (p.1 :: q.1, q.2) := by simp only [absorbs, Option.map_eq_bind]; rfl
@[go_sem] theorem sna_nil {b : Lend} : snapA nv [] k b = some ([], k, b) := rfl
@[go_sem] theorem sna_cons {v : SV} {r : List SV} {b : Lend} : snapA nv (v :: r) k b = (snap nv v k b).bind fun p => (snapA nv r p.2.1 p.2.2).bind fun q => some (p.1 :: q.1, q.2.1, q.2.2) := by simp only [snapA, Option.map_eq_bind]; rfl
@[go_sem] theorem sn_d {x : D} {b : Lend} : snap nv (.d x) k b = some (x.norm, k, b) := by simp only [snap, trv_d, snap1]
@[go_sem] theorem sn_bor {r : Root} {p : Path} {o len : Nat} {b : Lend} : snap nv (.bor r p o len) k b = snap1 nv (trv k.tr (.bor r p o len)) k b := rfl
@[go_sem] theorem norm_int {q : IntKind} {n : Int} : D.norm (.int q n) = .int q n := rfl
@[go_sem] theorem norm_bool {b : Bool} : D.norm (.bool b) = .bool b := rfl
@[go_sem] theorem norm_str {s : List UInt8} : D.norm (.str s) = .str s := rfl
@[go_sem] theorem norm_sl {b : Bool} {l : List D} : D.norm (.sl b l) = .sl b l := rfl
@[go_sem] theorem norm_nils : D.norm .nils = .sl false [] := rfl
@[go_sem] theorem norm_ptr {o : Nat} : D.norm (.ptr o) = .ptr o := rfl
@[go_sem] theorem norm_map {o : Nat} : D.norm (.map o) = .map o := rfl
@[go_sem] theorem norm_fn {f : Fn} {a c : List D} : D.norm (.fn f a c) = .fn f a c := rfl
@[go_sem] theorem norm_agg' {l : List D} : D.norm (.agg l) = .agg (l.map D.norm1) := rfl
@[go_sem] theorem norm1_int {q : IntKind} {n : Int} : D.norm1 (.int q n) = .int q n := rfl
@[go_sem] theorem norm1_bool {b : Bool} : D.norm1 (.bool b) = .bool b := rfl
@[go_sem] theorem norm1_str {s : List UInt8} : D.norm1 (.str s) = .str s := rfl
@[go_sem] theorem norm1_sl {b : Bool} {l : List D} : D.norm1 (.sl b l) = .sl b l := rfl
@[go_sem] theorem norm1_nils : D.norm1 .nils = .sl false [] := rfl
@[go_sem] theorem norm1_ptr {o : Nat} : D.norm1 (.ptr o) = .ptr o := rfl
@[go_sem] theorem norm1_map {o : Nat} : D.norm1 (.map o) = .map o := rfl
@[go_sem] theorem norm1_fn {f : Fn} {a c : List D} : D.norm1 (.fn f a c) = .fn f a c := rfl
@[go_sem] theorem canon_nil {sn : Bool} : canon sn [] = [] := by unfold canon; split <;> rfl
@[go_sem] theorem pick_nil {l : List (Nat × Nat)} : pick [] l = [] := by induction l with | nil => rfl | cons a l ih => simp [pick, lookR, ih]
@[go_sem] theorem pick_cons {ct : List ((Nat × Nat) × T)} {x : Nat × Nat} {r : List (Nat × Nat)} : pick ct (x :: r) = match lookR ct x with | some t => (x, t) :: pick ct r | none => pick ct r := rfl
@[go_sem] theorem pick_nil' {ct : List ((Nat × Nat) × T)} : pick ct [] = [] := rfl
attribute [go_sem] SV.rootss SV.roots dedup
end
end Go.Am
/- The abstract machine: a region by its operations alone; a region that draws its order, where nothing is changed, goes in the text's order. -/
namespace Go.Am
open Go
set_option linter.unusedSimpArgs false
set_option linter.unusedVariables false

/-- an operation: where it goes, its type, what it does, the slot of its guard -/
structure Lite where
  d : Option Nat
  ty : TypeId
  op : Op
  g : Option (Nat × Bool)
def liteOf (ops : List Oper) (o : Oper) : Lite := ⟨o.dst, o.type, o.op, o.guard.map fun p => (gslot ops p.1, p.2)⟩
def stepL (P : Program) (call : CallF) (h : Hint) (o : Lite) (s : St) : Option St :=
  match o.g with
  | none => stepS P call h o.d o.ty o.op s
  | some (t, want) => stepG P call h o.d o.ty o.op want (s.get t) s
def runL (P : Program) (call : CallF) (h : Hint) : List Lite → St → Option St
  | [], s => some s
  | o :: r, s => (stepL P call h o s).bind (runL P call h r)
def guardOk (ops : List Oper) (o : Oper) : Bool := match o.guard with | none => true | some (j, _) => ((ops[j]?).bind (·.dst)).isSome
section
variable {P : Program} {hints : FuncId → Hint} {call : CallF} {h : Hint}
theorem runOp_lite {ops : List Oper} {o : Oper} {s : St} (hg : guardOk ops o = true) : runOp P call h ops o s = stepL P call h (liteOf ops o) s := by
  obtain ⟨d, op, ty, pos, after, guard⟩ := o
  cases guard with
  | none => exact runOp_plain
  | some p => obtain ⟨j, want⟩ := p; exact runOp_guard hg
theorem runOps_lite {ops : List Oper} : ∀ (l : List Oper) (s : St), l.all (guardOk ops) = true → runOps P call h ops l s = runL P call h (l.map (liteOf ops)) s
  | [], s, _ => rfl
  | o :: l, s, hg => by
    simp only [List.all_cons, Bool.and_eq_true] at hg
    simp only [runOps, List.map_cons, runL, runOp_lite hg.1]
    congr 1
    funext s'
    exact runOps_lite l s' hg.2

/-! ### nothing is changed -/
def slotsApart (ops : List Oper) (x y : Oper) : Bool :=
  (match x.dst with | some d => !(looks ops y).contains d && y.dst != some d | none => true) &&
  (match y.dst with | some d => !(looks ops x).contains d | none => true)
def stRow (ops : List Oper) (b : Nat) (y : Oper) : Nat → List Oper → Bool
  | _, [] => true
  | j, x :: r => (b.testBit j || slotsApart ops x y) && stRow ops b y (j + 1) r
def stAll (ops : List Oper) : Nat → List Nat → List Oper → Bool
  | i, b :: bs, y :: r => stRow ops b y 0 (ops.take i) && stAll ops (i + 1) bs r
  | _, _, _ => true
/-- no operation changes anything, and those that are not ordered do not share slots -/
def pureR (h : Hint) (ops : List Oper) : Bool := ops.all (fun o => !effOf h (o.dst.getD 0) o.op) && (match befs ops [] with | some bs => stAll ops 0 bs ops | none => false)
/-- what stands in a footprint of an operation that changes nothing -/
def PureFp (ops : List Oper) (o : Oper) (f : Fp) : Prop := f.sl = looks ops o ∧ f.dst = o.dst ∧ f.wr = [] ∧ f.hw = false ∧ f.ren = false
theorem runOpF_pure {ops : List Oper} {o : Oper} {c : Cf} (he : effOf h (o.dst.getD 0) o.op = false) {s' : St} (e : runOp P call h ops o c.1 = some s') : ∃ c' f, runOpF P call h ops o c = some (c', f) ∧ c'.1 = s' ∧ PureFp ops o f := by
  rw [runOp_evalO] at e
  simp only [Option.map_eq_some_iff] at e
  obtain ⟨⟨w, v, k⟩, e1, rfl⟩ := e
  refine ⟨_, _, runOpF_mk e1, rfl, rfl, rfl, ?_, ?_, ?_⟩
  · have := (evalO_grown e1).2 (by simp [he])
    subst this
    simp [fpOf, newKeys, St.wk]
  · simp [fpOf, he]
  · have := (evalO_grown e1).2 (by simp [he])
    subst this
    rfl
theorem runOpsF_pure {ops : List Oper} : ∀ (l : List Oper) {c : Cf} {s' : St}, (∀ o ∈ l, effOf h (o.dst.getD 0) o.op = false) → runOps P call h ops l c.1 = some s' → ∃ c' fs, runOpsF P call h ops l c = some (c', fs) ∧ c'.1 = s' ∧ All2 (PureFp ops) l fs
  | [], c, s', _, e => by simp only [runOps, Option.some.injEq] at e; exact ⟨c, [], rfl, e, rfl⟩
  | o :: l, c, s', he, e => by
    simp only [runOps, Option.bind_eq_some_iff] at e
    obtain ⟨s1, e1, e2⟩ := e
    obtain ⟨c1, f, g1, rfl, g3⟩ := runOpF_pure (he o (by simp)) e1
    obtain ⟨c2, fs, q1, q2, q3⟩ := runOpsF_pure l (fun o ho => he o (by simp [ho])) e2
    exact ⟨c2, f :: fs, by simp only [runOpsF, g1, Option.bind_some, q1, Option.map_some], q2, f, fs, rfl, g3, q3⟩
theorem apart_pure {ops : List Oper} {x y : Oper} {f g : Fp} (hf : PureFp ops x f) (hg : PureFp ops y g) (h : slotsApart ops x y = true) : apartFp f g = true := by
  obtain ⟨f1, f2, f3, f4, f5⟩ := hf
  obtain ⟨g1, g2, g3, g4, g5⟩ := hg
  simp only [apartFp, f1, f2, f3, f4, f5, g1, g2, g3, g4, g5]
  simp only [slotsApart, Bool.and_eq_true] at h
  cases hx : x.dst <;> cases hy : y.dst <;> simp only [hx, hy] at h ⊢ <;> simp [meet] <;> simpa using h
theorem checkRow_pure {ops : List Oper} {y : Oper} {b : Nat} {g : Fp} (hg : PureFp ops y g) : ∀ (l : List Oper) (fs : List Fp) (j : Nat), All2 (PureFp ops) l fs → stRow ops b y j l = true → checkRow b g j fs = true
  | [], fs, j, ha, _ => by rw [show fs = [] from ha]; rfl
  | x :: l, fs, j, ha, hs => by
    obtain ⟨f, r, rfl, h1, h2⟩ := ha
    simp only [stRow, Bool.and_eq_true, Bool.or_eq_true] at hs
    simp only [checkRow, Bool.and_eq_true, Bool.or_eq_true]
    exact ⟨hs.1.imp id (apart_pure h1 hg), checkRow_pure hg l r (j + 1) h2 hs.2⟩
theorem checkF_pure {ops : List Oper} {all : List Fp} (hall : All2 (PureFp ops) ops all) : ∀ (l : List Oper) (fs : List Fp) (i : Nat) (bs : List Nat), All2 (PureFp ops) l fs → stAll ops i bs l = true → checkF all i bs fs = true
  | [], fs, i, bs, ha, _ => by rw [show fs = [] from ha]; cases bs <;> rfl
  | y :: l, fs, i, [], ha, _ => by obtain ⟨f, r, rfl, _, _⟩ := ha; rfl
  | y :: l, fs, i, b :: bs, ha, hs => by
    obtain ⟨f, r, rfl, h1, h2⟩ := ha
    simp only [stAll, Bool.and_eq_true] at hs
    simp only [checkF, Bool.and_eq_true]
    exact ⟨checkRow_pure h1 _ _ 0 (All2.take i hall) hs.1, checkF_pure hall l r (i + 1) bs h2 hs.2⟩

/-- the region of a number -/
def findR (id : Nat) : Code → Option Code
  | .region i ops dr => if i = id then some (.region i ops dr) else none
  | .seq a b => (findR id a).or (findR id b)
  | .cond _ a b => (findR id a).or (findR id b)
  | .block _ c => findR id c
  | .loop c => findR id c
  | .scope c => findR id c
  | _ => none
def rg (c : Code) (id : Nat) : Code := (findR id c).getD .skip
def regOk (h : Hint) (id : Nat) (ls : List Nat) (c : Code) : Bool :=
  match c with
  | .region i ops dr => decide (i = id) && ops.toList.all (guardOk ops.toList) && (!dr || pureR h ops.toList) && decide (h.live id = ls)
  | _ => false
def opsL (c : Code) : List Lite := match c with | .region _ ops _ => ops.toList.map (liteOf ops.toList) | _ => []
/-- a region, whose order does not matter -/
theorem rg_eq {c : Code} {id : Nat} {ls : List Nat} {L : List Lite} (hk : regOk h id ls c = true) (hL : opsL c = L) (s : St) : codeX P hints h c s = (runL P (callX P hints) h L s).bind fun s' => some (.normal, prune ls s') := by
  unfold regOk at hk
  split at hk
  · rename_i i ops dr
    simp only [Bool.and_eq_true, decide_eq_true_eq, Bool.or_eq_true, Bool.not_eq_true'] at hk
    obtain ⟨⟨⟨rfl, hg⟩, hd⟩, hl⟩ := hk
    subst hL
    have text : (codeX P hints h (.region i ops false) s) = (runL P (callX P hints) h (ops.toList.map (liteOf ops.toList)) s).bind fun s' => some (.normal, prune ls s') := by
      rw [codeX_region', runOps_lite _ _ hg, hl]
    cases dr with
    | false => exact text
    | true =>
      rcases hd with hd | hd
      · cases hd
      · refine Eq.trans ?_ text
        rw [codeX_draw, codeX_region, hl]
        simp only [pureR, Bool.and_eq_true, List.all_eq_true, Bool.not_eq_true'] at hd
        obtain ⟨he, hb⟩ := hd
        split at hb
        · rename_i bs hbs
          refine ext_some fun r => ?_
          simp only [Option.bind_eq_some_iff, Option.map_eq_some_iff]
          constructor
          · rintro ⟨⟨c', fs⟩, e1, e2⟩
            simp only at e2
            split at e2
            · refine ⟨c'.1, ?_, by simpa using e2⟩
              have : ∀ (l : List Oper) (c c' : Cf) (fs : List Fp), runOpsF P (callX P hints) h ops.toList l c = some (c', fs) → runOps P (callX P hints) h ops.toList l c.1 = some c'.1 := by
                intro l
                induction l with
                | nil => intro c c' fs e; simp only [runOpsF, Option.some.injEq, Prod.mk.injEq] at e; rw [← e.1]; rfl
                | cons o l ih =>
                  intro c c' fs e
                  simp only [runOpsF, Option.bind_eq_some_iff, Option.map_eq_some_iff, Prod.mk.injEq] at e
                  obtain ⟨⟨c1, f⟩, e1, ⟨c2, fs'⟩, e2, rfl, _⟩ := e
                  simp only [runOps, runOpF_op e1, Option.bind_some]
                  exact ih _ _ _ e2
              exact this _ _ _ _ e1
            · cases e2
          · rintro ⟨s', e1, rfl⟩
            obtain ⟨c', fs, q1, q2, q3⟩ := runOpsF_pure ops.toList (c := (s, hist0 s)) he e1
            refine ⟨(c', fs), q1, ?_⟩
            have hck : checkR ops.toList fs = true := by
              unfold checkR
              rw [hbs]
              exact checkF_pure q3 _ _ 0 bs q3 hb
            simp only [hck, if_true, q2]
        · cases hb
  · cases hk

@[go_sem] theorem runL_nil {s : St} : runL P call h [] s = some s := rfl
/-- go on behind an operation -/
def nextL (P : Program) (call : CallF) (h : Hint) (d : Option Nat) (r : List Lite) (s : St) (v : SV) (k : Wk) : Option St := runL P call h r (s.fin d v k)
section
variable {d : Option Nat} {ty : TypeId} {op : Op} {r : List Lite} {env : List (Nat × SV)} {ct ct' : List ((Nat × Nat) × T)} {H H' : List Ob} {tr : List Tr} {v : SV} {s : St} {t : Nat} {want b : Bool}
@[go_sem] theorem runL_plain : runL P call h (⟨d, ty, op, none⟩ :: r) ⟨env, ct, H⟩ = (stepE P call h (d.getD 0) ty op (St.val ⟨env, ct, H⟩) ⟨ct, H, []⟩).bind fun p => nextL P call h d r ⟨env, ct, H⟩ p.1 p.2 := by
  simp only [runL, stepL, stepS, Option.bind_assoc, Option.bind_some]; rfl
@[go_sem] theorem nextL_mk : nextL P call h d r s v ⟨ct', H', tr⟩ = runL P call h r (s.fin d v ⟨ct', H', tr⟩) := rfl
def guardL (P : Program) (call : CallF) (h : Hint) (d : Option Nat) (ty : TypeId) (op : Op) (want : Bool) (r : List Lite) (s : St) (g : SV) : Option St := (stepG P call h d ty op want g s).bind fun s' => runL P call h r s'
@[go_sem] theorem runL_guard : runL P call h (⟨d, ty, op, some (t, want)⟩ :: r) ⟨env, ct, H⟩ = guardL P call h d ty op want r ⟨env, ct, H⟩ (St.get ⟨env, ct, H⟩ t) := rfl
@[go_sem] theorem guardL_bool : guardL P call h d ty op want r ⟨env, ct, H⟩ (.d (.bool b)) = if b = want then (stepE P call h (d.getD 0) ty op (St.val ⟨env, ct, H⟩) ⟨ct, H, []⟩).bind fun p => nextL P call h d r ⟨env, ct, H⟩ p.1 p.2 else runL P call h r (St.fin ⟨env, ct, H⟩ d (.tup []) ⟨ct, H, []⟩) := by
  by_cases e : b = want
  · simp only [guardL, stepG_bool, e, if_true, stepS, Option.bind_assoc, Option.bind_some]; rfl
  · simp only [guardL, stepG_bool, e, if_false, Option.bind_some]; rfl
@[go_sem] theorem guardL_skip : guardL P call h d ty op want r ⟨env, ct, H⟩ (.tup []) = runL P call h r (St.fin ⟨env, ct, H⟩ d (.tup []) ⟨ct, H, []⟩) := rfl
end
end
end Go.Am
/- The abstract machine: a region that draws its order, with what each operation leans on and changes written out. -/
namespace Go.Am
open Go
set_option linter.unusedSimpArgs false
set_option linter.unusedVariables false

/-- an operation: where it goes, the slot of its guard, its type, what it does, what it looks at, those ahead of it that it must be apart from, what it may do to contents -/
structure LF where
  d : Option Nat
  g : Option (Nat × Bool)
  ty : TypeId
  op : Op
  lk : List Nat
  u : List Nat
  nd : Bool
  eff : Bool
  rds : Bool
  hr : Bool
  ho : Bool
def lfOf (h : Hint) (ops : List Oper) (nd : Bool) (u : List Nat) (o : Oper) : LF :=
  ⟨o.dst, o.guard.map fun p => (gslot ops p.1, p.2), o.type, o.op, looks ops o, u, nd, effOf h (o.dst.getD 0) o.op, reads o.op, hrOf h (o.dst.getD 0) o.op, hOf h (o.dst.getD 0) o.op⟩
def fpW (o : LF) (hi : Hist) (s : St) (w : Bool) (v : SV) (k : Wk) : Fp :=
  { sl := o.lk, dst := o.d, rd := o.lk.flatMap (histOf hi) ++ v.srts ++ (if o.rds = true then o.lk.flatMap fun t => (s.get t).rts else []), wr := newKeys s.wk k ++ k.tr.flatMap Tr.rts,
    hr := (w && o.hr) || (o.lk.flatMap (histOf hi) ++ v.srts ++ (if o.rds = true then o.lk.flatMap fun t => (s.get t).rts else [])).any Root.isO || (newKeys s.wk k ++ k.tr.flatMap Tr.rts).any Root.isO || k.tr.any Tr.isKillO,
    hw := (w && o.eff) && (o.ho || (o.lk.flatMap fun t => (s.get t).rts).any Root.isO || k.tr.any Tr.isKillO), ren := k.tr.any Tr.isRen }
def wantF (o : LF) (s : St) : Option Bool :=
  match o.g with
  | none => some true
  | some (t, want) => match s.get t with
    | .d (.bool b) => some (b == want)
    | .tup [] => some false
    | _ => none
def evalF (P : Program) (call : CallF) (h : Hint) (o : LF) (s : St) : Option (Bool × SV × Wk) :=
  (wantF o s).bind fun w => if w = true then (stepE P call h (o.d.getD 0) o.ty o.op s.val s.wk).bind fun p => some (true, p.1, p.2) else some (false, .tup [], s.wk)
def apartAt (acc : List Fp) (f : Fp) (j : Nat) : Bool := match acc[j]? with | some g => apartFp g f | none => false
/-- what is kept of an operation that none must be apart from -/
def fp0 : Fp := ⟨[], none, [], [], false, false, false⟩
/-- is this one to be looked at at all? -/
def apU (o : LF) (acc : List Fp) (f : Fp) : Bool := o.u.all (apartAt acc f)
def runC (P : Program) (call : CallF) (h : Hint) : List LF → Cf → List Fp → Option St
  | [], c, _ => some c.1
  | o :: r, c, acc => (evalF P call h o c.1).bind fun q =>
    if o.u.all (apartAt acc (fpW o c.2 c.1 q.1 q.2.1 q.2.2)) = true then runC P call h r (c.1.fin o.d q.2.1 q.2.2, histAdd c.2 q.2.2.tr o.d q.2.1) (acc ++ [if o.nd = true then fpW o c.2 c.1 q.1 q.2.1 q.2.2 else fp0]) else none
section
variable {P : Program} {hints : FuncId → Hint} {call : CallF} {h : Hint}
theorem evalF_lf {ops : List Oper} {nd : Bool} {u : List Nat} {o : Oper} {s : St} (hg : guardOk ops o = true) : evalO P call h ops o s = evalF P call h (lfOf h ops nd u o) s := by
  have : wantE ops s o = wantF (lfOf h ops nd u o) s := by
    obtain ⟨d, op, ty, pos, after, guard⟩ := o
    cases guard with
    | none => rfl
    | some p =>
      obtain ⟨j, want⟩ := p
      simp only [guardOk, Option.isSome_iff_exists] at hg
      obtain ⟨t, ht⟩ := hg
      simp only [wantE, wantF, lfOf, Option.map_some, gslot, ht, Option.getD_some]
      rfl
  simp only [evalO, evalF, this, Option.map_eq_bind]
  rfl
theorem fpW_lf {ops : List Oper} {nd : Bool} {u : List Nat} {o : Oper} {hi : Hist} {s : St} {w : Bool} {v : SV} {k : Wk} : fpOf h ops o hi s w v k = fpW (lfOf h ops nd u o) hi s w v k := rfl
def checkUs : List Fp → List (List Nat) → List Fp → Bool
  | acc, u :: us, f :: fs => u.all (apartAt acc f) && checkUs (acc ++ [f]) us fs
  | _, _, _ => true
def lfs (h : Hint) (ops : List Oper) : List Bool → List (List Nat) → List Oper → List LF
  | n :: ns, u :: us, o :: r => lfOf h ops n u o :: lfs h ops ns us r
  | _, _, _ => []
/-- where it counts, the two are the same -/
def AccOk (all : List Bool) (a b : List Fp) : Prop := a.length = b.length ∧ ∀ j : Nat, all[j]? = some true → a[j]? = b[j]?
theorem apart_acc {all : List Bool} {a b : List Fp} {f : Fp} {u : List Nat} (ha : AccOk all a b) (hu : u.all (fun j => decide (all[j]? = some true)) = true) : u.all (apartAt a f) = u.all (apartAt b f) := by
  rw [Bool.eq_iff_iff, List.all_eq_true, List.all_eq_true]
  simp only [List.all_eq_true, decide_eq_true_eq] at hu
  have e : ∀ j ∈ u, apartAt a f j = apartAt b f j := fun j hj => by unfold apartAt; rw [ha.2 j (hu j hj)]
  exact ⟨fun h j hj => (e j hj) ▸ h j hj, fun h j hj => (e j hj).symm ▸ h j hj⟩
theorem accOk_snoc {all pre r : List Bool} {n : Bool} {a b : List Fp} {f : Fp} (ha : AccOk all a b) (hall : all = pre ++ n :: r) (hl : a.length = pre.length) : AccOk all (a ++ [if n = true then f else fp0]) (b ++ [f]) := by
  refine ⟨by simp [ha.1], fun j hj => ?_⟩
  by_cases e : j < a.length
  · rw [List.getElem?_append_left e, List.getElem?_append_left (ha.1 ▸ e)]; exact ha.2 j hj
  · by_cases e2 : j = a.length
    · subst e2
      have : all[a.length]? = some n := by rw [hall, hl]; simp
      rw [this] at hj
      cases hj
      rw [List.getElem?_append_right (Nat.le_refl _), ha.1, List.getElem?_append_right (Nat.le_refl _)]
      simp
    · rw [List.getElem?_eq_none (by simp; omega), List.getElem?_eq_none (by simp [← ha.1]; omega)]
theorem runC_eq {ops : List Oper} {all : List Bool} : ∀ (l : List Oper) (pre ns : List Bool) (us : List (List Nat)) (c : Cf) (acc acc' : List Fp), l.all (guardOk ops) = true → us.length = l.length → ns.length = l.length → all = pre ++ ns → us.all (fun u => u.all fun j => decide (all[j]? = some true)) = true → AccOk all acc' acc → acc'.length = pre.length →
    runC P call h (lfs h ops ns us l) c acc' = (runOpsF P call h ops l c).bind fun p => if checkUs acc us p.2 = true then some p.1.1 else none
  | [], pre, [], [], c, acc, acc', _, _, _, _, _, _, _ => rfl
  | o :: l, pre, n :: ns, u :: us, c, acc, acc', hg, hl, hn, hall, hu, ha, hp => by
    simp only [List.all_cons, Bool.and_eq_true] at hg hu
    simp only [lfs, runC, runOpsF, runOpF, ← evalF_lf (u := u) (nd := n) hg.1]
    cases evalO P call h ops o c.1 with
    | none => rfl
    | some q =>
      obtain ⟨w, v, k⟩ := q
      simp only [Option.bind_some, Option.map_some, ← fpW_lf, show (lfOf h ops n u o).u = u from rfl, show (lfOf h ops n u o).d = o.dst from rfl, show (lfOf h ops n u o).nd = n from rfl, apart_acc ha hu.1]
      rw [runC_eq l (pre ++ [n]) ns us _ (acc ++ [fpOf h ops o c.2 c.1 w v k]) _ hg.2 (by simpa using hl) (by simpa using hn) (by simp [hall]) hu.2 (accOk_snoc ha hall hp) (by simp [hp])]
      cases runOpsF P call h ops l (c.1.fin o.dst v k, histAdd c.2 k.tr o.dst v) with
      | none => simp
      | some p =>
        simp only [Option.bind_some, Option.map_some, checkUs, Bool.and_eq_true]
        by_cases e : u.all (apartAt acc (fpOf h ops o c.2 c.1 w v k)) = true
        · simp only [e, if_true, true_and]
        · simp only [e, if_false, false_and, Bool.false_eq_true, ↓reduceIte]

/-! ### the order's own check -/
theorem checkRow_iff {b : Nat} {f : Fp} : ∀ (l : List Fp) (j : Nat), checkRow b f j l = true ↔ ∀ i g, l[i]? = some g → b.testBit (j + i) = true ∨ apartFp g f = true
  | [], j => by simp [checkRow]
  | x :: l, j => by
    simp only [checkRow, Bool.and_eq_true, Bool.or_eq_true, checkRow_iff l (j + 1)]
    constructor
    · rintro ⟨h1, h2⟩ i g hi
      cases i with
      | zero => simp only [List.getElem?_cons_zero, Option.some.injEq] at hi; subst hi; exact h1
      | succ i => rw [show j + (i + 1) = j + 1 + i by omega]; exact h2 i g (by simpa using hi)
    · intro hh
      exact ⟨hh 0 x rfl, fun i g hi => by rw [show j + 1 + i = j + (i + 1) by omega]; exact hh (i + 1) g (by simpa using hi)⟩
def FpOk (h : Hint) (ops : List Oper) (o : Oper) (f : Fp) : Prop := effOf h (o.dst.getD 0) o.op = false → PureFp ops o f
def rowU (h : Hint) (ops : List Oper) (b : Nat) (u : List Nat) (y : Oper) : Nat → List Oper → Bool
  | _, [] => true
  | j, x :: r => ((b.testBit j && !u.contains j) || (!b.testBit j && (u.contains j || (slotsApart ops x y && !effOf h (x.dst.getD 0) x.op && !effOf h (y.dst.getD 0) y.op)))) && rowU h ops b u y (j + 1) r
def allU (h : Hint) (ops : List Oper) : Nat → List Nat → List (List Nat) → List Oper → Bool
  | i, b :: bs, u :: us, y :: r => u.all (fun j => decide (j < i)) && rowU h ops b u y 0 (ops.take i) && allU h ops (i + 1) bs us r
  | _, [], [], [] => true
  | _, _, _, _ => false
theorem All2.at' {α β : Type} {R : α → β → Prop} : ∀ {as : List α} {l : List β}, All2 R as l → ∀ (i : Nat) b, l[i]? = some b → ∃ a, as[i]? = some a ∧ R a b
  | [], l, ha, i, b, hb => by rw [show l = [] from ha] at hb; simp at hb
  | a :: as, l, ha, i, b, hb => by
    obtain ⟨b', r, rfl, h1, h2⟩ := ha
    cases i with
    | zero => simp only [List.getElem?_cons_zero, Option.some.injEq] at hb; subst hb; exact ⟨a, rfl, h1⟩
    | succ i => obtain ⟨a', q1, q2⟩ := All2.at' h2 i b (by simpa using hb); exact ⟨a', by simpa using q1, q2⟩
theorem rowU_at {ops : List Oper} {b : Nat} {u : List Nat} {y : Oper} : ∀ (l : List Oper) (j : Nat), rowU h ops b u y j l = true → ∀ i x, l[i]? = some x → (b.testBit (j + i) = true ∧ (j + i) ∉ u) ∨ (b.testBit (j + i) = false ∧ ((j + i) ∈ u ∨ (slotsApart ops x y = true ∧ effOf h (x.dst.getD 0) x.op = false ∧ effOf h (y.dst.getD 0) y.op = false)))
  | [], j, _, i, x, hx => by simp at hx
  | z :: l, j, hr, i, x, hx => by
    simp only [rowU, Bool.and_eq_true, Bool.or_eq_true, Bool.not_eq_true', List.contains_eq_mem, decide_eq_false_iff_not, decide_eq_true_eq] at hr
    cases i with
    | zero => simp only [List.getElem?_cons_zero, Option.some.injEq] at hx; subst hx; simpa [and_assoc] using hr.1
    | succ i => rw [show j + (i + 1) = j + 1 + i by omega]; exact rowU_at l (j + 1) hr.2 i x (by simpa using hx)
theorem row_iff {ops l : List Oper} {b : Nat} {u : List Nat} {y : Oper} {f : Fp} {acc : List Fp} (hu : u.all (fun j => decide (j < acc.length)) = true) (hr : rowU h ops b u y 0 l = true) (ha : All2 (FpOk h ops) l acc) (hy : FpOk h ops y f) : checkRow b f 0 acc = u.all (apartAt acc f) := by
  rw [Bool.eq_iff_iff, checkRow_iff, List.all_eq_true]
  simp only [List.all_eq_true, decide_eq_true_eq] at hu
  constructor
  · intro hh j hj
    have hlt := hu j hj
    obtain ⟨x, hx, _⟩ := All2.at' ha j acc[j] (by simp [hlt])
    have := rowU_at l 0 hr j x hx
    simp only [Nat.zero_add] at this
    rcases this with ⟨_, h2⟩ | ⟨h1, _⟩
    · exact absurd hj h2
    · simp only [apartAt, List.getElem?_eq_getElem hlt]
      rcases hh j acc[j] (by simp [hlt]) with h3 | h3
      · rw [Nat.zero_add, h1] at h3; cases h3
      · exact h3
  · intro hh i g hi
    obtain ⟨x, hx, hx2⟩ := All2.at' ha i g hi
    have := rowU_at l 0 hr i x hx
    simp only [Nat.zero_add] at this ⊢
    rcases this with ⟨h1, _⟩ | ⟨_, h2 | ⟨h2, h3, h4⟩⟩
    · exact .inl h1
    · right; have := hh i h2; simpa [apartAt, hi] using this
    · exact .inr (apart_pure (hx2 h3) (hy h4) h2)
theorem All2.snoc {α β : Type} {R : α → β → Prop} {a : α} {b : β} : ∀ {as : List α} {l : List β}, All2 R as l → R a b → All2 R (as ++ [a]) (l ++ [b])
  | [], l, ha, hr => by rw [show l = [] from ha]; exact ⟨b, [], rfl, hr, rfl⟩
  | x :: as, l, ha, hr => by
    obtain ⟨b', r, rfl, h1, h2⟩ := ha
    exact ⟨b', r ++ [b], rfl, h1, All2.snoc h2 hr⟩
theorem All2.leng {α β : Type} {R : α → β → Prop} : ∀ {as : List α} {l : List β}, All2 R as l → l.length = as.length
  | [], l, ha => by rw [show l = [] from ha]; rfl
  | x :: as, l, ha => by obtain ⟨b', r, rfl, h1, h2⟩ := ha; simp [All2.leng h2]
theorem checkF_us {ops : List Oper} {all : List Fp} : ∀ (l : List Oper) (pre : List Oper) (fs acc : List Fp) (bs : List Nat) (us : List (List Nat)), ops = pre ++ l → all = acc ++ fs → All2 (FpOk h ops) pre acc → All2 (FpOk h ops) l fs → allU h ops pre.length bs us l = true → checkF all pre.length bs fs = checkUs acc us fs
  | [], pre, fs, acc, bs, us, _, _, _, ha, hu => by
    rw [show fs = [] from ha]
    cases bs <;> cases us <;> simp [checkF, checkUs]
  | y :: l, pre, fs, acc, bs, us, ho, hall, hp, ha, hu => by
    obtain ⟨f, r, rfl, h1, h2⟩ := ha
    cases bs with
    | nil => cases us <;> simp [allU] at hu
    | cons b bs =>
      cases us with
      | nil => simp [allU] at hu
      | cons u us =>
        simp only [allU, Bool.and_eq_true] at hu
        simp only [checkF, checkUs]
        have hlen := All2.leng hp
        have t1 : ops.take pre.length = pre := by rw [ho]; simp
        have t2 : all.take pre.length = acc := by rw [hall, ← hlen]; simp
        rw [t1] at hu
        rw [t2, row_iff (hlen ▸ hu.1.1) hu.1.2 hp h1]
        have := checkF_us (ops := ops) (all := all) l (pre ++ [y]) r (acc ++ [f]) bs us (by simp [ho]) (by simp [hall]) (All2.snoc hp h1) h2 (by simpa using hu.2)
        rw [← this]; simp
theorem runOpsF_ok {ops : List Oper} : ∀ (l : List Oper) {c c' : Cf} {fs : List Fp}, runOpsF P call h ops l c = some (c', fs) → All2 (FpOk h ops) l fs
  | [], c, c', fs, e => by simp only [runOpsF, Option.some.injEq, Prod.mk.injEq] at e; exact e.2 ▸ rfl
  | o :: l, c, c', fs, e => by
    simp only [runOpsF, Option.bind_eq_some_iff, Option.map_eq_some_iff, Prod.mk.injEq] at e
    obtain ⟨⟨c1, f⟩, e1, ⟨c2, fs'⟩, e2, rfl, rfl⟩ := e
    refine ⟨f, fs', rfl, fun he => ?_, runOpsF_ok l e2⟩
    obtain ⟨c1', f', q1, _, q3⟩ := runOpF_pure (ops := ops) he (runOpF_op e1)
    rw [e1] at q1
    simp only [Option.some.injEq, Prod.mk.injEq] at q1
    rw [q1.2]; exact q3
def regOkD (h : Hint) (id : Nat) (ls : List Nat) (ns : List Bool) (us : List (List Nat)) (c : Code) : Bool :=
  match c with
  | .region i ops dr => decide (i = id) && ops.toList.all (guardOk ops.toList) && dr && (match befs ops.toList [] with | some bs => allU h ops.toList 0 bs us ops.toList | none => false) && decide (us.length = ops.toList.length) && decide (ns.length = ops.toList.length) && us.all (fun u => u.all fun j => decide (ns[j]? = some true)) && decide (h.live id = ls)
  | _ => false
def lfsOf (h : Hint) (ns : List Bool) (us : List (List Nat)) (c : Code) : List LF := match c with | .region _ ops _ => lfs h ops.toList ns us ops.toList | _ => []
/-- a region that draws -/
theorem rgD_eq {c : Code} {id : Nat} {ls : List Nat} {ns : List Bool} {us : List (List Nat)} {L : List LF} (hk : regOkD h id ls ns us (rg c id) = true) (hL : lfsOf h ns us (rg c id) = L) (s : St) : codeX P hints h (rg c id) s = (runC P (callX P hints) h L (s, hist0 s) []).bind fun s' => some (.normal, prune ls s') := by
  generalize rg c id = c at hk hL
  unfold regOkD at hk
  split at hk
  · rename_i i ops dr
    simp only [Bool.and_eq_true, decide_eq_true_eq] at hk
    obtain ⟨⟨⟨⟨⟨⟨⟨rfl, hg⟩, rfl⟩, hb⟩, hn⟩, hns⟩, hu⟩, hl⟩ := hk
    subst hL
    simp only [lfsOf]
    rw [codeX_draw, runC_eq (all := ns) ops.toList [] ns us _ [] [] hg hn hns rfl hu ⟨rfl, fun _ _ => rfl⟩ rfl, hl]
    split at hb
    · rename_i bs hbs
      cases e : runOpsF P (callX P hints) h ops.toList ops.toList (s, hist0 s) with
      | none => rfl
      | some p =>
        obtain ⟨c', fs⟩ := p
        have ha := runOpsF_ok _ e
        have : checkR ops.toList fs = checkUs [] us fs := by
          unfold checkR
          rw [hbs]
          exact checkF_us ops.toList [] fs [] bs us rfl rfl rfl ha hb
        simp only [Option.bind_some, this]
        by_cases hc : checkUs [] us fs = true <;> simp [hc]
    · cases hb
  · cases hk

/-! ### as equations -/
variable {r : List LF} {d : Option Nat} {ty : TypeId} {op : Op} {lk u : List Nat} {nd eff rds hr ho : Bool} {env : List (Nat × SV)} {ct : List ((Nat × Nat) × T)} {H : List Ob} {hi : Hist} {acc : List Fp}
@[go_sem] theorem runC_nil {c : Cf} : runC P call h [] c acc = some c.1 := rfl
/-- go on behind an operation -/
def nextC (P : Program) (call : CallF) (h : Hint) (o : LF) (r : List LF) (c : Cf) (acc : List Fp) (w : Bool) (v : SV) (k : Wk) : Option St :=
  if o.u.all (apartAt acc (fpW o c.2 c.1 w v k)) = true then runC P call h r (c.1.fin o.d v k, histAdd c.2 k.tr o.d v) (acc ++ [if o.nd = true then fpW o c.2 c.1 w v k else fp0]) else none
@[go_sem] theorem runC_plain : runC P call h (⟨d, none, ty, op, lk, u, nd, eff, rds, hr, ho⟩ :: r) (⟨env, ct, H⟩, hi) acc = (stepE P call h (d.getD 0) ty op (St.val ⟨env, ct, H⟩) ⟨ct, H, []⟩).bind fun p => nextC P call h ⟨d, none, ty, op, lk, u, nd, eff, rds, hr, ho⟩ r (⟨env, ct, H⟩, hi) acc true p.1 p.2 := by
  simp only [runC, evalF, wantF, Option.bind_some, if_true, Option.bind_assoc]
  rfl
def guardC (P : Program) (call : CallF) (h : Hint) (o : LF) (want : Bool) (r : List LF) (c : Cf) (acc : List Fp) (v : SV) : Option St :=
  match v with
  | .d (.bool b) => if b = want then (stepE P call h (o.d.getD 0) o.ty o.op c.1.val c.1.wk).bind fun p => nextC P call h o r c acc true p.1 p.2 else nextC P call h o r c acc false (.tup []) c.1.wk
  | .tup [] => nextC P call h o r c acc false (.tup []) c.1.wk
  | _ => none
@[go_sem] theorem runC_guard {t : Nat} {want : Bool} {c : Cf} : runC P call h (⟨d, some (t, want), ty, op, lk, u, nd, eff, rds, hr, ho⟩ :: r) c acc = guardC P call h ⟨d, some (t, want), ty, op, lk, u, nd, eff, rds, hr, ho⟩ want r c acc (c.1.get t) := by
  simp only [runC, evalF, wantF, guardC]
  have hb : ∀ b : Bool, (((some (b == want)).bind fun w => if w = true then (stepE P call h (d.getD 0) ty op c.1.val c.1.wk).bind fun p => some (true, p.1, p.2) else some (false, .tup [], c.1.wk)).bind fun q => nextC P call h ⟨d, some (t, want), ty, op, lk, u, nd, eff, rds, hr, ho⟩ r c acc q.1 q.2.1 q.2.2) = if b = want then (stepE P call h (d.getD 0) ty op c.1.val c.1.wk).bind fun p => nextC P call h ⟨d, some (t, want), ty, op, lk, u, nd, eff, rds, hr, ho⟩ r c acc true p.1 p.2 else nextC P call h ⟨d, some (t, want), ty, op, lk, u, nd, eff, rds, hr, ho⟩ r c acc false (.tup []) c.1.wk := by
    intro b
    by_cases e : b = want
    · subst e; simp only [Option.bind_some, beq_self_eq_true, if_true, Option.bind_assoc]
    · have : (b == want) = false := by simpa using e
      simp only [this, Option.bind_some, e, if_false, Bool.false_eq_true]
  generalize c.1.get t = v
  cases v with
  | d x =>
    cases x with
    | bool b => exact hb b
    | _ => rfl
  | tup l =>
    cases l with
    | nil => rfl
    | cons _ _ => rfl
  | _ => rfl
@[go_sem] theorem guardC_bool {o : LF} {want b : Bool} {c : Cf} : guardC P call h o want r c acc (.d (.bool b)) = if b = want then (stepE P call h (o.d.getD 0) o.ty o.op c.1.val c.1.wk).bind fun p => nextC P call h o r c acc true p.1 p.2 else nextC P call h o r c acc false (.tup []) c.1.wk := rfl
@[go_sem] theorem guardC_skip {o : LF} {want : Bool} {c : Cf} : guardC P call h o want r c acc (.tup []) = nextC P call h o r c acc false (.tup []) c.1.wk := rfl
variable {g : Option (Nat × Bool)} {c : Cf} {w : Bool} {v : SV} {ct' : List ((Nat × Nat) × T)} {H' : List Ob} {tr : List Tr}
@[go_sem] theorem nextC_quiet : nextC P call h ⟨d, g, ty, op, lk, [], false, eff, rds, hr, ho⟩ r c acc w v ⟨ct', H', tr⟩ = runC P call h r (c.1.fin d v ⟨ct', H', tr⟩, histAdd c.2 tr d v) (acc ++ [fp0]) := by
  simp [nextC]
@[go_sem] theorem nextC_last {u : List Nat} {n : Nat} : nextC P call h ⟨d, g, ty, op, lk, n :: u, false, eff, rds, hr, ho⟩ r c acc w v ⟨ct', H', tr⟩ =
    if (n :: u).all (apartAt acc (fpW ⟨d, g, ty, op, lk, n :: u, false, eff, rds, hr, ho⟩ c.2 c.1 w v ⟨ct', H', tr⟩)) = true then runC P call h r (c.1.fin d v ⟨ct', H', tr⟩, histAdd c.2 tr d v) (acc ++ [fp0]) else none := by
  simp [nextC]
@[go_sem] theorem nextC_mk : nextC P call h ⟨d, g, ty, op, lk, u, true, eff, rds, hr, ho⟩ r c acc w v ⟨ct', H', tr⟩ =
    if u.all (apartAt acc (fpW ⟨d, g, ty, op, lk, u, true, eff, rds, hr, ho⟩ c.2 c.1 w v ⟨ct', H', tr⟩)) = true then runC P call h r (c.1.fin d v ⟨ct', H', tr⟩, histAdd c.2 tr d v) (acc ++ [fpW ⟨d, g, ty, op, lk, u, true, eff, rds, hr, ho⟩ c.2 c.1 w v ⟨ct', H', tr⟩]) else none := by
  simp [nextC]
@[go_sem] theorem histAdd_nil {n : Nat} : histAdd hi [] (some n) v = (n, v.srts) :: hi := by
  have : ∀ l : Hist, (l.map fun p => (p.1, histTr [] p.2)) = l := fun l => by induction l with | nil => rfl | cons a r ih => simp only [List.map_cons, ih]; rfl
  simp only [histAdd, this]
@[go_sem] theorem histAdd_none : histAdd hi [] none v = hi := by
  have : ∀ l : Hist, (l.map fun p => (p.1, histTr [] p.2)) = l := fun l => by induction l with | nil => rfl | cons a r ih => simp only [List.map_cons, ih]; rfl
  simp only [histAdd, this]
def histMap (tr : List Tr) : Hist → Hist
  | [] => []
  | p :: r => (p.1, histTr tr p.2) :: histMap tr r
theorem histMap_eq (tr : List Tr) : ∀ l : Hist, (l.map fun p => (p.1, histTr tr p.2)) = histMap tr l
  | [] => rfl
  | p :: r => by simp only [List.map_cons, histMap, histMap_eq tr r]
@[go_sem] theorem histMap_nil : histMap tr [] = [] := rfl
@[go_sem] theorem histMap_cons {n : Nat} {l : List Root} {r : Hist} : histMap tr ((n, l) :: r) = (n, histTr tr l) :: histMap tr r := rfl
@[go_sem] theorem histAdd_cons {x : Tr} {n : Nat} : histAdd hi (x :: tr) (some n) v = (n, v.srts) :: histMap (x :: tr) hi := by simp only [histAdd, histMap_eq]
@[go_sem] theorem histAdd_consN {x : Tr} : histAdd hi (x :: tr) none v = histMap (x :: tr) hi := by simp only [histAdd, histMap_eq]
@[go_sem] theorem hist_kill {r : Root} {p : Path} {l : List Root} : Tr.hist (.kill r p) l = l := rfl
@[go_sem] theorem hist_killN {r : Root} {n : Nat} {l : List Root} : Tr.hist (.killN r n) l = l := rfl
@[go_sem] theorem hist_frz {r : Root} {p : Path} {x : List D} {l : List Root} : Tr.hist (.frz r p x) l = l := rfl
@[go_sem] theorem hist_killO {l : List Root} : Tr.hist .killO l = l := rfl
@[go_sem] theorem hist_ren {a b : Nat × Nat} {l : List Root} : Tr.hist (.ren a b) l = if l.any (fun r => decide (r = .l a.1 a.2)) = true then .l b.1 b.2 :: l else l := rfl
@[go_sem] theorem looks_nilR {t : Nat} : look ([] : List (Nat × List Root)) t = none := rfl
@[go_sem] theorem looks_consR {k t : Nat} {v : List Root} {r : List (Nat × List Root)} : look ((k, v) :: r) t = if k = t then some v else look r t := rfl
attribute [go_sem] fpW histTr histOf newKeys hist0 SV.srts SV.srtss SV.rts SV.rtss Root.isO Tr.isKillO Tr.isRen Tr.rts apartAt apartFp meet
end
end Go.Am
/- The abstract machine: what the operations that make and change contents do on values that are written out. -/
namespace Go.Am
open Go
set_option linter.unusedSimpArgs false
set_option linter.unusedVariables false
section
variable {P : Program} {nv dst len : Nat} {lit : Bool} {t : TypeId} {k : Wk}
@[go_sem] theorem bs_eq {parts : List (Nat × SV)} : buildSliceE P nv dst lit t len parts k = (elemOf P t).bind fun e => (zeroOf P e).bind fun z => (absorbP nv parts k).bind fun q =>
    if 0 < P.cellsOf e ∧ q.1.all (fun p => p.2.nc == P.cellsOf e) = true ∧ len * P.cellsOf e ≤ 16777216 ∧ z.nc = P.cellsOf e then
      (setAt (List.replicate len (T.ofZero z)) q.1).bind fun es =>
        if lit = true then (if parts.all (fun p => isD p.2) = true then (T.frzs false es).bind fun ds => some (.d (.sl false ds), q.2) else none)
        else some (.bor (.l dst 0) [] 0 len, q.2.new dst 0 (.own es))
    else none := by
  simp only [buildSliceE, Option.map_eq_bind]; rfl
@[go_sem] theorem ab1_p {r : Root} {q : Nat × Nat} {p : Path} {off m : Nat} : absorb1 nv (.bor r (q :: p) off m) k = (k.get r).bind fun c => (c.at (q :: p)).bind fun nd => match nd with
      | .own es => (T.frzs false es).bind fun l => (c.put (q :: p) (.d (.sl false l))).bind fun c' => (k.set r c').bind fun (k : Wk) => some (.d (.sl false (win l off m)), k.tell (.frz r (q :: p) l))
      | _ => none := by
  cases r <;> simp only [absorb1, Option.map_eq_bind] <;> rfl
@[go_sem] theorem absP_nil : absorbP nv [] k = some ([], k) := rfl
@[go_sem] theorem absP_cons {i : Nat} {v : SV} {r : List (Nat × SV)} : absorbP nv ((i, v) :: r) k = (absorb nv v k).bind fun p => (absorbP nv r p.2).bind fun q => some ((i, p.1) :: q.1, q.2) := by
  simp only [absorbP, Option.map_eq_bind]; rfl
@[go_sem] theorem setAt_nil {l : List T} : setAt l [] = some l := rfl
@[go_sem] theorem setAt_cons {l : List T} {i : Nat} {x : T} {r : List (Nat × T)} : setAt l ((i, x) :: r) = if i < l.length then setAt (l.set i x) r else none := rfl
@[go_sem] theorem isD_d {x : D} : isD (.d x) = true := rfl
@[go_sem] theorem news_nils : newsE nv (.d .nils) k = some ([], k) := rfl
@[go_sem] theorem news_sl {b : Bool} {l : List D} : newsE nv (.d (.sl b l)) k = some (l.map .d, k) := rfl
@[go_sem] theorem news_l {n j off m : Nat} : newsE nv (.bor (.l n j) [] off m) k = (k.get (.l n j)).bind fun c => match c with
    | .own es => if nv ≤ n ∧ off = 0 ∧ m = es.length then (k.set (.l n j) .dead).bind fun (k : Wk) => some (es, k.tell (.kill (.l n j) []))
          else if plainT (win es off m) = true then some (win es off m, k) else none
    | _ => none := by
  simp only [newsE]
  cases k.get (.l n j) with
  | none => rfl
  | some c =>
    simp only [Option.bind_some, at_nil]
    cases c with
    | own es => simp only [Option.map_eq_bind]; rfl
    | _ => rfl
@[go_sem] theorem olds_nils {n : Nat} {news : List T} : oldsE n news (.d .nils) k = some ([], k) := rfl
@[go_sem] theorem olds_bor {n off m : Nat} {news : List T} {r : Root} {p : Path} : oldsE n news (.bor r p off m) k = if off = 0 then
      (k.get r).bind fun c => (c.at p).bind fun nd => match nd with
        | .own es => if m ≤ es.length ∧ uniform n es = true ∧ okLen m es news = true then (c.put p .dead).bind fun c' => (k.set r c').bind fun (k : Wk) => some (es.take m, k.tell (.kill r p)) else none
        | _ => none
    else none := by
  simp only [oldsE, Option.map_eq_bind]
  try rfl
@[go_sem] theorem app_eq {s x : SV} : appendE P nv dst t s x k = (elemOf P t).bind fun e => (zeroOf P e).bind fun z => (newsE nv x k).bind fun q =>
    if 0 < P.cellsOf e ∧ uniform (P.cellsOf e) q.1 = true ∧ z.nc = P.cellsOf e then
      (oldsE (P.cellsOf e) q.1 (trv q.2.tr s) q.2).bind fun o =>
        if (o.1.length + q.1.length) * P.bytesOf e ≤ 140737488355328 ∧ o.1.length + q.1.length ≤ 9223372036854775807 then
          some (.bor (.l dst 0) [] 0 (o.1.length + q.1.length), o.2.new dst 0 (.own (o.1 ++ q.1)))
        else none
    else none := by
  simp only [appendE, List.length_append]
@[go_sem] theorem make_eq {a b : IntKind} {n m : Int} : makeE P dst t (.d (.int a n)) (.d (.int b m)) k = (elemOf P t).bind fun e => (zeroOf P e).bind fun z =>
      if 0 ≤ n ∧ n ≤ m ∧ (n = 0 → m = 0) ∧ (P.bytesOf e : Int) * m ≤ 281474976710656 ∧ m ≤ 9223372036854775807 ∧ 0 < P.cellsOf e ∧ z.nc = P.cellsOf e then
        some (.bor (.l dst 0) [] 0 n.toNat, k.new dst 0 (.own (List.replicate n.toNat (T.ofZero z))))
      else none := rfl
@[go_sem] theorem absorbF_eq {v : SV} : absorbF nv v k = (absorb nv v k).bind fun p => some (p.1.fresh, p.2) := by
  simp only [absorbF, Option.map_eq_bind]; rfl
attribute [go_sem] T.fresh T.fresh1 List.any_cons List.any_nil
/-- a store, at a place -/
def stoAt (P : Program) (t : TypeId) (a : SV) (x : T) (k : Wk) : Option Wk :=
  match a with
  | .loc r p i off =>
    if x.nc = P.cellsOf t ∧ 0 < x.nc then
      (k.get r).bind fun c => (c.at p).bind fun nd =>
        match nd with
        | .own es => (es[i]?).bind fun e =>
          if off + x.nc ≤ e.nc then
            (c.put p (.own (es.set i (if off = 0 ∧ x.nc = e.nc then x else e.setCells off x.cells)))).bind fun c' =>
              (k.set r c').bind fun (k : Wk) => some (if isOwn e = true then k.tell (.killN r (p.length + 1)) else k)
          else none
        | _ => none
    else none
  | _ => none
@[go_sem] theorem store_eq {a v : SV} : storeE P nv t a v k = (absorbF nv v k).bind fun q => stoAt P t (asLoc (trv q.2.tr a)) q.1 q.2 := by
  simp only [storeE, Option.map_eq_bind]
  try rfl
@[go_sem] theorem asLoc_loc {r : Root} {p : Path} {i o : Nat} : asLoc (.loc r p i o) = .loc r p i o := rfl
@[go_sem] theorem asLoc_ptr {o : Nat} : asLoc (.d (.ptr o)) = .loc (.o o) [] 0 0 := rfl
@[go_sem] theorem stoAt_loc {r : Root} {p : Path} {i off : Nat} {x : T} : stoAt P t (.loc r p i off) x k = if x.nc = P.cellsOf t ∧ 0 < x.nc then
      (k.get r).bind fun c => (c.at p).bind fun nd =>
        match nd with
        | .own es => (es[i]?).bind fun e =>
          if off + x.nc ≤ e.nc then
            (c.put p (.own (es.set i (if off = 0 ∧ x.nc = e.nc then x else e.setCells off x.cells)))).bind fun c' =>
              (k.set r c').bind fun (k : Wk) => some (if isOwn e = true then k.tell (.killN r (p.length + 1)) else k)
          else none
        | _ => none
    else none := rfl
@[go_sem] theorem build_eq {parts : List (Nat × SV)} : buildE P t parts = match zeroOf P t with
    | some (.agg z) => (placesOf P t).bind fun pl => (fillE pl (z.map .d) parts).bind fun l => some (SV.mkAgg l)
    | _ => none := by
  simp only [buildE, Option.map_eq_bind]; rfl
@[go_sem] theorem fillE_nil {pl : Nat ⊕ List (Nat × Nat)} {cs : List SV} : fillE pl cs [] = some cs := rfl
@[go_sem] theorem fillE_cons {pl : Nat ⊕ List (Nat × Nat)} {cs : List SV} {i : Nat} {v : SV} {r : List (Nat × SV)} : fillE pl cs ((i, v) :: r) = (placeAt pl i).bind fun q => if v.solid = true ∧ v.nc = q.2 ∧ q.1 + q.2 ≤ cs.length then fillE pl (cs.take q.1 ++ v.cells ++ cs.drop (q.1 + q.2)) r else none := rfl
/-! what is told of -/
section
variable {r r' : Root} {p p' : Path} {off i n m : Nat} {l : List D} {a b : Nat × Nat}
@[go_sem] theorem kill_bor : Tr.sv (.kill r' p') (.bor r p off m) = if r = r' then (if p = p' then .dead else if p'.length < p.length then .dead else .bor r p off m) else .bor r p off m := by simp only [Tr.sv]
@[go_sem] theorem killN_bor : Tr.sv (.killN r' n) (.bor r p off m) = if r = r' ∧ n ≤ p.length then .dead else .bor r p off m := by simp only [Tr.sv]
@[go_sem] theorem frz_bor : Tr.sv (.frz r' p' l) (.bor r p off m) = if r = r' then (if p = p' then .d (.sl false ((l.drop off).take m)) else if p'.length < p.length then .dead else .bor r p off m) else .bor r p off m := by simp only [Tr.sv]
@[go_sem] theorem ren_bor : Tr.sv (.ren a b) (.bor r p off m) = if r = .l a.1 a.2 then .bor (.l b.1 b.2) p off m else .bor r p off m := by simp only [Tr.sv]
@[go_sem] theorem killO_borL {x y : Nat} : Tr.sv .killO (.bor (.l x y) p off m) = .bor (.l x y) p off m := by simp only [Tr.sv]
@[go_sem] theorem killO_borO {x : Nat} : Tr.sv .killO (.bor (.o x) p off m) = .dead := by simp only [Tr.sv]
@[go_sem] theorem kill_loc : Tr.sv (.kill r' p') (.loc r p i off) = if r = r' then (if p = p' then .dead else if p'.length < p.length then .dead else .loc r p i off) else .loc r p i off := by simp only [Tr.sv]
@[go_sem] theorem killN_loc : Tr.sv (.killN r' n) (.loc r p i off) = if r = r' ∧ n ≤ p.length then .dead else .loc r p i off := by simp only [Tr.sv]
@[go_sem] theorem frz_loc : Tr.sv (.frz r' p' l) (.loc r p i off) = if r = r' then (if p = p' then .dead else if p'.length < p.length then .dead else .loc r p i off) else .loc r p i off := by simp only [Tr.sv]
@[go_sem] theorem ren_loc : Tr.sv (.ren a b) (.loc r p i off) = if r = .l a.1 a.2 then .loc (.l b.1 b.2) p i off else .loc r p i off := by simp only [Tr.sv]
@[go_sem] theorem killO_locL {x y : Nat} : Tr.sv .killO (.loc (.l x y) p i off) = .loc (.l x y) p i off := by simp only [Tr.sv]
@[go_sem] theorem killO_locN {x : Nat} : Tr.sv .killO (.loc (.o x) [] i off) = .loc (.o x) [] i off := by simp only [Tr.sv]
@[go_sem] theorem killO_locO {x : Nat} {q : Nat × Nat} : Tr.sv .killO (.loc (.o x) (q :: p) i off) = .dead := by simp only [Tr.sv]
end
/-! calls -/
section
variable {call : CallF} {h : Hint} {f : FuncId} {ds : List D} {b : Lend} {ct : List ((Nat × Nat) × T)} {H : List Ob} {tr : List Tr}
@[go_sem] theorem callE_mk : callE call h dst f ds b ⟨ct, H, tr⟩ = if h.keep.contains dst = true then
      (call f ds (lockAll H)).bind fun p => if p.2.length = H.length ∧ (b.sn = true → T.imms p.1 = true) then resE dst p.1 ⟨ct, H, tr⟩ else none
    else (call f ds (lockSome b.lk H)).bind fun p =>
      if (b.sn = true → T.imms p.1 = true ∧ obsImm p.2 = true) ∧ sameObs (lockSome b.lk H) p.2 = true then resE dst p.1 ⟨ct, unlock H b.lk p.2, tr ++ [.killO]⟩ else none := rfl
@[go_sem] theorem lockAll_nil : lockAll [] = [] := rfl
@[go_sem] theorem lockAll_cons {o : Ob} {r : List Ob} : lockAll (o :: r) = .lock :: lockAll r := rfl
@[go_sem] theorem lockAll_len {r : List Ob} : (lockAll r).length = r.length := by simp [lockAll]
@[go_sem] theorem lockSome_nil : lockSome [] H = H := rfl
@[go_sem] theorem unlock_nil {H' : List Ob} : unlock H [] H' = H' := rfl
@[go_sem] theorem lockSome_cons {n : Nat} {r : List Nat} : lockSome (n :: r) H = lockSome r (H.set n .lock) := rfl
@[go_sem] theorem unlock_cons {n : Nat} {r : List Nat} {H' : List Ob} : unlock H (n :: r) H' = unlock H r (match H[n]? with | some x => H'.set n x | none => H') := rfl
theorem sameObs_self : ∀ H : List Ob, sameObs H H = true
  | [] => rfl
  | .box c :: r => by simp [sameObs, sameObs_self r]
  | .map _ :: r => by simp [sameObs, sameObs_self r]
  | .lock :: r => by simp [sameObs, sameObs_self r]
@[go_sem] theorem sameObs_n {H' : List Ob} : sameObs [] H' = true := rfl
@[go_sem] theorem sameObs_b {c c' : T} {r r' : List Ob} : sameObs (.box c :: r) (.box c' :: r') = (c.nc == c'.nc && sameObs r r') := rfl
@[go_sem] theorem sameObs_m {c c' : List (D × T)} {r r' : List Ob} : sameObs (.map c :: r) (.map c' :: r') = sameObs r r' := rfl
@[go_sem] theorem sameObs_lk {r r' : List Ob} : sameObs (.lock :: r) (.lock :: r') = sameObs r r' := rfl
variable {x y z w : D}
@[go_sem] theorem resE_d : resE dst [.d x] k = some (.d x, k) := rfl
@[go_sem] theorem resE_d2 : resE dst [.d x, .d y] k = some (.tup [.d x, .d y], k) := rfl
@[go_sem] theorem resE_d3 : resE dst [.d x, .d y, .d z] k = some (.tup [.d x, .d y, .d z], k) := rfl
@[go_sem] theorem resE_d4 : resE dst [.d x, .d y, .d z, .d w] k = some (.tup [.d x, .d y, .d z, .d w], k) := rfl
@[go_sem] theorem sn1_d : snap1 nv (.d x) k b = some (x.norm, k, b) := rfl
@[go_sem] theorem sn1_l {n j off m : Nat} : snap1 nv (.bor (.l n j) [] off m) k b = (k.get (.l n j)).bind fun c => match c with
      | .own es => if nv ≤ n ∧ off = 0 ∧ m = es.length then (T.frzs false es).bind fun l => (k.set (.l n j) .dead).bind fun (k : Wk) => some (.sl false l, k.tell (.frz (.l n j) [] l), b)
          else (T.frzs true es).bind fun l => some (.sl true (win l off m), k, { b with sn := true })
      | _ => none := by
  simp only [snap1]
  cases k.get (.l n j) with
  | none => rfl
  | some c =>
    simp only [Option.bind_some, at_nil]
    cases c with
    | own es => simp only [Option.map_eq_bind]; rfl
    | _ => rfl
@[go_sem] theorem sn1_lp {n j off m : Nat} {q : Nat × Nat} {p : Path} : snap1 nv (.bor (.l n j) (q :: p) off m) k b = (k.get (.l n j)).bind fun c => (c.at (q :: p)).bind fun nd => match nd with
      | .own es => (T.frzs true es).bind fun l => some (.sl true (win l off m), k, { b with sn := true })
      | _ => none := by
  simp only [snap1, Option.map_eq_bind]; rfl
@[go_sem] theorem sn1_o {n off m : Nat} {p : Path} : snap1 nv (.bor (.o n) p off m) k b = (k.get (.o n)).bind fun c => (c.at p).bind fun nd => match nd with
      | .own es => (T.frzs true es).bind fun l => some (.sl true (win l off m), k, { sn := true, lk := n :: b.lk })
      | _ => none := by
  simp only [snap1, Option.map_eq_bind]; rfl
@[go_sem] theorem sn_agg {l : List SV} : snap nv (.agg l) k b = (snaps nv l k b).bind fun p => some (.agg p.1, p.2.1, p.2.2) := by simp only [snap, Option.map_eq_bind]; rfl
@[go_sem] theorem sns_nil : snaps nv [] k b = some ([], k, b) := rfl
@[go_sem] theorem sns_cons {v : SV} {r : List SV} : snaps nv (v :: r) k b = (snap1 nv (trv k.tr v) k b).bind fun p => (snaps nv r p.2.1 p.2.2).bind fun q => some (p.1 :: q.1, q.2.1, q.2.2) := by simp only [snaps, Option.map_eq_bind]; rfl
end
@[go_sem] theorem uniform_nil {n : Nat} : uniform n [] = true := rfl
@[go_sem] theorem uniform_cons {n : Nat} {x : T} {l : List T} : uniform n (x :: l) = (x.nc == n && uniform n l) := rfl
attribute [go_sem] trunc plainT placeAt SV.solid SV.nc SV.cells SV.mkAgg T.mkAgg T.setCells T.putCell T.cells T.ofZero T.ofD1 okLen isOwn SV.pures T.pures
end
end Go.Am
