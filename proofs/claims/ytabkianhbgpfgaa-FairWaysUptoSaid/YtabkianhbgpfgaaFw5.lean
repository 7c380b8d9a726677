/- A part of the proof: texts of mine, merged by a program (wip/dev/merge.py). -/
import Derived.Test.YtabkianhbgpfgaaFw4
namespace Go.Am
open Go
set_option linter.unusedSimpArgs false
set_option linter.unusedVariables false
section
variable {P : Program} {hints : FuncId → Hint} {call : CallF} {h : Hint} {ρ : Type}
noncomputable def go (P : Program) (hints : FuncId → Hint) (h : Hint) (c : Code) (s : St) (κ : Ex × St → Option ρ) : Option ρ := (codeX P hints h c s).bind κ
noncomputable def kSeq (P : Program) (hints : FuncId → Hint) (h : Hint) (b : Code) (κ : Ex × St → Option ρ) : Ex × St → Option ρ := fun r => (thenX P hints h b r).bind κ
def kBlk (id : Nat) (κ : Ex × St → Option ρ) : Ex × St → Option ρ := fun r => κ (exOut id r.1, r.2)
theorem codeX_go {c : Code} {s : St} : codeX P hints h c s = go P hints h c s some := by simp [go]
theorem go_of {c : Code} {s : St} {o : Option (Ex × St)} (e : codeX P hints h c s = o) (ρ : Type) (κ : Ex × St → Option ρ) : go P hints h c s κ = o.bind κ := by rw [go, e]
@[congr] theorem go_congr {c : Code} {s s' : St} {κ : Ex × St → Option ρ} (e : s = s') : go P hints h c s κ = go P hints h c s' κ := by rw [e]
@[congr] theorem kSeq_congr {b : Code} {r r' : Ex × St} {κ : Ex × St → Option ρ} (e : r = r') : kSeq P hints h b κ r = kSeq P hints h b κ r' := by rw [e]
@[congr] theorem kBlk_congr {b : Nat} {r r' : Ex × St} {κ : Ex × St → Option ρ} (e : r = r') : kBlk b κ r = kBlk b κ r' := by rw [e]
section
variable {a b : Code} {s : St} {κ : Ex × St → Option ρ} {id j : Nat} {env : List (Nat × SV)} {ct : List ((Nat × Nat) × T)} {H : List Ob}
@[go_sem] theorem go_seq : go P hints h (.seq a b) s κ = go P hints h a s (kSeq P hints h b κ) := by
  simp only [go, codeX_seq, Option.bind_assoc]; rfl
@[go_sem] theorem go_block : go P hints h (.block id a) s κ = go P hints h a s (kBlk id κ) := by
  simp only [go, codeX_block', Option.bind_assoc]; rfl
@[go_sem] theorem go_skip : go P hints h .skip s κ = κ (.normal, s) := by simp only [go, codeX_skip, Option.bind_some]
@[go_sem] theorem go_ret : go P hints h .ret s κ = κ (.ret, s) := by simp only [go, codeX_ret, Option.bind_some]
@[go_sem] theorem go_exit : go P hints h (.exit id) s κ = κ (.exit id, s) := by simp only [go, codeX_exit, Option.bind_some]
def putS (t : Nat) (v : SV) : List (Nat × SV) → List (Nat × SV)
  | [] => []
  | (k, w) :: r => if k = t then (k, v) :: r else (k, w) :: putS t v r
attribute [go_sem] putS
theorem putS_same {t : Nat} {v : SV} : ∀ {env : List (Nat × SV)}, look env t = some v → putS t v env = env
  | [], e => by cases e
  | (k, w) :: r, e => by
    unfold putS
    unfold look at e
    by_cases hk : k = t
    · rw [if_pos hk] at e ⊢
      simp only [Option.some.injEq] at e
      rw [e]
    · rw [if_neg hk] at e ⊢
      rw [putS_same e]
theorem putS_get {t : Nat} {b : Bool} {env : List (Nat × SV)} {ct : List ((Nat × Nat) × T)} {H : List Ob} (e : St.get ⟨env, ct, H⟩ t = .d (.bool b)) : putS t (.d (.bool b)) env = env := by
  refine putS_same ?_
  unfold St.get at e
  cases hl : look env t with
  | none => rw [hl] at e; cases e
  | some v => rw [hl] at e; exact congrArg some e
noncomputable def goCd (P : Program) (hints : FuncId → Hint) (h : Hint) (t : Nat) (v : SV) (a b : Code) (s : St) (κ : Ex × St → Option ρ) : Option ρ :=
  match v with
  | .d (.bool x) => (condX P hints h v a b { s with env := putS t (.d (.bool x)) s.env }).bind κ
  | _ => (condX P hints h v a b s).bind κ
@[congr] theorem goCd_congr {t : Nat} {v v' : SV} (e : v = v') : goCd P hints h t v a b s κ = goCd P hints h t v' a b s κ := by rw [e]
@[go_sem] theorem go_cond {t : Nat} : go P hints h (.cond (.tmp t) a b) s κ = goCd P hints h t (s.get t) a b s κ := by
  obtain ⟨env, ct, H⟩ := s
  simp only [go, goCd, codeX_cond', val_tmp]
  split
  · rename_i x hx
    rw [hx]
    simp only [putS_get hx]
  · rfl
@[go_sem] theorem goCd_bool {t : Nat} {x : Bool} : goCd P hints h t (.d (.bool x)) a b ⟨env, ct, H⟩ κ = if x = true then go P hints h a ⟨putS t (.d (.bool true)) env, ct, H⟩ κ else go P hints h b ⟨putS t (.d (.bool false)) env, ct, H⟩ κ := by
  cases x <;> simp only [goCd, condX_bool, Bool.false_eq_true, if_false, if_true] <;> rfl
@[go_sem] theorem kSeq_n : kSeq P hints h b κ (.normal, s) = go P hints h b s κ := rfl
@[go_sem] theorem kSeq_r : kSeq P hints h b κ (.ret, s) = κ (.ret, s) := rfl
@[go_sem] theorem kSeq_e : kSeq P hints h b κ (.exit id, s) = κ (.exit id, s) := rfl
@[go_sem] theorem kBlk_n : kBlk id κ (.normal, s) = κ (.normal, s) := rfl
@[go_sem] theorem kBlk_r : kBlk id κ (.ret, s) = κ (.ret, s) := rfl
@[go_sem] theorem kBlk_e : kBlk id κ (.exit j, s) = if j = id then κ (.normal, s) else κ (.exit j, s) := by
  unfold kBlk exOut; by_cases e : j = id <;> simp [e]
end
noncomputable def goL (P : Program) (call : CallF) (h : Hint) (L : List Lite) (ls : List Nat) (s : St) (κ : Ex × St → Option ρ) : Option ρ := (runL P call h L s).bind fun s' => κ (.normal, prune ls s')
noncomputable def goB (P : Program) (call : CallF) (h : Hint) (x : Option (SV × Wk)) (d : Option Nat) (r : List Lite) (ls : List Nat) (s : St) (κ : Ex × St → Option ρ) : Option ρ := x.bind fun p => goL P call h r ls (s.fin d p.1 p.2) κ
section
variable {d : Option Nat} {ty : TypeId} {op : Op} {L r : List Lite} {ls : List Nat} {s s' : St} {κ : Ex × St → Option ρ} {x x' : Option (SV × Wk)} {env : List (Nat × SV)} {ct ct' : List ((Nat × Nat) × T)} {H H' : List Ob} {tr : List Tr} {v v' : SV} {t : Nat} {b want : Bool}
@[congr] theorem goL_congr (e : s = s') : goL P call h L ls s κ = goL P call h L ls s' κ := by rw [e]
@[congr] theorem goB_congr (e : x = x') : goB P call h x d r ls s κ = goB P call h x' d r ls s κ := by rw [e]
theorem go_rg {c : Code} (e : ∀ s, codeX P hints h c s = (runL P call h L s).bind fun s' => some (.normal, prune ls s')) (s : St) (κ : Ex × St → Option ρ) : go P hints h c s κ = goL P call h L ls s κ := by
  simp only [go, e, Option.bind_assoc]; rfl
@[go_sem] theorem goL_nil : goL P call h [] ls s κ = κ (.normal, prune ls s) := rfl
@[go_sem] theorem goL_plain : goL P call h (⟨d, ty, op, none⟩ :: r) ls ⟨env, ct, H⟩ κ = goB P call h (stepE P call h (d.getD 0) ty op (St.val ⟨env, ct, H⟩) ⟨ct, H, []⟩) d r ls ⟨env, ct, H⟩ κ := by
  simp only [goL, goB, runL_plain, Option.bind_assoc]; rfl
@[go_sem] theorem goB_some {k : Wk} : goB P call h (some (v, k)) d r ls s κ = goL P call h r ls (s.fin d v k) κ := rfl
@[go_sem] theorem goB_none : goB P call h none d r ls s κ = none := rfl
@[go_sem] theorem goB_bind {α : Type} {o : Option α} {f : α → Option (SV × Wk)} : goB P call h (o.bind f) d r ls s κ = o.bind fun y => goB P call h (f y) d r ls s κ := by simp only [goB, Option.bind_assoc]
@[go_sem] theorem goB_ite {c : Prop} [Decidable c] {y : Option (SV × Wk)} : goB P call h (if c then x else y) d r ls s κ = if c then goB P call h x d r ls s κ else goB P call h y d r ls s κ := by split <;> rfl
@[go_sem] theorem goB_case {α β : Type} {o : Option (α ⊕ β)} {f : α → Option (SV × Wk)} {g : β → Option (SV × Wk)} : goB P call h (case2 o f g) d r ls s κ = case2 o (fun y => goB P call h (f y) d r ls s κ) (fun y => goB P call h (g y) d r ls s κ) := case2_bind
noncomputable def goG (P : Program) (call : CallF) (h : Hint) (t : Nat) (want : Bool) (g : SV) (d : Option Nat) (ty : TypeId) (op : Op) (r : List Lite) (ls : List Nat) (s : St) (κ : Ex × St → Option ρ) : Option ρ :=
  match g with
  | .d (.bool b) => (guardL P call h d ty op want r { s with env := putS t (.d (.bool b)) s.env } g).bind fun s' => κ (.normal, prune ls s')
  | _ => (guardL P call h d ty op want r s g).bind fun s' => κ (.normal, prune ls s')
@[congr] theorem goG_congr (e : v = v') : goG P call h t want v d ty op r ls s κ = goG P call h t want v' d ty op r ls s κ := by rw [e]
@[go_sem] theorem goL_guard : goL P call h (⟨d, ty, op, some (t, want)⟩ :: r) ls s κ = goG P call h t want (s.get t) d ty op r ls s κ := by
  obtain ⟨env, ct, H⟩ := s
  simp only [goL, goG, runL_guard]
  split
  · rename_i b hb
    rw [hb]
    simp only [putS_get hb]
  · rfl
@[go_sem] theorem goG_t : goG P call h t true (.d (.bool b)) d ty op r ls ⟨env, ct, H⟩ κ = if b = true then goB P call h (stepE P call h (d.getD 0) ty op (St.val ⟨putS t (.d (.bool true)) env, ct, H⟩) ⟨ct, H, []⟩) d r ls ⟨putS t (.d (.bool true)) env, ct, H⟩ κ else goL P call h r ls (St.fin ⟨putS t (.d (.bool false)) env, ct, H⟩ d (.tup []) ⟨ct, H, []⟩) κ := by
  cases b
  · simp only [goG, guardL_bool]; rfl
  · simp only [goG, guardL_bool, if_true, goB, Option.bind_assoc]; rfl
@[go_sem] theorem goG_f : goG P call h t false (.d (.bool b)) d ty op r ls ⟨env, ct, H⟩ κ = if b = true then goL P call h r ls (St.fin ⟨putS t (.d (.bool true)) env, ct, H⟩ d (.tup []) ⟨ct, H, []⟩) κ else goB P call h (stepE P call h (d.getD 0) ty op (St.val ⟨putS t (.d (.bool false)) env, ct, H⟩) ⟨ct, H, []⟩) d r ls ⟨putS t (.d (.bool false)) env, ct, H⟩ κ := by
  cases b
  · simp only [goG, guardL_boolF, goB, Bool.false_eq_true, if_false, Option.bind_assoc]; rfl
  · simp only [goG, guardL_boolF]; rfl
end
noncomputable def goR (P : Program) (call : CallF) (h : Hint) (L : List LF) (ls : List Nat) (c : Cf) (acc : List Fp) (κ : Ex × St → Option ρ) : Option ρ := (runC P call h L c acc).bind fun s' => κ (.normal, prune ls s')
noncomputable def goRB (P : Program) (call : CallF) (h : Hint) (x : Option (SV × Wk)) (o : LF) (r : List LF) (ls : List Nat) (c : Cf) (acc : List Fp) (w : Bool) (κ : Ex × St → Option ρ) : Option ρ := x.bind fun p => (nextC P call h o r c acc w p.1 p.2).bind fun s' => κ (.normal, prune ls s')
noncomputable def goRG (P : Program) (call : CallF) (h : Hint) (t : Nat) (want : Bool) (v : SV) (o : LF) (r : List LF) (ls : List Nat) (c : Cf) (acc : List Fp) (κ : Ex × St → Option ρ) : Option ρ :=
  match v with
  | .d (.bool b) => (guardC P call h o want r ({ c.1 with env := putS t (.d (.bool b)) c.1.env }, c.2) acc v).bind fun s' => κ (.normal, prune ls s')
  | _ => (guardC P call h o want r c acc v).bind fun s' => κ (.normal, prune ls s')
section
variable {d : Option Nat} {g : Option (Nat × Bool)} {ty : TypeId} {op : Op} {lk u : List Nat} {nd eff rds hr ho : Bool} {o : LF} {L r : List LF} {ls : List Nat} {κ : Ex × St → Option ρ} {x x' : Option (SV × Wk)} {env : List (Nat × SV)} {ct ct' : List ((Nat × Nat) × T)} {H H' : List Ob} {tr : List Tr} {v v' : SV} {t n : Nat} {b want w : Bool} {c c' : Cf} {hi : Hist} {acc acc' : List Fp}
@[congr] theorem goR_congr (e : c = c') (f : acc = acc') : goR P call h L ls c acc κ = goR P call h L ls c' acc' κ := by rw [e, f]
@[congr] theorem goRB_congr (e : x = x') : goRB P call h x o r ls c acc w κ = goRB P call h x' o r ls c acc w κ := by rw [e]
@[congr] theorem goRG_congr (e : v = v') : goRG P call h t want v o r ls c acc κ = goRG P call h t want v' o r ls c acc κ := by rw [e]
theorem go_rgD {q : Code} (e : ∀ s, codeX P hints h q s = (runC P call h L (s, hist0 s) []).bind fun s' => some (.normal, prune ls s')) (s : St) (κ : Ex × St → Option ρ) : go P hints h q s κ = goR P call h L ls (s, hist0 s) [] κ := by
  simp only [go, e, Option.bind_assoc]; rfl
@[go_sem] theorem goR_nil {s : St} : goR P call h [] ls (s, hi) acc κ = κ (.normal, prune ls s) := rfl
@[go_sem] theorem goR_plain : goR P call h (⟨d, none, ty, op, lk, u, nd, eff, rds, hr, ho⟩ :: r) ls (⟨env, ct, H⟩, hi) acc κ = goRB P call h (stepE P call h (d.getD 0) ty op (St.val ⟨env, ct, H⟩) ⟨ct, H, []⟩) ⟨d, none, ty, op, lk, u, nd, eff, rds, hr, ho⟩ r ls (⟨env, ct, H⟩, hi) acc true κ := by
  simp only [goR, goRB, runC_plain, Option.bind_assoc]
@[go_sem] theorem goR_guard : goR P call h (⟨d, some (t, want), ty, op, lk, u, nd, eff, rds, hr, ho⟩ :: r) ls c acc κ = goRG P call h t want (c.1.get t) ⟨d, some (t, want), ty, op, lk, u, nd, eff, rds, hr, ho⟩ r ls c acc κ := by
  obtain ⟨⟨env, ct, H⟩, hi⟩ := c
  simp only [goR, goRG, runC_guard]
  split
  · rename_i b hb
    rw [hb]
    simp only [putS_get hb]
  · rfl
@[go_sem] theorem goRG_f : goRG P call h t false (.d (.bool b)) o r ls (⟨env, ct, H⟩, hi) acc κ = if b = true then goRB P call h (some (.tup [], ⟨ct, H, []⟩)) o r ls (⟨putS t (.d (.bool true)) env, ct, H⟩, hi) acc false κ else goRB P call h (stepE P call h (o.d.getD 0) o.ty o.op (St.val ⟨putS t (.d (.bool false)) env, ct, H⟩) ⟨ct, H, []⟩) o r ls (⟨putS t (.d (.bool false)) env, ct, H⟩, hi) acc true κ := by
  cases b
  · simp only [goRG, guardC_boolF, goRB, Bool.false_eq_true, if_false, Option.bind_assoc]; rfl
  · simp only [goRG, guardC_boolF]; rfl
@[go_sem] theorem goRB_none : goRB P call h none o r ls c acc w κ = none := rfl
@[go_sem] theorem goRB_bind {α : Type} {y : Option α} {f : α → Option (SV × Wk)} : goRB P call h (y.bind f) o r ls c acc w κ = y.bind fun z => goRB P call h (f z) o r ls c acc w κ := by simp only [goRB, Option.bind_assoc]
@[go_sem] theorem goRB_ite {q : Prop} [Decidable q] {y : Option (SV × Wk)} : goRB P call h (if q then x else y) o r ls c acc w κ = if q then goRB P call h x o r ls c acc w κ else goRB P call h y o r ls c acc w κ := by split <;> rfl
@[go_sem] theorem goRB_quiet : goRB P call h (some (v, ⟨ct', H', tr⟩)) ⟨d, g, ty, op, lk, [], false, eff, rds, hr, ho⟩ r ls c acc w κ = goR P call h r ls (c.1.fin d v ⟨ct', H', tr⟩, histAdd c.2 tr d v) (acc ++ [fp0]) κ := by
  simp only [goRB, Option.bind_some, nextC_quiet]; rfl
@[go_sem] theorem goRB_last : goRB P call h (some (v, ⟨ct', H', tr⟩)) ⟨d, g, ty, op, lk, n :: u, false, eff, rds, hr, ho⟩ r ls c acc w κ = if (n :: u).all (apartAt acc (fpW ⟨d, g, ty, op, lk, n :: u, false, eff, rds, hr, ho⟩ c.2 c.1 w v ⟨ct', H', tr⟩)) = true then goR P call h r ls (c.1.fin d v ⟨ct', H', tr⟩, histAdd c.2 tr d v) (acc ++ [fp0]) κ else none := by
  simp only [goRB, Option.bind_some, nextC_last, bind_ite]; rfl
@[go_sem] theorem goRB_mk : goRB P call h (some (v, ⟨ct', H', tr⟩)) ⟨d, g, ty, op, lk, u, true, eff, rds, hr, ho⟩ r ls c acc w κ = if u.all (apartAt acc (fpW ⟨d, g, ty, op, lk, u, true, eff, rds, hr, ho⟩ c.2 c.1 w v ⟨ct', H', tr⟩)) = true then goR P call h r ls (c.1.fin d v ⟨ct', H', tr⟩, histAdd c.2 tr d v) (acc ++ [fpW ⟨d, g, ty, op, lk, u, true, eff, rds, hr, ho⟩ c.2 c.1 w v ⟨ct', H', tr⟩]) κ else none := by
  simp only [goRB, Option.bind_some, nextC_mk, bind_ite]; rfl
end
end
section
variable {P : Program} {κ ν : Type} [DecidableEq κ] {fk : κ → D} {fv : ν → D}
def ents (fk : κ → D) (fv : ν → D) (l : List (κ × ν)) : List (D × T) := l.map fun p => (fk p.1, .d (fv p.2))
def mget : List (κ × ν) → κ → Option ν
  | [], _ => none
  | (a, b) :: r, k => if k = a then some b else mget r k
def mput : List (κ × ν) → κ → ν → List (κ × ν)
  | [], k, v => [(k, v)]
  | (a, b) :: r, k, v => if k = a then (k, v) :: r else (a, b) :: mput r k v
def mhas (l : List (κ × ν)) (k : κ) : Bool := (mget l k).isSome
def mval (z : ν) (l : List (κ × ν)) (k : κ) : ν := (mget l k).getD z
omit [DecidableEq κ] in
theorem ents_nil : ents fk fv [] = [] := rfl
def lookOb (P : Program) (t : TypeId) (ob : Ob) (kd : D) (ok : Bool) : Option SV :=
  (mapOf P t).bind fun (kt, e) => if (keyEq P kt kd kd).isSome then (match ob with | .map es => findK (keyEq P kt) kd es | _ => none).bind fun r => (zeroOf P e).bind fun z =>
        (match r with | some (.d x) => some (x, true) | some _ => none | none => some (z, false)).map fun (x, b) => if ok then .tup [.d x, .d (.bool b)] else .d x
      else none
omit [DecidableEq κ] in
@[go_sem] theorem lookupE_map {t : TypeId} {o : Nat} {kd : D} {ok : Bool} {H : List Ob} : lookupE P t (.d (.map o)) (.d kd) ok H = (H[o]?).bind fun ob => lookOb P t ob kd ok := by
  unfold lookupE lookOb
  cases mapOf P t with
  | none => cases H[o]? <;> rfl
  | some q =>
    obtain ⟨kt, e⟩ := q
    simp only [Option.bind_some]
    cases H[o]? with
    | none => simp
    | some ob => simp only [Option.bind_some]; cases ob <;> rfl
def putOb (P : Program) (t : TypeId) (ob : Ob) (kd y : D) : Option (List (D × T)) :=
  (mapOf P t).bind fun (kt, _) => if (keyEq P kt kd kd).isSome then (match ob with | .map es => putK (keyEq P kt) kd (.d y) es | _ => none) else none
def putAt (P : Program) (t : TypeId) (o : Nat) (kd : D) (x : T) (k : Wk) : Option Wk :=
  match x with
  | .d y => (k.H[o]?).bind fun ob => (putOb P t ob kd y).bind fun es => some { k with H := k.H.set o (.map es) }
  | _ => none
omit [DecidableEq κ] in
@[go_sem] theorem mapPut_map {nv : Nat} {t : TypeId} {o : Nat} {kd : D} {v : SV} {k : Wk} : mapPutE P nv t (.d (.map o)) (.d kd) v k = if ((mapOf P t).bind fun q => keyEq P q.1 kd kd).isSome = true then (absorb nv v k).bind fun q => putAt P t o kd q.1 q.2 else none := by
  unfold mapPutE putAt putOb
  cases mapOf P t with
  | none => rfl
  | some q =>
    obtain ⟨kt, e⟩ := q
    simp only [Option.bind_some]
    cases hk : (keyEq P kt kd kd).isSome with
    | false => simp
    | true =>
      simp only [if_true]
      congr 1
      funext ⟨x, k⟩
      simp only
      cases x with
      | d y =>
        cases k.H[o]? with
        | none => rfl
        | some ob => cases ob <;> simp only [Option.bind_some, Option.bind_none, Option.map_eq_bind] <;> rfl
      | _ => cases k.H[o]? <;> rfl
omit [DecidableEq κ] in
@[go_sem] theorem putAt_d {t : TypeId} {o : Nat} {kd y : D} {ct : List ((Nat × Nat) × T)} {H : List Ob} {tr : List Tr} : putAt P t o kd (.d y) ⟨ct, H, tr⟩ = (H[o]?).bind fun ob => (putOb P t ob kd y).bind fun es => some ⟨ct, H.set o (.map es), tr⟩ := rfl
theorem findK_ents {kt : TypeId} (hk : ∀ a b, keyEq P kt (fk a) (fk b) = some (decide (a = b))) (k : κ) : ∀ l : List (κ × ν), findK (keyEq P kt) (fk k) (ents fk fv l) = some ((mget l k).map fun v => .d (fv v))
  | [] => rfl
  | (a, b) :: r => by
    have ih := findK_ents hk k r
    simp only [ents, List.map_cons, findK, hk, Option.bind_some, mget, decide_eq_true_eq] at ih ⊢
    split
    · rfl
    · exact ih
theorem putK_ents {kt : TypeId} (hk : ∀ a b, keyEq P kt (fk a) (fk b) = some (decide (a = b))) (k : κ) (v : ν) : ∀ l : List (κ × ν), putK (keyEq P kt) (fk k) (.d (fv v)) (ents fk fv l) = some (ents fk fv (mput l k v))
  | [] => rfl
  | (a, b) :: r => by
    have ih := putK_ents hk k v r
    simp only [ents, List.map_cons, putK, hk, Option.bind_some, mput, decide_eq_true_eq] at ih ⊢
    split
    · rfl
    · rw [ih]; rfl
theorem lookOb_ents {t kt e : TypeId} {l : List (κ × ν)} {k : κ} {z : ν} {ok : Bool} (hm : mapOf P t = some (kt, e)) (hk : ∀ a b, keyEq P kt (fk a) (fk b) = some (decide (a = b))) (hz : zeroOf P e = some (fv z)) :
    lookOb P t (.map (ents fk fv l)) (fk k) ok = some (if ok = true then .tup [.d (fv (mval z l k)), .d (.bool (mhas l k))] else .d (fv (mval z l k))) := by
  simp only [lookOb, hm, Option.bind_some, hk, Option.isSome_some, if_true, findK_ents hk, hz, mval, mhas]
  cases mget l k <;> rfl
theorem putOb_ents {t kt e : TypeId} {l : List (κ × ν)} {k : κ} {v : ν} (hm : mapOf P t = some (kt, e)) (hk : ∀ a b, keyEq P kt (fk a) (fk b) = some (decide (a = b))) :
    putOb P t (.map (ents fk fv l)) (fk k) (fv v) = some (ents fk fv (mput l k v)) := by
  simp only [putOb, hm, Option.bind_some, hk, Option.isSome_some, if_true, putK_ents hk]
end
attribute [go_sem] obsImm
section
variable {κ ν : Type} {fk : κ → D} {fv : ν → D}
end
def lit3 (x y z : Int) : List Int := [x, y, z]
theorem own_lit3 {x y z : Int} : T.own [.d (.int .i64 x), .d (.int .i64 y), .d (.int .i64 z)] = T.own (tl eI (lit3 x y z)) := rfl
theorem lit3_len {x y z : Int} : (lit3 x y z).length = 3 := rfl
end Go.Am
namespace Go.Fair
open Go Go.Am Go.Proofs
set_option linter.unusedVariables false
variable {ρ : Type}
@[go_sem] theorem gg4_0 (s : St) (κ : Ex × St → Option ρ) : go P hints hint4 (r4 0) s κ = goL P call hint4 o4_0 [1, 2, 3] s κ := go_rg rg4_0 s κ
attribute [go_sem] o4_0
@[go_sem] theorem gg4_1 (s : St) (κ : Ex × St → Option ρ) : go P hints hint4 (r4 1) s κ = goL P call hint4 o4_1 [1, 2, 3, 7] s κ := go_rg rg4_1 s κ
attribute [go_sem] o4_1
@[go_sem] theorem gg4_2 (s : St) (κ : Ex × St → Option ρ) : go P hints hint4 (r4 2) s κ = goL P call hint4 o4_2 [1, 2, 3, 7, 8, 9, 10, 11] s κ := go_rg rg4_2 s κ
attribute [go_sem] o4_2
@[go_sem] theorem gg4_3 (s : St) (κ : Ex × St → Option ρ) : go P hints hint4 (r4 3) s κ = goL P call hint4 o4_3 [1, 2, 3, 7, 8, 9, 10, 56] s κ := go_rg rg4_3 s κ
attribute [go_sem] o4_3
@[go_sem] theorem gg4_4 (s : St) (κ : Ex × St → Option ρ) : go P hints hint4 (r4 4) s κ = goL P call hint4 o4_4 [6] s κ := go_rg rg4_4 s κ
attribute [go_sem] o4_4
@[go_sem] theorem gg4_5 (s : St) (κ : Ex × St → Option ρ) : go P hints hint4 (r4 5) s κ = goL P call hint4 o4_5 [1, 2, 3, 7, 8, 9, 10, 76] s κ := go_rg rg4_5 s κ
attribute [go_sem] o4_5
@[go_sem] theorem gg4_6 (s : St) (κ : Ex × St → Option ρ) : go P hints hint4 (r4 6) s κ = goL P call hint4 o4_6 [6] s κ := go_rg rg4_6 s κ
attribute [go_sem] o4_6
@[go_sem] theorem gg4_7 (s : St) (κ : Ex × St → Option ρ) : go P hints hint4 (r4 7) s κ = goL P call hint4 o4_7 [1, 2, 3, 7, 8, 9, 10, 77, 78, 79] s κ := go_rg rg4_7 s κ
attribute [go_sem] o4_7
@[go_sem] theorem gg4_8 (s : St) (κ : Ex × St → Option ρ) : go P hints hint4 (r4 8) s κ = goL P call hint4 o4_8 [1, 2, 3, 7, 8, 9, 10, 77, 78, 79, 80] s κ := go_rg rg4_8 s κ
attribute [go_sem] o4_8
@[go_sem] theorem gg4_9 (s : St) (κ : Ex × St → Option ρ) : go P hints hint4 (r4 9) s κ = goL P call hint4 o4_9 [1, 2, 3, 7, 8, 9, 10, 13, 77, 78, 79] s κ := go_rg rg4_9 s κ
attribute [go_sem] o4_9
@[go_sem] theorem gg4_10 (s : St) (κ : Ex × St → Option ρ) : go P hints hint4 (r4 10) s κ = goL P call hint4 o4_10 [1, 2, 3, 7, 8, 9, 10, 77, 78, 79, 87] s κ := go_rg rg4_10 s κ
attribute [go_sem] o4_10
@[go_sem] theorem gg4_11 (s : St) (κ : Ex × St → Option ρ) : go P hints hint4 (r4 11) s κ = goL P call hint4 o4_11 [6] s κ := go_rg rg4_11 s κ
attribute [go_sem] o4_11
@[go_sem] theorem gg4_12 (s : St) (κ : Ex × St → Option ρ) : go P hints hint4 (r4 12) s κ = goL P call hint4 o4_12 [1, 2, 3, 7, 8, 9, 10, 77, 78, 79] s κ := go_rg rg4_12 s κ
attribute [go_sem] o4_12
@[go_sem] theorem gg4_13 (s : St) (κ : Ex × St → Option ρ) : go P hints hint4 (r4 13) s κ = goR P call hint4 o4_13 [1, 2, 3, 7, 8, 9, 10, 14, 15] (s, hist0 s) [] κ := go_rgD rg4_13 s κ
attribute [go_sem] o4_13
@[go_sem] theorem gg4_14 (s : St) (κ : Ex × St → Option ρ) : go P hints hint4 (r4 14) s κ = goL P call hint4 o4_14 [1, 2, 3, 7, 8, 9, 10, 14, 15, 16, 17, 18] s κ := go_rg rg4_14 s κ
attribute [go_sem] o4_14
@[go_sem] theorem gg4_15 (s : St) (κ : Ex × St → Option ρ) : go P hints hint4 (r4 15) s κ = goL P call hint4 o4_15 [1, 2, 3, 7, 8, 9, 10, 14, 15, 16, 17, 18, 97] s κ := go_rg rg4_15 s κ
attribute [go_sem] o4_15
@[go_sem] theorem gg4_16 (s : St) (κ : Ex × St → Option ρ) : go P hints hint4 (r4 16) s κ = goL P call hint4 o4_16 [1, 2, 3, 7, 8, 9, 10, 14, 15, 16, 17, 18, 97, 98] s κ := go_rg rg4_16 s κ
attribute [go_sem] o4_16
@[go_sem] theorem gg4_17 (s : St) (κ : Ex × St → Option ρ) : go P hints hint4 (r4 17) s κ = goL P call hint4 o4_17 [1, 2, 3, 7, 8, 9, 10, 14, 15, 16, 17, 18, 97, 99, 100, 101] s κ := go_rg rg4_17 s κ
attribute [go_sem] o4_17
@[go_sem] theorem gg4_18 (s : St) (κ : Ex × St → Option ρ) : go P hints hint4 (r4 18) s κ = goL P call hint4 o4_18 [1, 2, 3, 7, 8, 9, 10, 14, 15, 16, 17, 18, 97, 99, 100, 101, 102] s κ := go_rg rg4_18 s κ
attribute [go_sem] o4_18
@[go_sem] theorem gg4_19 (s : St) (κ : Ex × St → Option ρ) : go P hints hint4 (r4 19) s κ = goL P call hint4 o4_19 [1, 2, 3, 7, 8, 9, 10, 14, 15, 16, 17, 18, 20, 97, 99, 100, 101] s κ := go_rg rg4_19 s κ
attribute [go_sem] o4_19
@[go_sem] theorem gg4_20 (s : St) (κ : Ex × St → Option ρ) : go P hints hint4 (r4 20) s κ = goL P call hint4 o4_20 [1, 2, 3, 7, 8, 9, 10, 14, 15, 16, 17, 18, 20, 97, 99, 100, 101, 111] s κ := go_rg rg4_20 s κ
attribute [go_sem] o4_20
@[go_sem] theorem gg4_21 (s : St) (κ : Ex × St → Option ρ) : go P hints hint4 (r4 21) s κ = goL P call hint4 o4_21 [6] s κ := go_rg rg4_21 s κ
attribute [go_sem] o4_21
@[go_sem] theorem gg4_22 (s : St) (κ : Ex × St → Option ρ) : go P hints hint4 (r4 22) s κ = goL P call hint4 o4_22 [1, 2, 3, 7, 8, 9, 10, 14, 15, 16, 17, 18, 20, 97, 99, 100, 101, 143] s κ := go_rg rg4_22 s κ
attribute [go_sem] o4_22
@[go_sem] theorem gg4_23 (s : St) (κ : Ex × St → Option ρ) : go P hints hint4 (r4 23) s κ = goL P call hint4 o4_23 [6] s κ := go_rg rg4_23 s κ
attribute [go_sem] o4_23
@[go_sem] theorem gg4_24 (s : St) (κ : Ex × St → Option ρ) : go P hints hint4 (r4 24) s κ = goL P call hint4 o4_24 [1, 2, 3, 7, 8, 9, 10, 14, 15, 16, 17, 18, 21, 97, 99, 100, 101] s κ := go_rg rg4_24 s κ
attribute [go_sem] o4_24
@[go_sem] theorem gg4_25 (s : St) (κ : Ex × St → Option ρ) : go P hints hint4 (r4 25) s κ = goL P call hint4 o4_25 [1, 2, 3, 7, 8, 9, 10, 14, 15, 16, 17, 18, 21, 97, 99, 100, 101] s κ := go_rg rg4_25 s κ
attribute [go_sem] o4_25
@[go_sem] theorem gg4_26 (s : St) (κ : Ex × St → Option ρ) : go P hints hint4 (r4 26) s κ = goR P call hint4 o4_26 [1, 2, 3, 7, 8, 9, 10, 14, 15, 16, 17, 18, 97, 99, 100, 101] (s, hist0 s) [] κ := go_rgD rg4_26 s κ
attribute [go_sem] o4_26
@[go_sem] theorem gg4_27 (s : St) (κ : Ex × St → Option ρ) : go P hints hint4 (r4 27) s κ = goL P call hint4 o4_27 [1, 2, 3, 7, 8, 9, 10, 14, 15, 16, 17, 18, 97, 99, 100, 101] s κ := go_rg rg4_27 s κ
attribute [go_sem] o4_27
@[go_sem] theorem gg4_28 (s : St) (κ : Ex × St → Option ρ) : go P hints hint4 (r4 28) s κ = goL P call hint4 o4_28 [1, 2, 3, 7, 8, 9, 10, 14, 15, 16, 17, 18, 97] s κ := go_rg rg4_28 s κ
attribute [go_sem] o4_28
@[go_sem] theorem gg4_29 (s : St) (κ : Ex × St → Option ρ) : go P hints hint4 (r4 29) s κ = goL P call hint4 o4_29 [1, 3, 7, 10, 16, 17, 18, 22] s κ := go_rg rg4_29 s κ
attribute [go_sem] o4_29
@[go_sem] theorem gg4_30 (s : St) (κ : Ex × St → Option ρ) : go P hints hint4 (r4 30) s κ = goL P call hint4 o4_30 [1, 3, 7, 10, 16, 17, 18, 22, 23] s κ := go_rg rg4_30 s κ
attribute [go_sem] o4_30
@[go_sem] theorem gg4_31 (s : St) (κ : Ex × St → Option ρ) : go P hints hint4 (r4 31) s κ = goL P call hint4 o4_31 [1, 3, 7, 10, 16, 17, 18, 22, 23, 190] s κ := go_rg rg4_31 s κ
attribute [go_sem] o4_31
@[go_sem] theorem gg4_33 (s : St) (κ : Ex × St → Option ρ) : go P hints hint4 (r4 33) s κ = goL P call hint4 o4_33 [1, 3, 7, 10, 16, 17, 18, 22, 23, 214] s κ := go_rg rg4_33 s κ
attribute [go_sem] o4_33
@[go_sem] theorem gg4_34 (s : St) (κ : Ex × St → Option ρ) : go P hints hint4 (r4 34) s κ = goR P call hint4 o4_34 [7, 10, 18, 22, 23, 24] (s, hist0 s) [] κ := go_rgD rg4_34 s κ
attribute [go_sem] o4_34
@[go_sem] theorem gg4_35 (s : St) (κ : Ex × St → Option ρ) : go P hints hint4 (r4 35) s κ = goL P call hint4 o4_35 [10, 18, 22, 23, 24, 230, 231] s κ := go_rg rg4_35 s κ
attribute [go_sem] o4_35
@[go_sem] theorem gg4_36 (s : St) (κ : Ex × St → Option ρ) : go P hints hint4 (r4 36) s κ = goL P call hint4 o4_36 [10, 18, 22, 23, 24, 230, 231, 232] s κ := go_rg rg4_36 s κ
attribute [go_sem] o4_36
@[go_sem] theorem gg4_37 (s : St) (κ : Ex × St → Option ρ) : go P hints hint4 (r4 37) s κ = goL P call hint4 o4_37 [10, 18, 22, 23, 24, 25, 230, 231] s κ := go_rg rg4_37 s κ
attribute [go_sem] o4_37
@[go_sem] theorem gg4_38 (s : St) (κ : Ex × St → Option ρ) : go P hints hint4 (r4 38) s κ = goL P call hint4 o4_38 [10, 18, 22, 23, 24, 25, 26, 230, 231] s κ := go_rg rg4_38 s κ
attribute [go_sem] o4_38
@[go_sem] theorem gg4_39 (s : St) (κ : Ex × St → Option ρ) : go P hints hint4 (r4 39) s κ = goL P call hint4 o4_39 [10, 18, 22, 23, 24, 25, 26, 230, 231, 238, 239, 240] s κ := go_rg rg4_39 s κ
attribute [go_sem] o4_39
@[go_sem] theorem gg4_40 (s : St) (κ : Ex × St → Option ρ) : go P hints hint4 (r4 40) s κ = goL P call hint4 o4_40 [10, 18, 22, 23, 24, 25, 26, 230, 231, 238, 239, 240, 241] s κ := go_rg rg4_40 s κ
attribute [go_sem] o4_40
@[go_sem] theorem gg4_41 (s : St) (κ : Ex × St → Option ρ) : go P hints hint4 (r4 41) s κ = goL P call hint4 o4_41 [10, 18, 22, 23, 24, 25, 26, 28, 230, 231, 238, 239, 240] s κ := go_rg rg4_41 s κ
attribute [go_sem] o4_41
@[go_sem] theorem gg4_42 (s : St) (κ : Ex × St → Option ρ) : go P hints hint4 (r4 42) s κ = goL P call hint4 o4_42 [10, 18, 22, 23, 24, 25, 26, 230, 231, 238, 239, 240] s κ := go_rg rg4_42 s κ
attribute [go_sem] o4_42
@[go_sem] theorem gg4_43 (s : St) (κ : Ex × St → Option ρ) : go P hints hint4 (r4 43) s κ = goL P call hint4 o4_43 [10, 18, 22, 23, 24, 25, 26, 230, 231, 238, 239, 240] s κ := go_rg rg4_43 s κ
attribute [go_sem] o4_43
@[go_sem] theorem gg4_44 (s : St) (κ : Ex × St → Option ρ) : go P hints hint4 (r4 44) s κ = goL P call hint4 o4_44 [10, 18, 22, 23, 24, 230, 231, 260] s κ := go_rg rg4_44 s κ
attribute [go_sem] o4_44
@[go_sem] theorem gg4_45 (s : St) (κ : Ex × St → Option ρ) : go P hints hint4 (r4 45) s κ = goL P call hint4 o4_45 [6] s κ := go_rg rg4_45 s κ
attribute [go_sem] o4_45
@[go_sem] theorem gg4_46 (s : St) (κ : Ex × St → Option ρ) : go P hints hint4 (r4 46) s κ = goL P call hint4 o4_46 [10, 18, 22, 23, 24, 230, 231] s κ := go_rg rg4_46 s κ
attribute [go_sem] o4_46
@[go_sem] theorem gg4_32 (s : St) (κ : Ex × St → Option ρ) : go P hints hint4 (r4 32) s κ = goL P call hint4 o4_32 [1, 3, 7, 10, 16, 17, 18, 22, 23] s κ := go_rg rg4_32 s κ
attribute [go_sem] o4_32
@[go_sem] theorem gg4_47 (s : St) (κ : Ex × St → Option ρ) : go P hints hint4 (r4 47) s κ = goL P call hint4 o4_47 [6] s κ := go_rg rg4_47 s κ
attribute [go_sem] o4_47
@[go_sem] theorem gg6_0 (s : St) (κ : Ex × St → Option ρ) : go P hints hint6 (r6 0) s κ = goL P call hint6 o6_0 [1, 2] s κ := go_rg rg6_0 s κ
attribute [go_sem] o6_0
@[go_sem] theorem gg6_1 (s : St) (κ : Ex × St → Option ρ) : go P hints hint6 (r6 1) s κ = goL P call hint6 o6_1 [1, 2, 5] s κ := go_rg rg6_1 s κ
attribute [go_sem] o6_1
@[go_sem] theorem gg6_2 (s : St) (κ : Ex × St → Option ρ) : go P hints hint6 (r6 2) s κ = goL P call hint6 o6_2 [1, 5, 16, 17, 18] s κ := go_rg rg6_2 s κ
attribute [go_sem] o6_2
@[go_sem] theorem gg6_3 (s : St) (κ : Ex × St → Option ρ) : go P hints hint6 (r6 3) s κ = goL P call hint6 o6_3 [1, 5, 16, 17, 18, 19] s κ := go_rg rg6_3 s κ
attribute [go_sem] o6_3
@[go_sem] theorem gg6_4 (s : St) (κ : Ex × St → Option ρ) : go P hints hint6 (r6 4) s κ = goL P call hint6 o6_4 [1, 5, 7, 16, 17, 18] s κ := go_rg rg6_4 s κ
attribute [go_sem] o6_4
@[go_sem] theorem gg6_5 (s : St) (κ : Ex × St → Option ρ) : go P hints hint6 (r6 5) s κ = goL P call hint6 o6_5 [1, 5, 16, 17, 18] s κ := go_rg rg6_5 s κ
attribute [go_sem] o6_5
@[go_sem] theorem gg6_6 (s : St) (κ : Ex × St → Option ρ) : go P hints hint6 (r6 6) s κ = goL P call hint6 o6_6 [1, 5, 16, 17, 18] s κ := go_rg rg6_6 s κ
attribute [go_sem] o6_6
@[go_sem] theorem gg6_7 (s : St) (κ : Ex × St → Option ρ) : go P hints hint6 (r6 7) s κ = goL P call hint6 o6_7 [4] s κ := go_rg rg6_7 s κ
attribute [go_sem] o6_7
@[go_sem] theorem gg8_0 (s : St) (κ : Ex × St → Option ρ) : go P hints hint8 (r8 0) s κ = goL P call hint8 o8_0 [1, 2, 3, 6] s κ := go_rg rg8_0 s κ
attribute [go_sem] o8_0
@[go_sem] theorem gg8_1 (s : St) (κ : Ex × St → Option ρ) : go P hints hint8 (r8 1) s κ = goL P call hint8 o8_1 [1, 2, 3, 6, 10] s κ := go_rg rg8_1 s κ
attribute [go_sem] o8_1
@[go_sem] theorem gg8_2 (s : St) (κ : Ex × St → Option ρ) : go P hints hint8 (r8 2) s κ = goL P call hint8 o8_2 [1, 2, 3, 6, 10, 29] s κ := go_rg rg8_2 s κ
attribute [go_sem] o8_2
@[go_sem] theorem gg8_3 (s : St) (κ : Ex × St → Option ρ) : go P hints hint8 (r8 3) s κ = goL P call hint8 o8_3 [6, 7, 8, 9] s κ := go_rg rg8_3 s κ
attribute [go_sem] o8_3
@[go_sem] theorem gg8_4 (s : St) (κ : Ex × St → Option ρ) : go P hints hint8 (r8 4) s κ = goL P call hint8 o8_4 [1, 2, 3, 6, 32] s κ := go_rg rg8_4 s κ
attribute [go_sem] o8_4
@[go_sem] theorem gg8_5 (s : St) (κ : Ex × St → Option ρ) : go P hints hint8 (r8 5) s κ = goL P call hint8 o8_5 [6, 7, 8, 9] s κ := go_rg rg8_5 s κ
attribute [go_sem] o8_5
@[go_sem] theorem gg8_6 (s : St) (κ : Ex × St → Option ρ) : go P hints hint8 (r8 6) s κ = goL P call hint8 o8_6 [1, 2, 3, 6, 39] s κ := go_rg rg8_6 s κ
attribute [go_sem] o8_6
@[go_sem] theorem gg8_7 (s : St) (κ : Ex × St → Option ρ) : go P hints hint8 (r8 7) s κ = goL P call hint8 o8_7 [6, 7, 8, 9] s κ := go_rg rg8_7 s κ
attribute [go_sem] o8_7
@[go_sem] theorem gg8_8 (s : St) (κ : Ex × St → Option ρ) : go P hints hint8 (r8 8) s κ = goL P call hint8 o8_8 [1, 2, 3, 6, 11] s κ := go_rg rg8_8 s κ
attribute [go_sem] o8_8
@[go_sem] theorem gg8_9 (s : St) (κ : Ex × St → Option ρ) : go P hints hint8 (r8 9) s κ = goL P call hint8 o8_9 [1, 2, 3, 6, 11, 12] s κ := go_rg rg8_9 s κ
attribute [go_sem] o8_9
@[go_sem] theorem gg8_10 (s : St) (κ : Ex × St → Option ρ) : go P hints hint8 (r8 10) s κ = goL P call hint8 o8_10 [1, 2, 3, 6, 11, 12, 13] s κ := go_rg rg8_10 s κ
attribute [go_sem] o8_10
@[go_sem] theorem gg8_11 (s : St) (κ : Ex × St → Option ρ) : go P hints hint8 (r8 11) s κ = goL P call hint8 o8_11 [1, 2, 3, 6, 11, 12, 13, 58] s κ := go_rg rg8_11 s κ
attribute [go_sem] o8_11
@[go_sem] theorem gg8_13 (s : St) (κ : Ex × St → Option ρ) : go P hints hint8 (r8 13) s κ = goL P call hint8 o8_13 [1, 2, 3, 6, 11, 12, 13, 14] s κ := go_rg rg8_13 s κ
attribute [go_sem] o8_13
@[go_sem] theorem gg8_14 (s : St) (κ : Ex × St → Option ρ) : go P hints hint8 (r8 14) s κ = goL P call hint8 o8_14 [1, 2, 3, 6, 11, 12, 13, 14, 15] s κ := go_rg rg8_14 s κ
attribute [go_sem] o8_14
@[go_sem] theorem gg8_15 (s : St) (κ : Ex × St → Option ρ) : go P hints hint8 (r8 15) s κ = goL P call hint8 o8_15 [1, 2, 3, 6, 11, 12, 13, 14, 15, 73, 74, 75] s κ := go_rg rg8_15 s κ
attribute [go_sem] o8_15
@[go_sem] theorem gg8_16 (s : St) (κ : Ex × St → Option ρ) : go P hints hint8 (r8 16) s κ = goL P call hint8 o8_16 [1, 2, 3, 6, 11, 12, 13, 14, 15, 73, 74, 75, 76] s κ := go_rg rg8_16 s κ
attribute [go_sem] o8_16
@[go_sem] theorem gg8_17 (s : St) (κ : Ex × St → Option ρ) : go P hints hint8 (r8 17) s κ = goL P call hint8 o8_17 [1, 2, 3, 6, 11, 12, 13, 14, 15, 17, 73, 74, 75] s κ := go_rg rg8_17 s κ
attribute [go_sem] o8_17
@[go_sem] theorem gg8_18 (s : St) (κ : Ex × St → Option ρ) : go P hints hint8 (r8 18) s κ = goR P call hint8 o8_18 [1, 2, 3, 6, 11, 12, 13, 14, 15, 73, 74, 75] (s, hist0 s) [] κ := go_rgD rg8_18 s κ
attribute [go_sem] o8_18
@[go_sem] theorem gg8_19 (s : St) (κ : Ex × St → Option ρ) : go P hints hint8 (r8 19) s κ = goL P call hint8 o8_19 [1, 2, 3, 6, 11, 12, 13, 14, 15, 73, 74, 75] s κ := go_rg rg8_19 s κ
attribute [go_sem] o8_19
@[go_sem] theorem gg8_20 (s : St) (κ : Ex × St → Option ρ) : go P hints hint8 (r8 20) s κ = goL P call hint8 o8_20 [1, 2, 3, 6, 11, 12, 13, 14, 15, 99] s κ := go_rg rg8_20 s κ
attribute [go_sem] o8_20
@[go_sem] theorem gg8_21 (s : St) (κ : Ex × St → Option ρ) : go P hints hint8 (r8 21) s κ = goL P call hint8 o8_21 [6, 7, 8, 9] s κ := go_rg rg8_21 s κ
attribute [go_sem] o8_21
@[go_sem] theorem gg8_22 (s : St) (κ : Ex × St → Option ρ) : go P hints hint8 (r8 22) s κ = goL P call hint8 o8_22 [1, 2, 3, 6, 11, 12, 13, 14] s κ := go_rg rg8_22 s κ
attribute [go_sem] o8_22
@[go_sem] theorem gg8_23 (s : St) (κ : Ex × St → Option ρ) : go P hints hint8 (r8 23) s κ = goR P call hint8 o8_23 [1, 2, 3, 6, 11, 12, 13] (s, hist0 s) [] κ := go_rgD rg8_23 s κ
attribute [go_sem] o8_23
@[go_sem] theorem gg8_12 (s : St) (κ : Ex × St → Option ρ) : go P hints hint8 (r8 12) s κ = goL P call hint8 o8_12 [1, 2, 3, 6, 11, 12, 13] s κ := go_rg rg8_12 s κ
attribute [go_sem] o8_12
@[go_sem] theorem gg8_24 (s : St) (κ : Ex × St → Option ρ) : go P hints hint8 (r8 24) s κ = goL P call hint8 o8_24 [1, 2, 6, 11, 12, 18] s κ := go_rg rg8_24 s κ
attribute [go_sem] o8_24
@[go_sem] theorem gg8_25 (s : St) (κ : Ex × St → Option ρ) : go P hints hint8 (r8 25) s κ = goL P call hint8 o8_25 [1, 2, 6, 11, 12, 18, 19] s κ := go_rg rg8_25 s κ
attribute [go_sem] o8_25
@[go_sem] theorem gg8_26 (s : St) (κ : Ex × St → Option ρ) : go P hints hint8 (r8 26) s κ = goL P call hint8 o8_26 [1, 6, 11, 12, 18, 19, 126, 127, 128] s κ := go_rg rg8_26 s κ
attribute [go_sem] o8_26
@[go_sem] theorem gg8_27 (s : St) (κ : Ex × St → Option ρ) : go P hints hint8 (r8 27) s κ = goL P call hint8 o8_27 [1, 6, 11, 12, 18, 19, 126, 127, 128, 129] s κ := go_rg rg8_27 s κ
attribute [go_sem] o8_27
@[go_sem] theorem gg8_28 (s : St) (κ : Ex × St → Option ρ) : go P hints hint8 (r8 28) s κ = goL P call hint8 o8_28 [1, 6, 11, 12, 18, 19, 20, 21, 126, 127, 128] s κ := go_rg rg8_28 s κ
attribute [go_sem] o8_28
@[go_sem] theorem gg8_29 (s : St) (κ : Ex × St → Option ρ) : go P hints hint8 (r8 29) s κ = goL P call hint8 o8_29 [1, 6, 11, 12, 18, 19, 20, 21, 126, 127, 128] s κ := go_rg rg8_29 s κ
attribute [go_sem] o8_29
@[go_sem] theorem gg8_30 (s : St) (κ : Ex × St → Option ρ) : go P hints hint8 (r8 30) s κ = goL P call hint8 o8_30 [1, 6, 11, 12, 18, 19, 20, 21, 126, 127, 128, 145, 146, 147] s κ := go_rg rg8_30 s κ
attribute [go_sem] o8_30
@[go_sem] theorem gg8_31 (s : St) (κ : Ex × St → Option ρ) : go P hints hint8 (r8 31) s κ = goL P call hint8 o8_31 [1, 6, 11, 12, 18, 19, 20, 21, 126, 127, 128, 145, 146, 147, 148] s κ := go_rg rg8_31 s κ
attribute [go_sem] o8_31
@[go_sem] theorem gg8_32 (s : St) (κ : Ex × St → Option ρ) : go P hints hint8 (r8 32) s κ = goL P call hint8 o8_32 [1, 6, 11, 12, 18, 19, 20, 21, 22, 23, 126, 127, 128, 145, 146, 147] s κ := go_rg rg8_32 s κ
attribute [go_sem] o8_32
@[go_sem] theorem gg8_33 (s : St) (κ : Ex × St → Option ρ) : go P hints hint8 (r8 33) s κ = goR P call hint8 o8_33 [1, 6, 11, 12, 18, 19, 20, 21, 126, 127, 128, 145, 146, 147] (s, hist0 s) [] κ := go_rgD rg8_33 s κ
attribute [go_sem] o8_33
@[go_sem] theorem gg8_34 (s : St) (κ : Ex × St → Option ρ) : go P hints hint8 (r8 34) s κ = goL P call hint8 o8_34 [1, 6, 11, 12, 18, 19, 20, 21, 126, 127, 128, 145, 146, 147] s κ := go_rg rg8_34 s κ
attribute [go_sem] o8_34
@[go_sem] theorem gg8_35 (s : St) (κ : Ex × St → Option ρ) : go P hints hint8 (r8 35) s κ = goL P call hint8 o8_35 [1, 6, 11, 12, 18, 19, 126, 127, 128] s κ := go_rg rg8_35 s κ
attribute [go_sem] o8_35
@[go_sem] theorem gg8_36 (s : St) (κ : Ex × St → Option ρ) : go P hints hint8 (r8 36) s κ = goL P call hint8 o8_36 [6, 12, 18, 19, 178, 179, 180] s κ := go_rg rg8_36 s κ
attribute [go_sem] o8_36
@[go_sem] theorem gg8_37 (s : St) (κ : Ex × St → Option ρ) : go P hints hint8 (r8 37) s κ = goL P call hint8 o8_37 [6, 12, 18, 19, 178, 179, 180, 181] s κ := go_rg rg8_37 s κ
attribute [go_sem] o8_37
@[go_sem] theorem gg8_38 (s : St) (κ : Ex × St → Option ρ) : go P hints hint8 (r8 38) s κ = goL P call hint8 o8_38 [6, 12, 18, 19, 24, 25, 178, 179, 180] s κ := go_rg rg8_38 s κ
attribute [go_sem] o8_38
@[go_sem] theorem gg8_39 (s : St) (κ : Ex × St → Option ρ) : go P hints hint8 (r8 39) s κ = goL P call hint8 o8_39 [6, 12, 18, 19, 178, 179, 180] s κ := go_rg rg8_39 s κ
attribute [go_sem] o8_39
@[go_sem] theorem gg8_40 (s : St) (κ : Ex × St → Option ρ) : go P hints hint8 (r8 40) s κ = goL P call hint8 o8_40 [6, 12, 18, 19, 178, 179, 180] s κ := go_rg rg8_40 s κ
attribute [go_sem] o8_40
@[go_sem] theorem gg8_41 (s : St) (κ : Ex × St → Option ρ) : go P hints hint8 (r8 41) s κ = goL P call hint8 o8_41 [6, 7, 8, 9] s κ := go_rg rg8_41 s κ
attribute [go_sem] o8_41
@[go_sem] theorem gg9_0 (s : St) (κ : Ex × St → Option ρ) : go P hints hint9 (r9 0) s κ = goL P call hint9 o9_0 [1, 2, 3, 6] s κ := go_rg rg9_0 s κ
attribute [go_sem] o9_0
@[go_sem] theorem gg9_1 (s : St) (κ : Ex × St → Option ρ) : go P hints hint9 (r9 1) s κ = goL P call hint9 o9_1 [1, 2, 3, 6, 10] s κ := go_rg rg9_1 s κ
attribute [go_sem] o9_1
@[go_sem] theorem gg9_2 (s : St) (κ : Ex × St → Option ρ) : go P hints hint9 (r9 2) s κ = goL P call hint9 o9_2 [1, 2, 3, 6, 10, 29] s κ := go_rg rg9_2 s κ
attribute [go_sem] o9_2
@[go_sem] theorem gg9_3 (s : St) (κ : Ex × St → Option ρ) : go P hints hint9 (r9 3) s κ = goL P call hint9 o9_3 [6, 7, 8, 9] s κ := go_rg rg9_3 s κ
attribute [go_sem] o9_3
@[go_sem] theorem gg9_4 (s : St) (κ : Ex × St → Option ρ) : go P hints hint9 (r9 4) s κ = goL P call hint9 o9_4 [1, 2, 3, 6, 39] s κ := go_rg rg9_4 s κ
attribute [go_sem] o9_4
@[go_sem] theorem gg9_5 (s : St) (κ : Ex × St → Option ρ) : go P hints hint9 (r9 5) s κ = goL P call hint9 o9_5 [6, 7, 8, 9] s κ := go_rg rg9_5 s κ
attribute [go_sem] o9_5
@[go_sem] theorem gg9_6 (s : St) (κ : Ex × St → Option ρ) : go P hints hint9 (r9 6) s κ = goL P call hint9 o9_6 [1, 2, 3, 6, 43] s κ := go_rg rg9_6 s κ
attribute [go_sem] o9_6
@[go_sem] theorem gg9_7 (s : St) (κ : Ex × St → Option ρ) : go P hints hint9 (r9 7) s κ = goL P call hint9 o9_7 [6, 7, 8, 9] s κ := go_rg rg9_7 s κ
attribute [go_sem] o9_7
@[go_sem] theorem gg9_8 (s : St) (κ : Ex × St → Option ρ) : go P hints hint9 (r9 8) s κ = goL P call hint9 o9_8 [1, 2, 3, 6, 11] s κ := go_rg rg9_8 s κ
attribute [go_sem] o9_8
@[go_sem] theorem gg9_9 (s : St) (κ : Ex × St → Option ρ) : go P hints hint9 (r9 9) s κ = goL P call hint9 o9_9 [1, 2, 3, 6, 11, 12] s κ := go_rg rg9_9 s κ
attribute [go_sem] o9_9
@[go_sem] theorem gg9_10 (s : St) (κ : Ex × St → Option ρ) : go P hints hint9 (r9 10) s κ = goL P call hint9 o9_10 [1, 2, 3, 6, 11, 12, 13] s κ := go_rg rg9_10 s κ
attribute [go_sem] o9_10
@[go_sem] theorem gg9_11 (s : St) (κ : Ex × St → Option ρ) : go P hints hint9 (r9 11) s κ = goL P call hint9 o9_11 [1, 2, 3, 6, 11, 12, 13, 49] s κ := go_rg rg9_11 s κ
attribute [go_sem] o9_11
@[go_sem] theorem gg9_13 (s : St) (κ : Ex × St → Option ρ) : go P hints hint9 (r9 13) s κ = goL P call hint9 o9_13 [1, 2, 3, 6, 11, 12, 13, 14] s κ := go_rg rg9_13 s κ
attribute [go_sem] o9_13
@[go_sem] theorem gg9_14 (s : St) (κ : Ex × St → Option ρ) : go P hints hint9 (r9 14) s κ = goL P call hint9 o9_14 [1, 2, 3, 6, 11, 12, 13, 14, 61] s κ := go_rg rg9_14 s κ
attribute [go_sem] o9_14
@[go_sem] theorem gg9_15 (s : St) (κ : Ex × St → Option ρ) : go P hints hint9 (r9 15) s κ = goL P call hint9 o9_15 [1, 2, 3, 6, 11, 12, 13, 14] s κ := go_rg rg9_15 s κ
attribute [go_sem] o9_15
@[go_sem] theorem gg9_16 (s : St) (κ : Ex × St → Option ρ) : go P hints hint9 (r9 16) s κ = goL P call hint9 o9_16 [1, 2, 3, 6, 11, 12, 13] s κ := go_rg rg9_16 s κ
attribute [go_sem] o9_16
@[go_sem] theorem gg9_12 (s : St) (κ : Ex × St → Option ρ) : go P hints hint9 (r9 12) s κ = goL P call hint9 o9_12 [1, 2, 3, 6, 11, 12, 13] s κ := go_rg rg9_12 s κ
attribute [go_sem] o9_12
@[go_sem] theorem gg9_17 (s : St) (κ : Ex × St → Option ρ) : go P hints hint9 (r9 17) s κ = goL P call hint9 o9_17 [1, 2, 3, 6, 11, 12, 15] s κ := go_rg rg9_17 s κ
attribute [go_sem] o9_17
@[go_sem] theorem gg9_18 (s : St) (κ : Ex × St → Option ρ) : go P hints hint9 (r9 18) s κ = goL P call hint9 o9_18 [1, 2, 3, 6, 11, 12, 15, 16] s κ := go_rg rg9_18 s κ
attribute [go_sem] o9_18
@[go_sem] theorem gg9_19 (s : St) (κ : Ex × St → Option ρ) : go P hints hint9 (r9 19) s κ = goL P call hint9 o9_19 [1, 2, 3, 6, 11, 12, 15, 16, 76] s κ := go_rg rg9_19 s κ
attribute [go_sem] o9_19
@[go_sem] theorem gg9_21 (s : St) (κ : Ex × St → Option ρ) : go P hints hint9 (r9 21) s κ = goL P call hint9 o9_21 [1, 2, 3, 6, 11, 12, 15, 16, 81] s κ := go_rg rg9_21 s κ
attribute [go_sem] o9_21
@[go_sem] theorem gg9_22 (s : St) (κ : Ex × St → Option ρ) : go P hints hint9 (r9 22) s κ = goL P call hint9 o9_22 [6, 7, 8, 9] s κ := go_rg rg9_22 s κ
attribute [go_sem] o9_22
@[go_sem] theorem gg9_23 (s : St) (κ : Ex × St → Option ρ) : go P hints hint9 (r9 23) s κ = goL P call hint9 o9_23 [1, 2, 3, 6, 11, 12, 15, 16, 17] s κ := go_rg rg9_23 s κ
attribute [go_sem] o9_23
@[go_sem] theorem gg9_24 (s : St) (κ : Ex × St → Option ρ) : go P hints hint9 (r9 24) s κ = goL P call hint9 o9_24 [1, 2, 3, 6, 11, 12, 15, 16, 17, 18] s κ := go_rg rg9_24 s κ
attribute [go_sem] o9_24
@[go_sem] theorem gg9_25 (s : St) (κ : Ex × St → Option ρ) : go P hints hint9 (r9 25) s κ = goL P call hint9 o9_25 [1, 2, 3, 6, 11, 12, 15, 16, 17, 18, 19] s κ := go_rg rg9_25 s κ
attribute [go_sem] o9_25
@[go_sem] theorem gg9_26 (s : St) (κ : Ex × St → Option ρ) : go P hints hint9 (r9 26) s κ = goL P call hint9 o9_26 [1, 2, 3, 6, 11, 12, 15, 16, 17, 18, 19, 95] s κ := go_rg rg9_26 s κ
attribute [go_sem] o9_26
@[go_sem] theorem gg9_28 (s : St) (κ : Ex × St → Option ρ) : go P hints hint9 (r9 28) s κ = goL P call hint9 o9_28 [1, 2, 3, 6, 11, 12, 15, 16, 17, 18, 19, 20] s κ := go_rg rg9_28 s κ
attribute [go_sem] o9_28
@[go_sem] theorem gg9_29 (s : St) (κ : Ex × St → Option ρ) : go P hints hint9 (r9 29) s κ = goR P call hint9 o9_29 [1, 2, 3, 6, 11, 12, 15, 16, 17, 18, 19, 20, 21] (s, hist0 s) [] κ := go_rgD rg9_29 s κ
attribute [go_sem] o9_29
@[go_sem] theorem gg9_30 (s : St) (κ : Ex × St → Option ρ) : go P hints hint9 (r9 30) s κ = goL P call hint9 o9_30 [1, 2, 3, 6, 11, 12, 15, 16, 17, 18, 19, 20, 21, 115] s κ := go_rg rg9_30 s κ
attribute [go_sem] o9_30
@[go_sem] theorem gg9_31 (s : St) (κ : Ex × St → Option ρ) : go P hints hint9 (r9 31) s κ = goL P call hint9 o9_31 [1, 2, 3, 6, 11, 12, 15, 16, 17, 18, 19, 20, 21] s κ := go_rg rg9_31 s κ
attribute [go_sem] o9_31
@[go_sem] theorem gg9_32 (s : St) (κ : Ex × St → Option ρ) : go P hints hint9 (r9 32) s κ = goR P call hint9 o9_32 [1, 2, 3, 6, 11, 12, 15, 16, 17, 18, 19] (s, hist0 s) [] κ := go_rgD rg9_32 s κ
attribute [go_sem] o9_32
@[go_sem] theorem gg9_27 (s : St) (κ : Ex × St → Option ρ) : go P hints hint9 (r9 27) s κ = goL P call hint9 o9_27 [1, 2, 3, 6, 11, 12, 15, 16, 17, 18, 19] s κ := go_rg rg9_27 s κ
attribute [go_sem] o9_27
@[go_sem] theorem gg9_33 (s : St) (κ : Ex × St → Option ρ) : go P hints hint9 (r9 33) s κ = goL P call hint9 o9_33 [1, 2, 3, 6, 11, 12, 15, 16, 17] s κ := go_rg rg9_33 s κ
attribute [go_sem] o9_33
@[go_sem] theorem gg9_34 (s : St) (κ : Ex × St → Option ρ) : go P hints hint9 (r9 34) s κ = goR P call hint9 o9_34 [1, 2, 3, 6, 11, 12, 15, 16, 17] (s, hist0 s) [] κ := go_rgD rg9_34 s κ
attribute [go_sem] o9_34
@[go_sem] theorem gg9_35 (s : St) (κ : Ex × St → Option ρ) : go P hints hint9 (r9 35) s κ = goL P call hint9 o9_35 [1, 2, 3, 6, 11, 12, 15, 16] s κ := go_rg rg9_35 s κ
attribute [go_sem] o9_35
@[go_sem] theorem gg9_20 (s : St) (κ : Ex × St → Option ρ) : go P hints hint9 (r9 20) s κ = goL P call hint9 o9_20 [1, 2, 3, 6, 11, 12, 15, 16] s κ := go_rg rg9_20 s κ
attribute [go_sem] o9_20
@[go_sem] theorem gg9_36 (s : St) (κ : Ex × St → Option ρ) : go P hints hint9 (r9 36) s κ = goL P call hint9 o9_36 [1, 2, 6, 11, 12, 15, 22] s κ := go_rg rg9_36 s κ
attribute [go_sem] o9_36
@[go_sem] theorem gg9_37 (s : St) (κ : Ex × St → Option ρ) : go P hints hint9 (r9 37) s κ = goL P call hint9 o9_37 [1, 2, 6, 11, 12, 15, 22, 23] s κ := go_rg rg9_37 s κ
attribute [go_sem] o9_37
@[go_sem] theorem gg9_38 (s : St) (κ : Ex × St → Option ρ) : go P hints hint9 (r9 38) s κ = goL P call hint9 o9_38 [1, 2, 6, 11, 12, 15, 22, 23, 152] s κ := go_rg rg9_38 s κ
attribute [go_sem] o9_38
@[go_sem] theorem gg9_40 (s : St) (κ : Ex × St → Option ρ) : go P hints hint9 (r9 40) s κ = goL P call hint9 o9_40 [1, 2, 6, 11, 12, 15, 22, 23, 24] s κ := go_rg rg9_40 s κ
attribute [go_sem] o9_40
@[go_sem] theorem gg9_41 (s : St) (κ : Ex × St → Option ρ) : go P hints hint9 (r9 41) s κ = goL P call hint9 o9_41 [1, 2, 6, 11, 12, 15, 22, 23, 24, 25] s κ := go_rg rg9_41 s κ
attribute [go_sem] o9_41
@[go_sem] theorem gg9_42 (s : St) (κ : Ex × St → Option ρ) : go P hints hint9 (r9 42) s κ = goL P call hint9 o9_42 [1, 2, 6, 11, 12, 15, 22, 23, 24, 25, 158] s κ := go_rg rg9_42 s κ
attribute [go_sem] o9_42
@[go_sem] theorem gg9_44 (s : St) (κ : Ex × St → Option ρ) : go P hints hint9 (r9 44) s κ = goR P call hint9 o9_44 [1, 2, 6, 11, 12, 15, 22, 23, 24, 25] (s, hist0 s) [] κ := go_rgD rg9_44 s κ
attribute [go_sem] o9_44
@[go_sem] theorem gg9_43 (s : St) (κ : Ex × St → Option ρ) : go P hints hint9 (r9 43) s κ = goL P call hint9 o9_43 [1, 2, 6, 11, 12, 15, 22, 23, 24, 25] s κ := go_rg rg9_43 s κ
attribute [go_sem] o9_43
@[go_sem] theorem gg9_45 (s : St) (κ : Ex × St → Option ρ) : go P hints hint9 (r9 45) s κ = goL P call hint9 o9_45 [1, 2, 6, 11, 12, 15, 22, 23] s κ := go_rg rg9_45 s κ
attribute [go_sem] o9_45
@[go_sem] theorem gg9_39 (s : St) (κ : Ex × St → Option ρ) : go P hints hint9 (r9 39) s κ = goL P call hint9 o9_39 [1, 2, 6, 11, 12, 15, 22, 23] s κ := go_rg rg9_39 s κ
attribute [go_sem] o9_39
@[go_sem] theorem gg9_46 (s : St) (κ : Ex × St → Option ρ) : go P hints hint9 (r9 46) s κ = goL P call hint9 o9_46 [6, 7, 8, 9] s κ := go_rg rg9_46 s κ
attribute [go_sem] o9_46
@[go_sem] theorem gg13_0 (s : St) (κ : Ex × St → Option ρ) : go P hints hint13 (r13 0) s κ = goL P call hint13 o13_0 [1, 2, 3, 4, 5] s κ := go_rg rg13_0 s κ
attribute [go_sem] o13_0
@[go_sem] theorem gg13_1 (s : St) (κ : Ex × St → Option ρ) : go P hints hint13 (r13 1) s κ = goL P call hint13 o13_1 [1, 2, 3, 4, 5, 11] s κ := go_rg rg13_1 s κ
attribute [go_sem] o13_1
@[go_sem] theorem gg13_2 (s : St) (κ : Ex × St → Option ρ) : go P hints hint13 (r13 2) s κ = goL P call hint13 o13_2 [1, 2, 4, 5, 11, 19, 20, 21] s κ := go_rg rg13_2 s κ
attribute [go_sem] o13_2
@[go_sem] theorem gg13_3 (s : St) (κ : Ex × St → Option ρ) : go P hints hint13 (r13 3) s κ = goL P call hint13 o13_3 [1, 2, 4, 5, 11, 19, 20, 21, 22] s κ := go_rg rg13_3 s κ
attribute [go_sem] o13_3
@[go_sem] theorem gg13_4 (s : St) (κ : Ex × St → Option ρ) : go P hints hint13 (r13 4) s κ = goL P call hint13 o13_4 [1, 2, 4, 5, 11, 12, 13, 19, 20, 21] s κ := go_rg rg13_4 s κ
attribute [go_sem] o13_4
@[go_sem] theorem gg13_5 (s : St) (κ : Ex × St → Option ρ) : go P hints hint13 (r13 5) s κ = goL P call hint13 o13_5 [1, 2, 4, 5, 11, 12, 13, 19, 20, 21, 26, 27, 28] s κ := go_rg rg13_5 s κ
attribute [go_sem] o13_5
@[go_sem] theorem gg13_6 (s : St) (κ : Ex × St → Option ρ) : go P hints hint13 (r13 6) s κ = goL P call hint13 o13_6 [1, 2, 4, 5, 11, 12, 13, 19, 20, 21, 26, 27, 28, 29] s κ := go_rg rg13_6 s κ
attribute [go_sem] o13_6
@[go_sem] theorem gg13_7 (s : St) (κ : Ex × St → Option ρ) : go P hints hint13 (r13 7) s κ = goL P call hint13 o13_7 [1, 2, 4, 5, 11, 12, 13, 14, 15, 19, 20, 21, 26, 27, 28] s κ := go_rg rg13_7 s κ
attribute [go_sem] o13_7
@[go_sem] theorem gg13_8 (s : St) (κ : Ex × St → Option ρ) : go P hints hint13 (r13 8) s κ = goR P call hint13 o13_8 [1, 2, 4, 5, 11, 12, 13, 14, 19, 20, 21, 26, 27, 28, 57] (s, hist0 s) [] κ := go_rgD rg13_8 s κ
attribute [go_sem] o13_8
@[go_sem] theorem gg13_9 (s : St) (κ : Ex × St → Option ρ) : go P hints hint13 (r13 9) s κ = goL P call hint13 o13_9 [1, 2, 4, 5, 11, 12, 13, 19, 20, 21, 26, 27, 28] s κ := go_rg rg13_9 s κ
attribute [go_sem] o13_9
@[go_sem] theorem gg13_10 (s : St) (κ : Ex × St → Option ρ) : go P hints hint13 (r13 10) s κ = goL P call hint13 o13_10 [1, 2, 4, 5, 11, 12, 13, 19, 20, 21, 26, 27, 28] s κ := go_rg rg13_10 s κ
attribute [go_sem] o13_10
@[go_sem] theorem gg13_11 (s : St) (κ : Ex × St → Option ρ) : go P hints hint13 (r13 11) s κ = goL P call hint13 o13_11 [1, 2, 4, 5, 11, 19, 20, 21] s κ := go_rg rg13_11 s κ
attribute [go_sem] o13_11
@[go_sem] theorem gg13_12 (s : St) (κ : Ex × St → Option ρ) : go P hints hint13 (r13 12) s κ = goL P call hint13 o13_12 [10] s κ := go_rg rg13_12 s κ
attribute [go_sem] o13_12
@[go_sem] theorem gg14_0 (s : St) (κ : Ex × St → Option ρ) : go P hints hint14 (r14 0) s κ = goL P call hint14 o14_0 [1] s κ := go_rg rg14_0 s κ
attribute [go_sem] o14_0
@[go_sem] theorem gg14_1 (s : St) (κ : Ex × St → Option ρ) : go P hints hint14 (r14 1) s κ = goL P call hint14 o14_1 [1, 9] s κ := go_rg rg14_1 s κ
attribute [go_sem] o14_1
@[go_sem] theorem gg14_2 (s : St) (κ : Ex × St → Option ρ) : go P hints hint14 (r14 2) s κ = goL P call hint14 o14_2 [2] s κ := go_rg rg14_2 s κ
attribute [go_sem] o14_2
@[go_sem] theorem gg14_3 (s : St) (κ : Ex × St → Option ρ) : go P hints hint14 (r14 3) s κ = goL P call hint14 o14_3 [1, 16] s κ := go_rg rg14_3 s κ
attribute [go_sem] o14_3
@[go_sem] theorem gg14_4 (s : St) (κ : Ex × St → Option ρ) : go P hints hint14 (r14 4) s κ = goL P call hint14 o14_4 [2] s κ := go_rg rg14_4 s κ
attribute [go_sem] o14_4
@[go_sem] theorem gg14_5 (s : St) (κ : Ex × St → Option ρ) : go P hints hint14 (r14 5) s κ = goL P call hint14 o14_5 [1, 3] s κ := go_rg rg14_5 s κ
attribute [go_sem] o14_5
@[go_sem] theorem gg14_6 (s : St) (κ : Ex × St → Option ρ) : go P hints hint14 (r14 6) s κ = goL P call hint14 o14_6 [1, 3, 21] s κ := go_rg rg14_6 s κ
attribute [go_sem] o14_6
@[go_sem] theorem gg14_8 (s : St) (κ : Ex × St → Option ρ) : go P hints hint14 (r14 8) s κ = goR P call hint14 o14_8 [1, 3, 31] (s, hist0 s) [] κ := go_rgD rg14_8 s κ
attribute [go_sem] o14_8
@[go_sem] theorem gg14_9 (s : St) (κ : Ex × St → Option ρ) : go P hints hint14 (r14 9) s κ = goL P call hint14 o14_9 [2] s κ := go_rg rg14_9 s κ
attribute [go_sem] o14_9
@[go_sem] theorem gg14_7 (s : St) (κ : Ex × St → Option ρ) : go P hints hint14 (r14 7) s κ = goL P call hint14 o14_7 [1, 3] s κ := go_rg rg14_7 s κ
attribute [go_sem] o14_7
@[go_sem] theorem gg14_10 (s : St) (κ : Ex × St → Option ρ) : go P hints hint14 (r14 10) s κ = goL P call hint14 o14_10 [1, 4] s κ := go_rg rg14_10 s κ
attribute [go_sem] o14_10
@[go_sem] theorem gg14_11 (s : St) (κ : Ex × St → Option ρ) : go P hints hint14 (r14 11) s κ = goL P call hint14 o14_11 [1, 4, 36] s κ := go_rg rg14_11 s κ
attribute [go_sem] o14_11
@[go_sem] theorem gg14_13 (s : St) (κ : Ex × St → Option ρ) : go P hints hint14 (r14 13) s κ = goL P call hint14 o14_13 [1, 4, 5] s κ := go_rg rg14_13 s κ
attribute [go_sem] o14_13
@[go_sem] theorem gg14_14 (s : St) (κ : Ex × St → Option ρ) : go P hints hint14 (r14 14) s κ = goL P call hint14 o14_14 [1, 4, 5, 46] s κ := go_rg rg14_14 s κ
attribute [go_sem] o14_14
@[go_sem] theorem gg14_16 (s : St) (κ : Ex × St → Option ρ) : go P hints hint14 (r14 16) s κ = goR P call hint14 o14_16 [1, 4, 5, 60] (s, hist0 s) [] κ := go_rgD rg14_16 s κ
attribute [go_sem] o14_16
@[go_sem] theorem gg14_17 (s : St) (κ : Ex × St → Option ρ) : go P hints hint14 (r14 17) s κ = goL P call hint14 o14_17 [2] s κ := go_rg rg14_17 s κ
attribute [go_sem] o14_17
@[go_sem] theorem gg14_15 (s : St) (κ : Ex × St → Option ρ) : go P hints hint14 (r14 15) s κ = goL P call hint14 o14_15 [1, 4, 5] s κ := go_rg rg14_15 s κ
attribute [go_sem] o14_15
@[go_sem] theorem gg14_12 (s : St) (κ : Ex × St → Option ρ) : go P hints hint14 (r14 12) s κ = goL P call hint14 o14_12 [1, 4] s κ := go_rg rg14_12 s κ
attribute [go_sem] o14_12
@[go_sem] theorem gg14_18 (s : St) (κ : Ex × St → Option ρ) : go P hints hint14 (r14 18) s κ = goL P call hint14 o14_18 [2] s κ := go_rg rg14_18 s κ
attribute [go_sem] o14_18
@[go_sem] theorem gg15_0 (s : St) (κ : Ex × St → Option ρ) : go P hints hint15 (r15 0) s κ = goL P call hint15 o15_0 [1] s κ := go_rg rg15_0 s κ
attribute [go_sem] o15_0
@[go_sem] theorem gg15_1 (s : St) (κ : Ex × St → Option ρ) : go P hints hint15 (r15 1) s κ = goL P call hint15 o15_1 [1, 3] s κ := go_rg rg15_1 s κ
attribute [go_sem] o15_1
@[go_sem] theorem gg15_2 (s : St) (κ : Ex × St → Option ρ) : go P hints hint15 (r15 2) s κ = goL P call hint15 o15_2 [1, 3, 12] s κ := go_rg rg15_2 s κ
attribute [go_sem] o15_2
@[go_sem] theorem gg15_3 (s : St) (κ : Ex × St → Option ρ) : go P hints hint15 (r15 3) s κ = goL P call hint15 o15_3 [2] s κ := go_rg rg15_3 s κ
attribute [go_sem] o15_3
@[go_sem] theorem gg15_4 (s : St) (κ : Ex × St → Option ρ) : go P hints hint15 (r15 4) s κ = goL P call hint15 o15_4 [1, 17] s κ := go_rg rg15_4 s κ
attribute [go_sem] o15_4
@[go_sem] theorem gg15_5 (s : St) (κ : Ex × St → Option ρ) : go P hints hint15 (r15 5) s κ = goL P call hint15 o15_5 [2] s κ := go_rg rg15_5 s κ
attribute [go_sem] o15_5
@[go_sem] theorem gg15_6 (s : St) (κ : Ex × St → Option ρ) : go P hints hint15 (r15 6) s κ = goL P call hint15 o15_6 [1, 19, 20, 21] s κ := go_rg rg15_6 s κ
attribute [go_sem] o15_6
@[go_sem] theorem gg15_7 (s : St) (κ : Ex × St → Option ρ) : go P hints hint15 (r15 7) s κ = goL P call hint15 o15_7 [1, 19, 20, 21, 22] s κ := go_rg rg15_7 s κ
attribute [go_sem] o15_7
@[go_sem] theorem gg15_8 (s : St) (κ : Ex × St → Option ρ) : go P hints hint15 (r15 8) s κ = goL P call hint15 o15_8 [1, 5, 19, 20, 21] s κ := go_rg rg15_8 s κ
attribute [go_sem] o15_8
@[go_sem] theorem gg15_9 (s : St) (κ : Ex × St → Option ρ) : go P hints hint15 (r15 9) s κ = goL P call hint15 o15_9 [1, 19, 20, 21, 28] s κ := go_rg rg15_9 s κ
attribute [go_sem] o15_9
@[go_sem] theorem gg15_10 (s : St) (κ : Ex × St → Option ρ) : go P hints hint15 (r15 10) s κ = goL P call hint15 o15_10 [2] s κ := go_rg rg15_10 s κ
attribute [go_sem] o15_10
@[go_sem] theorem gg15_11 (s : St) (κ : Ex × St → Option ρ) : go P hints hint15 (r15 11) s κ = goL P call hint15 o15_11 [1, 19, 20, 21] s κ := go_rg rg15_11 s κ
attribute [go_sem] o15_11
@[go_sem] theorem gg15_12 (s : St) (κ : Ex × St → Option ρ) : go P hints hint15 (r15 12) s κ = goL P call hint15 o15_12 [1, 31, 32, 33] s κ := go_rg rg15_12 s κ
attribute [go_sem] o15_12
@[go_sem] theorem gg15_13 (s : St) (κ : Ex × St → Option ρ) : go P hints hint15 (r15 13) s κ = goL P call hint15 o15_13 [1, 31, 32, 33, 34] s κ := go_rg rg15_13 s κ
attribute [go_sem] o15_13
@[go_sem] theorem gg15_14 (s : St) (κ : Ex × St → Option ρ) : go P hints hint15 (r15 14) s κ = goL P call hint15 o15_14 [1, 7, 31, 32, 33] s κ := go_rg rg15_14 s κ
attribute [go_sem] o15_14
@[go_sem] theorem gg15_15 (s : St) (κ : Ex × St → Option ρ) : go P hints hint15 (r15 15) s κ = goL P call hint15 o15_15 [1, 31, 32, 33, 39] s κ := go_rg rg15_15 s κ
attribute [go_sem] o15_15
@[go_sem] theorem gg15_16 (s : St) (κ : Ex × St → Option ρ) : go P hints hint15 (r15 16) s κ = goL P call hint15 o15_16 [2] s κ := go_rg rg15_16 s κ
attribute [go_sem] o15_16
@[go_sem] theorem gg15_17 (s : St) (κ : Ex × St → Option ρ) : go P hints hint15 (r15 17) s κ = goL P call hint15 o15_17 [1, 31, 32, 33] s κ := go_rg rg15_17 s κ
attribute [go_sem] o15_17
@[go_sem] theorem gg15_18 (s : St) (κ : Ex × St → Option ρ) : go P hints hint15 (r15 18) s κ = goL P call hint15 o15_18 [2] s κ := go_rg rg15_18 s κ
attribute [go_sem] o15_18
@[go_sem] theorem gg16_0 (s : St) (κ : Ex × St → Option ρ) : go P hints hint16 (r16 0) s κ = goL P call hint16 o16_0 [1, 2, 3] s κ := go_rg rg16_0 s κ
attribute [go_sem] o16_0
@[go_sem] theorem gg16_1 (s : St) (κ : Ex × St → Option ρ) : go P hints hint16 (r16 1) s κ = goL P call hint16 o16_1 [1, 2, 14] s κ := go_rg rg16_1 s κ
attribute [go_sem] o16_1
@[go_sem] theorem gg16_2 (s : St) (κ : Ex × St → Option ρ) : go P hints hint16 (r16 2) s κ = goL P call hint16 o16_2 [6] s κ := go_rg rg16_2 s κ
attribute [go_sem] o16_2
@[go_sem] theorem gg16_3 (s : St) (κ : Ex × St → Option ρ) : go P hints hint16 (r16 3) s κ = goL P call hint16 o16_3 [2, 15, 16, 17] s κ := go_rg rg16_3 s κ
attribute [go_sem] o16_3
@[go_sem] theorem gg16_4 (s : St) (κ : Ex × St → Option ρ) : go P hints hint16 (r16 4) s κ = goL P call hint16 o16_4 [2, 15, 16, 17, 18] s κ := go_rg rg16_4 s κ
attribute [go_sem] o16_4
@[go_sem] theorem gg16_5 (s : St) (κ : Ex × St → Option ρ) : go P hints hint16 (r16 5) s κ = goL P call hint16 o16_5 [2, 8, 15, 16, 17] s κ := go_rg rg16_5 s κ
attribute [go_sem] o16_5
@[go_sem] theorem gg16_6 (s : St) (κ : Ex × St → Option ρ) : go P hints hint16 (r16 6) s κ = goL P call hint16 o16_6 [2, 15, 16, 17, 25] s κ := go_rg rg16_6 s κ
attribute [go_sem] o16_6
@[go_sem] theorem gg16_7 (s : St) (κ : Ex × St → Option ρ) : go P hints hint16 (r16 7) s κ = goL P call hint16 o16_7 [6] s κ := go_rg rg16_7 s κ
attribute [go_sem] o16_7
@[go_sem] theorem gg16_8 (s : St) (κ : Ex × St → Option ρ) : go P hints hint16 (r16 8) s κ = goL P call hint16 o16_8 [2, 15, 16, 17] s κ := go_rg rg16_8 s κ
attribute [go_sem] o16_8
@[go_sem] theorem gg16_9 (s : St) (κ : Ex × St → Option ρ) : go P hints hint16 (r16 9) s κ = goL P call hint16 o16_9 [6] s κ := go_rg rg16_9 s κ
attribute [go_sem] o16_9
@[go_sem] theorem gg17_0 (s : St) (κ : Ex × St → Option ρ) : go P hints hint17 (r17 0) s κ = goL P call hint17 o17_0 [0, 1] s κ := go_rg rg17_0 s κ
attribute [go_sem] o17_0
@[go_sem] theorem gg17_1 (s : St) (κ : Ex × St → Option ρ) : go P hints hint17 (r17 1) s κ = goL P call hint17 o17_1 [0, 1, 5] s κ := go_rg rg17_1 s κ
attribute [go_sem] o17_1
@[go_sem] theorem gg17_2 (s : St) (κ : Ex × St → Option ρ) : go P hints hint17 (r17 2) s κ = goL P call hint17 o17_2 [0, 5, 9, 10, 11] s κ := go_rg rg17_2 s κ
attribute [go_sem] o17_2
@[go_sem] theorem gg17_3 (s : St) (κ : Ex × St → Option ρ) : go P hints hint17 (r17 3) s κ = goL P call hint17 o17_3 [0, 5, 9, 10, 11, 12] s κ := go_rg rg17_3 s κ
attribute [go_sem] o17_3
@[go_sem] theorem gg17_4 (s : St) (κ : Ex × St → Option ρ) : go P hints hint17 (r17 4) s κ = goL P call hint17 o17_4 [0, 5, 7, 9, 10, 11] s κ := go_rg rg17_4 s κ
attribute [go_sem] o17_4
@[go_sem] theorem gg17_5 (s : St) (κ : Ex × St → Option ρ) : go P hints hint17 (r17 5) s κ = goL P call hint17 o17_5 [0, 5, 8, 9, 10, 11] s κ := go_rg rg17_5 s κ
attribute [go_sem] o17_5
@[go_sem] theorem gg17_6 (s : St) (κ : Ex × St → Option ρ) : go P hints hint17 (r17 6) s κ = goL P call hint17 o17_6 [0, 5, 8, 9, 10, 11, 22] s κ := go_rg rg17_6 s κ
attribute [go_sem] o17_6
@[go_sem] theorem gg17_7 (s : St) (κ : Ex × St → Option ρ) : go P hints hint17 (r17 7) s κ = goL P call hint17 o17_7 [0, 5, 9, 10, 11] s κ := go_rg rg17_7 s κ
attribute [go_sem] o17_7
@[go_sem] theorem gg17_8 (s : St) (κ : Ex × St → Option ρ) : go P hints hint17 (r17 8) s κ = goL P call hint17 o17_8 [0, 5, 9, 10, 11] s κ := go_rg rg17_8 s κ
attribute [go_sem] o17_8
@[go_sem] theorem gg17_9 (s : St) (κ : Ex × St → Option ρ) : go P hints hint17 (r17 9) s κ = goL P call hint17 o17_9 [4] s κ := go_rg rg17_9 s κ
attribute [go_sem] o17_9
@[go_sem] theorem gg18_0 (s : St) (κ : Ex × St → Option ρ) : go P hints hint18 (r18 0) s κ = goL P call hint18 o18_0 [0, 3] s κ := go_rg rg18_0 s κ
attribute [go_sem] o18_0
@[go_sem] theorem gg18_1 (s : St) (κ : Ex × St → Option ρ) : go P hints hint18 (r18 1) s κ = goR P call hint18 o18_1 [0, 3, 5, 6] (s, hist0 s) [] κ := go_rgD rg18_1 s κ
attribute [go_sem] o18_1
@[go_sem] theorem gg18_2 (s : St) (κ : Ex × St → Option ρ) : go P hints hint18 (r18 2) s κ = goL P call hint18 o18_2 [0, 3, 5, 17] s κ := go_rg rg18_2 s κ
attribute [go_sem] o18_2
@[go_sem] theorem gg18_3 (s : St) (κ : Ex × St → Option ρ) : go P hints hint18 (r18 3) s κ = goL P call hint18 o18_3 [0, 3, 5] s κ := go_rg rg18_3 s κ
attribute [go_sem] o18_3
@[go_sem] theorem gg18_4 (s : St) (κ : Ex × St → Option ρ) : go P hints hint18 (r18 4) s κ = goR P call hint18 o18_4 [0, 3, 5] (s, hist0 s) [] κ := go_rgD rg18_4 s κ
attribute [go_sem] o18_4
@[go_sem] theorem gg18_5 (s : St) (κ : Ex × St → Option ρ) : go P hints hint18 (r18 5) s κ = goR P call hint18 o18_5 [5] (s, hist0 s) [] κ := go_rgD rg18_5 s κ
attribute [go_sem] o18_5
@[go_sem] theorem gg18_6 (s : St) (κ : Ex × St → Option ρ) : go P hints hint18 (r18 6) s κ = goL P call hint18 o18_6 [4] s κ := go_rg rg18_6 s κ
attribute [go_sem] o18_6
@[go_sem] theorem gg19_0 (s : St) (κ : Ex × St → Option ρ) : go P hints hint19 (r19 0) s κ = goL P call hint19 o19_0 [0] s κ := go_rg rg19_0 s κ
attribute [go_sem] o19_0
@[go_sem] theorem gg19_1 (s : St) (κ : Ex × St → Option ρ) : go P hints hint19 (r19 1) s κ = goL P call hint19 o19_1 [0, 4] s κ := go_rg rg19_1 s κ
attribute [go_sem] o19_1
@[go_sem] theorem gg19_2 (s : St) (κ : Ex × St → Option ρ) : go P hints hint19 (r19 2) s κ = goL P call hint19 o19_2 [2] s κ := go_rg rg19_2 s κ
attribute [go_sem] o19_2
@[go_sem] theorem gg19_3 (s : St) (κ : Ex × St → Option ρ) : go P hints hint19 (r19 3) s κ = goL P call hint19 o19_3 [2] s κ := go_rg rg19_3 s κ
attribute [go_sem] o19_3
@[go_sem] theorem gg20_0 (s : St) (κ : Ex × St → Option ρ) : go P hints hint20 (r20 0) s κ = goL P call hint20 o20_0 [0, 1, 2] s κ := go_rg rg20_0 s κ
attribute [go_sem] o20_0
@[go_sem] theorem gg20_1 (s : St) (κ : Ex × St → Option ρ) : go P hints hint20 (r20 1) s κ = goL P call hint20 o20_1 [0, 2, 11] s κ := go_rg rg20_1 s κ
attribute [go_sem] o20_1
@[go_sem] theorem gg20_2 (s : St) (κ : Ex × St → Option ρ) : go P hints hint20 (r20 2) s κ = goL P call hint20 o20_2 [6] s κ := go_rg rg20_2 s κ
attribute [go_sem] o20_2
@[go_sem] theorem gg20_3 (s : St) (κ : Ex × St → Option ρ) : go P hints hint20 (r20 3) s κ = goL P call hint20 o20_3 [0, 2, 7] s κ := go_rg rg20_3 s κ
attribute [go_sem] o20_3
@[go_sem] theorem gg20_4 (s : St) (κ : Ex × St → Option ρ) : go P hints hint20 (r20 4) s κ = goL P call hint20 o20_4 [0, 2, 7, 15] s κ := go_rg rg20_4 s κ
attribute [go_sem] o20_4
@[go_sem] theorem gg20_6 (s : St) (κ : Ex × St → Option ρ) : go P hints hint20 (r20 6) s κ = goL P call hint20 o20_6 [0, 2, 7, 24] s κ := go_rg rg20_6 s κ
attribute [go_sem] o20_6
@[go_sem] theorem gg20_7 (s : St) (κ : Ex × St → Option ρ) : go P hints hint20 (r20 7) s κ = goL P call hint20 o20_7 [6] s κ := go_rg rg20_7 s κ
attribute [go_sem] o20_7
@[go_sem] theorem gg20_5 (s : St) (κ : Ex × St → Option ρ) : go P hints hint20 (r20 5) s κ = goL P call hint20 o20_5 [0, 2, 7] s κ := go_rg rg20_5 s κ
attribute [go_sem] o20_5
@[go_sem] theorem gg20_8 (s : St) (κ : Ex × St → Option ρ) : go P hints hint20 (r20 8) s κ = goL P call hint20 o20_8 [6] s κ := go_rg rg20_8 s κ
attribute [go_sem] o20_8
@[go_sem] theorem gg21_0 (s : St) (κ : Ex × St → Option ρ) : go P hints hint21 (r21 0) s κ = goL P call hint21 o21_0 [0, 3] s κ := go_rg rg21_0 s κ
attribute [go_sem] o21_0
@[go_sem] theorem gg21_1 (s : St) (κ : Ex × St → Option ρ) : go P hints hint21 (r21 1) s κ = goL P call hint21 o21_1 [0, 3, 5] s κ := go_rg rg21_1 s κ
attribute [go_sem] o21_1
@[go_sem] theorem gg21_2 (s : St) (κ : Ex × St → Option ρ) : go P hints hint21 (r21 2) s κ = goL P call hint21 o21_2 [0, 3, 5, 9] s κ := go_rg rg21_2 s κ
attribute [go_sem] o21_2
@[go_sem] theorem gg21_4 (s : St) (κ : Ex × St → Option ρ) : go P hints hint21 (r21 4) s κ = goL P call hint21 o21_4 [0, 3, 5, 17] s κ := go_rg rg21_4 s κ
attribute [go_sem] o21_4
@[go_sem] theorem gg21_5 (s : St) (κ : Ex × St → Option ρ) : go P hints hint21 (r21 5) s κ = goL P call hint21 o21_5 [4] s κ := go_rg rg21_5 s κ
attribute [go_sem] o21_5
@[go_sem] theorem gg21_3 (s : St) (κ : Ex × St → Option ρ) : go P hints hint21 (r21 3) s κ = goL P call hint21 o21_3 [0, 3, 5] s κ := go_rg rg21_3 s κ
attribute [go_sem] o21_3
@[go_sem] theorem gg21_6 (s : St) (κ : Ex × St → Option ρ) : go P hints hint21 (r21 6) s κ = goL P call hint21 o21_6 [4] s κ := go_rg rg21_6 s κ
attribute [go_sem] o21_6
@[go_sem] theorem gg22_0 (s : St) (κ : Ex × St → Option ρ) : go P hints hint22 (r22 0) s κ = goL P call hint22 o22_0 [0] s κ := go_rg rg22_0 s κ
attribute [go_sem] o22_0
@[go_sem] theorem gg22_1 (s : St) (κ : Ex × St → Option ρ) : go P hints hint22 (r22 1) s κ = goL P call hint22 o22_1 [0, 4] s κ := go_rg rg22_1 s κ
attribute [go_sem] o22_1
@[go_sem] theorem gg22_2 (s : St) (κ : Ex × St → Option ρ) : go P hints hint22 (r22 2) s κ = goL P call hint22 o22_2 [2] s κ := go_rg rg22_2 s κ
attribute [go_sem] o22_2
@[go_sem] theorem gg22_3 (s : St) (κ : Ex × St → Option ρ) : go P hints hint22 (r22 3) s κ = goL P call hint22 o22_3 [2] s κ := go_rg rg22_3 s κ
attribute [go_sem] o22_3
@[go_sem] theorem gg24_0 (s : St) (κ : Ex × St → Option ρ) : go P hints hint24 (r24 0) s κ = goL P call hint24 o24_0 [1, 2] s κ := go_rg rg24_0 s κ
attribute [go_sem] o24_0
@[go_sem] theorem gg24_1 (s : St) (κ : Ex × St → Option ρ) : go P hints hint24 (r24 1) s κ = goL P call hint24 o24_1 [4] s κ := go_rg rg24_1 s κ
attribute [go_sem] o24_1
@[go_sem] theorem gg25_0 (s : St) (κ : Ex × St → Option ρ) : go P hints hint25 (r25 0) s κ = goL P call hint25 o25_0 [1, 2] s κ := go_rg rg25_0 s κ
attribute [go_sem] o25_0
@[go_sem] theorem gg25_1 (s : St) (κ : Ex × St → Option ρ) : go P hints hint25 (r25 1) s κ = goL P call hint25 o25_1 [4] s κ := go_rg rg25_1 s κ
attribute [go_sem] o25_1
@[go_sem] theorem gg26_0 (s : St) (κ : Ex × St → Option ρ) : go P hints hint26 (r26 0) s κ = goL P call hint26 o26_0 [0, 1] s κ := go_rg rg26_0 s κ
attribute [go_sem] o26_0
@[go_sem] theorem gg26_1 (s : St) (κ : Ex × St → Option ρ) : go P hints hint26 (r26 1) s κ = goL P call hint26 o26_1 [4] s κ := go_rg rg26_1 s κ
attribute [go_sem] o26_1
@[go_sem] theorem gg27_0 (s : St) (κ : Ex × St → Option ρ) : go P hints hint27 (r27 0) s κ = goL P call hint27 o27_0 [1, 2] s κ := go_rg rg27_0 s κ
attribute [go_sem] o27_0
@[go_sem] theorem gg27_1 (s : St) (κ : Ex × St → Option ρ) : go P hints hint27 (r27 1) s κ = goL P call hint27 o27_1 [3] s κ := go_rg rg27_1 s κ
attribute [go_sem] o27_1
@[go_sem] theorem gg28_0 (s : St) (κ : Ex × St → Option ρ) : go P hints hint28 (r28 0) s κ = goL P call hint28 o28_0 [0, 1] s κ := go_rg rg28_0 s κ
attribute [go_sem] o28_0
@[go_sem] theorem gg28_1 (s : St) (κ : Ex × St → Option ρ) : go P hints hint28 (r28 1) s κ = goL P call hint28 o28_1 [0, 1, 7, 8] s κ := go_rg rg28_1 s κ
attribute [go_sem] o28_1
@[go_sem] theorem gg28_2 (s : St) (κ : Ex × St → Option ρ) : go P hints hint28 (r28 2) s κ = goL P call hint28 o28_2 [0, 1, 7, 8, 9] s κ := go_rg rg28_2 s κ
attribute [go_sem] o28_2
@[go_sem] theorem gg28_3 (s : St) (κ : Ex × St → Option ρ) : go P hints hint28 (r28 3) s κ = goL P call hint28 o28_3 [0, 1, 5, 7, 8] s κ := go_rg rg28_3 s κ
attribute [go_sem] o28_3
@[go_sem] theorem gg28_4 (s : St) (κ : Ex × St → Option ρ) : go P hints hint28 (r28 4) s κ = goL P call hint28 o28_4 [0, 1, 5, 7, 8, 16] s κ := go_rg rg28_4 s κ
attribute [go_sem] o28_4
@[go_sem] theorem gg28_5 (s : St) (κ : Ex × St → Option ρ) : go P hints hint28 (r28 5) s κ = goL P call hint28 o28_5 [4] s κ := go_rg rg28_5 s κ
attribute [go_sem] o28_5
@[go_sem] theorem gg28_6 (s : St) (κ : Ex × St → Option ρ) : go P hints hint28 (r28 6) s κ = goL P call hint28 o28_6 [0, 1, 7, 8] s κ := go_rg rg28_6 s κ
attribute [go_sem] o28_6
@[go_sem] theorem gg28_7 (s : St) (κ : Ex × St → Option ρ) : go P hints hint28 (r28 7) s κ = goL P call hint28 o28_7 [4] s κ := go_rg rg28_7 s κ
attribute [go_sem] o28_7
@[go_sem] theorem gb4_0 (s : St) (κ : Ex × St → Option ρ) : go P hints hint4 (loopBody L4_0) s κ = go P hints hint4 (.seq (r4 8) (.seq (.cond (.tmp 80) .skip (.exit 0)) (.seq (.block 1 (.seq (r4 9) (.seq (r4 10) (.cond (.tmp 87) (.seq (r4 11) .ret) .skip)))) (r4 12)))) s κ := rfl
@[go_sem] theorem gb4_1 (s : St) (κ : Ex × St → Option ρ) : go P hints hint4 (loopBody L4_1) s κ = go P hints hint4 (.seq (r4 18) (.seq (.cond (.tmp 102) .skip (.exit 4)) (.seq (.block 5 (.seq (r4 19) (.seq (.seq (r4 20) (.cond (.tmp 111) (.seq (r4 21) .ret) .skip)) (.seq (.seq (r4 22) (.cond (.tmp 143) (.seq (r4 23) .ret) .skip)) (.seq (r4 24) (.seq (r4 25) (r4 26))))))) (r4 27)))) s κ := rfl
@[go_sem] theorem gb4_2 (s : St) (κ : Ex × St → Option ρ) : go P hints hint4 (loopBody L4_2) s κ = go P hints hint4 (.seq (r4 16) (.seq (.cond (.tmp 98) .skip (.exit 2)) (.seq (.block 3 (.seq (r4 17) (.block 4 L4_1))) (r4 28)))) s κ := rfl
@[go_sem] theorem gb4_3 (s : St) (κ : Ex × St → Option ρ) : go P hints hint4 (loopBody L4_3) s κ = go P hints hint4 (.seq (r4 40) (.seq (.cond (.tmp 241) .skip (.exit 10)) (.seq (.block 11 (.seq (r4 41) (r4 42))) (r4 43)))) s κ := rfl
@[go_sem] theorem gb4_4 (s : St) (κ : Ex × St → Option ρ) : go P hints hint4 (loopBody L4_4) s κ = go P hints hint4 (.seq (r4 36) (.seq (.cond (.tmp 232) .skip (.exit 8)) (.seq (.block 9 (.seq (r4 37) (.seq (r4 38) (.seq (.seq (r4 39) (.block 10 L4_3)) (.seq (r4 44) (.cond (.tmp 260) (.seq (r4 45) .ret) .skip)))))) (r4 46)))) s κ := rfl
@[go_sem] theorem gb4_5 (s : St) (κ : Ex × St → Option ρ) : go P hints hint4 (loopBody L4_5) s κ = go P hints hint4 (.seq (.seq (r4 31) (.cond (.tmp 190) .skip (.exit 6))) (.seq (.block 7 (.seq (.seq (r4 33) (.cond (.tmp 214) (.exit 7) .skip)) (.seq (r4 34) (.seq (.seq (r4 35) (.block 8 L4_4)) (.exit 6))))) (r4 32))) s κ := rfl
@[go_sem] theorem gb6_0 (s : St) (κ : Ex × St → Option ρ) : go P hints hint6 (loopBody L6_0) s κ = go P hints hint6 (.seq (r6 3) (.seq (.cond (.tmp 19) .skip (.exit 0)) (.seq (.block 1 (.seq (r6 4) (r6 5))) (r6 6)))) s κ := rfl
@[go_sem] theorem gb8_0 (s : St) (κ : Ex × St → Option ρ) : go P hints hint8 (loopBody L8_0) s κ = go P hints hint8 (.seq (r8 16) (.seq (.cond (.tmp 76) .skip (.exit 3)) (.seq (.block 4 (.seq (r8 17) (r8 18))) (r8 19)))) s κ := rfl
@[go_sem] theorem gb8_1 (s : St) (κ : Ex × St → Option ρ) : go P hints hint8 (loopBody L8_1) s κ = go P hints hint8 (.seq (.seq (r8 11) (.cond (.tmp 58) .skip (.exit 1))) (.seq (.block 2 (.seq (r8 13) (.seq (r8 14) (.seq (.seq (r8 15) (.block 3 L8_0)) (.seq (.seq (r8 20) (.cond (.tmp 99) (.seq (r8 21) .ret) .skip)) (.seq (r8 22) (r8 23))))))) (r8 12))) s κ := rfl
@[go_sem] theorem gb8_2 (s : St) (κ : Ex × St → Option ρ) : go P hints hint8 (loopBody L8_2) s κ = go P hints hint8 (.seq (r8 31) (.seq (.cond (.tmp 148) .skip (.exit 7)) (.seq (.block 8 (.seq (r8 32) (r8 33))) (r8 34)))) s κ := rfl
@[go_sem] theorem gb8_3 (s : St) (κ : Ex × St → Option ρ) : go P hints hint8 (loopBody L8_3) s κ = go P hints hint8 (.seq (r8 27) (.seq (.cond (.tmp 129) .skip (.exit 5)) (.seq (.block 6 (.seq (r8 28) (.seq (r8 29) (.seq (r8 30) (.block 7 L8_2))))) (r8 35)))) s κ := rfl
@[go_sem] theorem gb8_4 (s : St) (κ : Ex × St → Option ρ) : go P hints hint8 (loopBody L8_4) s κ = go P hints hint8 (.seq (r8 37) (.seq (.cond (.tmp 181) .skip (.exit 9)) (.seq (.block 10 (.seq (r8 38) (r8 39))) (r8 40)))) s κ := rfl
@[go_sem] theorem gb9_0 (s : St) (κ : Ex × St → Option ρ) : go P hints hint9 (loopBody L9_0) s κ = go P hints hint9 (.seq (.seq (r9 11) (.cond (.tmp 49) .skip (.exit 0))) (.seq (.block 1 (.seq (r9 13) (.seq (r9 14) (.cond (.tmp 61) (.seq (r9 15) (r9 16)) .skip)))) (r9 12))) s κ := rfl
@[go_sem] theorem gb9_1 (s : St) (κ : Ex × St → Option ρ) : go P hints hint9 (loopBody L9_1) s κ = go P hints hint9 (.seq (.seq (r9 26) (.cond (.tmp 95) .skip (.exit 4))) (.seq (.block 5 (.seq (r9 28) (.seq (r9 29) (.seq (.seq (r9 30) (.cond (.tmp 115) (r9 31) .skip)) (r9 32))))) (r9 27))) s κ := rfl
@[go_sem] theorem gb9_2 (s : St) (κ : Ex × St → Option ρ) : go P hints hint9 (loopBody L9_2) s κ = go P hints hint9 (.seq (.seq (r9 19) (.cond (.tmp 76) .skip (.exit 2))) (.seq (.block 3 (.seq (.seq (r9 21) (.cond (.tmp 81) (.seq (r9 22) .ret) .skip)) (.seq (r9 23) (.seq (r9 24) (.seq (.seq (r9 25) (.block 4 L9_1)) (.seq (r9 33) (.seq (r9 34) (r9 35)))))))) (r9 20))) s κ := rfl
@[go_sem] theorem gb9_3 (s : St) (κ : Ex × St → Option ρ) : go P hints hint9 (loopBody L9_3) s κ = go P hints hint9 (.seq (.seq (r9 42) (.cond (.tmp 158) .skip (.exit 8))) (.seq (.block 9 (r9 44)) (r9 43))) s κ := rfl
@[go_sem] theorem gb9_4 (s : St) (κ : Ex × St → Option ρ) : go P hints hint9 (loopBody L9_4) s κ = go P hints hint9 (.seq (.seq (r9 38) (.cond (.tmp 152) .skip (.exit 6))) (.seq (.block 7 (.seq (r9 40) (.seq (.seq (r9 41) (.block 8 L9_3)) (r9 45)))) (r9 39))) s κ := rfl
@[go_sem] theorem gb13_0 (s : St) (κ : Ex × St → Option ρ) : go P hints hint13 (loopBody L13_0) s κ = go P hints hint13 (.seq (r13 6) (.seq (.cond (.tmp 29) .skip (.exit 2)) (.seq (.block 3 (.seq (r13 7) (.seq (r13 8) (.cond (.tmp 57) (r13 9) .skip)))) (r13 10)))) s κ := rfl
@[go_sem] theorem gb13_1 (s : St) (κ : Ex × St → Option ρ) : go P hints hint13 (loopBody L13_1) s κ = go P hints hint13 (.seq (r13 3) (.seq (.cond (.tmp 22) .skip (.exit 0)) (.seq (.block 1 (.seq (r13 4) (.seq (r13 5) (.block 2 L13_0)))) (r13 11)))) s κ := rfl
@[go_sem] theorem gb14_0 (s : St) (κ : Ex × St → Option ρ) : go P hints hint14 (loopBody L14_0) s κ = go P hints hint14 (.seq (.seq (r14 6) (.cond (.tmp 21) .skip (.exit 0))) (.seq (.block 1 (.seq (r14 8) (.cond (.tmp 31) (.seq (r14 9) .ret) .skip))) (r14 7))) s κ := rfl
@[go_sem] theorem gb14_1 (s : St) (κ : Ex × St → Option ρ) : go P hints hint14 (loopBody L14_1) s κ = go P hints hint14 (.seq (.seq (r14 14) (.cond (.tmp 46) .skip (.exit 4))) (.seq (.block 5 (.seq (r14 16) (.cond (.tmp 60) (.seq (r14 17) .ret) .skip))) (r14 15))) s κ := rfl
@[go_sem] theorem gb14_2 (s : St) (κ : Ex × St → Option ρ) : go P hints hint14 (loopBody L14_2) s κ = go P hints hint14 (.seq (.seq (r14 11) (.cond (.tmp 36) .skip (.exit 2))) (.seq (.block 3 (.seq (r14 13) (.block 4 L14_1))) (r14 12))) s κ := rfl
@[go_sem] theorem gb15_0 (s : St) (κ : Ex × St → Option ρ) : go P hints hint15 (loopBody L15_0) s κ = go P hints hint15 (.seq (r15 7) (.seq (.cond (.tmp 22) .skip (.exit 0)) (.seq (.block 1 (.seq (r15 8) (.seq (r15 9) (.cond (.tmp 28) (.seq (r15 10) .ret) .skip)))) (r15 11)))) s κ := rfl
@[go_sem] theorem gb15_1 (s : St) (κ : Ex × St → Option ρ) : go P hints hint15 (loopBody L15_1) s κ = go P hints hint15 (.seq (r15 13) (.seq (.cond (.tmp 34) .skip (.exit 2)) (.seq (.block 3 (.seq (r15 14) (.seq (r15 15) (.cond (.tmp 39) (.seq (r15 16) .ret) .skip)))) (r15 17)))) s κ := rfl
@[go_sem] theorem gb16_0 (s : St) (κ : Ex × St → Option ρ) : go P hints hint16 (loopBody L16_0) s κ = go P hints hint16 (.seq (r16 4) (.seq (.cond (.tmp 18) .skip (.exit 0)) (.seq (.block 1 (.seq (r16 5) (.seq (r16 6) (.cond (.tmp 25) (.seq (r16 7) .ret) .skip)))) (r16 8)))) s κ := rfl
@[go_sem] theorem gb17_0 (s : St) (κ : Ex × St → Option ρ) : go P hints hint17 (loopBody L17_0) s κ = go P hints hint17 (.seq (r17 3) (.seq (.cond (.tmp 12) .skip (.exit 0)) (.seq (.block 1 (.seq (r17 4) (.seq (r17 5) (.seq (r17 6) (.cond (.tmp 22) (r17 7) .skip))))) (r17 8)))) s κ := rfl
@[go_sem] theorem gb20_0 (s : St) (κ : Ex × St → Option ρ) : go P hints hint20 (loopBody L20_0) s κ = go P hints hint20 (.seq (.seq (r20 4) (.cond (.tmp 15) .skip (.exit 0))) (.seq (.block 1 (.seq (r20 6) (.cond (.tmp 24) (.seq (r20 7) .ret) .skip))) (r20 5))) s κ := rfl
@[go_sem] theorem gb21_0 (s : St) (κ : Ex × St → Option ρ) : go P hints hint21 (loopBody L21_0) s κ = go P hints hint21 (.seq (.seq (r21 2) (.cond (.tmp 9) .skip (.exit 0))) (.seq (.block 1 (.seq (r21 4) (.cond (.tmp 17) (.seq (r21 5) .ret) .skip))) (r21 3))) s κ := rfl
@[go_sem] theorem gb28_0 (s : St) (κ : Ex × St → Option ρ) : go P hints hint28 (loopBody L28_0) s κ = go P hints hint28 (.seq (r28 2) (.seq (.cond (.tmp 9) .skip (.exit 0)) (.seq (.block 1 (.seq (r28 3) (.seq (r28 4) (.cond (.tmp 16) (.seq (r28 5) .ret) .skip)))) (r28 6)))) s κ := rfl
theorem ge4 (ds : List D) (H : List Ob) (hl : ds.length = 3) : call 4 ds H = go P hints hint4 (.seq (r4 0) (.seq (r4 1) (.seq (r4 2) (.seq (.seq (r4 3) (.cond (.tmp 56) (.seq (r4 4) .ret) .skip)) (.seq (.seq (r4 5) (.cond (.tmp 76) (.seq (r4 6) .ret) .skip)) (.seq (.seq (r4 7) (.block 0 L4_0)) (.seq (r4 13) (.seq (r4 14) (.seq (.seq (r4 15) (.block 2 L4_2)) (.seq (r4 29) (.seq (.seq (r4 30) (.block 6 L4_5)) (.seq (r4 47) .ret)))))))))))) (enter ds H) (leaveR P false [.tmp 6] H.length) := eq4 ds H hl
theorem ge6 (ds : List D) (H : List Ob) (hl : ds.length = 2) : call 6 ds H = go P hints hint6 (.seq (r6 0) (.seq (r6 1) (.seq (.seq (r6 2) (.block 0 L6_0)) (.seq (r6 7) .ret)))) (enter ds H) (leaveR P false [.tmp 4] H.length) := eq6 ds H hl
theorem ge8 (ds : List D) (H : List Ob) (hl : ds.length = 3) : call 8 ds H = go P hints hint8 (.seq (r8 0) (.seq (.seq (r8 1) (.seq (r8 2) (.cond (.tmp 29) (.seq (r8 3) .ret) .skip))) (.seq (.block 0 (.seq (r8 4) (.cond (.tmp 32) (.seq (r8 5) .ret) (.seq (r8 6) (.cond (.tmp 39) (.seq (r8 7) .ret) .skip))))) (.seq (r8 8) (.seq (r8 9) (.seq (.seq (r8 10) (.block 1 L8_1)) (.seq (r8 24) (.seq (r8 25) (.seq (.seq (r8 26) (.block 5 L8_3)) (.seq (.seq (r8 36) (.block 9 L8_4)) (.seq (r8 41) .ret))))))))))) (enter ds H) (leaveR P false [.cell 6 26, .tmp 7, .tmp 8, .tmp 9] H.length) := eq8 ds H hl
theorem ge9 (ds : List D) (H : List Ob) (hl : ds.length = 3) : call 9 ds H = go P hints hint9 (.seq (r9 0) (.seq (r9 1) (.seq (.seq (r9 2) (.cond (.tmp 29) (.seq (r9 3) .ret) .skip)) (.seq (.seq (r9 4) (.cond (.tmp 39) (.seq (r9 5) .ret) .skip)) (.seq (.seq (r9 6) (.cond (.tmp 43) (.seq (r9 7) .ret) .skip)) (.seq (r9 8) (.seq (r9 9) (.seq (.seq (r9 10) (.block 0 L9_0)) (.seq (r9 17) (.seq (.seq (r9 18) (.block 2 L9_2)) (.seq (r9 36) (.seq (.seq (r9 37) (.block 6 L9_4)) (.seq (r9 46) .ret))))))))))))) (enter ds H) (leaveR P false [.cell 6 26, .tmp 7, .tmp 8, .tmp 9] H.length) := eq9 ds H hl
theorem ge13 (ds : List D) (H : List Ob) (hl : ds.length = 5) : call 13 ds H = go P hints hint13 (.seq (r13 0) (.seq (r13 1) (.seq (.seq (r13 2) (.block 0 L13_1)) (.seq (r13 12) .ret)))) (enter ds H) (leaveR P false [.tmp 10] H.length) := eq13 ds H hl
theorem ge14 (ds : List D) (H : List Ob) (hl : ds.length = 1) : call 14 ds H = go P hints hint14 (.seq (r14 0) (.seq (.seq (r14 1) (.cond (.tmp 9) (.seq (r14 2) .ret) .skip)) (.seq (.seq (r14 3) (.cond (.tmp 16) (.seq (r14 4) .ret) .skip)) (.seq (.seq (r14 5) (.block 0 L14_0)) (.seq (.seq (r14 10) (.block 2 L14_2)) (.seq (r14 18) .ret)))))) (enter ds H) (leaveR P false [.tmp 2] H.length) := eq14 ds H hl
theorem ge15 (ds : List D) (H : List Ob) (hl : ds.length = 1) : call 15 ds H = go P hints hint15 (.seq (r15 0) (.seq (r15 1) (.seq (.seq (r15 2) (.cond (.tmp 12) (.seq (r15 3) .ret) .skip)) (.seq (.seq (r15 4) (.cond (.tmp 17) (.seq (r15 5) .ret) .skip)) (.seq (.seq (r15 6) (.block 0 L15_0)) (.seq (.seq (r15 12) (.block 2 L15_1)) (.seq (r15 18) .ret))))))) (enter ds H) (leaveR P false [.tmp 2] H.length) := eq15 ds H hl
theorem ge16 (ds : List D) (H : List Ob) (hl : ds.length = 3) : call 16 ds H = go P hints hint16 (.seq (r16 0) (.seq (.seq (r16 1) (.cond (.tmp 14) (.seq (r16 2) .ret) .skip)) (.seq (.seq (r16 3) (.block 0 L16_0)) (.seq (r16 9) .ret)))) (enter ds H) (leaveR P false [.tmp 6] H.length) := eq16 ds H hl
theorem ge17 (ds : List D) (H : List Ob) (hl : ds.length = 2) : call 17 ds H = go P hints hint17 (.seq (r17 0) (.seq (r17 1) (.seq (.seq (r17 2) (.block 0 L17_0)) (.seq (r17 9) .ret)))) (enter ds H) (leaveR P false [.tmp 4] H.length) := eq17 ds H hl
theorem ge18 (ds : List D) (H : List Ob) (hl : ds.length = 2) : call 18 ds H = go P hints hint18 (.seq (r18 0) (.seq (r18 1) (.seq (.seq (r18 2) (.cond (.tmp 17) (.seq (r18 3) (.seq (r18 4) (r18 5))) .skip)) (.seq (r18 6) .ret)))) (enter ds H) (leaveR P false [.tmp 4] H.length) := eq18 ds H hl
theorem ge19 (ds : List D) (H : List Ob) (hl : ds.length = 1) : call 19 ds H = go P hints hint19 (.seq (r19 0) (.seq (.seq (r19 1) (.cond (.tmp 4) (.seq (r19 2) .ret) .skip)) (.seq (r19 3) .ret))) (enter ds H) (leaveR P false [.tmp 2] H.length) := eq19 ds H hl
theorem ge20 (ds : List D) (H : List Ob) (hl : ds.length = 3) : call 20 ds H = go P hints hint20 (.seq (r20 0) (.seq (.seq (r20 1) (.cond (.tmp 11) (.seq (r20 2) .ret) .skip)) (.seq (.seq (r20 3) (.block 0 L20_0)) (.seq (r20 8) .ret)))) (enter ds H) (leaveR P false [.tmp 6] H.length) := eq20 ds H hl
theorem ge21 (ds : List D) (H : List Ob) (hl : ds.length = 2) : call 21 ds H = go P hints hint21 (.seq (r21 0) (.seq (.seq (r21 1) (.block 0 L21_0)) (.seq (r21 6) .ret))) (enter ds H) (leaveR P false [.tmp 4] H.length) := eq21 ds H hl
theorem ge22 (ds : List D) (H : List Ob) (hl : ds.length = 1) : call 22 ds H = go P hints hint22 (.seq (r22 0) (.seq (.seq (r22 1) (.cond (.tmp 4) (.seq (r22 2) .ret) .skip)) (.seq (r22 3) .ret))) (enter ds H) (leaveR P false [.tmp 2] H.length) := eq22 ds H hl
theorem ge24 (ds : List D) (H : List Ob) (hl : ds.length = 2) : call 24 ds H = go P hints hint24 (.seq (r24 0) (.seq (r24 1) .ret)) (enter ds H) (leaveR P false [.tmp 4] H.length) := eq24 ds H hl
theorem ge25 (ds : List D) (H : List Ob) (hl : ds.length = 2) : call 25 ds H = go P hints hint25 (.seq (r25 0) (.seq (r25 1) .ret)) (enter ds H) (leaveR P false [.tmp 4] H.length) := eq25 ds H hl
theorem ge26 (ds : List D) (H : List Ob) (hl : ds.length = 2) : call 26 ds H = go P hints hint26 (.seq (r26 0) (.seq (r26 1) .ret)) (enter ds H) (leaveR P false [.tmp 4] H.length) := eq26 ds H hl
theorem ge27 (ds : List D) (H : List Ob) (hl : ds.length = 2) : call 27 ds H = go P hints hint27 (.seq (r27 0) (.seq (r27 1) .ret)) (enter ds H) (leaveR P false [.tmp 3] H.length) := eq27 ds H hl
theorem ge28 (ds : List D) (H : List Ob) (hl : ds.length = 2) : call 28 ds H = go P hints hint28 (.seq (r28 0) (.seq (.seq (r28 1) (.block 0 L28_0)) (.seq (r28 7) .ret))) (enter ds H) (leaveR P false [.tmp 4] H.length) := eq28 ds H hl
end Go.Fair
namespace Go.Fair
open Go Go.Am Go.Proofs
set_option linter.unusedSimpArgs false
set_option linter.unusedVariables false
def esi64 (b : Bool) (l : List (Int)) : D := .sl b (List.map eI l)
attribute [go_sem] esi64
@[go_sem] theorem imms_si64 (l : List (Int)) : D.imms (List.map eI l) = true := imms_map fun x => by simp [go_sem]
@[go_sem] theorem lends_si64 (l : List (Int)) : D.lends (List.map eI l) = List.map eI l := lends_same fun x => by simp [go_sem]
@[go_sem] theorem lows_si64 (n : Nat) (l : List (Int)) : D.lows n (List.map eI l) = true := lows_map fun x => by simp [go_sem, D.low, D.lows]
@[go_sem] theorem unif_si64 (l : List (Int)) : uniform 1 (tl eI l) = true := uniform_tl fun x => by simp [go_sem, D.nc]
@[go_sem] theorem frzs_si64 (b : Bool) (l : List (Int)) : T.frzs b (tl eI l) = some (List.map eI l) := frzs_tl fun x => by simp [go_sem, D.norm, D.norm1]
def esu64 (b : Bool) (l : List (Int)) : D := .sl b (List.map (eK .u64) l)
attribute [go_sem] esu64
@[go_sem] theorem imms_su64 (l : List (Int)) : D.imms (List.map (eK .u64) l) = true := imms_map fun x => by simp [go_sem]
@[go_sem] theorem lends_su64 (l : List (Int)) : D.lends (List.map (eK .u64) l) = List.map (eK .u64) l := lends_same fun x => by simp [go_sem]
@[go_sem] theorem lows_su64 (n : Nat) (l : List (Int)) : D.lows n (List.map (eK .u64) l) = true := lows_map fun x => by simp [go_sem, D.low, D.lows]
@[go_sem] theorem unif_su64 (l : List (Int)) : uniform 1 (tl (eK .u64) l) = true := uniform_tl fun x => by simp [go_sem, D.nc]
@[go_sem] theorem frzs_su64 (b : Bool) (l : List (Int)) : T.frzs b (tl (eK .u64) l) = some (List.map (eK .u64) l) := frzs_tl fun x => by simp [go_sem, D.norm, D.norm1]
def esu8 (b : Bool) (l : List (Int)) : D := .sl b (List.map (eK .u8) l)
attribute [go_sem] esu8
def esbool (b : Bool) (l : List (Bool)) : D := .sl b (List.map eB l)
attribute [go_sem] esbool
@[go_sem] theorem imms_sbool (l : List (Bool)) : D.imms (List.map eB l) = true := imms_map fun x => by simp [go_sem]
@[go_sem] theorem lends_sbool (l : List (Bool)) : D.lends (List.map eB l) = List.map eB l := lends_same fun x => by simp [go_sem]
@[go_sem] theorem lows_sbool (n : Nat) (l : List (Bool)) : D.lows n (List.map eB l) = true := lows_map fun x => by simp [go_sem, D.low, D.lows]
@[go_sem] theorem unif_sbool (l : List (Bool)) : uniform 1 (tl eB l) = true := uniform_tl fun x => by simp [go_sem, D.nc]
@[go_sem] theorem frzs_sbool (b : Bool) (l : List (Bool)) : T.frzs b (tl eB l) = some (List.map eB l) := frzs_tl fun x => by simp [go_sem, D.norm, D.norm1]
structure Gapi_Edge where
  To : Int
  Act : Int
  deriving DecidableEq
def eapi_Edge (x : Gapi_Edge) : D := .agg [eI x.To, eI x.Act]
attribute [go_sem] eapi_Edge
structure Gfair_pair where
  node : Int
  ref : Int
  deriving DecidableEq
def efair_pair (x : Gfair_pair) : D := .agg [eI x.node, eI x.ref]
attribute [go_sem] efair_pair
structure Gr40_pair where
  node : Int
  ref : Int
  deriving DecidableEq
def er40_pair (x : Gr40_pair) : D := .agg [eI x.node, eI x.ref]
attribute [go_sem] er40_pair
def essbool (b : Bool) (l : List (List Bool)) : D := .sl b (List.map (esbool b) l)
attribute [go_sem] essbool
@[go_sem] theorem imms_ssbool (l : List (List Bool)) : D.imms (List.map (esbool false) l) = true := imms_map fun x => by simp [go_sem]
@[go_sem] theorem lends_ssbool (b : Bool) (l : List (List Bool)) : D.lends (List.map (esbool b) l) = List.map (esbool true) l := lends_to fun x => by simp [go_sem]
@[go_sem] theorem lows_ssbool (b : Bool) (n : Nat) (l : List (List Bool)) : D.lows n (List.map (esbool b) l) = true := lows_map fun x => by simp [go_sem, D.low, D.lows]
@[go_sem] theorem unif_ssbool (b : Bool) (l : List (List Bool)) : uniform 1 (tl (esbool b) l) = true := uniform_tl fun x => by simp [go_sem, D.nc]
@[go_sem] theorem frzs_ssbool (b c : Bool) (l : List (List Bool)) : T.frzs c (tl (esbool b) l) = some (List.map (esbool b) l) := frzs_tl fun x => by simp [go_sem, D.norm, D.norm1]
@[go_sem] theorem frzso_ssbool (b : Bool) (l : List (List Bool)) : T.frzs b (tlo eB l) = some (List.map (esbool b) l) := frzs_tlo (fun x => by simp [go_sem, D.norm, D.norm1]) (fun _ => rfl)
@[go_sem] theorem snoc_ssbool (b : Bool) (l : List (List Bool)) (x : List Bool) : tl (esbool b) l ++ [.d (.sl b (List.map eB x))] = tl (esbool b) (l ++ [x]) := tl_snoc
def esapi_Edge (b : Bool) (l : List (Gapi_Edge)) : D := .sl b (List.map eapi_Edge l)
attribute [go_sem] esapi_Edge
@[go_sem] theorem imms_sapi_Edge (l : List (Gapi_Edge)) : D.imms (List.map eapi_Edge l) = true := imms_map fun x => by simp [go_sem]
@[go_sem] theorem lends_sapi_Edge (l : List (Gapi_Edge)) : D.lends (List.map eapi_Edge l) = List.map eapi_Edge l := lends_same fun x => by simp [go_sem]
@[go_sem] theorem lows_sapi_Edge (n : Nat) (l : List (Gapi_Edge)) : D.lows n (List.map eapi_Edge l) = true := lows_map fun x => by simp [go_sem, D.low, D.lows]
@[go_sem] theorem unif_sapi_Edge (l : List (Gapi_Edge)) : uniform 2 (tl eapi_Edge l) = true := uniform_tl fun x => by simp [go_sem, D.nc]
@[go_sem] theorem frzs_sapi_Edge (b : Bool) (l : List (Gapi_Edge)) : T.frzs b (tl eapi_Edge l) = some (List.map eapi_Edge l) := frzs_tl fun x => by simp [go_sem, D.norm, D.norm1]
@[go_sem] theorem snoc_sapi_Edge (l : List Gapi_Edge) (x0 : Int) (x1 : Int) : tl eapi_Edge l ++ [.d (.agg [eI x0, eI x1])] = tl eapi_Edge (l ++ [(Gapi_Edge.mk x0 x1)]) := tl_snoc (x := (Gapi_Edge.mk x0 x1))
@[go_sem] theorem unif_sfair_pair (l : List (Gfair_pair)) : uniform 2 (tl efair_pair l) = true := uniform_tl fun x => by simp [go_sem, D.nc]
@[go_sem] theorem snoc_sfair_pair (l : List Gfair_pair) (x0 : Int) (x1 : Int) : tl efair_pair l ++ [.d (.agg [eI x0, eI x1])] = tl efair_pair (l ++ [(Gfair_pair.mk x0 x1)]) := tl_snoc (x := (Gfair_pair.mk x0 x1))
def esr40_pair (b : Bool) (l : List (Gr40_pair)) : D := .sl b (List.map er40_pair l)
attribute [go_sem] esr40_pair
@[go_sem] theorem imms_sr40_pair (l : List (Gr40_pair)) : D.imms (List.map er40_pair l) = true := imms_map fun x => by simp [go_sem]
@[go_sem] theorem lends_sr40_pair (l : List (Gr40_pair)) : D.lends (List.map er40_pair l) = List.map er40_pair l := lends_same fun x => by simp [go_sem]
@[go_sem] theorem unif_sr40_pair (l : List (Gr40_pair)) : uniform 2 (tl er40_pair l) = true := uniform_tl fun x => by simp [go_sem, D.nc]
@[go_sem] theorem frzs_sr40_pair (b : Bool) (l : List (Gr40_pair)) : T.frzs b (tl er40_pair l) = some (List.map er40_pair l) := frzs_tl fun x => by simp [go_sem, D.norm, D.norm1]
@[go_sem] theorem snoc_sr40_pair (l : List Gr40_pair) (x0 : Int) (x1 : Int) : tl er40_pair l ++ [.d (.agg [eI x0, eI x1])] = tl er40_pair (l ++ [(Gr40_pair.mk x0 x1)]) := tl_snoc (x := (Gr40_pair.mk x0 x1))
def essapi_Edge (b : Bool) (l : List (List Gapi_Edge)) : D := .sl b (List.map (esapi_Edge b) l)
attribute [go_sem] essapi_Edge
@[go_sem] theorem imms_ssapi_Edge (l : List (List Gapi_Edge)) : D.imms (List.map (esapi_Edge false) l) = true := imms_map fun x => by simp [go_sem]
@[go_sem] theorem lends_ssapi_Edge (b : Bool) (l : List (List Gapi_Edge)) : D.lends (List.map (esapi_Edge b) l) = List.map (esapi_Edge true) l := lends_to fun x => by simp [go_sem]
@[go_sem] theorem lows_ssapi_Edge (b : Bool) (n : Nat) (l : List (List Gapi_Edge)) : D.lows n (List.map (esapi_Edge b) l) = true := lows_map fun x => by simp [go_sem, D.low, D.lows]
@[go_sem] theorem unif_ssapi_Edge (b : Bool) (l : List (List Gapi_Edge)) : uniform 1 (tl (esapi_Edge b) l) = true := uniform_tl fun x => by simp [go_sem, D.nc]
@[go_sem] theorem frzs_ssapi_Edge (b c : Bool) (l : List (List Gapi_Edge)) : T.frzs c (tl (esapi_Edge b) l) = some (List.map (esapi_Edge b) l) := frzs_tl fun x => by simp [go_sem, D.norm, D.norm1]
@[go_sem] theorem snoc_ssapi_Edge (b : Bool) (l : List (List Gapi_Edge)) (x : List Gapi_Edge) : tl (esapi_Edge b) l ++ [.d (.sl b (List.map eapi_Edge x))] = tl (esapi_Edge b) (l ++ [x]) := tl_snoc
structure Gapi_Graph where
  Init : List Int
  Edges : List (List Gapi_Edge)
  Labels : List Int
  deriving DecidableEq
def eapi_Graph (b : Bool) (x : Gapi_Graph) : D := .agg [(esi64 b) x.Init, (essapi_Edge b) x.Edges, (esu64 b) x.Labels]
attribute [go_sem] eapi_Graph
theorem mkey47 (a b : Gfair_pair) : keyEq P 53 (efair_pair a) (efair_pair b) = some (decide (a = b)) := by cases a; cases b; simp [keyEq, go_sem, eqK, Option.map_some, Gfair_pair.mk.injEq, Bool.eq_iff_iff]
@[go_sem] theorem mkeyx47 (x_0 : Int) (x_1 : Int) : keyEq P 53 (.agg [.int .i64 x_0, .int .i64 x_1]) (.agg [.int .i64 x_0, .int .i64 x_1]) = some true := by have h := mkey47 (Gfair_pair.mk x_0 x_1) (Gfair_pair.mk x_0 x_1); simpa [go_sem] using h
@[go_sem] theorem look47 (l : List (Gfair_pair × Int)) (x_0 : Int) (x_1 : Int) (ok : Bool) : lookOb P 47 (.map (ents efair_pair eI l)) (.agg [.int .i64 x_0, .int .i64 x_1]) ok = some (if ok = true then .tup [.d (eI (mval 0 l (Gfair_pair.mk x_0 x_1))), .d (.bool (mhas l (Gfair_pair.mk x_0 x_1)))] else .d (eI (mval 0 l (Gfair_pair.mk x_0 x_1)))) := lookOb_ents (kt := 53) (e := 3) (fk := efair_pair) (fv := eI) (k := (Gfair_pair.mk x_0 x_1)) (by kernel_rfl) mkey47 (by kernel_rfl)
@[go_sem] theorem put47 (l : List (Gfair_pair × Int)) (x_0 : Int) (x_1 : Int) (y : Int) : putOb P 47 (.map (ents efair_pair eI l)) (.agg [.int .i64 x_0, .int .i64 x_1]) (.int .i64 y) = some (ents efair_pair eI (mput l (Gfair_pair.mk x_0 x_1) y)) := putOb_ents (kt := 53) (e := 3) (fk := efair_pair) (fv := eI) (k := (Gfair_pair.mk x_0 x_1)) (v := y) (by kernel_rfl) mkey47
end Go.Fair
