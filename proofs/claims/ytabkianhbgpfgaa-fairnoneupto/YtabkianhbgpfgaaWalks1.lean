/- The walks of seat r1: what each function computes, and that the law answers true. Of all graphs that can be gone through. -/
import Derived.Test.YtabkianhbgpfgaaTab
import Derived.Test.YtabkianhbgpfgaaAmClaim
/- The walks: what the small functions compute. -/
namespace Go.Fair
open Go Go.Am Go.Proofs
set_option linter.unusedSimpArgs false
set_option linter.unusedVariables false
attribute [go_sem] List.getElem?_cons_zero List.getElem?_cons_succ List.length_cons List.length_nil List.length_map decide_true decide_false Int.natCast_nonneg Int.toNat_natCast List.getElem?_map Option.map_some Option.map_none Bool.false_eq_true
def I (n : Int) : D := .int .i64 n
def ints (β : Bool) (l : List Int) : D := .sl β (l.map I)
attribute [go_sem] D.imm D.imms D.lend D.lends
@[go_sem] theorem imms_I (l : List Int) : D.imms (l.map I) = true := by induction l <;> simp_all [D.imms, D.imm, I]
@[go_sem] theorem lends_I (l : List Int) : D.lends (l.map I) = l.map I := by induction l <;> simp_all [D.lends, D.lend, I]
theorem drop_eq_iff {α : Type} {a b : List α} {i : Nat} (h1 : i < a.length) (h2 : i < b.length) : a.drop i = b.drop i ↔ a[i] = b[i] ∧ a.drop (i + 1) = b.drop (i + 1) := by
  rw [List.drop_eq_getElem_cons h1, List.drop_eq_getElem_cons h2, List.cons.injEq]
theorem loop11 (β : Bool) (a b : List Int) (H : List Ob) (hb : a.length < 4611686018427387904) (hl : a.length = b.length) : ∀ (n i : Nat), i + n = a.length →
    codeX P hints hint11 L11_0 ⟨[(0, .d (ints β a)), (1, .d (ints β b)), (5, .d (I i))], [], H⟩ =
      if a.drop i = b.drop i then some (.exit 0, ⟨[(0, .d (ints β a)), (1, .d (ints β b)), (5, .d (I a.length)), (14, .d (.bool false))], [], H⟩) else some (.ret, ⟨[(4, .d (.bool false))], [], H⟩) := by
  intro n
  induction n with
  | zero =>
    intro i hi
    have h0 : i = a.length := by omega
    subst h0
    rw [L11_0_eq]
    simp -implicitDefEqProofs [go_sem, canon, ints, I, hl]
  | succ n ih =>
    intro i hi
    have h1 : i < a.length := by omega
    have h1' : (i : Int) < (a.length : Int) := by omega
    have h2 : i < b.length := by omega
    rw [L11_0_eq]
    specialize ih (i + 1) (by omega)
    simp only [ints, I, Int.natCast_add, Int.cast_ofNat_Int] at ih
    by_cases e : a[i] = b[i]
    · have e2 : (a.drop i = b.drop i) ↔ (a.drop (i + 1) = b.drop (i + 1)) := by simp [drop_eq_iff h1 h2, e]
      simp -implicitDefEqProofs (disch := omega) [go_sem, canon, ints, I, h1', List.getElem?_eq_getElem h1, List.getElem?_eq_getElem h2, e, e2, wrap_i64, ih]
    · have e2 : ¬(a.drop i = b.drop i) := by simp [drop_eq_iff h1 h2, e]
      simp -implicitDefEqProofs (disch := omega) [go_sem, canon, ints, I, h1', List.getElem?_eq_getElem h1, List.getElem?_eq_getElem h2, e, e2]
theorem w11 (β : Bool) (a b : List Int) (H : List Ob) (hb : a.length < 4611686018427387904) : call 11 [ints β a, ints β b] H = some ([.d (.bool (decide (a = b)))], H) := by
  rw [eq11 _ _ rfl]
  by_cases hl : a.length = b.length
  · have h := loop11 β a b H hb hl a.length 0 (by omega)
    simp only [ints, I, List.drop_zero, Int.cast_ofNat_Int] at h
    by_cases e : a = b
    · rw [if_pos e] at h; rw [decide_eq_true e]; simp -implicitDefEqProofs [go_sem, canon, ints, I, hl, h]
    · rw [if_neg e] at h; simp -implicitDefEqProofs [go_sem, canon, ints, I, hl, h, e]
  · have e : a ≠ b := fun e => hl (by rw [e])
    have h2 : (a.length : Int) ≠ b.length := by omega
    simp -implicitDefEqProofs [go_sem, canon, ints, I, h2, e]
end Go.Fair

namespace Go.Fair
open Go Go.Am Go.Proofs
theorem lives_true : call 7 [] [] = some ([.d (.bool true)], []) := callX_iff.2 ⟨60, by kernel_rfl⟩
end Go.Fair

namespace Go.Fair
open Go Go.Am Go.Proofs
set_option linter.unusedSimpArgs false
set_option linter.unusedVariables false
def refOf (a : Int) : Int := if a < 0 then -1 else a / 2
theorem w19 (a : Int) (H : List Ob) (h1 : -9223372036854775808 ≤ a) (h2 : a ≤ 9223372036854775807) : call 19 [I a] H = some ([.d (I (refOf a))], H) := by
  rw [eq19 _ _ rfl]
  by_cases h : a < 0
  · simp -implicitDefEqProofs [go_sem, canon, I, h, refOf]
  · have h0 : 0 ≤ a := by omega
    simp -implicitDefEqProofs (disch := omega) [go_sem, canon, I, h, refOf, wrap_i64, Int.tdiv_eq_ediv_of_nonneg h0]
theorem w22 (a : Int) (H : List Ob) (h1 : -9223372036854775808 ≤ a) (h2 : a ≤ 9223372036854775807) : call 22 [I a] H = some ([.d (I (refOf a))], H) := by
  rw [eq22 _ _ rfl]
  by_cases h : a < 0
  · simp -implicitDefEqProofs [go_sem, canon, I, h, refOf]
  · have h0 : 0 ≤ a := by omega
    simp -implicitDefEqProofs (disch := omega) [go_sem, canon, I, h, refOf, wrap_i64, Int.tdiv_eq_ediv_of_nonneg h0]
def edge (e : Int × Int) : D := .agg [I e.1, I e.2]
def edges (β : Bool) (l : List (Int × Int)) : D := .sl β (l.map edge)
def edgess (β : Bool) (l : List (List (Int × Int))) : D := .sl β (l.map (edges β))
def labs (β : Bool) (l : List Int) : D := .sl β (l.map fun n => .int .u64 n)
structure Gr where
  init : List Int
  es : List (List (Int × Int))
  ls : List Int
def graph (β : Bool) (g : Gr) : D := .agg [ints β g.init, edgess β g.es, labs β g.ls]
def nodeOk (g : Gr) (n : Int) : Bool := decide (0 ≤ n) && decide (n < g.es.length)
theorem w25 (β : Bool) (g : Gr) (n : Int) (H : List Ob) : call 25 [graph β g, I n] H = some ([.d (.bool (nodeOk g n))], H) := by
  rw [eq25 _ _ rfl]
  by_cases h : 0 ≤ n
  · simp -implicitDefEqProofs [go_sem, canon, I, h, graph, edgess, nodeOk]
  · simp -implicitDefEqProofs [go_sem, canon, I, h, graph, edgess, nodeOk]
theorem w24 (β : Bool) (g : Gr) (n : Int) (H : List Ob) : call 24 [graph β g, I n] H = some ([.d (.bool (nodeOk g n))], H) := by
  rw [eq24 _ _ rfl]
  by_cases h : 0 ≤ n
  · simp -implicitDefEqProofs [go_sem, canon, I, h, graph, edgess, nodeOk]
  · simp -implicitDefEqProofs [go_sem, canon, I, h, graph, edgess, nodeOk]
end Go.Fair

namespace Go.Fair
open Go Go.Am Go.Proofs
set_option linter.unusedSimpArgs false
set_option linter.unusedVariables false
attribute [go_sem] win List.take_zero List.drop_zero List.take_succ_cons List.drop_succ_cons
def pr (x : Int × Int) : D := .agg [I x.1, I x.2]
abbrev PairsL := List (Int × Int)
def entK (i : Nat) : PairsL → List (D × T)
  | [] => []
  | x :: r => (pr x, .d (I i)) :: entK (i + 1) r
theorem keyEq_pr (x y : Int × Int) : keyEq P 53 (pr x) (pr y) = some (decide (x = y)) := by
  simp [keyEq, pr, go_sem, I, Prod.ext_iff]
theorem findK_ent (x : Int × Int) : ∀ (l : PairsL) (i : Nat), findK (keyEq P 53) (pr x) (entK i l) = some (if x ∈ l then some (.d (I (i + l.idxOf x : Nat))) else none)
  | [], i => by simp [entK, findK]
  | y :: l, i => by
    simp only [entK, findK, keyEq_pr, Option.bind_some, findK_ent x l (i + 1)]
    by_cases e : x = y
    · subst e; simp
    · have e2 : ¬ (y = x) := fun h => e h.symm
      simp [e, List.idxOf_cons, e2, beq_eq_false_iff_ne.2 e2]
      rw [show (i : Int) + 1 + (l.idxOf x : Nat) = i + ((l.idxOf x : Nat) + 1) by omega]
theorem putK_ent (x : Int × Int) (v : T) : ∀ (l : PairsL) (i : Nat), x ∉ l → putK (keyEq P 53) (pr x) v (entK i l) = some (entK i l ++ [(pr x, v)])
  | [], i, _ => by simp [entK, putK]
  | y :: l, i, h => by
    simp only [List.mem_cons, not_or] at h
    simp [entK, putK, keyEq_pr, h.1, putK_ent x v l (i + 1) h.2]
theorem entK_snoc (x : Int × Int) : ∀ (l : PairsL) (i : Nat), entK i (l ++ [x]) = entK i l ++ [(pr x, .d (I (i + l.length : Nat)))]
  | [], i => by simp [entK]
  | y :: l, i => by simp [entK, entK_snoc x l (i + 1)]; rw [show (i : Int) + 1 + l.length = i + (l.length + 1) by omega]
@[go_sem] theorem lookup_pr (l : PairsL) (x : Int × Int) (r : List Ob) : lookupE P 47 (.d (.map 0)) (.d (.agg [.int .i64 x.1, .int .i64 x.2])) true (.map (entK 0 l) :: r) = some (.tup [.d (if x ∈ l then I (l.idxOf x : Nat) else I 0), .d (.bool (decide (x ∈ l)))]) := by
  have h1 : mapOf P 47 = some (53, 3) := by kernel_rfl
  have h2 : zeroOf P 3 = some (I 0) := by kernel_rfl
  have h3 := findK_ent x l 0
  have h4 := keyEq_pr x x
  simp only [pr, I] at h3 h4
  simp only [lookupE, h1, Option.bind_some, h4, h2, Option.isSome_some, if_true, List.getElem?_cons_zero, h3]
  by_cases e : x ∈ l <;> simp [e, I]
def prs (l : PairsL) : List T := l.map fun x => .d (pr x)
@[go_sem] theorem prs_len (l : PairsL) : (prs l).length = l.length := by simp [prs]
@[go_sem] theorem prs_snoc (l : PairsL) (x : Int × Int) : prs l ++ [.d (.agg [.int .i64 x.1, .int .i64 x.2])] = prs (l ++ [x]) := by simp [prs, pr, I]
theorem prs_cons (l : PairsL) (x : Int × Int) : prs (x :: l) = .d (pr x) :: prs l := rfl
@[go_sem] theorem uniform_prs (l : PairsL) : uniform 2 (prs l) = true := by
  induction l with
  | nil => rfl
  | cons x l ih => simp [prs_cons, uniform_cons, ih, pr, go_sem]
@[go_sem] theorem prs_take (l : PairsL) : (prs l).take l.length = prs l := by rw [← prs_len l]; simp
def mk (l : PairsL) : T := if l = [] then .d (.agg [.map 0, .nils]) else .agg [.d (.map 0), .own (prs l)]
def HM (l : PairsL) : List Ob := [.map (entK 0 l), .box (mk l)]
theorem mk_nc (l : PairsL) : (mk l).nc = 2 := by unfold mk; split <;> rfl
theorem sameHM (l l' : PairsL) : sameObs (HM l) (HM l') = true := by simp [HM, sameObs_m, sameObs_b, sameObs_n, mk_nc]
@[go_sem] theorem mapOf47 : mapOf P 47 = some (53, 3) := by kernel_rfl
@[go_sem] theorem mapPut_pr (nv : Nat) (l : PairsL) (x : Int × Int) (n : Int) (r : List Ob) (ct : List ((Nat × Nat) × T)) (h : x ∉ l) (hn : n = l.length) : mapPutE P nv 47 (.d (.map 0)) (.d (.agg [.int .i64 x.1, .int .i64 x.2])) (.d (.int .i64 n)) ⟨ct, .map (entK 0 l) :: r, []⟩ = some ⟨ct, .map (entK 0 (l ++ [x])) :: r, []⟩ := by
  have h3 := putK_ent x (.d (I n)) l 0 h
  have h4 := keyEq_pr x x
  simp only [pr, I] at h3 h4
  subst hn
  simp [mapPutE, mapOf47, h4, absorb_d, h3, entK_snoc, pr, I]
theorem w18a (l : PairsL) (x : Int × Int) (e : x ∈ l) : call 18 [.ptr 1, pr x] (HM l) = some ([.d (I (l.idxOf x : Nat))], HM l) := by
  rw [eq18 _ _ rfl]
  have h : l ≠ [] := fun h => by subst h; simp at e
  simp -implicitDefEqProofs [go_sem, canon, I, pr, e, HM, mk, h, trunc]
theorem w18b (x : Int × Int) : call 18 [.ptr 1, pr x] (HM []) = some ([.d (I 0)], HM [x]) := by
  rw [eq18 _ _ rfl]
  have e : x ∉ ([] : PairsL) := by simp
  have e2 : prs [x] = [.d (pr x)] := rfl
  simp -implicitDefEqProofs [go_sem, canon, I, pr, e, HM, mk, e2, trunc]
theorem w18c (l : PairsL) (x : Int × Int) (h : l ≠ []) (hl : l.length < 8796093022208) (e : x ∉ l) : call 18 [.ptr 1, pr x] (HM l) = some ([.d (I (l.length : Nat))], HM (l ++ [x])) := by
  rw [eq18 _ _ rfl]
  have h0 : l.length ≠ 0 := fun e => h (List.eq_nil_of_length_eq_zero e)
  have h2 : (l.length + 1) * 16 ≤ 140737488355328 := by omega
  have h3 : l.length ≤ 9223372036854775806 := by omega
  simp -implicitDefEqProofs [go_sem, canon, I, pr, e, HM, mk, h, h0, h2, h3]
/-- a pair's number, and the pairs then -/
def numOf (l : PairsL) (x : Int × Int) : Nat := l.idxOf x
def addP (l : PairsL) (x : Int × Int) : PairsL := if x ∈ l then l else l ++ [x]
theorem w18 (l : PairsL) (x : Int × Int) (hl : l.length < 8796093022208) : call 18 [.ptr 1, pr x] (HM l) = some ([.d (I (numOf l x : Nat))], HM (addP l x)) := by
  by_cases e : x ∈ l
  · rw [w18a l x e]; simp [numOf, addP, e]
  · have hi : l.idxOf x = l.length := List.idxOf_eq_length e
    by_cases h : l = []
    · subst h; rw [w18b x]; simp [numOf, addP]
    · rw [w18c l x h hl e]; simp [numOf, addP, e, hi]
end Go.Fair

namespace Go.Fair
open Go Go.Am Go.Proofs
set_option linter.unusedSimpArgs false
set_option linter.unusedVariables false
theorem loop_iter {h : Hint} {L body : Code} (hL : ∀ s, codeX P hints h L s = (codeX P hints h body s).bind (thenX P hints h L)) (S : Nat → St) : ∀ (n : Nat), (∀ i, i < n → codeX P hints h body (S i) = some (.normal, S (i + 1))) → codeX P hints h L (S 0) = codeX P hints h L (S n)
  | 0, _ => rfl
  | n + 1, hs => by
    rw [loop_iter hL S n (fun i hi => hs i (by omega)), hL, hs n (by omega)]
    rfl
def outs (n : Nat) : List T := (List.range n).map fun (i : Nat) => .d (I (i : Int))
@[go_sem] theorem outs_len (n : Nat) : (outs n).length = n := by simp [outs]
@[go_sem] theorem outs_snoc (n : Nat) : outs n ++ [.d (.int .i64 n)] = outs (n + 1) := by simp [outs, List.range_succ, I]
@[go_sem] theorem outs_take (n : Nat) : (outs n).take n = outs n := List.take_of_length_le (by rw [outs_len]; exact Nat.le_refl _)
@[go_sem] theorem uniform_outs (n : Nat) : uniform 1 (outs n) = true := by
  induction n with
  | zero => rfl
  | succ n ih => simp [outs, List.range_succ, uniform, I, go_sem]
def S17 (β : Bool) (l : PairsL) (init : List Int) (i : Nat) : St := ⟨[(0, .d (.ptr 1)), (5, .bor (.l 5 0) [] 0 l.length), (9, .d (ints β init)), (10, .d (I init.length)), (11, .d (I i))], [((5, 0), .own (outs l.length))], HM l⟩
theorem s17 (β : Bool) (l : PairsL) (init : List Int) (i : Nat) (hl : l.length < 8796093022208) (hi : i < init.length) (hI : init.length < 8796093022208) : codeX P hints hint17 (.seq (r17 3) (.seq (.cond (.tmp 12) .skip (.exit 0)) (.seq (.block 1 (.seq (r17 4) (.seq (r17 5) (.seq (r17 6) (.cond (.tmp 22) (r17 7) .skip))))) (r17 8)))) (S17 β l init i) = some (.normal, S17 β (addP l (init[i], -1)) init (i + 1)) := by
  have h1 : (i : Int) < (init.length : Int) := by omega
  have w := w18 l (init[i], -1) hl
  simp only [pr, I] at w
  have hh : (HM l).length = 2 := rfl
  have hs := sameHM l (addP l (init[i], -1))
  by_cases e : (init[i], -1) ∈ l
  · have h2 : ((numOf l (init[i], -1) : Nat) : Int) ≠ (l.length : Int) := by
      have := List.idxOf_lt_length_of_mem e
      unfold numOf; omega
    have h3 : addP l (init[i], -1) = l := by simp [addP, e]
    rw [h3] at w hs ⊢
    simp -implicitDefEqProofs (disch := omega) [go_sem, canon, S17, ints, I, h1, List.getElem?_eq_getElem hi, w, hs, h2, wrap_i64]
  · have h2 : numOf l (init[i], -1) = l.length := List.idxOf_eq_length e
    have h3 : addP l (init[i], -1) = l ++ [(init[i], -1)] := by simp [addP, e]
    have h4 : l.length ≤ 9223372036854775806 := by omega
    have h5 : (l.length + 1) * 8 ≤ 140737488355328 := by omega
    rw [h3] at w hs ⊢
    rw [h2] at w
    simp -implicitDefEqProofs (disch := omega) [go_sem, canon, S17, ints, I, h1, List.getElem?_eq_getElem hi, w, hs, wrap_i64, h4, h5]
/-- the pairs of what comes first -/
def firstP (init : List Int) : PairsL := init.foldl (fun l n => addP l (n, -1)) []
theorem addP_len (l : PairsL) (x : Int × Int) : (addP l x).length ≤ l.length + 1 := by unfold addP; split <;> simp
theorem firstP_len (init : List Int) : (firstP init).length ≤ init.length := by
  have : ∀ (l : PairsL), (init.foldl (fun l n => addP l (n, -1)) l).length ≤ l.length + init.length := by
    induction init with
    | nil => intro l; simp
    | cons n r ih => intro l; have := ih (addP l (n, -1)); have := addP_len l (n, -1); simp only [List.foldl_cons, List.length_cons]; omega
  simpa [firstP] using this []
theorem firstP_snoc (init : List Int) (i : Nat) (h : i < init.length) : firstP (init.take (i + 1)) = addP (firstP (init.take i)) (init[i], -1) := by
  unfold firstP
  rw [List.take_add_one, List.getElem?_eq_getElem h, List.foldl_append]
  rfl
@[go_sem] theorem HM_len (l : PairsL) : (HM l).length = 2 := rfl
def ran (n : Nat) : List Int := (List.range n).map fun (i : Nat) => (i : Int)
@[go_sem] theorem frzs_outs (n : Nat) : T.frzs false (outs n) = some ((ran n).map I) := by
  have : ∀ l : List Nat, T.frzs false (l.map fun (i : Nat) => .d (I (i : Int))) = some ((l.map fun (i : Nat) => (i : Int)).map I) := by
    intro l
    induction l with
    | nil => rfl
    | cons a r ih => simp only [List.map_cons, T.frzs, T.frz, ih]; rfl
  exact this _
theorem w17 (β : Bool) (init : List Int) (hI : init.length < 8796093022208) : call 17 [.ptr 1, ints β init] (HM []) = some ([.d (ints false (ran (firstP init).length))], HM (firstP init)) := by
  rw [eq17 _ _ rfl]
  have h0 := loop_iter L17_0_eq (fun i => S17 β (firstP (init.take i)) init i) init.length (fun i hi => by
    have hl := firstP_len (init.take i)
    have : (init.take i).length ≤ i := by simp [List.length_take]; omega
    show _ = some (Ex.normal, S17 β (firstP (init.take (i + 1))) init (i + 1))
    rw [firstP_snoc init i hi]
    exact s17 β _ init i (by omega) hi hI)
  have h1 : firstP (init.take 0) = [] := rfl
  have h2 : outs 0 = [] := rfl
  have hE : codeX P hints hint17 L17_0 (S17 β (firstP init) init init.length) = some (.exit 0, ⟨[(0, .d (.ptr 1)), (5, .bor (.l 5 0) [] 0 (firstP init).length), (9, .d (ints β init)), (10, .d (I init.length)), (11, .d (I init.length)), (12, .d (.bool false))], [((5, 0), .own (outs (firstP init).length))], HM (firstP init)⟩) := by
    rw [L17_0_eq]
    simp -implicitDefEqProofs [go_sem, canon, S17, ints, I]
  rw [List.take_length] at h0
  have h3 := h0.trans hE
  simp only [h1, S17, ints, I, h2, List.length_nil, Int.cast_ofNat_Int] at h3
  simp -implicitDefEqProofs [go_sem, canon, ints, I, h3, trunc, HM_len]
end Go.Fair

namespace Go.Fair
open Go Go.Am Go.Proofs
set_option linter.unusedSimpArgs false
set_option linter.unusedVariables false
@[go_sem] theorem imms_edge (l : List (Int × Int)) : D.imms (l.map edge) = true := by induction l <;> simp_all [D.imms, D.imm, edge, I]
@[go_sem] theorem lends_edge (l : List (Int × Int)) : D.lends (l.map edge) = l.map edge := by induction l <;> simp_all [D.lends, D.lend, edge, I]
@[go_sem] theorem imms_edges (l : List (List (Int × Int))) : D.imms (l.map (edges false)) = true := by induction l <;> simp_all [D.imms, D.imm, edges, imms_edge]
@[go_sem] theorem lends_edges (β : Bool) (l : List (List (Int × Int))) : D.lends (l.map (edges β)) = l.map (edges true) := by induction l <;> simp_all [D.lends, D.lend, edges, lends_edge]
@[go_sem] theorem imms_lab (l : List Int) : D.imms (l.map fun n => .int .u64 n) = true := by induction l <;> simp_all [D.imms, D.imm]
@[go_sem] theorem lends_lab (l : List Int) : D.lends (l.map fun n => .int .u64 n) = l.map fun n => .int .u64 n := by induction l <;> simp_all [D.lends, D.lend]
theorem canon_graph (β : Bool) (g : Gr) (n : Int) : canon false [.agg [.sl β (g.init.map I), .sl β (g.es.map (edges β)), .sl β (g.ls.map fun n => .int .u64 n)], .int .i64 n] = [.agg [.sl β (g.init.map I), .sl β (g.es.map (edges β)), .sl β (g.ls.map fun n => .int .u64 n)], .int .i64 n] := by
  cases β <;> simp [go_sem, canon]
@[go_sem] theorem canon_b (sn b : Bool) : canon sn [.bool b] = [.bool b] := by cases sn <;> simp [canon, go_sem]
@[go_sem] theorem canon_i (sn : Bool) (q : IntKind) (n : Int) : canon sn [.int q n] = [.int q n] := by cases sn <;> simp [canon, go_sem]
def GH (β : Bool) (g : Gr) : List Ob := [.box (.d (graph β g))]
theorem w27 (β : Bool) (g : Gr) (e : Int × Int) : call 27 [edge e, .ptr 0] (GH β g) = some ([.d (.bool (!nodeOk g e.1))], (GH β g)) := by
  rw [eq27 _ _ rfl]
  have w := w25 β g e.1 [.lock]
  have c := canon_graph β g e.1
  simp only [graph, ints, edgess, labs, I] at w
  simp -implicitDefEqProofs [go_sem, ints, I, edge, graph, labs, edgess, c, w, GH]
def badE (g : Gr) (l : List (Int × Int)) : Bool := l.any fun e => !nodeOk g e.1
theorem GH_len (β : Bool) (g : Gr) : (GH β g).length = 1 := rfl
theorem loop28 (β γ : Bool) (g : Gr) (l : List (Int × Int)) (hl : l.length < 4611686018427387904) : ∀ (n i : Nat), i + n = l.length →
    ∃ r, codeX P hints hint28 L28_0 ⟨[(0, .d (edges γ l)), (1, .d (.fn (.func 27) [] [.ptr 0])), (7, .d (I l.length)), (8, .d (I i))], [], GH β g⟩ = some r ∧
      if badE g (l.drop i) = true then ∃ j : Nat, r = (.ret, ⟨[(4, .d (I j))], [], GH β g⟩) else r = (.exit 0, ⟨[(0, .d (edges γ l)), (1, .d (.fn (.func 27) [] [.ptr 0])), (7, .d (I l.length)), (8, .d (I l.length)), (9, .d (.bool false))], [], GH β g⟩) := by
  intro n
  induction n with
  | zero =>
    intro i hi
    have h0 : i = l.length := by omega
    subst h0
    refine ⟨(.exit 0, ⟨[(0, .d (edges γ l)), (1, .d (.fn (.func 27) [] [.ptr 0])), (7, .d (I l.length)), (8, .d (I l.length)), (9, .d (.bool false))], [], GH β g⟩), ?_, by simp [badE]⟩
    · rw [L28_0_eq]
      simp -implicitDefEqProofs [go_sem, edges, I]
  | succ n ih =>
    intro i hi
    have h1 : i < l.length := by omega
    have h1' : (i : Int) < (l.length : Int) := by omega
    obtain ⟨r, e1, e2⟩ := ih (i + 1) (by omega)
    rw [L28_0_eq]
    have w := w27 β g l[i]
    have hd : l.drop i = l[i] :: l.drop (i + 1) := List.drop_eq_getElem_cons h1
    simp only [edge, I] at w
    have hs := sameObs_self (GH β g)
    have c : canon false [.agg [.int .i64 l[i].1, .int .i64 l[i].2], .ptr 0] = [.agg [.int .i64 l[i].1, .int .i64 l[i].2], .ptr 0] := by simp [go_sem, canon]
    simp only [edges, I, Int.natCast_add, Int.cast_ofNat_Int] at e1 e2
    by_cases e : nodeOk g l[i].1 = true
    · refine ⟨r, ?_, ?_⟩
      · rw [← e1]
        simp -implicitDefEqProofs (disch := omega) [go_sem, edges, edge, I, h1', List.getElem?_eq_getElem h1, wrap_i64, w, e, hs, c]
      · have : badE g (l.drop i) = badE g (l.drop (i + 1)) := by unfold badE; rw [hd, List.any_cons, e, Bool.not_true, Bool.false_or]
        rw [this]; simpa [edges, I] using e2
    · refine ⟨(.ret, ⟨[(4, .d (I i))], [], GH β g⟩), ?_, ?_⟩
      · simp -implicitDefEqProofs (disch := omega) [go_sem, edges, edge, I, h1', List.getElem?_eq_getElem h1, wrap_i64, w, e, hs, c]
      · have : badE g (l.drop i) = true := by unfold badE; rw [hd, List.any_cons, Bool.eq_false_iff.2 e, Bool.not_false, Bool.true_or]
        rw [if_pos this]; exact ⟨i, rfl⟩
theorem w28 (β γ : Bool) (g : Gr) (l : List (Int × Int)) (hl : l.length < 4611686018427387904) : ∃ z : Int, call 28 [edges γ l, .fn (.func 27) [] [.ptr 0]] (GH β g) = some ([.d (I z)], GH β g) ∧ (badE g l = true ↔ 0 ≤ z) := by
  obtain ⟨r, e1, e2⟩ := loop28 β γ g l hl l.length 0 (by omega)
  rw [eq28 _ _ rfl]
  simp only [edges, I, List.drop_zero, Int.cast_ofNat_Int] at e1 e2
  have hn := GH_len β g
  by_cases h : badE g l = true
  · rw [if_pos h] at e2
    obtain ⟨j, rfl⟩ := e2
    refine ⟨j, ?_, by simp [h]⟩
    simp -implicitDefEqProofs [go_sem, edges, I, e1, trunc, hn]
  · rw [if_neg h] at e2
    subst e2
    refine ⟨-1, ?_, by simp [h]⟩
    simp -implicitDefEqProofs [go_sem, edges, I, e1, trunc, hn]
theorem w26 (β : Bool) (g : Gr) (l : List (Int × Int)) (hl : l.length < 4611686018427387904) : call 26 [edges β l, .fn (.func 27) [] [.ptr 0]] (GH β g) = some ([.d (.bool (badE g l))], GH β g) := by
  obtain ⟨z, e1, e2⟩ := w28 β β g l hl
  have hn := GH_len β g
  have hs := sameObs_self (GH β g)
  have hz : badE g l = decide (0 ≤ z) := by rw [Bool.eq_iff_iff]; simp [e2]
  have c : canon false [.sl β (l.map edge), .fn (.func 27) [] [.ptr 0]] = [.sl β (l.map edge), .fn (.func 27) [] [.ptr 0]] := by cases β <;> simp [go_sem, canon]
  rw [eq26 _ _ rfl]
  simp only [edges, I] at e1
  simp -implicitDefEqProofs [go_sem, edges, I, e1, trunc, hn, hs, c, hz]
end Go.Fair

namespace Go.Fair
open Go Go.Am Go.Proofs
set_option linter.unusedSimpArgs false
set_option linter.unusedVariables false
/-- of a size that can be gone through -/
def Fit (g : Gr) : Prop := g.init.length < 2097152 ∧ g.es.length < 2097152 ∧ ∀ l ∈ g.es, l.length < 2097152
def badN (g : Gr) (l : List Int) : Bool := l.any fun n => !nodeOk g n
def badEs (g : Gr) (l : List (List (Int × Int))) : Bool := l.any (badE g)
theorem any_drop {α : Type} (f : α → Bool) (l : List α) (i : Nat) (h : i < l.length) : (l.drop i).any f = (f l[i] || (l.drop (i + 1)).any f) := by
  rw [List.drop_eq_getElem_cons h, List.any_cons]
def X15a (β : Bool) (g : Gr) : Ex × St := (.exit 0, ⟨[(1, .d (.ptr 0)), (19, .d (ints β g.init)), (20, .d (I g.init.length)), (21, .d (I g.init.length)), (22, .d (.bool false))], [], GH β g⟩)
def X15b (β : Bool) (g : Gr) : Ex × St := (.exit 2, ⟨[(1, .d (.ptr 0)), (31, .d (edgess β g.es)), (32, .d (I g.es.length)), (33, .d (I g.es.length)), (34, .d (.bool false))], [], GH β g⟩)
def R15 (β : Bool) (g : Gr) : Ex × St := (.ret, ⟨[(2, .d (I 10))], [], GH β g⟩)
theorem loop15a (β : Bool) (g : Gr) (hl : Fit g) : ∀ (n i : Nat), i + n = g.init.length →
    codeX P hints hint15 L15_0 ⟨[(1, .d (.ptr 0)), (19, .d (ints β g.init)), (20, .d (I g.init.length)), (21, .d (I i))], [], GH β g⟩ = some (if badN g (g.init.drop i) = true then R15 β g else X15a β g) := by
  intro n
  have hf := hl.1
  induction n with
  | zero =>
    intro i hi
    have h0 : i = g.init.length := by omega
    subst h0
    rw [L15_0_eq]
    have : badN g (g.init.drop g.init.length) = false := by simp [badN]
    rw [this]
    simp -implicitDefEqProofs [go_sem, ints, I, X15a]
  | succ n ih =>
    intro i hi
    have h1 : i < g.init.length := by omega
    have h1' : (i : Int) < (g.init.length : Int) := by omega
    have e1 := ih (i + 1) (by omega)
    rw [L15_0_eq]
    have w := w25 β g g.init[i] [.lock]
    have c := canon_graph β g g.init[i]
    have hd : badN g (g.init.drop i) = (!nodeOk g g.init[i] || badN g (g.init.drop (i + 1))) := any_drop _ _ _ h1
    rw [hd]
    simp only [graph, ints, edgess, labs, I, GH, Int.natCast_add, Int.cast_ofNat_Int] at w e1
    by_cases e : nodeOk g g.init[i] = true
    · simp only [e, Bool.not_true, Bool.false_or]
      rw [← e1]
      simp -implicitDefEqProofs (disch := omega) [go_sem, ints, I, graph, edgess, labs, GH, h1', List.getElem?_eq_getElem h1, wrap_i64, w, e, c]
    · simp only [Bool.eq_false_iff.2 e, Bool.not_false, Bool.true_or, if_true]
      simp -implicitDefEqProofs (disch := omega) [go_sem, ints, I, graph, edgess, labs, GH, h1', List.getElem?_eq_getElem h1, wrap_i64, w, e, c, R15]
theorem loop15b (β : Bool) (g : Gr) (hl : Fit g) : ∀ (n i : Nat), i + n = g.es.length →
    codeX P hints hint15 L15_1 ⟨[(1, .d (.ptr 0)), (31, .d (edgess β g.es)), (32, .d (I g.es.length)), (33, .d (I i))], [], GH β g⟩ = some (if badEs g (g.es.drop i) = true then R15 β g else X15b β g) := by
  intro n
  have hf := hl.2.1
  induction n with
  | zero =>
    intro i hi
    have h0 : i = g.es.length := by omega
    subst h0
    rw [L15_1_eq]
    have : badEs g (g.es.drop g.es.length) = false := by simp [badEs]
    rw [this]
    simp -implicitDefEqProofs [go_sem, edgess, I, X15b]
  | succ n ih =>
    intro i hi
    have h1 : i < g.es.length := by omega
    have h1' : (i : Int) < (g.es.length : Int) := by omega
    have e1 := ih (i + 1) (by omega)
    rw [L15_1_eq]
    have w := w26 β g g.es[i] (by have := hl.2.2 _ (List.getElem_mem h1); omega)
    have c : canon false [.sl β (g.es[i].map edge), .fn (.func 27) [] [.ptr 0]] = [.sl β (g.es[i].map edge), .fn (.func 27) [] [.ptr 0]] := by cases β <;> simp [go_sem, canon]
    have hd : badEs g (g.es.drop i) = (badE g g.es[i] || badEs g (g.es.drop (i + 1))) := any_drop _ _ _ h1
    have hs := sameObs_self (GH β g)
    rw [hd]
    simp only [graph, ints, edgess, edges, labs, I, GH, Int.natCast_add, Int.cast_ofNat_Int] at w e1 hs
    by_cases e : badE g g.es[i] = true
    · simp only [e, Bool.true_or, if_true]
      simp -implicitDefEqProofs (disch := omega) [go_sem, ints, I, graph, edgess, edges, labs, GH, h1', List.getElem?_eq_getElem h1, wrap_i64, w, e, c, hs, R15]
    · simp only [Bool.eq_false_iff.2 e, Bool.false_or]
      rw [← e1]
      simp -implicitDefEqProofs (disch := omega) [go_sem, ints, I, graph, edgess, edges, labs, GH, h1', List.getElem?_eq_getElem h1, wrap_i64, w, e, c, hs]
def checkG (g : Gr) : Int := if 65536 < g.es.length then 11 else if g.ls.length ≠ g.es.length then 3 else if badN g g.init = true then 10 else if badEs g g.es = true then 10 else 0
theorem w15 (β : Bool) (g : Gr) (hl : Fit g) : call 15 [graph β g] [] = some ([.d (I (checkG g))], []) := by
  rw [eq15 _ _ rfl]
  have l1 := loop15a β g hl g.init.length 0 (by omega)
  have l2 := loop15b β g hl g.es.length 0 (by omega)
  simp only [graph, ints, edgess, labs, I, GH, List.drop_zero, Int.cast_ofNat_Int] at l1 l2
  unfold checkG
  by_cases c1 : 65536 < g.es.length
  · have c1' : (65536 : Int) < g.es.length := by omega
    simp -implicitDefEqProofs [go_sem, ints, I, graph, labs, edgess, c1, c1', trunc, T.lows, T.low, D.low]
  · have c1' : ¬ (65536 : Int) < g.es.length := by omega
    by_cases c2 : g.ls.length ≠ g.es.length
    · have c2' : (g.ls.length : Int) ≠ g.es.length := by omega
      simp -implicitDefEqProofs [go_sem, ints, I, graph, labs, edgess, c1, c1', c2, c2', trunc, T.lows, T.low, D.low]
    · have c2' : g.ls.length = g.es.length := by omega
      by_cases c3 : badN g g.init = true
      · rw [if_pos c3] at l1
        simp -implicitDefEqProofs [go_sem, ints, I, graph, labs, edgess, c1, c1', c2', c3, trunc, T.lows, T.low, D.low, l1, R15, GH]
      · rw [if_neg c3] at l1
        by_cases c4 : badEs g g.es = true
        · rw [if_pos c4] at l2
          simp -implicitDefEqProofs [go_sem, ints, I, graph, labs, edgess, c1, c1', c2', c3, c4, trunc, T.lows, T.low, D.low, l1, l2, R15, X15a, GH]
        · rw [if_neg c4] at l2
          simp -implicitDefEqProofs [go_sem, ints, I, graph, labs, edgess, c1, c1', c2', c3, c4, trunc, T.lows, T.low, D.low, l1, l2, R15, X15a, X15b, GH]
end Go.Fair

namespace Go.Fair
open Go Go.Am Go.Proofs
set_option linter.unusedSimpArgs false
set_option linter.unusedVariables false
def C14 (β : Bool) (g : Gr) : List ((Nat × Nat) × T) := [((1, 0), .own [.d (graph β g)])]
def L1 : SV := .loc (.l 1 0) [] 0 0
def R14 (H : List Ob) : Ex × St := (.ret, ⟨[(2, .d (I 10))], [], H⟩)
def X14a (β : Bool) (g : Gr) (H : List Ob) : Ex × St := (.exit 0, ⟨[(1, L1), (3, .d (I g.init.length)), (21, .d (.bool false))], C14 β g, H⟩)
def X14b (β : Bool) (g : Gr) (n : Nat) (l : List (Int × Int)) (H : List Ob) : Ex × St := (.exit 4, ⟨[(1, L1), (4, .d (I n)), (5, .d (I l.length)), (46, .d (.bool false))], C14 β g, H⟩)
def X14c (β : Bool) (g : Gr) (H : List Ob) : Ex × St := (.exit 2, ⟨[(1, L1), (4, .d (I g.es.length)), (36, .d (.bool false))], C14 β g, H⟩)
theorem loop14a (β : Bool) (g : Gr) (H : List Ob) (hl : Fit g) : ∀ (n i : Nat), i + n = g.init.length →
    codeX P hints hint14 L14_0 ⟨[(1, L1), (3, .d (I i))], C14 β g, H⟩ = some (if badN g (g.init.drop i) = true then R14 H else X14a β g H) := by
  intro n
  have hf := hl.1
  induction n with
  | zero =>
    intro i hi
    have h0 : i = g.init.length := by omega
    subst h0
    rw [L14_0_eq]
    have : badN g (g.init.drop g.init.length) = false := by simp [badN]
    rw [this]
    simp -implicitDefEqProofs [go_sem, ints, I, graph, edgess, labs, X14a, C14, L1]
  | succ n ih =>
    intro i hi
    have h1 : i < g.init.length := by omega
    have h1' : (i : Int) < (g.init.length : Int) := by omega
    have e1 := ih (i + 1) (by omega)
    rw [L14_0_eq]
    have w := w24 β g g.init[i] (lockAll H)
    have w' := w24 β g g.init[i] H
    have hs := sameObs_self H
    have c := canon_graph β g g.init[i]
    have hd : badN g (g.init.drop i) = (!nodeOk g g.init[i] || badN g (g.init.drop (i + 1))) := any_drop _ _ _ h1
    rw [hd]
    simp only [graph, ints, edgess, labs, I, C14, L1, Int.natCast_add, Int.cast_ofNat_Int] at w w' e1
    by_cases e : nodeOk g g.init[i] = true
    · simp only [e, Bool.not_true, Bool.false_or]
      rw [← e1]
      simp -implicitDefEqProofs (disch := omega) [go_sem, ints, I, graph, edgess, labs, C14, L1, h1', List.getElem?_eq_getElem h1, wrap_i64, w, w', hs, e, c]
    · simp only [Bool.eq_false_iff.2 e, Bool.not_false, Bool.true_or, if_true]
      simp -implicitDefEqProofs (disch := omega) [go_sem, ints, I, graph, edgess, labs, C14, L1, h1', List.getElem?_eq_getElem h1, wrap_i64, w, w', hs, e, c, R14]
theorem loop14b (β : Bool) (g : Gr) (H : List Ob) (hl : Fit g) (m : Nat) (hm : m < g.es.length) : ∀ (n i : Nat), i + n = g.es[m].length →
    codeX P hints hint14 L14_1 ⟨[(1, L1), (4, .d (I m)), (5, .d (I i))], C14 β g, H⟩ = some (if badE g (g.es[m].drop i) = true then R14 H else X14b β g m g.es[m] H) := by
  intro n
  have hf := hl.2.2 _ (List.getElem_mem hm)
  have hm' : (m : Int) < (g.es.length : Int) := by omega
  induction n with
  | zero =>
    intro i hi
    have h0 : i = g.es[m].length := by omega
    subst h0
    rw [L14_1_eq]
    have : badE g (g.es[m].drop g.es[m].length) = false := by simp [badE]
    rw [this]
    simp -implicitDefEqProofs [go_sem, ints, I, graph, edgess, edges, labs, X14b, C14, L1, List.getElem?_eq_getElem hm]
  | succ n ih =>
    intro i hi
    have h1 : i < g.es[m].length := by omega
    have h1' : (i : Int) < (g.es[m].length : Int) := by omega
    have e1 := ih (i + 1) (by omega)
    rw [L14_1_eq]
    have w := w24 β g g.es[m][i].1 (lockAll H)
    have w' := w24 β g g.es[m][i].1 H
    have hs := sameObs_self H
    have c := canon_graph β g g.es[m][i].1
    have hd : badE g (g.es[m].drop i) = (!nodeOk g g.es[m][i].1 || badE g (g.es[m].drop (i + 1))) := any_drop _ _ _ h1
    rw [hd]
    simp only [graph, ints, edgess, labs, I, C14, L1, Int.natCast_add, Int.cast_ofNat_Int] at w w' e1
    by_cases e : nodeOk g g.es[m][i].1 = true
    · simp only [e, Bool.not_true, Bool.false_or]
      rw [← e1]
      simp -implicitDefEqProofs (disch := omega) [go_sem, ints, I, graph, edgess, edges, edge, labs, C14, L1, h1', List.getElem?_eq_getElem h1, List.getElem?_eq_getElem hm, wrap_i64, w, w', hs, e, c]
    · simp only [Bool.eq_false_iff.2 e, Bool.not_false, Bool.true_or, if_true]
      simp -implicitDefEqProofs (disch := omega) [go_sem, ints, I, graph, edgess, edges, edge, labs, C14, L1, h1', List.getElem?_eq_getElem h1, List.getElem?_eq_getElem hm, wrap_i64, w, w', hs, e, c, R14]
theorem loop14c (β : Bool) (g : Gr) (H : List Ob) (hl : Fit g) : ∀ (n i : Nat), i + n = g.es.length →
    codeX P hints hint14 L14_2 ⟨[(1, L1), (4, .d (I i))], C14 β g, H⟩ = some (if badEs g (g.es.drop i) = true then R14 H else X14c β g H) := by
  intro n
  have hf := hl.2.1
  induction n with
  | zero =>
    intro i hi
    have h0 : i = g.es.length := by omega
    subst h0
    rw [L14_2_eq]
    have : badEs g (g.es.drop g.es.length) = false := by simp [badEs]
    rw [this]
    simp -implicitDefEqProofs [go_sem, ints, I, graph, edgess, labs, X14c, C14, L1]
  | succ n ih =>
    intro i hi
    have h1 : i < g.es.length := by omega
    have h1' : (i : Int) < (g.es.length : Int) := by omega
    have e1 := ih (i + 1) (by omega)
    rw [L14_2_eq]
    have w := loop14b β g H hl i h1 g.es[i].length 0 (by omega)
    have hd : badEs g (g.es.drop i) = (badE g g.es[i] || badEs g (g.es.drop (i + 1))) := any_drop _ _ _ h1
    rw [hd]
    simp only [graph, ints, edgess, labs, I, C14, L1, Int.natCast_add, Int.cast_ofNat_Int, List.drop_zero] at w e1
    by_cases e : badE g g.es[i] = true
    · simp only [e, Bool.true_or, if_true] at w ⊢
      simp -implicitDefEqProofs (disch := omega) [go_sem, ints, I, graph, edgess, labs, C14, L1, h1', List.getElem?_eq_getElem h1, wrap_i64, w, R14]
    · simp only [Bool.eq_false_iff.2 e, Bool.false_or] at w ⊢
      rw [← e1]
      simp -implicitDefEqProofs (disch := omega) [go_sem, ints, I, graph, edgess, labs, C14, L1, h1', List.getElem?_eq_getElem h1, wrap_i64, w, X14b]
theorem w14 (β : Bool) (g : Gr) (H : List Ob) (hl : Fit g) : call 14 [graph β g] H = some ([.d (I (checkG g))], H) := by
  rw [eq14 _ _ rfl]
  have l1 := loop14a β g H hl g.init.length 0 (by omega)
  have l2 := loop14c β g H hl g.es.length 0 (by omega)
  simp only [graph, ints, edgess, labs, I, C14, L1, List.drop_zero, Int.cast_ofNat_Int] at l1 l2
  unfold checkG
  by_cases c1 : 65536 < g.es.length
  · have c1' : (65536 : Int) < g.es.length := by omega
    simp -implicitDefEqProofs [go_sem, ints, I, graph, labs, edgess, c1, c1', trunc]
  · have c1' : ¬ (65536 : Int) < g.es.length := by omega
    by_cases c2 : g.ls.length ≠ g.es.length
    · have c2' : (g.ls.length : Int) ≠ g.es.length := by omega
      simp -implicitDefEqProofs [go_sem, ints, I, graph, labs, edgess, c1, c1', c2, c2', trunc]
    · have c2' : g.ls.length = g.es.length := by omega
      by_cases c3 : badN g g.init = true
      · rw [if_pos c3] at l1
        simp -implicitDefEqProofs [go_sem, ints, I, graph, labs, edgess, c1, c1', c2', c3, trunc, l1, R14]
      · rw [if_neg c3] at l1
        by_cases c4 : badEs g g.es = true
        · rw [if_pos c4] at l2
          simp -implicitDefEqProofs [go_sem, ints, I, graph, labs, edgess, c1, c1', c2', c3, c4, trunc, l1, l2, R14, X14a, C14, L1]
        · rw [if_neg c4] at l2
          simp -implicitDefEqProofs [go_sem, ints, I, graph, labs, edgess, c1, c1', c2', c3, c4, trunc, l1, l2, R14, X14a, X14c, C14, L1]
end Go.Fair

namespace Go.Fair
open Go Go.Am Go.Proofs
set_option linter.unusedSimpArgs false
set_option linter.unusedVariables false
def B (b : Bool) : D := .bool b
def bools (β : Bool) (l : List Bool) : D := .sl β (l.map B)
def boolss (β : Bool) (l : List (List Bool)) : D := .sl β (l.map (bools β))
@[go_sem] theorem imms_B (l : List Bool) : D.imms (l.map B) = true := by induction l <;> simp_all [D.imms, D.imm, B]
@[go_sem] theorem lends_B (l : List Bool) : D.lends (l.map B) = l.map B := by induction l <;> simp_all [D.lends, D.lend, B]
@[go_sem] theorem imms_bools (l : List (List Bool)) : D.imms (l.map (bools false)) = true := by induction l <;> simp_all [D.imms, D.imm, bools, imms_B]
@[go_sem] theorem lends_bools (β : Bool) (l : List (List Bool)) : D.lends (l.map (bools β)) = l.map (bools true) := by induction l <;> simp_all [D.lends, D.lend, bools, lends_B]
def badL (k : Nat) (l : List (List Bool)) : Bool := l.any fun x => x.length != k
def fitsB (g : Gr) (on : List (List Bool)) (k : Nat) : Bool := decide (on.length = g.es.length) && !badL k on
def X16 (β : Bool) (on : List (List Bool)) (refs : List Int) (H : List Ob) : Ex × St := (.exit 0, ⟨[(2, .d (ints β refs)), (15, .d (boolss β on)), (16, .d (I on.length)), (17, .d (I on.length)), (18, .d (.bool false))], [], H⟩)
def R16 (H : List Ob) : Ex × St := (.ret, ⟨[(6, .d (.bool false))], [], H⟩)
theorem loop16 (β : Bool) (on : List (List Bool)) (refs : List Int) (H : List Ob) (hf : on.length < 4611686018427387904) : ∀ (n i : Nat), i + n = on.length →
    codeX P hints hint16 L16_0 ⟨[(2, .d (ints β refs)), (15, .d (boolss β on)), (16, .d (I on.length)), (17, .d (I i))], [], H⟩ = some (if badL refs.length (on.drop i) = true then R16 H else X16 β on refs H) := by
  intro n
  induction n with
  | zero =>
    intro i hi
    have h0 : i = on.length := by omega
    subst h0
    rw [L16_0_eq]
    have : badL refs.length (on.drop on.length) = false := by simp [badL]
    rw [this]
    simp -implicitDefEqProofs [go_sem, ints, I, boolss, X16]
  | succ n ih =>
    intro i hi
    have h1 : i < on.length := by omega
    have h1' : (i : Int) < (on.length : Int) := by omega
    have e1 := ih (i + 1) (by omega)
    rw [L16_0_eq]
    have hd : badL refs.length (on.drop i) = ((on[i].length != refs.length) || badL refs.length (on.drop (i + 1))) := any_drop _ _ _ h1
    rw [hd]
    simp only [ints, boolss, I, Int.natCast_add, Int.cast_ofNat_Int] at e1
    by_cases e : on[i].length = refs.length
    · simp only [e, bne_self_eq_false, Bool.false_or]
      rw [← e1]
      simp -implicitDefEqProofs (disch := omega) [go_sem, ints, I, boolss, bools, h1', List.getElem?_eq_getElem h1, wrap_i64, e]
    · have e' : (on[i].length : Int) ≠ refs.length := by omega
      simp only [bne_iff_ne.2 e, Bool.true_or, if_true]
      simp -implicitDefEqProofs (disch := omega) [go_sem, ints, I, boolss, bools, h1', List.getElem?_eq_getElem h1, wrap_i64, e, e', R16]
theorem w16 (β : Bool) (g : Gr) (on : List (List Bool)) (refs : List Int) (H : List Ob) (hf : on.length < 4611686018427387904) : call 16 [graph β g, boolss β on, ints β refs] H = some ([.d (.bool (fitsB g on refs.length))], H) := by
  rw [eq16 _ _ rfl]
  have l1 := loop16 β on refs H hf on.length 0 (by omega)
  simp only [ints, boolss, I, List.drop_zero, Int.cast_ofNat_Int] at l1
  unfold fitsB
  by_cases c1 : on.length = g.es.length
  · by_cases c2 : badL refs.length on = true
    · rw [if_pos c2, R16] at l1
      rw [c1] at l1
      simp -implicitDefEqProofs [go_sem, ints, I, graph, labs, edgess, boolss, c1, c2, trunc, l1]
    · rw [if_neg c2, X16] at l1
      rw [c1] at l1
      simp -implicitDefEqProofs [go_sem, ints, I, graph, labs, edgess, boolss, c1, c2, trunc, l1]
  · have c1' : (on.length : Int) ≠ g.es.length := by omega
    simp -implicitDefEqProofs [go_sem, ints, I, graph, labs, edgess, boolss, c1, c1', trunc]
theorem canon_graph1 (β : Bool) (g : Gr) : canon false [.agg [.sl β (g.init.map I), .sl β (g.es.map (edges β)), .sl β (g.ls.map fun n => .int .u64 n)]] = [.agg [.sl β (g.init.map I), .sl β (g.es.map (edges β)), .sl β (g.ls.map fun n => .int .u64 n)]] := by
  cases β <;> simp [go_sem, canon]
theorem canon_fits (β : Bool) (g : Gr) (on : List (List Bool)) (refs : List Int) : canon false [.agg [.sl β (g.init.map I), .sl β (g.es.map (edges β)), .sl β (g.ls.map fun n => .int .u64 n)], .sl β (on.map (bools β)), .sl β (refs.map I)] = [.agg [.sl β (g.init.map I), .sl β (g.es.map (edges β)), .sl β (g.ls.map fun n => .int .u64 n)], .sl β (on.map (bools β)), .sl β (refs.map I)] := by
  cases β <;> simp [go_sem, canon]
theorem canon_first (β : Bool) (init : List Int) : canon false [.ptr 1, .sl β (init.map I)] = [.ptr 1, .sl β (init.map I)] := by
  cases β <;> simp [go_sem, canon]
end Go.Fair

namespace Go.Fair
open Go Go.Am Go.Proofs
set_option linter.unusedSimpArgs false
set_option linter.unusedVariables false
def FitA (g : Gr) : Prop := ∀ l ∈ g.es, ∀ e ∈ l, -9223372036854775808 ≤ e.2 ∧ e.2 ≤ 9223372036854775807
def eds (l : List (Int × Int)) : List T := l.map fun e => .d (edge e)
@[go_sem] theorem eds_nil : eds [] = [] := rfl
@[go_sem] theorem eds_len (l : List (Int × Int)) : (eds l).length = l.length := by simp [eds]
@[go_sem] theorem eds_snoc (l : List (Int × Int)) (a b : Int) : eds l ++ [.d (.agg [.int .i64 a, .int .i64 b])] = eds (l ++ [(a, b)]) := by simp [eds, edge, I]
@[go_sem] theorem uniform_eds (l : List (Int × Int)) : uniform 2 (eds l) = true := by
  induction l with
  | nil => rfl
  | cons x l ih => simp only [eds, List.map_cons, uniform_cons] at ih ⊢; rw [ih]; rfl
@[go_sem] theorem eds_take (l : List (Int × Int)) : (eds l).take l.length = eds l := List.take_of_length_le (by rw [eds_len]; exact Nat.le_refl _)
@[go_sem] theorem frzs_eds (l : List (Int × Int)) : T.frzs false (eds l) = some (l.map edge) := by
  induction l with
  | nil => rfl
  | cons a r ih => simp only [eds, List.map_cons, T.frzs, T.frz] at ih ⊢; rw [ih]; rfl
def O6 : T := .own [.agg [.own [], .own [], .own []]]
/-- inside of the loop over a node's edges -/
def S8 (β : Bool) (g : Gr) (on : List (List Bool)) (refs : List Int) (o : T) (i : Nat) (n : Int) (ls : List (Int × Int)) (l : PairsL) (es : List (Int × Int)) (k : Nat) : St :=
  ⟨[(1, .d (boolss β on)), (2, .d (ints β refs)), (3, .loc (.l 3 0) [] 0 0), (6, .loc (.l 6 0) [] 0 0), (11, .d (.ptr 1)), (12, .loc (.l 12 0) [] 0 0), (13, .d (I i)), (14, .d (I n)), (15, .bor (.l 15 0) [] 0 es.length), (73, .d (edges β ls)), (74, .d (I ls.length)), (75, .d (I k))],
   [((3, 0), .own [.d (graph β g)]), ((6, 0), O6), ((12, 0), .own [o]), ((15, 0), .own (eds es))], HM l⟩
theorem s8 (β : Bool) (g : Gr) (on : List (List Bool)) (refs : List Int) (o : T) (i : Nat) (n : Int) (ls : List (Int × Int)) (l : PairsL) (es : List (Int × Int)) (k : Nat) (a b : Int) (hk : k < ls.length) (he : ls[k]? = some (a, b)) (hl : l.length < 8796093022208) (hls : ls.length < 2097152) (hes : es.length < 2097152)
    (ha : -9223372036854775808 ≤ b) (ha' : b ≤ 9223372036854775807) :
    codeX P hints hint8 (.seq (r8 16) (.seq (.cond (.tmp 76) .skip (.exit 3)) (.seq (.block 4 (.seq (r8 17) (r8 18))) (r8 19)))) (S8 β g on refs o i n ls l es k) = some (.normal, S8 β g on refs o i n ls (addP l (a, refOf b)) (es ++ [(((numOf l (a, refOf b) : Nat) : Int), b)]) (k + 1)) := by
  have h1 : (k : Int) < (ls.length : Int) := by omega
  have w := w18 l (a, refOf b) hl
  have w2 := w19 b (lockAll (HM l)) ha ha'
  have hs := sameHM l (addP l (a, refOf b))
  have c : canon false [.ptr 1, .agg [.int .i64 a, .int .i64 (refOf b)]] = [.ptr 1, .agg [.int .i64 a, .int .i64 (refOf b)]] := by simp [go_sem, canon]
  have h2 : (es.length + 1) * 16 ≤ 140737488355328 := by omega
  have h3 : es.length ≤ 9223372036854775806 := by omega
  have h4 : IntKind.i64.wrap ((k : Int) + 1) = k + 1 := wrap_i64 (by omega) (by omega)
  simp only [pr, I] at w w2
  generalize (numOf l (a, refOf b) : Nat) = q at w ⊢
  simp -implicitDefEqProofs (maxSteps := 400000) [go_sem, S8, ints, boolss, edges, edge, I, h1, he, w, w2, hs, c, h2, h3, h4]
def stI (s : PairsL × List (Int × Int)) (e : Int × Int) : PairsL × List (Int × Int) := (addP s.1 (e.1, refOf e.2), s.2 ++ [(((numOf s.1 (e.1, refOf e.2) : Nat) : Int), e.2)])
def inner (l : PairsL) (ls : List (Int × Int)) : PairsL × List (Int × Int) := ls.foldl stI (l, [])
theorem inner_snoc (l : PairsL) (ls : List (Int × Int)) (k : Nat) (h : k < ls.length) : inner l (ls.take (k + 1)) = stI (inner l (ls.take k)) ls[k] := by
  unfold inner
  rw [List.take_add_one, List.getElem?_eq_getElem h, List.foldl_append]
  rfl
theorem inner_len (l : PairsL) (ls : List (Int × Int)) : (inner l ls).1.length ≤ l.length + ls.length ∧ (inner l ls).2.length = ls.length := by
  have : ∀ (s : PairsL × List (Int × Int)), (ls.foldl stI s).1.length ≤ s.1.length + ls.length ∧ (ls.foldl stI s).2.length = s.2.length + ls.length := by
    induction ls with
    | nil => intro s; simp
    | cons e r ih =>
      intro s
      have h1 := ih (stI s e)
      have h2 := addP_len s.1 (e.1, refOf e.2)
      have h3 : (stI s e).1 = addP s.1 (e.1, refOf e.2) := rfl
      have h4 : (stI s e).2.length = s.2.length + 1 := by simp [stI]
      rw [h3, h4] at h1
      simp only [List.foldl_cons, List.length_cons]
      omega
  have h := this (l, [])
  simpa [inner] using h
theorem in8 (β : Bool) (g : Gr) (on : List (List Bool)) (refs : List Int) (o : T) (i : Nat) (n : Int) (ls : List (Int × Int)) (l : PairsL) (hl : l.length < 1099511627776) (hls : ls.length < 2097152)
    (ha : ∀ e ∈ ls, -9223372036854775808 ≤ e.2 ∧ e.2 ≤ 9223372036854775807) :
    codeX P hints hint8 L8_0 (S8 β g on refs o i n ls l [] 0) = some (.exit 3, let s := S8 β g on refs o i n ls (inner l ls).1 (inner l ls).2 ls.length; ⟨s.env ++ [(76, .d (.bool false))], s.ct, s.H⟩) := by
  have h0 := loop_iter L8_0_eq (fun k => S8 β g on refs o i n ls (inner l (ls.take k)).1 (inner l (ls.take k)).2 k) ls.length (fun k hk => by
    have hlen := inner_len l (ls.take k)
    have h2 : (ls.take k).length ≤ k := by simp [List.length_take]; omega
    have h3 := ha _ (List.getElem_mem hk)
    show _ = some (Ex.normal, S8 β g on refs o i n ls (inner l (ls.take (k + 1))).1 (inner l (ls.take (k + 1))).2 (k + 1))
    rw [inner_snoc l ls k hk]
    exact s8 β g on refs o i n ls _ _ k _ _ hk (List.getElem?_eq_getElem hk) (by omega) hls (by omega) h3.1 h3.2)
  rw [List.take_length] at h0
  refine Eq.trans (show _ = _ from h0) ?_
  rw [L8_0_eq]
  simp -implicitDefEqProofs [go_sem, S8, ints, boolss, edges, I, O6]
end Go.Fair

namespace Go.Fair
open Go Go.Am Go.Proofs
set_option linter.unusedSimpArgs false
set_option linter.unusedVariables false
def oes (l : List (List (Int × Int))) : List T := l.map fun e => .d (edges false e)
def ols (l : List Int) : List T := l.map fun n => .d (.int .u64 n)
@[go_sem] theorem oes_nil : oes [] = [] := rfl
@[go_sem] theorem ols_nil : ols [] = [] := rfl
@[go_sem] theorem oes_len (l : List (List (Int × Int))) : (oes l).length = l.length := by simp [oes]
@[go_sem] theorem ols_len (l : List Int) : (ols l).length = l.length := by simp [ols]
@[go_sem] theorem oes_snoc (l : List (List (Int × Int))) (e : List (Int × Int)) : oes l ++ [.d (.sl false (e.map edge))] = oes (l ++ [e]) := by simp [oes, edges]
@[go_sem] theorem ols_snoc (l : List Int) (n : Int) : ols l ++ [.d (.int .u64 n)] = ols (l ++ [n]) := by simp [ols]
@[go_sem] theorem uniform_oes (l : List (List (Int × Int))) : uniform 1 (oes l) = true := by
  induction l with
  | nil => rfl
  | cons x l ih => simp only [oes, List.map_cons, uniform_cons] at ih ⊢; rw [ih]; rfl
@[go_sem] theorem uniform_ols (l : List Int) : uniform 1 (ols l) = true := by
  induction l with
  | nil => rfl
  | cons x l ih => simp only [ols, List.map_cons, uniform_cons] at ih ⊢; rw [ih]; rfl
@[go_sem] theorem oes_take (l : List (List (Int × Int))) : (oes l).take l.length = oes l := List.take_of_length_le (by rw [oes_len]; exact Nat.le_refl _)
@[go_sem] theorem ols_take (l : List Int) : (ols l).take l.length = ols l := List.take_of_length_le (by rw [ols_len]; exact Nat.le_refl _)
def oT (n0 : Nat) (oe : List (List (Int × Int))) (ol : List Int) : T := if oe = [] then .d (.agg [ints false (ran n0), .nils, .nils]) else .agg [.d (ints false (ran n0)), .own (oes oe), .own (ols ol)]
def So (β : Bool) (g : Gr) (on : List (List Bool)) (refs : List Int) (n0 : Nat) (i : Nat) (l : PairsL) (oe : List (List (Int × Int))) (ol : List Int) : St :=
  ⟨[(1, .d (boolss β on)), (2, .d (ints β refs)), (3, .loc (.l 3 0) [] 0 0), (6, .loc (.l 6 0) [] 0 0), (11, .d (.ptr 1)), (12, .loc (.l 12 0) [] 0 0), (13, .d (I i))],
   [((3, 0), .own [.d (graph β g)]), ((6, 0), O6), ((12, 0), .own [oT n0 oe ol])], HM l⟩
theorem edge_take (l : List (Int × Int)) : (l.map edge).take l.length = l.map edge := List.take_of_length_le (by simp)
theorem prs_at (l : PairsL) (i : Nat) (a b : Int) (h : l[i]? = some (a, b)) : (prs l)[i]? = some (.d (.agg [.int .i64 a, .int .i64 b])) := by simp [prs, h, pr, I]
theorem so8 (β : Bool) (g : Gr) (on : List (List Bool)) (refs : List Int) (n0 : Nat) (i : Nat) (l : PairsL) (oe : List (List (Int × Int))) (ol : List Int) (hf : Fit g) (n r : Int) (ls : List (Int × Int)) (lab : Int)
    (hi : i < l.length) (he : l[i]? = some (n, r)) (hn : 0 ≤ n) (h1 : g.es[n.toNat]? = some ls) (h2 : g.ls[n.toNat]? = some lab) (hll : ls.length < 2097152) (ha : ∀ e ∈ ls, -9223372036854775808 ≤ e.2 ∧ e.2 ≤ 9223372036854775807)
    (hl : l.length ≤ 65536) (hl' : (inner l ls).1.length ≤ 65536) (hne : (inner l ls).1 ≠ []) (ho : oe.length = i) (ho' : ol.length = i) :
    codeX P hints hint8 (.seq (.seq (r8 11) (.cond (.tmp 58) .skip (.exit 1))) (.seq (.block 2 (.seq (r8 13) (.seq (r8 14) (.seq (.seq (r8 15) (.block 3 L8_0)) (.seq (.seq (r8 20) (.cond (.tmp 99) (.seq (r8 21) .ret) .skip)) (.seq (r8 22) (r8 23))))))) (r8 12))) (So β g on refs n0 i l oe ol) = some (.normal, So β g on refs n0 (i + 1) (inner l ls).1 (oe ++ [(inner l ls).2]) (ol ++ [lab])) := by
  have c1 : (i : Int) < (l.length : Int) := by omega
  have w := in8 β g on refs (oT n0 oe ol) i n ls l (by omega) hll ha
  have hne0 : l ≠ [] := fun h => by subst h; simp at hi
  have hp := prs_at l i n r he
  have h4 : IntKind.i64.wrap ((i : Int) + 1) = i + 1 := wrap_i64 (by omega) (by omega)
  have h5 : ¬ ((65536 : Int) < (inner l ls).1.length) := by omega
  have h6 : (oe.length + 1) * 24 ≤ 140737488355328 := by omega
  have h7 : oe.length ≤ 9223372036854775806 := by omega
  have h8 : (ol.length + 1) * 8 ≤ 140737488355328 := by omega
  have h9 : ol.length ≤ 9223372036854775806 := by omega
  have hlen := inner_len l ls
  simp only [S8, I, ints, boolss, edges, graph, edgess, labs, O6, Int.cast_ofNat_Int, List.length_nil, List.cons_append, List.nil_append, HM, mk, if_neg hne0, if_neg hne, eds_nil] at w
  generalize inner l ls = s at *
  obtain ⟨l', es⟩ := s
  simp only at *
  by_cases e : oe = []
  · subst e
    have : ol = [] := List.eq_nil_of_length_eq_zero (by rw [ho', ← ho]; rfl)
    subst this
    simp only [oT, if_true, ints] at w
    simp -implicitDefEqProofs (maxSteps := 400000) [go_sem, So, oT, HM, mk, hne0, hne, ints, boolss, edgess, graph, labs, edges, I, O6, c1, he, hp, w, h1, h2, h4, h5, hn, edge_take]
    exact ⟨rfl, rfl⟩
  · simp only [oT, if_neg e, ints] at w
    simp -implicitDefEqProofs (maxSteps := 400000) [go_sem, So, oT, HM, mk, hne0, hne, ints, boolss, edgess, graph, labs, edges, I, O6, c1, he, hp, w, h1, h2, h4, h5, hn, e, h6, h7, h8, h9, edge_take]
end Go.Fair

namespace Go.Fair
open Go Go.Am Go.Proofs
set_option linter.unusedSimpArgs false
set_option linter.unusedVariables false
/-- the pairs that there may be -/
def U (g : Gr) : PairsL := g.init.map (fun n => (n, -1)) ++ g.es.flatten.map fun e => (e.1, refOf e.2)
def Inv (g : Gr) (l : PairsL) : Prop := l.Nodup ∧ ∀ x ∈ l, x ∈ U g
theorem nodup_len {α : Type} [DecidableEq α] : ∀ (l m : List α), l.Nodup → (∀ x ∈ l, x ∈ m) → l.length ≤ m.length
  | [], m, _, _ => by simp
  | x :: l, m, hn, hs => by
    simp only [List.nodup_cons] at hn
    have h1 : x ∈ m := hs x (by simp)
    have := nodup_len l (m.erase x) hn.2 (fun y hy => by
      have hxy : y ≠ x := fun e => hn.1 (e ▸ hy)
      exact (List.mem_erase_of_ne hxy).2 (hs y (by simp [hy])))
    rw [List.length_erase_of_mem h1] at this
    have : 0 < m.length := List.length_pos_of_mem h1
    simp only [List.length_cons]; omega
theorem addP_inv {g : Gr} {l : PairsL} {x : Int × Int} (h : Inv g l) (hx : x ∈ U g) : Inv g (addP l x) := by
  unfold addP
  by_cases e : x ∈ l
  · rw [if_pos e]; exact h
  · rw [if_neg e]
    refine ⟨List.nodup_append.2 ⟨h.1, by simp, fun a ha b hb => ?_⟩, fun y hy => ?_⟩
    · simp only [List.mem_singleton] at hb; subst hb; exact fun e2 => e (e2 ▸ ha)
    · rcases List.mem_append.1 hy with h1 | h1
      · exact h.2 y h1
      · simp only [List.mem_singleton] at h1; subst h1; exact hx
theorem addP_ne {l : PairsL} {x : Int × Int} (h : l ≠ []) : addP l x ≠ [] := by
  unfold addP; split <;> simp [h]
theorem inner_fst (l : PairsL) (ls : List (Int × Int)) : (inner l ls).1 = ls.foldl (fun l e => addP l (e.1, refOf e.2)) l := by
  have : ∀ s : PairsL × List (Int × Int), (ls.foldl stI s).1 = ls.foldl (fun l e => addP l (e.1, refOf e.2)) s.1 := by
    induction ls with
    | nil => intro s; rfl
    | cons e r ih => intro s; simp only [List.foldl_cons, ih]; rfl
  exact this _
theorem inner_inv {g : Gr} {l : PairsL} {ls : List (Int × Int)} (h : Inv g l) (hs : ls ∈ g.es) : Inv g (inner l ls).1 := by
  rw [inner_fst]
  have : ∀ (r : List (Int × Int)) (l : PairsL), (∀ e ∈ r, e ∈ ls) → Inv g l → Inv g (r.foldl (fun l e => addP l (e.1, refOf e.2)) l) := by
    intro r
    induction r with
    | nil => intro l _ h; exact h
    | cons e r ih =>
      intro l hr h
      refine ih _ (fun x hx => hr x (by simp [hx])) (addP_inv h ?_)
      refine List.mem_append_right _ (List.mem_map.2 ⟨e, List.mem_flatten.2 ⟨ls, hs, hr e (by simp)⟩, rfl⟩)
  exact this ls l (fun _ h => h) h
theorem inner_ne {l : PairsL} {ls : List (Int × Int)} (h : l ≠ []) : (inner l ls).1 ≠ [] := by
  rw [inner_fst]
  induction ls generalizing l with
  | nil => exact h
  | cons e r ih => exact ih (addP_ne h)
theorem addP_le (l : PairsL) (x : Int × Int) : l.length ≤ (addP l x).length := by
  unfold addP
  split
  · exact Nat.le_refl _
  · simp
theorem inner_le (l : PairsL) (ls : List (Int × Int)) : l.length ≤ (inner l ls).1.length := by
  rw [inner_fst]
  induction ls generalizing l with
  | nil => exact Nat.le_refl _
  | cons e r ih => exact Nat.le_trans (addP_le l _) (ih (addP l (e.1, refOf e.2)))
theorem firstP_inv (g : Gr) : Inv g (firstP g.init) := by
  have : ∀ (r : List Int) (l : PairsL), (∀ e ∈ r, e ∈ g.init) → Inv g l → Inv g (r.foldl (fun l n => addP l (n, -1)) l) := by
    intro r
    induction r with
    | nil => intro l _ h; exact h
    | cons e r ih =>
      intro l hr h
      exact ih _ (fun x hx => hr x (by simp [hx])) (addP_inv h (List.mem_append_left _ (List.mem_map.2 ⟨e, hr e (by simp), rfl⟩)))
  exact this g.init [] (fun _ h => h) ⟨by simp, by simp⟩
def outer (g : Gr) : Nat → Nat → PairsL → List (List (Int × Int)) → List Int → PairsL × List (List (Int × Int)) × List Int
  | 0, _, l, oe, ol => (l, oe, ol)
  | f + 1, i, l, oe, ol => match l[i]? with
    | none => (l, oe, ol)
    | some x => outer g f (i + 1) (inner l (g.es.getD x.1.toNat [])).1 (oe ++ [(inner l (g.es.getD x.1.toNat [])).2]) (ol ++ [g.ls.getD x.1.toNat 0])
theorem U_ok {g : Gr} (h : checkG g = 0) : g.ls.length = g.es.length ∧ g.es.length ≤ 65536 ∧ ∀ x ∈ U g, 0 ≤ x.1 ∧ x.1 < g.es.length := by
  unfold checkG at h
  split at h
  · simp at h
  · split at h
    · simp at h
    · split at h
      · simp at h
      · split at h
        · simp at h
        · rename_i h1 h2 h3 h4
          refine ⟨by omega, by omega, fun x hx => ?_⟩
          have hk : nodeOk g x.1 = true := by
            rcases List.mem_append.1 hx with hx | hx
            · obtain ⟨n, hn, rfl⟩ := List.mem_map.1 hx
              simp only [badN, List.any_eq_true, not_exists, not_and] at h3
              simpa using h3 n hn
            · obtain ⟨e, he, rfl⟩ := List.mem_map.1 hx
              obtain ⟨ls, hls, he⟩ := List.mem_flatten.1 he
              simp only [badEs, badE, List.any_eq_true, not_exists, not_and] at h4
              simpa using h4 ls hls e he
          simpa [nodeOk] using hk
def Xo (β : Bool) (g : Gr) (on : List (List Bool)) (refs : List Int) (n0 : Nat) (r : PairsL × List (List (Int × Int)) × List Int) : Ex × St :=
  (.exit 1, let s := So β g on refs n0 r.1.length r.1 r.2.1 r.2.2; ⟨s.env ++ [(58, .d (.bool false))], s.ct, s.H⟩)
theorem outer_loop (β : Bool) (g : Gr) (on : List (List Bool)) (refs : List Int) (n0 : Nat) (hf : Fit g) (hA : FitA g) (hc : checkG g = 0) (hU : (U g).length ≤ 65536) : ∀ (f i : Nat) (l : PairsL) (oe : List (List (Int × Int))) (ol : List Int), (U g).length < f + i → i ≤ l.length → Inv g l → oe.length = i → ol.length = i →
    codeX P hints hint8 L8_1 (So β g on refs n0 i l oe ol) = some (Xo β g on refs n0 (outer g f i l oe ol)) ∧ Inv g (outer g f i l oe ol).1 ∧ (outer g f i l oe ol).2.1.length = (outer g f i l oe ol).1.length ∧ (outer g f i l oe ol).2.2.length = (outer g f i l oe ol).1.length := by
  intro f
  obtain ⟨hL, hE, hN⟩ := U_ok hc
  induction f with
  | zero =>
    intro i l oe ol h1 h2 h3
    have := nodup_len l (U g) h3.1 h3.2
    omega
  | succ f ih =>
    intro i l oe ol h1 h2 h3 ho ho'
    have hl := nodup_len l (U g) h3.1 h3.2
    by_cases hi : i < l.length
    · have he : l[i]? = some l[i] := List.getElem?_eq_getElem hi
      have hx := hN _ (h3.2 _ (List.getElem_mem hi))
      have hlt : l[i].1.toNat < g.es.length := by omega
      have hg : g.es.getD l[i].1.toNat [] = g.es[l[i].1.toNat] := by simp [List.getD, List.getElem?_eq_getElem hlt]
      have hg2 : g.ls.getD l[i].1.toNat 0 = g.ls[l[i].1.toNat] := by simp [List.getD, List.getElem?_eq_getElem (show l[i].1.toNat < g.ls.length by omega)]
      have hm := List.getElem_mem hlt
      have h3' := inner_inv h3 hm
      have hl' := nodup_len _ (U g) h3'.1 h3'.2
      have hne : l ≠ [] := fun h => by subst h; simp at hi
      have hlen : i + 1 ≤ (inner l g.es[l[i].1.toNat]).1.length := by
        have := inner_le l g.es[l[i].1.toNat]
        omega
      have ho1 : outer g (f + 1) i l oe ol = outer g f (i + 1) (inner l g.es[l[i].1.toNat]).1 (oe ++ [(inner l g.es[l[i].1.toNat]).2]) (ol ++ [g.ls[l[i].1.toNat]]) := by
        rw [outer, he]; simp only [hg, hg2]
      rw [ho1]
      have hst := so8 β g on refs n0 i l oe ol hf l[i].1 l[i].2 g.es[l[i].1.toNat] g.ls[l[i].1.toNat] hi he hx.1 (List.getElem?_eq_getElem hlt) (List.getElem?_eq_getElem (by omega)) (hf.2.2 _ hm) (hA _ hm) (by omega) (by omega) (inner_ne hne) ho ho'
      rw [L8_1_eq, hst]
      simp only [Option.bind_some, thenX_normal]
      exact ih (i + 1) _ _ _ (by omega) hlen h3' (by simp [ho]) (by simp [ho'])
    · have hil : i = l.length := by omega
      have ho1 : outer g (f + 1) i l oe ol = (l, oe, ol) := by
        rw [outer, List.getElem?_eq_none (by omega)]
      rw [ho1]
      refine ⟨?_, h3, by rw [ho, hil], by rw [ho', hil]⟩
      subst hil
      rw [L8_1_eq]
      by_cases hne : l = []
      · subst hne
        simp -implicitDefEqProofs [go_sem, So, Xo, HM, mk, ints, boolss, I, O6]
      · simp -implicitDefEqProofs [go_sem, So, Xo, HM, mk, hne, ints, boolss, I, O6]
end Go.Fair

namespace Go.Fair
open Go Go.Am Go.Proofs
set_option linter.unusedSimpArgs false
set_option linter.unusedVariables false
def bls (l : List Bool) : List T := l.map fun b => .d (.bool b)
@[go_sem] theorem bls_len (l : List Bool) : (bls l).length = l.length := by simp [bls]
@[go_sem] theorem bls_set (l : List Bool) (i : Nat) (b : Bool) : (bls l).set i (.d (.bool b)) = bls (l.set i b) := by simp [bls, List.map_set]
theorem bls_at (l : List Bool) (i : Nat) (b : Bool) (h : l[i]? = some b) : (bls l)[i]? = some (.d (.bool b)) := by simp [bls, h]
@[go_sem] theorem bls_nil : bls [] = [] := rfl
def onAt (on : List (List Bool)) (n : Int) (k : Nat) : Bool := (on.getD n.toNat []).getD k false
def setv (on : List (List Bool)) (r : Int) (k : Nat) (x : Int × Int) : Bool := decide (x.2 = r) || !onAt on x.1 k
def pv (l : PairsL) : SV := if l = [] then .d .nils else .bor (.o 1) [(0, 1)] 0 l.length
def N0 (n : Nat) : List T := List.replicate n (.d (.int .i64 0))
/-- inside of a row of the sets -/
def S2 (β : Bool) (on : List (List Bool)) (refs : List Int) (l : PairsL) (o : T) (k : Nat) (r : Int) (rows : List T) (row : List Bool) (i : Nat) : St :=
  ⟨[(1, .d (boolss β on)), (6, .loc (.l 6 0) [] 0 0), (11, .d (.ptr 1)), (12, .loc (.l 12 0) [] 0 0), (18, .bor (.l 18 0) [] 0 l.length), (19, .bor (.l 19 0) [] 0 refs.length), (20, .d (I k)), (21, .d (I r)), (126, .d (ints β refs)), (127, .d (I refs.length)), (128, .d (I k)), (145, pv l), (146, .d (I l.length)), (147, .d (I i))],
   [((6, 0), O6), ((12, 0), .own [o]), ((18, 0), .own (N0 l.length)), ((19, 0), .own (rows.set k (.own (bls row))))], HM l⟩
theorem s2 (β : Bool) (on : List (List Bool)) (refs : List Int) (l : PairsL) (o : T) (k : Nat) (r : Int) (rows : List T) (row : List Bool) (i : Nat) (a b : Int) (ol : List Bool) (c : Bool)
    (hi : i < l.length) (hl : l.length ≤ 65536) (hK : refs.length ≤ 16) (hk : k < refs.length) (hr : rows.length = refs.length) (hrow : row.length = l.length) (he : l[i]? = some (a, b)) (ha : 0 ≤ a) (h1 : on[a.toNat]? = some ol) (h2 : ol[k]? = some c) :
    codeX P hints hint8 (.seq (r8 31) (.seq (.cond (.tmp 148) .skip (.exit 7)) (.seq (.block 8 (.seq (r8 32) (r8 33))) (r8 34)))) (S2 β on refs l o k r rows row i) = some (.normal, S2 β on refs l o k r rows (row.set i (setv on r k (a, b))) (i + 1)) := by
  have c1 : (i : Int) < (l.length : Int) := by omega
  have hne : l ≠ [] := fun h => by subst h; simp at hi
  have hp := prs_at l i a b he
  have h4 : IntKind.i64.wrap ((i : Int) + 1) = i + 1 := wrap_i64 (by omega) (by omega)
  have h5 : k < rows.length := by omega
  have h6 : (k : Int) < (refs.length : Int) := by omega
  have h7 : i < row.length := by omega
  have h8 := bls_at row i row[i] (List.getElem?_eq_getElem h7)
  have h9 : (rows.set k (.own (bls row)))[k]? = some (.own (bls row)) := by simp [h5]
  have hv : setv on r k (a, b) = (decide (b = r) || !c) := by simp [setv, onAt, List.getD, h1, h2]
  rw [hv]
  by_cases e : b = r
  · simp -implicitDefEqProofs (maxSteps := 400000) [go_sem, S2, HM, mk, pv, hne, ints, boolss, bools, B, I, O6, c1, he, hp, h1, h2, h4, h6, h8, h9, e, ha, hrow, hr, h5, List.set_set]
  · simp -implicitDefEqProofs (maxSteps := 400000) [go_sem, S2, HM, mk, pv, hne, ints, boolss, bools, B, I, O6, c1, he, hp, h1, h2, h4, h6, h8, h9, e, ha, hrow, hr, h5, List.set_set]
def rowAt (on : List (List Bool)) (l : PairsL) (r : Int) (k i : Nat) : List Bool := (l.take i).map (setv on r k) ++ List.replicate (l.length - i) false
theorem rowAt_len (on : List (List Bool)) (l : PairsL) (r : Int) (k i : Nat) (h : i ≤ l.length) : (rowAt on l r k i).length = l.length := by
  simp [rowAt, List.length_take]; omega
theorem rowAt_set (on : List (List Bool)) (l : PairsL) (r : Int) (k i : Nat) (h : i < l.length) : (rowAt on l r k i).set i (setv on r k l[i]) = rowAt on l r k (i + 1) := by
  unfold rowAt
  rw [List.take_add_one, List.getElem?_eq_getElem h]
  have h1 : ((l.take i).map (setv on r k)).length = i := by simp [List.length_take]; omega
  rw [List.set_append_right _ _ (by omega), h1, Nat.sub_self]
  have h2 : l.length - i = (l.length - (i + 1)) + 1 := by omega
  rw [h2, List.replicate_succ, List.set_cons_zero, List.map_append, List.append_assoc]
  rfl
theorem rowAt_all (on : List (List Bool)) (l : PairsL) (r : Int) (k : Nat) : rowAt on l r k l.length = l.map (setv on r k) := by simp [rowAt]
theorem in2 (β : Bool) (on : List (List Bool)) (refs : List Int) (l : PairsL) (o : T) (k : Nat) (r : Int) (rows : List T) (hl : l.length ≤ 65536) (hK : refs.length ≤ 16) (hk : k < refs.length) (hr : rows.length = refs.length)
    (hon : ∀ x ∈ l, 0 ≤ x.1 ∧ ∃ ol c, on[x.1.toNat]? = some ol ∧ ol[k]? = some c) :
    codeX P hints hint8 L8_2 (S2 β on refs l o k r rows (rowAt on l r k 0) 0) = some (.exit 7, let s := S2 β on refs l o k r rows (l.map (setv on r k)) l.length; ⟨s.env ++ [(148, .d (.bool false))], s.ct, s.H⟩) := by
  have h0 := loop_iter L8_2_eq (fun i => S2 β on refs l o k r rows (rowAt on l r k i) i) l.length (fun i hi => by
    obtain ⟨h1, ol, c, h2, h3⟩ := hon _ (List.getElem_mem hi)
    show _ = some (Ex.normal, S2 β on refs l o k r rows (rowAt on l r k (i + 1)) (i + 1))
    rw [← rowAt_set on l r k i hi]
    exact s2 β on refs l o k r rows _ i _ _ ol c hi hl hK hk hr (rowAt_len on l r k i (by omega)) (List.getElem?_eq_getElem hi) h1 h2 h3)
  refine Eq.trans (show _ = _ from h0) ?_
  rw [rowAt_all, L8_2_eq]
  by_cases hne : l = []
  · subst hne
    simp -implicitDefEqProofs [go_sem, S2, HM, mk, pv, ints, boolss, I, O6]
  · simp -implicitDefEqProofs [go_sem, S2, HM, mk, pv, hne, ints, boolss, I, O6]
@[go_sem] theorem bls_rep (n : Nat) : List.replicate n (T.d (.bool false)) = bls (List.replicate n false) := by simp [bls]
/-- inside of the loop over the refs -/
def S3 (β : Bool) (on : List (List Bool)) (refs : List Int) (l : PairsL) (o : T) (rows : List T) (k : Nat) : St :=
  ⟨[(1, .d (boolss β on)), (6, .loc (.l 6 0) [] 0 0), (11, .d (.ptr 1)), (12, .loc (.l 12 0) [] 0 0), (18, .bor (.l 18 0) [] 0 l.length), (19, .bor (.l 19 0) [] 0 refs.length), (126, .d (ints β refs)), (127, .d (I refs.length)), (128, .d (I k))],
   [((6, 0), O6), ((12, 0), .own [o]), ((18, 0), .own (N0 l.length)), ((19, 0), .own rows)], HM l⟩
theorem s3 (β : Bool) (on : List (List Bool)) (refs : List Int) (l : PairsL) (o : T) (k : Nat) (r : Int) (rows : List T) (hl : l.length ≤ 65536) (hK : refs.length ≤ 16) (hk : k < refs.length) (hr : rows.length = refs.length) (he : refs[k]? = some r) (h0 : rows[k]? = some (.own []))
    (hon : ∀ x ∈ l, 0 ≤ x.1 ∧ ∃ ol c, on[x.1.toNat]? = some ol ∧ ol[k]? = some c) :
    codeX P hints hint8 (.seq (r8 27) (.seq (.cond (.tmp 129) .skip (.exit 5)) (.seq (.block 6 (.seq (r8 28) (.seq (r8 29) (.seq (r8 30) (.block 7 L8_2))))) (r8 35)))) (S3 β on refs l o rows k) = some (.normal, S3 β on refs l o (rows.set k (.own (bls (l.map (setv on r k))))) (k + 1)) := by
  have c1 : (k : Int) < (refs.length : Int) := by omega
  have h4 : IntKind.i64.wrap ((k : Int) + 1) = k + 1 := wrap_i64 (by omega) (by omega)
  have h5 : k < rows.length := by omega
  have h6 : (l.length : Int) ≤ 281474976710656 := by omega
  have h7 : (l.length : Int) ≤ 9223372036854775807 := by omega
  have h0' : rows[k] = .own [] := by simpa [List.getElem?_eq_getElem h5] using h0
  have w := in2 β on refs l o k r rows hl hK hk hr hon
  have hw : rowAt on l r k 0 = List.replicate l.length false := by simp [rowAt]
  rw [hw] at w
  by_cases hne : l = []
  · subst hne
    simp only [S2, HM, mk, pv, ints, boolss, I, O6, if_true, Int.cast_ofNat_Int, List.cons_append, List.nil_append, List.length_nil, List.map_nil, List.replicate_zero, Int.natCast_zero, bls_nil] at w
    simp -implicitDefEqProofs (maxSteps := 400000) [go_sem, S3, HM, mk, ints, boolss, I, O6, c1, he, h0', h4, h5, h6, h7, w]
  · simp only [S2, HM, mk, pv, if_neg hne, ints, boolss, I, O6, Int.cast_ofNat_Int, List.cons_append, List.nil_append] at w
    simp -implicitDefEqProofs (maxSteps := 400000) [go_sem, S3, HM, mk, hne, ints, boolss, I, O6, c1, he, h0', h4, h5, h6, h7, w]
def rowsAt (on : List (List Bool)) (l : PairsL) (refs : List Int) (k : Nat) : List T := (List.range refs.length).map fun j => if j < k then .own (bls (l.map (setv on (refs.getD j 0) j))) else .own []
theorem rowsAt_len (on : List (List Bool)) (l : PairsL) (refs : List Int) (k : Nat) : (rowsAt on l refs k).length = refs.length := by simp [rowsAt]
theorem rowsAt_at (on : List (List Bool)) (l : PairsL) (refs : List Int) (k : Nat) (h : k < refs.length) : (rowsAt on l refs k)[k]? = some (.own []) := by simp [rowsAt, h]
theorem rowsAt_set (on : List (List Bool)) (l : PairsL) (refs : List Int) (k : Nat) (h : k < refs.length) : (rowsAt on l refs k).set k (.own (bls (l.map (setv on refs[k] k)))) = rowsAt on l refs (k + 1) := by
  apply List.ext_getElem?
  intro j
  rw [List.getElem?_set]
  by_cases e : k = j
  · subst e
    simp [rowsAt, h, List.getD]
  · rw [if_neg e]
    simp only [rowsAt, List.getElem?_map, List.getElem?_range]
    by_cases hj : j < refs.length
    · simp only [List.getElem?_range hj, Option.map_some]
      by_cases h2 : j < k
      · simp [h2, show j < k + 1 by omega]
      · simp [h2, show ¬ j < k + 1 by omega]
    · rw [List.getElem?_eq_none (by simpa using hj)]; rfl
theorem il3 (β : Bool) (on : List (List Bool)) (refs : List Int) (l : PairsL) (o : T) (hl : l.length ≤ 65536) (hK : refs.length ≤ 16)
    (hon : ∀ k < refs.length, ∀ x ∈ l, 0 ≤ x.1 ∧ ∃ ol c, on[x.1.toNat]? = some ol ∧ ol[k]? = some c) :
    codeX P hints hint8 L8_3 (S3 β on refs l o (rowsAt on l refs 0) 0) = some (.exit 5, let s := S3 β on refs l o (rowsAt on l refs refs.length) refs.length; ⟨s.env ++ [(129, .d (.bool false))], s.ct, s.H⟩) := by
  have h0 := loop_iter L8_3_eq (fun k => S3 β on refs l o (rowsAt on l refs k) k) refs.length (fun k hk => by
    show _ = some (Ex.normal, S3 β on refs l o (rowsAt on l refs (k + 1)) (k + 1))
    rw [← rowsAt_set on l refs k hk]
    exact s3 β on refs l o k _ _ hl hK hk (rowsAt_len on l refs k) (List.getElem?_eq_getElem hk) (rowsAt_at on l refs k hk) (hon k hk))
  refine Eq.trans (show _ = _ from h0) ?_
  rw [L8_3_eq]
  simp -implicitDefEqProofs [go_sem, S3, ints, boolss, I, O6]
def nodesAt (l : PairsL) (i : Nat) : List T := (l.take i).map (fun x => .d (I x.1)) ++ List.replicate (l.length - i) (.d (I 0))
theorem nodesAt_len (l : PairsL) (i : Nat) (h : i ≤ l.length) : (nodesAt l i).length = l.length := by simp [nodesAt, List.length_take]; omega
theorem nodesAt_set (l : PairsL) (i : Nat) (h : i < l.length) : (nodesAt l i).set i (.d (I l[i].1)) = nodesAt l (i + 1) := by
  unfold nodesAt
  rw [List.take_add_one, List.getElem?_eq_getElem h]
  have h1 : ((l.take i).map (fun x => T.d (I x.1))).length = i := by simp [List.length_take]; omega
  rw [List.set_append_right _ _ (by omega), h1, Nat.sub_self]
  have h2 : l.length - i = (l.length - (i + 1)) + 1 := by omega
  rw [h2, List.replicate_succ, List.set_cons_zero, List.map_append, List.append_assoc]
  rfl
def S4 (refs : List Int) (l : PairsL) (o : T) (rows nodes : List T) (i : Nat) : St :=
  ⟨[(6, .loc (.l 6 0) [] 0 0), (12, .loc (.l 12 0) [] 0 0), (18, .bor (.l 18 0) [] 0 l.length), (19, .bor (.l 19 0) [] 0 refs.length), (178, pv l), (179, .d (I l.length)), (180, .d (I i))],
   [((6, 0), O6), ((12, 0), .own [o]), ((18, 0), .own nodes), ((19, 0), .own rows)], HM l⟩
theorem s4 (refs : List Int) (l : PairsL) (o : T) (rows nodes : List T) (i : Nat) (a b : Int) (hl : l.length ≤ 65536) (hi : i < l.length) (he : l[i]? = some (a, b)) (hn : nodes.length = l.length) (h0 : nodes[i]? = some (.d (I 0))) :
    codeX P hints hint8 (.seq (r8 37) (.seq (.cond (.tmp 181) .skip (.exit 9)) (.seq (.block 10 (.seq (r8 38) (r8 39))) (r8 40)))) (S4 refs l o rows nodes i) = some (.normal, S4 refs l o rows (nodes.set i (.d (I a))) (i + 1)) := by
  have c1 : (i : Int) < (l.length : Int) := by omega
  have hne : l ≠ [] := fun h => by subst h; simp at hi
  have hp := prs_at l i a b he
  have h4 : IntKind.i64.wrap ((i : Int) + 1) = i + 1 := wrap_i64 (by omega) (by omega)
  have h5 : i < nodes.length := by omega
  have h0' : nodes[i] = .d (.int .i64 0) := by simpa [List.getElem?_eq_getElem h5, I] using h0
  simp -implicitDefEqProofs (maxSteps := 400000) [go_sem, S4, HM, mk, pv, hne, I, O6, c1, he, hp, h4, h5, h0']
theorem il4 (refs : List Int) (l : PairsL) (o : T) (rows : List T) (hl : l.length ≤ 65536) :
    codeX P hints hint8 L8_4 (S4 refs l o rows (nodesAt l 0) 0) = some (.exit 9, let s := S4 refs l o rows (l.map fun x => .d (I x.1)) l.length; ⟨s.env ++ [(181, .d (.bool false))], s.ct, s.H⟩) := by
  have h0 := loop_iter L8_4_eq (fun i => S4 refs l o rows (nodesAt l i) i) l.length (fun i hi => by
    show _ = some (Ex.normal, S4 refs l o rows (nodesAt l (i + 1)) (i + 1))
    rw [← nodesAt_set l i hi]
    exact s4 refs l o rows _ i _ _ hl hi (List.getElem?_eq_getElem hi) (nodesAt_len l i (by omega)) (by
      unfold nodesAt
      have h1 : ((l.take i).map (fun x => T.d (I x.1))).length = i := by simp [List.length_take]; omega
      rw [List.getElem?_append_right (by omega), h1, Nat.sub_self]
      have h2 : l.length - i = (l.length - (i + 1)) + 1 := by omega
      rw [h2]; rfl))
  refine Eq.trans (show _ = _ from h0) ?_
  have h1 : nodesAt l l.length = l.map fun x => .d (I x.1) := by simp [nodesAt]
  rw [h1, L8_4_eq]
  by_cases hne : l = []
  · subst hne
    simp -implicitDefEqProofs [go_sem, S4, HM, mk, pv, I, O6]
  · simp -implicitDefEqProofs [go_sem, S4, HM, mk, pv, hne, I, O6]
end Go.Fair

namespace Go.Fair
open Go Go.Am Go.Proofs
set_option linter.unusedSimpArgs false
set_option linter.unusedVariables false
def res8 (g : Gr) : PairsL × List (List (Int × Int)) × List Int := outer g ((U g).length + 1) 0 (firstP g.init) [] []
def setsOf (on : List (List Bool)) (refs : List Int) (l : PairsL) : List (List Bool) := (List.range refs.length).map fun j => l.map (setv on (refs.getD j 0) j)
theorem onOk {g : Gr} {on : List (List Bool)} {refs : List Int} (hc : checkG g = 0) (h2 : fitsB g on refs.length = true) {l : PairsL} (hl : Inv g l) : ∀ k < refs.length, ∀ x ∈ l, 0 ≤ x.1 ∧ ∃ ol c, on[x.1.toNat]? = some ol ∧ ol[k]? = some c := by
  intro k hk x hx
  obtain ⟨_, _, hN⟩ := U_ok hc
  have h1 := hN x (hl.2 x hx)
  simp only [fitsB, Bool.and_eq_true, decide_eq_true_eq, Bool.not_eq_true', badL, List.any_eq_false, bne_iff_ne, ne_eq, Decidable.not_not] at h2
  have hlt : x.1.toNat < on.length := by omega
  have h3 := h2.2 _ (List.getElem_mem hlt)
  exact ⟨h1.1, on[x.1.toNat], on[x.1.toNat][k]'(by omega), List.getElem?_eq_getElem hlt, List.getElem?_eq_getElem _⟩
@[go_sem] theorem frzs_oes (l : List (List (Int × Int))) : T.frzs false (oes l) = some (l.map (edges false)) := by
  induction l with
  | nil => rfl
  | cons a r ih => simp only [oes, List.map_cons, T.frzs, T.frz] at ih ⊢; rw [ih]; rfl
@[go_sem] theorem frzs_ols (l : List Int) : T.frzs false (ols l) = some (l.map fun n => .int .u64 n) := by
  induction l with
  | nil => rfl
  | cons a r ih => simp only [ols, List.map_cons, T.frzs, T.frz] at ih ⊢; rw [ih]; rfl
@[go_sem] theorem frzs_bls (l : List Bool) : T.frzs false (bls l) = some (l.map B) := by
  induction l with
  | nil => rfl
  | cons a r ih => simp only [bls, List.map_cons, T.frzs, T.frz] at ih ⊢; rw [ih]; rfl
@[go_sem] theorem frzs_nds (l : PairsL) : T.frzs false (l.map fun x => .d (.int .i64 x.1)) = some ((l.map (·.1)).map I) := by
  induction l with
  | nil => rfl
  | cons a r ih => simp only [List.map_cons, T.frzs, T.frz] at ih ⊢; rw [ih]; rfl
theorem frzs_rows (on : List (List Bool)) (refs : List Int) (l : PairsL) : T.frzs false (rowsAt on l refs refs.length) = some ((setsOf on refs l).map (bools false)) := by
  have : ∀ r : List Nat, (∀ j ∈ r, j < refs.length) → T.frzs false (r.map fun j => if j < refs.length then T.own (bls (l.map (setv on (refs.getD j 0) j))) else .own []) = some ((r.map fun j => l.map (setv on (refs.getD j 0) j)).map (bools false)) := by
    intro r
    induction r with
    | nil => intro _; rfl
    | cons a r ih =>
      intro h
      have h1 : a < refs.length := h a (by simp)
      simp only [List.map_cons, T.frzs, if_pos h1, T.frz, frzs_bls, Option.map_some, Option.bind_some, ih (fun j hj => h j (by simp [hj]))]
      rfl
  exact this _ (fun j hj => by simpa using hj)
@[go_sem] theorem rowsAt_lenS (on : List (List Bool)) (l : PairsL) (refs : List Int) (k : Nat) : (rowsAt on l refs k).length = refs.length := rowsAt_len on l refs k
@[go_sem] theorem cellsSV_nil {r : Root} {p : Path} {i o : Nat} : cellsSV r p i o [] = some [] := rfl
@[go_sem] theorem cellsSV_cons {r : Root} {p : Path} {i o : Nat} {t : T} {l : List T} : cellsSV r p i o (t :: l) = (cellSV r p i o t).bind fun x => (cellsSV r p i (o + 1) l).bind fun xs => some (x :: xs) := by
  simp only [cellsSV, Option.map_eq_bind]; rfl
theorem canon_res (a b c : List Int) (es : List (List (Int × Int))) (d : List (List Bool)) (e : Int) : canon false [.agg [.sl false (a.map I), .sl false (es.map (edges false)), .sl false (b.map fun n => .int .u64 n)], .sl false (c.map I), .sl false (d.map (bools false)), .int .i64 e] = [.agg [.sl false (a.map I), .sl false (es.map (edges false)), .sl false (b.map fun n => .int .u64 n)], .sl false (c.map I), .sl false (d.map (bools false)), .int .i64 e] := by
  simp [canon, go_sem]
theorem canon_res' (a b c : List Int) (es : List (List (Int × Int))) (d : List (List Bool)) (e : Int) : canon false [.agg [.sl false (a.map I), .sl false (es.map (edges false)), .sl false (b.map fun n => .int .u64 n)], .sl false (c.map I), .sl false (d.map (bools false)), .int .i64 e] = [.agg [.sl false (a.map I), .sl false (es.map (edges false)), .sl false (b.map fun n => .int .u64 n)], .sl false (c.map I), .sl false (d.map (bools false)), .int .i64 e] := canon_res a b c es d e
theorem immsC (f : Int × Int → Int) (l : PairsL) : D.imms (l.map (I ∘ f)) = true := by induction l <;> simp_all [D.imms, D.imm, I]
theorem lowsC (f : Int × Int → Int) (l : PairsL) : D.lows 0 (l.map (I ∘ f)) = true := by induction l <;> simp_all [D.lows, D.low, I]
theorem lows_I (l : List Int) : D.lows 0 (l.map I) = true := by induction l <;> simp_all [D.lows, D.low, I]
theorem lows_edge (l : List (Int × Int)) : D.lows 0 (l.map edge) = true := by induction l <;> simp_all [D.lows, D.low, edge, I]
theorem lows_edges (l : List (List (Int × Int))) : D.lows 0 (l.map (edges false)) = true := by induction l <;> simp_all [D.lows, D.low, edges, lows_edge]
theorem lows_lab (l : List Int) : D.lows 0 (l.map fun n => .int .u64 n) = true := by induction l <;> simp_all [D.lows, D.low]
theorem lows_B (l : List Bool) : D.lows 0 (l.map B) = true := by induction l <;> simp_all [D.lows, D.low, B]
theorem lows_bools (l : List (List Bool)) : D.lows 0 (l.map (bools false)) = true := by induction l <;> simp_all [D.lows, D.low, bools, lows_B]
theorem w8 (β : Bool) (g : Gr) (on : List (List Bool)) (refs : List Int) (hf : Fit g) (hA : FitA g) (h1 : checkG g = 0) (h2 : fitsB g on refs.length = true) (h3 : refs.length ≤ 16) (ho : on.length < 4611686018427387904) (hU : (U g).length ≤ 65536) : call 8 [graph β g, boolss β on, ints β refs] [] = some ([.d (graph false ⟨ran (firstP g.init).length, (res8 g).2.1, (res8 g).2.2⟩), .d (ints false ((res8 g).1.map (·.1))), .d (boolss false (setsOf on refs (res8 g).1)), .d (I 0)], []) := by
  have ol := outer_loop β g on refs (firstP g.init).length hf hA h1 hU ((U g).length + 1) 0 (firstP g.init) [] [] (by omega) (Nat.zero_le _) (firstP_inv g) rfl rfl
  rw [show outer g ((U g).length + 1) 0 (firstP g.init) [] [] = res8 g from rfl] at ol
  generalize res8 g = q at ol ⊢
  obtain ⟨l, oe, lb⟩ := q
  obtain ⟨e1, hI, hoe, hlb⟩ := ol
  simp only at hI hoe hlb
  have hl := Nat.le_trans (nodup_len l (U g) hI.1 hI.2) hU
  have e3 := il3 β on refs l (oT (firstP g.init).length oe lb) hl h3 (onOk h1 h2 hI)
  have e4 := il4 refs l (oT (firstP g.init).length oe lb) (rowsAt on l refs refs.length) hl
  rw [eq8 _ _ rfl]
  have w1 := w15 β g hf
  have w2 := w16 β g on refs [.lock] ho
  have w2' := w16 β g on refs [] ho
  have w3 := w17 β g.init (by have := hf.1; omega)
  have c1 := canon_graph1 β g
  have c2 := canon_fits β g on refs
  have c3 := canon_first β g.init
  have h3' : ¬ ((16 : Int) < refs.length) := by omega
  have hz : [Ob.map [], Ob.box (T.d (.agg [.map 0, .nils]))] = HM [] := rfl
  have hs := sameHM [] (firstP g.init)
  have r0 : rowsAt on l refs 0 = List.replicate refs.length (T.own []) := by
    simp [rowsAt]; apply List.ext_getElem <;> simp
  have n0 : nodesAt l 0 = N0 l.length := by simp [nodesAt, N0, I]
  have k1 : (l.length : Int) ≤ 281474976710656 := by omega
  have k2 : (l.length : Int) ≤ 9223372036854775807 := by omega
  have k3 : (8 : Int) * l.length ≤ 281474976710656 := by omega
  have k4 : (24 : Int) * refs.length ≤ 281474976710656 := by omega
  have k5 : (refs.length : Int) ≤ 9223372036854775807 := by omega
  rw [r0] at e3
  rw [n0] at e4
  simp only [graph, ints, labs, edgess, boolss, I] at w1 w2 w2' w3
  have o0 : oT (firstP g.init).length [] [] = .d (.agg [.sl false ((ran (firstP g.init).length).map I), .nils, .nils]) := rfl
  simp only [So, Xo, S3, S4, o0, graph, ints, labs, edgess, boolss, I, Int.cast_ofNat_Int, List.cons_append, List.nil_append, O6] at e1 e3 e4
  have fr := frzs_rows on refs l
  by_cases hne : l = []
  · subst hne
    have hoe0 : oe = [] := List.eq_nil_of_length_eq_zero hoe
    have hlb0 : lb = [] := List.eq_nil_of_length_eq_zero hlb
    subst hoe0 hlb0
    have w3u : call 17 [.ptr 1, .sl β (g.init.map I)] [.map [], .box (.d (.agg [.map 0, .nils]))] = some ([.d (.sl false ((ran (firstP g.init).length).map I))], HM (firstP g.init)) := w3
    have hsu : sameObs [.map [], .box (.d (.agg [.map 0, .nils]))] (HM (firstP g.init)) = true := hs
    rw [show HM [] = [.map [], .box (.d (.agg [.map 0, .nils]))] from rfl] at e1
    simp only [o0, List.length_nil, Int.natCast_zero] at e1
    simp only [o0, HM, mk, if_true, pv, entK, N0, List.length_nil, List.map_nil, List.replicate_zero, Int.natCast_zero] at e3 e4
    simp -implicitDefEqProofs (maxSteps := 400000) [go_sem, ints, I, graph, labs, edgess, boolss, w1, w2, w2', w3u, c1, c2, c3, h1, h2, h3', hsu, e1, e3, e4, k1, k2, k3, k4, k5, O6, N0, fr, trunc, T.lows, T.low, D.low]
    simp [canon, go_sem, lows_I, lows_bools, T.lows, T.low, D.low, D.lows]
  · simp only [HM, mk, if_neg hne, pv, N0] at e3 e4
    rw [show HM l = [.map (entK 0 l), .box (.agg [.d (.map 0), .own (prs l)])] by simp [HM, mk, hne]] at e1
    have hoe0 : oe ≠ [] := fun h => by subst h; exact hne (List.eq_nil_of_length_eq_zero hoe.symm)
    have o1 : oT (firstP g.init).length oe lb = .agg [.d (.sl false ((ran (firstP g.init).length).map I)), .own (oes oe), .own (ols lb)] := by simp [oT, hoe0, ints]
    rw [o1] at e1 e3 e4
    simp -implicitDefEqProofs (maxSteps := 400000) [go_sem, ints, I, graph, labs, edgess, boolss, w1, w2, w2', w3, c1, c2, c3, h1, h2, h3', hz, hs, e1, e3, e4, k1, k2, k3, k4, k5, O6, N0, fr, trunc, T.lows, T.low, D.low]
    have tk1 : (oe.map (edges false)).take oe.length = oe.map (edges false) := List.take_of_length_le (by simp)
    have tk2 : (lb.map fun n => D.int .u64 n).take lb.length = lb.map fun n => D.int .u64 n := List.take_of_length_le (by simp)
    simp [canon, go_sem, tk1, tk2, immsC, lowsC, lows_I, lows_edges, lows_lab, lows_bools, T.lows, T.low, D.low, D.lows]
end Go.Fair

namespace Go.Fair
open Go Go.Am Go.Proofs
set_option linter.unusedSimpArgs false
set_option linter.unusedVariables false
def sumL (l : List (List (Int × Int))) : Nat := (l.map List.length).sum
theorem sumL_take (l : List (List (Int × Int))) (i : Nat) (h : i < l.length) : sumL (l.take (i + 1)) = sumL (l.take i) + l[i].length := by
  unfold sumL
  rw [List.take_add_one, List.getElem?_eq_getElem h, List.map_append, List.sum_append]
  simp only [Option.toList_some, List.map_cons, List.map_nil, List.sum_cons, List.sum_nil, Nat.add_zero]
theorem sumL_le (l : List (List (Int × Int))) (i : Nat) : sumL (l.take i) ≤ sumL l := by
  have : sumL l = sumL (l.take i) + sumL (l.drop i) := by
    unfold sumL
    rw [← List.sum_append, ← List.map_append, List.take_append_drop]
  omega
def farN (g : Gr) : Nat := g.es.length + g.init.length + sumL g.es
def S6 (β : Bool) (g : Gr) (refs : List Int) (H : List Ob) (i : Nat) : St := ⟨[(1, .d (ints β refs)), (5, .d (I ((g.es.length + g.init.length + sumL (g.es.take i) : Nat) : Int))), (16, .d (edgess β g.es)), (17, .d (I g.es.length)), (18, .d (I i))], [], H⟩
theorem s6 (β : Bool) (g : Gr) (refs : List Int) (H : List Ob) (i : Nat) (hi : i < g.es.length) (hf : farN g < 4611686018427387904) :
    codeX P hints hint6 (.seq (r6 3) (.seq (.cond (.tmp 19) .skip (.exit 0)) (.seq (.block 1 (.seq (r6 4) (r6 5))) (r6 6)))) (S6 β g refs H i) = some (.normal, S6 β g refs H (i + 1)) := by
  have c1 : (i : Int) < (g.es.length : Int) := by omega
  have h1 := sumL_take g.es i hi
  have h2 := sumL_le g.es (i + 1)
  unfold farN at hf
  have he : g.es[i]? = some g.es[i] := List.getElem?_eq_getElem hi
  generalize g.es[i] = e at h1 he
  have h4 : IntKind.i64.wrap ((i : Int) + 1) = i + 1 := wrap_i64 (by omega) (by omega)
  have h5 : IntKind.i64.wrap ((g.es.length : Int) + g.init.length + sumL (g.es.take i) + e.length) = (g.es.length : Int) + g.init.length + sumL (g.es.take i) + e.length := wrap_i64 (by omega) (by omega)
  have h6 : (g.es.length : Int) + g.init.length + (sumL (g.es.take i) + e.length) = (g.es.length : Int) + g.init.length + sumL (g.es.take i) + e.length := by omega
  simp -implicitDefEqProofs [go_sem, S6, ints, edgess, edges, I, c1, he, h4, h5, h1, h6, Int.natCast_add]
theorem w6 (β : Bool) (g : Gr) (refs : List Int) (H : List Ob) (hf : farN g < 4611686018427387904) : call 6 [graph β g, ints β refs] H = some ([.d (.bool (decide (400 < farN g) || decide (40 < refs.length)))], H) := by
  rw [eq6 _ _ rfl]
  have h0 := loop_iter L6_0_eq (S6 β g refs H) g.es.length (fun i hi => s6 β g refs H i hi hf)
  have hE : codeX P hints hint6 L6_0 (S6 β g refs H g.es.length) = some (.exit 0, ⟨[(1, .d (ints β refs)), (5, .d (I (farN g : Int))), (16, .d (edgess β g.es)), (17, .d (I g.es.length)), (18, .d (I g.es.length)), (19, .d (.bool false))], [], H⟩) := by
    rw [L6_0_eq]
    simp -implicitDefEqProofs [go_sem, S6, ints, edgess, I, farN]
  have h3 := h0.trans hE
  have hw : IntKind.i64.wrap ((g.es.length : Int) + g.init.length) = (g.es.length : Int) + g.init.length := by unfold farN at hf; exact wrap_i64 (by omega) (by omega)
  have hz : sumL (g.es.take 0) = 0 := rfl
  simp only [S6, hz, Nat.add_zero, Int.natCast_add, ints, edgess, I, Int.cast_ofNat_Int] at h3
  have hd : decide (400 < farN g) = decide ((400 : Int) < farN g) := by rw [decide_eq_decide]; omega
  have hd2 : decide (40 < refs.length) = decide ((40 : Int) < refs.length) := by rw [decide_eq_decide]; omega
  rw [hd, hd2]
  by_cases e : (400 : Int) < farN g
  · simp -implicitDefEqProofs [go_sem, graph, ints, edgess, labs, I, hw, h3, trunc, e]
  · simp -implicitDefEqProofs [go_sem, graph, ints, edgess, labs, I, hw, h3, trunc, e]
def K5 (n i k : Nat) : List T := List.replicate i (.own (bls (List.replicate n false))) ++ List.replicate (k - i) (.own [])
def S5 (g : Gr) (refs : List Int) (i : Nat) : St := ⟨[(1, .d (ints false refs)), (2, .loc (.l 2 0) [] 0 0), (5, .bor (.l 5 0) [] 0 g.es.length), (34, .d (I g.es.length)), (35, .d (I i))], [((2, 0), .own [.d (graph false g)]), ((5, 0), .own (K5 refs.length i g.es.length))], []⟩
theorem K5_len (n i k : Nat) (h : i ≤ k) : (K5 n i k).length = k := by simp [K5]; omega
theorem K5_at (n i k : Nat) (h : i < k) : (K5 n i k)[i]? = some (.own []) := by
  unfold K5
  rw [List.getElem?_append_right (by simp), List.length_replicate, Nat.sub_self, show k - i = (k - (i + 1)) + 1 by omega]; rfl
theorem K5_set (n i k : Nat) (h : i < k) : (K5 n i k).set i (.own (bls (List.replicate n false))) = K5 n (i + 1) k := by
  unfold K5
  rw [List.set_append_right _ _ (by simp), List.length_replicate, Nat.sub_self, show k - i = (k - (i + 1)) + 1 by omega, List.replicate_succ, List.set_cons_zero, List.replicate_succ', List.append_assoc]
  rfl
theorem s5 (g : Gr) (refs : List Int) (i : Nat) (hi : i < g.es.length) (hE : g.es.length ≤ 65536) (hr : refs.length ≤ 40) :
    codeX P hints hint5 (.seq (r5 5) (.seq (.cond (.tmp 36) .skip (.exit 0)) (.seq (.block 1 (.seq (r5 6) (r5 7))) (r5 8)))) (S5 g refs i) = some (.normal, S5 g refs (i + 1)) := by
  have c1 : (i : Int) < (g.es.length : Int) := by omega
  have h4 : IntKind.i64.wrap ((i : Int) + 1) = i + 1 := wrap_i64 (by omega) (by omega)
  have k1 : (refs.length : Int) ≤ 281474976710656 := by omega
  have k2 : (refs.length : Int) ≤ 9223372036854775807 := by omega
  have k3 := K5_at refs.length i g.es.length hi
  have k4 := K5_set refs.length i g.es.length hi
  simp -implicitDefEqProofs (maxSteps := 400000) [go_sem, S5, ints, I, c1, h4, k1, k2, k3, k4, graph]
end Go.Fair

namespace Go.Fair
open Go Go.Am Go.Proofs
set_option linter.unusedSimpArgs false
set_option linter.unusedVariables false
theorem U_len (g : Gr) : (U g).length = g.init.length + sumL g.es := by simp only [U, sumL, List.length_append, List.length_map, List.length_flatten]
theorem res8_len (g : Gr) (hf : Fit g) (hA : FitA g) (h1 : checkG g = 0) (hU : (U g).length ≤ 65536) : (res8 g).2.1.length = (res8 g).1.length :=
  (outer_loop false g [] [] (firstP g.init).length hf hA h1 hU ((U g).length + 1) 0 (firstP g.init) [] [] (by omega) (Nat.zero_le _) (firstP_inv g) rfl rfl).2.2.1
def on0 (g : Gr) (n : Nat) : List (List Bool) := List.replicate g.es.length (List.replicate n false)
theorem on0_fits (g : Gr) (n : Nat) : fitsB g (on0 g n) n = true := by
  simp [fitsB, on0, badL]
theorem on0_at (g : Gr) (n : Nat) (a : Int) (k : Nat) : onAt (on0 g n) a k = false := by
  unfold onAt on0
  simp only [List.getD, List.getElem?_replicate]
  split
  · simp only [Option.getD_some, List.getElem?_replicate]; split <;> rfl
  · rfl
def sets0 (g : Gr) (n : Nat) (l : PairsL) : List (List Bool) := (List.range n).map fun _ => l.map fun _ => true
theorem sets_on0 (g : Gr) (refs : List Int) (l : PairsL) : setsOf (on0 g refs.length) refs l = sets0 g refs.length l := by
  have : ∀ r k, setv (on0 g refs.length) r k = fun _ => true := fun r k => by funext x; simp [setv, on0_at]
  simp only [setsOf, sets0, this]
theorem frzs_bls' (l : List Bool) : T.frzs true (bls l) = some (l.map B) := by
  induction l with
  | nil => rfl
  | cons a r ih => simp only [bls, List.map_cons, T.frzs, T.frz] at ih ⊢; rw [ih]; rfl
theorem frzs_K5 (g : Gr) (n : Nat) : T.frzs true (K5 n g.es.length g.es.length) = some ((on0 g n).map (bools true)) := by
  have : ∀ k, T.frzs true (List.replicate k (.own (bls (List.replicate n false)))) = some ((List.replicate k (List.replicate n false)).map (bools true)) := by
    intro k
    induction k with
    | zero => rfl
    | succ k ih => simp only [List.replicate_succ, T.frzs, T.frz, frzs_bls', Option.map_some, Option.bind_some, ih, List.map_cons]; rfl
  simp only [K5, Nat.sub_self, List.replicate_zero, List.append_nil, on0, this]
/-- the inner loop over a set -/
def S5b (ss : List (List Bool)) (j : Nat) (row : List Bool) (i : Nat) : St := ⟨[(71, .d (boolss false ss)), (72, .d (I ss.length)), (73, .d (I j)), (77, .d (bools false row)), (78, .d (I row.length)), (79, .d (I i))], [], []⟩
theorem s5b (ss : List (List Bool)) (j : Nat) (row : List Bool) (i : Nat) (hi : i < row.length) (ht : row[i]? = some true) (hr : row.length < 4611686018427387904) :
    codeX P hints hint5 (.seq (r5 16) (.seq (.cond (.tmp 80) .skip (.exit 4)) (.seq (.block 5 (.seq (r5 17) (.seq (r5 18) (.cond (.tmp 84) (.seq (r5 19) .ret) .skip)))) (r5 20)))) (S5b ss j row i) = some (.normal, S5b ss j row (i + 1)) := by
  have c1 : (i : Int) < (row.length : Int) := by omega
  have h4 : IntKind.i64.wrap ((i : Int) + 1) = i + 1 := wrap_i64 (by omega) (by omega)
  simp -implicitDefEqProofs [go_sem, S5b, boolss, bools, B, I, c1, h4, ht]
theorem l5b (ss : List (List Bool)) (j : Nat) (row : List Bool) (ht : ∀ b ∈ row, b = true) (hr : row.length < 4611686018427387904) :
    codeX P hints hint5 L5_1 (S5b ss j row 0) = some (.exit 4, let s := S5b ss j row row.length; ⟨s.env ++ [(80, .d (.bool false))], s.ct, s.H⟩) := by
  have h0 := loop_iter L5_1_eq (S5b ss j row) row.length (fun i hi => s5b ss j row i hi (by rw [List.getElem?_eq_getElem hi, ht _ (List.getElem_mem hi)]) hr)
  refine Eq.trans h0 ?_
  rw [L5_1_eq]
  simp -implicitDefEqProofs [go_sem, S5b, boolss, bools, I]
def S5c (ss : List (List Bool)) (j : Nat) : St := ⟨[(71, .d (boolss false ss)), (72, .d (I ss.length)), (73, .d (I j))], [], []⟩
theorem s5c (ss : List (List Bool)) (j : Nat) (hj : j < ss.length) (ht : ∀ b ∈ ss[j], b = true) (hr : ss[j].length < 4611686018427387904) (hs : ss.length < 4611686018427387904) :
    codeX P hints hint5 (.seq (r5 13) (.seq (.cond (.tmp 74) .skip (.exit 2)) (.seq (.block 3 (.seq (r5 14) (.seq (r5 15) (.block 4 L5_1)))) (r5 21)))) (S5c ss j) = some (.normal, S5c ss (j + 1)) := by
  have c1 : (j : Int) < (ss.length : Int) := by omega
  have h4 : IntKind.i64.wrap ((j : Int) + 1) = j + 1 := wrap_i64 (by omega) (by omega)
  have he : ss[j]? = some ss[j] := List.getElem?_eq_getElem hj
  have w := l5b ss j ss[j] ht hr
  generalize ss[j] = row at he w
  simp only [S5b, boolss, bools, I, Int.cast_ofNat_Int, List.cons_append, List.nil_append] at w
  simp -implicitDefEqProofs [go_sem, S5c, boolss, bools, I, c1, h4, he, w]
theorem l5c (ss : List (List Bool)) (ht : ∀ row ∈ ss, (∀ b ∈ row, b = true) ∧ row.length < 4611686018427387904) (hs : ss.length < 4611686018427387904) :
    codeX P hints hint5 L5_2 (S5c ss 0) = some (.exit 2, let s := S5c ss ss.length; ⟨s.env ++ [(74, .d (.bool false))], s.ct, s.H⟩) := by
  have h0 := loop_iter L5_2_eq (S5c ss) ss.length (fun j hj => s5c ss j hj (ht _ (List.getElem_mem hj)).1 (ht _ (List.getElem_mem hj)).2 hs)
  refine Eq.trans h0 ?_
  rw [L5_2_eq]
  simp -implicitDefEqProofs [go_sem, S5c, boolss, I]
theorem l5a (g : Gr) (refs : List Int) (hE : g.es.length ≤ 65536) (hr : refs.length ≤ 40) :
    codeX P hints hint5 L5_0 (S5 g refs 0) = some (.exit 0, let s := S5 g refs g.es.length; ⟨s.env ++ [(36, .d (.bool false))], s.ct, s.H⟩) := by
  have h0 := loop_iter L5_0_eq (S5 g refs) g.es.length (fun i hi => s5 g refs i hi hE hr)
  refine Eq.trans h0 ?_
  rw [L5_0_eq]
  simp -implicitDefEqProofs [go_sem, S5, ints, I, graph]
end Go.Fair

namespace Go.Fair
open Go Go.Am Go.Proofs
set_option linter.unusedSimpArgs false
set_option linter.unusedVariables false
theorem canon_far (β : Bool) (g : Gr) (refs : List Int) : canon false [.agg [.sl β (g.init.map I), .sl β (g.es.map (edges β)), .sl β (g.ls.map fun n => .int .u64 n)], .sl β (refs.map I)] = [.agg [.sl β (g.init.map I), .sl β (g.es.map (edges β)), .sl β (g.ls.map fun n => .int .u64 n)], .sl β (refs.map I)] := by
  cases β <;> simp [go_sem, canon]
theorem canon_lent (g : Gr) (on : List (List Bool)) (refs : List Int) : canon true [.agg [.sl false (g.init.map I), .sl false (g.es.map (edges false)), .sl false (g.ls.map fun n => .int .u64 n)], .sl true (on.map (bools true)), .sl false (refs.map I)] = [.agg [.sl true (g.init.map I), .sl true (g.es.map (edges true)), .sl true (g.ls.map fun n => .int .u64 n)], .sl true (on.map (bools true)), .sl true (refs.map I)] := by
  simp [go_sem, canon]
theorem res8_le (g : Gr) (hf : Fit g) (hA : FitA g) (h1 : checkG g = 0) (hU : (U g).length ≤ 65536) : (res8 g).1.length ≤ 65536 := by
  have h := (outer_loop false g [] [] (firstP g.init).length hf hA h1 hU ((U g).length + 1) 0 (firstP g.init) [] [] (by omega) (Nat.zero_le _) (firstP_inv g) rfl rfl).2.1
  exact Nat.le_trans (nodup_len _ (U g) h.1 h.2) hU
theorem w5 (g : Gr) (refs : List Int) (hf : Fit g) (hA : FitA g) (hF : farN g < 4611686018427387904) : call 5 [graph false g, ints false refs] [] = some ([.d (.bool true)], []) := by
  rw [eq5 _ _ rfl]
  have w1 := w6 false g refs [] hF
  have w2 := w14 false g [] hf
  have c1 := canon_far false g refs
  have c2 := canon_graph1 false g
  have c3 := canon_lent g (on0 g refs.length) refs
  have lv := lives_true
  have cn : canon false ([] : List D) = [] := rfl
  simp only [graph, ints, labs, edgess, I] at w1 w2
  by_cases e1 : (decide (400 < farN g) || decide (40 < refs.length)) = true
  · rw [e1] at w1
    simp -implicitDefEqProofs (maxSteps := 400000) [go_sem, graph, ints, edgess, labs, I, w1, c1, c2, lv, trunc]
  · rw [Bool.eq_false_iff.2 e1] at w1
    simp only [Bool.or_eq_true, decide_eq_true_eq, not_or, Nat.not_lt] at e1
    by_cases e2 : 16 < refs.length
    · have e2' : (16 : Int) < refs.length := by omega
      simp -implicitDefEqProofs (maxSteps := 400000) [go_sem, graph, ints, edgess, labs, I, w1, c1, c2, e2', lv, trunc]
    · have e2' : ¬ (16 : Int) < refs.length := by omega
      by_cases e3 : checkG g = 0
      · have hUl := U_len g
        have hE := (U_ok e3).2.1
        have hU : (U g).length ≤ 65536 := by unfold farN at e1; omega
        have w8' := w8 true g (on0 g refs.length) refs hf hA e3 (on0_fits g refs.length) (by omega) (by simp [on0]; omega) hU
        have hl := res8_len g hf hA e3 hU
        have hle := res8_le g hf hA e3 hU
        rw [sets_on0] at w8'
        generalize res8 g = q at w8' hl hle
        obtain ⟨l, oe, lb⟩ := q
        simp only at hl hle w8'
        have la := l5a g refs hE (by omega)
        have k0 : K5 refs.length 0 g.es.length = List.replicate g.es.length (T.own []) := by simp [K5]
        have sl : (sets0 g refs.length l).length = refs.length := by simp [sets0]
        have lc := l5c (sets0 g refs.length l) (fun row hr => by
          simp only [sets0, List.mem_map] at hr
          obtain ⟨_, _, rfl⟩ := hr
          exact ⟨fun b hb => by simp at hb; exact hb.2, by simp; omega⟩) (by rw [sl]; omega)
        have tk : ((on0 g refs.length).map (bools true)).take g.es.length = (on0 g refs.length).map (bools true) := List.take_of_length_le (by simp [on0])
        have fk := frzs_K5 g refs.length
        have kl := K5_len refs.length g.es.length g.es.length (Nat.le_refl _)
        have k1 : (24 : Int) * g.es.length ≤ 281474976710656 := by omega
        have k2 : (g.es.length : Int) ≤ 9223372036854775807 := by omega
        simp only [S5, k0, graph, ints, edgess, labs, boolss, I, Int.cast_ofNat_Int, List.cons_append, List.nil_append] at la
        simp only [S5c, boolss, I, Int.cast_ofNat_Int, List.cons_append, List.nil_append] at lc
        simp only [graph, ints, edgess, labs, boolss, I] at w8'
        rw [sl] at lc
        simp -implicitDefEqProofs (maxSteps := 400000) [go_sem, graph, ints, edgess, labs, boolss, I, w1, c1, c2, c3, e2', w2, e3, lv, trunc, la, lc, w8', tk, fk, kl, k1, k2, sl, hl, T.imms, T.imm, immsC]
      · simp -implicitDefEqProofs (maxSteps := 400000) [go_sem, graph, ints, edgess, labs, I, w1, c1, c2, e2', w2, e3, lv, trunc]
end Go.Fair

namespace Go.Fair
open Go Go.Am Go.Proofs
set_option linter.unusedSimpArgs false
set_option linter.unusedVariables false
theorem dec_list {α : Type} {Q : α → Prop} (f : α → D) : ∀ (l : List D), (∀ y ∈ l, ∃ a, y = f a ∧ Q a) → ∃ vs : List α, l = vs.map f ∧ ∀ a ∈ vs, Q a
  | [], _ => ⟨[], rfl, by simp⟩
  | y :: l, h => by
    obtain ⟨a, rfl, ha⟩ := h y (by simp)
    obtain ⟨vs, rfl, hs⟩ := dec_list f l (fun z hz => h z (by simp [hz]))
    exact ⟨a :: vs, rfl, by simpa using ⟨ha, hs⟩⟩
def In64 (m : Int) : Prop := -9223372036854775808 ≤ m ∧ m ≤ 9223372036854775807
theorem dec3 {n : Nat} {x : D} (h : Ty P (n + 1) 3 x) : ∃ m, x = I m ∧ In64 m := by
  have hu : P.underlying 3 = some (.int .i64) := Try.underlying3
  simp only [Ty, hu] at h
  obtain ⟨m, rfl, h1, h2⟩ := h
  exact ⟨m, rfl, by simpa [IntKind.min, IntKind.signed, IntKind.bits] using h1, by simpa [IntKind.max, IntKind.signed, IntKind.bits] using h2⟩
theorem dec45 {n : Nat} {x : D} (h : Ty P (n + 1) 45 x) : ∃ m, x = .int .u64 m ∧ True := by
  have hu : P.underlying 45 = some (.int .u64) := Try.underlying45
  simp only [Ty, hu] at h
  obtain ⟨m, rfl, h1, h2⟩ := h
  exact ⟨m, rfl, trivial⟩
theorem dec22 {n : Nat} {x : D} (h : Ty P (n + 2) 22 x) : ∃ l, x = ints false l ∧ ∀ m ∈ l, In64 m := by
  have hu : P.underlying 22 = some (.slice 3) := Try.underlying22
  rw [Ty] at h
  simp only [hu] at h
  obtain ⟨l, rfl, hl⟩ := h
  obtain ⟨vs, rfl, hs⟩ := dec_list I l (fun y hy => dec3 (hl y hy))
  exact ⟨vs, rfl, hs⟩
theorem dec24 {n : Nat} {x : D} (h : Ty P (n + 2) 24 x) : ∃ l, x = labs false l := by
  have hu : P.underlying 24 = some (.slice 45) := Try.underlying24
  rw [Ty] at h
  simp only [hu] at h
  obtain ⟨l, rfl, hl⟩ := h
  obtain ⟨vs, rfl, hs⟩ := dec_list (fun n => D.int .u64 n) l (fun y hy => dec45 (hl y hy))
  exact ⟨vs, rfl⟩
theorem dec41 {n : Nat} {x : D} (h : Ty P (n + 2) 41 x) : ∃ e : Int × Int, x = edge e ∧ In64 e.2 := by
  have hu : P.underlying 41 = _ := Try.underlying41
  rw [Ty] at h
  simp only [hu] at h
  obtain ⟨ys, rfl, a, r, rfl, h1, b, r2, rfl, h2, rfl⟩ := h
  obtain ⟨m, rfl, _⟩ := dec3 h1
  obtain ⟨m2, rfl, h3⟩ := dec3 h2
  exact ⟨(m, m2), rfl, h3⟩
theorem dec39 {n : Nat} {x : D} (h : Ty P (n + 3) 39 x) : ∃ l, x = edges false l ∧ ∀ e ∈ l, In64 e.2 := by
  have hu : P.underlying 39 = some (.slice 41) := Try.underlying39
  rw [Ty] at h
  simp only [hu] at h
  obtain ⟨l, rfl, hl⟩ := h
  obtain ⟨vs, rfl, hs⟩ := dec_list edge l (fun y hy => dec41 (hl y hy))
  exact ⟨vs, rfl, hs⟩
theorem dec23 {n : Nat} {x : D} (h : Ty P (n + 4) 23 x) : ∃ l, x = edgess false l ∧ ∀ s ∈ l, ∀ e ∈ s, In64 e.2 := by
  have hu : P.underlying 23 = some (.slice 39) := Try.underlying23
  rw [Ty] at h
  simp only [hu] at h
  obtain ⟨l, rfl, hl⟩ := h
  obtain ⟨vs, rfl, hs⟩ := dec_list (edges false) l (fun y hy => dec39 (hl y hy))
  exact ⟨vs, rfl, hs⟩
theorem dec26 {n : Nat} {x : D} (h : Ty P (n + 5) 26 x) : ∃ g, x = graph false g ∧ FitA g := by
  have hu : P.underlying 26 = _ := Try.underlying26
  rw [Ty] at h
  simp only [hu] at h
  obtain ⟨ys, rfl, a, r, rfl, h1, b, r2, rfl, h2, c, r3, rfl, h3, rfl⟩ := h
  obtain ⟨l1, rfl, _⟩ := dec22 (n := n + 2) h1
  obtain ⟨l2, rfl, h4⟩ := dec23 h2
  obtain ⟨l3, rfl⟩ := dec24 (n := n + 2) h3
  exact ⟨⟨l1, l2, l3⟩, rfl, h4⟩
theorem bulks_I (l : List Int) : D.bulks (l.map I) = l.length := by induction l <;> simp_all [D.bulks, D.bulk, I]; omega
theorem bulks_edge (l : List (Int × Int)) : D.bulks (l.map edge) = 2 * l.length := by induction l <;> simp_all [D.bulks, D.bulk, edge, I]; omega
theorem bulks_edges (l : List (List (Int × Int))) : D.bulks (l.map (edges false)) = 2 * sumL l + l.length := by
  induction l with
  | nil => rfl
  | cons a r ih => simp only [sumL, List.map_cons, D.bulks, D.bulk, edges, bulks_edge, List.sum_cons, List.length_cons] at ih ⊢; omega
theorem bulk_graph {g : Gr} {r : List D} {B : Nat} (h : D.bulks (graph false g :: r) ≤ B) : g.init.length ≤ B ∧ g.es.length ≤ B ∧ 2 * sumL g.es ≤ B := by
  simp only [D.bulks, graph, D.bulk, ints, edgess, bulks_I, bulks_edges] at h
  omega
theorem len_sumL {l : List (List (Int × Int))} {x : List (Int × Int)} (h : x ∈ l) : x.length ≤ sumL l := by
  induction l with
  | nil => simp at h
  | cons a r ih =>
    simp only [sumL, List.map_cons, List.sum_cons] at ih ⊢
    rcases List.mem_cons.1 h with rfl | h
    · omega
    · have := ih h; omega
theorem fit_of {g : Gr} {r : List D} (h : D.bulks (graph false g :: r) ≤ 1048576) : Fit g ∧ farN g < 4611686018427387904 := by
  obtain ⟨h1, h2, h3⟩ := bulk_graph h
  refine ⟨⟨by omega, by omega, fun l hl => ?_⟩, by unfold farN; omega⟩
  have := len_sumL hl
  omega
end Go.Fair

