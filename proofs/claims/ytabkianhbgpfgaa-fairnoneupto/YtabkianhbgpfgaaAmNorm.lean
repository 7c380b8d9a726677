/- The abstract machine: what the operations do on values that are written out. -/
import Derived.Test.YtabkianhbgpfgaaAmWalk
namespace Go.Am
open Go
set_option linter.unusedSimpArgs false
set_option linter.unusedVariables false

theorem wrap_i64 {x : Int} (h1 : -9223372036854775808 ≤ x) (h2 : x ≤ 9223372036854775807) : IntKind.i64.wrap x = x := by
  simp only [IntKind.wrap, IntKind.signed, IntKind.bits]; simp; omega
theorem wrap_u8 {x : Int} (h1 : 0 ≤ x) (h2 : x ≤ 255) : IntKind.u8.wrap x = x := by
  simp only [IntKind.wrap, IntKind.signed, IntKind.bits]; simp; omega
theorem wrap_u64 {x : Int} (h1 : 0 ≤ x) (h2 : x ≤ 18446744073709551615) : IntKind.u64.wrap x = x := by
  simp only [IntKind.wrap, IntKind.signed, IntKind.bits]; simp; omega

section
variable {P : Program} {dst nv : Nat} {sl : Bool} {k : Wk}
@[go_sem] theorem as_int {q : IntKind} {n : Int} : assignE dst sl (.d (.int q n)) k = some (.d (.int q n), k) := rfl
@[go_sem] theorem as_bool {b : Bool} : assignE dst sl (.d (.bool b)) k = some (.d (.bool b), k) := rfl
@[go_sem] theorem as_str {s : List UInt8} : assignE dst sl (.d (.str s)) k = some (.d (.str s), k) := rfl
@[go_sem] theorem as_sl {b : Bool} {l : List D} : assignE dst sl (.d (.sl b l)) k = some (.d (.sl b l), k) := rfl
@[go_sem] theorem as_agg {l : List D} : assignE dst sl (.d (.agg l)) k = some (.d (.agg l), k) := rfl
@[go_sem] theorem as_nilp : assignE dst sl (.d .nilp) k = some (.d .nilp, k) := rfl
@[go_sem] theorem as_ptr {o : Nat} : assignE dst sl (.d (.ptr o)) k = some (.d (.ptr o), k) := rfl
@[go_sem] theorem as_nilm : assignE dst sl (.d .nilm) k = some (.d .nilm, k) := rfl
@[go_sem] theorem as_map {o : Nat} : assignE dst sl (.d (.map o)) k = some (.d (.map o), k) := rfl
@[go_sem] theorem as_nilf : assignE dst sl (.d .nilf) k = some (.d .nilf, k) := rfl
@[go_sem] theorem as_fn {f : Fn} {a c : List D} : assignE dst sl (.d (.fn f a c)) k = some (.d (.fn f a c), k) := rfl
@[go_sem] theorem as_nili : assignE dst sl (.d .nili) k = some (.d .nili, k) := rfl
@[go_sem] theorem as_nils : assignE dst sl (.d .nils) k = if sl = true then some (.bor (.l dst 0) [] 0 0, k.new dst 0 (.own [])) else some (.d .nils, k) := rfl
@[go_sem] theorem as_rp {b : Bool} {l : List D} : assignE dst sl (.rp b l) k = some (.rp b l, k) := rfl
@[go_sem] theorem as_clip {b : Bool} {l : List D} : assignE dst sl (.clip b l) k = some (.clip b l, k) := rfl
@[go_sem] theorem as_loc {r : Root} {p : Path} {i o : Nat} : assignE dst sl (.loc r p i o) k = some (.loc r p i o, k) := rfl
@[go_sem] theorem as_svagg {l : List SV} : assignE dst sl (.agg l) k = some (.agg l, k) := rfl
@[go_sem] theorem as_svtup {l : List SV} : assignE dst sl (.tup l) k = some (.tup l, k) := rfl
@[go_sem] theorem as_borO {n : Nat} {p : Path} {o len : Nat} : assignE dst sl (.bor (.o n) p o len) k = some (.bor (.o n) p o len, k) := by cases p <;> cases o <;> rfl
@[go_sem] theorem as_borP {r : Root} {a : Nat × Nat} {p : Path} {o len : Nat} : assignE dst sl (.bor r (a :: p) o len) k = some (.bor r (a :: p) o len, k) := by cases r <;> cases o <;> rfl
@[go_sem] theorem as_bor {n j len : Nat} : assignE dst sl (.bor (.l n j) [] 0 len) k = if (n, j) = (dst, 0) then some (.bor (.l n j) [] 0 len, k) else (k.get (.l n j)).bind fun c => match c with
    | .own es => if len = es.length then some (.bor (.l dst 0) [] 0 len, ({ k with ct := ((n, j), .dead) :: k.ct }.new dst 0 c).tell (.ren (n, j) (dst, 0))) else some (.bor (.l n j) [] 0 len, k)
    | _ => none := rfl

/-! numbers -/
section
variable {c : Bool} {t : TypeId} {q : IntKind} {a b : Int}
@[go_sem] theorem bin_add : binE P c .add t (.d (.int q a)) (.d (.int q b)) = some (.int q (q.wrap (a + b))) := by simp [binE, intOp]
@[go_sem] theorem bin_sub : binE P c .sub t (.d (.int q a)) (.d (.int q b)) = some (.int q (q.wrap (a - b))) := by simp [binE, intOp]
@[go_sem] theorem bin_mul : binE P c .mul t (.d (.int q a)) (.d (.int q b)) = some (.int q (q.wrap (a * b))) := by simp [binE, intOp]
@[go_sem] theorem bin_quo : binE P c .quo t (.d (.int q a)) (.d (.int q b)) = if b = 0 then none else some (.int q (q.wrap (a.tdiv b))) := by simp [binE, intOp]
@[go_sem] theorem bin_rem : binE P c .rem t (.d (.int q a)) (.d (.int q b)) = if b = 0 then none else some (.int q (a.tmod b)) := by simp [binE, intOp]
@[go_sem] theorem bin_eql : binE P c .eql t (.d (.int q a)) (.d (.int q b)) = some (.bool (decide (a = b))) := by simp [binE, intOp]; rfl
@[go_sem] theorem bin_neq : binE P c .neq t (.d (.int q a)) (.d (.int q b)) = some (.bool (decide (a ≠ b))) := by simp [binE, intOp, bne]; rfl
@[go_sem] theorem bin_lss : binE P c .lss t (.d (.int q a)) (.d (.int q b)) = some (.bool (decide (a < b))) := by simp [binE, intOp]
@[go_sem] theorem bin_leq : binE P c .leq t (.d (.int q a)) (.d (.int q b)) = some (.bool (decide (a ≤ b))) := by simp [binE, intOp]
@[go_sem] theorem bin_gtr : binE P c .gtr t (.d (.int q a)) (.d (.int q b)) = some (.bool (decide (b < a))) := by simp [binE, intOp]
@[go_sem] theorem bin_geq : binE P c .geq t (.d (.int q a)) (.d (.int q b)) = some (.bool (decide (b ≤ a))) := by simp [binE, intOp]
@[go_sem] theorem bin_eqlB {x y : Bool} : binE P c .eql t (.d (.bool x)) (.d (.bool y)) = match P.underlying t with | some .bool => some (.bool (decide (x = y))) | _ => none := by
  simp only [binE, eqV]
  cases P.underlying t with
  | none => rfl
  | some d => cases d <;> first | rfl | (cases x <;> cases y <;> rfl)
@[go_sem] theorem bin_neqB {x y : Bool} : binE P c .neq t (.d (.bool x)) (.d (.bool y)) = match P.underlying t with | some .bool => some (.bool (decide (x ≠ y))) | _ => none := by
  simp only [binE, eqV]
  cases P.underlying t with
  | none => rfl
  | some d => cases d <;> first | rfl | (cases x <;> cases y <;> rfl)
@[go_sem] theorem bin_eqlA {x y : List D} : binE P c .eql t (.d (.agg x)) (.d (.agg y)) = (plainS P t).bind fun ks => (eqKs ks x y).bind fun b => some (.bool b) := by
  simp only [binE, eqV]
  cases plainS P t with
  | none => rfl
  | some ks => simp only [Option.bind_some]; cases eqKs ks x y <;> rfl
@[go_sem] theorem bin_neqA {x y : List D} : binE P c .neq t (.d (.agg x)) (.d (.agg y)) = (plainS P t).bind fun ks => (eqKs ks x y).bind fun b => some (.bool !b) := by
  simp only [binE, eqV]
  cases plainS P t with
  | none => rfl
  | some ks => simp only [Option.bind_some]; cases eqKs ks x y <;> rfl
@[go_sem] theorem bin_eqlS {x y : List UInt8} : binE P c .eql t (.d (.str x)) (.d (.str y)) = some (.bool (decide (x = y))) := by
  have : (x == y) = decide (x = y) := by rw [Bool.eq_iff_iff]; simp
  simp only [binE, strOp, this]
@[go_sem] theorem bin_neqS {x y : List UInt8} : binE P c .neq t (.d (.str x)) (.d (.str y)) = some (.bool (decide (x ≠ y))) := by
  have : (!(x == y)) = decide (x ≠ y) := by rw [Bool.eq_iff_iff]; simp
  simp only [binE, strOp, this]
end
@[go_sem] theorem eqKs_nil : eqKs [] [] [] = some true := rfl
@[go_sem] theorem eqKs_int {ns : List Nat} {q : IntKind} {a b : Int} {r s : List D} : eqKs (0 :: ns) (.int q a :: r) (.int q b :: s) = (eqKs ns r s).bind fun x => some (decide (a = b) && x) := by
  simp only [eqKs, eqK, if_true, Option.bind_some, Option.map_eq_bind]; rfl
@[go_sem] theorem eqKs_bool {ns : List Nat} {a b : Bool} {r s : List D} : eqKs (2 :: ns) (.bool a :: r) (.bool b :: s) = (eqKs ns r s).bind fun x => some (decide (a = b) && x) := by
  simp only [eqKs, eqK, Option.bind_some, Option.map_eq_bind]; cases a <;> cases b <;> rfl
@[go_sem] theorem eqKs_str {ns : List Nat} {a b : List UInt8} {r s : List D} : eqKs (1 :: ns) (.str a :: r) (.str b :: s) = (eqKs ns r s).bind fun x => some (decide (a = b) && x) := by
  have : (a == b) = decide (a = b) := by rw [Bool.eq_iff_iff]; simp
  simp only [eqKs, eqK, Option.bind_some, Option.map_eq_bind, this]; rfl
@[go_sem] theorem un_not {b : Bool} : unE .not (.d (.bool b)) = some (.bool !b) := rfl
@[go_sem] theorem un_neg {q : IntKind} {n : Int} : unE .neg (.d (.int q n)) = some (.int q (q.wrap (0 - n))) := rfl
@[go_sem] theorem conv_int {s t : TypeId} {q : IntKind} {n : Int} : convE P s t (.d (.int q n)) = match P.underlying s, P.underlying t with | some _, some (.int q) => some (.int q (q.wrap n)) | some _, some .string => some (.str (Utf8.encode n).data.toList) | _, _ => none := rfl

/-! slices, structs, places -/
@[go_sem] theorem len_sl {t : TypeId} {H : List Ob} {b : Bool} {l : List D} : lenE P t H (.d (.sl b l)) = match P.underlying t with | some (.slice _) => some (l.length : Int) | _ => none := rfl
@[go_sem] theorem len_nils {t : TypeId} {H : List Ob} : lenE P t H (.d .nils) = match P.underlying t with | some (.slice _) => some 0 | _ => none := rfl
@[go_sem] theorem len_str {t : TypeId} {H : List Ob} {s : List UInt8} : lenE P t H (.d (.str s)) = match P.underlying t with | some .string => some (s.length : Int) | _ => none := rfl
@[go_sem] theorem len_bor {t : TypeId} {H : List Ob} {r : Root} {p : Path} {o n : Nat} : lenE P t H (.bor r p o n) = match P.underlying t with | some (.slice _) => some (n : Int) | _ => none := rfl
@[go_sem] theorem len_clip {t : TypeId} {H : List Ob} {b : Bool} {l : List D} : lenE P t H (.clip b l) = match P.underlying t with | some (.slice _) => some (l.length : Int) | _ => none := rfl
@[go_sem] theorem ia_sl {t : TypeId} {b : Bool} {l : List D} {q : IntKind} {n : Int} : indexAddrE P t (.d (.sl b l)) (.d (.int q n)) k = match P.underlying t with | some (.slice e) => if 0 ≤ n then (l[n.toNat]?).bind fun y => if y.nc = P.cellsOf e then some (.rp b y.cells) else none else none | _ => none := by
  simp only [indexAddrE]
  cases P.underlying t with
  | none => rfl
  | some d => cases d <;> rfl
@[go_sem] theorem ia_bor {t : TypeId} {r : Root} {p : Path} {o len : Nat} {q : IntKind} {n : Int} : indexAddrE P t (.bor r p o len) (.d (.int q n)) k = match P.underlying t with
    | some (.slice e) => if 0 ≤ n ∧ n < len then (k.get r).bind fun c => (c.at p).bind fun nd => match nd with
      | .own es => (es[o + n.toNat]?).bind fun y => if y.nc = P.cellsOf e then some (.loc r p (o + n.toNat) 0) else none
      | _ => none
      else none
    | _ => none := by
  simp only [indexAddrE]
  cases P.underlying t with
  | none => rfl
  | some d => cases d <;> rfl
@[go_sem] theorem ld_rp {t : TypeId} {b : Bool} {cs : List D} : loadE P t (.rp b cs) k = (aggO P t).bind fun ag => if ag = true then (if P.cellsOf t ≤ cs.length then some (.d (.agg (cs.take (P.cellsOf t)))) else none) else (cs[0]?).bind D.sv1 := rfl
/-- what stands in an element -/
def loadC (P : Program) (t : TypeId) (r : Root) (p : Path) (i off : Nat) (e : T) : Option SV :=
  (aggO P t).bind fun ag => if ag = true then
      match e with
      | .d (.agg l) => if off + P.cellsOf t ≤ l.length then some (.d (.agg (win l off (P.cellsOf t)))) else none
      | .agg cs => if off + P.cellsOf t ≤ cs.length then (cellsSV r p i off (win cs off (P.cellsOf t))).map SV.mkAgg else none
      | _ => none
    else (e.cell off).bind (cellSV r p i off)
@[go_sem] theorem ld_loc {t : TypeId} {r : Root} {p : Path} {i off : Nat} : loadE P t (.loc r p i off) k = (k.get r).bind fun c => (c.at p).bind fun nd => match nd with | .own es => (es[i]?).bind (loadC P t r p i off) | _ => none := by
  simp only [loadE, asLoc]
  cases k.get r with
  | none => rfl
  | some c =>
    simp only [Option.bind_some]
    cases c.at p with
    | none => rfl
    | some nd => cases nd <;> rfl
@[go_sem] theorem ld_ptr {t : TypeId} {n : Nat} : loadE P t (.d (.ptr n)) k = loadE P t (.loc (.o n) [] 0 0) k := rfl
@[go_sem] theorem loadC_d {t : TypeId} {r : Root} {p : Path} {i off : Nat} {x : D} : loadC P t r p i off (.d x) = (aggO P t).bind fun ag => if ag = true then (match x with | .agg l => if off + P.cellsOf t ≤ l.length then some (.d (.agg (win l off (P.cellsOf t)))) else none | _ => none) else (T.cell (.d x) off).bind (cellSV r p i off) := by
  simp only [loadC]; cases x <;> rfl
@[go_sem] theorem loadC_own {t : TypeId} {r : Root} {p : Path} {i off : Nat} {es : List T} : loadC P t r p i off (.own es) = (aggO P t).bind fun ag => if ag = true then none else (T.cell (.own es) off).bind (cellSV r p i off) := rfl
@[go_sem] theorem loadC_agg {t : TypeId} {r : Root} {p : Path} {i off : Nat} {cs : List T} : loadC P t r p i off (.agg cs) = (aggO P t).bind fun ag => if ag = true then (if off + P.cellsOf t ≤ cs.length then (cellsSV r p i off (win cs off (P.cellsOf t))).map SV.mkAgg else none) else (T.cell (.agg cs) off).bind (cellSV r p i off) := rfl
@[go_sem] theorem cell_agg {l : List T} {o : Nat} : T.cell (.agg l) o = l[o]? := rfl
@[go_sem] theorem cell_dagg {l : List D} {o : Nat} : T.cell (.d (.agg l)) o = (l[o]?).bind fun x => some (.d x) := by
  show (l[o]?).map _ = _; rw [Option.map_eq_bind]; rfl
@[go_sem] theorem cell_int {q : IntKind} {n : Int} : T.cell (.d (.int q n)) 0 = some (.d (.int q n)) := rfl
@[go_sem] theorem cell_bool {b : Bool} : T.cell (.d (.bool b)) 0 = some (.d (.bool b)) := rfl
@[go_sem] theorem cell_str {s : List UInt8} : T.cell (.d (.str s)) 0 = some (.d (.str s)) := rfl
@[go_sem] theorem cell_sl {b : Bool} {l : List D} : T.cell (.d (.sl b l)) 0 = some (.d (.sl b l)) := rfl
@[go_sem] theorem cell_nils : T.cell (.d .nils) 0 = some (.d .nils) := rfl
@[go_sem] theorem cell_ptr {o : Nat} : T.cell (.d (.ptr o)) 0 = some (.d (.ptr o)) := rfl
@[go_sem] theorem cell_nilp : T.cell (.d .nilp) 0 = some (.d .nilp) := rfl
@[go_sem] theorem cell_map {o : Nat} : T.cell (.d (.map o)) 0 = some (.d (.map o)) := rfl
@[go_sem] theorem cell_fn {f : Fn} {a c : List D} : T.cell (.d (.fn f a c)) 0 = some (.d (.fn f a c)) := rfl
@[go_sem] theorem cell_own {es : List T} : T.cell (.own es) 0 = some (.own es) := rfl
@[go_sem] theorem csv_d {r : Root} {p : Path} {i o : Nat} {x : D} : cellSV r p i o (.d x) = x.sv1 := rfl
@[go_sem] theorem csv_own {r : Root} {p : Path} {i o : Nat} {es : List T} : cellSV r p i o (.own es) = some (.bor r (p ++ [(i, o)]) 0 es.length) := rfl
@[go_sem] theorem sv1_int {q : IntKind} {n : Int} : D.sv1 (.int q n) = some (.d (.int q n)) := rfl
@[go_sem] theorem sv1_bool {b : Bool} : D.sv1 (.bool b) = some (.d (.bool b)) := rfl
@[go_sem] theorem sv1_str {s : List UInt8} : D.sv1 (.str s) = some (.d (.str s)) := rfl
@[go_sem] theorem sv1_sl {b : Bool} {l : List D} : D.sv1 (.sl b l) = some (.d (.sl b l)) := rfl
@[go_sem] theorem sv1_nils : D.sv1 .nils = some (.d .nils) := rfl
@[go_sem] theorem sv1_ptr {o : Nat} : D.sv1 (.ptr o) = some (.d (.ptr o)) := rfl
@[go_sem] theorem sv1_nilp : D.sv1 .nilp = some (.d .nilp) := rfl
@[go_sem] theorem sv1_map {o : Nat} : D.sv1 (.map o) = some (.d (.map o)) := rfl
@[go_sem] theorem sv1_nilm : D.sv1 .nilm = some (.d .nilm) := rfl
@[go_sem] theorem sv1_fn {f : Fn} {a c : List D} : D.sv1 (.fn f a c) = some (.d (.fn f a c)) := rfl
@[go_sem] theorem cells_int {q : IntKind} {n : Int} : D.cells (.int q n) = [.int q n] := rfl
@[go_sem] theorem cells_bool {b : Bool} : D.cells (.bool b) = [.bool b] := rfl
@[go_sem] theorem cells_str {s : List UInt8} : D.cells (.str s) = [.str s] := rfl
@[go_sem] theorem cells_sl {b : Bool} {l : List D} : D.cells (.sl b l) = [.sl b l] := rfl
@[go_sem] theorem cells_agg {l : List D} : D.cells (.agg l) = l := rfl
@[go_sem] theorem cells_nils : D.cells .nils = [.nils] := rfl
@[go_sem] theorem nc_int {q : IntKind} {n : Int} : D.nc (.int q n) = 1 := rfl
@[go_sem] theorem nc_bool {b : Bool} : D.nc (.bool b) = 1 := rfl
@[go_sem] theorem nc_str {s : List UInt8} : D.nc (.str s) = 1 := rfl
@[go_sem] theorem nc_sl {b : Bool} {l : List D} : D.nc (.sl b l) = 1 := rfl
@[go_sem] theorem nc_agg {l : List D} : D.nc (.agg l) = l.length := rfl
@[go_sem] theorem nc_nils : D.nc .nils = 1 := rfl
@[go_sem] theorem nc_ptr {o : Nat} : D.nc (.ptr o) = 1 := rfl
@[go_sem] theorem nc_map {o : Nat} : D.nc (.map o) = 1 := rfl
@[go_sem] theorem nc_fn {f : Fn} {a c : List D} : D.nc (.fn f a c) = 1 := rfl
@[go_sem] theorem tnc_d {x : D} : T.nc (.d x) = x.nc := rfl
@[go_sem] theorem tnc_own {l : List T} : T.nc (.own l) = 1 := rfl
@[go_sem] theorem tnc_agg {l : List T} : T.nc (.agg l) = l.length := rfl
@[go_sem] theorem fa_rp {t : TypeId} {b : Bool} {cs : List D} {f : Nat} : fieldAddrE P t (.rp b cs) f k = (fieldOf P t f).bind fun p => if 0 < p.2.1 then some (.rp b (cs.drop p.1)) else none := rfl
@[go_sem] theorem fa_loc {t : TypeId} {r : Root} {p : Path} {i o f : Nat} : fieldAddrE P t (.loc r p i o) f k = (fieldOf P t f).bind fun q => if 0 < q.2.1 then (if locOk k r p i (o + q.1) = true then some (.loc r p i (o + q.1)) else none) else none := rfl
@[go_sem] theorem fa_ptr {t : TypeId} {n f : Nat} : fieldAddrE P t (.d (.ptr n)) f k = fieldAddrE P t (.loc (.o n) [] 0 0) f k := rfl
@[go_sem] theorem fe_agg {t : TypeId} {l : List D} {f : Nat} : fieldE P t (.d (.agg l)) f = (fieldOf P t f).bind fun q => if q.2.2 = true then (if q.1 + q.2.1 ≤ l.length then some (.d (.agg (win l q.1 q.2.1))) else none) else (l[q.1]?).bind D.sv1 := rfl
@[go_sem] theorem at_nil {t : T} : t.at [] = some t := by unfold T.at; rfl
@[go_sem] theorem at_cons {es : List T} {i o : Nat} {p : Path} : T.at (.own es) ((i, o) :: p) = (es[i]?).bind fun e => (e.cell o).bind fun c => c.at p := by simp only [T.at]
@[go_sem] theorem put_nil {t x : T} : t.put [] x = some x := by unfold T.put; rfl
@[go_sem] theorem put_cons {es : List T} {i o : Nat} {p : Path} {x : T} : T.put (.own es) ((i, o) :: p) x = (es[i]?).bind fun e => (e.cell o).bind fun c => (c.put p x).bind fun c' => some (.own (es.set i (e.putCell o c'))) := by simp only [T.put, Option.map_eq_bind]; rfl
@[go_sem] theorem get_l {ct : List ((Nat × Nat) × T)} {H : List Ob} {tr : List Tr} {n j : Nat} : Wk.get ⟨ct, H, tr⟩ (.l n j) = lookR ct (n, j) := rfl
@[go_sem] theorem get_o {ct : List ((Nat × Nat) × T)} {H : List Ob} {tr : List Tr} {n : Nat} : Wk.get ⟨ct, H, tr⟩ (.o n) = match H[n]? with | some (.box c) => some (.own [c]) | _ => none := rfl
@[go_sem] theorem set_l {ct : List ((Nat × Nat) × T)} {H : List Ob} {tr : List Tr} {n j : Nat} {t : T} : Wk.set ⟨ct, H, tr⟩ (.l n j) t = some ⟨((n, j), t) :: ct, H, tr⟩ := rfl
@[go_sem] theorem set_o {ct : List ((Nat × Nat) × T)} {H : List Ob} {tr : List Tr} {n : Nat} {c : T} : Wk.set ⟨ct, H, tr⟩ (.o n) (.own [c]) = some ⟨ct, H.set n (.box c), tr⟩ := rfl
@[go_sem] theorem tell_mk {ct : List ((Nat × Nat) × T)} {H : List Ob} {tr : List Tr} {x : Tr} : Wk.tell ⟨ct, H, tr⟩ x = ⟨ct, H, tr ++ [x]⟩ := rfl
@[go_sem] theorem new_mk {ct : List ((Nat × Nat) × T)} {H : List Ob} {tr : List Tr} {n j : Nat} {t : T} : Wk.new ⟨ct, H, tr⟩ n j t = ⟨((n, j), t) :: ct, H, tr ++ [.kill (.l n j) []]⟩ := rfl
@[go_sem] theorem box_eq {h : Hint} {x : T} : boxE h dst x k = if x.nc = 0 then none else if h.objs.contains dst = true then some (.d (.ptr k.H.length), { k with H := k.H ++ [.box x] }) else some (.loc (.l dst 0) [] 0 0, k.new dst 0 (.own [x])) := rfl
attribute [go_sem] absorb_d locOk
@[go_sem] theorem ab_clip {b : Bool} {l : List D} : absorb nv (.clip b l) k = some (.d (.sl b l), k) := by
  have : ∀ a : List Tr, trv a (.clip b l) = .clip b l := fun a => by
    induction a with
    | nil => rfl
    | cons x a ih => simp only [trv, sv_clip, ih]
  show absorb1 nv (trv k.tr (.clip b l)) k = _
  rw [this]; rfl
@[go_sem] theorem ab_bor {r : Root} {p : Path} {o len : Nat} : absorb nv (.bor r p o len) k = absorb1 nv (trv k.tr (.bor r p o len)) k := rfl
@[go_sem] theorem ab_loc {r : Root} {p : Path} {i o : Nat} : absorb nv (.loc r p i o) k = absorb1 nv (trv k.tr (.loc r p i o)) k := rfl
@[go_sem] theorem ab_agg {l : List SV} : absorb nv (.agg l) k = (absorbs nv l k).bind fun p => some (T.mkAgg p.1, p.2) := by show (absorbs nv l k).map _ = _; rw [Option.map_eq_bind]; rfl
@[go_sem] theorem ab1_d {x : D} : absorb1 nv (.d x) k = some (.d x, k) := rfl
@[go_sem] theorem ab1_l {n j o len : Nat} : absorb1 nv (.bor (.l n j) [] o len) k = (k.get (.l n j)).bind fun c => match c with
    | .own es => if nv ≤ n ∧ o = 0 ∧ len = es.length then (k.set (.l n j) .dead).bind fun (k : Wk) => some (.own es, k.tell (.kill (.l n j) []))
      else (T.frzs false es).bind fun l => (k.set (.l n j) .dead).bind fun (k : Wk) => some (.d (.sl false (win l o len)), k.tell (.frz (.l n j) [] l))
    | _ => none := by
  simp only [absorb1]
  cases k.get (.l n j) with
  | none => rfl
  | some c =>
    simp only [Option.bind_some, at_nil]
    cases c with
    | own es => simp only [Option.map_eq_bind]; rfl
    | _ => rfl
@[go_sem] theorem abs_nil : absorbs nv [] k = some ([], k) := rfl
@[go_sem] theorem abs_cons {v : SV} {r : List SV} : absorbs nv (v :: r) k = (absorb1 nv (trv k.tr v) k).bind fun p => (absorbs nv r p.2).bind fun q => some (p.1 :: q.1, q.2) := by simp only [absorbs, Option.map_eq_bind]; rfl
@[go_sem] theorem sna_nil {b : Lend} : snapA nv [] k b = some ([], k, b) := rfl
@[go_sem] theorem sna_cons {v : SV} {r : List SV} {b : Lend} : snapA nv (v :: r) k b = (snap nv v k b).bind fun p => (snapA nv r p.2.1 p.2.2).bind fun q => some (p.1 :: q.1, q.2.1, q.2.2) := by simp only [snapA, Option.map_eq_bind]; rfl
@[go_sem] theorem sn_d {x : D} {b : Lend} : snap nv (.d x) k b = some (x.norm, k, b) := by simp only [snap, trv_d, snap1]
@[go_sem] theorem sn_bor {r : Root} {p : Path} {o len : Nat} {b : Lend} : snap nv (.bor r p o len) k b = snap1 nv (trv k.tr (.bor r p o len)) k b := rfl
@[go_sem] theorem norm_int {q : IntKind} {n : Int} : D.norm (.int q n) = .int q n := rfl
@[go_sem] theorem norm_bool {b : Bool} : D.norm (.bool b) = .bool b := rfl
@[go_sem] theorem norm_str {s : List UInt8} : D.norm (.str s) = .str s := rfl
@[go_sem] theorem norm_sl {b : Bool} {l : List D} : D.norm (.sl b l) = .sl b l := rfl
@[go_sem] theorem norm_nils : D.norm .nils = .sl false [] := rfl
@[go_sem] theorem norm_ptr {o : Nat} : D.norm (.ptr o) = .ptr o := rfl
@[go_sem] theorem norm_map {o : Nat} : D.norm (.map o) = .map o := rfl
@[go_sem] theorem norm_fn {f : Fn} {a c : List D} : D.norm (.fn f a c) = .fn f a c := rfl
@[go_sem] theorem norm_agg' {l : List D} : D.norm (.agg l) = .agg (l.map D.norm1) := rfl
@[go_sem] theorem norm1_int {q : IntKind} {n : Int} : D.norm1 (.int q n) = .int q n := rfl
@[go_sem] theorem norm1_bool {b : Bool} : D.norm1 (.bool b) = .bool b := rfl
@[go_sem] theorem norm1_str {s : List UInt8} : D.norm1 (.str s) = .str s := rfl
@[go_sem] theorem norm1_sl {b : Bool} {l : List D} : D.norm1 (.sl b l) = .sl b l := rfl
@[go_sem] theorem norm1_nils : D.norm1 .nils = .sl false [] := rfl
@[go_sem] theorem norm1_ptr {o : Nat} : D.norm1 (.ptr o) = .ptr o := rfl
@[go_sem] theorem norm1_map {o : Nat} : D.norm1 (.map o) = .map o := rfl
@[go_sem] theorem norm1_fn {f : Fn} {a c : List D} : D.norm1 (.fn f a c) = .fn f a c := rfl
@[go_sem] theorem canon_nil {sn : Bool} : canon sn [] = [] := by unfold canon; split <;> rfl
@[go_sem] theorem pick_nil {l : List (Nat × Nat)} : pick [] l = [] := by induction l with | nil => rfl | cons a l ih => simp [pick, lookR, ih]
@[go_sem] theorem pick_cons {ct : List ((Nat × Nat) × T)} {x : Nat × Nat} {r : List (Nat × Nat)} : pick ct (x :: r) = match lookR ct x with | some t => (x, t) :: pick ct r | none => pick ct r := rfl
@[go_sem] theorem pick_nil' {ct : List ((Nat × Nat) × T)} : pick ct [] = [] := rfl
attribute [go_sem] SV.rootss SV.roots dedup
end
end Go.Am
