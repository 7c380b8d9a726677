/- A part of the proof: texts of mine, merged by a program (wip/dev/merge.py). -/
import Derived.Test.YtofjikajegnpaaaGreatDoorTy6
import Derived.KernelRfl
import Derived.Shelf.Strings.Builder1
import Derived.Shelf.Strings.BuilderF
import Derived.Shelf.Strings.BuilderK
import Derived.Shelf.Strconv.Atoi
import Derived.Shelf.Strconv.Itoa0
import Derived.Shelf.Strconv.Itoa1
import Derived.Shelf.LaysM
import Derived.Shelf.Strconv.Itoa2
import Derived.Shelf.Strconv.Itoa3
import Derived.Shelf.Strconv.AtoiErrFast
import Derived.Shelf.Strconv.ParseIntEmpty
import Derived.Shelf.Strconv.AtoiFail
import Derived.Shelf.Strconv.Clone
import Derived.Shelf.Strconv.SyntaxError
import Derived.Shelf.LaysC
import Derived.Shelf.Strconv.ToError
import Derived.Shelf.Strconv.Lower
import Derived.Shelf.Strconv.ParseUint10
import Derived.Shelf.Strconv.ParseUint10Empty
import Derived.Shelf.Strconv.ParseUint10Any
import Derived.Shelf.Strconv.ParseInt10
import Derived.Shelf.Strconv.AtoiLong
import Derived.Shelf.Strconv.AtoiInnerAll
import Derived.Shelf.Strconv.RangeError
import Derived.Shelf.Strconv.ToErrorRange
import Derived.Shelf.Strconv.AtoiAll
import Derived.Shelf.Strconv.ErrVarAll
import Derived.Shelf.Strings.Search1
import Derived.Shelf.Strings.Search2
import Derived.Shelf.Strings.Search3
import Derived.Shelf.Strings.Cut
import Derived.Shelf.Strings.Count
import Derived.Shelf.Strings.Shaped
import Derived.Shelf.Unicode.DecodeSlow
import Derived.Test.YtofjikajegnpaaaGreatDoorProg
import Derived.Test.YtofjikajegnpaaaGreatDoorChecked
import Derived.WalkKit
import Derived.Laws.Externs
import Derived.Lib.AppendStr
import Derived.Lib.Builder
import Derived.Deep.Draws
import Derived.Lib.AtoiAll
import Derived.WalkSmall
import Derived.Lib.AtoiErrMem
import Derived.Deep.RegionWith
import Derived.Lib.UnsafeStr
import Derived.Below
namespace Go.Am
open Go
set_option linter.unusedSimpArgs false
set_option linter.unusedVariables false
section
variable {P : Program} {t : TypeId} {lo hi : Option SV} {k : Wk} {b : Bool} {xs : List D} {r : Root} {p : Path} {o len : Nat}
@[go_sem] theorem bound_n {d : Nat} : boundE none d = some d := rfl
@[go_sem] theorem bound_i {q : IntKind} {n : Int} {d : Nat} : boundE (some (.d (.int q n))) d = if 0 ≤ n then some n.toNat else none := rfl
@[go_sem] theorem slice_sl : sliceE P t (.d (.sl b xs)) lo hi none k = (elemOf P t).bind fun e => (boundE lo 0).bind fun l => (boundE hi xs.length).bind fun h => if l ≤ h ∧ h ≤ xs.length ∧ (P.info? e).isSome ∧ headD (P.cellsOf e) (win xs l (h - l)) then some (.d (.sl b (win xs l (h - l)))) else none := by
  unfold sliceE elemOf
  cases P.underlying t with
  | none => rfl
  | some d => cases d <;> rfl
@[go_sem] theorem slice_bor : sliceE P t (.bor r p o len) lo hi none k = (elemOf P t).bind fun e => (boundE lo 0).bind fun l => (boundE hi len).bind fun h => if l ≤ h ∧ h ≤ len ∧ (P.info? e).isSome ∧ winOk (P.cellsOf e) r p (o + l) (h - l) k then some (.bor r p (o + l) (h - l)) else none := by
  unfold sliceE elemOf
  cases P.underlying t with
  | none => rfl
  | some d => cases d <;> rfl
@[go_sem] theorem slice_str {s : List UInt8} : sliceE P t (.d (.str s)) lo hi none k = match P.underlying t with | some .string => (boundE lo 0).bind fun l => (boundE hi s.length).bind fun h => if l ≤ h ∧ h ≤ s.length then some (.d (.str (win s l (h - l)))) else none | _ => none := by
  unfold sliceE
  cases P.underlying t with
  | none => rfl
  | some d => cases d <;> rfl
@[go_sem] theorem winOk_eq {n o m : Nat} : winOk n r p o m k = (((k.get r).bind fun c => c.at p).any fun nd => match nd with | .own es => headT n (win es o m) | _ => false) := by
  unfold winOk
  cases (k.get r).bind fun c => c.at p with
  | none => rfl
  | some x => cases x <;> rfl
theorem headT_tl {α : Type} {f : α → D} {l : List α} {n : Nat} (h : ∀ x, (f x).nc = n) : headT n (tl f l) = true := by
  cases l with
  | nil => rfl
  | cons x l => simp [tl, headT, T.nc, h]
theorem headD_map {α : Type} {f : α → D} {l : List α} {n : Nat} (h : ∀ x, (f x).nc = n) : headD n (l.map f) = true := by
  cases l with
  | nil => rfl
  | cons x l => simp [headD, h]
@[go_sem] theorem headT_S {l : List (List UInt8)} : headT 1 (tl eS l) = true := headT_tl fun _ => rfl
@[go_sem] theorem headD_S {l : List (List UInt8)} : headD 1 (l.map eS) = true := headD_map fun _ => rfl
@[go_sem] theorem map_take' {α β : Type} {f : α → β} {l : List α} {n : Nat} : (l.map f).take n = (l.take n).map f := by rw [List.map_take]
@[go_sem] theorem map_drop' {α β : Type} {f : α → β} {l : List α} {n : Nat} : (l.map f).drop n = (l.drop n).map f := by rw [List.map_drop]
end
@[go_sem] theorem val_strC {s : St} {b : ByteArray} : s.val (.const (.string b)) = .d (.str b.data.toList) := rfl
section
variable {P : Program} {c b : Bool} {t : TypeId} {o i off : Nat} {r : Root} {p : Path} {cs : List D}
end
section
variable {P : Program} {c b : Bool} {t : TypeId} {α : Type} {e : α → D} {m : List α}
end
end Go.Am
namespace Go.Am
open Go
set_option linter.unusedSimpArgs false
set_option linter.unusedVariables false
section
variable {P : Program} {hints : FuncId → Hint} {h : Hint} {ρ : Type} {B : Code}
def kLv (P : Program) (own : Bool) (rs : List ResultVar) (n : Nat) (κ : List T × List Ob → Option ρ) : Ex × St → Option ρ := fun r => (leaveR P own rs n r).bind κ
@[go_sem] theorem kLv_r {own : Bool} {rs : List ResultVar} {n : Nat} {κ : List T × List Ob → Option ρ} {s : St} : kLv P own rs n κ (.ret, s) = (leaveR P own rs n (.ret, s)).bind κ := rfl
theorem ge_of {f : FuncId} {fn : Func} {q : CL} {n : Nat} {rs : List ResultVar} {own : Bool} (hy : f < 1099511627776) (hrc : h.rcv = false) (hxt : h.ext = none) (hf : P.funcs[f]? = some fn) (hb : fn.body = some B) (hq : compF h B = some q) (hh : hints f = h) (hw : h.own = own) (hn : fn.params.size + fn.nfree = n) (hr : fn.results.toList = rs)
    (hk : codeOk fn.ntmps B = true) (hg : (fn.name == "runtime.NumGoroutine") = false) (ds : List D) (H : List Ob) (κ : List T × List Ob → Option ρ) (hl : ds.length = n) (hx : (decide (h.nilt ≠ 0) && emptyArg ds) = false) :
    cbK (callX P hints f ds H) κ = go P hints h B q (enter ds H) (kLv P own rs H.length κ) := by
  unfold cbK
  subst hh hw
  rw [callX_leave hy hrc hxt hf hb (hl.trans hn.symm) hk hg hr hx, compF_ok hq, Option.bind_assoc]
  rfl
end
theorem extB {P : Program} {hints : FuncId → Hint} {ρ : Type} {f : FuncId} {ds : List D} {H : List Ob} {κ : List T × List Ob → Option ρ} {F : List D → Option (List T)} (hy : f < 1099511627776) (hx : (hints f).ext = some F) : cbK (callX P hints f ds H) κ = (F ds).bind fun rs => if isPanT rs = true then none else κ (rs, H) := by
  unfold cbK
  rw [callX_ext (Nat.not_le.2 hy) hx, Option.bind_assoc]
  congr 1
  funext rs
  split <;> rfl
theorem viaR {α : Type} {a b : α} (h : ∀ r, b = r → a = r) : a = b := h b rfl
def LX {A : Type} (p : Bool → A → Prop) : Type := {Φ : A × A // p false Φ.1 ∧ p true Φ.2}
def LX.f {A : Type} {p : Bool → A → Prop} (x : LX p) (β : Bool) : A := match β with | false => x.1.1 | true => x.1.2
theorem LX.ok {A : Type} {p : Bool → A → Prop} (x : LX p) (β : Bool) : p β (x.f β) := by cases β; exact x.2.1; exact x.2.2
def mkL {A : Type} {p : Bool → A → Prop} (Φ₀ Φ₁ : A)
    (h₀ : p false Φ₀ := by intro R g κ hR; intros; simp only [go_sem] at hR; refine viaR fun r hr => ?_; simp -implicitDefEqProofs (maxSteps := 1000000) [go_sem, hR, -List.map_append, -List.map_take, -List.map_drop, -List.map_set]; exact hr)
    (h₁ : p true Φ₁ := by intro R g κ hR; intros; simp only [go_sem] at hR; refine viaR fun r hr => ?_; simp -implicitDefEqProofs (maxSteps := 1000000) [go_sem, hR, -List.map_append, -List.map_take, -List.map_drop, -List.map_set]; exact hr) : LX p := ⟨(Φ₀, Φ₁), h₀, h₁⟩
def mkF {P : Program} {hints : FuncId → Hint} {h : Hint} {B : Code} {q : CL} {f : FuncId} {n : Nat} {rs : List ResultVar} {own : Bool} {ρ G : Type} {p : Bool → (List T × List Ob → Option ρ) → G → Prop} {ds : Bool → List D}
    (e : ∀ (ds : List D) (H : List Ob) (κ : List T × List Ob → Option ρ), ds.length = n → cbK (callX P hints f ds H) κ = go P hints h B q (enter ds H) (kLv P own rs H.length κ)) (hl : ∀ β, (ds β).length = n) (Φ : G → Option ρ)
    (hΦ : ∀ β κ g, p β κ g → go P hints h B q (enter (ds β) []) (kLv P own rs 0 κ) = Φ g := by intro β κ g hg; simp only [go_sem] at hg; refine viaR fun r hr => ?_; cases β; all_goals (simp -implicitDefEqProofs (maxSteps := 1000000) [go_sem, hg, -List.map_append, -List.map_take, -List.map_drop, -List.map_set]; exact hr)) :
    {Φ : G → Option ρ // ∀ β κ g, p β κ g → cbK (callX P hints f (ds β) []) κ = Φ g} := ⟨Φ, fun β κ g hg => (e _ _ _ (hl β)).trans (hΦ β κ g hg)⟩
end Go.Am
namespace Go.Proofs
open Go.Shelf
def Tryz.lays169_ren : Go.Shelf.Ren := ⟨fun | 169 => 32 | n => n, fun | 70 => 82 | 9 => 9 | 0 => 0 | 72 => 85 | 37 => 83 | 127 => 123 | 3 => 3 | 5 => 5 | n => n, fun | n => n⟩
theorem Tryz.lays169 : Go.Proofs.Lays.n169 Tryz.prog Tryz.lays169_ren := {
  mixed := by kernel_rfl
  f169 := Tryz.func32.trans (congrArg some (by kernel_rfl))
  t0 := Tryz.underlying0
  a0 := Tryz.isAgg0
  z0 := Tryz.sizeOf0
  v0 := Tryz.zeroValue0
  t3 := Tryz.underlying3
  a3 := Tryz.isAgg3
  z3 := Tryz.sizeOf3
  v3 := Tryz.zeroValue3
  t9 := Tryz.underlying9
  a9 := Tryz.isAgg9
  z9 := Tryz.sizeOf9
  v9 := Tryz.zeroValue9
  t37 := Tryz.underlying83
  a37 := Tryz.isAgg83
  z37 := Tryz.sizeOf83
  v37 := Tryz.zeroValue83
  t70 := Tryz.underlying82
  a70 := Tryz.isAgg82
  z70 := Tryz.sizeOf82
  v70 := Tryz.zeroValue82
  t72 := Tryz.underlying85
  a72 := Tryz.isAgg85
  z72 := Tryz.sizeOf85
  v72 := Tryz.zeroValue85
  t127 := Tryz.underlying123
  a127 := Tryz.isAgg123
  z127 := Tryz.sizeOf123
  v127 := Tryz.zeroValue123 }
theorem Tryz.Builder_Extra_169 : Builder.Extra Tryz.prog Tryz.lays169_ren := {
  sizeBuilder := by kernel_rfl
  liesBuilder := by kernel_rfl
  t5 := Tryz.underlying5
  a5 := Tryz.isAgg5
  z5 := Tryz.sizeOf5
  v5 := Tryz.zeroValue5
  infoByte := by kernel_rfl
  cellsByte := by kernel_rfl
  sizeByte := by kernel_rfl
  neB5 := by decide }
open Go.RowKit in
theorem Tryz.Builder_String_any (B b : Nat) (l : List UInt8) (w : World) (h : Lib.IsBuilder 85 5 B b (Lib.byteCells l) w) (hBw : B ≤ w.heap.size) :
    Calls Tryz.prog 32 #[.pointer (some ⟨b, 0, none⟩)] w fun e w' => e = .returned (.string ⟨l.toArray⟩) ∧ Below B w w' := Any.Builder_String_any Tryz.lays169 Tryz.Builder_Extra_169 B b l w h hBw
def Tryz.lays172_ren : Go.Shelf.Ren := ⟨fun | 172 => 51 | 244 => 84 | 245 => 85 | 247 => 126 | 279 => 127 | 280 => 128 | 281 => 129 | 282 => 130 | 287 => 163 | 316 => 164 | 171 => 48 | 205 => 165 | 321 => 200 | 322 => 201 | 243 => 76 | 246 => 120 | 283 => 158 | 284 => 159 | 285 => 160 | 286 => 161 | 129 => 196 | 317 => 195 | 318 => 197 | 319 => 198 | 320 => 199 | 337 => 210 | 338 => 211 | n => n, fun | 9 => 9 | 3 => 3 | 75 => 87 | 76 => 88 | 4 => 4 | 5 => 5 | 167 => 216 | 37 => 83 | 0 => 0 | 85 => 217 | 2 => 2 | 168 => 219 | 53 => 53 | 175 => 262 | 46 => 166 | 210 => 266 | 127 => 123 | 145 => 297 | 143 => 295 | 21 => 21 | 171 => 257 | 173 => 260 | 212 => 287 | 51 => 210 | 20 => 20 | 213 => 288 | 232 => 320 | 233 => 321 | 80 => 92 | n => n, fun | 15 => 2 | 16 => 3 | 17 => 4 | 18 => 7 | 19 => 8 | n => n⟩
def Tryz.laysM246_ren : Go.Shelf.Ren := ⟨fun | 246 => 120 | 283 => 158 | 284 => 159 | 285 => 160 | 286 => 161 | 129 => 196 | 317 => 195 | 318 => 197 | 319 => 198 | 320 => 199 | 337 => 210 | 338 => 211 | n => n, fun | 2 => 2 | 3 => 3 | 9 => 9 | 4 => 4 | 171 => 257 | 0 => 0 | 53 => 53 | 37 => 83 | 5 => 5 | 173 => 260 | 212 => 287 | 51 => 210 | 20 => 20 | 213 => 288 | 46 => 166 | 232 => 320 | 233 => 321 | n => n, fun | 17 => 4 | 18 => 7 | 19 => 8 | n => n⟩
def Tryz.laysM243_ren : Go.Shelf.Ren := ⟨fun | 243 => 76 | 246 => 120 | 283 => 158 | 284 => 159 | 285 => 160 | 286 => 161 | 129 => 196 | 317 => 195 | 318 => 197 | 319 => 198 | 320 => 199 | 337 => 210 | 338 => 211 | n => n, fun | 3 => 3 | 9 => 9 | 2 => 2 | 4 => 4 | 171 => 257 | 0 => 0 | 53 => 53 | 37 => 83 | 5 => 5 | 173 => 260 | 212 => 287 | 51 => 210 | 20 => 20 | 213 => 288 | 46 => 166 | 232 => 320 | 233 => 321 | n => n, fun | 17 => 4 | 18 => 7 | 19 => 8 | n => n⟩
def Tryz.laysM171_ren : Go.Shelf.Ren := ⟨fun | 171 => 48 | 243 => 76 | 246 => 120 | 283 => 158 | 284 => 159 | 285 => 160 | 286 => 161 | 129 => 196 | 317 => 195 | 318 => 197 | 319 => 198 | 320 => 199 | 337 => 210 | 338 => 211 | n => n, fun | 3 => 3 | 9 => 9 | 2 => 2 | 4 => 4 | 171 => 257 | 0 => 0 | 53 => 53 | 37 => 83 | 5 => 5 | 173 => 260 | 212 => 287 | 51 => 210 | 20 => 20 | 213 => 288 | 46 => 166 | 232 => 320 | 233 => 321 | n => n, fun | 17 => 4 | 18 => 7 | 19 => 8 | n => n⟩
theorem Tryz.laysM171 : Go.Proofs.LaysM.n171 Tryz.prog Tryz.laysM171_ren := {
  mixed := by kernel_rfl
  f129 := Tryz.func196.trans (congrArg some (by kernel_rfl))
  f171 := Tryz.func48.trans (congrArg some (by kernel_rfl))
  f243 := Tryz.func76.trans (congrArg some (by kernel_rfl))
  f246 := Tryz.func120.trans (congrArg some (by kernel_rfl))
  f283 := Tryz.func158.trans (congrArg some (by kernel_rfl))
  f284 := Tryz.func159.trans (congrArg some (by kernel_rfl))
  f285 := Tryz.func160.trans (congrArg some (by kernel_rfl))
  f286 := Tryz.func161.trans (congrArg some (by kernel_rfl))
  f317 := Tryz.func195.trans (congrArg some (by kernel_rfl))
  f318 := Tryz.func197.trans (congrArg some (by kernel_rfl))
  f319 := Tryz.func198.trans (congrArg some (by kernel_rfl))
  f320 := Tryz.func199.trans (congrArg some (by kernel_rfl))
  f337 := Tryz.func210.trans (congrArg some (by kernel_rfl))
  f338 := Tryz.func211.trans (congrArg some (by kernel_rfl))
  t0 := Tryz.underlying0
  a0 := Tryz.isAgg0
  z0 := Tryz.sizeOf0
  v0 := Tryz.zeroValue0
  t2 := Tryz.underlying2
  a2 := Tryz.isAgg2
  z2 := Tryz.sizeOf2
  v2 := Tryz.zeroValue2
  t3 := Tryz.underlying3
  a3 := Tryz.isAgg3
  z3 := Tryz.sizeOf3
  v3 := Tryz.zeroValue3
  t4 := Tryz.underlying4
  a4 := Tryz.isAgg4
  z4 := Tryz.sizeOf4
  v4 := Tryz.zeroValue4
  t5 := Tryz.underlying5
  a5 := Tryz.isAgg5
  z5 := Tryz.sizeOf5
  v5 := Tryz.zeroValue5
  t9 := Tryz.underlying9
  a9 := Tryz.isAgg9
  z9 := Tryz.sizeOf9
  v9 := Tryz.zeroValue9
  t20 := Tryz.underlying20
  a20 := Tryz.isAgg20
  z20 := Tryz.sizeOf20
  v20 := Tryz.zeroValue20
  t37 := Tryz.underlying83
  a37 := Tryz.isAgg83
  z37 := Tryz.sizeOf83
  v37 := Tryz.zeroValue83
  t46 := Tryz.underlying166
  a46 := Tryz.isAgg166
  z46 := Tryz.sizeOf166
  v46 := Tryz.zeroValue166
  t51 := Tryz.underlying210
  a51 := Tryz.isAgg210
  z51 := Tryz.sizeOf210
  v51 := Tryz.zeroValue210
  t53 := Tryz.underlying53
  a53 := Tryz.isAgg53
  z53 := Tryz.sizeOf53
  v53 := Tryz.zeroValue53
  t171 := Tryz.underlying257
  a171 := Tryz.isAgg257
  z171 := Tryz.sizeOf257
  v171 := Tryz.zeroValue257
  t173 := Tryz.underlying260
  a173 := Tryz.isAgg260
  z173 := Tryz.sizeOf260
  v173 := Tryz.zeroValue260
  t212 := Tryz.underlying287
  a212 := Tryz.isAgg287
  z212 := Tryz.sizeOf287
  v212 := Tryz.zeroValue287
  t213 := Tryz.underlying288
  a213 := Tryz.isAgg288
  z213 := Tryz.sizeOf288
  t232 := Tryz.underlying320
  a232 := Tryz.isAgg320
  z232 := Tryz.sizeOf320
  v232 := Tryz.zeroValue320
  t233 := Tryz.underlying321
  a233 := Tryz.isAgg321
  z233 := Tryz.sizeOf321
  v233 := Tryz.zeroValue321
  g17 := by kernel_rfl
  g18 := by kernel_rfl
  g19 := by kernel_rfl
  i0 := by kernel_rfl
  i2 := by kernel_rfl
  i3 := by kernel_rfl
  i4 := by kernel_rfl
  i5 := by kernel_rfl
  i9 := by kernel_rfl
  i20 := by kernel_rfl
  i37 := by kernel_rfl
  i46 := by kernel_rfl
  i51 := by kernel_rfl
  i53 := by kernel_rfl
  i171 := by kernel_rfl
  i173 := by kernel_rfl
  i212 := by kernel_rfl
  i232 := by kernel_rfl
  i233 := by kernel_rfl
  m17 := by kernel_rfl
  m18 := by kernel_rfl
  m19 := by kernel_rfl }
open Go.RowKit Go.Sort Go.Lib in
theorem Tryz.strconv_Itoa (n : Int) (h0 : -9223372036854775808 ≤ n) (h1 : n ≤ 9223372036854775807) (w : World) (htab : Lib.TabIs Tryz.prog w "internal/strconv.uint64pow10" .u64 Lib.pow10Tab) :
    Calls Tryz.prog 48 #[.int .i64 n] w fun e w' => e = .returned (.string ⟨(Lib.itoa n).toArray⟩) ∧ ∃ k os, w' = grow (w.drewN k) os := Any.strconv_Itoa Tryz.laysM171 n h0 h1 w htab
def Tryz.laysC172_ren : Go.Shelf.Ren := ⟨fun | 172 => 51 | 244 => 84 | 245 => 85 | 247 => 126 | 279 => 127 | 280 => 128 | 281 => 129 | 282 => 130 | 287 => 163 | 316 => 164 | 171 => 48 | 205 => 165 | 321 => 200 | 322 => 201 | 243 => 76 | 246 => 120 | 283 => 158 | 284 => 159 | 285 => 160 | 286 => 161 | 129 => 196 | 317 => 195 | 318 => 197 | 319 => 198 | 320 => 199 | 337 => 210 | 338 => 211 | n => n, fun | 9 => 9 | 3 => 3 | 75 => 87 | 76 => 88 | 4 => 4 | 5 => 5 | 167 => 216 | 37 => 83 | 0 => 0 | 85 => 217 | 2 => 2 | 168 => 219 | 53 => 53 | 175 => 262 | 46 => 166 | 210 => 266 | 127 => 123 | 145 => 297 | 143 => 295 | 21 => 21 | 171 => 257 | 173 => 260 | 212 => 287 | 51 => 210 | 20 => 20 | 213 => 288 | 232 => 320 | 233 => 321 | 80 => 92 | n => n, fun | 15 => 2 | 16 => 3 | 17 => 4 | 18 => 7 | 19 => 8 | n => n⟩
theorem Tryz.laysC172 : Go.Proofs.LaysC.n172 Tryz.prog Tryz.laysC172_ren := {
  mixed := by kernel_rfl
  f129 := Tryz.func196.trans (congrArg some (by kernel_rfl))
  f171 := Tryz.func48.trans (congrArg some (by kernel_rfl))
  f172 := Tryz.func51.trans (congrArg some (by kernel_rfl))
  f205 := Tryz.func165.trans (congrArg some (by kernel_rfl))
  f243 := Tryz.func76.trans (congrArg some (by kernel_rfl))
  f244 := Tryz.func84.trans (congrArg some (by kernel_rfl))
  f245 := Tryz.func85.trans (congrArg some (by kernel_rfl))
  f246 := Tryz.func120.trans (congrArg some (by kernel_rfl))
  f247 := Tryz.func126.trans (congrArg some (by kernel_rfl))
  f279 := Tryz.func127.trans (congrArg some (by kernel_rfl))
  f280 := Tryz.func128.trans (congrArg some (by kernel_rfl))
  f281 := Tryz.func129.trans (congrArg some (by kernel_rfl))
  f282 := Tryz.func130.trans (congrArg some (by kernel_rfl))
  f283 := Tryz.func158.trans (congrArg some (by kernel_rfl))
  f284 := Tryz.func159.trans (congrArg some (by kernel_rfl))
  f285 := Tryz.func160.trans (congrArg some (by kernel_rfl))
  f286 := Tryz.func161.trans (congrArg some (by kernel_rfl))
  f287 := Tryz.func163.trans (congrArg some (by kernel_rfl))
  f316 := Tryz.func164.trans (congrArg some (by kernel_rfl))
  f317 := Tryz.func195.trans (congrArg some (by kernel_rfl))
  f318 := Tryz.func197.trans (congrArg some (by kernel_rfl))
  f319 := Tryz.func198.trans (congrArg some (by kernel_rfl))
  f320 := Tryz.func199.trans (congrArg some (by kernel_rfl))
  f321 := Tryz.func200.trans (congrArg some (by kernel_rfl))
  f322 := Tryz.func201.trans (congrArg some (by kernel_rfl))
  f337 := Tryz.func210.trans (congrArg some (by kernel_rfl))
  f338 := Tryz.func211.trans (congrArg some (by kernel_rfl))
  t0 := Tryz.underlying0
  a0 := Tryz.isAgg0
  z0 := Tryz.sizeOf0
  v0 := Tryz.zeroValue0
  t2 := Tryz.underlying2
  a2 := Tryz.isAgg2
  z2 := Tryz.sizeOf2
  v2 := Tryz.zeroValue2
  t3 := Tryz.underlying3
  a3 := Tryz.isAgg3
  z3 := Tryz.sizeOf3
  v3 := Tryz.zeroValue3
  t4 := Tryz.underlying4
  a4 := Tryz.isAgg4
  z4 := Tryz.sizeOf4
  v4 := Tryz.zeroValue4
  t5 := Tryz.underlying5
  a5 := Tryz.isAgg5
  z5 := Tryz.sizeOf5
  v5 := Tryz.zeroValue5
  t9 := Tryz.underlying9
  a9 := Tryz.isAgg9
  z9 := Tryz.sizeOf9
  v9 := Tryz.zeroValue9
  t20 := Tryz.underlying20
  a20 := Tryz.isAgg20
  z20 := Tryz.sizeOf20
  v20 := Tryz.zeroValue20
  t21 := Tryz.underlying21
  a21 := Tryz.isAgg21
  z21 := Tryz.sizeOf21
  v21 := Tryz.zeroValue21
  t37 := Tryz.underlying83
  a37 := Tryz.isAgg83
  z37 := Tryz.sizeOf83
  v37 := Tryz.zeroValue83
  t46 := Tryz.underlying166
  a46 := Tryz.isAgg166
  z46 := Tryz.sizeOf166
  v46 := Tryz.zeroValue166
  t51 := Tryz.underlying210
  a51 := Tryz.isAgg210
  z51 := Tryz.sizeOf210
  v51 := Tryz.zeroValue210
  t53 := Tryz.underlying53
  a53 := Tryz.isAgg53
  z53 := Tryz.sizeOf53
  v53 := Tryz.zeroValue53
  t75 := Tryz.underlying87
  a75 := Tryz.isAgg87
  z75 := Tryz.sizeOf87
  v75 := Tryz.zeroValue87
  t76 := Tryz.underlying88
  a76 := Tryz.isAgg88
  z76 := Tryz.sizeOf88
  v76 := Tryz.zeroValue88
  t85 := Tryz.underlying217
  a85 := Tryz.isAgg217
  z85 := Tryz.sizeOf217
  v85 := Tryz.zeroValue217
  t127 := Tryz.underlying123
  a127 := Tryz.isAgg123
  z127 := Tryz.sizeOf123
  v127 := Tryz.zeroValue123
  t143 := Tryz.underlying295
  a143 := Tryz.isAgg295
  z143 := Tryz.sizeOf295
  v143 := Tryz.zeroValue295
  t145 := Tryz.underlying297
  a145 := Tryz.isAgg297
  z145 := Tryz.sizeOf297
  v145 := Tryz.zeroValue297
  t167 := Tryz.underlying216
  a167 := Tryz.isAgg216
  z167 := Tryz.sizeOf216
  v167 := Tryz.zeroValue216
  t168 := Tryz.underlying219
  a168 := Tryz.isAgg219
  z168 := Tryz.sizeOf219
  v168 := Tryz.zeroValue219
  t171 := Tryz.underlying257
  a171 := Tryz.isAgg257
  z171 := Tryz.sizeOf257
  v171 := Tryz.zeroValue257
  t173 := Tryz.underlying260
  a173 := Tryz.isAgg260
  z173 := Tryz.sizeOf260
  v173 := Tryz.zeroValue260
  t175 := Tryz.underlying262
  a175 := Tryz.isAgg262
  z175 := Tryz.sizeOf262
  v175 := Tryz.zeroValue262
  t210 := Tryz.underlying266
  a210 := Tryz.isAgg266
  z210 := Tryz.sizeOf266
  v210 := Tryz.zeroValue266
  t212 := Tryz.underlying287
  a212 := Tryz.isAgg287
  z212 := Tryz.sizeOf287
  v212 := Tryz.zeroValue287
  t213 := Tryz.underlying288
  a213 := Tryz.isAgg288
  z213 := Tryz.sizeOf288
  t232 := Tryz.underlying320
  a232 := Tryz.isAgg320
  z232 := Tryz.sizeOf320
  v232 := Tryz.zeroValue320
  t233 := Tryz.underlying321
  a233 := Tryz.isAgg321
  z233 := Tryz.sizeOf321
  v233 := Tryz.zeroValue321
  g15 := by kernel_rfl
  g16 := by kernel_rfl
  g17 := by kernel_rfl
  g18 := by kernel_rfl
  g19 := by kernel_rfl
  t80 := Tryz.underlying92
  a80 := Tryz.isAgg92
  z80 := Tryz.sizeOf92
  v80 := Tryz.zeroValue92
  i0 := by kernel_rfl
  i2 := by kernel_rfl
  i3 := by kernel_rfl
  i4 := by kernel_rfl
  i5 := by kernel_rfl
  i9 := by kernel_rfl
  i20 := by kernel_rfl
  i21 := by kernel_rfl
  i37 := by kernel_rfl
  i46 := by kernel_rfl
  i51 := by kernel_rfl
  i53 := by kernel_rfl
  i75 := by kernel_rfl
  i76 := by kernel_rfl
  i80 := by kernel_rfl
  i85 := by kernel_rfl
  i127 := by kernel_rfl
  i143 := by kernel_rfl
  i145 := by kernel_rfl
  i167 := by kernel_rfl
  i168 := by kernel_rfl
  i171 := by kernel_rfl
  i173 := by kernel_rfl
  i175 := by kernel_rfl
  i210 := by kernel_rfl
  i212 := by kernel_rfl
  i232 := by kernel_rfl
  i233 := by kernel_rfl
  m15 := by kernel_rfl
  m16 := by kernel_rfl
  m17 := by kernel_rfl
  m18 := by kernel_rfl
  m19 := by kernel_rfl
  c0 := by kernel_rfl
  c2 := by kernel_rfl
  c3 := by kernel_rfl
  c4 := by kernel_rfl
  c5 := by kernel_rfl
  c9 := by kernel_rfl
  c20 := by kernel_rfl
  c21 := by kernel_rfl
  c37 := by kernel_rfl
  c46 := by kernel_rfl
  c51 := by kernel_rfl
  c53 := by kernel_rfl
  c75 := by kernel_rfl
  c76 := by kernel_rfl
  c80 := by kernel_rfl
  c85 := by kernel_rfl
  c127 := by kernel_rfl
  c143 := by kernel_rfl
  c145 := by kernel_rfl
  c167 := by kernel_rfl
  c168 := by kernel_rfl
  c171 := by kernel_rfl
  c173 := by kernel_rfl
  c175 := by kernel_rfl
  c210 := by kernel_rfl
  c212 := by kernel_rfl
  c213 := by kernel_rfl
  c232 := by kernel_rfl
  c233 := by kernel_rfl }
open Go.RowKit in
theorem Tryz.strconv_Atoi_ok (s : ByteArray) (hmax : s.size ≤ 9223372036854775806) (v : Int) (h : Lib.atoiAll s.data.toList = .ok v) (w : World) :
    Calls Tryz.prog 51 #[.string s] w fun e w' => e = .returned (.tuple #[.int .i64 v, .nilIface]) ∧ (w' = w ∨ ∃ t, w' = Lib.bytesWorld w 5 t) := Any.strconv_Atoi_ok Tryz.laysC172 s hmax v h w
open Go.RowKit in
theorem Tryz.strconv_Atoi_syntax (s : ByteArray) (hlim : s.size ≤ 281474976710656) (h : Lib.atoiAll s.data.toList = (Lib.atoiAll [])) (ev : Value) (w : World) (hv : w.cell? ⟨2, 0, none⟩ = some ev) (hev : ev = .nilIface ∨ ∃ te pe, ev = .iface te pe) :
    Calls Tryz.prog 51 #[.string s] w fun e w' => ∃ N, e = .returned (.tuple #[.int .i64 (0), .iface 219 (.pointer (some ⟨N, 0, none⟩))]) ∧ w.heap.size ≤ N ∧ w'.heap[N]? = some (.cells #[.string ⟨#[65, 116, 111, 105]⟩, .string s, ev] 266 (0, 0)) ∧ Below w.heap.size w w' := Any.strconv_Atoi_syntax Tryz.laysC172 s hlim h ev w hv hev
open Go.RowKit in
theorem Tryz.strconv_Atoi_range (s : ByteArray) (hlim : s.size ≤ 281474976710656) (h : Lib.atoiAll s.data.toList = .range) (ev : Value) (w : World) (hv : w.cell? ⟨3, 0, none⟩ = some ev) (hev : ev = .nilIface ∨ ∃ te pe, ev = .iface te pe) :
    Calls Tryz.prog 51 #[.string s] w fun e w' => ∃ N, e = .returned (.tuple #[.int .i64 (Lib.atoiSat s.data.toList), .iface 219 (.pointer (some ⟨N, 0, none⟩))]) ∧ w.heap.size ≤ N ∧ w'.heap[N]? = some (.cells #[.string ⟨#[65, 116, 111, 105]⟩, .string s, ev] 266 (0, 0)) ∧ Below w.heap.size w w' := Any.strconv_Atoi_range Tryz.laysC172 s hlim h ev w hv hev
end Go.Proofs
set_option linter.unusedVariables false
namespace Go.Proofs
open Go.Shelf Go.RowKit
set_option maxHeartbeats 1000000 in
set_option maxRecDepth 100000 in
theorem Tryz.check_used (b : Nat) (w : World) (h0 : w.cell? ⟨b, 0, none⟩ = some (.pointer (some ⟨b, 0, none⟩))) :
    Calls Tryz.prog 47 #[.pointer (some ⟨b, 0, none⟩)] w fun e w' => e = .returned (.tuple #[]) ∧ w' = w := by
  obtain ⟨j, hj, _⟩ := Option.map_eq_some_iff.1 Tryz.Builder_Extra_169.sizeBuilder
  go_enter Tryz.func47, Tryz.ntmps47
  go_wp2
  rw [Lib.run_neq_ptr_same w _ Tryz.underlying82 hj]
  go_wp2
  go_end0
  exact ⟨rfl, rfl⟩
set_option maxHeartbeats 1000000 in
set_option maxRecDepth 100000 in
theorem Tryz.check_new (b : Nat) (w : World) (h0 : w.cell? ⟨b, 0, none⟩ = some (.pointer none)) (hsh : w.shape? b = some (85, 2)) (hfz : w.frozen? ⟨b, 0, none⟩ = false) :
    Calls Tryz.prog 47 #[.pointer (some ⟨b, 0, none⟩)] w fun e w' => e = .returned (.tuple #[]) ∧ w' = w.setCell ⟨b, 0, none⟩ (.pointer (some ⟨b, 0, none⟩)) := by
  obtain ⟨j, hj, hjs⟩ := Option.map_eq_some_iff.1 Tryz.Builder_Extra_169.sizeBuilder
  go_enter Tryz.func47, Tryz.ntmps47
  go_wp2
  rw [Lib.run_to_unsafe w ⟨b, 0, none⟩ Tryz.underlying82 Tryz.underlying162 hj (by rw [hjs]; decide) hsh (Nat.zero_lt_succ 1)]
  simp only [Result.andThen]
  rw [Oper.upon_value]
  go_wp2
  rw [run_callFunc_extern Tryz.func75 (by kernel_rfl) (by kernel_rfl) (by kernel_rfl) (e := Extern.AbiNoEscape.same) (by kernel_rfl), Lib.run_noEscape]
  simp only [Result.andThen]
  rw [Oper.upon_value]
  go_wp2
  rw [Lib.run_from_unsafe w ⟨b, 0, none⟩ Tryz.underlying162 Tryz.underlying82 hj hsh Tryz.Builder_Extra_169.liesBuilder]
  simp only [Result.andThen]
  rw [Oper.upon_value]
  go_wp2
  go_end0
  exact ⟨rfl, rfl⟩
theorem Tryz.check (B b : Nat) (bs : List Value) (w : World) (h : Lib.IsBuilder 85 5 B b bs w) :
    Calls Tryz.prog 47 #[.pointer (some ⟨b, 0, none⟩)] w fun e w' => e = .returned (.tuple #[]) ∧ (Lib.BuilderAt 85 5 B b (.pointer (some ⟨b, 0, none⟩)) bs w' ∧ Below B w w') := by
  rcases h with h | h
  · refine (Tryz.check_new b w h.cell0 h.shape h.frozen0).mono ?_
    rintro e w' ⟨rfl, rfl⟩
    exact ⟨rfl, h.used _, (Below.refl B w).setCell (p := ⟨b, 0, none⟩) h.1 _⟩
  · refine (Tryz.check_used b w h.cell0).mono ?_
    rintro e w' ⟨rfl, rfl⟩
    exact ⟨rfl, h, Below.refl B _⟩
set_option maxHeartbeats 2000000 in
set_option maxRecDepth 100000 in
theorem Tryz.putByte (B b : Nat) (bs : List Value) (c : Int) (w : World) (h : Lib.IsBuilder 85 5 B b bs w) (hlen : bs.length + 1 ≤ 140737488355328) (hBw : B ≤ w.heap.size) :
    Calls Tryz.prog 31 #[.pointer (some ⟨b, 0, none⟩), .int .u8 c] w fun e w' => e = .returned .nilIface ∧ (Lib.BuilderAt 85 5 B b (.pointer (some ⟨b, 0, none⟩)) (bs ++ [.int .u8 c]) w' ∧ Below B w w') := by
  obtain ⟨i0, hi, hz0, hz1, hz2⟩ := info_parts Tryz.Builder_Extra_169.infoByte
  go_enter Tryz.func31, Tryz.ntmps31
  go_wp2_with (go_at_call 47; refine (Tryz.check B b bs _ h).mono ?_)
  rintro e w1 ⟨rfl, h1, hb1⟩
  obtain ⟨hB, v, hbk, hown, hne⟩ := h1
  have c0 : w1.cell? ⟨b, 0, none⟩ = some (.pointer (some ⟨b, 0, none⟩)) := by rw [Lib.cell_of_heap hbk]; rfl
  have c1 : w1.cell? ⟨b, 1, none⟩ = some v := by rw [Lib.cell_of_heap hbk]; rfl
  go_wp2_with (at_builtin; refine wpList_append_own _ rfl _ _ 83 rfl B 5 i0 (.int .u8 0) 1 1 Tryz.underlying83 hi hz0 hz1 hz2 rfl (by decide) _ _ _ rfl (hown.alloc _) ⟨w1.heap.size, 0, none⟩ 1 1 [.int .u8 c] rfl rfl ?c1 ?c2 ?c3 ?c4 ?c5 ?_)
  case c1 =>
    intro j u hj
    match j, hj with
    | 0, hj => simp at hj; subst hj; simp [Addr.add]
  case c2 => intro u hu; simp at hu; subst hu; rfl
  case c3 => unfold maxLen; omega
  case c4 => omega
  case c5 => have := hb1.size; simp; omega
  intro v' w2 hown' hgrow _
  have hlt : b < w1.heap.size := by
    rcases Nat.lt_or_ge b w1.heap.size with h' | h'
    · exact h'
    · simp [Array.getElem?_eq_none h'] at hbk
  have hb2 : w2.heap[b]? = some (.cells #[.pointer (some ⟨b, 0, none⟩), v] 85 (0, 0)) := by
    rw [hgrow.block b (by simp; omega) (fun e => hne e.symm), Lib.alloc_old w1 _ b hlt]
    exact hbk
  have d0 : w2.cell? ⟨b, 0, none⟩ = some (.pointer (some ⟨b, 0, none⟩)) := by rw [Lib.cell_of_heap hb2]; rfl
  have d1 : w2.cell? ⟨b, 1, none⟩ = some v := by rw [Lib.cell_of_heap hb2]; rfl
  have f1 : w2.frozen? ⟨b, 1, none⟩ = false := Lib.frozen_of_heap hb2 1
  obtain ⟨g, cap, rfl⟩ : ∃ g cap, v' = .slice (some ⟨g, 0, none⟩) (bs.length + 1) cap := by
    rcases hown'.2 with ⟨_, h0⟩ | ⟨g, cap, cur, hv, _⟩
    · omega
    · exact ⟨g, cap, hv⟩
  go_wp2
  go_ret
  refine ⟨rfl, ?_, ?_⟩
  · exact Lib.BuilderAt.put (T := 85) (e := 5) hB hb2 (bs' := bs ++ [.int .u8 c]) (by simpa using hown') Tryz.Builder_Extra_169.neB5
  · exact ((hb1.alloc (by have := hb1.size; omega) _).grown hgrow (by have := hb1.size; simp; omega) (fun k hk => (hown.lt k hk).1)).setCell (p := ⟨b, 1, none⟩) hB _
set_option maxHeartbeats 2000000 in
set_option maxRecDepth 100000 in
theorem Tryz.putText (B b : Nat) (bs : List Value) (s : ByteArray) (w : World) (h : Lib.IsBuilder 85 5 B b bs w) (hlen : bs.length + s.size ≤ 140737488355328) (hBw : B ≤ w.heap.size) :
    Calls Tryz.prog 29 #[.pointer (some ⟨b, 0, none⟩), .string s] w fun e w' => e = .returned (.tuple #[.int .i64 s.size, .nilIface]) ∧ (Lib.BuilderAt 85 5 B b (.pointer (some ⟨b, 0, none⟩)) (bs ++ Lib.strCells s) w' ∧ Below B w w') := by
  obtain ⟨i0, hi, hz0, hz1, hz2⟩ := info_parts Tryz.Builder_Extra_169.infoByte
  go_enter Tryz.func29, Tryz.ntmps29
  go_wp2_with (go_at_call 47; refine (Tryz.check B b bs _ h).mono ?_)
  rintro e w1 ⟨rfl, h1, hb1⟩
  obtain ⟨hB, v, hbk, hown, hne⟩ := h1
  have c0 : w1.cell? ⟨b, 0, none⟩ = some (.pointer (some ⟨b, 0, none⟩)) := by rw [Lib.cell_of_heap hbk]; rfl
  have c1 : w1.cell? ⟨b, 1, none⟩ = some v := by rw [Lib.cell_of_heap hbk]; rfl
  go_wp2_with (at_builtin; refine Lib.wpList_append_own_string _ rfl _ _ 83 9 rfl B 5 i0 Tryz.underlying83 Tryz.underlying9 hi hz0 hz1 hz2 _ _ _ rfl hown s rfl ?c3 ?c4 ?c5 ?_)
  case c3 => unfold maxLen; omega
  case c4 => omega
  case c5 => have := hb1.size; omega
  intro v' w2 hown' hgrow _
  have hlt : b < w1.heap.size := by
    rcases Nat.lt_or_ge b w1.heap.size with h' | h'
    · exact h'
    · simp [Array.getElem?_eq_none h'] at hbk
  have hb2 : w2.heap[b]? = some (.cells #[.pointer (some ⟨b, 0, none⟩), v] 85 (0, 0)) := by
    rw [hgrow.block b hlt (fun e => hne e.symm)]
    exact hbk
  have d0 : w2.cell? ⟨b, 0, none⟩ = some (.pointer (some ⟨b, 0, none⟩)) := by rw [Lib.cell_of_heap hb2]; rfl
  have d1 : w2.cell? ⟨b, 1, none⟩ = some v := by rw [Lib.cell_of_heap hb2]; rfl
  have f1 : w2.frozen? ⟨b, 1, none⟩ = false := Lib.frozen_of_heap hb2 1
  obtain ⟨ao, n', cap, rfl⟩ : ∃ ao n' cap, v' = .slice ao n' cap := by
    rcases hown'.2 with ⟨hv, _⟩ | ⟨g, cap, cur, hv, _⟩
    · exact ⟨_, _, _, hv⟩
    · exact ⟨_, _, _, hv⟩
  go_wp2
  go_ret2
  refine ⟨rfl, ?_, ?_⟩
  · exact Lib.BuilderAt.put (T := 85) (e := 5) hB hb2 (bs' := bs ++ Lib.strCells s) (by simpa [Lib.strCells_length] using hown') Tryz.Builder_Extra_169.neB5
  · exact (hb1.grown hgrow (by have := hb1.size; omega) (fun k hk => (hown.lt k hk).1)).setCell (p := ⟨b, 1, none⟩) hB _
end Go.Proofs
set_option linter.unusedVariables false
namespace Go.Proofs
open Go.Shelf Go.RowKit
theorem Tryz.below_grow (w : World) (k : Nat) (os : Array Obj) : Below w.heap.size w (Go.Sort.grow (w.drewN k) os) :=
  ⟨rfl, rfl, rfl, by simp [Go.Sort.grow, World.drewN], fun i hi => by
    show (w.heap ++ os)[i]? = w.heap[i]?
    rw [Array.getElem?_append_left hi]⟩
theorem Tryz.decimal (n : Int) (h0 : -9223372036854775808 ≤ n) (h1 : n ≤ 9223372036854775807) (w : World) (htab : Lib.TabIs Tryz.prog w "internal/strconv.uint64pow10" .u64 Lib.pow10Tab) :
    Calls Tryz.prog 30 #[.int .i64 n] w fun e w' => e = .returned (.string ⟨(Lib.itoa n).toArray⟩) ∧ Below w.heap.size w w' := by
  go_enter Tryz.func30, Tryz.ntmps30
  go_wp2_with (go_at_call 48; refine (Tryz.strconv_Itoa n h0 h1 _ htab).mono ?_)
  rintro e w' ⟨rfl, k, os, rfl⟩
  go_wp2
  go_ret
  exact ⟨rfl, Tryz.below_grow w k os⟩
def Tryz.inB (n : Int) : Bool := decide (-1048576 ≤ n ∧ n ≤ 1048576)
set_option maxHeartbeats 1000000 in
set_option maxRecDepth 100000 in
theorem Tryz.within_lo (n : Int) (b cap : Nat) (w : World) (h0 : w.cell? ⟨b, 0, none⟩ = some (.int .i64 n)) (hn : n < -1048576) :
    Calls Tryz.prog 52 #[.slice (some ⟨b, 0, none⟩) 1 cap] w fun e w' => e = .returned (.bool false) ∧ w' = w := by
  go_enter Tryz.func52, Tryz.ntmps52
  go_wp2
  go_loop [7] (fun i => i = .int .i64 0) (fun _ => 0)
  case atStart => rfl
  case round =>
    subst hrel
    go_wp2
    go_ret
    exact ⟨rfl, rfl⟩
set_option maxHeartbeats 1000000 in
set_option maxRecDepth 100000 in
theorem Tryz.within_hi (n : Int) (b cap : Nat) (w : World) (h0 : w.cell? ⟨b, 0, none⟩ = some (.int .i64 n)) (hm : ¬ n < -1048576) (hn : 1048576 < n) :
    Calls Tryz.prog 52 #[.slice (some ⟨b, 0, none⟩) 1 cap] w fun e w' => e = .returned (.bool false) ∧ w' = w := by
  go_enter Tryz.func52, Tryz.ntmps52
  go_wp2
  go_loop [7] (fun i => i = .int .i64 0) (fun _ => 0)
  case atStart => rfl
  case round =>
    subst hrel
    go_wp2
    go_ret
    exact ⟨rfl, rfl⟩
set_option maxHeartbeats 1000000 in
set_option maxRecDepth 100000 in
theorem Tryz.within_in (n : Int) (b cap : Nat) (w : World) (h0 : w.cell? ⟨b, 0, none⟩ = some (.int .i64 n)) (hm : ¬ n < -1048576) (hn : ¬ 1048576 < n) :
    Calls Tryz.prog 52 #[.slice (some ⟨b, 0, none⟩) 1 cap] w fun e w' => e = .returned (.bool true) ∧ w' = w := by
  go_enter Tryz.func52, Tryz.ntmps52
  go_wp2
  go_loop [7] (fun i => i = .int .i64 0 ∨ i = .int .i64 1) (fun i => 1 - (intOf i).toNat)
  case atStart => exact .inl rfl
  case round =>
    rcases hrel with rfl | rfl
    · go_wp2
      go_round
      case rel => exact .inr rfl
      case measure => simp [intOf]
    · go_wp2
      go_ret
      exact ⟨rfl, rfl⟩
theorem Tryz.within (n : Int) (b cap : Nat) (w : World) (h0 : w.cell? ⟨b, 0, none⟩ = some (.int .i64 n)) :
    Calls Tryz.prog 52 #[.slice (some ⟨b, 0, none⟩) 1 cap] w fun e w' => e = .returned (.bool (Tryz.inB n)) ∧ w' = w := by
  by_cases h1 : n < -1048576
  · rw [show Tryz.inB n = false by simp [Tryz.inB]; omega]
    exact Tryz.within_lo n b cap w h0 h1
  · by_cases h2 : 1048576 < n
    · rw [show Tryz.inB n = false by simp [Tryz.inB]; omega]
      exact Tryz.within_hi n b cap w h0 h1 h2
    · rw [show Tryz.inB n = true by simp [Tryz.inB]; omega]
      exact Tryz.within_in n b cap w h0 h1 h2
end Go.Proofs
set_option linter.unusedVariables false
namespace Go.Proofs
open Go.Shelf Go.RowKit
theorem Tryz.new_cell (w : World) (v : Value) (t : TypeId) : (w.alloc (.cells #[v] t)).cell? ⟨w.heap.size, 0, none⟩ = some v := by
  rw [World.cell?_alloc_new]
  rfl
theorem Tryz.below_atoi {w w1 : World} {B : Nat} (hB : B ≤ w.heap.size) (h : w1 = w ∨ ∃ t, w1 = Lib.bytesWorld w 5 t) : Below B w w1 := by
  rcases h with rfl | ⟨t, rfl⟩
  · exact Below.refl _ _
  · exact (Lib.bytesWorld_below w 5 t).mono hB
set_option maxHeartbeats 1000000 in
set_option maxRecDepth 100000 in
theorem Tryz.number_out (s : ByteArray) (v : Int) (hs : s.size ≤ 9223372036854775806) (h : Lib.atoiAll s.data.toList = .ok v) (hv : Tryz.inB v = false) (w : World) :
    Calls Tryz.prog 35 #[.string s] w fun e w' => e = .returned (.tuple #[.int .i64 0, .bool false]) ∧ Below w.heap.size w w' := by
  go_enter Tryz.func35, Tryz.ntmps35
  go_wp2_with (go_at_call 51; refine (Tryz.strconv_Atoi_ok s hs v h _).mono ?_)
  rintro e w1 ⟨rfl, h1⟩
  have hb1 : Below w.heap.size w w1 := Tryz.below_atoi (Nat.le_refl _) h1
  clear h1
  go_wp2_with (go_at_call 52; refine (Tryz.within v _ _ _ ?c).mono ?_)
  case c => exact Tryz.new_cell _ _ _
  rintro e w2 ⟨rfl, rfl⟩
  rw [hv]
  go_wp2_with fail
  go_ret2
  exact ⟨rfl, hb1.alloc hb1.size _⟩
set_option maxHeartbeats 1000000 in
set_option maxRecDepth 100000 in
theorem Tryz.number_in (s : ByteArray) (v : Int) (hs : s.size ≤ 9223372036854775806) (h : Lib.atoiAll s.data.toList = .ok v) (hv : Tryz.inB v = true) (w : World) (htab : Lib.TabIs Tryz.prog w "internal/strconv.uint64pow10" .u64 Lib.pow10Tab) (ok : Bool) (hok : decide (Lib.itoa v = s.data.toList) = ok) :
    Calls Tryz.prog 35 #[.string s] w fun e w' => e = .returned (.tuple #[.int .i64 (if ok = true then v else 0), .bool ok]) ∧ Below w.heap.size w w' := by
  have hv' : -1048576 ≤ v ∧ v ≤ 1048576 := of_decide_eq_true hv
  have h4 : 4 < w.heap.size := by
    unfold Lib.TabIs World.var? at htab
    simp only [show Tryz.prog.globalNamed "internal/strconv.uint64pow10" = some 4 by kernel_rfl, Option.bind_some] at htab
    split at htab
    · rename_i hh
      exact (Array.getElem?_eq_some_iff.1 hh).1
    · cases htab
  go_enter Tryz.func35, Tryz.ntmps35
  go_wp2_with (go_at_call 51; refine (Tryz.strconv_Atoi_ok s hs v h _).mono ?_)
  rintro e w1 ⟨rfl, h1⟩
  have hb1 : Below w.heap.size w w1 := Tryz.below_atoi (Nat.le_refl _) h1
  clear h1
  go_wp2_with (go_at_call 52; refine (Tryz.within v _ _ _ ?c).mono ?_)
  case c => exact Tryz.new_cell _ _ _
  rintro e w2 ⟨rfl, rfl⟩
  rw [hv]
  have hb2 : Below w.heap.size w (w1.alloc (.cells #[.int .i64 v] 3)) := hb1.alloc hb1.size _
  have htab2 : Lib.TabIs Tryz.prog (w1.alloc (.cells #[.int .i64 v] 3)) "internal/strconv.uint64pow10" .u64 Lib.pow10Tab := var?_below hb2 (by kernel_rfl) h4 htab
  go_wp2_with (go_at_call 30; refine (Tryz.decimal v (by omega) (by omega) _ htab2).mono ?_)
  rintro e w3 ⟨rfl, hb3⟩
  have hb4 : Below w.heap.size w w3 := hb2.trans (hb3.mono hb2.size)
  clear htab2 hb3
  cases ok with
  | true =>
    have e1 : Lib.itoa v = s.data.toList := of_decide_eq_true hok
    have e2 : (⟨(Lib.itoa v).toArray⟩ : ByteArray) = s := by rw [e1]
    rw [e2]
    go_wp2_with fail
    go_ret2
    exact ⟨rfl, hb4⟩
  | false =>
    have e1 : ¬ Lib.itoa v = s.data.toList := of_decide_eq_false hok
    have e2 : (Lib.itoa v == s.toList) = false := by
      rw [Lib.toList_data]
      simpa using e1
    go_wp2_with fail
    go_ret2
    exact ⟨rfl, hb4⟩
set_option maxHeartbeats 1000000 in
set_option maxRecDepth 100000 in
theorem Tryz.number_syntax (s : ByteArray) (hs : s.size ≤ 281474976710656) (h : Lib.atoiAll s.data.toList = (Lib.atoiAll [])) (w : World) (ev : Value) (hv : w.cell? ⟨2, 0, none⟩ = some ev) (hev : ∃ te pe, ev = .iface te pe) :
    Calls Tryz.prog 35 #[.string s] w fun e w' => e = .returned (.tuple #[.int .i64 0, .bool false]) ∧ Below w.heap.size w w' := by
  go_enter Tryz.func35, Tryz.ntmps35
  go_wp2_with (go_at_call 51; refine (Tryz.strconv_Atoi_syntax s hs h ev _ hv (.inr hev)).mono ?_)
  rintro e w1 ⟨N, rfl, _, _, hb1⟩
  go_wp2_with fail
  go_ret2
  exact ⟨rfl, hb1⟩
set_option maxHeartbeats 1000000 in
set_option maxRecDepth 100000 in
theorem Tryz.number_range (s : ByteArray) (hs : s.size ≤ 281474976710656) (h : Lib.atoiAll s.data.toList = .range) (w : World) (ev : Value) (hv : w.cell? ⟨3, 0, none⟩ = some ev) (hev : ∃ te pe, ev = .iface te pe) :
    Calls Tryz.prog 35 #[.string s] w fun e w' => e = .returned (.tuple #[.int .i64 0, .bool false]) ∧ Below w.heap.size w w' := by
  go_enter Tryz.func35, Tryz.ntmps35
  go_wp2_with (go_at_call 51; refine (Tryz.strconv_Atoi_range s hs h ev _ hv (.inr hev)).mono ?_)
  rintro e w1 ⟨N, rfl, _, _, hb1⟩
  go_wp2_with fail
  go_ret2
  exact ⟨rfl, hb1⟩
def Tryz.num (s : List UInt8) : Int × Bool := match Lib.atoiAll s with
  | .ok v => if Tryz.inB v = true ∧ Lib.itoa v = s then (v, true) else (0, false)
  | _ => (0, false)
theorem Tryz.number (s : ByteArray) (hs : s.size ≤ 281474976710656) (w : World) (htab : Lib.TabIs Tryz.prog w "internal/strconv.uint64pow10" .u64 Lib.pow10Tab) (h2 : ∃ te pe, w.cell? ⟨2, 0, none⟩ = some (.iface te pe)) (h3 : ∃ te pe, w.cell? ⟨3, 0, none⟩ = some (.iface te pe)) :
    Calls Tryz.prog 35 #[.string s] w fun e w' => e = .returned (.tuple #[.int .i64 (Tryz.num s.data.toList).1, .bool (Tryz.num s.data.toList).2]) ∧ Below w.heap.size w w' := by
  obtain ⟨t2, p2, h2⟩ := h2
  obtain ⟨t3, p3, h3⟩ := h3
  unfold Tryz.num
  cases h : Lib.atoiAll s.data.toList with
  | ok v =>
    cases hv : Tryz.inB v with
    | false =>
      simp only [hv, Bool.false_eq_true, false_and, if_false]
      exact Tryz.number_out s v (by omega) h hv w
    | true =>
      by_cases hi : Lib.itoa v = s.data.toList
      · simp only [hv, hi, and_self, if_true]
        exact Tryz.number_in s v (by omega) h hv w htab true (by simpa using hi)
      · simp only [hv, hi, and_false, if_false]
        exact Tryz.number_in s v (by omega) h hv w htab false (by simpa using hi)
  | range => exact Tryz.number_range s hs h w _ h3 ⟨_, _, rfl⟩
  | _ => exact Tryz.number_syntax s hs h w _ h2 ⟨_, _, rfl⟩
end Go.Proofs
set_option linter.unusedVariables false
namespace Go.Proofs
open Go.Shelf Go.RowKit
theorem Tryz.build_new {T e : TypeId} {B b : Nat} {bs : List Value} {w w' : World} (h : Lib.IsBuilder T e B b bs w) (hb : Below w.heap.size w w') : Lib.IsBuilder T e B b bs w' := by
  have one : ∀ {p : Value}, Lib.BuilderAt T e B b p bs w → Lib.BuilderAt T e B b p bs w' := fun {p} h => by
    have hlt := h.lt
    obtain ⟨hB, v, hh, hown, hne⟩ := h
    exact ⟨hB, v, by rw [hb.block b hlt]; exact hh, hown.kept (row := some b) ⟨hb.os, hb.tape, hb.output, hb.size, fun k hk _ => hb.block k hk⟩ (.inr hne), hne⟩
  exact h.imp one one
def Tryz.stepT (p : Int × Int) : List UInt8 := 32 :: (Lib.itoa p.1 ++ 47 :: Lib.itoa p.2)
def Tryz.headT (word : List UInt8) (ps : List (Int × Int)) (k : Nat) : List UInt8 := word ++ (ps.take k).flatMap Tryz.stepT
theorem Tryz.headT_succ (word : List UInt8) (ps : List (Int × Int)) (k : Nat) (p : Int × Int) (h : ps[k]? = some p) : Tryz.headT word ps (k + 1) = Tryz.headT word ps k ++ Tryz.stepT p := by
  unfold Tryz.headT
  rw [List.take_add_one, h]
  simp
theorem Tryz.headT_le (word : List UInt8) (ps : List (Int × Int)) (k : Nat) : (Tryz.headT word ps k).length ≤ (Tryz.headT word ps ps.length).length := by
  have h := congrArg (fun l => (l.flatMap Tryz.stepT).length) (List.take_append_drop k ps)
  simp only [List.flatMap_append, List.length_append] at h
  unfold Tryz.headT
  rw [List.take_length]
  simp only [List.length_append]
  omega
structure Tryz.Keep (w : World) (tb : Nat) (p : Int × Int) (bs : List Value) (wx : World) : Prop where
  own : Lib.IsBuilder 85 5 w.heap.size w.heap.size bs wx
  below : Below w.heap.size w wx
  tab : Lib.TabIs Tryz.prog wx "internal/strconv.uint64pow10" .u64 Lib.pow10Tab
  one : wx.cell? ⟨tb, 0, none⟩ = some (.int .i64 p.1)
  two : wx.cell? ⟨tb, 1, none⟩ = some (.int .i64 p.2)
theorem Tryz.cell_lt {w : World} {b i : Nat} {v : Value} (h : w.cell? ⟨b, i, none⟩ = some v) : b < w.heap.size := by
  unfold World.cell? at h
  split at h
  · rename_i h0; exact (Array.getElem?_eq_some_iff.1 h0).1
  · cases h
theorem Tryz.tab_lt {w : World} (htab : Lib.TabIs Tryz.prog w "internal/strconv.uint64pow10" .u64 Lib.pow10Tab) : 4 < w.heap.size := by
  unfold Lib.TabIs World.var? at htab
  simp only [show Tryz.prog.globalNamed "internal/strconv.uint64pow10" = some 4 by kernel_rfl, Option.bind_some] at htab
  split at htab
  · rename_i hh
    exact (Array.getElem?_eq_some_iff.1 hh).1
  · cases htab
theorem Tryz.tab_below {w w' : World} {B : Nat} (h : Below B w w') (hB : 4 < B) (htab : Lib.TabIs Tryz.prog w "internal/strconv.uint64pow10" .u64 Lib.pow10Tab) : Lib.TabIs Tryz.prog w' "internal/strconv.uint64pow10" .u64 Lib.pow10Tab := var?_below h (by kernel_rfl) hB htab
theorem Tryz.Keep.next {w : World} {tb : Nat} {p : Int × Int} {bs : List Value} {wx w' : World} (h : Tryz.Keep w tb p bs wx) (hb : Below wx.heap.size wx w') : Tryz.Keep w tb p bs w' :=
  ⟨Tryz.build_new h.own hb, h.below.trans (hb.mono h.below.size), Tryz.tab_below hb (Tryz.tab_lt h.tab) h.tab, (hb.cell (Tryz.cell_lt h.one)).trans h.one, (hb.cell (Tryz.cell_lt h.two)).trans h.two⟩
theorem Tryz.Keep.decimal {w : World} {tb : Nat} {p : Int × Int} {bs : List Value} {wx : World} (h : Tryz.Keep w tb p bs wx) (n : Int) (h0 : -9223372036854775808 ≤ n) (h1 : n ≤ 9223372036854775807) :
    Calls Tryz.prog 30 #[.int .i64 n] wx fun e w' => e = .returned (.string ⟨(Lib.itoa n).toArray⟩) ∧ Tryz.Keep w tb p bs w' ∧ w'.cell? ⟨tb, 0, none⟩ = some (.int .i64 p.1) ∧ w'.cell? ⟨tb, 1, none⟩ = some (.int .i64 p.2) :=
  (Tryz.decimal n h0 h1 wx h.tab).mono fun e w' he => ⟨he.1, h.next he.2, (h.next he.2).one, (h.next he.2).two⟩
theorem Tryz.Keep.put {w : World} {tb : Nat} {p : Int × Int} {bs : List Value} {wx : World} (h : Tryz.Keep w tb p bs wx) (s : ByteArray) (hs : bs.length + s.size ≤ 140737488355328) :
    Calls Tryz.prog 29 #[.pointer (some ⟨w.heap.size, 0, none⟩), .string s] wx fun e w' => e = .returned (.tuple #[.int .i64 s.size, .nilIface]) ∧ Lib.IsBuilder 85 5 w.heap.size w.heap.size (bs ++ Lib.strCells s) w' ∧ Below w.heap.size w w' :=
  (Tryz.putText w.heap.size w.heap.size bs s wx h.own hs h.below.size).mono fun e w' he => ⟨he.1, .inr he.2.1, h.below.trans he.2.2⟩
theorem Tryz.step_cells (p : Int × Int) : Lib.strCells ((⟨#[32]⟩ : ByteArray) ++ ⟨(Lib.itoa p.1).toArray⟩ ++ ⟨#[47]⟩ ++ ⟨(Lib.itoa p.2).toArray⟩) = Lib.byteCells (Tryz.stepT p) := by
  simp [Lib.strCells, Lib.byteCells, Tryz.stepT]
theorem Tryz.step_room (p : Int × Int) (l : List UInt8) (h : l.length + (2 + (Lib.itoa p.1).length + (Lib.itoa p.2).length) ≤ 10000000) : (Lib.byteCells l).length + ((⟨#[32]⟩ : ByteArray) ++ ⟨(Lib.itoa p.1).toArray⟩ ++ ⟨#[47]⟩ ++ ⟨(Lib.itoa p.2).toArray⟩).size ≤ 140737488355328 := by
  have h1 := congrArg List.length (Tryz.step_cells p)
  rw [Lib.strCells_length, Lib.byteCells_length] at h1
  rw [Lib.byteCells_length, h1]
  simp only [Tryz.stepT, List.length_cons, List.length_append]
  omega
set_option maxHeartbeats 4000000 in
set_option maxRecDepth 100000 in
theorem Tryz.line_some (word : ByteArray) (ps : List (Int × Int)) (bl off cap : Nat) (w : World) (hT : (Tryz.headT word.data.toList ps ps.length).length ≤ 10000000) (hn : ps.length ≤ 10000000)
    (hr : ∀ p ∈ ps, -9223372036854775808 ≤ p.1 ∧ p.1 ≤ 9223372036854775807 ∧ -9223372036854775808 ≤ p.2 ∧ p.2 ≤ 9223372036854775807)
    (hc : ∀ k p, ps[k]? = some p → w.cell? ⟨bl, off + k * 2, none⟩ = some (.int .i64 p.1) ∧ w.cell? ⟨bl, off + k * 2 + 1, none⟩ = some (.int .i64 p.2))
    (htab : Lib.TabIs Tryz.prog w "internal/strconv.uint64pow10" .u64 Lib.pow10Tab) :
    Calls Tryz.prog 17 #[.string word, .slice (some ⟨bl, off, none⟩) ps.length cap] w fun e w' => e = .returned (.string ⟨(Tryz.headT word.data.toList ps ps.length ++ [10]).toArray⟩) ∧ Below w.heap.size w w' := by
  go_enter Tryz.func17, Tryz.ntmps17
  have hw0 := Lib.fresh_isBuilder 85 5 w
  have hl0 := Tryz.headT_le word.data.toList ps 0
  have hs0 : word.size ≤ 10000000 := by
    have : word.size = word.data.toList.length := Lib.size_eq word
    simp only [Tryz.headT, List.take_zero, List.flatMap_nil, List.append_nil] at hl0
    unfold Tryz.headT at hT
    simp only [List.length_append] at hT hl0
    omega
  go_wp2_with (go_at_call 29; refine (Tryz.putText w.heap.size w.heap.size [] word _ hw0 (by simp; omega) (by simp)).mono ?_)
  rintro e w1 ⟨rfl, h1, hb1⟩
  have hb2 : Below w.heap.size w w1 := ((Below.refl _ w).alloc (Nat.le_refl _) _).trans hb1
  have h2 : Lib.IsBuilder 85 5 w.heap.size w.heap.size (Lib.byteCells (Tryz.headT word.data.toList ps 0)) w1 := .inr (by simpa [Tryz.headT, Lib.strCells_eq] using h1)
  clear hb1 h1 hw0 hl0
  go_wp2_with fail
  go_loopw [12] (fun i wr => ∃ k : Nat, k ≤ ps.length ∧ i = .int .i64 k ∧ Lib.IsBuilder 85 5 w.heap.size w.heap.size (Lib.byteCells (Tryz.headT word.data.toList ps k)) wr ∧ Below w.heap.size w wr) (fun i _ => ps.length - (intOf i).toNat)
  case atStart => exact ⟨0, Nat.zero_le _, rfl, h2, hb2⟩
  case round =>
    obtain ⟨k, hk, rfl, hbr, hbw⟩ := hrel
    by_cases hlt : k < ps.length
    · obtain ⟨p, hp⟩ : ∃ p, ps[k]? = some p := ⟨_, List.getElem?_eq_getElem hlt⟩
      have hc' := hc k p hp
      have hblt : bl < w.heap.size := by
        have := hc'.1
        unfold World.cell? at this
        split at this
        · rename_i h0; exact (Array.getElem?_eq_some_iff.1 h0).1
        · cases this
      have hca : wr.cell? ⟨bl, off + k * 2, none⟩ = some (.int .i64 p.1) := (hbw.cell hblt).trans hc'.1
      have hcb : wr.cell? ⟨bl, off + k * 2 + 1, none⟩ = some (.int .i64 p.2) := (hbw.cell hblt).trans hc'.2
      have hq := hr p (List.mem_of_getElem? hp)
      have hk1 : Tryz.Keep w wr.heap.size p (Lib.byteCells (Tryz.headT word.data.toList ps k)) (wr.alloc (.cells #[.int .i64 p.1, .int .i64 p.2] 27)) := by
        have hb0 : Below wr.heap.size wr (wr.alloc (.cells #[.int .i64 p.1, .int .i64 p.2] 27)) := (Below.refl _ wr).alloc (Nat.le_refl _) _
        exact ⟨Tryz.build_new hbr hb0, hbw.trans (hb0.mono hbw.size), Tryz.tab_below (hbw.trans (hb0.mono hbw.size)) (Tryz.tab_lt htab) htab, by rw [World.cell?_alloc_new]; rfl, by rw [World.cell?_alloc_new]; rfl⟩
      clear hc hc' htab h2 hb2
      go_wp2_with fail
      have ho := hk1.one
      have ht := hk1.two
      revert hk1 ho ht
      generalize wr.alloc (.cells #[.int .i64 p.1, .int .i64 p.2] 27) = wx
      generalize wr.heap.size = tb
      intro hk1 ho ht
      have hk2 : Tryz.Keep w tb p (Lib.byteCells (Tryz.headT word.data.toList ps k)) wx.drew := ⟨hk1.own, hk1.below.trans ⟨rfl, rfl, rfl, Nat.le_refl _, fun _ _ => rfl⟩, hk1.tab, hk1.one, hk1.two⟩
      clear hk1 hbr hbw hca hcb
      have hl1 := Tryz.headT_le word.data.toList ps (k + 1)
      rw [Tryz.headT_succ _ _ _ p hp] at hl1
      have hl2 : (Tryz.headT word.data.toList ps k).length + (2 + (Lib.itoa p.1).length + (Lib.itoa p.2).length) ≤ 10000000 := by
        have : (Tryz.stepT p).length = 2 + (Lib.itoa p.1).length + (Lib.itoa p.2).length := by
          simp only [Tryz.stepT, List.length_cons, List.length_append]; omega
        simp only [List.length_append] at hl1
        omega
      clear hl1
      go_region_with (first
        | (go_at_call 30; refine (Tryz.Keep.decimal (w := w) (tb := tb) (p := p) (bs := Lib.byteCells (Tryz.headT word.data.toList ps k)) ?hk _ ?h0 ?h1).mono ?_; (case hk => assumption); (case h0 => omega); (case h1 => omega); rintro e w3 ⟨rfl, hk3, ho3, ht3⟩)
        | (go_at_call 29; refine (Tryz.Keep.put (w := w) (tb := tb) (p := p) (bs := Lib.byteCells (Tryz.headT word.data.toList ps k)) ?hk _ ?hs).mono ?_; (case hk => assumption); (case hs => exact Tryz.step_room p _ hl2); rintro e w3 ⟨rfl, hk3, ho3⟩))
      all_goals (
        go_wp2_with fail
        go_roundw
        case rel => exact ⟨k + 1, by omega, by go_num, by rw [Tryz.headT_succ _ _ _ p hp, Lib.byteCells_append, ← Tryz.step_cells]; exact hk3, ho3⟩
        case measure => simp [intOf]; omega)
    · have : k = ps.length := by omega
      subst this
      clear hc htab h2 hb2 hk
      go_wp2_with (go_at_call 31; refine (Tryz.putByte w.heap.size w.heap.size _ 10 _ hbr (by rw [Lib.byteCells_length]; omega) hbw.size).mono ?_)
      rintro e w3 ⟨rfl, h3, hb3⟩
      have h4 : Lib.IsBuilder 85 5 w.heap.size w.heap.size (Lib.byteCells (Tryz.headT word.data.toList ps ps.length ++ [10])) w3 := .inr (by rw [Lib.byteCells_append]; exact h3)
      have hb4 := hbw.trans hb3
      clear h3 hb3 hbr
      go_wp2_with (go_at_call 32; refine (Tryz.Builder_String_any w.heap.size w.heap.size _ _ h4 hb4.size).mono ?_)
      rintro e w5 ⟨rfl, hb5⟩
      go_wp2_with fail
      go_ret
      exact ⟨rfl, hb4.trans hb5⟩
end Go.Proofs
namespace Go.Am
open Go Go.RowKit
set_option linter.unusedSimpArgs false
set_option linter.unusedVariables false
def GW (G : Nat → Option D) (w : World) : Prop := ∀ g d, G g = some d → ∃ vs : List Value, GH w g vs ∧ GV d vs
theorem RetAll.data {c : Cx} : ∀ (xs : List D) (vs : List Value), VVs c xs vs → RetAll c (xs.map T.d) vs []
  | [], vs, h => ⟨h, rfl⟩
  | x :: xs, vs, h => by
    simp only [VVs] at h
    obtain ⟨v, r, rfl, h1, h2, h3⟩ := h
    exact ⟨v, r, [], [], rfl, rfl, by simp only [TC]; exact ⟨trivial, h1⟩, h2, RetAll.data xs r h3⟩
theorem ext_given {P : Program} {G : Nat → Option D} {f : FuncId} {F : List D → Option (List T)} {fn : Func} (hf : P.funcs[f]? = some fn) (hb : fn.body.isSome = true) (hn : (fn.name == "runtime.NumGoroutine") = false) (hy : ¬ YB ≤ f)
    (h : ∀ (ds : List D) (rs : List T) (c : Cx) (args : Array Value), F ds = some rs → GW G c.w → VVs c ds args.toList → Calls P f args c.w fun e w' => ∃ (xs : List D) (vs : List Value), e = .returned (tupV vs) ∧ rs = xs.map T.d ∧ (∀ c, VVs c xs vs) ∧ RowKit.Below c.w.heap.size c.w w') : ExtOK P G f F := by
  refine ⟨.inr ⟨fn, hf, hb, hn⟩, fun ds rs H e hp A S hd args hA hG hkr hargs => ?_⟩
  unfold CallsY
  rw [if_neg hy]
  refine Calls.mono (h ds rs _ args e (fun g d hg => ?_) hargs) fun en w' he => ?_
  · obtain ⟨_, _, _, vs, h4, h5⟩ := hG g d hg
    exact ⟨vs, h4, h5⟩
  · obtain ⟨xs, vs, rfl, rfl, hv, hbl⟩ := he
    obtain ⟨k1, _⟩ := KR.world (w' := w') (M := []) (M' := []) (fl := []) hbl.os hbl.tape hbl.output hbl.size (Recs.old hbl.block) (show KR A A.ρ0 S hd ([] ++ []) _ _ A.w0 from hkr) (fun b hb _ => hbl.block b hb) (by simp) (by simp)
    refine ⟨_, rfl, A.ρ0, S, hd, [], vs, k1, RetAll.data xs vs (hv _), rfl⟩
end Go.Am
set_option linter.unusedVariables false
namespace Go.Proofs
open Go.Shelf Go.RowKit
set_option maxHeartbeats 4000000 in
set_option maxRecDepth 100000 in
theorem Tryz.line_none (word : ByteArray) (a : Option Addr) (cap : Nat) (w : World) (hT : word.size ≤ 10000000) :
    Calls Tryz.prog 17 #[.string word, .slice a 0 cap] w fun e w' => e = .returned (.string ⟨(word.data.toList ++ [10]).toArray⟩) ∧ Below w.heap.size w w' := by
  go_enter Tryz.func17, Tryz.ntmps17
  have hw0 := Lib.fresh_isBuilder 85 5 w
  go_wp2_with (go_at_call 29; refine (Tryz.putText w.heap.size w.heap.size [] word _ hw0 (by simp; omega) (by simp)).mono ?_)
  rintro e w1 ⟨rfl, h1, hb1⟩
  have hbr : Lib.IsBuilder 85 5 w.heap.size w.heap.size (Lib.byteCells word.data.toList) w1 := .inr (by simpa [Lib.strCells_eq] using h1)
  have hbw : Below w.heap.size w w1 := ((Below.refl _ w).alloc (Nat.le_refl _) _).trans hb1
  have hsz : word.data.toList.length ≤ 10000000 := by rw [← Lib.size_eq word]; exact hT
  clear hb1 h1 hw0
  go_wp2_with fail
  go_loopw [12] (fun i wr => i = .int .i64 0 ∧ wr = w1) (fun i _ => 0)
  case atStart => exact ⟨rfl, rfl⟩
  case round =>
    obtain ⟨rfl, rfl⟩ := hrel
    go_wp2_with (go_at_call 31; refine (Tryz.putByte w.heap.size w.heap.size _ 10 _ hbr (by rw [Lib.byteCells_length]; omega) hbw.size).mono ?_)
    rintro e w3 ⟨rfl, h3, hb3⟩
    have h4 : Lib.IsBuilder 85 5 w.heap.size w.heap.size (Lib.byteCells (word.data.toList ++ [10])) w3 := .inr (by rw [Lib.byteCells_append]; exact h3)
    have hb4 := hbw.trans hb3
    clear h3 hb3 hbr
    go_wp2_with (go_at_call 32; refine (Tryz.Builder_String_any w.heap.size w.heap.size _ _ h4 hb4.size).mono ?_)
    rintro e w5 ⟨rfl, hb5⟩
    go_wp2_with fail
    go_ret
    exact ⟨rfl, hb4.trans hb5⟩
end Go.Proofs
set_option linter.unusedVariables false
namespace Go.Tr7
open Go Go.Am Go.Proofs
def decF : Nat → Nat → List UInt8
  | 0, _ => []
  | k + 1, u => if u < 10 then [UInt8.ofNat (48 + u)] else decF k (u / 10) ++ [UInt8.ofNat (48 + u % 10)]
def decI (n : Int) : List UInt8 := if n < 0 then 45 :: decF 20 n.natAbs else decF 20 n.toNat
def inR (n : Int) : Bool := decide (-9223372036854775808 ≤ n) && decide (n ≤ 9223372036854775807)
theorem decF_eq : ∀ (k u : Nat), u < 10 ^ k → decF k u = Lib.decDigits u ∨ k = 0
  | 0, _, _ => .inr rfl
  | k + 1, u, h => by
    refine .inl ?_
    rw [decF, Lib.decDigits]
    by_cases hu : u < 10
    · rw [if_pos hu, dif_pos hu]
    · rw [if_neg hu, dif_neg hu]
      have h1 : u / 10 < 10 ^ k := by rw [Nat.pow_succ] at h; omega
      rcases decF_eq k (u / 10) h1 with q | q
      · rw [q]
      · subst q
        simp at h1
        omega
theorem decI_eq {n : Int} (h : inR n = true) : decI n = Lib.itoa n := by
  simp only [inR, Bool.and_eq_true, decide_eq_true_eq] at h
  unfold decI Lib.itoa
  have e : (10 : Nat) ^ 20 = 100000000000000000000 := by decide
  split
  · rw [(decF_eq 20 n.natAbs (by rw [e]; omega)).resolve_right (by decide)]
  · rw [(decF_eq 20 n.toNat (by rw [e]; omega)).resolve_right (by decide)]
def extDec : List D → Option (List T)
  | [.int .i64 n] => if inR n = true then some [.d (.str (decI n))] else none
  | _ => none
def numF (s : List UInt8) : Int × Bool := match Lib.atoiAll s with
  | .ok v => if (Tryz.inB v && decide (decI v = s)) = true then (v, true) else (0, false)
  | _ => (0, false)
theorem numF_eq (s : List UInt8) : numF s = Tryz.num s := by
  unfold numF Tryz.num
  cases Lib.atoiAll s with
  | ok v =>
    simp only
    cases hb : Tryz.inB v with
    | false => simp
    | true =>
      have hr : inR v = true := by
        have := of_decide_eq_true hb
        simp only [inR, Bool.and_eq_true, decide_eq_true_eq]
        omega
      rw [decI_eq hr]
      by_cases hi : Lib.itoa v = s <;> simp [hi]
  | _ => rfl
def extNum : List D → Option (List T)
  | [.str s] => if decide (s.length ≤ 1000000) = true then some [.d (.int .i64 (numF s).1), .d (.bool (numF s).2)] else none
  | _ => none
def stepsD : List D → Option (List (Int × Int))
  | [] => some []
  | .agg [.int .i64 a, .int .i64 b] :: r => (stepsD r).map ((a, b) :: ·)
  | _ => none
def stepF (p : Int × Int) : List UInt8 := 32 :: (decI p.1 ++ 47 :: decI p.2)
def headF (w : List UInt8) (ps : List (Int × Int)) : List UInt8 := w ++ ps.flatMap stepF
def okF (w : List UInt8) (ps : List (Int × Int)) : Bool := ps.all (fun p => inR p.1 && inR p.2) && decide (ps.length ≤ 1000000) && decide ((headF w ps).length ≤ 1000000)
def extLine : List D → Option (List T)
  | [.str w, .sl _ l] => (stepsD l).bind fun ps => if okF w ps = true then some [.d (.str (headF w ps ++ [10]))] else none
  | _ => none
theorem headF_eq (w : List UInt8) (ps : List (Int × Int)) (h : ∀ p ∈ ps, inR p.1 = true ∧ inR p.2 = true) : headF w ps = Tryz.headT w ps ps.length := by
  unfold headF Tryz.headT
  rw [List.take_length]
  congr 1
  induction ps with
  | nil => rfl
  | cons p ps ih =>
    rw [List.flatMap_cons, List.flatMap_cons, ih (fun q hq => h q (by simp [hq]))]
    obtain ⟨h1, h2⟩ := h p (by simp)
    rw [stepF, Tryz.stepT, decI_eq h1, decI_eq h2]
structure Vars (G : Nat → Option D) : Prop where
  pow : G 4 = some (.agg (Lib.pow10Tab.map (D.int .u64)))
  syn : G 2 = some .nilf
  rng : G 3 = some .nilf
theorem ints_of (c : Cx) (k : IntKind) : ∀ (zs : List Int) (vs : List Value), VCs c (zs.map (D.int k)) vs → vs = zs.map fun z => Value.int k z
  | [], vs, h => by simpa [VCs] using h
  | z :: zs, vs, h => by
    simp only [List.map_cons, VCs, VC] at h
    obtain ⟨v, r, rfl, h1, h2⟩ := h
    rw [ints_of c k zs r h2]
    simpa using h1
theorem tab_of {G : Nat → Option D} (hv : Vars G) {w : World} (c : Cx) (h : GW G w) : Lib.TabIs Tryz.prog w "internal/strconv.uint64pow10" .u64 Lib.pow10Tab := by
  obtain ⟨vs, ⟨t, fr, h1⟩, h2⟩ := h _ _ hv.pow
  have := ints_of c .u64 _ _ (h2.1 rfl c)
  subst this
  unfold Lib.TabIs World.var?
  simp only [show Tryz.prog.globalNamed "internal/strconv.uint64pow10" = some 4 by kernel_rfl, Option.bind_some, h1]
theorem itf_of {G : Nat → Option D} {g : Nat} (hv : G g = some .nilf) {w : World} (h : GW G w) : ∃ te pe, w.cell? ⟨g, 0, none⟩ = some (.iface te pe) := by
  obtain ⟨vs, h1, h2⟩ := h _ _ hv
  obtain ⟨t, p, rfl⟩ := h2.2 rfl
  have := h1.cell 0
  exact ⟨t, p, by simpa [Addr.add] using this⟩
theorem given_dec {G : Nat → Option D} (hv : Vars G) : ExtOK Tryz.prog G 30 extDec := by
  refine ext_given Tryz.func30 (by kernel_rfl) (by kernel_rfl) (by unfold YB; omega) fun ds rs c args e hG ha => ?_
  unfold extDec at e
  split at e
  · rename_i n
    split at e
    · rename_i hr
      simp only [Option.some.injEq] at e
      subst e
      simp only [VVs] at ha
      obtain ⟨v, r, hargs, h1, h2, rfl⟩ := ha
      have h3 := VV.inv (c := c) (d := .int .i64 n) ⟨h1, h2⟩ (by simp)
      simp only [VC, List.cons.injEq, and_true] at h3
      subst h3
      obtain rfl : args = #[.int .i64 n] := by rw [← Array.toArray_toList (xs := args), hargs]
      have hr' := hr
      simp only [inR, Bool.and_eq_true, decide_eq_true_eq] at hr'
      refine (Tryz.decimal n hr'.1 hr'.2 c.w (tab_of hv c hG)).mono fun en w' he => ?_
      refine ⟨[.str (decI n)], [.string ⟨(Lib.itoa n).toArray⟩], he.1, rfl, fun c => ?_, he.2⟩
      simp only [VVs]
      exact ⟨_, [], rfl, by simp [VC, Value.cells, decI_eq hr], rfl, rfl⟩
    · cases e
  · cases e
theorem given_num {G : Nat → Option D} (hv : Vars G) : ExtOK Tryz.prog G 35 extNum := by
  refine ext_given Tryz.func35 (by kernel_rfl) (by kernel_rfl) (by unfold YB; omega) fun ds rs c args e hG ha => ?_
  unfold extNum at e
  split at e
  · rename_i s
    split at e
    · rename_i hr
      simp only [Option.some.injEq] at e
      subst e
      simp only [VVs] at ha
      obtain ⟨v, r, hargs, h1, h2, rfl⟩ := ha
      have h3 := VV.inv (c := c) (d := .str s) ⟨h1, h2⟩ (by simp)
      simp only [VC, List.cons.injEq, and_true] at h3
      obtain ⟨b, rfl, rfl⟩ := h3
      obtain rfl : args = #[.string b] := by rw [← Array.toArray_toList (xs := args), hargs]
      have hsz : b.size ≤ 281474976710656 := by
        have := of_decide_eq_true hr
        rw [Lib.size_eq b]
        omega
      refine (Tryz.number b hsz c.w (tab_of hv c hG) (itf_of hv.syn hG) (itf_of hv.rng hG)).mono fun en w' he => ?_
      refine ⟨[.int .i64 (numF b.data.toList).1, .bool (numF b.data.toList).2], [.int .i64 (Tryz.num b.data.toList).1, .bool (Tryz.num b.data.toList).2], he.1, rfl, fun c => ?_, he.2⟩
      simp only [VVs, numF_eq]
      exact ⟨_, _, rfl, by simp [VC, Value.cells], rfl, _, [], rfl, by simp [VC, Value.cells], rfl, rfl⟩
    · cases e
  · cases e
theorem steps_cells {c : Cx} {bl off : Nat} : ∀ (l : List D) (ps : List (Int × Int)) (o sz : Nat), stepsD l = some ps → VE c l ⟨bl, off, none⟩ o sz → ∀ k p, ps[k]? = some p → c.w.cell? ⟨bl, off + o + k * 2, none⟩ = some (.int .i64 p.1) ∧ c.w.cell? ⟨bl, off + o + k * 2 + 1, none⟩ = some (.int .i64 p.2)
  | [], ps, o, sz, h, hv, k, p, hp => by
    simp only [stepsD, Option.some.injEq] at h
    subst h
    simp at hp
  | x :: l, ps, o, sz, h, hv, k, p, hp => by
    unfold stepsD at h
    split at h
    · rename_i he; cases he
    · rename_i a b r he
      simp only [List.cons.injEq] at he
      obtain ⟨rfl, rfl⟩ := he
      simp only [Option.map_eq_some_iff] at h
      obtain ⟨qs, h1, rfl⟩ := h
      simp only [VE] at hv
      obtain ⟨⟨cs, q1, q2, q3⟩, hv⟩ := hv
      simp only [VC, VCs] at q3
      obtain ⟨u1, r1, rfl, e1, u2, r2, rfl, e2, rfl⟩ := q3
      simp only [List.cons.injEq, and_true] at e1 e2
      subst e1 e2
      simp only [List.length_cons, List.length_nil] at q1
      cases k with
      | zero =>
        simp only [List.getElem?_cons_zero, Option.some.injEq] at hp
        subst hp
        have c0 := q2 0 _ rfl
        have c1 := q2 1 _ rfl
        rw [add_plain'] at c0 c1
        exact ⟨by simpa using c0, by simpa [Nat.add_assoc] using c1⟩
      | succ k =>
        simp only [List.getElem?_cons_succ] at hp
        have := steps_cells l qs (o + sz) sz h1 hv k p hp
        rw [show off + o + (k + 1) * 2 = off + (o + sz) + k * 2 by omega]
        exact this
    · cases h
theorem steps_length : ∀ (l : List D) (ps : List (Int × Int)), stepsD l = some ps → l.length = ps.length
  | [], ps, h => by
    simp only [stepsD, Option.some.injEq] at h
    subst h
    rfl
  | x :: l, ps, h => by
    unfold stepsD at h
    split at h
    · rename_i he; cases he
    · rename_i a b r he
      simp only [List.cons.injEq] at he
      obtain ⟨rfl, rfl⟩ := he
      simp only [Option.map_eq_some_iff] at h
      obtain ⟨qs, h1, rfl⟩ := h
      simp [steps_length l qs h1]
    · cases h
theorem given_line {G : Nat → Option D} (hv : Vars G) : ExtOK Tryz.prog G 17 extLine := by
  refine ext_given Tryz.func17 (by kernel_rfl) (by kernel_rfl) (by unfold YB; omega) fun ds rs c args e hG ha => ?_
  unfold extLine at e
  split at e
  · rename_i wd fl l
    simp only [Option.bind_eq_some_iff] at e
    obtain ⟨ps, hps, e⟩ := e
    split at e
    · rename_i hr
      simp only [Option.some.injEq] at e
      subst e
      simp only [okF, Bool.and_eq_true, decide_eq_true_eq, List.all_eq_true] at hr
      obtain ⟨⟨hr1, hr2⟩, hr3⟩ := hr
      have hr0 : ∀ p ∈ ps, inR p.1 = true ∧ inR p.2 = true := hr1
      rw [headF_eq wd ps hr0] at hr3 ⊢
      simp only [VVs] at ha
      obtain ⟨v1, r1, hargs, h1, h2, v2, r2, rfl, h3, h4, rfl⟩ := ha
      have k1 := VV.inv (c := c) (d := .str wd) ⟨h1, h2⟩ (by simp)
      have k2 := VV.inv (c := c) (d := .sl fl l) ⟨h3, h4⟩ (by simp)
      simp only [VC, List.cons.injEq, and_true] at k1 k2
      obtain ⟨b, rfl, rfl⟩ := k1
      obtain ⟨a, len, cap, rfl, rfl, hcap, had⟩ := k2
      obtain rfl : args = #[.string b, .slice a l.length cap] := by rw [← Array.toArray_toList (xs := args), hargs]
      have hlen := steps_length l ps hps
      have fin : ∀ {tx : List UInt8} {en : Ending} {w' : World}, en = .returned (.string ⟨tx.toArray⟩) ∧ RowKit.Below c.w.heap.size c.w w' → ∃ (xs : List D) (vs : List Value), en = .returned (tupV vs) ∧ [T.d (.str tx)] = xs.map T.d ∧ (∀ c, VVs c xs vs) ∧ RowKit.Below c.w.heap.size c.w w' := fun {tx} {en} {w'} he => by
        refine ⟨[.str tx], [.string ⟨tx.toArray⟩], he.1, rfl, fun c => ?_, he.2⟩
        simp only [VVs]
        exact ⟨_, [], rfl, by simp [VC, Value.cells], rfl, rfl⟩
      by_cases hl : l = []
      · subst hl
        simp only [stepsD, Option.some.injEq] at hps
        subst hps
        have hw : b.size ≤ 10000000 := by
          have := Tryz.headT_le b.data.toList [] 0
          rw [Lib.size_eq b]
          simp only [Tryz.headT, List.take_nil, List.flatMap_nil, List.append_nil] at hr3
          omega
        refine (Tryz.line_none b a cap c.w hw).mono fun en w' he => fin (by simpa [Tryz.headT] using he)
      · obtain ⟨ad, sz, rfl, hsp, _, _, hve⟩ := had hl
        obtain ⟨bl, off, sp⟩ := ad
        simp only at hsp
        subst hsp
        rw [hlen]
        refine (Tryz.line_some b ps bl off cap c.w (by omega) (by omega) (fun p hp => ?_) (fun k p hp => ?_) (tab_of hv c hG)).mono fun en w' he => fin he
        · have := hr0 p hp
          simp only [inR, Bool.and_eq_true, decide_eq_true_eq] at this
          omega
        · have := steps_cells l ps 0 sz hps hve k p hp
          simpa using this
    · cases e
  · cases e
end Go.Tr7
namespace Go.Trc
set_option maxRecDepth 20000
set_option linter.unusedVariables false
open Go Go.Am Go.Proofs
noncomputable abbrev P : Program := Tryz.prog
def glob : Nat → Option D := fun g => Am.look [(1, .agg [.str [115, 101, 108, 102], .str [110, 111, 110, 101], .str [108, 101, 110], .str [97, 116]])] g
def hint3 : Hint := { nv := 10, objs := [], keep := [20, 68, 71, 77, 92, 98, 102], lits := [], own := false, live := fun id => (Am.look [(0, [1]), (1, [1, 19]), (2, [2]), (3, [1, 3]), (4, [1, 3, 4]), (5, [1, 3, 4, 5]), (6, [1, 3, 4, 5, 31]), (7, [1, 3, 4, 5]), (8, [1, 3, 4, 5]), (9, [1, 3, 6]), (10, [1, 3, 6, 7, 9]), (11, [1, 3, 7, 84]), (12, [2]), (13, [2])] id).getD [] }
def hint4 : Hint := { nv := 9, objs := [], keep := [12, 15, 21, 29, 36, 53, 58], lits := [], own := false, live := fun id => (Am.look [(0, [0]), (1, [0, 11]), (2, [2]), (3, [0, 3, 4, 5]), (4, [0, 3, 4, 5, 6, 7, 8]), (5, [0, 3, 5, 48]), (6, [2]), (7, [2])] id).getD [] }
def hint5 : Hint := { nv := 16, objs := [], keep := [16, 24, 30, 35, 40, 55, 65, 87, 91, 107, 120, 126, 132], lits := [19, 45, 64, 84, 85, 86], own := false, live := fun id => (Am.look [(0, []), (1, [1]), (2, [1, 2]), (3, [1, 2, 3, 4]), (4, [1, 2, 3, 4, 5, 6, 7]), (5, [1, 2, 3, 4, 5, 6, 7, 8, 9, 10]), (6, [1, 2, 3, 4, 5, 6, 7, 8, 9, 10, 12, 13]), (7, [1, 2, 3, 4, 5, 6, 7, 8, 9, 10, 12, 13, 14]), (8, [1, 2, 3, 4, 5, 6, 7, 8, 9, 10, 12, 13, 14, 15]), (9, [0])] id).getD [], pan := [5, 6, 9] }
def hint6 : Hint := { nv := 2, objs := [], keep := [5, 8], lits := [], own := false, live := fun id => (Am.look [(0, [1]), (1, [2])] id).getD [] }
def hint7 : Hint := { nv := 12, objs := [], keep := [23, 34], lits := [], own := false, live := fun id => (Am.look [(0, [0, 2]), (1, [0, 2, 14]), (2, [2, 3, 4]), (3, [0, 2, 5]), (4, [0, 2, 5, 16, 17]), (5, [0, 2, 5, 16, 17, 18]), (6, [0, 2, 5, 6, 7, 16, 17]), (7, [2, 5, 6, 7, 8, 9, 10, 16, 17]), (8, [2, 5, 6, 7, 8, 9, 16, 17, 28]), (9, [2, 3, 4]), (10, [2, 5, 6, 9, 10, 11, 16, 17]), (11, [2, 5, 6, 9, 11, 16, 17, 38]), (12, [2, 3, 4]), (13, [2, 5, 9, 11, 16, 17, 42]), (14, [2, 5, 9, 16, 17]), (15, [2, 5, 9, 16, 17]), (16, [0, 2, 5, 16, 17]), (17, [0, 2, 5, 16, 17]), (18, [2, 5, 50]), (19, [2, 3, 4]), (20, [2, 3, 4])] id).getD [] }
def hint8 : Hint := { nv := 2, objs := [], keep := [5, 8], lits := [], own := false, live := fun id => (Am.look [(0, [1]), (1, [2])] id).getD [] }
def hint9 : Hint := { nv := 6, objs := [], keep := [], lits := [], own := false, live := fun id => (Am.look [(0, [0, 1]), (1, [0, 1, 10]), (2, [4]), (3, [0, 1, 5]), (4, [0, 1, 5, 14]), (5, [0, 1, 5]), (6, [0, 1, 5, 25]), (7, [4]), (8, [4])] id).getD [] }
def hint10 : Hint := { nv := 11, objs := [], keep := [17, 26, 34, 43], lits := [], own := false, live := fun id => (Am.look [(0, [0, 2]), (1, [0, 2, 13]), (2, [2, 3, 4]), (3, [2, 5, 6, 7]), (4, [2, 5, 6, 22]), (5, [2, 3, 4]), (6, [2, 6, 7, 8]), (7, [2, 6, 8, 30]), (8, [2, 3, 4]), (9, [2, 6, 7, 8, 9]), (10, [2, 6, 8, 9, 39]), (11, [2, 3, 4]), (12, [2, 6, 7, 8, 10]), (13, [2, 6, 8, 10, 47]), (14, [2, 3, 4]), (15, [2, 8, 10, 50]), (16, [2, 3, 4]), (17, [2, 3, 4])] id).getD [] }
def hint11 : Hint := { nv := 2, objs := [], keep := [], lits := [8, 10], own := false, live := fun id => (Am.look [(0, [0]), (1, [0, 1]), (2, [0])] id).getD [] }
def hint12 : Hint := { nv := 9, objs := [], keep := [12, 22, 25], lits := [], own := false, live := fun id => (Am.look [(0, [2, 3, 4]), (1, [2, 4, 6, 7, 8]), (2, [2, 4, 6, 7, 8, 17]), (3, [4, 5]), (4, [4, 5])] id).getD [] }
def hint13 : Hint := { nv := 12, objs := [], keep := [14, 34, 37, 48, 57], lits := [], own := false, live := fun id => (Am.look [(0, [2, 3]), (1, [2, 3, 12]), (2, [4, 5, 6]), (3, [2, 3, 17]), (4, [4, 5, 6]), (5, [2, 3, 22]), (6, [4, 5, 6]), (7, [2, 3, 7, 8, 9]), (8, [2, 3, 7, 8, 42]), (9, [4, 5, 6]), (10, [7, 8, 9, 10, 11]), (11, [7, 10, 59]), (12, [4, 5, 6]), (13, [4, 5, 6])] id).getD [] }
def hint14 : Hint := { nv := 8, objs := [], keep := [11], lits := [], own := false, live := fun id => (Am.look [(0, [2, 3]), (1, [7]), (2, [4])] id).getD [] }
def hint15 : Hint := { nv := 6, objs := [], keep := [], lits := [], own := false, live := fun id => (Am.look [(0, [0, 1]), (1, [0, 1, 10]), (2, [4]), (3, [0, 1, 5]), (4, [0, 1, 5, 14]), (5, [0, 1, 5]), (6, [0, 1, 5, 25]), (7, [4]), (8, [4])] id).getD [] }
def hint16 : Hint := { nv := 6, objs := [], keep := [25], lits := [], own := false, live := fun id => (Am.look [(0, [0, 1]), (1, [0, 1, 10]), (2, [4]), (3, [0, 1, 5]), (4, [0, 1, 5, 14]), (5, [0, 1, 5]), (6, [0, 1, 5, 26]), (7, [4]), (8, [4])] id).getD [] }
def hint17 : Hint := { nv := 8, objs := [5], keep := [18, 23], lits := [], own := false, live := fun id => (Am.look [(0, [0, 1]), (1, [0, 1, 5]), (2, [1, 5]), (3, [5, 10, 11, 12]), (4, [5, 10, 11, 12, 13]), (5, [5, 7, 10, 11, 12]), (6, [5, 10, 11, 12]), (7, [5, 10, 11, 12]), (8, [5]), (9, [4])] id).getD [], ext := some Go.Tr7.extLine, pan := [6] }
def hint18 : Hint := { nv := 7, objs := [], keep := [9], lits := [], own := false, live := fun id => (Am.look [(0, [0, 1]), (1, [4, 5, 6])] id).getD [] }
def hint19 : Hint := { nv := 17, objs := [], keep := [18, 33, 39, 44], lits := [61], own := false, live := fun id => (Am.look [(0, [0, 1]), (1, [0, 6]), (2, [6, 23]), (3, [4, 5]), (4, [6, 7]), (5, [7, 25, 26, 27]), (6, [7, 25, 26, 27, 28]), (7, [7, 9, 25, 26, 27]), (8, [7, 10, 11, 12, 25, 26, 27]), (9, [7, 11, 12, 13, 14, 25, 26, 27]), (10, [7, 12, 13, 14, 15, 16, 25, 26, 27]), (11, [7, 13, 15, 25, 26, 27, 56]), (12, [4, 5]), (13, [7, 25, 26, 27]), (14, [7, 25, 26, 27]), (15, [4, 5])] id).getD [] }
def hint20 : Hint := { nv := 7, objs := [], keep := [21, 29], lits := [], own := false, live := fun id => (Am.look [(0, [0, 1]), (1, [1, 5]), (2, [1, 5, 6]), (3, [1, 5, 6, 11]), (4, [1, 5, 6]), (5, [1, 5, 6]), (6, [4])] id).getD [] }
def hint21 : Hint := { nv := 8, objs := [], keep := [], lits := [], own := false, live := fun id => (Am.look [(0, [0, 1]), (1, [0, 1, 7]), (2, [0, 1, 7, 11]), (3, [0, 1, 7]), (4, [0, 1, 7, 18]), (5, [4, 5, 6]), (6, [4, 5, 6])] id).getD [] }
def hint22 : Hint := { nv := 17, objs := [], keep := [19, 29, 35, 41, 46], lits := [63], own := false, live := fun id => (Am.look [(0, [0, 1]), (1, [1, 6, 7, 8]), (2, [7, 8, 25]), (3, [4, 5]), (4, [7, 8, 9]), (5, [7, 9, 26]), (6, [6, 7, 8, 9]), (7, [7, 8, 9, 10, 11, 12]), (8, [7, 8, 9, 11, 12, 13, 14]), (9, [7, 8, 9, 12, 13, 14, 15, 16]), (10, [7, 8, 9, 13, 15, 58]), (11, [4, 5]), (12, [7, 8, 9]), (13, [4, 5])] id).getD [] }
def hint23 : Hint := { nv := 10, objs := [], keep := [19], lits := [24], own := false, live := fun id => (Am.look [(0, [1, 2]), (1, [1, 2, 5]), (2, [2, 5, 10, 11, 12]), (3, [2, 5, 10, 11, 12, 13]), (4, [2, 5, 7, 10, 11, 12]), (5, [2, 5, 8, 10, 11, 12]), (6, [2, 5, 10, 11, 12]), (7, [2, 5, 10, 11, 12]), (8, [4])] id).getD [] }
def hint24 : Hint := { nv := 4, objs := [2], keep := [], lits := [], own := false, live := fun id => (Am.look [(0, [1, 2]), (1, [1, 2]), (2, [1, 2, 3]), (3, [1, 2, 3]), (4, [1, 2, 3]), (5, [2]), (6, [2])] id).getD [], pan := [3, 4, 5], rcv := true }
def hint25 : Hint := { nv := 12, objs := [13], keep := [], lits := [], own := false, live := fun id => (Am.look [(0, [1, 2, 3, 20]), (1, [1, 2, 3, 9, 20]), (2, [1, 2, 3, 9, 10, 20]), (3, [2, 9, 10, 19, 20]), (4, [2, 9, 10, 11, 20]), (5, [2, 9, 10, 20]), (6, [2, 9, 31]), (7, [6, 7, 8]), (8, [6, 7, 8])] id).getD [], self := 25 }
def hint26 : Hint := { nv := 12, objs := [], keep := [33], lits := [], own := false, live := fun id => (Am.look [(0, [1]), (1, [1, 3]), (2, [1, 3, 15]), (3, [2]), (4, [1, 3, 4]), (5, [1, 3, 4, 23, 24, 25]), (6, [1, 3, 4, 23, 24, 25, 26]), (7, [1, 3, 4, 5, 6, 23, 24, 25]), (8, [1, 3, 4, 5, 6, 23, 24, 25, 33, 34]), (9, [1, 3, 4, 5, 6, 23, 24, 25, 33, 34, 35]), (10, [1, 3, 4, 5, 6, 7, 23, 24, 25, 33, 34]), (11, [1, 3, 4, 5, 6, 23, 24, 25, 33, 34]), (12, [1, 3, 4, 5, 6, 23, 24, 25, 33, 34]), (13, [1, 3, 4, 23, 24, 25]), (14, [1, 3, 4, 56, 57, 58]), (15, [1, 3, 4, 56, 57, 58, 59]), (16, [1, 3, 4, 8, 9, 56, 57, 58]), (17, [1, 3, 4, 8, 56, 57, 58, 69, 70, 71]), (18, [1, 3, 4, 8, 56, 57, 58, 69, 70, 71, 72]), (19, [1, 3, 4, 8, 10, 11, 56, 57, 58, 69, 70, 71]), (20, [1, 3, 4, 8, 56, 57, 58, 69, 70, 71]), (21, [1, 3, 4, 8, 56, 57, 58, 69, 70, 71]), (22, [1, 3, 4, 56, 57, 58]), (23, [2])] id).getD [] }
def hint27 : Hint := { nv := 6, objs := [], keep := [], lits := [], own := false, live := fun id => (Am.look [(0, [0, 1]), (1, [0, 1, 10]), (2, [4]), (3, [0, 1, 12, 13]), (4, [0, 1, 12, 13, 14]), (5, [0, 1, 5, 12, 13]), (6, [0, 1, 12, 13, 24]), (7, [4]), (8, [0, 1, 12, 13]), (9, [4])] id).getD [] }
def hint28 : Hint := { nv := 6, objs := [], keep := [], lits := [], own := false, live := fun id => (Am.look [(0, [0, 1]), (1, [0, 1, 10]), (2, [4]), (3, [0, 1, 5]), (4, [0, 1, 5, 14]), (5, [0, 1, 5]), (6, [0, 1, 5, 25]), (7, [4]), (8, [4])] id).getD [] }
def hint33 : Hint := { nv := 8, objs := [], keep := [10], lits := [], own := false, live := fun id => (Am.look [(0, [0, 1]), (1, [0, 1, 7]), (2, [0, 1, 7, 12]), (3, [4, 5, 6]), (4, [4, 5, 6])] id).getD [] }
def hint34 : Hint := { nv := 4, objs := [], keep := [7], lits := [], own := false, live := fun id => (Am.look [(0, [0, 1]), (1, [4])] id).getD [] }
def hint35 : Hint := { nv := 6, objs := [], keep := [16, 21], lits := [15], own := false, live := fun id => (Am.look [(0, [0]), (1, [0, 4, 5]), (2, [4, 24]), (3, [2, 3]), (4, [2, 3])] id).getD [], ext := some Go.Tr7.extNum, pan := [1, 2] }
def hint36 : Hint := { nv := 6, objs := [], keep := [], lits := [18], own := false, live := fun id => (Am.look [(0, [0]), (1, [0, 3]), (2, [0, 3, 4]), (3, [0, 3, 4, 8]), (4, [0, 3, 4, 5]), (5, [0, 3, 4, 5, 12]), (6, [0, 3, 4, 5]), (7, [0, 3, 4]), (8, [0, 3, 4]), (9, [0, 3, 25]), (10, [2]), (11, [3, 27]), (12, [2]), (13, [2])] id).getD [] }
def hint37 : Hint := { nv := 7, objs := [], keep := [51, 56], lits := [], own := false, live := fun id => (Am.look [(0, [0]), (1, [0, 4]), (2, [0, 4, 5]), (3, [0, 4, 5, 6]), (4, [0, 4, 5, 6, 10]), (5, [0, 4, 5, 6]), (6, [0, 4, 5, 6, 26]), (7, [0, 4, 5, 6]), (8, [0, 4, 5, 6]), (9, [0, 4, 5, 44]), (10, [0, 4, 5]), (11, [4, 59]), (12, [2, 3]), (13, [2, 3])] id).getD [] }
def hint38 : Hint := { nv := 12, objs := [], keep := [13, 18, 22, 35], lits := [], own := false, live := fun id => (Am.look [(0, [1, 2]), (1, [1, 2, 15]), (2, [4, 5]), (3, [1, 2, 19]), (4, [4, 5]), (5, [2, 6, 7]), (6, [6, 7, 24, 25, 26]), (7, [6, 7, 24, 25, 26, 27]), (8, [6, 7, 8, 9, 24, 25, 26]), (9, [6, 7, 8, 10, 11, 24, 25, 26]), (10, [6, 7, 8, 24, 25, 26, 43]), (11, [6, 7, 24, 25, 26]), (12, [6, 7, 24, 25, 26]), (13, [4, 5])] id).getD [] }
def hint39 : Hint := { nv := 4, objs := [], keep := [], lits := [], own := false, live := fun id => (Am.look [(0, [0, 1]), (1, [0, 1, 6]), (2, [0, 1, 2, 3]), (3, [0, 1, 2, 13]), (4, [0, 2]), (5, [])] id).getD [], pan := [4] }
def hint40 : Hint := { nv := 12, objs := [], keep := [15, 20, 37, 53, 65, 81], lits := [], own := false, live := fun id => (Am.look [(0, [1, 2]), (1, [1, 2, 4, 5]), (2, [1, 2]), (3, [1, 2, 22, 23, 24]), (4, [1, 2, 22, 23, 24, 25]), (5, [1, 2, 7, 22, 23, 24]), (6, [1, 2, 22, 23, 24]), (7, [1, 2, 22, 23, 24]), (8, [1, 2, 4, 5]), (9, [1, 2, 4, 5, 41, 42, 43]), (10, [1, 2, 4, 5, 41, 42, 43, 44]), (11, [1, 2, 4, 5, 8, 9, 41, 42, 43]), (12, [1, 2, 4, 5, 8, 9, 41, 42, 43, 50]), (13, [1, 2, 4, 5, 8, 9, 41, 42, 43]), (14, [1, 2, 4, 5, 41, 42, 43]), (15, [1, 2, 4, 5, 41, 42, 43]), (16, [1, 2, 4, 5]), (17, [1, 4, 5, 69, 70, 71]), (18, [1, 4, 5, 69, 70, 71, 72]), (19, [1, 4, 5, 10, 11, 69, 70, 71]), (20, [1, 4, 5, 10, 11, 69, 70, 71, 78]), (21, [1, 4, 5, 10, 11, 69, 70, 71]), (22, [1, 4, 5, 69, 70, 71]), (23, [1, 4, 5, 69, 70, 71])] id).getD [], pan := [2, 13, 14, 21, 22] }
def hint41 : Hint := { nv := 18, objs := [], keep := [49, 54, 55, 65, 86, 91, 104], lits := [], own := false, live := fun id => (Am.look [(0, [1, 2]), (1, [1, 2, 4]), (2, [1, 2, 4, 20]), (3, [1, 2, 4, 20, 22]), (4, [1, 2, 4, 5, 20]), (5, [1, 2, 4, 20]), (6, [1, 2, 4, 28, 29, 30]), (7, [1, 2, 4, 28, 29, 30, 31]), (8, [1, 2, 4, 7, 28, 29, 30]), (9, [1, 2, 4, 28, 29, 30]), (10, [1, 2, 4, 28, 29, 30]), (11, [1, 2, 4, 39, 40, 41]), (12, [1, 2, 4, 39, 40, 41, 42]), (13, [1, 2, 4, 8, 9, 39, 40, 41]), (14, [1, 2, 4, 8, 9, 39, 40, 41, 47]), (15, [1, 2, 4, 8, 9, 39, 40, 41]), (16, [1, 2, 4, 8, 9, 10, 11, 12, 39, 40, 41]), (17, [1, 2, 4, 8, 9, 39, 40, 41]), (18, [1, 2, 4, 8, 9, 39, 40, 41]), (19, [1, 2, 4, 8, 39, 40, 41, 72, 73, 74]), (20, [1, 2, 4, 8, 39, 40, 41, 72, 73, 74, 75]), (21, [1, 2, 4, 8, 13, 14, 39, 40, 41, 72, 73, 74]), (22, [1, 2, 4, 8, 13, 39, 40, 41, 72, 73, 74, 82]), (23, [1, 2, 4, 8, 39, 40, 41, 72, 73, 74]), (24, [1, 2, 4, 8, 39, 40, 41, 72, 73, 74]), (25, [1, 2, 4, 39, 40, 41]), (26, [2, 15, 17]), (27, [2, 100]), (28, [])] id).getD [], pan := [15, 17, 18, 23, 28] }
def hint42 : Hint := { nv := 9, objs := [], keep := [10, 23, 27, 30, 40, 45, 49], lits := [], own := false, live := fun id => (Am.look [(0, [1, 2]), (1, [1, 2, 4]), (2, [1, 4, 12, 13, 14]), (3, [1, 4, 12, 13, 14, 15]), (4, [1, 4, 5, 6, 12, 13, 14]), (5, [1, 4, 5, 6, 12, 13, 14, 19]), (6, [1, 4, 5, 6, 12, 13, 14]), (7, [1, 4, 5, 6, 12, 13, 14, 24]), (8, [1, 4, 5, 6, 12, 13, 14]), (9, [1, 4, 5, 6, 12, 13, 14]), (10, [1, 4, 5, 7, 8, 12, 13, 14]), (11, [1, 4, 5, 7, 12, 13, 14]), (12, [1, 4, 5, 12, 13, 14, 47]), (13, [1, 4, 12, 13, 14]), (14, [1, 4, 12, 13, 14])] id).getD [], pan := [6, 8, 9, 11, 13] }
def hint43 : Hint := { nv := 4, objs := [], keep := [10], lits := [], own := false, live := fun id => (Am.look [(0, [])] id).getD [] }
def hint44 : Hint := { nv := 6, objs := [3, 4, 5], keep := [], lits := [], own := false, live := fun id => (Am.look [(0, [3, 4, 5]), (1, [6])] id).getD [] }
def hint45 : Hint := { nv := 2, objs := [13], keep := [4, 8, 11], lits := [], own := false, live := fun id => (Am.look [(0, [1]), (1, [1, 6]), (2, [2]), (3, [2])] id).getD [] }
def hint46 : Hint := { nv := 7, objs := [], keep := [14], lits := [], own := false, live := fun id => (Am.look [(0, [1, 2]), (1, [1, 2, 9]), (2, [4]), (3, [5]), (4, [4])] id).getD [] }
def hint49 : Hint := { nv := 14, objs := [], keep := [30, 47, 71, 105, 112, 137], lits := [], own := false, live := fun id => (Am.look [(0, [0, 1]), (1, [0, 1, 5]), (2, [0, 1, 5, 16]), (3, [4]), (4, [0, 1, 5, 24]), (5, [4]), (6, [0, 1, 5, 31]), (7, [4]), (8, [0, 1, 5, 36]), (9, [4]), (10, [0, 1, 5, 6]), (11, [0, 1, 5, 6, 7]), (12, [0, 1, 5, 6, 7, 8]), (13, [0, 1, 5, 6, 7, 8, 9]), (14, [0, 1, 5, 6, 7, 8, 9, 10]), (15, [0, 1, 5, 6, 7, 8, 9, 10, 59]), (16, [0, 1, 5, 6, 7, 8, 9, 10, 64]), (17, [0, 1, 5, 6, 7, 8, 9, 10, 11]), (18, [0, 1, 5, 6, 7, 8, 9, 10, 11, 73]), (19, [4]), (20, [0, 1, 5, 6, 7, 8, 9, 10]), (21, [0, 1, 5, 6, 7, 8, 9, 10, 93]), (22, [4]), (23, [0, 1, 5, 6, 7, 8, 9, 10]), (24, [0, 1, 5, 6, 7, 8, 9, 10]), (25, [0, 1, 5, 6, 7, 8, 9, 10, 107]), (26, [8, 12]), (27, [8, 12, 114]), (28, [4]), (29, [4]), (30, [0, 1, 5, 6, 7, 8, 9, 10, 132]), (31, [8, 13]), (32, [8, 13, 139]), (33, [4]), (34, [4]), (35, [4])] id).getD [], gl := glob }
def hint50 : Hint := { nv := 12, objs := [], keep := [18, 23, 39], lits := [], own := false, live := fun id => (Am.look [(0, [0, 1, 2, 3]), (1, [0, 1, 2, 3, 13]), (2, [8]), (3, [0, 1, 2, 3, 15]), (4, [8]), (5, [0, 1, 2, 3, 20]), (6, [0, 1, 2, 3]), (7, [0, 1, 2, 3]), (8, [0, 1, 2, 3, 9]), (9, [0, 1, 2, 3, 9]), (10, [0, 1, 2, 3, 9, 10]), (11, [0, 1, 2, 3, 9, 10, 36]), (12, [0, 1, 2, 3, 9, 10, 11]), (13, [0, 1, 2, 3, 9, 10, 11, 41]), (14, [0, 1, 2, 3, 9, 10, 11]), (15, [0, 1, 2, 3, 9, 10]), (16, [0, 1, 2, 3, 9, 10]), (17, [9, 10]), (18, [8])] id).getD [] }
def hint52 : Hint := { nv := 5, objs := [], keep := [], lits := [], own := false, live := fun id => (Am.look [(0, [0]), (1, [5, 6, 7]), (2, [5, 6, 7, 8]), (3, [4, 5, 6, 7]), (4, [5, 6, 7, 16]), (5, [2]), (6, [5, 6, 7]), (7, [2])] id).getD [] }
def hint53 : Hint := { nv := 2, objs := [], keep := [], lits := [], own := false, live := fun id => (Am.look [(0, [0]), (1, [2])] id).getD [] }
def hint54 : Hint := { nv := 6, objs := [], keep := [], lits := [], own := false, live := fun id => (Am.look [(0, [1, 2]), (1, [1, 5]), (2, [4])] id).getD [] }
def hint55 : Hint := { nv := 19, objs := [], keep := [67, 70, 180], lits := [94], own := false, live := fun id => (Am.look [(0, [1, 2, 3, 6]), (1, [1, 2, 3, 6, 7]), (2, [1, 2, 3, 6, 7, 41]), (3, [6]), (4, [1, 2, 3, 6, 7, 8]), (5, [1, 2, 3, 6, 7, 8, 44, 45, 46]), (6, [1, 2, 3, 6, 7, 8, 44, 45, 46, 47]), (7, [1, 2, 3, 6, 7, 8, 9, 10, 44, 45, 46]), (8, [1, 2, 3, 6, 7, 8, 10, 11, 44, 45, 46]), (9, [1, 2, 3, 6, 7, 8, 44, 45, 46]), (10, [1, 2, 3, 6, 7, 8, 44, 45, 46]), (11, [1, 2, 3, 6, 7, 8, 77, 78]), (12, [1, 2, 3, 6, 7, 8, 77, 78, 79]), (13, [1, 2, 3, 6, 7, 8, 12, 77, 78]), (14, [1, 2, 3, 6, 7, 8, 77, 78]), (15, [1, 2, 3, 6, 7, 8, 77, 78]), (16, [1, 2, 3, 6, 7, 8, 99, 100, 101]), (17, [1, 2, 3, 6, 7, 8, 99, 100, 101, 102]), (18, [1, 2, 3, 6, 7, 8, 14, 99, 100, 101]), (19, [1, 2, 3, 6, 7, 8, 99, 100, 101]), (20, [1, 2, 3, 6, 7, 8, 99, 100, 101]), (21, [1, 2, 3, 6, 7, 8, 117, 118, 119]), (22, [1, 2, 3, 6, 7, 8, 117, 118, 119, 120]), (23, [1, 2, 3, 6, 7, 8, 15, 16, 117, 118, 119]), (24, [1, 2, 3, 6, 7, 8, 117, 118, 119]), (25, [1, 2, 3, 6, 7, 8, 117, 118, 119]), (26, [1, 2, 3, 6, 7, 8, 147]), (27, [1, 3, 6, 8, 17, 18]), (28, [1, 3, 6, 8, 17, 18]), (29, [6, 8]), (30, [6])] id).getD [] }
def hint56 : Hint := { nv := 7, objs := [3, 8, 6], keep := [], lits := [], own := false, live := fun id => (Am.look [(0, [0, 3]), (1, [0, 3, 6]), (2, [4, 5])] id).getD [] }
def hint57 : Hint := { nv := 2, objs := [1], keep := [], lits := [], own := false, live := fun id => (Am.look [(0, [1]), (1, [2, 3])] id).getD [] }
def hint58 : Hint := { nv := 8, objs := [], keep := [], lits := [], own := false, live := fun id => (Am.look [(0, [0, 1, 2, 3, 9]), (1, [])] id).getD [], pan := [1] }
def hint59 : Hint := { nv := 6, objs := [3, 4], keep := [], lits := [], own := false, live := fun id => (Am.look [(0, [2, 3, 4]), (1, [6, 7])] id).getD [] }
def hint60 : Hint := { nv := 8, objs := [], keep := [13], lits := [], own := false, live := fun id => (Am.look [(0, [0, 1, 2, 3, 10]), (1, [0, 1]), (2, [])] id).getD [], pan := [1] }
def hint61 : Hint := { nv := 4, objs := [2, 3], keep := [], lits := [], own := false, live := fun id => (Am.look [(0, [2, 3]), (1, [4, 5])] id).getD [] }
def hint62 : Hint := { nv := 15, objs := [12], keep := [17, 24, 33, 46], lits := [], own := false, live := fun id => (Am.look [(0, [2, 3]), (1, [2, 3, 7]), (2, [2, 3, 7, 19]), (3, [4, 5, 6]), (4, [2, 3, 8, 9]), (5, [2, 3, 8, 9, 28]), (6, [4, 5, 6]), (7, [2, 10]), (8, [2, 10, 35, 36, 37]), (9, [2, 10, 35, 36, 37, 38]), (10, [2, 10, 11, 12, 35, 36, 37]), (11, [2, 10, 11, 12, 13, 14, 35, 36, 37]), (12, [2, 10, 11, 12, 13, 14, 35, 36, 37, 50]), (13, [4, 5, 6]), (14, [2, 10, 11, 35, 36, 37, 60]), (15, [4, 5, 6]), (16, [2, 10, 35, 36, 37]), (17, [4, 5, 6])] id).getD [], emp := [33] }
def hint63 : Hint := { nv := 6, objs := [], keep := [30, 32], lits := [], own := false, live := fun id => (Am.look [(0, [1, 2, 4]), (1, [1, 2, 4, 5]), (2, [1, 2, 4, 5, 23]), (3, [4, 5]), (4, [4])] id).getD [], emp := [30] }
def hint64 : Hint := { nv := 15, objs := [], keep := [26, 56], lits := [], own := false, live := fun id => (Am.look [(0, [1]), (1, [1, 5, 6, 7]), (2, [1, 5, 6, 7, 16, 17, 18]), (3, [1, 5, 6, 7, 16, 17, 18, 19]), (4, [1, 5, 6, 7, 9, 16, 17, 18]), (5, [1, 5, 6, 7, 16, 17, 18]), (6, [1, 5, 6, 7, 16, 17, 18]), (7, [1, 5, 6, 7, 30, 31, 32]), (8, [1, 5, 6, 7, 30, 31, 32, 33]), (9, [1, 5, 6, 7, 11, 30, 31, 32]), (10, [1, 5, 6, 7, 30, 31, 32]), (11, [1, 5, 6, 7, 30, 31, 32]), (12, [1, 5, 6, 7, 45, 46, 47]), (13, [1, 5, 6, 7, 45, 46, 47, 48]), (14, [1, 5, 6, 7, 13, 45, 46, 47]), (15, [1, 5, 6, 7, 13, 14, 45, 46, 47]), (16, [1, 5, 6, 7, 13, 14, 45, 46, 47]), (17, [1, 5, 6, 7, 13, 14, 45, 46, 47]), (18, [1, 5, 6, 7, 45, 46, 47]), (19, [1, 5, 6, 7, 45, 46, 47]), (20, [2, 3, 4])] id).getD [] }
def hint65 : Hint := { nv := 5, objs := [], keep := [16], lits := [], own := false, live := fun id => (Am.look [(0, [0]), (1, [0, 25]), (2, [2]), (3, [0, 26, 27]), (4, [0, 26, 27, 28]), (5, [0, 4, 26, 27]), (6, [0, 26, 27, 32]), (7, [2]), (8, [0, 26, 27]), (9, [2])] id).getD [], gl := glob }
def hint66 : Hint := { nv := 7, objs := [3, 8, 6], keep := [], lits := [], own := false, live := fun id => (Am.look [(0, [0, 3]), (1, [0, 3, 6]), (2, [4, 5])] id).getD [] }
def hint67 : Hint := { nv := 2, objs := [], keep := [], lits := [], own := true, live := fun id => (Am.look [(0, [0]), (1, [0, 4]), (2, [2]), (3, [2])] id).getD [], nilt := 1 }
def hint68 : Hint := { nv := 9, objs := [6], keep := [21], lits := [], own := false, live := fun id => (Am.look [(0, [0, 2, 3, 9, 10, 11]), (1, [0, 2, 3, 9, 10, 11, 12]), (2, [0, 2, 3, 6, 9, 10, 11]), (3, [0, 2, 3, 6, 9, 10, 11, 18]), (4, [0, 2, 3, 6, 7, 9, 10, 11]), (5, [0, 2, 3, 7, 8, 9, 10, 11]), (6, [0, 2, 3, 7, 8, 9, 10, 11, 26]), (7, [0, 2, 3, 9, 10, 11]), (8, [0, 2, 3, 9, 10, 11]), (9, [])] id).getD [] }
def hint69 : Hint := { nv := 7, objs := [], keep := [], lits := [], own := false, live := fun id => (Am.look [(0, [1, 2]), (1, [1, 5, 6]), (2, [1, 5, 14]), (3, [4]), (4, [4])] id).getD [] }
def hint70 : Hint := { nv := 6, objs := [], keep := [], lits := [], own := false, live := fun id => (Am.look [(0, [0, 1]), (1, [0, 1, 7, 8]), (2, [0, 1, 7, 8, 9]), (3, [0, 1, 5, 7, 8]), (4, [0, 1, 5, 7, 8, 16]), (5, [4]), (6, [0, 1, 7, 8]), (7, [4])] id).getD [] }
def hint71 : Hint := { nv := 3, objs := [], keep := [], lits := [], own := false, live := fun id => (Am.look [(0, [1, 2]), (1, [3])] id).getD [] }
def hint72 : Hint := { nv := 5, objs := [], keep := [6, 11], lits := [], own := false, live := fun id => (Am.look [(0, [1, 2]), (1, [1, 2, 7]), (2, [2]), (3, [2, 3]), (4, [2])] id).getD [] }
def hint73 : Hint := { nv := 2, objs := [], keep := [], lits := [], own := false, live := fun id => (Am.look [(0, [1]), (1, [2])] id).getD [] }
def hint74 : Hint := { nv := 4, objs := [], keep := [], lits := [], own := false, live := fun id => (Am.look [(0, [0, 1]), (1, [0, 1, 31]), (2, [4, 5]), (3, [4, 5])] id).getD [] }
def hint77 : Hint := { nv := 4, objs := [], keep := [7], lits := [], own := false, live := fun id => (Am.look [(0, [0, 1]), (1, [4])] id).getD [] }
def hint78 : Hint := { nv := 2, objs := [], keep := [], lits := [], own := false, live := fun id => (Am.look [] id).getD [] }
def hint79 : Hint := { nv := 2, objs := [], keep := [], lits := [], own := false, live := fun id => (Am.look [(0, [0]), (1, [2])] id).getD [] }
def hint80 : Hint := { nv := 11, objs := [], keep := [13], lits := [], own := false, live := fun id => (Am.look [(0, [0, 1]), (1, [0, 1, 5, 6]), (2, [0, 1, 5, 6, 7]), (3, [0, 1, 5, 6, 7, 8]), (4, [0, 1, 5, 6, 7, 8, 9]), (5, [0, 1, 5, 6, 7, 8, 9, 20]), (6, [0, 1, 5, 6, 7, 8, 9]), (7, [0, 1, 5, 6, 7, 8, 9]), (8, [0, 1, 5, 6, 7, 8, 39]), (9, [4]), (10, [0, 1, 5, 6, 7, 8, 10]), (11, [0, 1, 5, 6, 7, 8, 10, 44]), (12, [0, 1, 5, 6, 7, 8, 10]), (13, [0, 1, 5, 6, 7, 8, 10]), (14, [0, 1, 5, 6, 7, 8, 10]), (15, [0, 1, 5, 6, 7, 8, 10]), (16, [0, 1, 5, 6, 7, 8, 10, 77]), (17, [4]), (18, [4])] id).getD [] }
def hint81 : Hint := { nv := 10, objs := [], keep := [11, 30], lits := [], own := false, live := fun id => (Am.look [(0, [0, 1]), (1, [0, 1, 5]), (2, [0, 1, 5, 18]), (3, [0, 1]), (4, [0, 1, 6]), (5, [0, 1, 6, 7]), (6, [0, 1, 6, 7, 25]), (7, [0, 1, 6, 7]), (8, [0, 1, 6, 7, 9]), (9, [0, 1, 6, 7, 9]), (10, [0, 1, 6, 7]), (11, [0, 1, 6, 43]), (12, [6]), (13, [4])] id).getD [] }
def hint82 : Hint := { nv := 7, objs := [], keep := [11, 19, 22], lits := [], own := false, live := fun id => (Am.look [(0, [0, 1]), (1, [0, 1, 9]), (2, [4]), (3, [0, 1, 15]), (4, [4]), (5, [0, 1, 5]), (6, [0, 1, 5, 6]), (7, [0, 1, 5, 6, 24]), (8, [4]), (9, [0, 1, 5, 6]), (10, [0, 1, 5])] id).getD [] }
def hint83 : Hint := { nv := 4, objs := [], keep := [7], lits := [], own := false, live := fun id => (Am.look [(0, [0, 1]), (1, [4])] id).getD [] }
def hint86 : Hint := { nv := 8, objs := [], keep := [], lits := [], own := false, live := fun id => (Am.look [(0, [0, 1]), (1, [0, 1, 15]), (2, [4]), (3, [0, 1, 21, 22]), (4, [0, 1, 21, 22, 23]), (5, [0, 1, 5, 21, 22]), (6, [0, 1, 21, 22, 29]), (7, [4]), (8, [0, 1, 21, 22]), (9, [0, 31, 32, 33]), (10, [0, 31, 32, 33, 34]), (11, [0, 6, 7, 31, 32, 33]), (12, [0, 31, 32, 33, 59]), (13, [4]), (14, [0, 31, 32, 33]), (15, [4])] id).getD [] }
def hint87 : Hint := { nv := 13, objs := [], keep := [], lits := [], own := false, live := fun id => (Am.look [(0, [0, 1, 2, 3]), (1, [0, 1, 2, 3, 13]), (2, [8, 9]), (3, [0, 1, 2, 3, 17]), (4, [8, 9]), (5, [0, 1, 2, 3]), (6, [0, 2, 3, 25, 26, 27]), (7, [0, 2, 3, 25, 26, 27, 28]), (8, [0, 2, 3, 11, 25, 26, 27]), (9, [0, 2, 3, 12, 25, 26, 27]), (10, [0, 2, 3, 12, 25, 26, 27, 37]), (11, [8, 9]), (12, [0, 2, 3, 25, 26, 27]), (13, [0, 45]), (14, [8, 9]), (15, [8, 9])] id).getD [] }
def hint88 : Hint := { nv := 4, objs := [], keep := [], lits := [], own := false, live := fun id => (Am.look [(0, [1, 2, 3]), (1, [4, 5])] id).getD [] }
def hint89 : Hint := { nv := 12, objs := [], keep := [19, 49, 62, 74, 83, 114], lits := [], own := false, live := fun id => (Am.look [(0, [0, 4, 5]), (1, [0, 4, 5, 13]), (2, [0, 4, 5, 13, 14]), (3, [4, 9]), (4, [4, 23]), (5, [6, 7]), (6, [6, 7]), (7, [0, 4, 5, 13, 26]), (8, [0, 4, 5, 13, 26]), (9, [0, 4, 5, 39]), (10, [6, 7]), (11, [0, 4, 5, 42]), (12, [6, 7]), (13, [10, 11]), (14, [10, 66]), (15, [6, 7]), (16, [6, 7]), (17, [4, 5, 13, 68]), (18, [6, 7]), (19, [4, 5, 13, 77]), (20, [6, 7]), (21, [4, 5, 13, 86]), (22, [6, 7]), (23, [4, 5, 90]), (24, [4, 5, 103]), (25, [6, 7]), (26, [6, 7]), (27, [6, 7])] id).getD [] }
def hint90 : Hint := { nv := 8, objs := [], keep := [], lits := [], own := false, live := fun id => (Am.look [(0, [1, 2]), (1, [6, 7]), (2, [6, 24]), (3, [4, 5]), (4, [4, 5])] id).getD [] }
def hint91 : Hint := { nv := 14, objs := [], keep := [31], lits := [], own := false, live := fun id => (Am.look [(0, [0, 1, 2, 3]), (1, [0, 1, 2, 3, 10]), (2, [1, 2, 3, 10, 15, 16]), (3, [1, 2, 3, 10, 15, 16, 17]), (4, [1, 2, 3, 10, 11, 15, 16]), (5, [1, 2, 3, 10, 11, 12, 15, 16]), (6, [1, 2, 3, 10, 11, 12, 15, 16]), (7, [1, 2, 3, 10, 11, 12, 13, 15, 16]), (8, [1, 2, 3, 10, 11, 12, 15, 16, 25]), (9, [1, 2, 3, 10, 11, 12, 13, 15, 16]), (10, [1, 2, 3, 10, 11, 12, 15, 16, 29]), (11, [1, 2, 3, 10, 11, 12, 13, 15, 16]), (12, [1, 2, 3, 10, 11, 12, 15, 16, 33]), (13, [1, 2, 3, 10, 11, 12, 13, 15, 16]), (14, [1, 2, 3, 10, 11, 12, 13, 15, 16, 38]), (15, [8, 9]), (16, [1, 2, 3, 10, 15, 16]), (17, [1, 2, 3, 10, 15, 16]), (18, [8, 9])] id).getD [] }
def hint92 : Hint := { nv := 3, objs := [], keep := [], lits := [], own := false, live := fun id => (Am.look [(0, [0, 1]), (1, [3])] id).getD [] }
def hint93 : Hint := { nv := 3, objs := [], keep := [], lits := [], own := false, live := fun id => (Am.look [(0, [0, 1]), (1, [17]), (2, [3]), (3, [3])] id).getD [] }
def hint94 : Hint := { nv := 3, objs := [], keep := [], lits := [], own := false, live := fun id => (Am.look [(0, [0, 1]), (1, [3])] id).getD [] }
def hint95 : Hint := { nv := 8, objs := [], keep := [15, 21, 27, 36], lits := [], own := false, live := fun id => (Am.look [(0, [0, 1, 2]), (1, [2, 5]), (2, [2, 5, 23]), (3, [4]), (4, [5, 6, 7]), (5, [50]), (6, [4]), (7, [4])] id).getD [] }
def hint96 : Hint := { nv := 7, objs := [], keep := [10], lits := [], own := false, live := fun id => (Am.look [(0, [0, 1]), (1, [0, 6]), (2, [4])] id).getD [] }
def hint97 : Hint := { nv := 8, objs := [], keep := [19], lits := [], own := false, live := fun id => (Am.look [(0, [1, 2]), (1, [1, 2, 10]), (2, [4, 5]), (3, [6]), (4, [4, 5])] id).getD [] }
def hint98 : Hint := { nv := 4, objs := [], keep := [], lits := [], own := false, live := fun id => (Am.look [(0, [0, 1]), (1, [4])] id).getD [] }
def hint99 : Hint := { nv := 3, objs := [], keep := [], lits := [], own := false, live := fun id => (Am.look [(0, [0, 1]), (1, [3])] id).getD [] }
def hint100 : Hint := { nv := 6, objs := [], keep := [13, 32], lits := [], own := false, live := fun id => (Am.look [(0, [0, 1, 2]), (1, [2, 5]), (2, [5, 14]), (3, [4]), (4, [35]), (5, [4]), (6, [4])] id).getD [] }
def hint101 : Hint := { nv := 4, objs := [], keep := [8], lits := [], own := false, live := fun id => (Am.look [(0, [2, 3]), (1, [2, 3, 5]), (2, [4]), (3, [2, 10]), (4, [4]), (5, [2, 22]), (6, [4]), (7, [31]), (8, [4]), (9, [4])] id).getD [] }
def hint102 : Hint := { nv := 10, objs := [9], keep := [15], lits := [], own := false, live := fun id => (Am.look [(0, [2, 3]), (1, [2, 3, 6, 7]), (2, [2, 3, 6, 7, 19]), (3, [4, 5]), (4, [3, 23, 24, 25]), (5, [3, 23, 24, 25, 26]), (6, [3, 8, 9, 23, 24, 25]), (7, [3, 8, 9, 23, 24, 25, 32]), (8, [4, 5]), (9, [3, 8, 23, 24, 25, 37]), (10, [4, 5]), (11, [3, 23, 24, 25]), (12, [4, 5])] id).getD [] }
def hint103 : Hint := { nv := 4, objs := [], keep := [], lits := [], own := false, live := fun id => (Am.look [(0, [2, 3, 4]), (1, [3, 4]), (2, [4])] id).getD [] }
def hint104 : Hint := { nv := 14, objs := [], keep := [16, 27, 40, 49, 53], lits := [], own := false, live := fun id => (Am.look [(0, [3, 4, 5]), (1, [3, 5, 8]), (2, [3, 5, 8, 18]), (3, [6, 7]), (4, [3, 5, 23]), (5, [3, 5, 9]), (6, [3, 5, 9, 29]), (7, [6, 7]), (8, [3, 5, 10]), (9, [5, 10, 32, 33, 34]), (10, [5, 10, 32, 33, 34, 35]), (11, [5, 10, 11, 12, 32, 33, 34]), (12, [5, 10, 11, 12, 32, 33, 34, 43]), (13, [6, 7]), (14, [5, 10, 11, 12, 32, 33, 34]), (15, [5, 10, 11, 13, 32, 33, 34]), (16, [5, 10, 11, 13, 32, 33, 34, 55]), (17, [6, 7]), (18, [5, 10, 32, 33, 34]), (19, [6, 7])] id).getD [] }
def hint105 : Hint := { nv := 4, objs := [], keep := [], lits := [], own := false, live := fun id => (Am.look [(0, [0, 1]), (1, [4])] id).getD [] }
def hint106 : Hint := { nv := 3, objs := [], keep := [], lits := [], own := false, live := fun id => (Am.look [(0, [1, 2]), (1, [3])] id).getD [] }
def hint107 : Hint := { nv := 6, objs := [], keep := [8, 11, 14, 20, 31, 35], lits := [], own := false, live := fun id => (Am.look [(0, [1, 2]), (1, [1, 2]), (2, [1, 2]), (3, [1, 2, 3]), (4, [1, 2, 3, 23, 24, 25]), (5, [1, 2, 3, 23, 24, 25, 26]), (6, [1, 2, 3, 5, 23, 24, 25]), (7, [1, 2, 3, 5, 23, 24, 25]), (8, [1, 2, 3, 5, 23, 24, 25]), (9, [1, 2, 3, 23, 24, 25]), (10, [1, 2, 3, 23, 24, 25]), (11, [1, 2]), (12, [2])] id).getD [] }
def hint108 : Hint := { nv := 2, objs := [], keep := [], lits := [], own := false, live := fun id => (Am.look [(0, [0]), (1, [2])] id).getD [] }
def hint109 : Hint := { nv := 7, objs := [], keep := [], lits := [], own := false, live := fun id => (Am.look [(0, [0, 1]), (1, [0, 1, 8]), (2, [0, 1, 8, 9, 10]), (3, [0, 1, 5, 6, 8]), (4, [0, 1, 5, 8, 16]), (5, [4]), (6, [4])] id).getD [] }
def hint110 : Hint := { nv := 2, objs := [], keep := [4, 7], lits := [], own := false, live := fun id => (Am.look [(0, [0]), (1, [2])] id).getD [] }
def hint111 : Hint := { nv := 4, objs := [], keep := [], lits := [], own := false, live := fun id => (Am.look [(0, [1, 2, 3]), (1, [4, 5])] id).getD [] }
def hint112 : Hint := { nv := 14, objs := [], keep := [28, 20, 45], lits := [], own := false, live := fun id => (Am.look [(0, [0, 4, 5]), (1, [0, 4, 5, 8]), (2, [0, 4, 5, 8, 17]), (3, [6, 7]), (4, [0, 4, 5, 8, 17, 23]), (5, [10]), (6, [32]), (7, [6, 7]), (8, [6, 7]), (9, [0, 4, 5, 8, 17, 33]), (10, [0, 4, 5, 8]), (11, [0, 4, 5, 8, 17, 37]), (12, [0, 4, 5, 8, 37]), (13, [0, 4, 11, 12, 13]), (14, [0, 4, 11, 12, 49]), (15, [6, 7]), (16, [4, 11, 12, 52]), (17, [11, 52]), (18, [6, 7]), (19, [6, 7])] id).getD [] }
def hint113 : Hint := { nv := 8, objs := [], keep := [], lits := [], own := false, live := fun id => (Am.look [(0, [1, 2]), (1, [1, 2, 8, 9, 10]), (2, [1, 2, 8, 9, 10, 11]), (3, [1, 2, 7, 8, 9, 10]), (4, [1, 2, 8, 9, 10, 29]), (5, [4, 5]), (6, [1, 2, 8, 9, 10]), (7, [4, 5])] id).getD [] }
def hint114 : Hint := { nv := 8, objs := [], keep := [18], lits := [], own := false, live := fun id => (Am.look [(0, [1, 2]), (1, [1, 2, 6, 7]), (2, [4, 5])] id).getD [] }
def hint115 : Hint := { nv := 9, objs := [], keep := [41], lits := [], own := false, live := fun id => (Am.look [(0, [0, 1]), (1, [0, 1, 5]), (2, [0, 1, 5, 13, 14]), (3, [0, 1, 5, 13, 14, 15]), (4, [0, 1, 5, 6, 13, 14]), (5, [0, 1, 5, 6, 13, 14, 20, 21, 22]), (6, [0, 1, 5, 6, 13, 14, 20, 21, 22, 23]), (7, [0, 1, 5, 6, 7, 8, 13, 14, 20, 21, 22]), (8, [0, 1, 5, 6, 13, 14, 20, 21, 22]), (9, [0, 1, 5, 6, 13, 14, 20, 21, 22]), (10, [0, 1, 5, 13, 14]), (11, [1, 5, 38]), (12, [5]), (13, [4])] id).getD [] }
def hint116 : Hint := { nv := 2, objs := [], keep := [4], lits := [], own := false, live := fun id => (Am.look [(0, [1]), (1, [2])] id).getD [] }
def hint117 : Hint := { nv := 20, objs := [4, 5], keep := [32, 39, 76, 97, 126], lits := [40, 49, 83, 92, 127, 136, 44, 87, 131], own := false, live := fun id => (Am.look [(0, [1, 2]), (1, [1, 2, 4]), (2, [1, 2, 4, 5]), (3, [1, 2, 4, 5, 6]), (4, [1, 2, 4, 5, 6, 22, 23, 24]), (5, [1, 2, 4, 5, 6, 22, 23, 24, 25]), (6, [1, 2, 4, 5, 6, 7, 8, 22, 23, 24]), (7, [1, 2, 4, 5, 6, 7, 8, 9, 22, 23, 24]), (8, [1, 2, 4, 5, 6, 7, 8, 9, 22, 23, 24, 32, 33]), (9, [1, 2, 4, 5, 6, 7, 8, 9, 22, 23, 24, 32, 33, 34]), (10, [1, 2, 4, 5, 6, 7, 8, 9, 22, 23, 24, 32, 33]), (11, [1, 2, 4, 5, 6, 7, 8, 9, 22, 23, 24, 32, 33]), (12, [1, 2, 4, 5, 6, 22, 23, 24]), (13, [1, 2, 4, 5, 6, 22, 23, 24]), (14, [1, 2, 4, 5, 6, 54, 55, 56]), (15, [1, 2, 4, 5, 6, 54, 55, 56, 57]), (16, [1, 2, 4, 5, 6, 10, 11, 54, 55, 56]), (17, [1, 2, 4, 5, 6, 10, 11, 12, 54, 55, 56]), (18, [1, 2, 4, 5, 6, 10, 11, 12, 13, 54, 55, 56]), (19, [1, 2, 4, 5, 6, 10, 12, 13, 54, 55, 56, 78, 79]), (20, [1, 2, 4, 5, 6, 10, 12, 13, 54, 55, 56, 78, 79, 80]), (21, [1, 2, 4, 5, 6, 10, 12, 13, 54, 55, 56, 78, 79]), (22, [1, 2, 4, 5, 6, 10, 12, 13, 54, 55, 56, 78, 79]), (23, [1, 2, 4, 5, 6, 54, 55, 56]), (24, [1, 2, 4, 5, 6, 54, 55, 56]), (25, [1, 2, 4, 5, 6, 97, 98, 99]), (26, [1, 2, 4, 5, 6, 97, 98, 99, 100]), (27, [1, 2, 4, 5, 6, 14, 15, 97, 98, 99]), (28, [1, 2, 4, 5, 6, 14, 16, 97, 98, 99]), (29, [1, 2, 4, 5, 6, 14, 16, 17, 97, 98, 99]), (30, [1, 2, 4, 5, 6, 14, 17, 97, 98, 99, 116, 117, 118]), (31, [1, 2, 4, 5, 6, 14, 17, 97, 98, 99, 116, 117, 118, 119]), (32, [1, 2, 4, 5, 6, 14, 17, 19, 97, 98, 99, 116, 117, 118]), (33, [1, 2, 4, 5, 6, 14, 17, 97, 98, 99, 116, 117, 118]), (34, [1, 2, 4, 5, 6, 14, 17, 97, 98, 99, 116, 117, 118]), (35, [1, 2, 4, 5, 6, 97, 98, 99]), (36, [1, 2, 4, 5, 6, 97, 98, 99]), (37, [2, 3])] id).getD [], swp := fun id => Am.look [(12, .node 0 5 (.node 1 5 (.leaf) (.leaf)) (.leaf)), (23, .node 0 5 (.node 1 5 (.leaf) (.leaf)) (.leaf)), (35, .node 0 5 (.node 1 5 (.leaf) (.leaf)) (.leaf)), (37, .node 1 2 (.leaf) (.leaf))] id }
def hint118 : Hint := { nv := 2, objs := [], keep := [], lits := [], own := false, live := fun id => (Am.look [(0, [0]), (1, [2])] id).getD [], emp := [4] }
def hint119 : Hint := { nv := 2, objs := [1], keep := [], lits := [], own := false, live := fun id => (Am.look [(0, [1]), (1, [2])] id).getD [] }
def hint121 : Hint := { nv := 2, objs := [], keep := [], lits := [], own := false, live := fun id => (Am.look [] id).getD [] }
def hint122 : Hint := { nv := 9, objs := [], keep := [], lits := [], own := false, live := fun id => (Am.look [(0, [0]), (1, [0, 4]), (2, [0, 4, 5]), (3, [0, 4, 5, 12]), (4, [0, 4, 5]), (5, [0, 4, 5]), (6, [0, 4, 6, 7]), (7, [4, 6, 7, 8]), (8, [4, 6, 7, 8, 25]), (9, [4, 6, 7, 8]), (10, [4, 6, 7, 8, 30]), (11, [4, 6, 7, 8]), (12, [4, 6, 7, 8]), (13, [2, 3])] id).getD [] }
def hint123 : Hint := { nv := 3, objs := [], keep := [], lits := [], own := false, live := fun id => (Am.look [(0, [0, 2]), (1, [2, 4]), (2, [2, 4, 6]), (3, [2, 4]), (4, [2])] id).getD [] }
def hint124 : Hint := { nv := 4, objs := [], keep := [16], lits := [], own := false, live := fun id => (Am.look [(0, [0]), (1, [0, 10]), (2, [2, 3]), (3, [2, 3])] id).getD [] }
def hint125 : Hint := { nv := 2, objs := [], keep := [], lits := [], own := false, live := fun id => (Am.look [] id).getD [] }
def hint131 : Hint := { nv := 13, objs := [], keep := [34], lits := [], own := false, live := fun id => (Am.look [(0, [0, 1, 2]), (1, [0, 1, 2, 7]), (2, [0, 1, 2, 7, 8, 9]), (3, [7, 8, 9, 10]), (4, [8, 9, 10, 70]), (5, [6]), (6, [8, 9, 10, 72, 73, 74]), (7, [8, 9, 10, 72, 73, 74, 75]), (8, [8, 9, 10, 11, 12, 72, 73, 74]), (9, [8, 9, 10, 72, 73, 74, 104]), (10, [6]), (11, [8, 9, 10, 72, 73, 74]), (12, [6])] id).getD [] }
def hint132 : Hint := { nv := 0, objs := [], keep := [], lits := [], own := false, live := fun id => (Am.look [(0, []), (1, [0])] id).getD [] }
def hint133 : Hint := { nv := 14, objs := [], keep := [], lits := [84], own := false, live := fun id => (Am.look [(0, [0, 2, 3, 5]), (1, [0, 2, 3, 5, 9]), (2, [0, 2, 3, 5, 9, 21]), (3, [8]), (4, [0, 2, 3, 5, 9, 24]), (5, [8]), (6, [0, 2, 3, 5, 9]), (7, [0, 2, 3, 5, 9]), (8, [0, 2, 3, 5, 9, 12, 13]), (9, [0, 2, 3, 5, 9, 12, 42]), (10, [0, 9, 10, 11]), (11, [0, 9, 10, 11]), (12, [0, 9, 10, 11, 68]), (13, [8]), (14, [0]), (15, [93]), (16, [8]), (17, [8])] id).getD [], lkn := [58, 64] }
def hint134 : Hint := { nv := 4, objs := [], keep := [], lits := [], own := false, live := fun id => (Am.look [(0, [0, 1]), (1, [4, 5])] id).getD [] }
def hint135 : Hint := { nv := 4, objs := [], keep := [], lits := [], own := false, live := fun id => (Am.look [(0, [0, 1]), (1, [0, 1, 13]), (2, [4, 5]), (3, [4, 5])] id).getD [] }
def hint136 : Hint := { nv := 2, objs := [], keep := [], lits := [], own := false, live := fun id => (Am.look [(0, [0]), (1, [2])] id).getD [] }
def hint137 : Hint := { nv := 4, objs := [], keep := [], lits := [], own := false, live := fun id => (Am.look [(0, [0, 1]), (1, [4])] id).getD [] }
def hint138 : Hint := { nv := 3, objs := [], keep := [], lits := [], own := false, live := fun id => (Am.look [(0, [1, 2]), (1, [3])] id).getD [] }
def hint139 : Hint := { nv := 6, objs := [3], keep := [10], lits := [], own := false, live := fun id => (Am.look [(0, [2, 3]), (1, [2, 5]), (2, [2, 5, 7]), (3, [4]), (4, [2, 12]), (5, [4]), (6, [23]), (7, [4]), (8, [4])] id).getD [] }
def hint140 : Hint := { nv := 9, objs := [], keep := [12], lits := [], own := false, live := fun id => (Am.look [(0, [0, 1, 5]), (1, [1, 7, 8]), (2, [1, 7, 8, 15]), (3, [6]), (4, [19]), (5, [6]), (6, [6])] id).getD [] }
def hint141 : Hint := { nv := 2, objs := [], keep := [], lits := [], own := false, live := fun id => (Am.look [(0, [1]), (1, [2])] id).getD [] }
def hint142 : Hint := { nv := 13, objs := [2, 3], keep := [33, 57, 68, 81], lits := [], own := false, live := fun id => (Am.look [(0, [2, 3]), (1, [2, 3, 5]), (2, [2, 3, 5, 6]), (3, [2, 3, 5, 6, 17]), (4, [2, 3, 5, 6, 17, 18]), (5, [2, 3, 5, 6, 17, 20]), (6, [2, 3, 5, 6, 17, 20]), (7, [2, 3, 5, 17, 23]), (8, [2, 3, 5, 23]), (9, [2, 3, 5, 6]), (10, [2, 3, 5, 7, 8, 9]), (11, [2, 3, 5, 7, 8, 37]), (12, [4]), (13, [2, 3, 5, 7, 8, 40]), (14, [4]), (15, [2, 3, 5, 7, 8, 50]), (16, [5, 8, 10]), (17, [5, 8, 10, 59]), (18, [4]), (19, [4]), (20, [2, 3, 5, 11, 12]), (21, [2, 3, 5, 11, 71]), (22, [4]), (23, [2, 3, 5, 11, 74]), (24, [4]), (25, [4]), (26, [4])] id).getD [] }
def hint143 : Hint := { nv := 6, objs := [], keep := [], lits := [], own := false, live := fun id => (Am.look [(0, [0, 1]), (1, [0, 1, 7, 8]), (2, [0, 1, 7, 8, 9]), (3, [0, 1, 5, 7, 8]), (4, [0, 1, 5, 7, 8, 16]), (5, [4]), (6, [0, 1, 7, 8]), (7, [4])] id).getD [] }
def hint144 : Hint := { nv := 2, objs := [], keep := [], lits := [], own := true, live := fun id => (Am.look [(0, [0]), (1, [0, 4]), (2, [2]), (3, [2])] id).getD [], nilt := 1 }
def hint145 : Hint := { nv := 2, objs := [], keep := [], lits := [], own := true, live := fun id => (Am.look [(0, [0]), (1, [0, 4]), (2, [2]), (3, [2])] id).getD [], nilt := 1 }
def hint146 : Hint := { nv := 2, objs := [], keep := [], lits := [], own := true, live := fun id => (Am.look [(0, [0]), (1, [0, 4]), (2, [2]), (3, [2])] id).getD [], nilt := 1 }
def hint147 : Hint := { nv := 9, objs := [], keep := [17, 28, 31], lits := [], own := false, live := fun id => (Am.look [(0, [0]), (1, [0, 3]), (2, [3, 9, 10, 11]), (3, [3, 9, 10, 11, 12]), (4, [3, 5, 9, 10, 11]), (5, [3, 5, 9, 10, 11]), (6, [3, 5, 6, 9, 10, 11]), (7, [3, 5, 6, 9, 10, 11, 20, 21, 22]), (8, [3, 5, 6, 9, 10, 11, 20, 21, 22, 23]), (9, [3, 5, 6, 8, 9, 10, 11, 20, 21, 22]), (10, [3, 5, 6, 8, 9, 10, 11, 20, 21, 22]), (11, [3, 5, 6, 9, 10, 11, 20, 21, 22]), (12, [3, 5, 6, 9, 10, 11, 20, 21, 22]), (13, [3, 5, 9, 10, 11]), (14, [3, 9, 10, 11]), (15, [3, 9, 10, 11]), (16, [2])] id).getD [] }
def hint148 : Hint := { nv := 2, objs := [], keep := [], lits := [], own := false, live := fun id => (Am.look [(0, [0]), (1, [2])] id).getD [] }
def hint149 : Hint := { nv := 8, objs := [], keep := [48], lits := [], own := false, live := fun id => (Am.look [(0, [2, 3]), (1, [2, 3, 9]), (2, [2, 3, 9, 10]), (3, [3, 22]), (4, [4, 5]), (5, [2, 3, 9, 26]), (6, [2, 3, 38]), (7, [7]), (8, [51]), (9, [4, 5]), (10, [2, 3, 9, 52]), (11, [79]), (12, [4, 5]), (13, [2, 3, 80]), (14, [2, 92]), (15, [4, 5]), (16, [4, 5])] id).getD [] }
def hint150 : Hint := { nv := 11, objs := [], keep := [26, 36], lits := [], own := false, live := fun id => (Am.look [(0, [0, 1, 5]), (1, [0, 1, 5, 18]), (2, [6, 7, 8]), (3, [0, 1, 5, 6, 9]), (4, [6, 7, 9, 10]), (5, [6, 7, 8])] id).getD [] }
def hint151 : Hint := { nv := 2, objs := [16], keep := [5, 10, 12, 14], lits := [], own := false, live := fun id => (Am.look [(0, [1]), (1, [1, 7]), (2, [2, 3]), (3, [2, 3])] id).getD [] }
def hint152 : Hint := { nv := 10, objs := [], keep := [29], lits := [37], own := false, live := fun id => (Am.look [(0, [0, 1, 2]), (1, [0, 1, 2, 7, 8]), (2, [0, 1, 2, 7, 18]), (3, [6]), (4, [0, 1, 2, 7, 9]), (5, [0, 1, 2, 7, 9, 30]), (6, [9]), (7, [6])] id).getD [], swp := fun id => Am.look [(5, .node 2 5 (.leaf) (.node 6 2 (.node 7 2 (.leaf) (.leaf)) (.leaf)))] id }
def hint153 : Hint := { nv := 12, objs := [], keep := [], lits := [25, 31, 42], own := false, live := fun id => (Am.look [(0, [0, 1, 2, 3, 4]), (1, [0, 1, 2, 3, 4, 9]), (2, [0, 1, 3, 4, 9, 14, 15, 16]), (3, [0, 1, 3, 4, 9, 14, 15, 16, 17]), (4, [0, 1, 3, 4, 9, 10, 11, 14, 15, 16]), (5, [0, 1, 3, 4, 9, 10, 11, 14, 15, 16]), (6, [0, 1, 3, 4, 9, 14, 15, 16]), (7, [0, 1, 3, 4, 9, 14, 15, 16]), (8, [0, 1, 3, 4, 9, 14, 15, 16]), (9, [8])] id).getD [] }
def hint154 : Hint := { nv := 7, objs := [], keep := [10, 17], lits := [], own := false, live := fun id => (Am.look [(0, [1, 2, 4]), (1, [2, 4, 5, 6]), (2, [4])] id).getD [] }
def hint155 : Hint := { nv := 6, objs := [], keep := [], lits := [10], own := false, live := fun id => (Am.look [(0, [1, 2, 7]), (1, [2, 6, 7]), (2, [2, 5, 7]), (3, [2, 7]), (4, [4])] id).getD [], self := 155 }
def hint156 : Hint := { nv := 6, objs := [], keep := [26], lits := [], own := false, live := fun id => (Am.look [(0, [0, 1, 7, 8, 9]), (1, [0, 1, 7, 8, 9, 10]), (2, [0, 1, 3, 4, 7, 8, 9]), (3, [0, 1, 3, 4, 7, 8, 9, 23]), (4, [0, 1, 3, 7, 8, 9, 26, 27]), (5, [0, 1, 3, 7, 8, 9, 26, 27, 28]), (6, [0, 1, 3, 5, 7, 8, 9, 26, 27]), (7, [0, 1, 3, 7, 8, 9, 26, 27, 36]), (8, [0, 1, 3, 7, 8, 9, 26, 27]), (9, [0, 1, 7, 8, 9])] id).getD [] }
def hint157 : Hint := { nv := 6, objs := [], keep := [], lits := [], own := false, live := fun id => (Am.look [(0, [2, 3]), (1, [2, 3, 16]), (2, [4]), (3, [5]), (4, [5, 30]), (5, [4]), (6, [4])] id).getD [] }
def hint162 : Hint := { nv := 13, objs := [], keep := [], lits := [], own := false, live := fun id => (Am.look [(0, [0]), (1, [0, 4]), (2, [0, 4, 16]), (3, [2, 3]), (4, [0, 4, 5]), (5, [0, 4, 5, 6]), (6, [0, 4, 5, 6, 23]), (7, [0, 7]), (8, [2, 3]), (9, [0, 4, 5, 6, 8]), (10, [0, 4, 5, 8, 9]), (11, [0, 5, 8, 9, 45]), (12, [2, 3]), (13, [0, 5, 8, 9, 10]), (14, [0, 5, 8, 10, 57]), (15, [2, 3]), (16, [0, 5, 8, 10, 59]), (17, [2, 3]), (18, [0, 5, 8, 10, 11]), (19, [0, 5, 8, 10, 11, 75]), (20, [2, 3]), (21, [0, 5, 10, 11, 77]), (22, [2, 3]), (23, [5, 10, 11, 12]), (24, [5, 10, 11, 12, 98]), (25, [2, 3]), (26, [2, 3])] id).getD [] }
def hint166 : Hint := { nv := 4, objs := [], keep := [8], lits := [], own := false, live := fun id => (Am.look [(0, [0]), (1, [4, 5])] id).getD [] }
def hint167 : Hint := { nv := 2, objs := [], keep := [], lits := [], own := false, live := fun id => (Am.look [(0, [0]), (1, [3]), (2, [2]), (3, [2])] id).getD [] }
def hint168 : Hint := { nv := 4, objs := [], keep := [7], lits := [], own := false, live := fun id => (Am.look [(0, [0]), (1, [4, 5])] id).getD [] }
def hint169 : Hint := { nv := 4, objs := [], keep := [], lits := [], own := false, live := fun id => (Am.look [(0, [0, 1]), (1, [4, 5])] id).getD [] }
def hint170 : Hint := { nv := 4, objs := [], keep := [], lits := [], own := false, live := fun id => (Am.look [(0, [0, 1]), (1, [4, 5])] id).getD [] }
def hint171 : Hint := { nv := 4, objs := [3], keep := [], lits := [], own := false, live := fun id => (Am.look [(0, [0, 3, 4]), (1, [4])] id).getD [] }
def hint172 : Hint := { nv := 4, objs := [], keep := [], lits := [], own := false, live := fun id => (Am.look [(0, [0, 1]), (1, [4])] id).getD [] }
def hint173 : Hint := { nv := 4, objs := [], keep := [], lits := [], own := false, live := fun id => (Am.look [(0, [0, 1]), (1, [4])] id).getD [] }
def hint174 : Hint := { nv := 4, objs := [], keep := [], lits := [], own := false, live := fun id => (Am.look [(0, [0, 1]), (1, [4])] id).getD [] }
def hint175 : Hint := { nv := 4, objs := [], keep := [], lits := [], own := false, live := fun id => (Am.look [(0, [0, 1]), (1, [4])] id).getD [] }
def hint176 : Hint := { nv := 4, objs := [], keep := [], lits := [], own := false, live := fun id => (Am.look [(0, [0, 1]), (1, [4])] id).getD [] }
def hint177 : Hint := { nv := 4, objs := [], keep := [], lits := [], own := false, live := fun id => (Am.look [(0, [0, 1]), (1, [4])] id).getD [] }
def hint178 : Hint := { nv := 7, objs := [], keep := [], lits := [], own := false, live := fun id => (Am.look [(0, [0, 1]), (1, [0, 1, 7]), (2, [4]), (3, [0, 1, 10]), (4, [4]), (5, [5, 6]), (6, [5, 23]), (7, [4]), (8, [4])] id).getD [] }
def hint179 : Hint := { nv := 4, objs := [], keep := [], lits := [], own := false, live := fun id => (Am.look [(0, [0, 1]), (1, [4])] id).getD [] }
def hint180 : Hint := { nv := 9, objs := [], keep := [12, 21], lits := [11, 20], own := false, live := fun id => (Am.look [(0, [1, 2, 3]), (1, [1, 2, 3, 13]), (2, [6, 7]), (3, [8]), (4, [8, 22]), (5, [6, 7]), (6, [6, 7])] id).getD [] }
def hint181 : Hint := { nv := 6, objs := [], keep := [], lits := [], own := false, live := fun id => (Am.look [(0, [0, 1]), (1, [0, 1, 7, 8]), (2, [0, 1, 7, 8, 9]), (3, [0, 1, 5, 7, 8]), (4, [0, 1, 5, 7, 8, 16]), (5, [4]), (6, [0, 1, 7, 8]), (7, [4])] id).getD [] }
def hint182 : Hint := { nv := 3, objs := [], keep := [], lits := [], own := false, live := fun id => (Am.look [(0, [0, 1]), (1, [3])] id).getD [] }
def hint183 : Hint := { nv := 4, objs := [], keep := [9], lits := [], own := false, live := fun id => (Am.look [(0, [0, 1, 2]), (1, [4])] id).getD [] }
def hint184 : Hint := { nv := 9, objs := [], keep := [30], lits := [], own := false, live := fun id => (Am.look [(0, [0, 1, 5, 6]), (1, [0, 1, 5, 6, 16]), (2, [6, 7, 8]), (3, [0, 1, 6, 7, 8]), (4, [6, 7, 8])] id).getD [] }
def hint185 : Hint := { nv := 4, objs := [], keep := [22], lits := [], own := false, live := fun id => (Am.look [(0, [0, 3]), (1, [0, 3, 14]), (2, [4, 5]), (3, [4, 5])] id).getD [] }
def hint186 : Hint := { nv := 10, objs := [], keep := [16], lits := [], own := false, live := fun id => (Am.look [(0, [1, 3, 5]), (1, [1, 7, 8, 9]), (2, [1, 7, 8, 20]), (3, [6]), (4, [23]), (5, [6]), (6, [6])] id).getD [] }
def hint187 : Hint := { nv := 2, objs := [], keep := [], lits := [], own := true, live := fun id => (Am.look [(0, [0]), (1, [0, 4]), (2, [2]), (3, [2])] id).getD [], nilt := 1 }
def hint188 : Hint := { nv := 4, objs := [], keep := [], lits := [], own := false, live := fun id => (Am.look [(0, [0, 3]), (1, [0, 3, 6]), (2, [4, 5]), (3, [0, 9]), (4, [4, 5]), (5, [4, 5])] id).getD [] }
def hint189 : Hint := { nv := 8, objs := [], keep := [], lits := [33], own := false, live := fun id => (Am.look [(0, [1, 11]), (1, [1, 3, 11]), (2, [1, 3, 4, 5, 11]), (3, [1, 3, 4, 5, 10, 11]), (4, [1, 3, 4, 5, 6, 11]), (5, [1, 3, 4, 5, 6, 11, 14]), (6, [1, 3, 4, 5, 6, 11]), (7, [1, 3, 4, 5, 6, 11]), (8, [1, 3, 4, 5, 11, 25, 26]), (9, [1, 3, 4, 5, 11, 25, 26, 27]), (10, [1, 3, 4, 5, 7, 11, 25, 26]), (11, [1, 3, 4, 5, 11, 25, 26]), (12, [1, 3, 4, 5, 11, 25, 26]), (13, [2])] id).getD [], self := 189 }
def hint190 : Hint := { nv := 16, objs := [32], keep := [30], lits := [], own := false, live := fun id => (Am.look [(0, [0, 1, 2]), (1, [0, 1, 8, 9]), (2, [0, 1, 8, 9, 10]), (3, [1, 8, 10, 11]), (4, [8, 10, 11, 47]), (5, [6, 7]), (6, [8, 10, 11, 51]), (7, [8, 10, 11, 12, 13]), (8, [8, 10, 11, 64]), (9, [6, 7]), (10, [8, 10, 11, 67, 68, 69]), (11, [8, 10, 11, 67, 68, 69, 70]), (12, [8, 10, 11, 15, 67, 68, 69]), (13, [8, 10, 11, 67, 68, 69, 76]), (14, [6, 7]), (15, [8, 10, 11, 67, 68, 69]), (16, [10]), (17, [6, 7])] id).getD [], swp := fun id => Am.look [(1, .node 2 5 (.leaf) (.node 2 6 (.leaf) (.leaf)))] id }
def hint191 : Hint := { nv := 7, objs := [], keep := [9], lits := [], own := false, live := fun id => (Am.look [(0, [1, 2]), (1, [1, 5, 6]), (2, [30]), (3, [4]), (4, [4])] id).getD [] }
def hint192 : Hint := { nv := 6, objs := [], keep := [], lits := [], own := false, live := fun id => (Am.look [(0, [0, 1, 4]), (1, [0, 4, 5]), (2, [4])] id).getD [] }
def hint193 : Hint := { nv := 14, objs := [], keep := [18, 22], lits := [], own := false, live := fun id => (Am.look [(0, [0, 1, 2, 3]), (1, [0, 1, 2, 10]), (2, [0, 1, 10, 11]), (3, [1, 11, 12, 13]), (4, [11]), (5, [8])] id).getD [] }
def hint194 : Hint := { nv := 2, objs := [], keep := [], lits := [], own := false, live := fun id => (Am.look [(0, [0]), (1, [0, 4]), (2, [2]), (3, [2])] id).getD [] }
def hint202 : Hint := { nv := 4, objs := [], keep := [], lits := [], own := false, live := fun id => (Am.look [(0, [0, 1]), (1, [4])] id).getD [] }
def hint203 : Hint := { nv := 4, objs := [], keep := [], lits := [], own := false, live := fun id => (Am.look [(0, [0, 1]), (1, [4])] id).getD [] }
def hint204 : Hint := { nv := 5, objs := [], keep := [11], lits := [], own := false, live := fun id => (Am.look [(0, [0, 1, 2]), (1, [5, 6])] id).getD [] }
def hint205 : Hint := { nv := 9, objs := [], keep := [], lits := [], own := false, live := fun id => (Am.look [(0, [0, 1, 5]), (1, [0, 1, 8]), (2, [0, 27]), (3, [6, 7]), (4, [0, 29]), (5, [6, 7]), (6, [6, 7])] id).getD [] }
def hint206 : Hint := { nv := 8, objs := [], keep := [12], lits := [], own := false, live := fun id => (Am.look [(0, [0, 1]), (1, [6, 7]), (2, [4, 5])] id).getD [] }
def hint207 : Hint := { nv := 6, objs := [], keep := [], lits := [], own := false, live := fun id => (Am.look [(0, [0]), (1, [0, 3]), (2, [3, 6, 7, 8]), (3, [3, 6, 7, 8, 9]), (4, [3, 5, 6, 7, 8]), (5, [3, 5, 6, 7, 8, 13]), (6, [3, 5, 6, 7, 8, 13, 14]), (7, [3, 6, 7, 8]), (8, [3, 5, 6, 7, 8, 13, 22]), (9, [3, 6, 7, 8]), (10, [3, 5, 6, 7, 8, 13, 30]), (11, [3, 6, 7, 8]), (12, [3, 5, 6, 7, 8, 13, 38]), (13, [3, 6, 7, 8]), (14, [3, 5, 6, 7, 8, 46]), (15, [3, 6, 7, 8]), (16, [3, 6, 7, 8]), (17, [2])] id).getD [] }
def hint208 : Hint := { nv := 6, objs := [], keep := [14], lits := [], own := false, live := fun id => (Am.look [(0, [1]), (1, [7, 8, 9]), (2, [7, 8, 9, 10]), (3, [5, 7, 8, 9]), (4, [5, 7, 8, 9, 14]), (5, [2, 3]), (6, [7, 8, 9]), (7, [2, 3])] id).getD [] }
def hint209 : Hint := { nv := 4, objs := [], keep := [], lits := [], own := false, live := fun id => (Am.look [(0, [0, 1]), (1, [4, 5])] id).getD [] }
def hint212 : Hint := { nv := 15, objs := [], keep := [57], lits := [86], own := false, live := fun id => (Am.look [(0, [0, 2]), (1, [0, 2, 3]), (2, [0, 2, 3, 22, 23, 24]), (3, [0, 2, 3, 22, 23, 24, 25]), (4, [0, 2, 3, 4, 5, 22, 23, 24]), (5, [0, 2, 3, 5, 6, 22, 23, 24]), (6, [0, 2, 3, 22, 23, 24]), (7, [0, 2, 3, 22, 23, 24]), (8, [0, 2, 3, 71, 72, 73]), (9, [0, 2, 3, 71, 72, 73, 74]), (10, [0, 2, 3, 8, 71, 72, 73]), (11, [0, 2, 3, 71, 72, 73]), (12, [0, 2, 3, 71, 72, 73]), (13, [0, 2, 3, 97, 98, 99]), (14, [0, 2, 3, 97, 98, 99, 100]), (15, [0, 2, 3, 10, 97, 98, 99]), (16, [0, 2, 3, 97, 98, 99]), (17, [0, 2, 3, 97, 98, 99]), (18, [0, 2, 3, 118, 119, 120]), (19, [0, 2, 3, 118, 119, 120, 121]), (20, [0, 2, 3, 11, 12, 118, 119, 120]), (21, [0, 2, 3, 118, 119, 120]), (22, [0, 2, 3, 118, 119, 120]), (23, [0, 2, 3, 13]), (24, [0, 2, 3, 13, 14]), (25, [2, 3, 13]), (26, [2, 3]), (27, [2])] id).getD [] }
def hints : FuncId → Hint := fun f => match f with
  | 3 => hint3
  | 4 => hint4
  | 5 => hint5
  | 6 => hint6
  | 7 => hint7
  | 8 => hint8
  | 9 => hint9
  | 10 => hint10
  | 11 => hint11
  | 12 => hint12
  | 13 => hint13
  | 14 => hint14
  | 15 => hint15
  | 16 => hint16
  | 17 => hint17
  | 18 => hint18
  | 19 => hint19
  | 20 => hint20
  | 21 => hint21
  | 22 => hint22
  | 23 => hint23
  | 24 => hint24
  | 25 => hint25
  | 26 => hint26
  | 27 => hint27
  | 28 => hint28
  | 33 => hint33
  | 34 => hint34
  | 35 => hint35
  | 36 => hint36
  | 37 => hint37
  | 38 => hint38
  | 39 => hint39
  | 40 => hint40
  | 41 => hint41
  | 42 => hint42
  | 43 => hint43
  | 44 => hint44
  | 45 => hint45
  | 46 => hint46
  | 49 => hint49
  | 50 => hint50
  | 52 => hint52
  | 53 => hint53
  | 54 => hint54
  | 55 => hint55
  | 56 => hint56
  | 57 => hint57
  | 58 => hint58
  | 59 => hint59
  | 60 => hint60
  | 61 => hint61
  | 62 => hint62
  | 63 => hint63
  | 64 => hint64
  | 65 => hint65
  | 66 => hint66
  | 67 => hint67
  | 68 => hint68
  | 69 => hint69
  | 70 => hint70
  | 71 => hint71
  | 72 => hint72
  | 73 => hint73
  | 74 => hint74
  | 77 => hint77
  | 78 => hint78
  | 79 => hint79
  | 80 => hint80
  | 81 => hint81
  | 82 => hint82
  | 83 => hint83
  | 86 => hint86
  | 87 => hint87
  | 88 => hint88
  | 89 => hint89
  | 90 => hint90
  | 91 => hint91
  | 92 => hint92
  | 93 => hint93
  | 94 => hint94
  | 95 => hint95
  | 96 => hint96
  | 97 => hint97
  | 98 => hint98
  | 99 => hint99
  | 100 => hint100
  | 101 => hint101
  | 102 => hint102
  | 103 => hint103
  | 104 => hint104
  | 105 => hint105
  | 106 => hint106
  | 107 => hint107
  | 108 => hint108
  | 109 => hint109
  | 110 => hint110
  | 111 => hint111
  | 112 => hint112
  | 113 => hint113
  | 114 => hint114
  | 115 => hint115
  | 116 => hint116
  | 117 => hint117
  | 118 => hint118
  | 119 => hint119
  | 121 => hint121
  | 122 => hint122
  | 123 => hint123
  | 124 => hint124
  | 125 => hint125
  | 131 => hint131
  | 132 => hint132
  | 133 => hint133
  | 134 => hint134
  | 135 => hint135
  | 136 => hint136
  | 137 => hint137
  | 138 => hint138
  | 139 => hint139
  | 140 => hint140
  | 141 => hint141
  | 142 => hint142
  | 143 => hint143
  | 144 => hint144
  | 145 => hint145
  | 146 => hint146
  | 147 => hint147
  | 148 => hint148
  | 149 => hint149
  | 150 => hint150
  | 151 => hint151
  | 152 => hint152
  | 153 => hint153
  | 154 => hint154
  | 155 => hint155
  | 156 => hint156
  | 157 => hint157
  | 162 => hint162
  | 166 => hint166
  | 167 => hint167
  | 168 => hint168
  | 169 => hint169
  | 170 => hint170
  | 171 => hint171
  | 172 => hint172
  | 173 => hint173
  | 174 => hint174
  | 175 => hint175
  | 176 => hint176
  | 177 => hint177
  | 178 => hint178
  | 179 => hint179
  | 180 => hint180
  | 181 => hint181
  | 182 => hint182
  | 183 => hint183
  | 184 => hint184
  | 185 => hint185
  | 186 => hint186
  | 187 => hint187
  | 188 => hint188
  | 189 => hint189
  | 190 => hint190
  | 191 => hint191
  | 192 => hint192
  | 193 => hint193
  | 194 => hint194
  | 202 => hint202
  | 203 => hint203
  | 204 => hint204
  | 205 => hint205
  | 206 => hint206
  | 207 => hint207
  | 208 => hint208
  | 209 => hint209
  | 212 => hint212
  | _ => { nv := 0, objs := [], keep := [], lits := [], own := false, live := fun _ => [] }
noncomputable abbrev call : CallF := callX P hints
@[go_sem] theorem ho3 : hint3.objs = [] := rfl
@[go_sem] theorem hk3 : hint3.keep = [20, 68, 71, 77, 92, 98, 102] := rfl
@[go_sem] theorem hl3 : hint3.lits = [] := rfl
@[go_sem] theorem hr3 : hint3.ro = [] := rfl
@[go_sem] theorem hv3 : hint3.lkn = [] := rfl
@[go_sem] theorem hn4 : hint4.nv = 9 := rfl
@[go_sem] theorem ho4 : hint4.objs = [] := rfl
@[go_sem] theorem hk4 : hint4.keep = [12, 15, 21, 29, 36, 53, 58] := rfl
@[go_sem] theorem hl4 : hint4.lits = [] := rfl
@[go_sem] theorem hr4 : hint4.ro = [] := rfl
@[go_sem] theorem he4 : hint4.emp = [] := rfl
@[go_sem] theorem hv4 : hint4.lkn = [] := rfl
@[go_sem] theorem hn6 : hint6.nv = 2 := rfl
@[go_sem] theorem ho6 : hint6.objs = [] := rfl
@[go_sem] theorem hk6 : hint6.keep = [5, 8] := rfl
@[go_sem] theorem hl6 : hint6.lits = [] := rfl
@[go_sem] theorem hr6 : hint6.ro = [] := rfl
@[go_sem] theorem he6 : hint6.emp = [] := rfl
@[go_sem] theorem hv6 : hint6.lkn = [] := rfl
@[go_sem] theorem hn7 : hint7.nv = 12 := rfl
@[go_sem] theorem ho7 : hint7.objs = [] := rfl
@[go_sem] theorem hk7 : hint7.keep = [23, 34] := rfl
@[go_sem] theorem hl7 : hint7.lits = [] := rfl
@[go_sem] theorem hr7 : hint7.ro = [] := rfl
@[go_sem] theorem he7 : hint7.emp = [] := rfl
@[go_sem] theorem hv7 : hint7.lkn = [] := rfl
@[go_sem] theorem hl9 : hint9.lits = [] := rfl
@[go_sem] theorem hn10 : hint10.nv = 11 := rfl
@[go_sem] theorem ho10 : hint10.objs = [] := rfl
@[go_sem] theorem hk10 : hint10.keep = [17, 26, 34, 43] := rfl
@[go_sem] theorem hr10 : hint10.ro = [] := rfl
@[go_sem] theorem he10 : hint10.emp = [] := rfl
@[go_sem] theorem hv10 : hint10.lkn = [] := rfl
@[go_sem] theorem hn18 : hint18.nv = 7 := rfl
@[go_sem] theorem hk18 : hint18.keep = [9] := rfl
@[go_sem] theorem hr18 : hint18.ro = [] := rfl
@[go_sem] theorem he18 : hint18.emp = [] := rfl
@[go_sem] theorem hv18 : hint18.lkn = [] := rfl
@[go_sem] theorem hn19 : hint19.nv = 17 := rfl
@[go_sem] theorem hk19 : hint19.keep = [18, 33, 39, 44] := rfl
@[go_sem] theorem hl19 : hint19.lits = [61] := rfl
@[go_sem] theorem hr19 : hint19.ro = [] := rfl
@[go_sem] theorem he19 : hint19.emp = [] := rfl
@[go_sem] theorem hv19 : hint19.lkn = [] := rfl
@[go_sem] theorem hn22 : hint22.nv = 17 := rfl
@[go_sem] theorem hk22 : hint22.keep = [19, 29, 35, 41, 46] := rfl
@[go_sem] theorem hl22 : hint22.lits = [63] := rfl
@[go_sem] theorem hr22 : hint22.ro = [] := rfl
@[go_sem] theorem he22 : hint22.emp = [] := rfl
@[go_sem] theorem hv22 : hint22.lkn = [] := rfl
@[go_sem] theorem hn33 : hint33.nv = 8 := rfl
@[go_sem] theorem hk33 : hint33.keep = [10] := rfl
@[go_sem] theorem hr33 : hint33.ro = [] := rfl
@[go_sem] theorem he33 : hint33.emp = [] := rfl
@[go_sem] theorem hv33 : hint33.lkn = [] := rfl
@[go_sem] theorem hn34 : hint34.nv = 4 := rfl
@[go_sem] theorem hk34 : hint34.keep = [7] := rfl
@[go_sem] theorem hr34 : hint34.ro = [] := rfl
@[go_sem] theorem he34 : hint34.emp = [] := rfl
@[go_sem] theorem hv34 : hint34.lkn = [] := rfl
@[go_sem] theorem hn36 : hint36.nv = 6 := rfl
@[go_sem] theorem hl36 : hint36.lits = [18] := rfl
@[go_sem] theorem hn37 : hint37.nv = 7 := rfl
@[go_sem] theorem hk37 : hint37.keep = [51, 56] := rfl
@[go_sem] theorem hr37 : hint37.ro = [] := rfl
@[go_sem] theorem he37 : hint37.emp = [] := rfl
@[go_sem] theorem hv37 : hint37.lkn = [] := rfl
@[go_sem] theorem hn49 : hint49.nv = 14 := rfl
@[go_sem] theorem hk49 : hint49.keep = [30, 47, 71, 105, 112, 137] := rfl
@[go_sem] theorem hr49 : hint49.ro = [] := rfl
@[go_sem] theorem he49 : hint49.emp = [] := rfl
@[go_sem] theorem hv49 : hint49.lkn = [] := rfl
@[go_sem] theorem hn50 : hint50.nv = 12 := rfl
@[go_sem] theorem hk50 : hint50.keep = [18, 23, 39] := rfl
@[go_sem] theorem hr50 : hint50.ro = [] := rfl
@[go_sem] theorem he50 : hint50.emp = [] := rfl
@[go_sem] theorem hv50 : hint50.lkn = [] := rfl
@[go_sem] theorem hn83 : hint83.nv = 4 := rfl
@[go_sem] theorem hk83 : hint83.keep = [7] := rfl
@[go_sem] theorem hr83 : hint83.ro = [] := rfl
@[go_sem] theorem he83 : hint83.emp = [] := rfl
@[go_sem] theorem hv83 : hint83.lkn = [] := rfl
@[go_sem] theorem el0 : Am.elemOf P 0 = none := by kernel_rfl
@[go_sem] theorem el3 : Am.elemOf P 3 = none := by kernel_rfl
@[go_sem] theorem el4 : Am.elemOf P 4 = none := by kernel_rfl
@[go_sem] theorem ce5 : P.cellsOf 5 = 1 := by kernel_rfl
@[go_sem] theorem ze5 : zeroOf P 5 = some (.int .u8 (0)) := by kernel_rfl
@[go_sem] theorem ag9 : aggO P 9 = some false := by kernel_rfl
@[go_sem] theorem el9 : Am.elemOf P 9 = none := by kernel_rfl
@[go_sem] theorem ce9 : P.cellsOf 9 = 1 := by kernel_rfl
@[go_sem] theorem by9 : P.bytesOf 9 = 16 := by kernel_rfl
@[go_sem] theorem in9 : (P.info? 9).isSome = true := by kernel_rfl
@[go_sem] theorem ze9 : zeroOf P 9 = some (.str []) := by kernel_rfl
@[go_sem] theorem un9 : P.underlying 9 = some .string := by kernel_rfl
@[go_sem] theorem ag22 : aggO P 22 = some false := by kernel_rfl
@[go_sem] theorem el22 : Am.elemOf P 22 = some 27 := by kernel_rfl
@[go_sem] theorem ce22 : P.cellsOf 22 = 1 := by kernel_rfl
@[go_sem] theorem ag24 : aggO P 24 = some true := by kernel_rfl
@[go_sem] theorem ce24 : P.cellsOf 24 = 2 := by kernel_rfl
@[go_sem] theorem ze24 : zeroOf P 24 = some (.agg [.nils, .nils]) := by kernel_rfl
@[go_sem] theorem fi24_0 : fieldOf P 24 0 = some (0, 1, false) := by kernel_rfl
@[go_sem] theorem fi24_1 : fieldOf P 24 1 = some (1, 1, false) := by kernel_rfl
@[go_sem] theorem pl24 : placesOf P 24 = some (.inr [(0, 1), (1, 1)]) := by kernel_rfl
@[go_sem] theorem ag27 : aggO P 27 = some true := by kernel_rfl
@[go_sem] theorem ce27 : P.cellsOf 27 = 2 := by kernel_rfl
@[go_sem] theorem by27 : P.bytesOf 27 = 16 := by kernel_rfl
@[go_sem] theorem ze27 : zeroOf P 27 = some (.agg [.int .i64 (0), .int .i64 (0)]) := by kernel_rfl
@[go_sem] theorem pl27 : placesOf P 27 = some (.inr [(0, 1), (1, 1)]) := by kernel_rfl
@[go_sem] theorem ps27 : plainS P 27 = some [0, 0] := by kernel_rfl
@[go_sem] theorem el29 : Am.elemOf P 29 = none := by kernel_rfl
@[go_sem] theorem ze57 : zeroOf P 57 = some (.agg [.str [], .str []]) := by kernel_rfl
@[go_sem] theorem el83 : Am.elemOf P 83 = some 5 := by kernel_rfl
@[go_sem] theorem el93 : Am.elemOf P 93 = some 9 := by kernel_rfl
noncomputable def b3 : Code := Tryz.f3.body.getD .skip
def q3 : {q // compF hint3 b3 = some q} := by refine ⟨?q, ?h⟩; case h => conv => lhs; cbv
attribute [go_sem] q3
noncomputable def b4 : Code := Tryz.f4.body.getD .skip
def q4 : {q // compF hint4 b4 = some q} := by refine ⟨?q, ?h⟩; case h => conv => lhs; cbv
attribute [go_sem] q4
theorem ge4 {ρ : Type} (ds : List D) (H : List Ob) (κ : List T × List Ob → Option ρ) (hl : ds.length = 1) : cbK (call 4 ds H) κ = go P hints hint4 b4 q4.1 (enter ds H) (kLv P false [.tmp 2] H.length κ) :=
  ge_of (by decide) rfl rfl Tryz.func4 (by kernel_rfl) q4.2 rfl rfl (by kernel_rfl) rfl (by kernel_rfl) (by kernel_rfl) ds H κ hl rfl
@[go_sem] theorem xt5 : extOf P 5 = none := extOf_none Tryz.func5 (by kernel_rfl)
@[go_sem] theorem xt6 : extOf P 6 = none := extOf_none Tryz.func6 (by kernel_rfl)
noncomputable def b6 : Code := Tryz.f6.body.getD .skip
def q6 : {q // compF hint6 b6 = some q} := by refine ⟨?q, ?h⟩; case h => conv => lhs; cbv
attribute [go_sem] q6
theorem ge6 {ρ : Type} (ds : List D) (H : List Ob) (κ : List T × List Ob → Option ρ) (hl : ds.length = 1) : cbK (call 6 ds H) κ = go P hints hint6 b6 q6.1 (enter ds H) (kLv P false [.tmp 2] H.length κ) :=
  ge_of (by decide) rfl rfl Tryz.func6 (by kernel_rfl) q6.2 rfl rfl (by kernel_rfl) rfl (by kernel_rfl) (by kernel_rfl) ds H κ hl rfl
@[go_sem] theorem xt7 : extOf P 7 = none := extOf_none Tryz.func7 (by kernel_rfl)
noncomputable def b7 : Code := Tryz.f7.body.getD .skip
def q7 : {q // compF hint7 b7 = some q} := by refine ⟨?q, ?h⟩; case h => conv => lhs; cbv
def q7_0 : {q // compL hint7 b7 0 = some q} := by refine ⟨?q, ?h⟩; case h => conv => lhs; cbv
attribute [go_sem] q7 q7_0
theorem ge7 {ρ : Type} (ds : List D) (H : List Ob) (κ : List T × List Ob → Option ρ) (hl : ds.length = 1) : cbK (call 7 ds H) κ = go P hints hint7 b7 q7.1 (enter ds H) (kLv P false [.cell 2 24, .tmp 3, .tmp 4] H.length κ) :=
  ge_of (by decide) rfl rfl Tryz.func7 (by kernel_rfl) q7.2 rfl rfl (by kernel_rfl) rfl (by kernel_rfl) (by kernel_rfl) ds H κ hl rfl
@[go_sem] theorem xt9 : extOf P 9 = none := extOf_none Tryz.func9 (by kernel_rfl)
noncomputable def b9 : Code := Tryz.f9.body.getD .skip
def q9 : {q // compF hint9 b9 = some q} := by refine ⟨?q, ?h⟩; case h => conv => lhs; cbv
def q9_0 : {q // compL hint9 b9 0 = some q} := by refine ⟨?q, ?h⟩; case h => conv => lhs; cbv
attribute [go_sem] q9 q9_0
theorem ge9 {ρ : Type} (ds : List D) (H : List Ob) (κ : List T × List Ob → Option ρ) (hl : ds.length = 2) : cbK (call 9 ds H) κ = go P hints hint9 b9 q9.1 (enter ds H) (kLv P false [.tmp 4] H.length κ) :=
  ge_of (by decide) rfl rfl Tryz.func9 (by kernel_rfl) q9.2 rfl rfl (by kernel_rfl) rfl (by kernel_rfl) (by kernel_rfl) ds H κ hl rfl
@[go_sem] theorem xt10 : extOf P 10 = none := extOf_none Tryz.func10 (by kernel_rfl)
noncomputable def b10 : Code := Tryz.f10.body.getD .skip
def q10 : {q // compF hint10 b10 = some q} := by refine ⟨?q, ?h⟩; case h => conv => lhs; cbv
attribute [go_sem] q10
theorem ge10 {ρ : Type} (ds : List D) (H : List Ob) (κ : List T × List Ob → Option ρ) (hl : ds.length = 1) : cbK (call 10 ds H) κ = go P hints hint10 b10 q10.1 (enter ds H) (kLv P false [.cell 2 24, .tmp 3, .tmp 4] H.length κ) :=
  ge_of (by decide) rfl rfl Tryz.func10 (by kernel_rfl) q10.2 rfl rfl (by kernel_rfl) rfl (by kernel_rfl) (by kernel_rfl) ds H κ hl rfl
@[go_sem] theorem ge17 {ρ : Type} (ds : List D) (H : List Ob) (κ : List T × List Ob → Option ρ) : cbK (call 17 ds H) κ = (Go.Tr7.extLine ds).bind fun rs => if isPanT rs = true then none else κ (rs, H) := extB (by decide) rfl
@[go_sem] theorem xt17 : extOf P 17 = none := extOf_none Tryz.func17 (by kernel_rfl)
@[go_sem] theorem xt18 : extOf P 18 = none := extOf_none Tryz.func18 (by kernel_rfl)
noncomputable def b18 : Code := Tryz.f18.body.getD .skip
def q18 : {q // compF hint18 b18 = some q} := by refine ⟨?q, ?h⟩; case h => conv => lhs; cbv
attribute [go_sem] q18
theorem ge18 {ρ : Type} (ds : List D) (H : List Ob) (κ : List T × List Ob → Option ρ) (hl : ds.length = 2) : cbK (call 18 ds H) κ = go P hints hint18 b18 q18.1 (enter ds H) (kLv P false [.tmp 4, .tmp 5, .tmp 6] H.length κ) :=
  ge_of (by decide) rfl rfl Tryz.func18 (by kernel_rfl) q18.2 rfl rfl (by kernel_rfl) rfl (by kernel_rfl) (by kernel_rfl) ds H κ hl rfl
@[go_sem] theorem xt19 : extOf P 19 = none := extOf_none Tryz.func19 (by kernel_rfl)
noncomputable def b19 : Code := Tryz.f19.body.getD .skip
def q19 : {q // compF hint19 b19 = some q} := by refine ⟨?q, ?h⟩; case h => conv => lhs; cbv
def q19_0 : {q // compL hint19 b19 0 = some q} := by refine ⟨?q, ?h⟩; case h => conv => lhs; cbv
attribute [go_sem] q19 q19_0
theorem ge19 {ρ : Type} (ds : List D) (H : List Ob) (κ : List T × List Ob → Option ρ) (hl : ds.length = 2) : cbK (call 19 ds H) κ = go P hints hint19 b19 q19.1 (enter ds H) (kLv P false [.tmp 4, .tmp 5] H.length κ) :=
  ge_of (by decide) rfl rfl Tryz.func19 (by kernel_rfl) q19.2 rfl rfl (by kernel_rfl) rfl (by kernel_rfl) (by kernel_rfl) ds H κ hl rfl
@[go_sem] theorem xt21 : extOf P 21 = none := extOf_none Tryz.func21 (by kernel_rfl)
noncomputable def b21 : Code := Tryz.f21.body.getD .skip
def q21 : {q // compF hint21 b21 = some q} := by refine ⟨?q, ?h⟩; case h => conv => lhs; cbv
def q21_0 : {q // compL hint21 b21 0 = some q} := by refine ⟨?q, ?h⟩; case h => conv => lhs; cbv
attribute [go_sem] q21 q21_0
theorem ge21 {ρ : Type} (ds : List D) (H : List Ob) (κ : List T × List Ob → Option ρ) (hl : ds.length = 2) : cbK (call 21 ds H) κ = go P hints hint21 b21 q21.1 (enter ds H) (kLv P false [.tmp 4, .tmp 5, .tmp 6] H.length κ) :=
  ge_of (by decide) rfl rfl Tryz.func21 (by kernel_rfl) q21.2 rfl rfl (by kernel_rfl) rfl (by kernel_rfl) (by kernel_rfl) ds H κ hl rfl
@[go_sem] theorem xt22 : extOf P 22 = none := extOf_none Tryz.func22 (by kernel_rfl)
noncomputable def b22 : Code := Tryz.f22.body.getD .skip
def q22 : {q // compF hint22 b22 = some q} := by refine ⟨?q, ?h⟩; case h => conv => lhs; cbv
def q22_0 : {q // compL hint22 b22 0 = some q} := by refine ⟨?q, ?h⟩; case h => conv => lhs; cbv
attribute [go_sem] q22 q22_0
theorem ge22 {ρ : Type} (ds : List D) (H : List Ob) (κ : List T × List Ob → Option ρ) (hl : ds.length = 2) : cbK (call 22 ds H) κ = go P hints hint22 b22 q22.1 (enter ds H) (kLv P false [.tmp 4, .tmp 5] H.length κ) :=
  ge_of (by decide) rfl rfl Tryz.func22 (by kernel_rfl) q22.2 rfl rfl (by kernel_rfl) rfl (by kernel_rfl) (by kernel_rfl) ds H κ hl rfl
@[go_sem] theorem xt33 : extOf P 33 = none := extOf_none Tryz.func33 (by kernel_rfl)
noncomputable def b33 : Code := Tryz.f33.body.getD .skip
def q33 : {q // compF hint33 b33 = some q} := by refine ⟨?q, ?h⟩; case h => conv => lhs; cbv
attribute [go_sem] q33
theorem ge33 {ρ : Type} (ds : List D) (H : List Ob) (κ : List T × List Ob → Option ρ) (hl : ds.length = 2) : cbK (call 33 ds H) κ = go P hints hint33 b33 q33.1 (enter ds H) (kLv P false [.tmp 4, .tmp 5, .tmp 6] H.length κ) :=
  ge_of (by decide) rfl rfl Tryz.func33 (by kernel_rfl) q33.2 rfl rfl (by kernel_rfl) rfl (by kernel_rfl) (by kernel_rfl) ds H κ hl rfl
@[go_sem] theorem xt34 : extOf P 34 = none := extOf_none Tryz.func34 (by kernel_rfl)
noncomputable def b34 : Code := Tryz.f34.body.getD .skip
def q34 : {q // compF hint34 b34 = some q} := by refine ⟨?q, ?h⟩; case h => conv => lhs; cbv
attribute [go_sem] q34
theorem ge34 {ρ : Type} (ds : List D) (H : List Ob) (κ : List T × List Ob → Option ρ) (hl : ds.length = 2) : cbK (call 34 ds H) κ = go P hints hint34 b34 q34.1 (enter ds H) (kLv P false [.tmp 4] H.length κ) :=
  ge_of (by decide) rfl rfl Tryz.func34 (by kernel_rfl) q34.2 rfl rfl (by kernel_rfl) rfl (by kernel_rfl) (by kernel_rfl) ds H κ hl rfl
@[go_sem] theorem ge35 {ρ : Type} (ds : List D) (H : List Ob) (κ : List T × List Ob → Option ρ) : cbK (call 35 ds H) κ = (Go.Tr7.extNum ds).bind fun rs => if isPanT rs = true then none else κ (rs, H) := extB (by decide) rfl
@[go_sem] theorem xt35 : extOf P 35 = none := extOf_none Tryz.func35 (by kernel_rfl)
@[go_sem] theorem xt36 : extOf P 36 = none := extOf_none Tryz.func36 (by kernel_rfl)
noncomputable def b36 : Code := Tryz.f36.body.getD .skip
def q36 : {q // compF hint36 b36 = some q} := by refine ⟨?q, ?h⟩; case h => conv => lhs; cbv
def q36_0 : {q // compL hint36 b36 0 = some q} := by refine ⟨?q, ?h⟩; case h => conv => lhs; cbv
attribute [go_sem] q36 q36_0
theorem ge36 {ρ : Type} (ds : List D) (H : List Ob) (κ : List T × List Ob → Option ρ) (hl : ds.length = 1) : cbK (call 36 ds H) κ = go P hints hint36 b36 q36.1 (enter ds H) (kLv P false [.tmp 2] H.length κ) :=
  ge_of (by decide) rfl rfl Tryz.func36 (by kernel_rfl) q36.2 rfl rfl (by kernel_rfl) rfl (by kernel_rfl) (by kernel_rfl) ds H κ hl rfl
@[go_sem] theorem xt37 : extOf P 37 = none := extOf_none Tryz.func37 (by kernel_rfl)
noncomputable def b37 : Code := Tryz.f37.body.getD .skip
def q37 : {q // compF hint37 b37 = some q} := by refine ⟨?q, ?h⟩; case h => conv => lhs; cbv
def q37_0 : {q // compL hint37 b37 0 = some q} := by refine ⟨?q, ?h⟩; case h => conv => lhs; cbv
attribute [go_sem] q37 q37_0
theorem ge37 {ρ : Type} (ds : List D) (H : List Ob) (κ : List T × List Ob → Option ρ) (hl : ds.length = 1) : cbK (call 37 ds H) κ = go P hints hint37 b37 q37.1 (enter ds H) (kLv P false [.tmp 2, .tmp 3] H.length κ) :=
  ge_of (by decide) rfl rfl Tryz.func37 (by kernel_rfl) q37.2 rfl rfl (by kernel_rfl) rfl (by kernel_rfl) (by kernel_rfl) ds H κ hl rfl
@[go_sem] theorem xt49 : extOf P 49 = none := extOf_none Tryz.func49 (by kernel_rfl)
noncomputable def b49 : Code := Tryz.f49.body.getD .skip
def q49 : {q // compF hint49 b49 = some q} := by refine ⟨?q, ?h⟩; case h => conv => lhs; cbv
attribute [go_sem] q49
theorem ge49 {ρ : Type} (ds : List D) (H : List Ob) (κ : List T × List Ob → Option ρ) (hl : ds.length = 2) : cbK (call 49 ds H) κ = go P hints hint49 b49 q49.1 (enter ds H) (kLv P false [.tmp 4] H.length κ) :=
  ge_of (by decide) rfl rfl Tryz.func49 (by kernel_rfl) q49.2 rfl rfl (by kernel_rfl) rfl (by kernel_rfl) (by kernel_rfl) ds H κ hl rfl
@[go_sem] theorem xt50 : extOf P 50 = none := extOf_none Tryz.func50 (by kernel_rfl)
noncomputable def b50 : Code := Tryz.f50.body.getD .skip
def q50 : {q // compF hint50 b50 = some q} := by refine ⟨?q, ?h⟩; case h => conv => lhs; cbv
def q50_0 : {q // compL hint50 b50 0 = some q} := by refine ⟨?q, ?h⟩; case h => conv => lhs; cbv
attribute [go_sem] q50 q50_0
theorem ge50 {ρ : Type} (ds : List D) (H : List Ob) (κ : List T × List Ob → Option ρ) (hl : ds.length = 4) : cbK (call 50 ds H) κ = go P hints hint50 b50 q50.1 (enter ds H) (kLv P false [.tmp 8] H.length κ) :=
  ge_of (by decide) rfl rfl Tryz.func50 (by kernel_rfl) q50.2 rfl rfl (by kernel_rfl) rfl (by kernel_rfl) (by kernel_rfl) ds H κ hl rfl
@[go_sem] theorem xt53 : extOf P 53 = none := extOf_none Tryz.func53 (by kernel_rfl)
noncomputable def b53 : Code := Tryz.f53.body.getD .skip
def q53 : {q // compF hint53 b53 = some q} := by refine ⟨?q, ?h⟩; case h => conv => lhs; cbv
attribute [go_sem] q53
theorem ge53 {ρ : Type} (ds : List D) (H : List Ob) (κ : List T × List Ob → Option ρ) (hl : ds.length = 1) : cbK (call 53 ds H) κ = go P hints hint53 b53 q53.1 (enter ds H) (kLv P false [.tmp 2] H.length κ) :=
  ge_of (by decide) rfl rfl Tryz.func53 (by kernel_rfl) q53.2 rfl rfl (by kernel_rfl) rfl (by kernel_rfl) (by kernel_rfl) ds H κ hl rfl
@[go_sem] theorem xt77 : extOf P 77 = none := extOf_none Tryz.func77 (by kernel_rfl)
noncomputable def b77 : Code := Tryz.f77.body.getD .skip
def q77 : {q // compF hint77 b77 = some q} := by refine ⟨?q, ?h⟩; case h => conv => lhs; cbv
attribute [go_sem] q77
theorem ge77 {ρ : Type} (ds : List D) (H : List Ob) (κ : List T × List Ob → Option ρ) (hl : ds.length = 2) : cbK (call 77 ds H) κ = go P hints hint77 b77 q77.1 (enter ds H) (kLv P false [.tmp 4] H.length κ) :=
  ge_of (by decide) rfl rfl Tryz.func77 (by kernel_rfl) q77.2 rfl rfl (by kernel_rfl) rfl (by kernel_rfl) (by kernel_rfl) ds H κ hl rfl
@[go_sem] theorem xt82 : extOf P 82 = none := extOf_none Tryz.func82 (by kernel_rfl)
noncomputable def b82 : Code := Tryz.f82.body.getD .skip
def q82 : {q // compF hint82 b82 = some q} := by refine ⟨?q, ?h⟩; case h => conv => lhs; cbv
attribute [go_sem] q82
theorem ge82 {ρ : Type} (ds : List D) (H : List Ob) (κ : List T × List Ob → Option ρ) (hl : ds.length = 2) : cbK (call 82 ds H) κ = go P hints hint82 b82 q82.1 (enter ds H) (kLv P false [.tmp 4] H.length κ) :=
  ge_of (by decide) rfl rfl Tryz.func82 (by kernel_rfl) q82.2 rfl rfl (by kernel_rfl) rfl (by kernel_rfl) (by kernel_rfl) ds H κ hl rfl
@[go_sem] theorem xt83 : extOf P 83 = none := extOf_none Tryz.func83 (by kernel_rfl)
noncomputable def b83 : Code := Tryz.f83.body.getD .skip
def q83 : {q // compF hint83 b83 = some q} := by refine ⟨?q, ?h⟩; case h => conv => lhs; cbv
attribute [go_sem] q83
theorem ge83 {ρ : Type} (ds : List D) (H : List Ob) (κ : List T × List Ob → Option ρ) (hl : ds.length = 2) : cbK (call 83 ds H) κ = go P hints hint83 b83 q83.1 (enter ds H) (kLv P false [.tmp 4] H.length κ) :=
  ge_of (by decide) rfl rfl Tryz.func83 (by kernel_rfl) q83.2 rfl rfl (by kernel_rfl) rfl (by kernel_rfl) (by kernel_rfl) ds H κ hl rfl
@[go_sem] theorem xt121 : extOf P 121 = some "internal/bytealg.IndexByteString" := extOf_some Tryz.func121 (by kernel_rfl) (by kernel_rfl) (by kernel_rfl)
@[go_sem] theorem xt125 : extOf P 125 = some "internal/bytealg.CountString" := extOf_some Tryz.func125 (by kernel_rfl) (by kernel_rfl) (by kernel_rfl)
end Go.Trc
