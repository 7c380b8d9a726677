/- The abstract machine: what the operations that make and change contents do on values that are written out. -/
import Derived.Test.YtabkianhbgpfgaaAmDraw
namespace Go.Am
open Go
set_option linter.unusedSimpArgs false
set_option linter.unusedVariables false
section
variable {P : Program} {nv dst len : Nat} {lit : Bool} {t : TypeId} {k : Wk}
@[go_sem] theorem bs_eq {parts : List (Nat × SV)} : buildSliceE P nv dst lit t len parts k = (elemOf P t).bind fun e => (zeroOf P e).bind fun z => (absorbP nv parts k).bind fun q =>
    if 0 < P.cellsOf e ∧ q.1.all (fun p => p.2.nc == P.cellsOf e) = true ∧ len * P.cellsOf e ≤ 16777216 ∧ z.nc = P.cellsOf e then
      (setAt (List.replicate len (T.ofZero z)) q.1).bind fun es =>
        if lit = true then (if parts.all (fun p => isD p.2) = true then (T.frzs false es).bind fun ds => some (.d (.sl false ds), q.2) else none)
        else some (.bor (.l dst 0) [] 0 len, q.2.new dst 0 (.own es))
    else none := by
  simp only [buildSliceE, Option.map_eq_bind]; rfl
@[go_sem] theorem ab1_p {r : Root} {q : Nat × Nat} {p : Path} {off m : Nat} : absorb1 nv (.bor r (q :: p) off m) k = (k.get r).bind fun c => (c.at (q :: p)).bind fun nd => match nd with
      | .own es => (T.frzs false es).bind fun l => (c.put (q :: p) (.d (.sl false l))).bind fun c' => (k.set r c').bind fun (k : Wk) => some (.d (.sl false (win l off m)), k.tell (.frz r (q :: p) l))
      | _ => none := by
  cases r <;> simp only [absorb1, Option.map_eq_bind] <;> rfl
@[go_sem] theorem absP_nil : absorbP nv [] k = some ([], k) := rfl
@[go_sem] theorem absP_cons {i : Nat} {v : SV} {r : List (Nat × SV)} : absorbP nv ((i, v) :: r) k = (absorb nv v k).bind fun p => (absorbP nv r p.2).bind fun q => some ((i, p.1) :: q.1, q.2) := by
  simp only [absorbP, Option.map_eq_bind]; rfl
@[go_sem] theorem setAt_nil {l : List T} : setAt l [] = some l := rfl
@[go_sem] theorem setAt_cons {l : List T} {i : Nat} {x : T} {r : List (Nat × T)} : setAt l ((i, x) :: r) = if i < l.length then setAt (l.set i x) r else none := rfl
@[go_sem] theorem isD_d {x : D} : isD (.d x) = true := rfl
@[go_sem] theorem news_nils : newsE nv (.d .nils) k = some ([], k) := rfl
@[go_sem] theorem news_sl {b : Bool} {l : List D} : newsE nv (.d (.sl b l)) k = some (l.map .d, k) := rfl
@[go_sem] theorem news_l {n j off m : Nat} : newsE nv (.bor (.l n j) [] off m) k = (k.get (.l n j)).bind fun c => match c with
    | .own es => if nv ≤ n ∧ off = 0 ∧ m = es.length then (k.set (.l n j) .dead).bind fun (k : Wk) => some (es, k.tell (.kill (.l n j) []))
          else if plainT (win es off m) = true then some (win es off m, k) else none
    | _ => none := by
  simp only [newsE]
  cases k.get (.l n j) with
  | none => rfl
  | some c =>
    simp only [Option.bind_some, at_nil]
    cases c with
    | own es => simp only [Option.map_eq_bind]; rfl
    | _ => rfl
@[go_sem] theorem olds_nils {n : Nat} {news : List T} : oldsE n news (.d .nils) k = some ([], k) := rfl
@[go_sem] theorem olds_bor {n off m : Nat} {news : List T} {r : Root} {p : Path} : oldsE n news (.bor r p off m) k = if off = 0 then
      (k.get r).bind fun c => (c.at p).bind fun nd => match nd with
        | .own es => if m ≤ es.length ∧ uniform n es = true ∧ okLen m es news = true then (c.put p .dead).bind fun c' => (k.set r c').bind fun (k : Wk) => some (es.take m, k.tell (.kill r p)) else none
        | _ => none
    else none := by
  simp only [oldsE, Option.map_eq_bind]
  try rfl
@[go_sem] theorem app_eq {s x : SV} : appendE P nv dst t s x k = (elemOf P t).bind fun e => (zeroOf P e).bind fun z => (newsE nv x k).bind fun q =>
    if 0 < P.cellsOf e ∧ uniform (P.cellsOf e) q.1 = true ∧ z.nc = P.cellsOf e then
      (oldsE (P.cellsOf e) q.1 (trv q.2.tr s) q.2).bind fun o =>
        if (o.1.length + q.1.length) * P.bytesOf e ≤ 140737488355328 ∧ o.1.length + q.1.length ≤ 9223372036854775807 then
          some (.bor (.l dst 0) [] 0 (o.1.length + q.1.length), o.2.new dst 0 (.own (o.1 ++ q.1)))
        else none
    else none := by
  simp only [appendE, List.length_append]
@[go_sem] theorem make_eq {a b : IntKind} {n m : Int} : makeE P dst t (.d (.int a n)) (.d (.int b m)) k = (elemOf P t).bind fun e => (zeroOf P e).bind fun z =>
      if 0 ≤ n ∧ n ≤ m ∧ (n = 0 → m = 0) ∧ (P.bytesOf e : Int) * m ≤ 281474976710656 ∧ m ≤ 9223372036854775807 ∧ 0 < P.cellsOf e ∧ z.nc = P.cellsOf e then
        some (.bor (.l dst 0) [] 0 n.toNat, k.new dst 0 (.own (List.replicate n.toNat (T.ofZero z))))
      else none := rfl
/-- a store, at a place -/
def stoAt (P : Program) (t : TypeId) (a : SV) (x : T) (k : Wk) : Option Wk :=
  match a with
  | .loc r p i off =>
    if x.nc = P.cellsOf t ∧ 0 < x.nc then
      (k.get r).bind fun c => (c.at p).bind fun nd =>
        match nd with
        | .own es => (es[i]?).bind fun e =>
          if off + x.nc ≤ e.nc then
            (c.put p (.own (es.set i (if off = 0 ∧ x.nc = e.nc then x else e.setCells off x.cells)))).bind fun c' =>
              (k.set r c').bind fun (k : Wk) => some (if isOwn e = true then k.tell (.killN r (p.length + 1)) else k)
          else none
        | _ => none
    else none
  | _ => none
@[go_sem] theorem store_eq {a v : SV} : storeE P nv t a v k = (absorb nv v k).bind fun q => stoAt P t (asLoc (trv q.2.tr a)) q.1 q.2 := by
  simp only [storeE, Option.map_eq_bind]
  try rfl
@[go_sem] theorem asLoc_loc {r : Root} {p : Path} {i o : Nat} : asLoc (.loc r p i o) = .loc r p i o := rfl
@[go_sem] theorem asLoc_ptr {o : Nat} : asLoc (.d (.ptr o)) = .loc (.o o) [] 0 0 := rfl
@[go_sem] theorem stoAt_loc {r : Root} {p : Path} {i off : Nat} {x : T} : stoAt P t (.loc r p i off) x k = if x.nc = P.cellsOf t ∧ 0 < x.nc then
      (k.get r).bind fun c => (c.at p).bind fun nd =>
        match nd with
        | .own es => (es[i]?).bind fun e =>
          if off + x.nc ≤ e.nc then
            (c.put p (.own (es.set i (if off = 0 ∧ x.nc = e.nc then x else e.setCells off x.cells)))).bind fun c' =>
              (k.set r c').bind fun (k : Wk) => some (if isOwn e = true then k.tell (.killN r (p.length + 1)) else k)
          else none
        | _ => none
    else none := rfl
@[go_sem] theorem build_eq {parts : List (Nat × SV)} : buildE P t parts = match zeroOf P t with
    | some (.agg z) => (placesOf P t).bind fun pl => (fillE pl (z.map .d) parts).bind fun l => some (SV.mkAgg l)
    | _ => none := by
  simp only [buildE, Option.map_eq_bind]; rfl
@[go_sem] theorem fillE_nil {pl : Nat ⊕ List (Nat × Nat)} {cs : List SV} : fillE pl cs [] = some cs := rfl
@[go_sem] theorem fillE_cons {pl : Nat ⊕ List (Nat × Nat)} {cs : List SV} {i : Nat} {v : SV} {r : List (Nat × SV)} : fillE pl cs ((i, v) :: r) = (placeAt pl i).bind fun q => if v.solid = true ∧ v.nc = q.2 ∧ q.1 + q.2 ≤ cs.length then fillE pl (cs.take q.1 ++ v.cells ++ cs.drop (q.1 + q.2)) r else none := rfl
/-! what is told of -/
section
variable {r r' : Root} {p p' : Path} {off i n m : Nat} {l : List D} {a b : Nat × Nat}
@[go_sem] theorem kill_bor : Tr.sv (.kill r' p') (.bor r p off m) = if r = r' then (if p = p' then .dead else if p'.length < p.length then .dead else .bor r p off m) else .bor r p off m := by simp only [Tr.sv]
@[go_sem] theorem killN_bor : Tr.sv (.killN r' n) (.bor r p off m) = if r = r' ∧ n ≤ p.length then .dead else .bor r p off m := by simp only [Tr.sv]
@[go_sem] theorem frz_bor : Tr.sv (.frz r' p' l) (.bor r p off m) = if r = r' then (if p = p' then .d (.sl false ((l.drop off).take m)) else if p'.length < p.length then .dead else .bor r p off m) else .bor r p off m := by simp only [Tr.sv]
@[go_sem] theorem ren_bor : Tr.sv (.ren a b) (.bor r p off m) = if r = .l a.1 a.2 then .bor (.l b.1 b.2) p off m else .bor r p off m := by simp only [Tr.sv]
@[go_sem] theorem killO_borL {x y : Nat} : Tr.sv .killO (.bor (.l x y) p off m) = .bor (.l x y) p off m := by simp only [Tr.sv]
@[go_sem] theorem killO_borO {x : Nat} : Tr.sv .killO (.bor (.o x) p off m) = .dead := by simp only [Tr.sv]
@[go_sem] theorem kill_loc : Tr.sv (.kill r' p') (.loc r p i off) = if r = r' then (if p = p' then .dead else if p'.length < p.length then .dead else .loc r p i off) else .loc r p i off := by simp only [Tr.sv]
@[go_sem] theorem killN_loc : Tr.sv (.killN r' n) (.loc r p i off) = if r = r' ∧ n ≤ p.length then .dead else .loc r p i off := by simp only [Tr.sv]
@[go_sem] theorem frz_loc : Tr.sv (.frz r' p' l) (.loc r p i off) = if r = r' then (if p = p' then .dead else if p'.length < p.length then .dead else .loc r p i off) else .loc r p i off := by simp only [Tr.sv]
@[go_sem] theorem ren_loc : Tr.sv (.ren a b) (.loc r p i off) = if r = .l a.1 a.2 then .loc (.l b.1 b.2) p i off else .loc r p i off := by simp only [Tr.sv]
@[go_sem] theorem killO_locL {x y : Nat} : Tr.sv .killO (.loc (.l x y) p i off) = .loc (.l x y) p i off := by simp only [Tr.sv]
@[go_sem] theorem killO_locN {x : Nat} : Tr.sv .killO (.loc (.o x) [] i off) = .loc (.o x) [] i off := by simp only [Tr.sv]
@[go_sem] theorem killO_locO {x : Nat} {q : Nat × Nat} : Tr.sv .killO (.loc (.o x) (q :: p) i off) = .dead := by simp only [Tr.sv]
end
/-! calls -/
section
variable {call : CallF} {h : Hint} {f : FuncId} {ds : List D} {b : Lend} {ct : List ((Nat × Nat) × T)} {H : List Ob} {tr : List Tr}
@[go_sem] theorem callE_mk : callE call h dst f ds b ⟨ct, H, tr⟩ = if h.keep.contains dst = true then
      (call f ds (lockAll H)).bind fun p => if p.2.length = H.length ∧ (b.sn = true → T.imms p.1 = true) then resE dst p.1 ⟨ct, H, tr⟩ else none
    else (call f ds (lockSome b.lk H)).bind fun p =>
      if (b.sn = true → T.imms p.1 = true ∧ obsImm p.2 = true) ∧ sameObs (lockSome b.lk H) p.2 = true then resE dst p.1 ⟨ct, unlock H b.lk p.2, tr ++ [.killO]⟩ else none := rfl
@[go_sem] theorem lockAll_nil : lockAll [] = [] := rfl
@[go_sem] theorem lockAll_cons {o : Ob} {r : List Ob} : lockAll (o :: r) = .lock :: lockAll r := rfl
@[go_sem] theorem lockAll_len {r : List Ob} : (lockAll r).length = r.length := by simp [lockAll]
@[go_sem] theorem lockSome_nil : lockSome [] H = H := rfl
@[go_sem] theorem unlock_nil {H' : List Ob} : unlock H [] H' = H' := rfl
@[go_sem] theorem lockSome_cons {n : Nat} {r : List Nat} : lockSome (n :: r) H = lockSome r (H.set n .lock) := rfl
@[go_sem] theorem unlock_cons {n : Nat} {r : List Nat} {H' : List Ob} : unlock H (n :: r) H' = unlock H r (match H[n]? with | some x => H'.set n x | none => H') := rfl
theorem sameObs_self : ∀ H : List Ob, sameObs H H = true
  | [] => rfl
  | .box c :: r => by simp [sameObs, sameObs_self r]
  | .map _ :: r => by simp [sameObs, sameObs_self r]
  | .lock :: r => by simp [sameObs, sameObs_self r]
@[go_sem] theorem sameObs_n {H' : List Ob} : sameObs [] H' = true := rfl
@[go_sem] theorem sameObs_b {c c' : T} {r r' : List Ob} : sameObs (.box c :: r) (.box c' :: r') = (c.nc == c'.nc && sameObs r r') := rfl
@[go_sem] theorem sameObs_m {c c' : List (D × T)} {r r' : List Ob} : sameObs (.map c :: r) (.map c' :: r') = sameObs r r' := rfl
@[go_sem] theorem sameObs_lk {r r' : List Ob} : sameObs (.lock :: r) (.lock :: r') = sameObs r r' := rfl
variable {x y z w : D}
@[go_sem] theorem resE_d : resE dst [.d x] k = some (.d x, k) := rfl
@[go_sem] theorem resE_d2 : resE dst [.d x, .d y] k = some (.tup [.d x, .d y], k) := rfl
@[go_sem] theorem resE_d3 : resE dst [.d x, .d y, .d z] k = some (.tup [.d x, .d y, .d z], k) := rfl
@[go_sem] theorem resE_d4 : resE dst [.d x, .d y, .d z, .d w] k = some (.tup [.d x, .d y, .d z, .d w], k) := rfl
@[go_sem] theorem sn1_d : snap1 nv (.d x) k b = some (x.norm, k, b) := rfl
@[go_sem] theorem sn1_l {n j off m : Nat} : snap1 nv (.bor (.l n j) [] off m) k b = (k.get (.l n j)).bind fun c => match c with
      | .own es => if nv ≤ n ∧ off = 0 ∧ m = es.length then (T.frzs false es).bind fun l => (k.set (.l n j) .dead).bind fun (k : Wk) => some (.sl false l, k.tell (.frz (.l n j) [] l), b)
          else (T.frzs true es).bind fun l => some (.sl true (win l off m), k, { b with sn := true })
      | _ => none := by
  simp only [snap1]
  cases k.get (.l n j) with
  | none => rfl
  | some c =>
    simp only [Option.bind_some, at_nil]
    cases c with
    | own es => simp only [Option.map_eq_bind]; rfl
    | _ => rfl
@[go_sem] theorem sn1_lp {n j off m : Nat} {q : Nat × Nat} {p : Path} : snap1 nv (.bor (.l n j) (q :: p) off m) k b = (k.get (.l n j)).bind fun c => (c.at (q :: p)).bind fun nd => match nd with
      | .own es => (T.frzs true es).bind fun l => some (.sl true (win l off m), k, { b with sn := true })
      | _ => none := by
  simp only [snap1, Option.map_eq_bind]; rfl
@[go_sem] theorem sn1_o {n off m : Nat} {p : Path} : snap1 nv (.bor (.o n) p off m) k b = (k.get (.o n)).bind fun c => (c.at p).bind fun nd => match nd with
      | .own es => (T.frzs true es).bind fun l => some (.sl true (win l off m), k, { sn := true, lk := n :: b.lk })
      | _ => none := by
  simp only [snap1, Option.map_eq_bind]; rfl
@[go_sem] theorem sn_agg {l : List SV} : snap nv (.agg l) k b = (snaps nv l k b).bind fun p => some (.agg p.1, p.2.1, p.2.2) := by simp only [snap, Option.map_eq_bind]; rfl
@[go_sem] theorem sns_nil : snaps nv [] k b = some ([], k, b) := rfl
@[go_sem] theorem sns_cons {v : SV} {r : List SV} : snaps nv (v :: r) k b = (snap1 nv (trv k.tr v) k b).bind fun p => (snaps nv r p.2.1 p.2.2).bind fun q => some (p.1 :: q.1, q.2.1, q.2.2) := by simp only [snaps, Option.map_eq_bind]; rfl
end
@[go_sem] theorem uniform_nil {n : Nat} : uniform n [] = true := rfl
@[go_sem] theorem uniform_cons {n : Nat} {x : T} {l : List T} : uniform n (x :: l) = (x.nc == n && uniform n l) := rfl
attribute [go_sem] trunc plainT placeAt SV.solid SV.nc SV.cells SV.mkAgg T.mkAgg T.setCells T.putCell T.cells T.ofZero T.ofD1 okLen isOwn SV.pures T.pures
end
end Go.Am
