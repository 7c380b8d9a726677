/- The abstract machine: an operation, calls among them, against the machine's own rule. -/
import Derived.Test.YtabkianhbgpfgaaAmDo
namespace Go.Am
open Go Go.RowKit
set_option linter.unusedSimpArgs false
set_option linter.unusedVariables false

theorem VVs.append {c : Cx} : ∀ (l : List D) (vs : List Value) (l' : List D) (vs' : List Value), VVs c l vs → VVs c l' vs' → VVs c (l ++ l') (vs ++ vs')
  | [], _, _, _, hv, h' => by simp only [VVs] at hv; subst hv; simpa using h'
  | d :: ds, vs, l', vs', hv, h' => by
    simp only [VVs] at hv
    obtain ⟨v, r, rfl, h2, h3, h4⟩ := hv
    simp only [List.cons_append, VVs]
    exact ⟨v, _, rfl, h2, h3, VVs.append ds r l' vs' h4 h'⟩

section
variable {P : Program} {A : Av} {ρ : Nat → Nat} {S : Root → List Nat} {hd : Root → Value} {fl : List Nat} {k k' : Wk} {vals : List (SV × Value)} {w : World}

theorem run_callFunc_body {f : FuncId} {fn : Func} {args : Array Value} (hf : P.funcs[f]? = some fn) (hb : fn.body.isSome = true) (hn : (fn.name == "runtime.NumGoroutine") = false) : (callFunc f args).run P w = .ok (.enter f args) w := by
  obtain ⟨c, hb⟩ := Option.isSome_iff_exists.1 hb
  simp only [callFunc, Sem.run_bind, run_program, Result.andThen_ok, hf, hn, Bool.false_eq_true, if_false, hb]
  simp

theorem stepE_ok {call : CallF} (hc : CallOK P call) (h : KR A ρ S hd fl k vals w) (htr : k.tr = []) {hint : Hint} {dst : Nat} {ty : TypeId} {o : Oper} {σ : Operand → SV} {a : Act} {sv : SV} (hv : ∀ x ∈ o.op.operands, (σ x, a.eval x) ∈ vals) (e : stepE P call hint dst ty o.op σ k = some (sv, k'))
    {next : Act → World → Prop} {Q : Exit → Act → World → Prop} (hn : ∀ v w' ρ' S' hd', KR A ρ' S' hd' fl k' vals w' → SO (cxOf A k'.H.length ρ' S' fl w') k'.get hd' sv v → next (a.put o.dst v) w') : o.wp P a w next Q := by
  have plain : opE P hint dst ty o.op σ k = some (sv, k') → o.wp P a w next Q := fun e => by
    obtain ⟨n, v, w', ρ', S', hd', h1, h2, h3, h4⟩ := opE_ok h htr hv e
    unfold Oper.wp
    rw [h1]
    rcases h2 with rfl | ⟨rfl, rfl⟩
    · exact hn v w' ρ' S' hd' h3 h4
    · exact hn undef w' ρ' S' hd' h3 h4
  unfold stepE at e
  split at e
  · rename_i f args at_ hop
    split at e
    · rename_i g first cap hf
      simp only [Option.bind_eq_some_iff] at e
      obtain ⟨⟨ds, k1, b⟩, e1, e2⟩ := e
      have hfv := h.vals _ (hv f (by rw [hop]; simp [Op.operands, Call.operands]))
      rw [htr] at hfv
      simp only [trv, hf] at hfv
      have hfv' := VV.inv hfv (by simp)
      simp only [VC, List.cons.injEq, and_true] at hfv'
      obtain ⟨av, bv, hev, ha, hb⟩ := hfv'
      have hall : All2 (fun u v => (u, v) ∈ vals) (args.toList.map σ) (args.toList.map a.eval) := by
        have hso : ∀ x ∈ args.toList, (σ x, a.eval x) ∈ vals := fun x hx => hv x (by rw [hop]; simp [Op.operands, Call.operands]; exact .inr (by simpa using hx))
        revert hso
        generalize args.toList = ps
        induction ps with
        | nil => intro _; rfl
        | cons p ps ih => intro hso; exact ⟨_, _, rfl, hso p (by simp), ih (fun q hq => hso q (by simp [hq]))⟩
      obtain ⟨S1, g1, g2⟩ := snapA_ok _ _ ds k k1 S {} b h hall e1
      have hx : Ext (cxOf A k.H.length ρ S fl w) (cxS b.sn b.lk A k1.H.length ρ S1 fl w) := by
        have q := g1.ext
        have p := cxS_of (A := A) (ρ := ρ) (S := S) (fl := fl) (w := w) ({} : Lend).sn ({} : Lend).lk k.H.length
        exact ⟨fun t g hp => ⟨(q.pm t g (p.pm t g hp).1).1, rfl⟩, Nat.le_trans p.nO q.nO, fun _ _ => rfl⟩
      have hargs : VVs (cxS b.sn b.lk A k1.H.length ρ S1 fl w) (first ++ ds ++ cap) ((av ++ args.map a.eval) ++ bv).toList := by
        simp only [Array.toList_append, Array.toList_map]
        exact VVs.append _ _ _ _ (VVs.append _ _ _ _ (VVs.ext hx _ _ ha) g2) (VVs.ext hx _ _ hb)
      obtain ⟨⟨fn, f1, f2, f3⟩, hcalls⟩ := callE_ok hc g1.kr (VVs.canon (cxS_tf _ _ _) hargs) e2
      have hrun : (execOp a.eval o).run P w = .ok (.enter g ((av ++ args.map a.eval) ++ bv)) w := by
        obtain ⟨odst, op, oty, pos, after, guard⟩ := o
        simp only at hop
        subst hop
        simp only [execOp, resolve, hev, Deferred.ofValue, Sem.run_bind, Sem.run_pure, Result.andThen_ok, invoke]
        exact run_callFunc_body f1 f2 f3
      unfold Oper.wp
      rw [hrun]
      refine Calls.mono hcalls fun en w' he => ?_
      obtain ⟨v, rfl, ρ', S', hd', r1, r2⟩ := he
      exact hn v w' ρ' S' hd' r1 r2
    · cases e
  · exact plain e
end
end Go.Am
