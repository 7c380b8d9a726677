/-
  NARROWER THAN 'FOR EVERY INPUT', by the rows' own cells (each row's printed sentence says how): FireDoes: laid · FireMoves: laid · FireLost: laid · FireAlone: laid · FireFollows: laid · FireRight: laid.
  DERIVED. THE GIVEN ROWS OF THIS SEAT. 6 by the template 'for every input the law returns true; each argument reads behind the call as it read before'; 0 by the template 'total and deterministic' (their statements: YteeabnledfmpjaaGreatDoorTotals.lean).
  GIVEN WITH THE SEED: the statements are not yours to turn. If you find one false, say at which input.
  Laid BY PROGRAM, IN A SANDBOX (cutbox-rows.mjs): the forced cells as the released guide's own fill.sh prints them over the translation 10e4bc1f19c93b47… (all of the seat's roots in one cut). By AI agents, Wed Nov 11 2026. No macro, syntax, notation, axiom, sorry.
-/
import Derived.Test.YteeabnledfmpjaaGreatDoorChecked
import GoSem.Claim
import GoSem.ClaimJoined
import GoSem.ClaimMapViews
import Derived.JoinedTies
import Derived.KernelRfl
namespace Go.Proofs.YteeabnledfmpjaaGreatDoor
/- THE CELL 'sum', in the pinned program and in every row, IS THE sha256 OF THE DUMP (.gsa) THAT YteeabnledfmpjaaGreatDoorProg.lean LOADS. Nothing in Lean hashes anything: it is a label: what it is worth is what the hold of that sum in a sandbox is worth. -/
noncomputable def Tryz.pinned : Pinned := { name := "yteeabnledfmpjaagreatdoor", sum := "10e4bc1f19c93b4709236e335ba84bb6b3445f0e2866b28f9e048123941557cc", checked := Tryz.checked }
namespace Rows
def none {H : Type} : Left H := { results := [], args := [] }

/- WHAT THE LISTED PACKAGE-LEVEL VARIABLES READ AS WHEN THE CALL BEGINS. Each datum BY PROGRAM (the guide's laid-datum.mjs) off the statement by which the dump's own 'gosem.cut.vars' lays the variable. In a bare row this is a premise. The card (YteeabnledfmpjaaGreatDoorCards.lean) ties it to the program's text. -/
def laid_lariat_lex_own {H : Type} : DataW H := .agg [.lit (.string [115, 101, 108, 102]), .lit (.string [110, 111, 110, 101]), .lit (.string [108, 101, 110]), .lit (.string [97, 116])]

/-- 'lariatlaw20.FireDoes': WHATEVER THE INPUT: true; the input reads as it did. -/
def fireDoesSpec : ChangeSpec := { name := "fireDoes", fn := fun _ => fun
  | [d1, d2, d3] => { results := [.lit (.bool true)], args := [d1, d2, d3] }
  | _ => none }
def fireDoesRow : OpenClaim := { program := "yteeabnledfmpjaagreatdoor", sum := "10e4bc1f19c93b4709236e335ba84bb6b3445f0e2866b28f9e048123941557cc", func := "lariat/lariatlaw20.FireDoes", spec := "fireDoes", unfollowed := true, recurses := true, named := ["lariat/lex.own"], apart := false, laid := [("lariat/lex.own", laid_lariat_lex_own)] }
def FireDoesSaid : Prop := fireDoesRow.holds Tryz.pinned (OpenSpec.ofChange fireDoesSpec)

/-- ITS FALSE NEIGHBOUR: 'it returns false'. Refute it at one input. -/
def fireDoesWrong : ChangeSpec := { name := "fireDoes", fn := fun _ => fun
  | [d1, d2, d3] => { results := [.lit (.bool false)], args := [d1, d2, d3] }
  | _ => none }
def FireDoesWrongFalsely : Prop := fireDoesRow.holds Tryz.pinned (OpenSpec.ofChange fireDoesWrong)

/-- 'lariatlaw20.FireMoves': WHATEVER THE INPUT: true; the input reads as it did. -/
def fireMovesSpec : ChangeSpec := { name := "fireMoves", fn := fun _ => fun
  | [d1, d2] => { results := [.lit (.bool true)], args := [d1, d2] }
  | _ => none }
def fireMovesRow : OpenClaim := { program := "yteeabnledfmpjaagreatdoor", sum := "10e4bc1f19c93b4709236e335ba84bb6b3445f0e2866b28f9e048123941557cc", func := "lariat/lariatlaw20.FireMoves", spec := "fireMoves", unfollowed := true, recurses := true, named := ["lariat/lex.own"], apart := false, laid := [("lariat/lex.own", laid_lariat_lex_own)] }
def FireMovesSaid : Prop := fireMovesRow.holds Tryz.pinned (OpenSpec.ofChange fireMovesSpec)

/-- ITS FALSE NEIGHBOUR: 'it returns false'. Refute it at one input. -/
def fireMovesWrong : ChangeSpec := { name := "fireMoves", fn := fun _ => fun
  | [d1, d2] => { results := [.lit (.bool false)], args := [d1, d2] }
  | _ => none }
def FireMovesWrongFalsely : Prop := fireMovesRow.holds Tryz.pinned (OpenSpec.ofChange fireMovesWrong)

/-- 'lariatlaw20.FireLost': WHATEVER THE INPUT: true; the input reads as it did. -/
def fireLostSpec : ChangeSpec := { name := "fireLost", fn := fun _ => fun
  | [d1, d2, d3] => { results := [.lit (.bool true)], args := [d1, d2, d3] }
  | _ => none }
def fireLostRow : OpenClaim := { program := "yteeabnledfmpjaagreatdoor", sum := "10e4bc1f19c93b4709236e335ba84bb6b3445f0e2866b28f9e048123941557cc", func := "lariat/lariatlaw20.FireLost", spec := "fireLost", unfollowed := true, recurses := true, named := ["lariat/lex.own"], apart := false, laid := [("lariat/lex.own", laid_lariat_lex_own)] }
def FireLostSaid : Prop := fireLostRow.holds Tryz.pinned (OpenSpec.ofChange fireLostSpec)

/-- ITS FALSE NEIGHBOUR: 'it returns false'. Refute it at one input. -/
def fireLostWrong : ChangeSpec := { name := "fireLost", fn := fun _ => fun
  | [d1, d2, d3] => { results := [.lit (.bool false)], args := [d1, d2, d3] }
  | _ => none }
def FireLostWrongFalsely : Prop := fireLostRow.holds Tryz.pinned (OpenSpec.ofChange fireLostWrong)

/-- 'lariatlaw20.FireAlone': WHATEVER THE INPUT: true; the input reads as it did. -/
def fireAloneSpec : ChangeSpec := { name := "fireAlone", fn := fun _ => fun
  | [d1, d2] => { results := [.lit (.bool true)], args := [d1, d2] }
  | _ => none }
def fireAloneRow : OpenClaim := { program := "yteeabnledfmpjaagreatdoor", sum := "10e4bc1f19c93b4709236e335ba84bb6b3445f0e2866b28f9e048123941557cc", func := "lariat/lariatlaw20.FireAlone", spec := "fireAlone", unfollowed := true, recurses := true, named := ["lariat/lex.own"], apart := false, laid := [("lariat/lex.own", laid_lariat_lex_own)] }
def FireAloneSaid : Prop := fireAloneRow.holds Tryz.pinned (OpenSpec.ofChange fireAloneSpec)

/-- ITS FALSE NEIGHBOUR: 'it returns false'. Refute it at one input. -/
def fireAloneWrong : ChangeSpec := { name := "fireAlone", fn := fun _ => fun
  | [d1, d2] => { results := [.lit (.bool false)], args := [d1, d2] }
  | _ => none }
def FireAloneWrongFalsely : Prop := fireAloneRow.holds Tryz.pinned (OpenSpec.ofChange fireAloneWrong)

/-- 'lariatlaw20.FireFollows': WHATEVER THE INPUT: true; the input reads as it did. -/
def fireFollowsSpec : ChangeSpec := { name := "fireFollows", fn := fun _ => fun
  | [d1, d2, d3] => { results := [.lit (.bool true)], args := [d1, d2, d3] }
  | _ => none }
def fireFollowsRow : OpenClaim := { program := "yteeabnledfmpjaagreatdoor", sum := "10e4bc1f19c93b4709236e335ba84bb6b3445f0e2866b28f9e048123941557cc", func := "lariat/lariatlaw20.FireFollows", spec := "fireFollows", unfollowed := true, recurses := true, named := ["lariat/lex.own"], apart := false, laid := [("lariat/lex.own", laid_lariat_lex_own)] }
def FireFollowsSaid : Prop := fireFollowsRow.holds Tryz.pinned (OpenSpec.ofChange fireFollowsSpec)

/-- ITS FALSE NEIGHBOUR: 'it returns false'. Refute it at one input. -/
def fireFollowsWrong : ChangeSpec := { name := "fireFollows", fn := fun _ => fun
  | [d1, d2, d3] => { results := [.lit (.bool false)], args := [d1, d2, d3] }
  | _ => none }
def FireFollowsWrongFalsely : Prop := fireFollowsRow.holds Tryz.pinned (OpenSpec.ofChange fireFollowsWrong)

/-- 'lariatlaw20.FireRight': WHATEVER THE INPUT: true; the input reads as it did. -/
def fireRightSpec : ChangeSpec := { name := "fireRight", fn := fun _ => fun
  | [d1, d2] => { results := [.lit (.bool true)], args := [d1, d2] }
  | _ => none }
def fireRightRow : OpenClaim := { program := "yteeabnledfmpjaagreatdoor", sum := "10e4bc1f19c93b4709236e335ba84bb6b3445f0e2866b28f9e048123941557cc", func := "lariat/lariatlaw20.FireRight", spec := "fireRight", unfollowed := true, recurses := true, named := ["lariat/lex.own"], apart := false, laid := [("lariat/lex.own", laid_lariat_lex_own)] }
def FireRightSaid : Prop := fireRightRow.holds Tryz.pinned (OpenSpec.ofChange fireRightSpec)

/-- ITS FALSE NEIGHBOUR: 'it returns false'. Refute it at one input. -/
def fireRightWrong : ChangeSpec := { name := "fireRight", fn := fun _ => fun
  | [d1, d2] => { results := [.lit (.bool false)], args := [d1, d2] }
  | _ => none }
def FireRightWrongFalsely : Prop := fireRightRow.holds Tryz.pinned (OpenSpec.ofChange fireRightWrong)

/- THE SECOND FORM. 'bulk': how many values and letters a reading holds, each counted each time it is reached (what is shared counts as often as it is met; a slice's spare places count too). A statement '..UptoSaid' is the law's where the arguments, and the package variables that the reading takes, are together of bulk at most 1048576: NARROWER than '..Said'. Prove '..Said' where nothing that the law and all that it calls make is longer than what came in: it says more and counts as full. Else prove '..UptoSaid'. A law counts once. -/
mutual
def uptoBulk {H : Type} : DataW H → Nat
  | .lit (.string bytes) => bytes.length + 1
  | .lit _ => 1
  | .nil => 1
  | .ptr d => uptoBulk d + 1
  | .slice elems spare => uptoBulkAll elems + uptoBulkAll spare + 1
  | .agg parts => uptoBulkAll parts + 1
  | .iface _ d => uptoBulk d + 1
  | .map entries => uptoBulkEntries entries + 1
  | .held _ => 1
def uptoBulkAll {H : Type} : List (DataW H) → Nat
  | [] => 0
  | d :: r => uptoBulk d + uptoBulkAll r
def uptoBulkEntries {H : Type} : List (Lit × DataW H) → Nat
  | [] => 0
  | x :: r => uptoBulkEntry x + uptoBulkEntries r
def uptoBulkEntry {H : Type} : Lit × DataW H → Nat
  | (.string bytes, d) => bytes.length + uptoBulk d + 1
  | (_, d) => uptoBulk d + 1
 end
def uptoSmall : (H : Type) → List (DataW H) → Bool := fun _ ds => decide (uptoBulkAll ds ≤ 1048576)
def OpenSpec.upto (s : _root_.Go.ChangeSpec) : _root_.Go.OpenSpec := { _root_.Go.OpenSpec.ofChange s with cond := some uptoSmall }

/-- 'lariatlaw20.FireDoes', WHERE WHAT IT READS IS OF BULK AT MOST 1048576: true; the input reads as it did. -/
def fireDoesUptoRow : OpenClaim := { program := "yteeabnledfmpjaagreatdoor", sum := "10e4bc1f19c93b4709236e335ba84bb6b3445f0e2866b28f9e048123941557cc", func := "lariat/lariatlaw20.FireDoes", spec := "fireDoes", unfollowed := true, recurses := true, named := ["lariat/lex.own"], apart := false, laid := [("lariat/lex.own", laid_lariat_lex_own)], narrowed := true }
def FireDoesUptoSaid : Prop := fireDoesUptoRow.holds Tryz.pinned (OpenSpec.upto fireDoesSpec)

/-- 'lariatlaw20.FireMoves', WHERE WHAT IT READS IS OF BULK AT MOST 1048576: true; the input reads as it did. -/
def fireMovesUptoRow : OpenClaim := { program := "yteeabnledfmpjaagreatdoor", sum := "10e4bc1f19c93b4709236e335ba84bb6b3445f0e2866b28f9e048123941557cc", func := "lariat/lariatlaw20.FireMoves", spec := "fireMoves", unfollowed := true, recurses := true, named := ["lariat/lex.own"], apart := false, laid := [("lariat/lex.own", laid_lariat_lex_own)], narrowed := true }
def FireMovesUptoSaid : Prop := fireMovesUptoRow.holds Tryz.pinned (OpenSpec.upto fireMovesSpec)

/-- 'lariatlaw20.FireLost', WHERE WHAT IT READS IS OF BULK AT MOST 1048576: true; the input reads as it did. -/
def fireLostUptoRow : OpenClaim := { program := "yteeabnledfmpjaagreatdoor", sum := "10e4bc1f19c93b4709236e335ba84bb6b3445f0e2866b28f9e048123941557cc", func := "lariat/lariatlaw20.FireLost", spec := "fireLost", unfollowed := true, recurses := true, named := ["lariat/lex.own"], apart := false, laid := [("lariat/lex.own", laid_lariat_lex_own)], narrowed := true }
def FireLostUptoSaid : Prop := fireLostUptoRow.holds Tryz.pinned (OpenSpec.upto fireLostSpec)

/-- 'lariatlaw20.FireAlone', WHERE WHAT IT READS IS OF BULK AT MOST 1048576: true; the input reads as it did. -/
def fireAloneUptoRow : OpenClaim := { program := "yteeabnledfmpjaagreatdoor", sum := "10e4bc1f19c93b4709236e335ba84bb6b3445f0e2866b28f9e048123941557cc", func := "lariat/lariatlaw20.FireAlone", spec := "fireAlone", unfollowed := true, recurses := true, named := ["lariat/lex.own"], apart := false, laid := [("lariat/lex.own", laid_lariat_lex_own)], narrowed := true }
def FireAloneUptoSaid : Prop := fireAloneUptoRow.holds Tryz.pinned (OpenSpec.upto fireAloneSpec)

/-- 'lariatlaw20.FireFollows', WHERE WHAT IT READS IS OF BULK AT MOST 1048576: true; the input reads as it did. -/
def fireFollowsUptoRow : OpenClaim := { program := "yteeabnledfmpjaagreatdoor", sum := "10e4bc1f19c93b4709236e335ba84bb6b3445f0e2866b28f9e048123941557cc", func := "lariat/lariatlaw20.FireFollows", spec := "fireFollows", unfollowed := true, recurses := true, named := ["lariat/lex.own"], apart := false, laid := [("lariat/lex.own", laid_lariat_lex_own)], narrowed := true }
def FireFollowsUptoSaid : Prop := fireFollowsUptoRow.holds Tryz.pinned (OpenSpec.upto fireFollowsSpec)

/-- 'lariatlaw20.FireRight', WHERE WHAT IT READS IS OF BULK AT MOST 1048576: true; the input reads as it did. -/
def fireRightUptoRow : OpenClaim := { program := "yteeabnledfmpjaagreatdoor", sum := "10e4bc1f19c93b4709236e335ba84bb6b3445f0e2866b28f9e048123941557cc", func := "lariat/lariatlaw20.FireRight", spec := "fireRight", unfollowed := true, recurses := true, named := ["lariat/lex.own"], apart := false, laid := [("lariat/lex.own", laid_lariat_lex_own)], narrowed := true }
def FireRightUptoSaid : Prop := fireRightUptoRow.holds Tryz.pinned (OpenSpec.upto fireRightSpec)

end Rows
end Go.Proofs.YteeabnledfmpjaaGreatDoor
