/-
  NARROWER THAN 'FOR EVERY INPUT', by the rows' own cells (each row's printed sentence says how): SpaceLasso: laid · SpaceFind: laid.
  DERIVED. THE GIVEN ROWS OF THIS SEAT. 2 by the template 'for every input the law returns true; each argument reads behind the call as it read before'; 0 by the template 'total and deterministic' (their statements: YtpfcbkbdnfjbcaaGreatDoorTotals.lean).
  GIVEN WITH THE SEED: the statements are not yours to turn. If you find one false, say at which input.
  Laid BY PROGRAM, IN A SANDBOX (cutbox-rows.mjs): the forced cells as the released guide's own fill.sh prints them over the translation 4059403be8a7be9a… (all of the seat's roots in one cut). By AI agents, Wed Nov 11 2026. No macro, syntax, notation, axiom, sorry.
-/
import Derived.Test.YtpfcbkbdnfjbcaaGreatDoorChecked
import GoSem.Claim
import GoSem.ClaimJoined
import GoSem.ClaimMapViews
import Derived.JoinedTies
import Derived.KernelRfl
namespace Go.Proofs.YtpfcbkbdnfjbcaaGreatDoor
/- THE CELL 'sum', in the pinned program and in every row, IS THE sha256 OF THE DUMP (.gsa) THAT YtpfcbkbdnfjbcaaGreatDoorProg.lean LOADS. Nothing in Lean hashes anything: it is a label: what it is worth is what the hold of that sum in a sandbox is worth. -/
noncomputable def Tryz.pinned : Pinned := { name := "ytpfcbkbdnfjbcaagreatdoor", sum := "4059403be8a7be9a7c17ea8ca2d9b4c092aefee9541bbea20a27277c9794022a", checked := Tryz.checked }
namespace Rows
def none {H : Type} : Left H := { results := [], args := [] }

/- WHAT THE LISTED PACKAGE-LEVEL VARIABLES READ AS WHEN THE CALL BEGINS. Each datum BY PROGRAM (the guide's laid-datum.mjs) off the statement by which the dump's own 'gosem.cut.vars' lays the variable. In a bare row this is a premise. The card (YtpfcbkbdnfjbcaaGreatDoorCards.lean) ties it to the program's text. -/
def laid_lariat_lex_own {H : Type} : DataW H := .agg [.lit (.string [115, 101, 108, 102]), .lit (.string [110, 111, 110, 101]), .lit (.string [108, 101, 110]), .lit (.string [97, 116])]

/-- 'lariatlaw22.SpaceLasso': WHATEVER THE INPUT: true; the input reads as it did. -/
def spaceLassoSpec : ChangeSpec := { name := "spaceLasso", fn := fun _ => fun
  | [d1, d2] => { results := [.lit (.bool true)], args := [d1, d2] }
  | _ => none }
def spaceLassoRow : OpenClaim := { program := "ytpfcbkbdnfjbcaagreatdoor", sum := "4059403be8a7be9a7c17ea8ca2d9b4c092aefee9541bbea20a27277c9794022a", func := "lariat/lariatlaw22.SpaceLasso", spec := "spaceLasso", unfollowed := true, recurses := true, named := ["lariat/lex.own"], apart := false, laid := [("lariat/lex.own", laid_lariat_lex_own)] }
def SpaceLassoSaid : Prop := spaceLassoRow.holds Tryz.pinned (OpenSpec.ofChange spaceLassoSpec)

/-- ITS FALSE NEIGHBOUR: 'it returns false'. Refute it at one input. -/
def spaceLassoWrong : ChangeSpec := { name := "spaceLasso", fn := fun _ => fun
  | [d1, d2] => { results := [.lit (.bool false)], args := [d1, d2] }
  | _ => none }
def SpaceLassoWrongFalsely : Prop := spaceLassoRow.holds Tryz.pinned (OpenSpec.ofChange spaceLassoWrong)

/-- 'lariatlaw22.SpaceFind': WHATEVER THE INPUT: true; the input reads as it did. -/
def spaceFindSpec : ChangeSpec := { name := "spaceFind", fn := fun _ => fun
  | [d1, d2, d3] => { results := [.lit (.bool true)], args := [d1, d2, d3] }
  | _ => none }
def spaceFindRow : OpenClaim := { program := "ytpfcbkbdnfjbcaagreatdoor", sum := "4059403be8a7be9a7c17ea8ca2d9b4c092aefee9541bbea20a27277c9794022a", func := "lariat/lariatlaw22.SpaceFind", spec := "spaceFind", unfollowed := true, recurses := true, named := ["lariat/lex.own"], apart := false, laid := [("lariat/lex.own", laid_lariat_lex_own)] }
def SpaceFindSaid : Prop := spaceFindRow.holds Tryz.pinned (OpenSpec.ofChange spaceFindSpec)

/-- ITS FALSE NEIGHBOUR: 'it returns false'. Refute it at one input. -/
def spaceFindWrong : ChangeSpec := { name := "spaceFind", fn := fun _ => fun
  | [d1, d2, d3] => { results := [.lit (.bool false)], args := [d1, d2, d3] }
  | _ => none }
def SpaceFindWrongFalsely : Prop := spaceFindRow.holds Tryz.pinned (OpenSpec.ofChange spaceFindWrong)

/- THE SECOND FORM. 'bulk': how many values and letters a reading holds, each counted each time it is reached (what is shared counts as often as it is met; a slice's spare places count too). A statement '..UptoSaid' is the law's where the arguments, and the package variables that the reading takes, are together of bulk at most 1048576: NARROWER than '..Said'. Prove '..Said' where nothing that the law and all that it calls make is longer than what came in: it says more and counts as full. Else prove '..UptoSaid'. A law counts once. -/
mutual
def uptoBulk {H : Type} : DataW H → Nat
  | .lit (.string bytes) => bytes.length + 1
  | .lit _ => 1
  | .nil => 1
  | .ptr d => uptoBulk d + 1
  | .slice elems spare => uptoBulkAll elems + uptoBulkAll spare + 1
  | .agg parts => uptoBulkAll parts + 1
  | .iface _ d => uptoBulk d + 1
  | .map entries => uptoBulkEntries entries + 1
  | .held _ => 1
def uptoBulkAll {H : Type} : List (DataW H) → Nat
  | [] => 0
  | d :: r => uptoBulk d + uptoBulkAll r
def uptoBulkEntries {H : Type} : List (Lit × DataW H) → Nat
  | [] => 0
  | x :: r => uptoBulkEntry x + uptoBulkEntries r
def uptoBulkEntry {H : Type} : Lit × DataW H → Nat
  | (.string bytes, d) => bytes.length + uptoBulk d + 1
  | (_, d) => uptoBulk d + 1
 end
def uptoSmall : (H : Type) → List (DataW H) → Bool := fun _ ds => decide (uptoBulkAll ds ≤ 1048576)
def OpenSpec.upto (s : _root_.Go.ChangeSpec) : _root_.Go.OpenSpec := { _root_.Go.OpenSpec.ofChange s with cond := some uptoSmall }

/-- 'lariatlaw22.SpaceLasso', WHERE WHAT IT READS IS OF BULK AT MOST 1048576: true; the input reads as it did. -/
def spaceLassoUptoRow : OpenClaim := { program := "ytpfcbkbdnfjbcaagreatdoor", sum := "4059403be8a7be9a7c17ea8ca2d9b4c092aefee9541bbea20a27277c9794022a", func := "lariat/lariatlaw22.SpaceLasso", spec := "spaceLasso", unfollowed := true, recurses := true, named := ["lariat/lex.own"], apart := false, laid := [("lariat/lex.own", laid_lariat_lex_own)], narrowed := true }
def SpaceLassoUptoSaid : Prop := spaceLassoUptoRow.holds Tryz.pinned (OpenSpec.upto spaceLassoSpec)

/-- 'lariatlaw22.SpaceFind', WHERE WHAT IT READS IS OF BULK AT MOST 1048576: true; the input reads as it did. -/
def spaceFindUptoRow : OpenClaim := { program := "ytpfcbkbdnfjbcaagreatdoor", sum := "4059403be8a7be9a7c17ea8ca2d9b4c092aefee9541bbea20a27277c9794022a", func := "lariat/lariatlaw22.SpaceFind", spec := "spaceFind", unfollowed := true, recurses := true, named := ["lariat/lex.own"], apart := false, laid := [("lariat/lex.own", laid_lariat_lex_own)], narrowed := true }
def SpaceFindUptoSaid : Prop := spaceFindUptoRow.holds Tryz.pinned (OpenSpec.upto spaceFindSpec)

end Rows
end Go.Proofs.YtpfcbkbdnfjbcaaGreatDoor
