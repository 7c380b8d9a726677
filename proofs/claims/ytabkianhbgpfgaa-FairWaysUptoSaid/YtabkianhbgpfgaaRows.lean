/-
  No cell of these rows narrows 'for every input' (looked for: loops, veiled, ifaces, maps, wideKeys, modest, calm, conditions, laid).
  DERIVED. THE GIVEN ROWS OF THIS SEAT. 3 by the template 'for every input the law returns true; each argument reads behind the call as it read before'; 0 by the template 'total and deterministic' (their statements: YtabkianhbgpfgaaTotals.lean).
  GIVEN WITH THE SEED: the statements are not yours to turn. If you find one false, say at which input.
  Laid BY PROGRAM, IN A SANDBOX (cutbox-rows.mjs): the forced cells as the released guide's own fill.sh prints them over the translation 0675181214757bfb… (all of the seat's roots in one cut). By AI agents, Wed Nov 11 2026. No macro, syntax, notation, axiom, sorry.
-/
import Derived.Test.YtabkianhbgpfgaaChecked
import GoSem.Claim
import GoSem.ClaimJoined
import GoSem.ClaimMapViews
import Derived.JoinedTies
import Derived.KernelRfl
namespace Go.Proofs.Ytabkianhbgpfgaa
/- THE CELL 'sum', in the pinned program and in every row, IS THE sha256 OF THE DUMP (.gsa) THAT YtabkianhbgpfgaaProg.lean LOADS. Nothing in Lean hashes anything: it is a label: what it is worth is what the hold of that sum in a sandbox is worth. -/
noncomputable def Try.pinned : Pinned := { name := "ytabkianhbgpfgaa", sum := "0675181214757bfb02e677bb5b83b818bdc05e86ca72c11e50d2b2e72b7c70be", checked := Try.checked }
namespace Rows
def none {H : Type} : Left H := { results := [], args := [] }

/-- 'lariatlaw40.FairSets': WHATEVER THE INPUT: true; the input reads as it did. -/
def fairSetsSpec : ChangeSpec := { name := "fairSets", fn := fun _ => fun
  | [d1, d2, d3] => { results := [.lit (.bool true)], args := [d1, d2, d3] }
  | _ => none }
def fairSetsRow : OpenClaim := { program := "ytabkianhbgpfgaa", sum := "0675181214757bfb02e677bb5b83b818bdc05e86ca72c11e50d2b2e72b7c70be", func := "lariat/lariatlaw40.FairSets", spec := "fairSets", unfollowed := true, recurses := true, plainKeys := false, apart := false }
def FairSetsSaid : Prop := fairSetsRow.holds Try.pinned (OpenSpec.ofChange fairSetsSpec)

/-- ITS FALSE NEIGHBOUR: 'it returns false'. Refute it at one input. -/
def fairSetsWrong : ChangeSpec := { name := "fairSets", fn := fun _ => fun
  | [d1, d2, d3] => { results := [.lit (.bool false)], args := [d1, d2, d3] }
  | _ => none }
def FairSetsWrongFalsely : Prop := fairSetsRow.holds Try.pinned (OpenSpec.ofChange fairSetsWrong)

/-- 'lariatlaw40.FairWays': WHATEVER THE INPUT: true; the input reads as it did. -/
def fairWaysSpec : ChangeSpec := { name := "fairWays", fn := fun _ => fun
  | [d1, d2, d3] => { results := [.lit (.bool true)], args := [d1, d2, d3] }
  | _ => none }
def fairWaysRow : OpenClaim := { program := "ytabkianhbgpfgaa", sum := "0675181214757bfb02e677bb5b83b818bdc05e86ca72c11e50d2b2e72b7c70be", func := "lariat/lariatlaw40.FairWays", spec := "fairWays", unfollowed := true, recurses := true, plainKeys := false, apart := false }
def FairWaysSaid : Prop := fairWaysRow.holds Try.pinned (OpenSpec.ofChange fairWaysSpec)

/-- ITS FALSE NEIGHBOUR: 'it returns false'. Refute it at one input. -/
def fairWaysWrong : ChangeSpec := { name := "fairWays", fn := fun _ => fun
  | [d1, d2, d3] => { results := [.lit (.bool false)], args := [d1, d2, d3] }
  | _ => none }
def FairWaysWrongFalsely : Prop := fairWaysRow.holds Try.pinned (OpenSpec.ofChange fairWaysWrong)

/-- 'lariatlaw40.FairNone': WHATEVER THE INPUT: true; the input reads as it did. -/
def fairNoneSpec : ChangeSpec := { name := "fairNone", fn := fun _ => fun
  | [d1, d2] => { results := [.lit (.bool true)], args := [d1, d2] }
  | _ => none }
def fairNoneRow : OpenClaim := { program := "ytabkianhbgpfgaa", sum := "0675181214757bfb02e677bb5b83b818bdc05e86ca72c11e50d2b2e72b7c70be", func := "lariat/lariatlaw40.FairNone", spec := "fairNone", unfollowed := true, recurses := true, plainKeys := false, apart := false }
def FairNoneSaid : Prop := fairNoneRow.holds Try.pinned (OpenSpec.ofChange fairNoneSpec)

/-- ITS FALSE NEIGHBOUR: 'it returns false'. Refute it at one input. -/
def fairNoneWrong : ChangeSpec := { name := "fairNone", fn := fun _ => fun
  | [d1, d2] => { results := [.lit (.bool false)], args := [d1, d2] }
  | _ => none }
def FairNoneWrongFalsely : Prop := fairNoneRow.holds Try.pinned (OpenSpec.ofChange fairNoneWrong)

/- THE SECOND FORM. 'bulk': how many values and letters a reading holds, each counted each time it is reached (what is shared counts as often as it is met; a slice's spare places count too). A statement '..UptoSaid' is the law's where the arguments, and the package variables that the reading takes, are together of bulk at most 1048576: NARROWER than '..Said'. Prove '..Said' where nothing that the law and all that it calls make is longer than what came in: it says more and counts as full. Else prove '..UptoSaid'. A law counts once. -/
mutual
def uptoBulk {H : Type} : DataW H → Nat
  | .lit (.string bytes) => bytes.length + 1
  | .lit _ => 1
  | .nil => 1
  | .ptr d => uptoBulk d + 1
  | .slice elems spare => uptoBulkAll elems + uptoBulkAll spare + 1
  | .agg parts => uptoBulkAll parts + 1
  | .iface _ d => uptoBulk d + 1
  | .map entries => uptoBulkEntries entries + 1
  | .held _ => 1
def uptoBulkAll {H : Type} : List (DataW H) → Nat
  | [] => 0
  | d :: r => uptoBulk d + uptoBulkAll r
def uptoBulkEntries {H : Type} : List (Lit × DataW H) → Nat
  | [] => 0
  | x :: r => uptoBulkEntry x + uptoBulkEntries r
def uptoBulkEntry {H : Type} : Lit × DataW H → Nat
  | (.string bytes, d) => bytes.length + uptoBulk d + 1
  | (_, d) => uptoBulk d + 1
 end
def uptoSmall : (H : Type) → List (DataW H) → Bool := fun _ ds => decide (uptoBulkAll ds ≤ 1048576)
def OpenSpec.upto (s : _root_.Go.ChangeSpec) : _root_.Go.OpenSpec := { _root_.Go.OpenSpec.ofChange s with cond := some uptoSmall }

/-- 'lariatlaw40.FairSets', WHERE WHAT IT READS IS OF BULK AT MOST 1048576: true; the input reads as it did. -/
def fairSetsUptoRow : OpenClaim := { program := "ytabkianhbgpfgaa", sum := "0675181214757bfb02e677bb5b83b818bdc05e86ca72c11e50d2b2e72b7c70be", func := "lariat/lariatlaw40.FairSets", spec := "fairSets", unfollowed := true, recurses := true, plainKeys := false, apart := false, narrowed := true }
def FairSetsUptoSaid : Prop := fairSetsUptoRow.holds Try.pinned (OpenSpec.upto fairSetsSpec)

/-- 'lariatlaw40.FairWays', WHERE WHAT IT READS IS OF BULK AT MOST 1048576: true; the input reads as it did. -/
def fairWaysUptoRow : OpenClaim := { program := "ytabkianhbgpfgaa", sum := "0675181214757bfb02e677bb5b83b818bdc05e86ca72c11e50d2b2e72b7c70be", func := "lariat/lariatlaw40.FairWays", spec := "fairWays", unfollowed := true, recurses := true, plainKeys := false, apart := false, narrowed := true }
def FairWaysUptoSaid : Prop := fairWaysUptoRow.holds Try.pinned (OpenSpec.upto fairWaysSpec)

/-- 'lariatlaw40.FairNone', WHERE WHAT IT READS IS OF BULK AT MOST 1048576: true; the input reads as it did. -/
def fairNoneUptoRow : OpenClaim := { program := "ytabkianhbgpfgaa", sum := "0675181214757bfb02e677bb5b83b818bdc05e86ca72c11e50d2b2e72b7c70be", func := "lariat/lariatlaw40.FairNone", spec := "fairNone", unfollowed := true, recurses := true, plainKeys := false, apart := false, narrowed := true }
def FairNoneUptoSaid : Prop := fairNoneUptoRow.holds Try.pinned (OpenSpec.upto fairNoneSpec)

end Rows
end Go.Proofs.Ytabkianhbgpfgaa
