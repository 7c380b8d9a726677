/-
  DERIVED. GIVEN WITH THE SEED: THE CARDS: each row of YtlcnolfmpbdgpaaGreatDoorRows.lean that lists a variable, with what it lists TIED to the program's text (the seventh form; the later family's looks); each row that meets fmt, with fmt's text TOLD by the authors' own Lean function (tested against real Go, not proved from fmt's source: count such statements apart). THE CARD IS WHAT COUNTS. Prove the row's statement (the work); the ties are given (YtlcnolfmpbdgpaaGreatDoorTie.lean); close each card by the builder's one call (the guide's Derived/Test/ToyasCard.lean, 'card_holds'). Laid BY PROGRAM, IN A SANDBOX (cutbox-door.mjs). By AI agents, Wed Nov 11 2026. No macro, syntax, notation, axiom, sorry.
-/
import Derived.Test.YtlcnolfmpbdgpaaGreatDoorRows
import GoSem.ClaimSeven
namespace Go.Proofs.YtlcnolfmpbdgpaaGreatDoor
namespace Rows

/-- THE TIED CARD OF 'lariatlaw45.TraceLong'. -/
def traceLongCard : Claim7 := { stood := { row := traceLongRow, standIns := [], harness := (true, "d79913c6c45456b35b00fb69f621f0b27afcfa30a3a3c90186e719b7dd6fe501"), looks := true }, kinds := [], alts := [], laidByText := true, laidKinds := [.data, .data, .data, .data, .sentinel, .sentinel, .data, .pinned], laidTests := true, laidLooks := .later }
def TraceLongCardSaid : Prop := Claim7.holds Tryz.pinned (.plain (OpenSpec.ofChange traceLongSpec)) traceLongCard

/-- THE SECOND FORM's CARD OF 'lariatlaw45.TraceLong'. -/
def traceLongUptoCard : Claim7 := { stood := { row := traceLongUptoRow, standIns := [], harness := (true, "d79913c6c45456b35b00fb69f621f0b27afcfa30a3a3c90186e719b7dd6fe501"), looks := true }, kinds := [], alts := [], laidByText := true, laidKinds := [.data, .data, .data, .data, .sentinel, .sentinel, .data, .pinned], laidTests := true, laidLooks := .later }
def TraceLongUptoCardSaid : Prop := Claim7.holds Tryz.pinned (.plain (OpenSpec.upto traceLongSpec)) traceLongUptoCard
end Rows
end Go.Proofs.YtlcnolfmpbdgpaaGreatDoor
