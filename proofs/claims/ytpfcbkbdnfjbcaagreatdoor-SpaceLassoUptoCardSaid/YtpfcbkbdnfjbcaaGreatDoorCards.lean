/-
  DERIVED. GIVEN WITH THE SEED: THE CARDS: each row of YtpfcbkbdnfjbcaaGreatDoorRows.lean that lists a variable, with what it lists TIED to the program's text (the seventh form; the later family's looks); each row that meets fmt, with fmt's text TOLD by the authors' own Lean function (tested against real Go, not proved from fmt's source: count such statements apart). THE CARD IS WHAT COUNTS. Prove the row's statement (the work); the ties are given (YtpfcbkbdnfjbcaaGreatDoorTie.lean); close each card by the builder's one call (the guide's Derived/Test/ToyasCard.lean, 'card_holds'). Laid BY PROGRAM, IN A SANDBOX (cutbox-door.mjs). By AI agents, Wed Nov 11 2026. No macro, syntax, notation, axiom, sorry.
-/
import Derived.Test.YtpfcbkbdnfjbcaaGreatDoorRows
import GoSem.ClaimSeven
namespace Go.Proofs.YtpfcbkbdnfjbcaaGreatDoor
namespace Rows

/-- THE TIED CARD OF 'lariatlaw22.SpaceLasso'. -/
def spaceLassoCard : Claim7 := { stood := { row := spaceLassoRow, standIns := [], harness := (true, "2c4fe0ec8335eb549ba3caeeb5682698ac100c323c6f8b8da543d89d38d52017"), looks := true }, kinds := [], alts := [], laidByText := true, laidKinds := [.data], laidTests := true, laidLooks := .later }
def SpaceLassoCardSaid : Prop := Claim7.holds Tryz.pinned (.plain (OpenSpec.ofChange spaceLassoSpec)) spaceLassoCard

/-- THE TIED CARD OF 'lariatlaw22.SpaceFind'. -/
def spaceFindCard : Claim7 := { stood := { row := spaceFindRow, standIns := [], harness := (true, "2c4fe0ec8335eb549ba3caeeb5682698ac100c323c6f8b8da543d89d38d52017"), looks := true }, kinds := [], alts := [], laidByText := true, laidKinds := [.data], laidTests := true, laidLooks := .later }
def SpaceFindCardSaid : Prop := Claim7.holds Tryz.pinned (.plain (OpenSpec.ofChange spaceFindSpec)) spaceFindCard

/-- THE SECOND FORM's CARD OF 'lariatlaw22.SpaceLasso'. -/
def spaceLassoUptoCard : Claim7 := { stood := { row := spaceLassoUptoRow, standIns := [], harness := (true, "2c4fe0ec8335eb549ba3caeeb5682698ac100c323c6f8b8da543d89d38d52017"), looks := true }, kinds := [], alts := [], laidByText := true, laidKinds := [.data], laidTests := true, laidLooks := .later }
def SpaceLassoUptoCardSaid : Prop := Claim7.holds Tryz.pinned (.plain (OpenSpec.upto spaceLassoSpec)) spaceLassoUptoCard

/-- THE SECOND FORM's CARD OF 'lariatlaw22.SpaceFind'. -/
def spaceFindUptoCard : Claim7 := { stood := { row := spaceFindUptoRow, standIns := [], harness := (true, "2c4fe0ec8335eb549ba3caeeb5682698ac100c323c6f8b8da543d89d38d52017"), looks := true }, kinds := [], alts := [], laidByText := true, laidKinds := [.data], laidTests := true, laidLooks := .later }
def SpaceFindUptoCardSaid : Prop := Claim7.holds Tryz.pinned (.plain (OpenSpec.upto spaceFindSpec)) spaceFindUptoCard
end Rows
end Go.Proofs.YtpfcbkbdnfjbcaaGreatDoor
