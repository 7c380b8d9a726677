/-
  DERIVED. GIVEN WITH THE SEED: THE CARDS: each row of YteeabnledfmpjaaGreatDoorRows.lean that lists a variable, with what it lists TIED to the program's text (the seventh form; the later family's looks); each row that meets fmt, with fmt's text TOLD by the authors' own Lean function (tested against real Go, not proved from fmt's source: count such statements apart). THE CARD IS WHAT COUNTS. Prove the row's statement (the work); the ties are given (YteeabnledfmpjaaGreatDoorTie.lean); close each card by the builder's one call (the guide's Derived/Test/ToyasCard.lean, 'card_holds'). Laid BY PROGRAM, IN A SANDBOX (cutbox-door.mjs). By AI agents, Wed Nov 11 2026. No macro, syntax, notation, axiom, sorry.
-/
import Derived.Test.YteeabnledfmpjaaGreatDoorRows
import GoSem.ClaimSeven
namespace Go.Proofs.YteeabnledfmpjaaGreatDoor
namespace Rows

/-- THE TIED CARD OF 'lariatlaw20.FireDoes'. -/
def fireDoesCard : Claim7 := { stood := { row := fireDoesRow, standIns := [], harness := (true, "81e1fb171b296de4527570f5763c1c45f56e8c734e49df983fc183dbc3d7deba"), looks := true }, kinds := [], alts := [], laidByText := true, laidKinds := [.data], laidTests := true, laidLooks := .later }
def FireDoesCardSaid : Prop := Claim7.holds Tryz.pinned (.plain (OpenSpec.ofChange fireDoesSpec)) fireDoesCard

/-- THE TIED CARD OF 'lariatlaw20.FireMoves'. -/
def fireMovesCard : Claim7 := { stood := { row := fireMovesRow, standIns := [], harness := (true, "81e1fb171b296de4527570f5763c1c45f56e8c734e49df983fc183dbc3d7deba"), looks := true }, kinds := [], alts := [], laidByText := true, laidKinds := [.data], laidTests := true, laidLooks := .later }
def FireMovesCardSaid : Prop := Claim7.holds Tryz.pinned (.plain (OpenSpec.ofChange fireMovesSpec)) fireMovesCard

/-- THE TIED CARD OF 'lariatlaw20.FireLost'. -/
def fireLostCard : Claim7 := { stood := { row := fireLostRow, standIns := [], harness := (true, "81e1fb171b296de4527570f5763c1c45f56e8c734e49df983fc183dbc3d7deba"), looks := true }, kinds := [], alts := [], laidByText := true, laidKinds := [.data], laidTests := true, laidLooks := .later }
def FireLostCardSaid : Prop := Claim7.holds Tryz.pinned (.plain (OpenSpec.ofChange fireLostSpec)) fireLostCard

/-- THE TIED CARD OF 'lariatlaw20.FireAlone'. -/
def fireAloneCard : Claim7 := { stood := { row := fireAloneRow, standIns := [], harness := (true, "81e1fb171b296de4527570f5763c1c45f56e8c734e49df983fc183dbc3d7deba"), looks := true }, kinds := [], alts := [], laidByText := true, laidKinds := [.data], laidTests := true, laidLooks := .later }
def FireAloneCardSaid : Prop := Claim7.holds Tryz.pinned (.plain (OpenSpec.ofChange fireAloneSpec)) fireAloneCard

/-- THE TIED CARD OF 'lariatlaw20.FireFollows'. -/
def fireFollowsCard : Claim7 := { stood := { row := fireFollowsRow, standIns := [], harness := (true, "81e1fb171b296de4527570f5763c1c45f56e8c734e49df983fc183dbc3d7deba"), looks := true }, kinds := [], alts := [], laidByText := true, laidKinds := [.data], laidTests := true, laidLooks := .later }
def FireFollowsCardSaid : Prop := Claim7.holds Tryz.pinned (.plain (OpenSpec.ofChange fireFollowsSpec)) fireFollowsCard

/-- THE TIED CARD OF 'lariatlaw20.FireRight'. -/
def fireRightCard : Claim7 := { stood := { row := fireRightRow, standIns := [], harness := (true, "81e1fb171b296de4527570f5763c1c45f56e8c734e49df983fc183dbc3d7deba"), looks := true }, kinds := [], alts := [], laidByText := true, laidKinds := [.data], laidTests := true, laidLooks := .later }
def FireRightCardSaid : Prop := Claim7.holds Tryz.pinned (.plain (OpenSpec.ofChange fireRightSpec)) fireRightCard

/-- THE SECOND FORM's CARD OF 'lariatlaw20.FireDoes'. -/
def fireDoesUptoCard : Claim7 := { stood := { row := fireDoesUptoRow, standIns := [], harness := (true, "81e1fb171b296de4527570f5763c1c45f56e8c734e49df983fc183dbc3d7deba"), looks := true }, kinds := [], alts := [], laidByText := true, laidKinds := [.data], laidTests := true, laidLooks := .later }
def FireDoesUptoCardSaid : Prop := Claim7.holds Tryz.pinned (.plain (OpenSpec.upto fireDoesSpec)) fireDoesUptoCard

/-- THE SECOND FORM's CARD OF 'lariatlaw20.FireMoves'. -/
def fireMovesUptoCard : Claim7 := { stood := { row := fireMovesUptoRow, standIns := [], harness := (true, "81e1fb171b296de4527570f5763c1c45f56e8c734e49df983fc183dbc3d7deba"), looks := true }, kinds := [], alts := [], laidByText := true, laidKinds := [.data], laidTests := true, laidLooks := .later }
def FireMovesUptoCardSaid : Prop := Claim7.holds Tryz.pinned (.plain (OpenSpec.upto fireMovesSpec)) fireMovesUptoCard

/-- THE SECOND FORM's CARD OF 'lariatlaw20.FireLost'. -/
def fireLostUptoCard : Claim7 := { stood := { row := fireLostUptoRow, standIns := [], harness := (true, "81e1fb171b296de4527570f5763c1c45f56e8c734e49df983fc183dbc3d7deba"), looks := true }, kinds := [], alts := [], laidByText := true, laidKinds := [.data], laidTests := true, laidLooks := .later }
def FireLostUptoCardSaid : Prop := Claim7.holds Tryz.pinned (.plain (OpenSpec.upto fireLostSpec)) fireLostUptoCard

/-- THE SECOND FORM's CARD OF 'lariatlaw20.FireAlone'. -/
def fireAloneUptoCard : Claim7 := { stood := { row := fireAloneUptoRow, standIns := [], harness := (true, "81e1fb171b296de4527570f5763c1c45f56e8c734e49df983fc183dbc3d7deba"), looks := true }, kinds := [], alts := [], laidByText := true, laidKinds := [.data], laidTests := true, laidLooks := .later }
def FireAloneUptoCardSaid : Prop := Claim7.holds Tryz.pinned (.plain (OpenSpec.upto fireAloneSpec)) fireAloneUptoCard

/-- THE SECOND FORM's CARD OF 'lariatlaw20.FireFollows'. -/
def fireFollowsUptoCard : Claim7 := { stood := { row := fireFollowsUptoRow, standIns := [], harness := (true, "81e1fb171b296de4527570f5763c1c45f56e8c734e49df983fc183dbc3d7deba"), looks := true }, kinds := [], alts := [], laidByText := true, laidKinds := [.data], laidTests := true, laidLooks := .later }
def FireFollowsUptoCardSaid : Prop := Claim7.holds Tryz.pinned (.plain (OpenSpec.upto fireFollowsSpec)) fireFollowsUptoCard

/-- THE SECOND FORM's CARD OF 'lariatlaw20.FireRight'. -/
def fireRightUptoCard : Claim7 := { stood := { row := fireRightUptoRow, standIns := [], harness := (true, "81e1fb171b296de4527570f5763c1c45f56e8c734e49df983fc183dbc3d7deba"), looks := true }, kinds := [], alts := [], laidByText := true, laidKinds := [.data], laidTests := true, laidLooks := .later }
def FireRightUptoCardSaid : Prop := Claim7.holds Tryz.pinned (.plain (OpenSpec.upto fireRightSpec)) fireRightUptoCard
end Rows
end Go.Proofs.YteeabnledfmpjaaGreatDoor
