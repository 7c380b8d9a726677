/-
  DERIVED. GIVEN WITH THE SEED: THE CARDS: each row of YtdekianmechckaaGreatDoorRows.lean that lists a variable, with what it lists TIED to the program's text (the seventh form; the later family's looks); each row that meets fmt, with fmt's text TOLD by the authors' own Lean function (tested against real Go, not proved from fmt's source: count such statements apart). THE CARD IS WHAT COUNTS. Prove the row's statement (the work); the ties are given (YtdekianmechckaaGreatDoorTie.lean); close each card by the builder's one call (the guide's Derived/Test/ToyasCard.lean, 'card_holds'). Laid BY PROGRAM, IN A SANDBOX (cutbox-door.mjs). By AI agents, Wed Nov 11 2026. No macro, syntax, notation, axiom, sorry.
-/
import Derived.Test.YtdekianmechckaaGreatDoorRows
import GoSem.ClaimSeven
namespace Go.Proofs.YtdekianmechckaaGreatDoor
namespace Rows

/-- THE TIED CARD OF 'lariatlaw11.EtextTells'. -/
def etextTellsCard : Claim7 := { stood := { row := etextTellsRow, standIns := [], harness := (true, "a521b59196e274462bbf0d98f14875046db650845d1bb385cd882f08d597c42a"), looks := true }, kinds := [], alts := [], laidByText := true, laidKinds := [.data, .data, .data, .sentinel, .sentinel, .data, .data], laidTests := true, laidLooks := .later }
def EtextTellsCardSaid : Prop := Claim7.holds Tryz.pinned (.plain (OpenSpec.ofChange etextTellsSpec)) etextTellsCard

/-- THE TIED CARD OF 'lariatlaw11.EtextUnlike'. -/
def etextUnlikeCard : Claim7 := { stood := { row := etextUnlikeRow, standIns := [], harness := (true, "a521b59196e274462bbf0d98f14875046db650845d1bb385cd882f08d597c42a"), looks := true }, kinds := [], alts := [], laidByText := true, laidKinds := [.data, .data, .data, .sentinel, .sentinel, .data, .data], laidTests := true, laidLooks := .later }
def EtextUnlikeCardSaid : Prop := Claim7.holds Tryz.pinned (.plain (OpenSpec.ofChange etextUnlikeSpec)) etextUnlikeCard

/-- THE SECOND FORM's CARD OF 'lariatlaw11.EtextTells'. -/
def etextTellsUptoCard : Claim7 := { stood := { row := etextTellsUptoRow, standIns := [], harness := (true, "a521b59196e274462bbf0d98f14875046db650845d1bb385cd882f08d597c42a"), looks := true }, kinds := [], alts := [], laidByText := true, laidKinds := [.data, .data, .data, .sentinel, .sentinel, .data, .data], laidTests := true, laidLooks := .later }
def EtextTellsUptoCardSaid : Prop := Claim7.holds Tryz.pinned (.plain (OpenSpec.upto etextTellsSpec)) etextTellsUptoCard

/-- THE SECOND FORM's CARD OF 'lariatlaw11.EtextUnlike'. -/
def etextUnlikeUptoCard : Claim7 := { stood := { row := etextUnlikeUptoRow, standIns := [], harness := (true, "a521b59196e274462bbf0d98f14875046db650845d1bb385cd882f08d597c42a"), looks := true }, kinds := [], alts := [], laidByText := true, laidKinds := [.data, .data, .data, .sentinel, .sentinel, .data, .data], laidTests := true, laidLooks := .later }
def EtextUnlikeUptoCardSaid : Prop := Claim7.holds Tryz.pinned (.plain (OpenSpec.upto etextUnlikeSpec)) etextUnlikeUptoCard
end Rows
end Go.Proofs.YtdekianmechckaaGreatDoor
