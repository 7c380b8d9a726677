/- A part of the proof. -/
import Derived.Test.YtlcnolfmpbdgpaaGreatDoorTl13
import Derived.Test.YtlcnolfmpbdgpaaGreatDoorCards
import Derived.JoinedCond
import Derived.KernelRfl
set_option linter.unusedSimpArgs false
set_option linter.unusedVariables false
namespace Go.Proofs.YtlcnolfmpbdgpaaGreatDoor
open Go Go.ChangeShapes Go.WideShapes
set_option maxRecDepth 20000
namespace TraceLongLaw
theorem afP:((Rows.traceLongUptoRow.unfollowed==Tryz.pinned.checked.prog.unfollowed 3))=true:=by kernel_rfl
end TraceLongLaw
end Go.Proofs.YtlcnolfmpbdgpaaGreatDoor
