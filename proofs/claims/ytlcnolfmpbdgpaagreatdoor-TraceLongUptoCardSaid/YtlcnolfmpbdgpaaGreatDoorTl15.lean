/- A part of the proof. -/
import Derived.Test.YtlcnolfmpbdgpaaGreatDoorTl14
import Derived.Test.YtlcnolfmpbdgpaaGreatDoorCards
import Derived.JoinedCond
import Derived.KernelRfl
set_option linter.unusedSimpArgs false
set_option linter.unusedVariables false
namespace Go.Proofs.YtlcnolfmpbdgpaaGreatDoor
open Go Go.ChangeShapes Go.WideShapes
set_option maxRecDepth 20000
namespace TraceLongLaw
theorem afQ:((Rows.traceLongUptoRow.recurses==Tryz.pinned.checked.prog.recurses 3))=true:=by kernel_rfl
end TraceLongLaw
end Go.Proofs.YtlcnolfmpbdgpaaGreatDoor
