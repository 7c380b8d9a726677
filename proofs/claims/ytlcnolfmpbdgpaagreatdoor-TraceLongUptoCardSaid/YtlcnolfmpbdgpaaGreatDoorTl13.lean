/- A part of the proof. -/
import Derived.Test.YtlcnolfmpbdgpaaGreatDoorTl12
import Derived.Test.YtlcnolfmpbdgpaaGreatDoorCards
import Derived.JoinedCond
import Derived.KernelRfl
set_option linter.unusedSimpArgs false
set_option linter.unusedVariables false
namespace Go.Proofs.YtlcnolfmpbdgpaaGreatDoor
open Go Go.ChangeShapes Go.WideShapes
set_option maxRecDepth 20000
namespace TraceLongLaw
theorem jf9:((Rows.traceLongUptoRow.inPlace==Tryz.pinned.checked.prog.inPlace 3))=true:=by kernel_rfl
end TraceLongLaw
end Go.Proofs.YtlcnolfmpbdgpaaGreatDoor
