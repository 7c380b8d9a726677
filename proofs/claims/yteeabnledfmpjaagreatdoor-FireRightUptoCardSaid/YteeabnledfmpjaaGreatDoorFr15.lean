/- A part of the proof: texts of mine, merged by a program (wip/dev/merge.py). -/
import Derived.Test.YteeabnledfmpjaaGreatDoorFr14
import Derived.Test.YteeabnledfmpjaaGreatDoorCards
import Derived.JoinedCond
import Derived.KernelRfl
set_option linter.unusedSimpArgs false
set_option linter.unusedVariables false
namespace Go.Proofs.YteeabnledfmpjaaGreatDoor
open Go Go.ChangeShapes Go.WideShapes
set_option maxRecDepth 20000
namespace FireRightLaw
theorem avY:((Rows.fireRightUptoRow.recurses==Tryz.pinned.checked.prog.recurses 8))=true:=by kernel_rfl
end FireRightLaw
end Go.Proofs.YteeabnledfmpjaaGreatDoor
