/- A part of the proof: texts of mine, merged by a program (wip/dev/merge.py). -/
import Derived.Test.YteeabnledfmpjaaGreatDoorFn12
import Derived.Test.YteeabnledfmpjaaGreatDoorCards
import Derived.JoinedCond
import Derived.KernelRfl
set_option linter.unusedSimpArgs false
set_option linter.unusedVariables false
namespace Go.Proofs.YteeabnledfmpjaaGreatDoor
open Go Go.ChangeShapes Go.WideShapes
set_option maxRecDepth 20000
namespace FireAloneLaw
theorem jf9:((Rows.fireAloneUptoRow.inPlace==Tryz.pinned.checked.prog.inPlace 6))=true:=by kernel_rfl
end FireAloneLaw
end Go.Proofs.YteeabnledfmpjaaGreatDoor
