/- A part of the proof: texts of mine, merged by a program (wip/dev/merge.py). -/
import Derived.Test.YteeabnledfmpjaaGreatDoorFr16
import Derived.Test.YteeabnledfmpjaaGreatDoorCards
import Derived.JoinedCond
import Derived.KernelRfl
set_option linter.unusedSimpArgs false
set_option linter.unusedVariables false
namespace Go.Proofs.YteeabnledfmpjaaGreatDoor
open Go Go.ChangeShapes Go.WideShapes
set_option maxRecDepth 20000
namespace FireRightLaw
theorem jf0:(Rows.fireRightUptoRow.wf (OpenSpec.ofChange (Rows.OpenSpec.upto Rows.fireRightSpec).bare))=true:=by kernel_rfl
theorem jf1:(laidOutB Tryz.pinned.checked.prog)=true:=by kernel_rfl
theorem jf2:(mapsRowed Tryz.pinned.checked.prog)=true:=by kernel_rfl
theorem jf3:(Tryz.f8.params.all (Tryz.pinned.checked.prog.readableRec ·))=true:=by kernel_rfl
theorem jf4:(namedTie Tryz.pinned.checked.prog Rows.fireRightUptoRow.named (Rows.OpenSpec.upto Rows.fireRightSpec).bare.vars)=true:=by kernel_rfl
theorem jf5:((Rows.fireRightUptoRow.stops==[]))=true:=by kernel_rfl
theorem jf6:((Tryz.pinned.checked.prog.stops==[]))=true:=by kernel_rfl
theorem jf7:((Rows.fireRightUptoRow.knobs==[]))=true:=by kernel_rfl
theorem jf8:((Tryz.pinned.checked.prog.stopKnobs==[]))=true:=by kernel_rfl
theorem av0:((Rows.fireRightUptoRow.maps==(Tryz.f8.params.toList++(Rows.OpenSpec.upto Rows.fireRightSpec).bare.plain.varTypes Tryz.pinned.checked.prog).any (Tryz.pinned.checked.prog.mapsRec ·)))=true:=by kernel_rfl
theorem av1:((Rows.fireRightUptoRow.ifaces==(Tryz.f8.params.toList++(Rows.OpenSpec.upto Rows.fireRightSpec).bare.plain.varTypes Tryz.pinned.checked.prog).any (Tryz.pinned.checked.prog.ifacesRec ·)))=true:=by kernel_rfl
theorem av2:((Rows.fireRightUptoRow.mapsOut==Tryz.pinned.checked.prog.mapsAmong Tryz.f8.resultTypes.toList))=true:=by kernel_rfl
theorem av3:((Rows.fireRightUptoRow.loops==(Tryz.f8.params.toList++(Rows.OpenSpec.upto Rows.fireRightSpec).bare.plain.varTypes Tryz.pinned.checked.prog).any (Tryz.pinned.checked.prog.loopsFrom ·)))=true:=by kernel_rfl
theorem av4:((Rows.fireRightUptoRow.wideKeys==(Tryz.f8.params.toList++(Rows.OpenSpec.upto Rows.fireRightSpec).bare.plain.varTypes Tryz.pinned.checked.prog++Tryz.f8.resultTypes.toList).any (Tryz.pinned.checked.prog.wideKeysFrom ·)))=true:=by kernel_rfl
theorem av5:((Rows.OpenSpec.upto Rows.fireRightSpec).bare.vars.all (Tryz.pinned.checked.prog.varReadable ·))=true:=by kernel_rfl
theorem av6:(Tryz.f8.resultTypes.all (λt=>Tryz.pinned.checked.prog.readableRec t&&decide (t<Tryz.pinned.checked.prog.types.size)))=true:=by kernel_rfl
theorem av7:((Rows.fireRightUptoRow.ifacesOut==Tryz.f8.resultTypes.toList.any (Tryz.pinned.checked.prog.ifacesRec ·)))=true:=by kernel_rfl
theorem av8:((Rows.fireRightUptoRow.loopsOut==Tryz.f8.resultTypes.toList.any (Tryz.pinned.checked.prog.loopsFrom ·)))=true:=by kernel_rfl
theorem av9:((Rows.fireRightUptoRow.plainKeys==Tryz.pinned.checked.prog.plainKeys))=true:=by kernel_rfl
theorem awa:(Rows.fireRightUptoRow.shortTexts.isNone)=true:=by kernel_rfl
theorem awb:(Tryz.pinned.checked.prog.stopsHeard)=true:=by kernel_rfl
theorem awc:(Tryz.pinned.checked.prog.mayEnter)=true:=by kernel_rfl
theorem awd:((Rows.fireRightUptoRow.lifted==Tryz.pinned.checked.prog.liftsFinal))=true:=by kernel_rfl
theorem awe:((Tryz.pinned.checked.prog.make==some Rows.fireRightUptoRow.make))=true:=by kernel_rfl
theorem awf:((Rows.fireRightUptoRow.kinds==(if Rows.fireRightUptoRow.domain.isEmpty then []else Tryz.f8.params.toList.map λt=>match Tryz.pinned.checked.prog.underlying t with |some (.int k)=>some k |_=>none)))=true:=by kernel_rfl
theorem awg:((Rows.fireRightUptoRow.pinned==Rows.fireRightUptoRow.pinnedBy))=true:=by kernel_rfl
theorem awh:((Rows.fireRightUptoRow.veiled==(Tryz.f8.params.toList++(Rows.OpenSpec.upto Rows.fireRightSpec).bare.plain.varTypes Tryz.pinned.checked.prog++Tryz.f8.resultTypes.toList).any (Tryz.pinned.checked.prog.veiledRec ·)))=true:=by kernel_rfl
theorem awi:(Rows.fireRightUptoRow.veiledFits Tryz.pinned.checked.prog Tryz.f8.params.toList (Tryz.f8.params.toList++(Rows.OpenSpec.upto Rows.fireRightSpec).bare.plain.varTypes Tryz.pinned.checked.prog++Tryz.f8.resultTypes.toList))=true:=by kernel_rfl
theorem gY{a b:Bool}(h:a=true)(h2:b=true):(a&&b)=true:=by rw[h,h2];rfl
theorem ahC:joinedFacts Tryz.pinned.checked.prog 8 Tryz.f8 (Rows.OpenSpec.upto Rows.fireRightSpec).bare Rows.fireRightUptoRow=true:=by
 unfold joinedFacts
 exact(gY (gY (gY (gY (gY (gY (gY (gY (gY (gY (gY (gY (gY (gY (gY (gY (gY (gY (gY (gY (gY (gY (gY (gY (gY (gY (gY (gY (gY (gY (gY jf0 jf1) jf2) jf3) jf4) jf5) jf6) jf7) jf8) jf9) avX) avY) avZ) av0) av1) av2) av3) av4) av5) av6) av7) av8) av9) awa) awb) awc) awd) awe) awf) awg) awh) awi)
end FireRightLaw
end Go.Proofs.YteeabnledfmpjaaGreatDoor
