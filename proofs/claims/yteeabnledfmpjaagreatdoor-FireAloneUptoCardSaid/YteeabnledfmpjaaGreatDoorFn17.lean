/- A part of the proof: texts of mine, merged by a program (wip/dev/merge.py). -/
import Derived.Test.YteeabnledfmpjaaGreatDoorFn16
import Derived.Test.YteeabnledfmpjaaGreatDoorCards
import Derived.JoinedCond
import Derived.KernelRfl
set_option linter.unusedSimpArgs false
set_option linter.unusedVariables false
namespace Go.Proofs.YteeabnledfmpjaaGreatDoor
open Go Go.ChangeShapes Go.WideShapes
set_option maxRecDepth 20000
namespace FireAloneLaw
theorem jf0:(Rows.fireAloneUptoRow.wf (OpenSpec.ofChange (Rows.OpenSpec.upto Rows.fireAloneSpec).bare))=true:=by kernel_rfl
theorem jf1:(laidOutB Tryz.pinned.checked.prog)=true:=by kernel_rfl
theorem jf2:(mapsRowed Tryz.pinned.checked.prog)=true:=by kernel_rfl
theorem jf3:(Tryz.f6.params.all (Tryz.pinned.checked.prog.readableRec ·))=true:=by kernel_rfl
theorem jf4:(namedTie Tryz.pinned.checked.prog Rows.fireAloneUptoRow.named (Rows.OpenSpec.upto Rows.fireAloneSpec).bare.vars)=true:=by kernel_rfl
theorem jf5:((Rows.fireAloneUptoRow.stops==[]))=true:=by kernel_rfl
theorem jf6:((Tryz.pinned.checked.prog.stops==[]))=true:=by kernel_rfl
theorem jf7:((Rows.fireAloneUptoRow.knobs==[]))=true:=by kernel_rfl
theorem jf8:((Tryz.pinned.checked.prog.stopKnobs==[]))=true:=by kernel_rfl
theorem avG:((Rows.fireAloneUptoRow.maps==(Tryz.f6.params.toList++(Rows.OpenSpec.upto Rows.fireAloneSpec).bare.plain.varTypes Tryz.pinned.checked.prog).any (Tryz.pinned.checked.prog.mapsRec ·)))=true:=by kernel_rfl
theorem avH:((Rows.fireAloneUptoRow.ifaces==(Tryz.f6.params.toList++(Rows.OpenSpec.upto Rows.fireAloneSpec).bare.plain.varTypes Tryz.pinned.checked.prog).any (Tryz.pinned.checked.prog.ifacesRec ·)))=true:=by kernel_rfl
theorem avI:((Rows.fireAloneUptoRow.mapsOut==Tryz.pinned.checked.prog.mapsAmong Tryz.f6.resultTypes.toList))=true:=by kernel_rfl
theorem avJ:((Rows.fireAloneUptoRow.loops==(Tryz.f6.params.toList++(Rows.OpenSpec.upto Rows.fireAloneSpec).bare.plain.varTypes Tryz.pinned.checked.prog).any (Tryz.pinned.checked.prog.loopsFrom ·)))=true:=by kernel_rfl
theorem avK:((Rows.fireAloneUptoRow.wideKeys==(Tryz.f6.params.toList++(Rows.OpenSpec.upto Rows.fireAloneSpec).bare.plain.varTypes Tryz.pinned.checked.prog++Tryz.f6.resultTypes.toList).any (Tryz.pinned.checked.prog.wideKeysFrom ·)))=true:=by kernel_rfl
theorem avL:((Rows.OpenSpec.upto Rows.fireAloneSpec).bare.vars.all (Tryz.pinned.checked.prog.varReadable ·))=true:=by kernel_rfl
theorem avM:(Tryz.f6.resultTypes.all (λt=>Tryz.pinned.checked.prog.readableRec t&&decide (t<Tryz.pinned.checked.prog.types.size)))=true:=by kernel_rfl
theorem avN:((Rows.fireAloneUptoRow.ifacesOut==Tryz.f6.resultTypes.toList.any (Tryz.pinned.checked.prog.ifacesRec ·)))=true:=by kernel_rfl
theorem avO:((Rows.fireAloneUptoRow.loopsOut==Tryz.f6.resultTypes.toList.any (Tryz.pinned.checked.prog.loopsFrom ·)))=true:=by kernel_rfl
theorem avP:((Rows.fireAloneUptoRow.plainKeys==Tryz.pinned.checked.prog.plainKeys))=true:=by kernel_rfl
theorem avQ:(Rows.fireAloneUptoRow.shortTexts.isNone)=true:=by kernel_rfl
theorem avR:(Tryz.pinned.checked.prog.stopsHeard)=true:=by kernel_rfl
theorem avS:(Tryz.pinned.checked.prog.mayEnter)=true:=by kernel_rfl
theorem avT:((Rows.fireAloneUptoRow.lifted==Tryz.pinned.checked.prog.liftsFinal))=true:=by kernel_rfl
theorem avU:((Tryz.pinned.checked.prog.make==some Rows.fireAloneUptoRow.make))=true:=by kernel_rfl
theorem avV:((Rows.fireAloneUptoRow.kinds==(if Rows.fireAloneUptoRow.domain.isEmpty then []else Tryz.f6.params.toList.map λt=>match Tryz.pinned.checked.prog.underlying t with |some (.int k)=>some k |_=>none)))=true:=by kernel_rfl
theorem avW:((Rows.fireAloneUptoRow.pinned==Rows.fireAloneUptoRow.pinnedBy))=true:=by kernel_rfl
theorem avX:((Rows.fireAloneUptoRow.veiled==(Tryz.f6.params.toList++(Rows.OpenSpec.upto Rows.fireAloneSpec).bare.plain.varTypes Tryz.pinned.checked.prog++Tryz.f6.resultTypes.toList).any (Tryz.pinned.checked.prog.veiledRec ·)))=true:=by kernel_rfl
theorem avY:(Rows.fireAloneUptoRow.veiledFits Tryz.pinned.checked.prog Tryz.f6.params.toList (Tryz.f6.params.toList++(Rows.OpenSpec.upto Rows.fireAloneSpec).bare.plain.varTypes Tryz.pinned.checked.prog++Tryz.f6.resultTypes.toList))=true:=by kernel_rfl
theorem gW{a b:Bool}(h:a=true)(h2:b=true):(a&&b)=true:=by rw[h,h2];rfl
theorem ahl:joinedFacts Tryz.pinned.checked.prog 6 Tryz.f6 (Rows.OpenSpec.upto Rows.fireAloneSpec).bare Rows.fireAloneUptoRow=true:=by
 unfold joinedFacts
 exact(gW (gW (gW (gW (gW (gW (gW (gW (gW (gW (gW (gW (gW (gW (gW (gW (gW (gW (gW (gW (gW (gW (gW (gW (gW (gW (gW (gW (gW (gW (gW jf0 jf1) jf2) jf3) jf4) jf5) jf6) jf7) jf8) jf9) avD) avE) avF) avG) avH) avI) avJ) avK) avL) avM) avN) avO) avP) avQ) avR) avS) avT) avU) avV) avW) avX) avY)
end FireAloneLaw
end Go.Proofs.YteeabnledfmpjaaGreatDoor
