/- A part of the proof. -/
import Derived.Test.YtlcnolfmpbdgpaaGreatDoorTl16
import Derived.Test.YtlcnolfmpbdgpaaGreatDoorCards
import Derived.JoinedCond
import Derived.KernelRfl
set_option linter.unusedSimpArgs false
set_option linter.unusedVariables false
namespace Go.Proofs.YtlcnolfmpbdgpaaGreatDoor
open Go Go.ChangeShapes Go.WideShapes
set_option maxRecDepth 20000
namespace TraceLongLaw
theorem jf0:(Rows.traceLongUptoRow.wf (OpenSpec.ofChange (Rows.OpenSpec.upto Rows.traceLongSpec).bare))=true:=by kernel_rfl
theorem jf1:(laidOutB Tryz.pinned.checked.prog)=true:=by kernel_rfl
theorem jf2:(mapsRowed Tryz.pinned.checked.prog)=true:=by kernel_rfl
theorem jf3:(Tryz.f3.params.all (Tryz.pinned.checked.prog.readableRec ·))=true:=by kernel_rfl
theorem jf4:(namedTie Tryz.pinned.checked.prog Rows.traceLongUptoRow.named (Rows.OpenSpec.upto Rows.traceLongSpec).bare.vars)=true:=by kernel_rfl
theorem jf5:((Rows.traceLongUptoRow.stops==[]))=true:=by kernel_rfl
theorem jf6:((Tryz.pinned.checked.prog.stops==[]))=true:=by kernel_rfl
theorem jf7:((Rows.traceLongUptoRow.knobs==[]))=true:=by kernel_rfl
theorem jf8:((Tryz.pinned.checked.prog.stopKnobs==[]))=true:=by kernel_rfl
theorem afS:((Rows.traceLongUptoRow.maps==(Tryz.f3.params.toList++(Rows.OpenSpec.upto Rows.traceLongSpec).bare.plain.varTypes Tryz.pinned.checked.prog).any (Tryz.pinned.checked.prog.mapsRec ·)))=true:=by kernel_rfl
theorem afT:((Rows.traceLongUptoRow.ifaces==(Tryz.f3.params.toList++(Rows.OpenSpec.upto Rows.traceLongSpec).bare.plain.varTypes Tryz.pinned.checked.prog).any (Tryz.pinned.checked.prog.ifacesRec ·)))=true:=by kernel_rfl
theorem afU:((Rows.traceLongUptoRow.mapsOut==Tryz.pinned.checked.prog.mapsAmong Tryz.f3.resultTypes.toList))=true:=by kernel_rfl
theorem afV:((Rows.traceLongUptoRow.loops==(Tryz.f3.params.toList++(Rows.OpenSpec.upto Rows.traceLongSpec).bare.plain.varTypes Tryz.pinned.checked.prog).any (Tryz.pinned.checked.prog.loopsFrom ·)))=true:=by kernel_rfl
theorem afW:((Rows.traceLongUptoRow.wideKeys==(Tryz.f3.params.toList++(Rows.OpenSpec.upto Rows.traceLongSpec).bare.plain.varTypes Tryz.pinned.checked.prog++Tryz.f3.resultTypes.toList).any (Tryz.pinned.checked.prog.wideKeysFrom ·)))=true:=by kernel_rfl
theorem afX:((Rows.OpenSpec.upto Rows.traceLongSpec).bare.vars.all (Tryz.pinned.checked.prog.varReadable ·))=true:=by kernel_rfl
theorem afY:(Tryz.f3.resultTypes.all (fun t=>Tryz.pinned.checked.prog.readableRec t&&decide (t<Tryz.pinned.checked.prog.types.size)))=true:=by kernel_rfl
theorem afZ:((Rows.traceLongUptoRow.ifacesOut==Tryz.f3.resultTypes.toList.any (Tryz.pinned.checked.prog.ifacesRec ·)))=true:=by kernel_rfl
theorem af0:((Rows.traceLongUptoRow.loopsOut==Tryz.f3.resultTypes.toList.any (Tryz.pinned.checked.prog.loopsFrom ·)))=true:=by kernel_rfl
theorem af1:((Rows.traceLongUptoRow.plainKeys==Tryz.pinned.checked.prog.plainKeys))=true:=by kernel_rfl
theorem af2:(Rows.traceLongUptoRow.shortTexts.isNone)=true:=by kernel_rfl
theorem af3:(Tryz.pinned.checked.prog.stopsHeard)=true:=by kernel_rfl
theorem af4:(Tryz.pinned.checked.prog.mayEnter)=true:=by kernel_rfl
theorem af5:((Rows.traceLongUptoRow.lifted==Tryz.pinned.checked.prog.liftsFinal))=true:=by kernel_rfl
theorem af6:((Tryz.pinned.checked.prog.make==some Rows.traceLongUptoRow.make))=true:=by kernel_rfl
theorem af7:((Rows.traceLongUptoRow.kinds==(if Rows.traceLongUptoRow.domain.isEmpty then []else Tryz.f3.params.toList.map fun t=>match Tryz.pinned.checked.prog.underlying t with |some (.int k)=>some k |_=>none)))=true:=by kernel_rfl
theorem af8:((Rows.traceLongUptoRow.pinned==Rows.traceLongUptoRow.pinnedBy))=true:=by kernel_rfl
theorem af9:((Rows.traceLongUptoRow.veiled==(Tryz.f3.params.toList++(Rows.OpenSpec.upto Rows.traceLongSpec).bare.plain.varTypes Tryz.pinned.checked.prog++Tryz.f3.resultTypes.toList).any (Tryz.pinned.checked.prog.veiledRec ·)))=true:=by kernel_rfl
theorem aga:(Rows.traceLongUptoRow.veiledFits Tryz.pinned.checked.prog Tryz.f3.params.toList (Tryz.f3.params.toList++(Rows.OpenSpec.upto Rows.traceLongSpec).bare.plain.varTypes Tryz.pinned.checked.prog++Tryz.f3.resultTypes.toList))=true:=by kernel_rfl
theorem cC{a b:Bool}(h:a=true)(h2:b=true):(a&&b)=true:=by rw[h,h2];rfl
theorem UU:joinedFacts Tryz.pinned.checked.prog 3 Tryz.f3 (Rows.OpenSpec.upto Rows.traceLongSpec).bare Rows.traceLongUptoRow=true:=by
 unfold joinedFacts
 exact(cC (cC (cC (cC (cC (cC (cC (cC (cC (cC (cC (cC (cC (cC (cC (cC (cC (cC (cC (cC (cC (cC (cC (cC (cC (cC (cC (cC (cC (cC (cC jf0 jf1) jf2) jf3) jf4) jf5) jf6) jf7) jf8) jf9) afP) afQ) afR) afS) afT) afU) afV) afW) afX) afY) afZ) af0) af1) af2) af3) af4) af5) af6) af7) af8) af9) aga)
end TraceLongLaw
end Go.Proofs.YtlcnolfmpbdgpaaGreatDoor
