import Derived.Test.YtafmabnolelknaaGreatDoorDG42
import Derived.Test.YtafmabnolelknaaGreatDoorRows
import Derived.Test.YtafmabnolelknaaGreatDoorCards
import Derived.KernelRfl
namespace Go.Proofs.YtafmabnolelknaaGreatDoor
open Go
set_option maxRecDepth 100000
theorem seat_2:laidOutB Tryz.prog=true:=by kernel_rfl
theorem seat_3:mapsRowed Tryz.prog=true:=by kernel_rfl
theorem seat_7:(Tryz.prog.stops== [])=true:=by kernel_rfl
theorem seat_9:(Tryz.prog.stopKnobs== [])=true:=by kernel_rfl
theorem seat_25:Tryz.prog.stopsHeard=true:=by kernel_rfl
theorem seat_26:Tryz.prog.mayEnter=true:=by kernel_rfl
theorem zSK:Tryz.pinned.checked.prog.mainIs=some (true,"a135674dfacc129f112544c4b8fa39b787132e786b4bf04053af45495352e943".toList):=by kernel_rfl
theorem zPK:false=Tryz.pinned.checked.prog.looks []:=by kernel_rfl
theorem own3:ownKnob Tryz.prog.godebug=none:=by kernel_rfl
theorem zSI:Rows.storeSpillsRow.wf (OpenSpec.ofChange Rows.storeSpillsSpec)=true:=by kernel_rfl
theorem zSH:Tryz.f4.params.all (Tryz.prog.readableRec ·)=true:=by kernel_rfl
theorem zSG:namedTie Tryz.prog Rows.storeSpillsRow.named Rows.storeSpillsSpec.vars=true:=by kernel_rfl
theorem zSF:(Rows.storeSpillsRow.stops== [])=true:=by kernel_rfl
theorem zSE:(Rows.storeSpillsRow.knobs== [])=true:=by kernel_rfl
theorem zPI:(Rows.storeSpillsRow.inPlace==Tryz.prog.inPlace 4)=true:=by kernel_rfl
theorem zPH:(Rows.storeSpillsRow.unfollowed==Tryz.prog.unfollowed 4)=true:=by kernel_rfl
theorem zPG:(Rows.storeSpillsRow.recurses==Tryz.prog.recurses 4)=true:=by kernel_rfl
theorem zPF:(Rows.storeSpillsRow.named==Tryz.prog.varsNamed 4)=true:=by kernel_rfl
theorem zPE:(Rows.storeSpillsRow.maps==(Tryz.f4.params.toList++Rows.storeSpillsSpec.plain.varTypes Tryz.prog).any (Tryz.prog.mapsRec ·))=true:=by kernel_rfl
theorem zPD:(Rows.storeSpillsRow.ifaces==(Tryz.f4.params.toList++Rows.storeSpillsSpec.plain.varTypes Tryz.prog).any (Tryz.prog.ifacesRec ·))=true:=by kernel_rfl
theorem zPC:(Rows.storeSpillsRow.mapsOut==Tryz.prog.mapsAmong Tryz.f4.resultTypes.toList)=true:=by kernel_rfl
theorem zPB:(Rows.storeSpillsRow.loops==(Tryz.f4.params.toList++Rows.storeSpillsSpec.plain.varTypes Tryz.prog).any (Tryz.prog.loopsFrom ·))=true:=by kernel_rfl
theorem zPA:(Rows.storeSpillsRow.wideKeys==(Tryz.f4.params.toList++Rows.storeSpillsSpec.plain.varTypes Tryz.prog++Tryz.f4.resultTypes.toList).any (Tryz.prog.wideKeysFrom ·))=true:=by kernel_rfl
theorem zO9:Rows.storeSpillsSpec.vars.all (Tryz.prog.varReadable ·)=true:=by kernel_rfl
theorem zO8:Tryz.f4.resultTypes.all (λt=>Tryz.prog.readableRec t&&decide (t<Tryz.prog.types.size))=true:=by kernel_rfl
theorem zO7:(Rows.storeSpillsRow.ifacesOut==Tryz.f4.resultTypes.toList.any (Tryz.prog.ifacesRec ·))=true:=by kernel_rfl
theorem zO6:(Rows.storeSpillsRow.loopsOut==Tryz.f4.resultTypes.toList.any (Tryz.prog.loopsFrom ·))=true:=by kernel_rfl
theorem zO5:(Rows.storeSpillsRow.plainKeys==Tryz.prog.plainKeys)=true:=by kernel_rfl
theorem zO4:Rows.storeSpillsRow.shortTexts.isNone=true:=by kernel_rfl
theorem zO3:(Rows.storeSpillsRow.lifted==Tryz.prog.liftsFinal)=true:=by kernel_rfl
theorem zO2:(Tryz.prog.make==some Rows.storeSpillsRow.make)=true:=by kernel_rfl
theorem zO1:(Rows.storeSpillsRow.kinds==(if Rows.storeSpillsRow.domain.isEmpty then [] else Tryz.f4.params.toList.map λt=>match Tryz.prog.underlying t with |some (.int k)=>some k|_=>none))=true:=by kernel_rfl
theorem zO0:(Rows.storeSpillsRow.pinned==Rows.storeSpillsRow.pinnedBy)=true:=by kernel_rfl
theorem zOZ:(Rows.storeSpillsRow.veiled==(Tryz.f4.params.toList++Rows.storeSpillsSpec.plain.varTypes Tryz.prog++Tryz.f4.resultTypes.toList).any (Tryz.prog.veiledRec ·))=true:=by kernel_rfl
theorem zOY:Rows.storeSpillsRow.veiledFits Tryz.prog Tryz.f4.params.toList (Tryz.f4.params.toList++Rows.storeSpillsSpec.plain.varTypes Tryz.prog++Tryz.f4.resultTypes.toList)=true:=by kernel_rfl
theorem closed4:joinedFacts Tryz.prog 4 Tryz.f4 Rows.storeSpillsSpec Rows.storeSpillsRow=true:=
 Go.Ab.joined_of zSI seat_2 seat_3 zSH zSG zSF seat_7 zSE seat_9 zPI zPH zPG zPF zPE zPD zPC zPB zPA zO9 zO8 zO7 zO6 zO5 zO4 seat_25 seat_26 zO3 zO2 zO1 zO0 zOZ zOY
theorem zHJ:Tryz.prog.funcNamed Rows.storeSpillsRow.func=some 4:=by kernel_rfl
theorem zPL:false=Rows.storeSpillsRow.goesBy Tryz.pinned.checked.prog:=by kernel_rfl
theorem zUF:Rows.storeSpillsRow.wfByText (OpenSpec.ofChange Rows.storeSpillsSpec)=true:=by kernel_rfl
theorem zMC:([28,3,34,34].all λu=> !Tryz.prog.wantsStandIn u)=true:=by kernel_rfl
end Go.Proofs.YtafmabnolelknaaGreatDoor
