import Derived.Test.YtafmabnolelknaaGreatDoorCG42
import Derived.Test.YtafmabnolelknaaGreatDoorRows
import Derived.Test.YtafmabnolelknaaGreatDoorCards
import Derived.KernelRfl
namespace Go.Proofs.YtafmabnolelknaaGreatDoor
open Go
set_option maxRecDepth 100000
theorem seat_2:laidOutB Tryz.prog=true:=by kernel_rfl
theorem seat_3:mapsRowed Tryz.prog=true:=by kernel_rfl
theorem seat_7:(Tryz.prog.stops== [])=true:=by kernel_rfl
theorem seat_9:(Tryz.prog.stopKnobs== [])=true:=by kernel_rfl
theorem seat_25:Tryz.prog.stopsHeard=true:=by kernel_rfl
theorem seat_26:Tryz.prog.mayEnter=true:=by kernel_rfl
theorem zSN:Tryz.pinned.checked.prog.mainIs=some (true,"a135674dfacc129f112544c4b8fa39b787132e786b4bf04053af45495352e943".toList):=by kernel_rfl
theorem zPJ:false=Tryz.pinned.checked.prog.looks []:=by kernel_rfl
theorem own3:ownKnob Tryz.prog.godebug=none:=by kernel_rfl
theorem zSL:Rows.storeKeepsRow.wf (OpenSpec.ofChange Rows.storeKeepsSpec)=true:=by kernel_rfl
theorem zSK:Tryz.f3.params.all (Tryz.prog.readableRec ·)=true:=by kernel_rfl
theorem zSJ:namedTie Tryz.prog Rows.storeKeepsRow.named Rows.storeKeepsSpec.vars=true:=by kernel_rfl
theorem zSI:(Rows.storeKeepsRow.stops== [])=true:=by kernel_rfl
theorem zSH:(Rows.storeKeepsRow.knobs== [])=true:=by kernel_rfl
theorem zPI:(Rows.storeKeepsRow.inPlace==Tryz.prog.inPlace 3)=true:=by kernel_rfl
theorem zPH:(Rows.storeKeepsRow.unfollowed==Tryz.prog.unfollowed 3)=true:=by kernel_rfl
theorem zPG:(Rows.storeKeepsRow.recurses==Tryz.prog.recurses 3)=true:=by kernel_rfl
theorem zPF:(Rows.storeKeepsRow.named==Tryz.prog.varsNamed 3)=true:=by kernel_rfl
theorem zPE:(Rows.storeKeepsRow.maps==(Tryz.f3.params.toList++Rows.storeKeepsSpec.plain.varTypes Tryz.prog).any (Tryz.prog.mapsRec ·))=true:=by kernel_rfl
theorem zPD:(Rows.storeKeepsRow.ifaces==(Tryz.f3.params.toList++Rows.storeKeepsSpec.plain.varTypes Tryz.prog).any (Tryz.prog.ifacesRec ·))=true:=by kernel_rfl
theorem zPC:(Rows.storeKeepsRow.mapsOut==Tryz.prog.mapsAmong Tryz.f3.resultTypes.toList)=true:=by kernel_rfl
theorem zPB:(Rows.storeKeepsRow.loops==(Tryz.f3.params.toList++Rows.storeKeepsSpec.plain.varTypes Tryz.prog).any (Tryz.prog.loopsFrom ·))=true:=by kernel_rfl
theorem zPA:(Rows.storeKeepsRow.wideKeys==(Tryz.f3.params.toList++Rows.storeKeepsSpec.plain.varTypes Tryz.prog++Tryz.f3.resultTypes.toList).any (Tryz.prog.wideKeysFrom ·))=true:=by kernel_rfl
theorem zO9:Rows.storeKeepsSpec.vars.all (Tryz.prog.varReadable ·)=true:=by kernel_rfl
theorem zO8:Tryz.f3.resultTypes.all (λt=>Tryz.prog.readableRec t&&decide (t<Tryz.prog.types.size))=true:=by kernel_rfl
theorem zO7:(Rows.storeKeepsRow.ifacesOut==Tryz.f3.resultTypes.toList.any (Tryz.prog.ifacesRec ·))=true:=by kernel_rfl
theorem zO6:(Rows.storeKeepsRow.loopsOut==Tryz.f3.resultTypes.toList.any (Tryz.prog.loopsFrom ·))=true:=by kernel_rfl
theorem zO5:(Rows.storeKeepsRow.plainKeys==Tryz.prog.plainKeys)=true:=by kernel_rfl
theorem zO4:Rows.storeKeepsRow.shortTexts.isNone=true:=by kernel_rfl
theorem zO3:(Rows.storeKeepsRow.lifted==Tryz.prog.liftsFinal)=true:=by kernel_rfl
theorem zO2:(Tryz.prog.make==some Rows.storeKeepsRow.make)=true:=by kernel_rfl
theorem zO1:(Rows.storeKeepsRow.kinds==(if Rows.storeKeepsRow.domain.isEmpty then [] else Tryz.f3.params.toList.map λt=>match Tryz.prog.underlying t with |some (.int k)=>some k|_=>none))=true:=by kernel_rfl
theorem zO0:(Rows.storeKeepsRow.pinned==Rows.storeKeepsRow.pinnedBy)=true:=by kernel_rfl
theorem zOZ:(Rows.storeKeepsRow.veiled==(Tryz.f3.params.toList++Rows.storeKeepsSpec.plain.varTypes Tryz.prog++Tryz.f3.resultTypes.toList).any (Tryz.prog.veiledRec ·))=true:=by kernel_rfl
theorem zOY:Rows.storeKeepsRow.veiledFits Tryz.prog Tryz.f3.params.toList (Tryz.f3.params.toList++Rows.storeKeepsSpec.plain.varTypes Tryz.prog++Tryz.f3.resultTypes.toList)=true:=by kernel_rfl
theorem closed3:joinedFacts Tryz.prog 3 Tryz.f3 Rows.storeKeepsSpec Rows.storeKeepsRow=true:=
 Go.Ab.joined_of zSL seat_2 seat_3 zSK zSJ zSI seat_7 zSH seat_9 zPI zPH zPG zPF zPE zPD zPC zPB zPA zO9 zO8 zO7 zO6 zO5 zO4 seat_25 seat_26 zO3 zO2 zO1 zO0 zOZ zOY
theorem zHI:Tryz.prog.funcNamed Rows.storeKeepsRow.func=some 3:=by kernel_rfl
theorem zPK:false=Rows.storeKeepsRow.goesBy Tryz.pinned.checked.prog:=by kernel_rfl
theorem zUR:Rows.storeKeepsRow.wfByText (OpenSpec.ofChange Rows.storeKeepsSpec)=true:=by kernel_rfl
theorem zMC:([3,22,24].all λu=> !Tryz.prog.wantsStandIn u)=true:=by kernel_rfl
end Go.Proofs.YtafmabnolelknaaGreatDoor
