import Derived.Test.YtafmabnolelknaaGreatDoorGG10
import Derived.Test.YtafmabnolelknaaGreatDoorCards
import Derived.KernelRfl
open Go.Proofs.Tryz
open Go.Proofs.Tryz renaming prog->aa
set_option maxRecDepth 100000
set_option maxHeartbeats 2000000
namespace Go.Proofs.YtafmabnolelknaaGreatDoor
open Go
theorem aly:Rows.storeAdoptsRow.wf (OpenSpec.ofChange Rows.storeAdoptsSpec)=true:=by kernel_rfl
theorem alx:f6.params.all (aa.readableRec ·)=true:=by kernel_rfl
theorem alw:namedTie aa Rows.storeAdoptsRow.named Rows.storeAdoptsSpec.vars=true:=by kernel_rfl
theorem alv:(Rows.storeAdoptsRow.stops==[])=true:=by kernel_rfl
theorem alu:(Rows.storeAdoptsRow.knobs==[])=true:=by kernel_rfl
theorem akr:(Rows.storeAdoptsRow.inPlace==aa.inPlace 6)=true:=by kernel_rfl
theorem akq:(Rows.storeAdoptsRow.unfollowed==aa.unfollowed 6)=true:=by kernel_rfl
theorem akp:(Rows.storeAdoptsRow.recurses==aa.recurses 6)=true:=by kernel_rfl
theorem ako:(Rows.storeAdoptsRow.named==aa.varsNamed 6)=true:=by kernel_rfl
theorem akn:(Rows.storeAdoptsRow.maps==(f6.params.toList++Rows.storeAdoptsSpec.plain.varTypes aa).any (aa.mapsRec ·))=true:=by kernel_rfl
theorem akm:(Rows.storeAdoptsRow.ifaces==(f6.params.toList++Rows.storeAdoptsSpec.plain.varTypes aa).any (aa.ifacesRec ·))=true:=by kernel_rfl
theorem akl:(Rows.storeAdoptsRow.mapsOut==aa.mapsAmong f6.resultTypes.toList)=true:=by kernel_rfl
theorem akk:(Rows.storeAdoptsRow.loops==(f6.params.toList++Rows.storeAdoptsSpec.plain.varTypes aa).any (aa.loopsFrom ·))=true:=by kernel_rfl
theorem akj:(Rows.storeAdoptsRow.wideKeys==(f6.params.toList++Rows.storeAdoptsSpec.plain.varTypes aa++f6.resultTypes.toList).any (aa.wideKeysFrom ·))=true:=by kernel_rfl
theorem aki:Rows.storeAdoptsSpec.vars.all (aa.varReadable ·)=true:=by kernel_rfl
theorem akh:f6.resultTypes.all (λt=>aa.readableRec t&&decide (t<aa.types.size))=true:=by kernel_rfl
theorem akg:(Rows.storeAdoptsRow.ifacesOut==f6.resultTypes.toList.any (aa.ifacesRec ·))=true:=by kernel_rfl
theorem akf:(Rows.storeAdoptsRow.loopsOut==f6.resultTypes.toList.any (aa.loopsFrom ·))=true:=by kernel_rfl
theorem ake:(Rows.storeAdoptsRow.plainKeys==aa.plainKeys)=true:=by kernel_rfl
theorem akd:Rows.storeAdoptsRow.shortTexts.isNone=true:=by kernel_rfl
theorem akc:(Rows.storeAdoptsRow.lifted==aa.liftsFinal)=true:=by kernel_rfl
theorem akb:(aa.make==some Rows.storeAdoptsRow.make)=true:=by kernel_rfl
theorem aka:(Rows.storeAdoptsRow.kinds==(if Rows.storeAdoptsRow.domain.isEmpty then []else f6.params.toList.map λt=>match aa.underlying t with|some (.int k)=>some k|_=>none))=true:=by kernel_rfl
theorem aj_:(Rows.storeAdoptsRow.pinned==Rows.storeAdoptsRow.pinnedBy)=true:=by kernel_rfl
theorem aj9:(Rows.storeAdoptsRow.veiled==(f6.params.toList++Rows.storeAdoptsSpec.plain.varTypes aa++f6.resultTypes.toList).any (aa.veiledRec ·))=true:=by kernel_rfl
theorem aj8:Rows.storeAdoptsRow.veiledFits aa f6.params.toList (f6.params.toList++Rows.storeAdoptsSpec.plain.varTypes aa++f6.resultTypes.toList)=true:=by kernel_rfl
theorem ano:joinedFacts aa 6 f6 Rows.storeAdoptsSpec Rows.storeAdoptsRow=true:=Go.Ab.alc aly anJ anI alx alw alv anH alu anG akr akq akp ako akn akm akl akk akj aki akh akg akf ake akd amQ amP akc akb aka aj_ aj9 aj8
theorem fT:aa.funcNamed Rows.storeAdoptsRow.func=some 6:=by kernel_rfl
theorem aku:false=Rows.storeAdoptsRow.goesBy Tryz.pinned.checked.prog:=by kernel_rfl
theorem amx:Rows.storeAdoptsRow.wfByText (OpenSpec.ofChange Rows.storeAdoptsSpec)=true:=by kernel_rfl
theorem ajo:([3,22,3].all λu=>!Tryz.prog.wantsStandIn u)=true:=by kernel_rfl
end Go.Proofs.YtafmabnolelknaaGreatDoor
