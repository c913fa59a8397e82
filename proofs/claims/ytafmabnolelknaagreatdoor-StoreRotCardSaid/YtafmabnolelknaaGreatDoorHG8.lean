import Derived.Test.YtafmabnolelknaaGreatDoorHG7
import Derived.Test.YtafmabnolelknaaGreatDoorCards
import Derived.KernelRfl
open Go.Proofs.Tryz
open Go.Proofs.Tryz renaming prog->aa
set_option maxRecDepth 100000
set_option maxHeartbeats 2000000
namespace Go.Proofs.YtafmabnolelknaaGreatDoor
open Go
theorem aiv:Rows.storeRotRow.wf (OpenSpec.ofChange Rows.storeRotSpec)=true:=by kernel_rfl
theorem aiu:f7.params.all (aa.readableRec ·)=true:=by kernel_rfl
theorem ait:namedTie aa Rows.storeRotRow.named Rows.storeRotSpec.vars=true:=by kernel_rfl
theorem ais:(Rows.storeRotRow.stops==[])=true:=by kernel_rfl
theorem air:(Rows.storeRotRow.knobs==[])=true:=by kernel_rfl
theorem ag9:(Rows.storeRotRow.inPlace==aa.inPlace 7)=true:=by kernel_rfl
theorem ag8:(Rows.storeRotRow.unfollowed==aa.unfollowed 7)=true:=by kernel_rfl
theorem ag7:(Rows.storeRotRow.recurses==aa.recurses 7)=true:=by kernel_rfl
theorem ag6:(Rows.storeRotRow.named==aa.varsNamed 7)=true:=by kernel_rfl
theorem ag5:(Rows.storeRotRow.maps==(f7.params.toList++Rows.storeRotSpec.plain.varTypes aa).any (aa.mapsRec ·))=true:=by kernel_rfl
theorem ag4:(Rows.storeRotRow.ifaces==(f7.params.toList++Rows.storeRotSpec.plain.varTypes aa).any (aa.ifacesRec ·))=true:=by kernel_rfl
theorem ag3:(Rows.storeRotRow.mapsOut==aa.mapsAmong f7.resultTypes.toList)=true:=by kernel_rfl
theorem ag2:(Rows.storeRotRow.loops==(f7.params.toList++Rows.storeRotSpec.plain.varTypes aa).any (aa.loopsFrom ·))=true:=by kernel_rfl
theorem ag1:(Rows.storeRotRow.wideKeys==(f7.params.toList++Rows.storeRotSpec.plain.varTypes aa++f7.resultTypes.toList).any (aa.wideKeysFrom ·))=true:=by kernel_rfl
theorem ag0:Rows.storeRotSpec.vars.all (aa.varReadable ·)=true:=by kernel_rfl
theorem agZ:f7.resultTypes.all (λt=>aa.readableRec t&&decide (t<aa.types.size))=true:=by kernel_rfl
theorem agY:(Rows.storeRotRow.ifacesOut==f7.resultTypes.toList.any (aa.ifacesRec ·))=true:=by kernel_rfl
theorem agX:(Rows.storeRotRow.loopsOut==f7.resultTypes.toList.any (aa.loopsFrom ·))=true:=by kernel_rfl
theorem agW:(Rows.storeRotRow.plainKeys==aa.plainKeys)=true:=by kernel_rfl
theorem agV:Rows.storeRotRow.shortTexts.isNone=true:=by kernel_rfl
theorem agU:(Rows.storeRotRow.lifted==aa.liftsFinal)=true:=by kernel_rfl
theorem agT:(aa.make==some Rows.storeRotRow.make)=true:=by kernel_rfl
theorem agS:(Rows.storeRotRow.kinds==(if Rows.storeRotRow.domain.isEmpty then []else f7.params.toList.map λt=>match aa.underlying t with|some (.int k)=>some k|_=>none))=true:=by kernel_rfl
theorem agR:(Rows.storeRotRow.pinned==Rows.storeRotRow.pinnedBy)=true:=by kernel_rfl
theorem agQ:(Rows.storeRotRow.veiled==(f7.params.toList++Rows.storeRotSpec.plain.varTypes aa++f7.resultTypes.toList).any (aa.veiledRec ·))=true:=by kernel_rfl
theorem agP:Rows.storeRotRow.veiledFits aa f7.params.toList (f7.params.toList++Rows.storeRotSpec.plain.varTypes aa++f7.resultTypes.toList)=true:=by kernel_rfl
theorem akt:joinedFacts aa 7 f7 Rows.storeRotSpec Rows.storeRotRow=true:=Go.Ab.ah7 aiv akM akL aiu ait ais akK air akJ ag9 ag8 ag7 ag6 ag5 ag4 ag3 ag2 ag1 ag0 agZ agY agX agW agV ajU ajT agU agT agS agR agQ agP
theorem gC:aa.funcNamed Rows.storeRotRow.func=some 7:=by kernel_rfl
theorem ahb:false=Rows.storeRotRow.goesBy Tryz.pinned.checked.prog:=by kernel_rfl
theorem ajx:Rows.storeRotRow.wfByText (OpenSpec.ofChange Rows.storeRotSpec)=true:=by kernel_rfl
theorem af6:([3,22,3,3,3,71,24].all λu=>!Tryz.prog.wantsStandIn u)=true:=by kernel_rfl
end Go.Proofs.YtafmabnolelknaaGreatDoor
