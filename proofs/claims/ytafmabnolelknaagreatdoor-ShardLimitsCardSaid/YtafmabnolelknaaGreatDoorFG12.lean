import Derived.Test.YtafmabnolelknaaGreatDoorFG11
import Derived.Test.YtafmabnolelknaaGreatDoorCards
import Derived.KernelRfl
open Go.Proofs.Tryz
open Go.Proofs.Tryz renaming prog->aa
set_option maxRecDepth 100000
set_option maxHeartbeats 2000000
namespace Go.Proofs.YtafmabnolelknaaGreatDoor
open Go
theorem agb:Rows.shardLimitsRow.wf (OpenSpec.ofChange Rows.shardLimitsSpec)=true:=by kernel_rfl
theorem aga:f11.params.all (aa.readableRec ·)=true:=by kernel_rfl
theorem af_:namedTie aa Rows.shardLimitsRow.named Rows.shardLimitsSpec.vars=true:=by kernel_rfl
theorem af9:(Rows.shardLimitsRow.stops==[])=true:=by kernel_rfl
theorem af8:(Rows.shardLimitsRow.knobs==[])=true:=by kernel_rfl
theorem afs:(Rows.shardLimitsRow.inPlace==aa.inPlace 11)=true:=by kernel_rfl
theorem afr:(Rows.shardLimitsRow.unfollowed==aa.unfollowed 11)=true:=by kernel_rfl
theorem afq:(Rows.shardLimitsRow.recurses==aa.recurses 11)=true:=by kernel_rfl
theorem afp:(Rows.shardLimitsRow.named==aa.varsNamed 11)=true:=by kernel_rfl
theorem afo:(Rows.shardLimitsRow.maps==(f11.params.toList++Rows.shardLimitsSpec.plain.varTypes aa).any (aa.mapsRec ·))=true:=by kernel_rfl
theorem afn:(Rows.shardLimitsRow.ifaces==(f11.params.toList++Rows.shardLimitsSpec.plain.varTypes aa).any (aa.ifacesRec ·))=true:=by kernel_rfl
theorem afm:(Rows.shardLimitsRow.mapsOut==aa.mapsAmong f11.resultTypes.toList)=true:=by kernel_rfl
theorem afl:(Rows.shardLimitsRow.loops==(f11.params.toList++Rows.shardLimitsSpec.plain.varTypes aa).any (aa.loopsFrom ·))=true:=by kernel_rfl
theorem afk:(Rows.shardLimitsRow.wideKeys==(f11.params.toList++Rows.shardLimitsSpec.plain.varTypes aa++f11.resultTypes.toList).any (aa.wideKeysFrom ·))=true:=by kernel_rfl
theorem afj:Rows.shardLimitsSpec.vars.all (aa.varReadable ·)=true:=by kernel_rfl
theorem afi:f11.resultTypes.all (λt=>aa.readableRec t&&decide (t<aa.types.size))=true:=by kernel_rfl
theorem afh:(Rows.shardLimitsRow.ifacesOut==f11.resultTypes.toList.any (aa.ifacesRec ·))=true:=by kernel_rfl
theorem afg:(Rows.shardLimitsRow.loopsOut==f11.resultTypes.toList.any (aa.loopsFrom ·))=true:=by kernel_rfl
theorem aff:(Rows.shardLimitsRow.plainKeys==aa.plainKeys)=true:=by kernel_rfl
theorem afe:Rows.shardLimitsRow.shortTexts.isNone=true:=by kernel_rfl
theorem afd:(Rows.shardLimitsRow.lifted==aa.liftsFinal)=true:=by kernel_rfl
theorem afc:(aa.make==some Rows.shardLimitsRow.make)=true:=by kernel_rfl
theorem afb:(Rows.shardLimitsRow.kinds==(if Rows.shardLimitsRow.domain.isEmpty then []else f11.params.toList.map λt=>match aa.underlying t with|some (.int k)=>some k|_=>none))=true:=by kernel_rfl
theorem afa:(Rows.shardLimitsRow.pinned==Rows.shardLimitsRow.pinnedBy)=true:=by kernel_rfl
theorem ae_:(Rows.shardLimitsRow.veiled==(f11.params.toList++Rows.shardLimitsSpec.plain.varTypes aa++f11.resultTypes.toList).any (aa.veiledRec ·))=true:=by kernel_rfl
theorem ae9:Rows.shardLimitsRow.veiledFits aa f11.params.toList (f11.params.toList++Rows.shardLimitsSpec.plain.varTypes aa++f11.resultTypes.toList)=true:=by kernel_rfl
theorem aiq:joinedFacts aa 11 f11 Rows.shardLimitsSpec Rows.shardLimitsRow=true:=Go.Ab.ag6 agb ajP ajO aga af_ af9 ajN af8 ajM afs afr afq afp afo afn afm afl afk afj afi afh afg aff afe aiR aiQ afd afc afb afa ae_ ae9
theorem jA:aa.funcNamed Rows.shardLimitsRow.func=some 11:=by kernel_rfl
theorem aft:false=Rows.shardLimitsRow.goesBy Tryz.pinned.checked.prog:=by kernel_rfl
theorem aho:Rows.shardLimitsRow.wfByText (OpenSpec.ofChange Rows.shardLimitsSpec)=true:=by kernel_rfl
theorem aeC:([60,60,3].all λu=>!Tryz.prog.wantsStandIn u)=true:=by kernel_rfl
end Go.Proofs.YtafmabnolelknaaGreatDoor
