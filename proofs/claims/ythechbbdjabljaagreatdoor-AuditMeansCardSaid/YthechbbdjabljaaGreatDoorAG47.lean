import Derived.Test.YthechbbdjabljaaGreatDoorAG42
import Derived.Test.YthechbbdjabljaaGreatDoorAG44
import Derived.Test.YthechbbdjabljaaGreatDoorAG46
import Derived.Test.YthechbbdjabljaaGreatDoorCards
import Derived.KernelRfl
open Go.Proofs.Tryz
open Go.Proofs.Tryz renaming prog->aa
namespace Go.Proofs.YthechbbdjabljaaGreatDoor
open Go
set_option maxRecDepth 100000
theorem ahi:Rows.auditMeansRow.wf (OpenSpec.ofChange Rows.auditMeansSpec)=true:=by kernel_rfl
theorem ahh:f3.params.all (aa.readableRec ·)=true:=by kernel_rfl
theorem ahg:namedTie aa Rows.auditMeansRow.named Rows.auditMeansSpec.vars=true:=by kernel_rfl
theorem ahf:(Rows.auditMeansRow.stops==[])=true:=by kernel_rfl
theorem ahe:(Rows.auditMeansRow.knobs==[])=true:=by kernel_rfl
theorem agm:(Rows.auditMeansRow.maps==(f3.params.toList++Rows.auditMeansSpec.plain.varTypes aa).any (aa.mapsRec ·))=true:=by kernel_rfl
theorem agl:(Rows.auditMeansRow.ifaces==(f3.params.toList++Rows.auditMeansSpec.plain.varTypes aa).any (aa.ifacesRec ·))=true:=by kernel_rfl
theorem agk:(Rows.auditMeansRow.mapsOut==aa.mapsAmong f3.resultTypes.toList)=true:=by kernel_rfl
theorem agj:(Rows.auditMeansRow.loops==(f3.params.toList++Rows.auditMeansSpec.plain.varTypes aa).any (aa.loopsFrom ·))=true:=by kernel_rfl
theorem agi:(Rows.auditMeansRow.wideKeys==(f3.params.toList++Rows.auditMeansSpec.plain.varTypes aa++f3.resultTypes.toList).any (aa.wideKeysFrom ·))=true:=by kernel_rfl
theorem agh:Rows.auditMeansSpec.vars.all (aa.varReadable ·)=true:=by kernel_rfl
theorem agf:f3.resultTypes.all (λt=>aa.readableRec t&&decide (t<aa.types.size))=true:=by kernel_rfl
theorem age:(Rows.auditMeansRow.ifacesOut==f3.resultTypes.toList.any (aa.ifacesRec ·))=true:=by kernel_rfl
theorem agd:(Rows.auditMeansRow.loopsOut==f3.resultTypes.toList.any (aa.loopsFrom ·))=true:=by kernel_rfl
theorem agc:(Rows.auditMeansRow.plainKeys==aa.plainKeys)=true:=by kernel_rfl
theorem agb:Rows.auditMeansRow.shortTexts.isNone=true:=by kernel_rfl
theorem aga:(Rows.auditMeansRow.lifted==aa.liftsFinal)=true:=by kernel_rfl
theorem af_:(aa.make==some Rows.auditMeansRow.make)=true:=by kernel_rfl
theorem af9:(Rows.auditMeansRow.kinds==(if Rows.auditMeansRow.domain.isEmpty then []else f3.params.toList.map λt=>match aa.underlying t with|some (.int k)=>some k|_=>none))=true:=by kernel_rfl
theorem af8:(Rows.auditMeansRow.pinned==Rows.auditMeansRow.pinnedBy)=true:=by kernel_rfl
theorem af7:(Rows.auditMeansRow.veiled==(f3.params.toList++Rows.auditMeansSpec.plain.varTypes aa++f3.resultTypes.toList).any (aa.veiledRec ·))=true:=by kernel_rfl
theorem af6:Rows.auditMeansRow.veiledFits aa f3.params.toList (f3.params.toList++Rows.auditMeansSpec.plain.varTypes aa++f3.resultTypes.toList)=true:=by kernel_rfl
theorem ajI:joinedFacts aa 3 f3 Rows.auditMeansSpec Rows.auditMeansRow=true:=Go.Ab.agZ ahi fD aj_ ahh ahg ahf aj9 ahe aj8 agp kv ago agn agm agl agk agj agi agh agf age agd agc agb aiL aiK aga af_ af9 af8 af7 af6
theorem aih:Rows.auditMeansRow.wfByText (OpenSpec.ofChange Rows.auditMeansSpec)=true:=by kernel_rfl
end Go.Proofs.YthechbbdjabljaaGreatDoor
