import Derived.Test.YthechbbdjabljaaGreatDoorAG4
import Derived.Test.YthechbbdjabljaaGreatDoorAG9
import Derived.Test.YthechbbdjabljaaGreatDoorAG42
open Go.Proofs.Tryz
open Go.IntKind renaming i64->aa
open Go.World renaming laidAll->ad
namespace Go.Proofs.YthechbbdjabljaaGreatDoor
open Go.Ab
open Go.ChangeShapes Go.WideShapes Go.ChangeAt Go.RowKit
set_option maxRecDepth 100000
theorem wi1:checked.prog.inits.idxOf? 3=none:=by kernel_rfl
theorem wi2(os:Os):World.variablesZipB checked.prog ((ad Tryz.prog os S9).forCall (λ_ _=>0) {blocks:=#[],args:=#[.agg #[.int aa 0,.int aa 0,.int aa 0,.int aa 0,.slice none 0 0,.int aa 0,.slice none 0 0,.slice none 0 0]]})=true:=by kernel_rfl
theorem wi3(os:Os):List.take ((begin checked.prog (λ_ _=>0) default).world.heap.size-checked.prog.globals.size) (List.drop checked.prog.globals.size ((ad Tryz.prog os S9).forCall (λ_ _=>0) {blocks:=#[],args:=#[.agg #[.int aa 0,.int aa 0,.int aa 0,.int aa 0,.slice none 0 0,.int aa 0,.slice none 0 0,.slice none 0 0]]}).heap.toList)=List.drop checked.prog.globals.size (begin checked.prog (λ_ _=>0) default).world.heap.toList:=by kernel_rfl
theorem wi4(os:Os):Input.okWideB checked.prog ((ad Tryz.prog os S9).forCall (λ_ _=>0) {blocks:=#[],args:=#[.agg #[.int aa 0,.int aa 0,.int aa 0,.int aa 0,.slice none 0 0,.int aa 0,.slice none 0 0,.slice none 0 0]]}) 3 {blocks:=#[],args:=#[.agg #[.int aa 0,.int aa 0,.int aa 0,.int aa 0,.slice none 0 0,.int aa 0,.slice none 0 0,.slice none 0 0]]}=true:=by kernel_rfl
theorem wi5(os:Os){H:Type}(enc:TypeId×Value->H):ChangeSpec.preB enc checked.prog f3 Rows.auditMeansSpec Rows.auditMeansRow.domain false ((ad Tryz.prog os S9).forCall (λ_ _=>0) {blocks:=#[],args:=#[.agg #[.int aa 0,.int aa 0,.int aa 0,.int aa 0,.slice none 0 0,.int aa 0,.slice none 0 0,.slice none 0 0]]}).memory #[.agg #[.int aa 0,.int aa 0,.int aa 0,.int aa 0,.slice none 0 0,.int aa 0,.slice none 0 0,.slice none 0 0]] 8=true:=by kernel_rfl
theorem wi6(os:Os){H:Type}(enc:TypeId×Value->H):ChangeSpec.sizedB enc checked.prog f3 Rows.auditMeansSpec false ((ad Tryz.prog os S9).forCall (λ_ _=>0) {blocks:=#[],args:=#[.agg #[.int aa 0,.int aa 0,.int aa 0,.int aa 0,.slice none 0 0,.int aa 0,.slice none 0 0,.slice none 0 0]]}).memory #[.agg #[.int aa 0,.int aa 0,.int aa 0,.int aa 0,.slice none 0 0,.int aa 0,.slice none 0 0,.slice none 0 0]] 8=true:=by kernel_rfl
theorem wi7(os:Os):World.layFits Tryz.prog (World.holding Tryz.prog os {blocks:=#[],args:=#[.agg #[.int aa 0,.int aa 0,.int aa 0,.int aa 0,.slice none 0 0,.int aa 0,.slice none 0 0,.slice none 0 0]]}) S9 []=true:=by kernel_rfl
theorem wi9:(S9.all λx=>x.2.handleName?.isNone)=true:=by kernel_rfl
theorem anR:zJ checked.prog f3.params.toList=true:=by have e:checked.prog=Tryz.prog:=rfl;unfold zJ;rw[e,fD,params3];rfl
end Go.Proofs.YthechbbdjabljaaGreatDoor
