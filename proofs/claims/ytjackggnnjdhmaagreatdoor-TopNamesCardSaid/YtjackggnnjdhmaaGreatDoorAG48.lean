import Derived.Test.YtjackggnnjdhmaaGreatDoorAG43
import Derived.Test.YtjackggnnjdhmaaGreatDoorAG45
import Derived.Test.YtjackggnnjdhmaaGreatDoorAG47
import Derived.Test.YtjackggnnjdhmaaGreatDoorCards
import Derived.KernelRfl
namespace Go.Proofs.YtjackggnnjdhmaaGreatDoor
open Go
set_option maxRecDepth 100000
theorem closed3_1 : Rows.topNamesRow.wf (OpenSpec.ofChange Rows.topNamesSpec) = true := by kernel_rfl
theorem closed3_4 : Tryz.f3.params.all (Tryz.prog.readableRec ·) = true := by kernel_rfl
theorem closed3_5 : namedTie Tryz.prog Rows.topNamesRow.named Rows.topNamesSpec.vars = true := by kernel_rfl
theorem closed3_6 : (Rows.topNamesRow.stops == []) = true := by kernel_rfl
theorem closed3_8 : (Rows.topNamesRow.knobs == []) = true := by kernel_rfl
theorem closed3_14 : (Rows.topNamesRow.maps == (Tryz.f3.params.toList ++ Rows.topNamesSpec.plain.varTypes Tryz.prog).any (Tryz.prog.mapsRec ·)) = true := by kernel_rfl
theorem closed3_15 : (Rows.topNamesRow.ifaces == (Tryz.f3.params.toList ++ Rows.topNamesSpec.plain.varTypes Tryz.prog).any (Tryz.prog.ifacesRec ·)) = true := by kernel_rfl
theorem closed3_16 : (Rows.topNamesRow.mapsOut == Tryz.prog.mapsAmong Tryz.f3.resultTypes.toList) = true := by kernel_rfl
theorem closed3_17 : (Rows.topNamesRow.loops == (Tryz.f3.params.toList ++ Rows.topNamesSpec.plain.varTypes Tryz.prog).any (Tryz.prog.loopsFrom ·)) = true := by kernel_rfl
theorem closed3_18 : (Rows.topNamesRow.wideKeys == (Tryz.f3.params.toList ++ Rows.topNamesSpec.plain.varTypes Tryz.prog ++ Tryz.f3.resultTypes.toList).any (Tryz.prog.wideKeysFrom ·)) = true := by kernel_rfl
theorem closed3_19 : Rows.topNamesSpec.vars.all (Tryz.prog.varReadable ·) = true := by kernel_rfl
theorem closed3_20 : Tryz.f3.resultTypes.all (fun t => Tryz.prog.readableRec t && decide (t < Tryz.prog.types.size)) = true := by kernel_rfl
theorem closed3_21 : (Rows.topNamesRow.ifacesOut == Tryz.f3.resultTypes.toList.any (Tryz.prog.ifacesRec ·)) = true := by kernel_rfl
theorem closed3_22 : (Rows.topNamesRow.loopsOut == Tryz.f3.resultTypes.toList.any (Tryz.prog.loopsFrom ·)) = true := by kernel_rfl
theorem closed3_23 : (Rows.topNamesRow.plainKeys == Tryz.prog.plainKeys) = true := by kernel_rfl
theorem closed3_24 : Rows.topNamesRow.shortTexts.isNone = true := by kernel_rfl
theorem closed3_27 : (Rows.topNamesRow.lifted == Tryz.prog.liftsFinal) = true := by kernel_rfl
theorem closed3_28 : (Tryz.prog.make == some Rows.topNamesRow.make) = true := by kernel_rfl
theorem closed3_29 : (Rows.topNamesRow.kinds == (if Rows.topNamesRow.domain.isEmpty then [] else Tryz.f3.params.toList.map fun t => match Tryz.prog.underlying t with | some (.int k) => some k | _ => none)) = true := by kernel_rfl
theorem closed3_30 : (Rows.topNamesRow.pinned == Rows.topNamesRow.pinnedBy) = true := by kernel_rfl
theorem closed3_31 : (Rows.topNamesRow.veiled == (Tryz.f3.params.toList ++ Rows.topNamesSpec.plain.varTypes Tryz.prog ++ Tryz.f3.resultTypes.toList).any (Tryz.prog.veiledRec ·)) = true := by kernel_rfl
theorem closed3_32 : Rows.topNamesRow.veiledFits Tryz.prog Tryz.f3.params.toList (Tryz.f3.params.toList ++ Rows.topNamesSpec.plain.varTypes Tryz.prog ++ Tryz.f3.resultTypes.toList) = true := by kernel_rfl
theorem closed3 : joinedFacts Tryz.prog 3 Tryz.f3 Rows.topNamesSpec Rows.topNamesRow = true :=
 Go.Ab.joined_of closed3_1 seat_2 seat_3 closed3_4 closed3_5 closed3_6 seat_7 closed3_8 seat_9 closed3_10 closed3_11 closed3_12 closed3_13 closed3_14 closed3_15 closed3_16 closed3_17 closed3_18 closed3_19 closed3_20 closed3_21 closed3_22 closed3_23 closed3_24 seat_25 seat_26 closed3_27 closed3_28 closed3_29 closed3_30 closed3_31 closed3_32
theorem card3_wf : Rows.topNamesRow.wfByText (OpenSpec.ofChange Rows.topNamesSpec) = true := by kernel_rfl
end Go.Proofs.YtjackggnnjdhmaaGreatDoor
