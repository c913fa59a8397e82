import Derived.Test.YtjackggnnjdhmaaGreatDoorCG42
import Derived.Test.YtjackggnnjdhmaaGreatDoorCG44
import Derived.Test.YtjackggnnjdhmaaGreatDoorCG46
import Derived.Test.YtjackggnnjdhmaaGreatDoorCards
import Derived.KernelRfl
namespace Go.Proofs.YtjackggnnjdhmaaGreatDoor
open Go
set_option maxRecDepth 100000
theorem closed4_1 : Rows.deskNamesRow.wf (OpenSpec.ofChange Rows.deskNamesSpec) = true := by kernel_rfl
theorem closed4_4 : Tryz.f4.params.all (Tryz.prog.readableRec ·) = true := by kernel_rfl
theorem closed4_5 : namedTie Tryz.prog Rows.deskNamesRow.named Rows.deskNamesSpec.vars = true := by kernel_rfl
theorem closed4_6 : (Rows.deskNamesRow.stops == []) = true := by kernel_rfl
theorem closed4_8 : (Rows.deskNamesRow.knobs == []) = true := by kernel_rfl
theorem closed4_14 : (Rows.deskNamesRow.maps == (Tryz.f4.params.toList ++ Rows.deskNamesSpec.plain.varTypes Tryz.prog).any (Tryz.prog.mapsRec ·)) = true := by kernel_rfl
theorem closed4_15 : (Rows.deskNamesRow.ifaces == (Tryz.f4.params.toList ++ Rows.deskNamesSpec.plain.varTypes Tryz.prog).any (Tryz.prog.ifacesRec ·)) = true := by kernel_rfl
theorem closed4_16 : (Rows.deskNamesRow.mapsOut == Tryz.prog.mapsAmong Tryz.f4.resultTypes.toList) = true := by kernel_rfl
theorem closed4_17 : (Rows.deskNamesRow.loops == (Tryz.f4.params.toList ++ Rows.deskNamesSpec.plain.varTypes Tryz.prog).any (Tryz.prog.loopsFrom ·)) = true := by kernel_rfl
theorem closed4_18 : (Rows.deskNamesRow.wideKeys == (Tryz.f4.params.toList ++ Rows.deskNamesSpec.plain.varTypes Tryz.prog ++ Tryz.f4.resultTypes.toList).any (Tryz.prog.wideKeysFrom ·)) = true := by kernel_rfl
theorem closed4_19 : Rows.deskNamesSpec.vars.all (Tryz.prog.varReadable ·) = true := by kernel_rfl
theorem closed4_20 : Tryz.f4.resultTypes.all (fun t => Tryz.prog.readableRec t && decide (t < Tryz.prog.types.size)) = true := by kernel_rfl
theorem closed4_21 : (Rows.deskNamesRow.ifacesOut == Tryz.f4.resultTypes.toList.any (Tryz.prog.ifacesRec ·)) = true := by kernel_rfl
theorem closed4_22 : (Rows.deskNamesRow.loopsOut == Tryz.f4.resultTypes.toList.any (Tryz.prog.loopsFrom ·)) = true := by kernel_rfl
theorem closed4_23 : (Rows.deskNamesRow.plainKeys == Tryz.prog.plainKeys) = true := by kernel_rfl
theorem closed4_24 : Rows.deskNamesRow.shortTexts.isNone = true := by kernel_rfl
theorem closed4_27 : (Rows.deskNamesRow.lifted == Tryz.prog.liftsFinal) = true := by kernel_rfl
theorem closed4_28 : (Tryz.prog.make == some Rows.deskNamesRow.make) = true := by kernel_rfl
theorem closed4_29 : (Rows.deskNamesRow.kinds == (if Rows.deskNamesRow.domain.isEmpty then [] else Tryz.f4.params.toList.map fun t => match Tryz.prog.underlying t with | some (.int k) => some k | _ => none)) = true := by kernel_rfl
theorem closed4_30 : (Rows.deskNamesRow.pinned == Rows.deskNamesRow.pinnedBy) = true := by kernel_rfl
theorem closed4_31 : (Rows.deskNamesRow.veiled == (Tryz.f4.params.toList ++ Rows.deskNamesSpec.plain.varTypes Tryz.prog ++ Tryz.f4.resultTypes.toList).any (Tryz.prog.veiledRec ·)) = true := by kernel_rfl
theorem closed4_32 : Rows.deskNamesRow.veiledFits Tryz.prog Tryz.f4.params.toList (Tryz.f4.params.toList ++ Rows.deskNamesSpec.plain.varTypes Tryz.prog ++ Tryz.f4.resultTypes.toList) = true := by kernel_rfl
theorem closed4 : joinedFacts Tryz.prog 4 Tryz.f4 Rows.deskNamesSpec Rows.deskNamesRow = true :=
 Go.Ab.joined_of closed4_1 seat_2 seat_3 closed4_4 closed4_5 closed4_6 seat_7 closed4_8 seat_9 closed4_10 closed4_11 closed4_12 closed4_13 closed4_14 closed4_15 closed4_16 closed4_17 closed4_18 closed4_19 closed4_20 closed4_21 closed4_22 closed4_23 closed4_24 seat_25 seat_26 closed4_27 closed4_28 closed4_29 closed4_30 closed4_31 closed4_32
theorem card4_wf : Rows.deskNamesRow.wfByText (OpenSpec.ofChange Rows.deskNamesSpec) = true := by kernel_rfl
end Go.Proofs.YtjackggnnjdhmaaGreatDoor
