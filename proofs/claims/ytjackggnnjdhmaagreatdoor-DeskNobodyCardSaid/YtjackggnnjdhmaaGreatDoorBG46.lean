import Derived.Test.YtjackggnnjdhmaaGreatDoorBG41
import Derived.Test.YtjackggnnjdhmaaGreatDoorBG43
import Derived.Test.YtjackggnnjdhmaaGreatDoorBG45
import Derived.Test.YtjackggnnjdhmaaGreatDoorCards
import Derived.KernelRfl
namespace Go.Proofs.YtjackggnnjdhmaaGreatDoor
open Go
set_option maxRecDepth 100000
theorem closed5_1 : Rows.deskNobodyRow.wf (OpenSpec.ofChange Rows.deskNobodySpec) = true := by kernel_rfl
theorem closed5_4 : Tryz.f5.params.all (Tryz.prog.readableRec ·) = true := by kernel_rfl
theorem closed5_5 : namedTie Tryz.prog Rows.deskNobodyRow.named Rows.deskNobodySpec.vars = true := by kernel_rfl
theorem closed5_6 : (Rows.deskNobodyRow.stops == []) = true := by kernel_rfl
theorem closed5_8 : (Rows.deskNobodyRow.knobs == []) = true := by kernel_rfl
theorem closed5_14 : (Rows.deskNobodyRow.maps == (Tryz.f5.params.toList ++ Rows.deskNobodySpec.plain.varTypes Tryz.prog).any (Tryz.prog.mapsRec ·)) = true := by kernel_rfl
theorem closed5_15 : (Rows.deskNobodyRow.ifaces == (Tryz.f5.params.toList ++ Rows.deskNobodySpec.plain.varTypes Tryz.prog).any (Tryz.prog.ifacesRec ·)) = true := by kernel_rfl
theorem closed5_16 : (Rows.deskNobodyRow.mapsOut == Tryz.prog.mapsAmong Tryz.f5.resultTypes.toList) = true := by kernel_rfl
theorem closed5_17 : (Rows.deskNobodyRow.loops == (Tryz.f5.params.toList ++ Rows.deskNobodySpec.plain.varTypes Tryz.prog).any (Tryz.prog.loopsFrom ·)) = true := by kernel_rfl
theorem closed5_18 : (Rows.deskNobodyRow.wideKeys == (Tryz.f5.params.toList ++ Rows.deskNobodySpec.plain.varTypes Tryz.prog ++ Tryz.f5.resultTypes.toList).any (Tryz.prog.wideKeysFrom ·)) = true := by kernel_rfl
theorem closed5_19 : Rows.deskNobodySpec.vars.all (Tryz.prog.varReadable ·) = true := by kernel_rfl
theorem closed5_20 : Tryz.f5.resultTypes.all (fun t => Tryz.prog.readableRec t && decide (t < Tryz.prog.types.size)) = true := by kernel_rfl
theorem closed5_21 : (Rows.deskNobodyRow.ifacesOut == Tryz.f5.resultTypes.toList.any (Tryz.prog.ifacesRec ·)) = true := by kernel_rfl
theorem closed5_22 : (Rows.deskNobodyRow.loopsOut == Tryz.f5.resultTypes.toList.any (Tryz.prog.loopsFrom ·)) = true := by kernel_rfl
theorem closed5_23 : (Rows.deskNobodyRow.plainKeys == Tryz.prog.plainKeys) = true := by kernel_rfl
theorem closed5_24 : Rows.deskNobodyRow.shortTexts.isNone = true := by kernel_rfl
theorem closed5_27 : (Rows.deskNobodyRow.lifted == Tryz.prog.liftsFinal) = true := by kernel_rfl
theorem closed5_28 : (Tryz.prog.make == some Rows.deskNobodyRow.make) = true := by kernel_rfl
theorem closed5_29 : (Rows.deskNobodyRow.kinds == (if Rows.deskNobodyRow.domain.isEmpty then [] else Tryz.f5.params.toList.map fun t => match Tryz.prog.underlying t with | some (.int k) => some k | _ => none)) = true := by kernel_rfl
theorem closed5_30 : (Rows.deskNobodyRow.pinned == Rows.deskNobodyRow.pinnedBy) = true := by kernel_rfl
theorem closed5_31 : (Rows.deskNobodyRow.veiled == (Tryz.f5.params.toList ++ Rows.deskNobodySpec.plain.varTypes Tryz.prog ++ Tryz.f5.resultTypes.toList).any (Tryz.prog.veiledRec ·)) = true := by kernel_rfl
theorem closed5_32 : Rows.deskNobodyRow.veiledFits Tryz.prog Tryz.f5.params.toList (Tryz.f5.params.toList ++ Rows.deskNobodySpec.plain.varTypes Tryz.prog ++ Tryz.f5.resultTypes.toList) = true := by kernel_rfl
theorem closed5 : joinedFacts Tryz.prog 5 Tryz.f5 Rows.deskNobodySpec Rows.deskNobodyRow = true :=
 Go.Ab.joined_of closed5_1 seat_2 seat_3 closed5_4 closed5_5 closed5_6 seat_7 closed5_8 seat_9 closed5_10 closed5_11 closed5_12 closed5_13 closed5_14 closed5_15 closed5_16 closed5_17 closed5_18 closed5_19 closed5_20 closed5_21 closed5_22 closed5_23 closed5_24 seat_25 seat_26 closed5_27 closed5_28 closed5_29 closed5_30 closed5_31 closed5_32
theorem card5_wf : Rows.deskNobodyRow.wfByText (OpenSpec.ofChange Rows.deskNobodySpec) = true := by kernel_rfl
end Go.Proofs.YtjackggnnjdhmaaGreatDoor
