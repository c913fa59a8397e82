/- The closed facts of the rows. -/
import Derived.Test.YtnglhicedhcpbaaGreatDoorAG20
import Derived.Test.YtnglhicedhcpbaaGreatDoorRows
namespace Go.Proofs.YtnglhicedhcpbaaGreatDoor
open Go
set_option maxRecDepth 100000
theorem seat_2 : laidOutB Tryz.prog = true := by kernel_rfl
theorem seat_3 : mapsRowed Tryz.prog = true := by kernel_rfl
theorem seat_7 : (Tryz.prog.stops == []) = true := by kernel_rfl
theorem seat_9 : (Tryz.prog.stopKnobs == []) = true := by kernel_rfl
theorem seat_25 : Tryz.prog.stopsHeard = true := by kernel_rfl
theorem seat_26 : Tryz.prog.mayEnter = true := by kernel_rfl
theorem closed3_1 : Rows.segmentNobodyRow.wf (OpenSpec.ofChange Rows.segmentNobodySpec) = true := by kernel_rfl
theorem closed3_4 : Tryz.f3.params.all (Tryz.prog.readableRec ·) = true := by kernel_rfl
theorem closed3_5 : namedTie Tryz.prog Rows.segmentNobodyRow.named Rows.segmentNobodySpec.vars = true := by kernel_rfl
theorem closed3_6 : (Rows.segmentNobodyRow.stops == []) = true := by kernel_rfl
theorem closed3_8 : (Rows.segmentNobodyRow.knobs == []) = true := by kernel_rfl
theorem closed3_10 : (Rows.segmentNobodyRow.inPlace == Tryz.prog.inPlace 3) = true := by kernel_rfl
theorem closed3_11 : (Rows.segmentNobodyRow.unfollowed == Tryz.prog.unfollowed 3) = true := by kernel_rfl
theorem closed3_12 : (Rows.segmentNobodyRow.recurses == Tryz.prog.recurses 3) = true := by kernel_rfl
theorem closed3_13 : (Rows.segmentNobodyRow.named == Tryz.prog.varsNamed 3) = true := by kernel_rfl
theorem closed3_14 : (Rows.segmentNobodyRow.maps == (Tryz.f3.params.toList ++ Rows.segmentNobodySpec.plain.varTypes Tryz.prog).any (Tryz.prog.mapsRec ·)) = true := by kernel_rfl
theorem closed3_15 : (Rows.segmentNobodyRow.ifaces == (Tryz.f3.params.toList ++ Rows.segmentNobodySpec.plain.varTypes Tryz.prog).any (Tryz.prog.ifacesRec ·)) = true := by kernel_rfl
theorem closed3_16 : (Rows.segmentNobodyRow.mapsOut == Tryz.prog.mapsAmong Tryz.f3.resultTypes.toList) = true := by kernel_rfl
theorem closed3_17 : (Rows.segmentNobodyRow.loops == (Tryz.f3.params.toList ++ Rows.segmentNobodySpec.plain.varTypes Tryz.prog).any (Tryz.prog.loopsFrom ·)) = true := by kernel_rfl
theorem closed3_18 : (Rows.segmentNobodyRow.wideKeys == (Tryz.f3.params.toList ++ Rows.segmentNobodySpec.plain.varTypes Tryz.prog ++ Tryz.f3.resultTypes.toList).any (Tryz.prog.wideKeysFrom ·)) = true := by kernel_rfl
theorem closed3_19 : Rows.segmentNobodySpec.vars.all (Tryz.prog.varReadable ·) = true := by kernel_rfl
theorem closed3_20 : Tryz.f3.resultTypes.all (fun t => Tryz.prog.readableRec t && decide (t < Tryz.prog.types.size)) = true := by kernel_rfl
theorem closed3_21 : (Rows.segmentNobodyRow.ifacesOut == Tryz.f3.resultTypes.toList.any (Tryz.prog.ifacesRec ·)) = true := by kernel_rfl
theorem closed3_22 : (Rows.segmentNobodyRow.loopsOut == Tryz.f3.resultTypes.toList.any (Tryz.prog.loopsFrom ·)) = true := by kernel_rfl
theorem closed3_23 : (Rows.segmentNobodyRow.plainKeys == Tryz.prog.plainKeys) = true := by kernel_rfl
theorem closed3_24 : Rows.segmentNobodyRow.shortTexts.isNone = true := by kernel_rfl
theorem closed3_27 : (Rows.segmentNobodyRow.lifted == Tryz.prog.liftsFinal) = true := by kernel_rfl
theorem closed3_28 : (Tryz.prog.make == some Rows.segmentNobodyRow.make) = true := by kernel_rfl
theorem closed3_29 : (Rows.segmentNobodyRow.kinds == (if Rows.segmentNobodyRow.domain.isEmpty then [] else Tryz.f3.params.toList.map fun t => match Tryz.prog.underlying t with | some (.int k) => some k | _ => none)) = true := by kernel_rfl
theorem closed3_30 : (Rows.segmentNobodyRow.pinned == Rows.segmentNobodyRow.pinnedBy) = true := by kernel_rfl
theorem closed3_31 : (Rows.segmentNobodyRow.veiled == (Tryz.f3.params.toList ++ Rows.segmentNobodySpec.plain.varTypes Tryz.prog ++ Tryz.f3.resultTypes.toList).any (Tryz.prog.veiledRec ·)) = true := by kernel_rfl
theorem closed3_32 : Rows.segmentNobodyRow.veiledFits Tryz.prog Tryz.f3.params.toList (Tryz.f3.params.toList ++ Rows.segmentNobodySpec.plain.varTypes Tryz.prog ++ Tryz.f3.resultTypes.toList) = true := by kernel_rfl
theorem closed3 : joinedFacts Tryz.prog 3 Tryz.f3 Rows.segmentNobodySpec Rows.segmentNobodyRow = true :=
  Go.Ab.joined_of closed3_1 seat_2 seat_3 closed3_4 closed3_5 closed3_6 seat_7 closed3_8 seat_9 closed3_10 closed3_11 closed3_12 closed3_13 closed3_14 closed3_15 closed3_16 closed3_17 closed3_18 closed3_19 closed3_20 closed3_21 closed3_22 closed3_23 closed3_24 seat_25 seat_26 closed3_27 closed3_28 closed3_29 closed3_30 closed3_31 closed3_32
end Go.Proofs.YtnglhicedhcpbaaGreatDoor
