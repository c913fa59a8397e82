/- What the rows ask of the program alone. -/
import Derived.Test.YtnglhicedhcpbaaGreatDoorGG32
import Derived.Test.YtnglhicedhcpbaaGreatDoorRows
import Derived.Test.YtnglhicedhcpbaaGreatDoorCards
import Derived.KernelRfl
namespace Go.Proofs.YtnglhicedhcpbaaGreatDoor
open Go
set_option maxRecDepth 100000
theorem seat_2 : laidOutB Tryz.prog = true := by kernel_rfl
theorem seat_3 : mapsRowed Tryz.prog = true := by kernel_rfl
theorem seat_7 : (Tryz.prog.stops == []) = true := by kernel_rfl
theorem seat_9 : (Tryz.prog.stopKnobs == []) = true := by kernel_rfl
theorem seat_25 : Tryz.prog.stopsHeard = true := by kernel_rfl
theorem seat_26 : Tryz.prog.mayEnter = true := by kernel_rfl
theorem card_main : Tryz.pinned.checked.prog.mainIs = some (true, "167e363518a68182c5c761e88d2ab89c747fc052803a2d80bb731255294a9900".toList) := by kernel_rfl
theorem card_looks : false = Tryz.pinned.checked.prog.looks [] := by kernel_rfl
theorem own3 : ownKnob Tryz.prog.godebug = none := by kernel_rfl
end Go.Proofs.YtnglhicedhcpbaaGreatDoor

/- The closed facts of SegmentWrites. -/
namespace Go.Proofs.YtnglhicedhcpbaaGreatDoor
open Go
set_option maxRecDepth 100000
theorem closed8_1 : Rows.segmentWritesRow.wf (OpenSpec.ofChange Rows.segmentWritesSpec) = true := by kernel_rfl
theorem closed8_4 : Tryz.f8.params.all (Tryz.prog.readableRec ·) = true := by kernel_rfl
theorem closed8_5 : namedTie Tryz.prog Rows.segmentWritesRow.named Rows.segmentWritesSpec.vars = true := by kernel_rfl
theorem closed8_6 : (Rows.segmentWritesRow.stops == []) = true := by kernel_rfl
theorem closed8_8 : (Rows.segmentWritesRow.knobs == []) = true := by kernel_rfl
theorem closed8_10 : (Rows.segmentWritesRow.inPlace == Tryz.prog.inPlace 8) = true := by kernel_rfl
theorem closed8_11 : (Rows.segmentWritesRow.unfollowed == Tryz.prog.unfollowed 8) = true := by kernel_rfl
theorem closed8_12 : (Rows.segmentWritesRow.recurses == Tryz.prog.recurses 8) = true := by kernel_rfl
theorem closed8_13 : (Rows.segmentWritesRow.named == Tryz.prog.varsNamed 8) = true := by kernel_rfl
theorem closed8_14 : (Rows.segmentWritesRow.maps == (Tryz.f8.params.toList ++ Rows.segmentWritesSpec.plain.varTypes Tryz.prog).any (Tryz.prog.mapsRec ·)) = true := by kernel_rfl
theorem closed8_15 : (Rows.segmentWritesRow.ifaces == (Tryz.f8.params.toList ++ Rows.segmentWritesSpec.plain.varTypes Tryz.prog).any (Tryz.prog.ifacesRec ·)) = true := by kernel_rfl
theorem closed8_16 : (Rows.segmentWritesRow.mapsOut == Tryz.prog.mapsAmong Tryz.f8.resultTypes.toList) = true := by kernel_rfl
theorem closed8_17 : (Rows.segmentWritesRow.loops == (Tryz.f8.params.toList ++ Rows.segmentWritesSpec.plain.varTypes Tryz.prog).any (Tryz.prog.loopsFrom ·)) = true := by kernel_rfl
theorem closed8_18 : (Rows.segmentWritesRow.wideKeys == (Tryz.f8.params.toList ++ Rows.segmentWritesSpec.plain.varTypes Tryz.prog ++ Tryz.f8.resultTypes.toList).any (Tryz.prog.wideKeysFrom ·)) = true := by kernel_rfl
theorem closed8_19 : Rows.segmentWritesSpec.vars.all (Tryz.prog.varReadable ·) = true := by kernel_rfl
theorem closed8_20 : Tryz.f8.resultTypes.all (fun t => Tryz.prog.readableRec t && decide (t < Tryz.prog.types.size)) = true := by kernel_rfl
theorem closed8_21 : (Rows.segmentWritesRow.ifacesOut == Tryz.f8.resultTypes.toList.any (Tryz.prog.ifacesRec ·)) = true := by kernel_rfl
theorem closed8_22 : (Rows.segmentWritesRow.loopsOut == Tryz.f8.resultTypes.toList.any (Tryz.prog.loopsFrom ·)) = true := by kernel_rfl
theorem closed8_23 : (Rows.segmentWritesRow.plainKeys == Tryz.prog.plainKeys) = true := by kernel_rfl
theorem closed8_24 : Rows.segmentWritesRow.shortTexts.isNone = true := by kernel_rfl
theorem closed8_27 : (Rows.segmentWritesRow.lifted == Tryz.prog.liftsFinal) = true := by kernel_rfl
theorem closed8_28 : (Tryz.prog.make == some Rows.segmentWritesRow.make) = true := by kernel_rfl
theorem closed8_29 : (Rows.segmentWritesRow.kinds == (if Rows.segmentWritesRow.domain.isEmpty then [] else Tryz.f8.params.toList.map fun t => match Tryz.prog.underlying t with | some (.int k) => some k | _ => none)) = true := by kernel_rfl
theorem closed8_30 : (Rows.segmentWritesRow.pinned == Rows.segmentWritesRow.pinnedBy) = true := by kernel_rfl
theorem closed8_31 : (Rows.segmentWritesRow.veiled == (Tryz.f8.params.toList ++ Rows.segmentWritesSpec.plain.varTypes Tryz.prog ++ Tryz.f8.resultTypes.toList).any (Tryz.prog.veiledRec ·)) = true := by kernel_rfl
theorem closed8_32 : Rows.segmentWritesRow.veiledFits Tryz.prog Tryz.f8.params.toList (Tryz.f8.params.toList ++ Rows.segmentWritesSpec.plain.varTypes Tryz.prog ++ Tryz.f8.resultTypes.toList) = true := by kernel_rfl
theorem closed8 : joinedFacts Tryz.prog 8 Tryz.f8 Rows.segmentWritesSpec Rows.segmentWritesRow = true :=
  Go.Ab.joined_of closed8_1 seat_2 seat_3 closed8_4 closed8_5 closed8_6 seat_7 closed8_8 seat_9 closed8_10 closed8_11 closed8_12 closed8_13 closed8_14 closed8_15 closed8_16 closed8_17 closed8_18 closed8_19 closed8_20 closed8_21 closed8_22 closed8_23 closed8_24 seat_25 seat_26 closed8_27 closed8_28 closed8_29 closed8_30 closed8_31 closed8_32
theorem card8_name : Tryz.prog.funcNamed Rows.segmentWritesRow.func = some 8 := by kernel_rfl
theorem card8_goes : false = Rows.segmentWritesRow.goesBy Tryz.pinned.checked.prog := by kernel_rfl
theorem card8_wf : Rows.segmentWritesRow.wfByText (OpenSpec.ofChange Rows.segmentWritesSpec) = true := by kernel_rfl
theorem card8_stand : ([3, 3, 31].all fun u => !Tryz.prog.wantsStandIn u) = true := by kernel_rfl
end Go.Proofs.YtnglhicedhcpbaaGreatDoor
