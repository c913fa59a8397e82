/- What the rows ask of the program alone. -/
import Derived.Test.YtnglhicedhcpbaaGreatDoorCG31
import Derived.Test.YtnglhicedhcpbaaGreatDoorRows
import Derived.Test.YtnglhicedhcpbaaGreatDoorCards
import Derived.KernelRfl
namespace Go.Proofs.YtnglhicedhcpbaaGreatDoor
open Go
set_option maxRecDepth 100000
theorem seat_2 : laidOutB Tryz.prog = true := by kernel_rfl
theorem seat_3 : mapsRowed Tryz.prog = true := by kernel_rfl
theorem seat_7 : (Tryz.prog.stops == []) = true := by kernel_rfl
theorem seat_9 : (Tryz.prog.stopKnobs == []) = true := by kernel_rfl
theorem seat_25 : Tryz.prog.stopsHeard = true := by kernel_rfl
theorem seat_26 : Tryz.prog.mayEnter = true := by kernel_rfl
theorem card_main : Tryz.pinned.checked.prog.mainIs = some (true, "167e363518a68182c5c761e88d2ab89c747fc052803a2d80bb731255294a9900".toList) := by kernel_rfl
theorem card_looks : false = Tryz.pinned.checked.prog.looks [] := by kernel_rfl
theorem own3 : ownKnob Tryz.prog.godebug = none := by kernel_rfl
end Go.Proofs.YtnglhicedhcpbaaGreatDoor

/- The closed facts of SegmentTurned. -/
namespace Go.Proofs.YtnglhicedhcpbaaGreatDoor
open Go
set_option maxRecDepth 100000
theorem closed10_1 : Rows.segmentTurnedRow.wf (OpenSpec.ofChange Rows.segmentTurnedSpec) = true := by kernel_rfl
theorem closed10_4 : Tryz.f10.params.all (Tryz.prog.readableRec ·) = true := by kernel_rfl
theorem closed10_5 : namedTie Tryz.prog Rows.segmentTurnedRow.named Rows.segmentTurnedSpec.vars = true := by kernel_rfl
theorem closed10_6 : (Rows.segmentTurnedRow.stops == []) = true := by kernel_rfl
theorem closed10_8 : (Rows.segmentTurnedRow.knobs == []) = true := by kernel_rfl
theorem closed10_10 : (Rows.segmentTurnedRow.inPlace == Tryz.prog.inPlace 10) = true := by kernel_rfl
theorem closed10_11 : (Rows.segmentTurnedRow.unfollowed == Tryz.prog.unfollowed 10) = true := by kernel_rfl
theorem closed10_12 : (Rows.segmentTurnedRow.recurses == Tryz.prog.recurses 10) = true := by kernel_rfl
theorem closed10_13 : (Rows.segmentTurnedRow.named == Tryz.prog.varsNamed 10) = true := by kernel_rfl
theorem closed10_14 : (Rows.segmentTurnedRow.maps == (Tryz.f10.params.toList ++ Rows.segmentTurnedSpec.plain.varTypes Tryz.prog).any (Tryz.prog.mapsRec ·)) = true := by kernel_rfl
theorem closed10_15 : (Rows.segmentTurnedRow.ifaces == (Tryz.f10.params.toList ++ Rows.segmentTurnedSpec.plain.varTypes Tryz.prog).any (Tryz.prog.ifacesRec ·)) = true := by kernel_rfl
theorem closed10_16 : (Rows.segmentTurnedRow.mapsOut == Tryz.prog.mapsAmong Tryz.f10.resultTypes.toList) = true := by kernel_rfl
theorem closed10_17 : (Rows.segmentTurnedRow.loops == (Tryz.f10.params.toList ++ Rows.segmentTurnedSpec.plain.varTypes Tryz.prog).any (Tryz.prog.loopsFrom ·)) = true := by kernel_rfl
theorem closed10_18 : (Rows.segmentTurnedRow.wideKeys == (Tryz.f10.params.toList ++ Rows.segmentTurnedSpec.plain.varTypes Tryz.prog ++ Tryz.f10.resultTypes.toList).any (Tryz.prog.wideKeysFrom ·)) = true := by kernel_rfl
theorem closed10_19 : Rows.segmentTurnedSpec.vars.all (Tryz.prog.varReadable ·) = true := by kernel_rfl
theorem closed10_20 : Tryz.f10.resultTypes.all (fun t => Tryz.prog.readableRec t && decide (t < Tryz.prog.types.size)) = true := by kernel_rfl
theorem closed10_21 : (Rows.segmentTurnedRow.ifacesOut == Tryz.f10.resultTypes.toList.any (Tryz.prog.ifacesRec ·)) = true := by kernel_rfl
theorem closed10_22 : (Rows.segmentTurnedRow.loopsOut == Tryz.f10.resultTypes.toList.any (Tryz.prog.loopsFrom ·)) = true := by kernel_rfl
theorem closed10_23 : (Rows.segmentTurnedRow.plainKeys == Tryz.prog.plainKeys) = true := by kernel_rfl
theorem closed10_24 : Rows.segmentTurnedRow.shortTexts.isNone = true := by kernel_rfl
theorem closed10_27 : (Rows.segmentTurnedRow.lifted == Tryz.prog.liftsFinal) = true := by kernel_rfl
theorem closed10_28 : (Tryz.prog.make == some Rows.segmentTurnedRow.make) = true := by kernel_rfl
theorem closed10_29 : (Rows.segmentTurnedRow.kinds == (if Rows.segmentTurnedRow.domain.isEmpty then [] else Tryz.f10.params.toList.map fun t => match Tryz.prog.underlying t with | some (.int k) => some k | _ => none)) = true := by kernel_rfl
theorem closed10_30 : (Rows.segmentTurnedRow.pinned == Rows.segmentTurnedRow.pinnedBy) = true := by kernel_rfl
theorem closed10_31 : (Rows.segmentTurnedRow.veiled == (Tryz.f10.params.toList ++ Rows.segmentTurnedSpec.plain.varTypes Tryz.prog ++ Tryz.f10.resultTypes.toList).any (Tryz.prog.veiledRec ·)) = true := by kernel_rfl
theorem closed10_32 : Rows.segmentTurnedRow.veiledFits Tryz.prog Tryz.f10.params.toList (Tryz.f10.params.toList ++ Rows.segmentTurnedSpec.plain.varTypes Tryz.prog ++ Tryz.f10.resultTypes.toList) = true := by kernel_rfl
theorem closed10 : joinedFacts Tryz.prog 10 Tryz.f10 Rows.segmentTurnedSpec Rows.segmentTurnedRow = true :=
  Go.Ab.joined_of closed10_1 seat_2 seat_3 closed10_4 closed10_5 closed10_6 seat_7 closed10_8 seat_9 closed10_10 closed10_11 closed10_12 closed10_13 closed10_14 closed10_15 closed10_16 closed10_17 closed10_18 closed10_19 closed10_20 closed10_21 closed10_22 closed10_23 closed10_24 seat_25 seat_26 closed10_27 closed10_28 closed10_29 closed10_30 closed10_31 closed10_32
theorem card10_name : Tryz.prog.funcNamed Rows.segmentTurnedRow.func = some 10 := by kernel_rfl
theorem card10_goes : false = Rows.segmentTurnedRow.goesBy Tryz.pinned.checked.prog := by kernel_rfl
theorem card10_wf : Rows.segmentTurnedRow.wfByText (OpenSpec.ofChange Rows.segmentTurnedSpec) = true := by kernel_rfl
theorem card10_stand : ([3, 31, 3, 3, 113].all fun u => !Tryz.prog.wantsStandIn u) = true := by kernel_rfl
end Go.Proofs.YtnglhicedhcpbaaGreatDoor
