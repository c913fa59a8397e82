/- What the rows ask of the program alone. -/
import Derived.Test.YtnglhicedhcpbaaGreatDoorBG31
import Derived.Test.YtnglhicedhcpbaaGreatDoorRows
import Derived.Test.YtnglhicedhcpbaaGreatDoorCards
import Derived.KernelRfl
namespace Go.Proofs.YtnglhicedhcpbaaGreatDoor
open Go
set_option maxRecDepth 100000
theorem seat_2 : laidOutB Tryz.prog = true := by kernel_rfl
theorem seat_3 : mapsRowed Tryz.prog = true := by kernel_rfl
theorem seat_7 : (Tryz.prog.stops == []) = true := by kernel_rfl
theorem seat_9 : (Tryz.prog.stopKnobs == []) = true := by kernel_rfl
theorem seat_25 : Tryz.prog.stopsHeard = true := by kernel_rfl
theorem seat_26 : Tryz.prog.mayEnter = true := by kernel_rfl
theorem card_main : Tryz.pinned.checked.prog.mainIs = some (true, "167e363518a68182c5c761e88d2ab89c747fc052803a2d80bb731255294a9900".toList) := by kernel_rfl
theorem card_looks : false = Tryz.pinned.checked.prog.looks [] := by kernel_rfl
theorem own3 : ownKnob Tryz.prog.godebug = none := by kernel_rfl
end Go.Proofs.YtnglhicedhcpbaaGreatDoor

/- The closed facts of SegmentBack. -/
namespace Go.Proofs.YtnglhicedhcpbaaGreatDoor
open Go
set_option maxRecDepth 100000
theorem closed9_1 : Rows.segmentBackRow.wf (OpenSpec.ofChange Rows.segmentBackSpec) = true := by kernel_rfl
theorem closed9_4 : Tryz.f9.params.all (Tryz.prog.readableRec ·) = true := by kernel_rfl
theorem closed9_5 : namedTie Tryz.prog Rows.segmentBackRow.named Rows.segmentBackSpec.vars = true := by kernel_rfl
theorem closed9_6 : (Rows.segmentBackRow.stops == []) = true := by kernel_rfl
theorem closed9_8 : (Rows.segmentBackRow.knobs == []) = true := by kernel_rfl
theorem closed9_10 : (Rows.segmentBackRow.inPlace == Tryz.prog.inPlace 9) = true := by kernel_rfl
theorem closed9_11 : (Rows.segmentBackRow.unfollowed == Tryz.prog.unfollowed 9) = true := by kernel_rfl
theorem closed9_12 : (Rows.segmentBackRow.recurses == Tryz.prog.recurses 9) = true := by kernel_rfl
theorem closed9_13 : (Rows.segmentBackRow.named == Tryz.prog.varsNamed 9) = true := by kernel_rfl
theorem closed9_14 : (Rows.segmentBackRow.maps == (Tryz.f9.params.toList ++ Rows.segmentBackSpec.plain.varTypes Tryz.prog).any (Tryz.prog.mapsRec ·)) = true := by kernel_rfl
theorem closed9_15 : (Rows.segmentBackRow.ifaces == (Tryz.f9.params.toList ++ Rows.segmentBackSpec.plain.varTypes Tryz.prog).any (Tryz.prog.ifacesRec ·)) = true := by kernel_rfl
theorem closed9_16 : (Rows.segmentBackRow.mapsOut == Tryz.prog.mapsAmong Tryz.f9.resultTypes.toList) = true := by kernel_rfl
theorem closed9_17 : (Rows.segmentBackRow.loops == (Tryz.f9.params.toList ++ Rows.segmentBackSpec.plain.varTypes Tryz.prog).any (Tryz.prog.loopsFrom ·)) = true := by kernel_rfl
theorem closed9_18 : (Rows.segmentBackRow.wideKeys == (Tryz.f9.params.toList ++ Rows.segmentBackSpec.plain.varTypes Tryz.prog ++ Tryz.f9.resultTypes.toList).any (Tryz.prog.wideKeysFrom ·)) = true := by kernel_rfl
theorem closed9_19 : Rows.segmentBackSpec.vars.all (Tryz.prog.varReadable ·) = true := by kernel_rfl
theorem closed9_20 : Tryz.f9.resultTypes.all (fun t => Tryz.prog.readableRec t && decide (t < Tryz.prog.types.size)) = true := by kernel_rfl
theorem closed9_21 : (Rows.segmentBackRow.ifacesOut == Tryz.f9.resultTypes.toList.any (Tryz.prog.ifacesRec ·)) = true := by kernel_rfl
theorem closed9_22 : (Rows.segmentBackRow.loopsOut == Tryz.f9.resultTypes.toList.any (Tryz.prog.loopsFrom ·)) = true := by kernel_rfl
theorem closed9_23 : (Rows.segmentBackRow.plainKeys == Tryz.prog.plainKeys) = true := by kernel_rfl
theorem closed9_24 : Rows.segmentBackRow.shortTexts.isNone = true := by kernel_rfl
theorem closed9_27 : (Rows.segmentBackRow.lifted == Tryz.prog.liftsFinal) = true := by kernel_rfl
theorem closed9_28 : (Tryz.prog.make == some Rows.segmentBackRow.make) = true := by kernel_rfl
theorem closed9_29 : (Rows.segmentBackRow.kinds == (if Rows.segmentBackRow.domain.isEmpty then [] else Tryz.f9.params.toList.map fun t => match Tryz.prog.underlying t with | some (.int k) => some k | _ => none)) = true := by kernel_rfl
theorem closed9_30 : (Rows.segmentBackRow.pinned == Rows.segmentBackRow.pinnedBy) = true := by kernel_rfl
theorem closed9_31 : (Rows.segmentBackRow.veiled == (Tryz.f9.params.toList ++ Rows.segmentBackSpec.plain.varTypes Tryz.prog ++ Tryz.f9.resultTypes.toList).any (Tryz.prog.veiledRec ·)) = true := by kernel_rfl
theorem closed9_32 : Rows.segmentBackRow.veiledFits Tryz.prog Tryz.f9.params.toList (Tryz.f9.params.toList ++ Rows.segmentBackSpec.plain.varTypes Tryz.prog ++ Tryz.f9.resultTypes.toList) = true := by kernel_rfl
theorem closed9 : joinedFacts Tryz.prog 9 Tryz.f9 Rows.segmentBackSpec Rows.segmentBackRow = true :=
  Go.Ab.joined_of closed9_1 seat_2 seat_3 closed9_4 closed9_5 closed9_6 seat_7 closed9_8 seat_9 closed9_10 closed9_11 closed9_12 closed9_13 closed9_14 closed9_15 closed9_16 closed9_17 closed9_18 closed9_19 closed9_20 closed9_21 closed9_22 closed9_23 closed9_24 seat_25 seat_26 closed9_27 closed9_28 closed9_29 closed9_30 closed9_31 closed9_32
theorem card9_name : Tryz.prog.funcNamed Rows.segmentBackRow.func = some 9 := by kernel_rfl
theorem card9_goes : false = Rows.segmentBackRow.goesBy Tryz.pinned.checked.prog := by kernel_rfl
theorem card9_wf : Rows.segmentBackRow.wfByText (OpenSpec.ofChange Rows.segmentBackSpec) = true := by kernel_rfl
theorem card9_stand : ([3, 31, 27].all fun u => !Tryz.prog.wantsStandIn u) = true := by kernel_rfl
end Go.Proofs.YtnglhicedhcpbaaGreatDoor
