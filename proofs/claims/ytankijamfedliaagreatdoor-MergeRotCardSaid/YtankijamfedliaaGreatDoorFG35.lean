import Derived.Test.YtankijamfedliaaGreatDoorFG34
import Derived.Test.YtankijamfedliaaGreatDoorRows
import Derived.Test.YtankijamfedliaaGreatDoorCards
import Derived.KernelRfl
namespace Go.Proofs.YtankijamfedliaaGreatDoor
open Go
set_option maxRecDepth 100000
theorem seat_2 : laidOutB Tryz.prog = true := by kernel_rfl
theorem seat_3 : mapsRowed Tryz.prog = true := by kernel_rfl
theorem seat_7 : (Tryz.prog.stops == []) = true := by kernel_rfl
theorem seat_9 : (Tryz.prog.stopKnobs == []) = true := by kernel_rfl
theorem seat_25 : Tryz.prog.stopsHeard = true := by kernel_rfl
theorem seat_26 : Tryz.prog.mayEnter = true := by kernel_rfl
theorem card_main : Tryz.pinned.checked.prog.mainIs = some (true, "18365f5a93ff598673c21bc59ddc5742b661c98bd67e498692b9d0eab22a8e53".toList) := by kernel_rfl
theorem card_looks : false = Tryz.pinned.checked.prog.looks [] := by kernel_rfl
theorem own3 : ownKnob Tryz.prog.godebug = none := by kernel_rfl
theorem closed8_1 : Rows.mergeRotRow.wf (OpenSpec.ofChange Rows.mergeRotSpec) = true := by kernel_rfl
theorem closed8_4 : Tryz.f8.params.all (Tryz.prog.readableRec ·) = true := by kernel_rfl
theorem closed8_5 : namedTie Tryz.prog Rows.mergeRotRow.named Rows.mergeRotSpec.vars = true := by kernel_rfl
theorem closed8_6 : (Rows.mergeRotRow.stops == []) = true := by kernel_rfl
theorem closed8_8 : (Rows.mergeRotRow.knobs == []) = true := by kernel_rfl
theorem closed8_10 : (Rows.mergeRotRow.inPlace == Tryz.prog.inPlace 8) = true := by kernel_rfl
theorem closed8_11 : (Rows.mergeRotRow.unfollowed == Tryz.prog.unfollowed 8) = true := by kernel_rfl
theorem closed8_12 : (Rows.mergeRotRow.recurses == Tryz.prog.recurses 8) = true := by kernel_rfl
theorem closed8_13 : (Rows.mergeRotRow.named == Tryz.prog.varsNamed 8) = true := by kernel_rfl
theorem closed8_14 : (Rows.mergeRotRow.maps == (Tryz.f8.params.toList ++ Rows.mergeRotSpec.plain.varTypes Tryz.prog).any (Tryz.prog.mapsRec ·)) = true := by kernel_rfl
theorem closed8_15 : (Rows.mergeRotRow.ifaces == (Tryz.f8.params.toList ++ Rows.mergeRotSpec.plain.varTypes Tryz.prog).any (Tryz.prog.ifacesRec ·)) = true := by kernel_rfl
theorem closed8_16 : (Rows.mergeRotRow.mapsOut == Tryz.prog.mapsAmong Tryz.f8.resultTypes.toList) = true := by kernel_rfl
theorem closed8_17 : (Rows.mergeRotRow.loops == (Tryz.f8.params.toList ++ Rows.mergeRotSpec.plain.varTypes Tryz.prog).any (Tryz.prog.loopsFrom ·)) = true := by kernel_rfl
theorem closed8_18 : (Rows.mergeRotRow.wideKeys == (Tryz.f8.params.toList ++ Rows.mergeRotSpec.plain.varTypes Tryz.prog ++ Tryz.f8.resultTypes.toList).any (Tryz.prog.wideKeysFrom ·)) = true := by kernel_rfl
theorem closed8_19 : Rows.mergeRotSpec.vars.all (Tryz.prog.varReadable ·) = true := by kernel_rfl
theorem closed8_20 : Tryz.f8.resultTypes.all (fun t => Tryz.prog.readableRec t && decide (t < Tryz.prog.types.size)) = true := by kernel_rfl
theorem closed8_21 : (Rows.mergeRotRow.ifacesOut == Tryz.f8.resultTypes.toList.any (Tryz.prog.ifacesRec ·)) = true := by kernel_rfl
theorem closed8_22 : (Rows.mergeRotRow.loopsOut == Tryz.f8.resultTypes.toList.any (Tryz.prog.loopsFrom ·)) = true := by kernel_rfl
theorem closed8_23 : (Rows.mergeRotRow.plainKeys == Tryz.prog.plainKeys) = true := by kernel_rfl
theorem closed8_24 : Rows.mergeRotRow.shortTexts.isNone = true := by kernel_rfl
theorem closed8_27 : (Rows.mergeRotRow.lifted == Tryz.prog.liftsFinal) = true := by kernel_rfl
theorem closed8_28 : (Tryz.prog.make == some Rows.mergeRotRow.make) = true := by kernel_rfl
theorem closed8_29 : (Rows.mergeRotRow.kinds == (if Rows.mergeRotRow.domain.isEmpty then [] else Tryz.f8.params.toList.map fun t => match Tryz.prog.underlying t with | some (.int k) => some k | _ => none)) = true := by kernel_rfl
theorem closed8_30 : (Rows.mergeRotRow.pinned == Rows.mergeRotRow.pinnedBy) = true := by kernel_rfl
theorem closed8_31 : (Rows.mergeRotRow.veiled == (Tryz.f8.params.toList ++ Rows.mergeRotSpec.plain.varTypes Tryz.prog ++ Tryz.f8.resultTypes.toList).any (Tryz.prog.veiledRec ·)) = true := by kernel_rfl
theorem closed8_32 : Rows.mergeRotRow.veiledFits Tryz.prog Tryz.f8.params.toList (Tryz.f8.params.toList ++ Rows.mergeRotSpec.plain.varTypes Tryz.prog ++ Tryz.f8.resultTypes.toList) = true := by kernel_rfl
theorem closed8 : joinedFacts Tryz.prog 8 Tryz.f8 Rows.mergeRotSpec Rows.mergeRotRow = true :=
 Go.Ab.joined_of closed8_1 seat_2 seat_3 closed8_4 closed8_5 closed8_6 seat_7 closed8_8 seat_9 closed8_10 closed8_11 closed8_12 closed8_13 closed8_14 closed8_15 closed8_16 closed8_17 closed8_18 closed8_19 closed8_20 closed8_21 closed8_22 closed8_23 closed8_24 seat_25 seat_26 closed8_27 closed8_28 closed8_29 closed8_30 closed8_31 closed8_32
theorem card8_name : Tryz.prog.funcNamed Rows.mergeRotRow.func = some 8 := by kernel_rfl
theorem card8_goes : false = Rows.mergeRotRow.goesBy Tryz.pinned.checked.prog := by kernel_rfl
theorem card8_wf : Rows.mergeRotRow.wfByText (OpenSpec.ofChange Rows.mergeRotSpec) = true := by kernel_rfl
theorem card8_stand : ([57, 22, 3, 53].all fun u => !Tryz.prog.wantsStandIn u) = true := by kernel_rfl
end Go.Proofs.YtankijamfedliaaGreatDoor
