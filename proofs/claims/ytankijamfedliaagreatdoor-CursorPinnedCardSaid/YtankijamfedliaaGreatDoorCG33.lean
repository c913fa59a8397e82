/- What the rows ask of the program alone. -/
import Derived.Test.YtankijamfedliaaGreatDoorCG32
import Derived.Test.YtankijamfedliaaGreatDoorRows
import Derived.Test.YtankijamfedliaaGreatDoorCards
import Derived.KernelRfl
namespace Go.Proofs.YtankijamfedliaaGreatDoor
open Go
set_option maxRecDepth 100000
theorem seat_2 : laidOutB Tryz.prog = true := by kernel_rfl
theorem seat_3 : mapsRowed Tryz.prog = true := by kernel_rfl
theorem seat_7 : (Tryz.prog.stops == []) = true := by kernel_rfl
theorem seat_9 : (Tryz.prog.stopKnobs == []) = true := by kernel_rfl
theorem seat_25 : Tryz.prog.stopsHeard = true := by kernel_rfl
theorem seat_26 : Tryz.prog.mayEnter = true := by kernel_rfl
theorem card_main : Tryz.pinned.checked.prog.mainIs = some (true, "18365f5a93ff598673c21bc59ddc5742b661c98bd67e498692b9d0eab22a8e53".toList) := by kernel_rfl
theorem card_looks : false = Tryz.pinned.checked.prog.looks [] := by kernel_rfl
theorem own3 : ownKnob Tryz.prog.godebug = none := by kernel_rfl
end Go.Proofs.YtankijamfedliaaGreatDoor

/- The closed facts of CursorPinned. -/
namespace Go.Proofs.YtankijamfedliaaGreatDoor
open Go
set_option maxRecDepth 100000
theorem closed5_1 : Rows.cursorPinnedRow.wf (OpenSpec.ofChange Rows.cursorPinnedSpec) = true := by kernel_rfl
theorem closed5_4 : Tryz.f5.params.all (Tryz.prog.readableRec ·) = true := by kernel_rfl
theorem closed5_5 : namedTie Tryz.prog Rows.cursorPinnedRow.named Rows.cursorPinnedSpec.vars = true := by kernel_rfl
theorem closed5_6 : (Rows.cursorPinnedRow.stops == []) = true := by kernel_rfl
theorem closed5_8 : (Rows.cursorPinnedRow.knobs == []) = true := by kernel_rfl
theorem closed5_10 : (Rows.cursorPinnedRow.inPlace == Tryz.prog.inPlace 5) = true := by kernel_rfl
theorem closed5_11 : (Rows.cursorPinnedRow.unfollowed == Tryz.prog.unfollowed 5) = true := by kernel_rfl
theorem closed5_12 : (Rows.cursorPinnedRow.recurses == Tryz.prog.recurses 5) = true := by kernel_rfl
theorem closed5_13 : (Rows.cursorPinnedRow.named == Tryz.prog.varsNamed 5) = true := by kernel_rfl
theorem closed5_14 : (Rows.cursorPinnedRow.maps == (Tryz.f5.params.toList ++ Rows.cursorPinnedSpec.plain.varTypes Tryz.prog).any (Tryz.prog.mapsRec ·)) = true := by kernel_rfl
theorem closed5_15 : (Rows.cursorPinnedRow.ifaces == (Tryz.f5.params.toList ++ Rows.cursorPinnedSpec.plain.varTypes Tryz.prog).any (Tryz.prog.ifacesRec ·)) = true := by kernel_rfl
theorem closed5_16 : (Rows.cursorPinnedRow.mapsOut == Tryz.prog.mapsAmong Tryz.f5.resultTypes.toList) = true := by kernel_rfl
theorem closed5_17 : (Rows.cursorPinnedRow.loops == (Tryz.f5.params.toList ++ Rows.cursorPinnedSpec.plain.varTypes Tryz.prog).any (Tryz.prog.loopsFrom ·)) = true := by kernel_rfl
theorem closed5_18 : (Rows.cursorPinnedRow.wideKeys == (Tryz.f5.params.toList ++ Rows.cursorPinnedSpec.plain.varTypes Tryz.prog ++ Tryz.f5.resultTypes.toList).any (Tryz.prog.wideKeysFrom ·)) = true := by kernel_rfl
theorem closed5_19 : Rows.cursorPinnedSpec.vars.all (Tryz.prog.varReadable ·) = true := by kernel_rfl
theorem closed5_20 : Tryz.f5.resultTypes.all (fun t => Tryz.prog.readableRec t && decide (t < Tryz.prog.types.size)) = true := by kernel_rfl
theorem closed5_21 : (Rows.cursorPinnedRow.ifacesOut == Tryz.f5.resultTypes.toList.any (Tryz.prog.ifacesRec ·)) = true := by kernel_rfl
theorem closed5_22 : (Rows.cursorPinnedRow.loopsOut == Tryz.f5.resultTypes.toList.any (Tryz.prog.loopsFrom ·)) = true := by kernel_rfl
theorem closed5_23 : (Rows.cursorPinnedRow.plainKeys == Tryz.prog.plainKeys) = true := by kernel_rfl
theorem closed5_24 : Rows.cursorPinnedRow.shortTexts.isNone = true := by kernel_rfl
theorem closed5_27 : (Rows.cursorPinnedRow.lifted == Tryz.prog.liftsFinal) = true := by kernel_rfl
theorem closed5_28 : (Tryz.prog.make == some Rows.cursorPinnedRow.make) = true := by kernel_rfl
theorem closed5_29 : (Rows.cursorPinnedRow.kinds == (if Rows.cursorPinnedRow.domain.isEmpty then [] else Tryz.f5.params.toList.map fun t => match Tryz.prog.underlying t with | some (.int k) => some k | _ => none)) = true := by kernel_rfl
theorem closed5_30 : (Rows.cursorPinnedRow.pinned == Rows.cursorPinnedRow.pinnedBy) = true := by kernel_rfl
theorem closed5_31 : (Rows.cursorPinnedRow.veiled == (Tryz.f5.params.toList ++ Rows.cursorPinnedSpec.plain.varTypes Tryz.prog ++ Tryz.f5.resultTypes.toList).any (Tryz.prog.veiledRec ·)) = true := by kernel_rfl
theorem closed5_32 : Rows.cursorPinnedRow.veiledFits Tryz.prog Tryz.f5.params.toList (Tryz.f5.params.toList ++ Rows.cursorPinnedSpec.plain.varTypes Tryz.prog ++ Tryz.f5.resultTypes.toList) = true := by kernel_rfl
theorem closed5 : joinedFacts Tryz.prog 5 Tryz.f5 Rows.cursorPinnedSpec Rows.cursorPinnedRow = true :=
  Go.Ab.joined_of closed5_1 seat_2 seat_3 closed5_4 closed5_5 closed5_6 seat_7 closed5_8 seat_9 closed5_10 closed5_11 closed5_12 closed5_13 closed5_14 closed5_15 closed5_16 closed5_17 closed5_18 closed5_19 closed5_20 closed5_21 closed5_22 closed5_23 closed5_24 seat_25 seat_26 closed5_27 closed5_28 closed5_29 closed5_30 closed5_31 closed5_32
theorem card5_name : Tryz.prog.funcNamed Rows.cursorPinnedRow.func = some 5 := by kernel_rfl
theorem card5_goes : false = Rows.cursorPinnedRow.goesBy Tryz.pinned.checked.prog := by kernel_rfl
theorem card5_wf : Rows.cursorPinnedRow.wfByText (OpenSpec.ofChange Rows.cursorPinnedSpec) = true := by kernel_rfl
theorem card5_stand : ([22, 28, 3].all fun u => !Tryz.prog.wantsStandIn u) = true := by kernel_rfl
end Go.Proofs.YtankijamfedliaaGreatDoor
