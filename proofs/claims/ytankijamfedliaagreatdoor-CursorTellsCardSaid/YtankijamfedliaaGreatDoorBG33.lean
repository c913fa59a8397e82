/- What the rows ask of the program alone. -/
import Derived.Test.YtankijamfedliaaGreatDoorBG32
import Derived.Test.YtankijamfedliaaGreatDoorRows
import Derived.Test.YtankijamfedliaaGreatDoorCards
import Derived.KernelRfl
namespace Go.Proofs.YtankijamfedliaaGreatDoor
open Go
set_option maxRecDepth 100000
theorem seat_2 : laidOutB Tryz.prog = true := by kernel_rfl
theorem seat_3 : mapsRowed Tryz.prog = true := by kernel_rfl
theorem seat_7 : (Tryz.prog.stops == []) = true := by kernel_rfl
theorem seat_9 : (Tryz.prog.stopKnobs == []) = true := by kernel_rfl
theorem seat_25 : Tryz.prog.stopsHeard = true := by kernel_rfl
theorem seat_26 : Tryz.prog.mayEnter = true := by kernel_rfl
theorem card_main : Tryz.pinned.checked.prog.mainIs = some (true, "18365f5a93ff598673c21bc59ddc5742b661c98bd67e498692b9d0eab22a8e53".toList) := by kernel_rfl
theorem card_looks : false = Tryz.pinned.checked.prog.looks [] := by kernel_rfl
theorem own3 : ownKnob Tryz.prog.godebug = none := by kernel_rfl
end Go.Proofs.YtankijamfedliaaGreatDoor

/- The closed facts of CursorTells. -/
namespace Go.Proofs.YtankijamfedliaaGreatDoor
open Go
set_option maxRecDepth 100000
theorem closed3_1 : Rows.cursorTellsRow.wf (OpenSpec.ofChange Rows.cursorTellsSpec) = true := by kernel_rfl
theorem closed3_4 : Tryz.f3.params.all (Tryz.prog.readableRec ·) = true := by kernel_rfl
theorem closed3_5 : namedTie Tryz.prog Rows.cursorTellsRow.named Rows.cursorTellsSpec.vars = true := by kernel_rfl
theorem closed3_6 : (Rows.cursorTellsRow.stops == []) = true := by kernel_rfl
theorem closed3_8 : (Rows.cursorTellsRow.knobs == []) = true := by kernel_rfl
theorem closed3_10 : (Rows.cursorTellsRow.inPlace == Tryz.prog.inPlace 3) = true := by kernel_rfl
theorem closed3_11 : (Rows.cursorTellsRow.unfollowed == Tryz.prog.unfollowed 3) = true := by kernel_rfl
theorem closed3_12 : (Rows.cursorTellsRow.recurses == Tryz.prog.recurses 3) = true := by kernel_rfl
theorem closed3_13 : (Rows.cursorTellsRow.named == Tryz.prog.varsNamed 3) = true := by kernel_rfl
theorem closed3_14 : (Rows.cursorTellsRow.maps == (Tryz.f3.params.toList ++ Rows.cursorTellsSpec.plain.varTypes Tryz.prog).any (Tryz.prog.mapsRec ·)) = true := by kernel_rfl
theorem closed3_15 : (Rows.cursorTellsRow.ifaces == (Tryz.f3.params.toList ++ Rows.cursorTellsSpec.plain.varTypes Tryz.prog).any (Tryz.prog.ifacesRec ·)) = true := by kernel_rfl
theorem closed3_16 : (Rows.cursorTellsRow.mapsOut == Tryz.prog.mapsAmong Tryz.f3.resultTypes.toList) = true := by kernel_rfl
theorem closed3_17 : (Rows.cursorTellsRow.loops == (Tryz.f3.params.toList ++ Rows.cursorTellsSpec.plain.varTypes Tryz.prog).any (Tryz.prog.loopsFrom ·)) = true := by kernel_rfl
theorem closed3_18 : (Rows.cursorTellsRow.wideKeys == (Tryz.f3.params.toList ++ Rows.cursorTellsSpec.plain.varTypes Tryz.prog ++ Tryz.f3.resultTypes.toList).any (Tryz.prog.wideKeysFrom ·)) = true := by kernel_rfl
theorem closed3_19 : Rows.cursorTellsSpec.vars.all (Tryz.prog.varReadable ·) = true := by kernel_rfl
theorem closed3_20 : Tryz.f3.resultTypes.all (fun t => Tryz.prog.readableRec t && decide (t < Tryz.prog.types.size)) = true := by kernel_rfl
theorem closed3_21 : (Rows.cursorTellsRow.ifacesOut == Tryz.f3.resultTypes.toList.any (Tryz.prog.ifacesRec ·)) = true := by kernel_rfl
theorem closed3_22 : (Rows.cursorTellsRow.loopsOut == Tryz.f3.resultTypes.toList.any (Tryz.prog.loopsFrom ·)) = true := by kernel_rfl
theorem closed3_23 : (Rows.cursorTellsRow.plainKeys == Tryz.prog.plainKeys) = true := by kernel_rfl
theorem closed3_24 : Rows.cursorTellsRow.shortTexts.isNone = true := by kernel_rfl
theorem closed3_27 : (Rows.cursorTellsRow.lifted == Tryz.prog.liftsFinal) = true := by kernel_rfl
theorem closed3_28 : (Tryz.prog.make == some Rows.cursorTellsRow.make) = true := by kernel_rfl
theorem closed3_29 : (Rows.cursorTellsRow.kinds == (if Rows.cursorTellsRow.domain.isEmpty then [] else Tryz.f3.params.toList.map fun t => match Tryz.prog.underlying t with | some (.int k) => some k | _ => none)) = true := by kernel_rfl
theorem closed3_30 : (Rows.cursorTellsRow.pinned == Rows.cursorTellsRow.pinnedBy) = true := by kernel_rfl
theorem closed3_31 : (Rows.cursorTellsRow.veiled == (Tryz.f3.params.toList ++ Rows.cursorTellsSpec.plain.varTypes Tryz.prog ++ Tryz.f3.resultTypes.toList).any (Tryz.prog.veiledRec ·)) = true := by kernel_rfl
theorem closed3_32 : Rows.cursorTellsRow.veiledFits Tryz.prog Tryz.f3.params.toList (Tryz.f3.params.toList ++ Rows.cursorTellsSpec.plain.varTypes Tryz.prog ++ Tryz.f3.resultTypes.toList) = true := by kernel_rfl
theorem closed3 : joinedFacts Tryz.prog 3 Tryz.f3 Rows.cursorTellsSpec Rows.cursorTellsRow = true :=
  Go.Ab.joined_of closed3_1 seat_2 seat_3 closed3_4 closed3_5 closed3_6 seat_7 closed3_8 seat_9 closed3_10 closed3_11 closed3_12 closed3_13 closed3_14 closed3_15 closed3_16 closed3_17 closed3_18 closed3_19 closed3_20 closed3_21 closed3_22 closed3_23 closed3_24 seat_25 seat_26 closed3_27 closed3_28 closed3_29 closed3_30 closed3_31 closed3_32
theorem card3_name : Tryz.prog.funcNamed Rows.cursorTellsRow.func = some 3 := by kernel_rfl
theorem card3_goes : false = Rows.cursorTellsRow.goesBy Tryz.pinned.checked.prog := by kernel_rfl
theorem card3_wf : Rows.cursorTellsRow.wfByText (OpenSpec.ofChange Rows.cursorTellsSpec) = true := by kernel_rfl
theorem card3_stand : ([22, 28, 3].all fun u => !Tryz.prog.wantsStandIn u) = true := by kernel_rfl
end Go.Proofs.YtankijamfedliaaGreatDoor
