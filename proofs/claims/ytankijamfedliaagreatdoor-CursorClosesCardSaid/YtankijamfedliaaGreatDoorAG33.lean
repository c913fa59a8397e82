/- What the rows ask of the program alone. -/
import Derived.Test.YtankijamfedliaaGreatDoorAG32
import Derived.Test.YtankijamfedliaaGreatDoorRows
import Derived.Test.YtankijamfedliaaGreatDoorCards
import Derived.KernelRfl
namespace Go.Proofs.YtankijamfedliaaGreatDoor
open Go
set_option maxRecDepth 100000
theorem seat_2 : laidOutB Tryz.prog = true := by kernel_rfl
theorem seat_3 : mapsRowed Tryz.prog = true := by kernel_rfl
theorem seat_7 : (Tryz.prog.stops == []) = true := by kernel_rfl
theorem seat_9 : (Tryz.prog.stopKnobs == []) = true := by kernel_rfl
theorem seat_25 : Tryz.prog.stopsHeard = true := by kernel_rfl
theorem seat_26 : Tryz.prog.mayEnter = true := by kernel_rfl
theorem card_main : Tryz.pinned.checked.prog.mainIs = some (true, "18365f5a93ff598673c21bc59ddc5742b661c98bd67e498692b9d0eab22a8e53".toList) := by kernel_rfl
theorem card_looks : false = Tryz.pinned.checked.prog.looks [] := by kernel_rfl
theorem own3 : ownKnob Tryz.prog.godebug = none := by kernel_rfl
end Go.Proofs.YtankijamfedliaaGreatDoor

/- The closed facts of CursorCloses. -/
namespace Go.Proofs.YtankijamfedliaaGreatDoor
open Go
set_option maxRecDepth 100000
theorem closed4_1 : Rows.cursorClosesRow.wf (OpenSpec.ofChange Rows.cursorClosesSpec) = true := by kernel_rfl
theorem closed4_4 : Tryz.f4.params.all (Tryz.prog.readableRec ·) = true := by kernel_rfl
theorem closed4_5 : namedTie Tryz.prog Rows.cursorClosesRow.named Rows.cursorClosesSpec.vars = true := by kernel_rfl
theorem closed4_6 : (Rows.cursorClosesRow.stops == []) = true := by kernel_rfl
theorem closed4_8 : (Rows.cursorClosesRow.knobs == []) = true := by kernel_rfl
theorem closed4_10 : (Rows.cursorClosesRow.inPlace == Tryz.prog.inPlace 4) = true := by kernel_rfl
theorem closed4_11 : (Rows.cursorClosesRow.unfollowed == Tryz.prog.unfollowed 4) = true := by kernel_rfl
theorem closed4_12 : (Rows.cursorClosesRow.recurses == Tryz.prog.recurses 4) = true := by kernel_rfl
theorem closed4_13 : (Rows.cursorClosesRow.named == Tryz.prog.varsNamed 4) = true := by kernel_rfl
theorem closed4_14 : (Rows.cursorClosesRow.maps == (Tryz.f4.params.toList ++ Rows.cursorClosesSpec.plain.varTypes Tryz.prog).any (Tryz.prog.mapsRec ·)) = true := by kernel_rfl
theorem closed4_15 : (Rows.cursorClosesRow.ifaces == (Tryz.f4.params.toList ++ Rows.cursorClosesSpec.plain.varTypes Tryz.prog).any (Tryz.prog.ifacesRec ·)) = true := by kernel_rfl
theorem closed4_16 : (Rows.cursorClosesRow.mapsOut == Tryz.prog.mapsAmong Tryz.f4.resultTypes.toList) = true := by kernel_rfl
theorem closed4_17 : (Rows.cursorClosesRow.loops == (Tryz.f4.params.toList ++ Rows.cursorClosesSpec.plain.varTypes Tryz.prog).any (Tryz.prog.loopsFrom ·)) = true := by kernel_rfl
theorem closed4_18 : (Rows.cursorClosesRow.wideKeys == (Tryz.f4.params.toList ++ Rows.cursorClosesSpec.plain.varTypes Tryz.prog ++ Tryz.f4.resultTypes.toList).any (Tryz.prog.wideKeysFrom ·)) = true := by kernel_rfl
theorem closed4_19 : Rows.cursorClosesSpec.vars.all (Tryz.prog.varReadable ·) = true := by kernel_rfl
theorem closed4_20 : Tryz.f4.resultTypes.all (fun t => Tryz.prog.readableRec t && decide (t < Tryz.prog.types.size)) = true := by kernel_rfl
theorem closed4_21 : (Rows.cursorClosesRow.ifacesOut == Tryz.f4.resultTypes.toList.any (Tryz.prog.ifacesRec ·)) = true := by kernel_rfl
theorem closed4_22 : (Rows.cursorClosesRow.loopsOut == Tryz.f4.resultTypes.toList.any (Tryz.prog.loopsFrom ·)) = true := by kernel_rfl
theorem closed4_23 : (Rows.cursorClosesRow.plainKeys == Tryz.prog.plainKeys) = true := by kernel_rfl
theorem closed4_24 : Rows.cursorClosesRow.shortTexts.isNone = true := by kernel_rfl
theorem closed4_27 : (Rows.cursorClosesRow.lifted == Tryz.prog.liftsFinal) = true := by kernel_rfl
theorem closed4_28 : (Tryz.prog.make == some Rows.cursorClosesRow.make) = true := by kernel_rfl
theorem closed4_29 : (Rows.cursorClosesRow.kinds == (if Rows.cursorClosesRow.domain.isEmpty then [] else Tryz.f4.params.toList.map fun t => match Tryz.prog.underlying t with | some (.int k) => some k | _ => none)) = true := by kernel_rfl
theorem closed4_30 : (Rows.cursorClosesRow.pinned == Rows.cursorClosesRow.pinnedBy) = true := by kernel_rfl
theorem closed4_31 : (Rows.cursorClosesRow.veiled == (Tryz.f4.params.toList ++ Rows.cursorClosesSpec.plain.varTypes Tryz.prog ++ Tryz.f4.resultTypes.toList).any (Tryz.prog.veiledRec ·)) = true := by kernel_rfl
theorem closed4_32 : Rows.cursorClosesRow.veiledFits Tryz.prog Tryz.f4.params.toList (Tryz.f4.params.toList ++ Rows.cursorClosesSpec.plain.varTypes Tryz.prog ++ Tryz.f4.resultTypes.toList) = true := by kernel_rfl
theorem closed4 : joinedFacts Tryz.prog 4 Tryz.f4 Rows.cursorClosesSpec Rows.cursorClosesRow = true :=
  Go.Ab.joined_of closed4_1 seat_2 seat_3 closed4_4 closed4_5 closed4_6 seat_7 closed4_8 seat_9 closed4_10 closed4_11 closed4_12 closed4_13 closed4_14 closed4_15 closed4_16 closed4_17 closed4_18 closed4_19 closed4_20 closed4_21 closed4_22 closed4_23 closed4_24 seat_25 seat_26 closed4_27 closed4_28 closed4_29 closed4_30 closed4_31 closed4_32
theorem card4_name : Tryz.prog.funcNamed Rows.cursorClosesRow.func = some 4 := by kernel_rfl
theorem card4_goes : false = Rows.cursorClosesRow.goesBy Tryz.pinned.checked.prog := by kernel_rfl
theorem card4_wf : Rows.cursorClosesRow.wfByText (OpenSpec.ofChange Rows.cursorClosesSpec) = true := by kernel_rfl
theorem card4_stand : ([22, 28, 3].all fun u => !Tryz.prog.wantsStandIn u) = true := by kernel_rfl
end Go.Proofs.YtankijamfedliaaGreatDoor
