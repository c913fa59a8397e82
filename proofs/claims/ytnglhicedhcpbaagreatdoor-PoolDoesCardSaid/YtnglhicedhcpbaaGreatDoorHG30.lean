import Derived.Test.YtnglhicedhcpbaaGreatDoorHG29
import Derived.Test.YtnglhicedhcpbaaGreatDoorRows
import Derived.Test.YtnglhicedhcpbaaGreatDoorCards
import Derived.KernelRfl
namespace Go.Proofs.YtnglhicedhcpbaaGreatDoor
open Go
set_option maxRecDepth 100000
theorem seat_2 : laidOutB Tryz.prog = true := by kernel_rfl
theorem seat_3 : mapsRowed Tryz.prog = true := by kernel_rfl
theorem seat_7 : (Tryz.prog.stops == []) = true := by kernel_rfl
theorem seat_9 : (Tryz.prog.stopKnobs == []) = true := by kernel_rfl
theorem seat_25 : Tryz.prog.stopsHeard = true := by kernel_rfl
theorem seat_26 : Tryz.prog.mayEnter = true := by kernel_rfl
theorem card_main : Tryz.pinned.checked.prog.mainIs = some (true, "167e363518a68182c5c761e88d2ab89c747fc052803a2d80bb731255294a9900".toList) := by kernel_rfl
theorem card_looks : false = Tryz.pinned.checked.prog.looks [] := by kernel_rfl
theorem own3 : ownKnob Tryz.prog.godebug = none := by kernel_rfl
theorem closed14_1 : Rows.poolDoesRow.wf (OpenSpec.ofChange Rows.poolDoesSpec) = true := by kernel_rfl
theorem closed14_4 : Tryz.f14.params.all (Tryz.prog.readableRec ·) = true := by kernel_rfl
theorem closed14_5 : namedTie Tryz.prog Rows.poolDoesRow.named Rows.poolDoesSpec.vars = true := by kernel_rfl
theorem closed14_6 : (Rows.poolDoesRow.stops == []) = true := by kernel_rfl
theorem closed14_8 : (Rows.poolDoesRow.knobs == []) = true := by kernel_rfl
theorem closed14_10 : (Rows.poolDoesRow.inPlace == Tryz.prog.inPlace 14) = true := by kernel_rfl
theorem closed14_11 : (Rows.poolDoesRow.unfollowed == Tryz.prog.unfollowed 14) = true := by kernel_rfl
theorem closed14_12 : (Rows.poolDoesRow.recurses == Tryz.prog.recurses 14) = true := by kernel_rfl
theorem closed14_13 : (Rows.poolDoesRow.named == Tryz.prog.varsNamed 14) = true := by kernel_rfl
theorem closed14_14 : (Rows.poolDoesRow.maps == (Tryz.f14.params.toList ++ Rows.poolDoesSpec.plain.varTypes Tryz.prog).any (Tryz.prog.mapsRec ·)) = true := by kernel_rfl
theorem closed14_15 : (Rows.poolDoesRow.ifaces == (Tryz.f14.params.toList ++ Rows.poolDoesSpec.plain.varTypes Tryz.prog).any (Tryz.prog.ifacesRec ·)) = true := by kernel_rfl
theorem closed14_16 : (Rows.poolDoesRow.mapsOut == Tryz.prog.mapsAmong Tryz.f14.resultTypes.toList) = true := by kernel_rfl
theorem closed14_17 : (Rows.poolDoesRow.loops == (Tryz.f14.params.toList ++ Rows.poolDoesSpec.plain.varTypes Tryz.prog).any (Tryz.prog.loopsFrom ·)) = true := by kernel_rfl
theorem closed14_18 : (Rows.poolDoesRow.wideKeys == (Tryz.f14.params.toList ++ Rows.poolDoesSpec.plain.varTypes Tryz.prog ++ Tryz.f14.resultTypes.toList).any (Tryz.prog.wideKeysFrom ·)) = true := by kernel_rfl
theorem closed14_19 : Rows.poolDoesSpec.vars.all (Tryz.prog.varReadable ·) = true := by kernel_rfl
theorem closed14_20 : Tryz.f14.resultTypes.all (fun t => Tryz.prog.readableRec t && decide (t < Tryz.prog.types.size)) = true := by kernel_rfl
theorem closed14_21 : (Rows.poolDoesRow.ifacesOut == Tryz.f14.resultTypes.toList.any (Tryz.prog.ifacesRec ·)) = true := by kernel_rfl
theorem closed14_22 : (Rows.poolDoesRow.loopsOut == Tryz.f14.resultTypes.toList.any (Tryz.prog.loopsFrom ·)) = true := by kernel_rfl
theorem closed14_23 : (Rows.poolDoesRow.plainKeys == Tryz.prog.plainKeys) = true := by kernel_rfl
theorem closed14_24 : Rows.poolDoesRow.shortTexts.isNone = true := by kernel_rfl
theorem closed14_27 : (Rows.poolDoesRow.lifted == Tryz.prog.liftsFinal) = true := by kernel_rfl
theorem closed14_28 : (Tryz.prog.make == some Rows.poolDoesRow.make) = true := by kernel_rfl
theorem closed14_29 : (Rows.poolDoesRow.kinds == (if Rows.poolDoesRow.domain.isEmpty then [] else Tryz.f14.params.toList.map fun t => match Tryz.prog.underlying t with | some (.int k) => some k | _ => none)) = true := by kernel_rfl
theorem closed14_30 : (Rows.poolDoesRow.pinned == Rows.poolDoesRow.pinnedBy) = true := by kernel_rfl
theorem closed14_31 : (Rows.poolDoesRow.veiled == (Tryz.f14.params.toList ++ Rows.poolDoesSpec.plain.varTypes Tryz.prog ++ Tryz.f14.resultTypes.toList).any (Tryz.prog.veiledRec ·)) = true := by kernel_rfl
theorem closed14_32 : Rows.poolDoesRow.veiledFits Tryz.prog Tryz.f14.params.toList (Tryz.f14.params.toList ++ Rows.poolDoesSpec.plain.varTypes Tryz.prog ++ Tryz.f14.resultTypes.toList) = true := by kernel_rfl
theorem closed14 : joinedFacts Tryz.prog 14 Tryz.f14 Rows.poolDoesSpec Rows.poolDoesRow = true :=
  Go.Ab.joined_of closed14_1 seat_2 seat_3 closed14_4 closed14_5 closed14_6 seat_7 closed14_8 seat_9 closed14_10 closed14_11 closed14_12 closed14_13 closed14_14 closed14_15 closed14_16 closed14_17 closed14_18 closed14_19 closed14_20 closed14_21 closed14_22 closed14_23 closed14_24 seat_25 seat_26 closed14_27 closed14_28 closed14_29 closed14_30 closed14_31 closed14_32
theorem card14_name : Tryz.prog.funcNamed Rows.poolDoesRow.func = some 14 := by kernel_rfl
theorem card14_goes : false = Rows.poolDoesRow.goesBy Tryz.pinned.checked.prog := by kernel_rfl
theorem card14_wf : Rows.poolDoesRow.wfByText (OpenSpec.ofChange Rows.poolDoesSpec) = true := by kernel_rfl
theorem card14_stand : ([3, 121].all fun u => !Tryz.prog.wantsStandIn u) = true := by kernel_rfl
end Go.Proofs.YtnglhicedhcpbaaGreatDoor
