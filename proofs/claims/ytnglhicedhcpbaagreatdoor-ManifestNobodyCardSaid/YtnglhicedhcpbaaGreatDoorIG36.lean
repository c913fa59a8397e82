import Derived.Test.YtnglhicedhcpbaaGreatDoorIG35
import Derived.Test.YtnglhicedhcpbaaGreatDoorRows
import Derived.Test.YtnglhicedhcpbaaGreatDoorCards
import Derived.KernelRfl
namespace Go.Proofs.YtnglhicedhcpbaaGreatDoor
open Go
set_option maxRecDepth 100000
theorem seat_2 : laidOutB Tryz.prog = true := by kernel_rfl
theorem seat_3 : mapsRowed Tryz.prog = true := by kernel_rfl
theorem seat_7 : (Tryz.prog.stops == []) = true := by kernel_rfl
theorem seat_9 : (Tryz.prog.stopKnobs == []) = true := by kernel_rfl
theorem seat_25 : Tryz.prog.stopsHeard = true := by kernel_rfl
theorem seat_26 : Tryz.prog.mayEnter = true := by kernel_rfl
theorem card_main : Tryz.pinned.checked.prog.mainIs = some (true, "167e363518a68182c5c761e88d2ab89c747fc052803a2d80bb731255294a9900".toList) := by kernel_rfl
theorem card_looks : false = Tryz.pinned.checked.prog.looks [] := by kernel_rfl
theorem own3 : ownKnob Tryz.prog.godebug = none := by kernel_rfl
theorem closed6_1 : Rows.manifestNobodyRow.wf (OpenSpec.ofChange Rows.manifestNobodySpec) = true := by kernel_rfl
theorem closed6_4 : Tryz.f6.params.all (Tryz.prog.readableRec ·) = true := by kernel_rfl
theorem closed6_5 : namedTie Tryz.prog Rows.manifestNobodyRow.named Rows.manifestNobodySpec.vars = true := by kernel_rfl
theorem closed6_6 : (Rows.manifestNobodyRow.stops == []) = true := by kernel_rfl
theorem closed6_8 : (Rows.manifestNobodyRow.knobs == []) = true := by kernel_rfl
theorem closed6_10 : (Rows.manifestNobodyRow.inPlace == Tryz.prog.inPlace 6) = true := by kernel_rfl
theorem closed6_11 : (Rows.manifestNobodyRow.unfollowed == Tryz.prog.unfollowed 6) = true := by kernel_rfl
theorem closed6_12 : (Rows.manifestNobodyRow.recurses == Tryz.prog.recurses 6) = true := by kernel_rfl
theorem closed6_13 : (Rows.manifestNobodyRow.named == Tryz.prog.varsNamed 6) = true := by kernel_rfl
theorem closed6_14 : (Rows.manifestNobodyRow.maps == (Tryz.f6.params.toList ++ Rows.manifestNobodySpec.plain.varTypes Tryz.prog).any (Tryz.prog.mapsRec ·)) = true := by kernel_rfl
theorem closed6_15 : (Rows.manifestNobodyRow.ifaces == (Tryz.f6.params.toList ++ Rows.manifestNobodySpec.plain.varTypes Tryz.prog).any (Tryz.prog.ifacesRec ·)) = true := by kernel_rfl
theorem closed6_16 : (Rows.manifestNobodyRow.mapsOut == Tryz.prog.mapsAmong Tryz.f6.resultTypes.toList) = true := by kernel_rfl
theorem closed6_17 : (Rows.manifestNobodyRow.loops == (Tryz.f6.params.toList ++ Rows.manifestNobodySpec.plain.varTypes Tryz.prog).any (Tryz.prog.loopsFrom ·)) = true := by kernel_rfl
theorem closed6_18 : (Rows.manifestNobodyRow.wideKeys == (Tryz.f6.params.toList ++ Rows.manifestNobodySpec.plain.varTypes Tryz.prog ++ Tryz.f6.resultTypes.toList).any (Tryz.prog.wideKeysFrom ·)) = true := by kernel_rfl
theorem closed6_19 : Rows.manifestNobodySpec.vars.all (Tryz.prog.varReadable ·) = true := by kernel_rfl
theorem closed6_20 : Tryz.f6.resultTypes.all (fun t => Tryz.prog.readableRec t && decide (t < Tryz.prog.types.size)) = true := by kernel_rfl
theorem closed6_21 : (Rows.manifestNobodyRow.ifacesOut == Tryz.f6.resultTypes.toList.any (Tryz.prog.ifacesRec ·)) = true := by kernel_rfl
theorem closed6_22 : (Rows.manifestNobodyRow.loopsOut == Tryz.f6.resultTypes.toList.any (Tryz.prog.loopsFrom ·)) = true := by kernel_rfl
theorem closed6_23 : (Rows.manifestNobodyRow.plainKeys == Tryz.prog.plainKeys) = true := by kernel_rfl
theorem closed6_24 : Rows.manifestNobodyRow.shortTexts.isNone = true := by kernel_rfl
theorem closed6_27 : (Rows.manifestNobodyRow.lifted == Tryz.prog.liftsFinal) = true := by kernel_rfl
theorem closed6_28 : (Tryz.prog.make == some Rows.manifestNobodyRow.make) = true := by kernel_rfl
theorem closed6_29 : (Rows.manifestNobodyRow.kinds == (if Rows.manifestNobodyRow.domain.isEmpty then [] else Tryz.f6.params.toList.map fun t => match Tryz.prog.underlying t with | some (.int k) => some k | _ => none)) = true := by kernel_rfl
theorem closed6_30 : (Rows.manifestNobodyRow.pinned == Rows.manifestNobodyRow.pinnedBy) = true := by kernel_rfl
theorem closed6_31 : (Rows.manifestNobodyRow.veiled == (Tryz.f6.params.toList ++ Rows.manifestNobodySpec.plain.varTypes Tryz.prog ++ Tryz.f6.resultTypes.toList).any (Tryz.prog.veiledRec ·)) = true := by kernel_rfl
theorem closed6_32 : Rows.manifestNobodyRow.veiledFits Tryz.prog Tryz.f6.params.toList (Tryz.f6.params.toList ++ Rows.manifestNobodySpec.plain.varTypes Tryz.prog ++ Tryz.f6.resultTypes.toList) = true := by kernel_rfl
theorem closed6 : joinedFacts Tryz.prog 6 Tryz.f6 Rows.manifestNobodySpec Rows.manifestNobodyRow = true :=
  Go.Ab.joined_of closed6_1 seat_2 seat_3 closed6_4 closed6_5 closed6_6 seat_7 closed6_8 seat_9 closed6_10 closed6_11 closed6_12 closed6_13 closed6_14 closed6_15 closed6_16 closed6_17 closed6_18 closed6_19 closed6_20 closed6_21 closed6_22 closed6_23 closed6_24 seat_25 seat_26 closed6_27 closed6_28 closed6_29 closed6_30 closed6_31 closed6_32
theorem card6_name : Tryz.prog.funcNamed Rows.manifestNobodyRow.func = some 6 := by kernel_rfl
theorem card6_goes : false = Rows.manifestNobodyRow.goesBy Tryz.pinned.checked.prog := by kernel_rfl
theorem card6_wf : Rows.manifestNobodyRow.wfByText (OpenSpec.ofChange Rows.manifestNobodySpec) = true := by kernel_rfl
theorem card6_stand : ([58].all fun u => !Tryz.prog.wantsStandIn u) = true := by kernel_rfl
end Go.Proofs.YtnglhicedhcpbaaGreatDoor
