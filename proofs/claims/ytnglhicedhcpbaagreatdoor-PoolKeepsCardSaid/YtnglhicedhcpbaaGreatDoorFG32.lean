/- What the rows ask of the program alone. -/
import Derived.Test.YtnglhicedhcpbaaGreatDoorFG31
import Derived.Test.YtnglhicedhcpbaaGreatDoorRows
import Derived.Test.YtnglhicedhcpbaaGreatDoorCards
import Derived.KernelRfl
namespace Go.Proofs.YtnglhicedhcpbaaGreatDoor
open Go
set_option maxRecDepth 100000
theorem seat_2 : laidOutB Tryz.prog = true := by kernel_rfl
theorem seat_3 : mapsRowed Tryz.prog = true := by kernel_rfl
theorem seat_7 : (Tryz.prog.stops == []) = true := by kernel_rfl
theorem seat_9 : (Tryz.prog.stopKnobs == []) = true := by kernel_rfl
theorem seat_25 : Tryz.prog.stopsHeard = true := by kernel_rfl
theorem seat_26 : Tryz.prog.mayEnter = true := by kernel_rfl
theorem card_main : Tryz.pinned.checked.prog.mainIs = some (true, "167e363518a68182c5c761e88d2ab89c747fc052803a2d80bb731255294a9900".toList) := by kernel_rfl
theorem card_looks : false = Tryz.pinned.checked.prog.looks [] := by kernel_rfl
theorem own3 : ownKnob Tryz.prog.godebug = none := by kernel_rfl
end Go.Proofs.YtnglhicedhcpbaaGreatDoor

/- The closed facts of PoolKeeps. -/
namespace Go.Proofs.YtnglhicedhcpbaaGreatDoor
open Go
set_option maxRecDepth 100000
theorem closed11_1 : Rows.poolKeepsRow.wf (OpenSpec.ofChange Rows.poolKeepsSpec) = true := by kernel_rfl
theorem closed11_4 : Tryz.f11.params.all (Tryz.prog.readableRec ·) = true := by kernel_rfl
theorem closed11_5 : namedTie Tryz.prog Rows.poolKeepsRow.named Rows.poolKeepsSpec.vars = true := by kernel_rfl
theorem closed11_6 : (Rows.poolKeepsRow.stops == []) = true := by kernel_rfl
theorem closed11_8 : (Rows.poolKeepsRow.knobs == []) = true := by kernel_rfl
theorem closed11_10 : (Rows.poolKeepsRow.inPlace == Tryz.prog.inPlace 11) = true := by kernel_rfl
theorem closed11_11 : (Rows.poolKeepsRow.unfollowed == Tryz.prog.unfollowed 11) = true := by kernel_rfl
theorem closed11_12 : (Rows.poolKeepsRow.recurses == Tryz.prog.recurses 11) = true := by kernel_rfl
theorem closed11_13 : (Rows.poolKeepsRow.named == Tryz.prog.varsNamed 11) = true := by kernel_rfl
theorem closed11_14 : (Rows.poolKeepsRow.maps == (Tryz.f11.params.toList ++ Rows.poolKeepsSpec.plain.varTypes Tryz.prog).any (Tryz.prog.mapsRec ·)) = true := by kernel_rfl
theorem closed11_15 : (Rows.poolKeepsRow.ifaces == (Tryz.f11.params.toList ++ Rows.poolKeepsSpec.plain.varTypes Tryz.prog).any (Tryz.prog.ifacesRec ·)) = true := by kernel_rfl
theorem closed11_16 : (Rows.poolKeepsRow.mapsOut == Tryz.prog.mapsAmong Tryz.f11.resultTypes.toList) = true := by kernel_rfl
theorem closed11_17 : (Rows.poolKeepsRow.loops == (Tryz.f11.params.toList ++ Rows.poolKeepsSpec.plain.varTypes Tryz.prog).any (Tryz.prog.loopsFrom ·)) = true := by kernel_rfl
theorem closed11_18 : (Rows.poolKeepsRow.wideKeys == (Tryz.f11.params.toList ++ Rows.poolKeepsSpec.plain.varTypes Tryz.prog ++ Tryz.f11.resultTypes.toList).any (Tryz.prog.wideKeysFrom ·)) = true := by kernel_rfl
theorem closed11_19 : Rows.poolKeepsSpec.vars.all (Tryz.prog.varReadable ·) = true := by kernel_rfl
theorem closed11_20 : Tryz.f11.resultTypes.all (fun t => Tryz.prog.readableRec t && decide (t < Tryz.prog.types.size)) = true := by kernel_rfl
theorem closed11_21 : (Rows.poolKeepsRow.ifacesOut == Tryz.f11.resultTypes.toList.any (Tryz.prog.ifacesRec ·)) = true := by kernel_rfl
theorem closed11_22 : (Rows.poolKeepsRow.loopsOut == Tryz.f11.resultTypes.toList.any (Tryz.prog.loopsFrom ·)) = true := by kernel_rfl
theorem closed11_23 : (Rows.poolKeepsRow.plainKeys == Tryz.prog.plainKeys) = true := by kernel_rfl
theorem closed11_24 : Rows.poolKeepsRow.shortTexts.isNone = true := by kernel_rfl
theorem closed11_27 : (Rows.poolKeepsRow.lifted == Tryz.prog.liftsFinal) = true := by kernel_rfl
theorem closed11_28 : (Tryz.prog.make == some Rows.poolKeepsRow.make) = true := by kernel_rfl
theorem closed11_29 : (Rows.poolKeepsRow.kinds == (if Rows.poolKeepsRow.domain.isEmpty then [] else Tryz.f11.params.toList.map fun t => match Tryz.prog.underlying t with | some (.int k) => some k | _ => none)) = true := by kernel_rfl
theorem closed11_30 : (Rows.poolKeepsRow.pinned == Rows.poolKeepsRow.pinnedBy) = true := by kernel_rfl
theorem closed11_31 : (Rows.poolKeepsRow.veiled == (Tryz.f11.params.toList ++ Rows.poolKeepsSpec.plain.varTypes Tryz.prog ++ Tryz.f11.resultTypes.toList).any (Tryz.prog.veiledRec ·)) = true := by kernel_rfl
theorem closed11_32 : Rows.poolKeepsRow.veiledFits Tryz.prog Tryz.f11.params.toList (Tryz.f11.params.toList ++ Rows.poolKeepsSpec.plain.varTypes Tryz.prog ++ Tryz.f11.resultTypes.toList) = true := by kernel_rfl
theorem closed11 : joinedFacts Tryz.prog 11 Tryz.f11 Rows.poolKeepsSpec Rows.poolKeepsRow = true :=
  Go.Ab.joined_of closed11_1 seat_2 seat_3 closed11_4 closed11_5 closed11_6 seat_7 closed11_8 seat_9 closed11_10 closed11_11 closed11_12 closed11_13 closed11_14 closed11_15 closed11_16 closed11_17 closed11_18 closed11_19 closed11_20 closed11_21 closed11_22 closed11_23 closed11_24 seat_25 seat_26 closed11_27 closed11_28 closed11_29 closed11_30 closed11_31 closed11_32
theorem card11_name : Tryz.prog.funcNamed Rows.poolKeepsRow.func = some 11 := by kernel_rfl
theorem card11_goes : false = Rows.poolKeepsRow.goesBy Tryz.pinned.checked.prog := by kernel_rfl
theorem card11_wf : Rows.poolKeepsRow.wfByText (OpenSpec.ofChange Rows.poolKeepsSpec) = true := by kernel_rfl
theorem card11_stand : ([3, 3, 121].all fun u => !Tryz.prog.wantsStandIn u) = true := by kernel_rfl
end Go.Proofs.YtnglhicedhcpbaaGreatDoor
