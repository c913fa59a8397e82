/- What the rows ask of the program alone. -/
import Derived.Test.YtnglhicedhcpbaaGreatDoorEG31
import Derived.Test.YtnglhicedhcpbaaGreatDoorRows
import Derived.Test.YtnglhicedhcpbaaGreatDoorCards
import Derived.KernelRfl
namespace Go.Proofs.YtnglhicedhcpbaaGreatDoor
open Go
set_option maxRecDepth 100000
theorem seat_2 : laidOutB Tryz.prog = true := by kernel_rfl
theorem seat_3 : mapsRowed Tryz.prog = true := by kernel_rfl
theorem seat_7 : (Tryz.prog.stops == []) = true := by kernel_rfl
theorem seat_9 : (Tryz.prog.stopKnobs == []) = true := by kernel_rfl
theorem seat_25 : Tryz.prog.stopsHeard = true := by kernel_rfl
theorem seat_26 : Tryz.prog.mayEnter = true := by kernel_rfl
theorem card_main : Tryz.pinned.checked.prog.mainIs = some (true, "167e363518a68182c5c761e88d2ab89c747fc052803a2d80bb731255294a9900".toList) := by kernel_rfl
theorem card_looks : false = Tryz.pinned.checked.prog.looks [] := by kernel_rfl
theorem own3 : ownKnob Tryz.prog.godebug = none := by kernel_rfl
end Go.Proofs.YtnglhicedhcpbaaGreatDoor

/- The closed facts of PoolCircles. -/
namespace Go.Proofs.YtnglhicedhcpbaaGreatDoor
open Go
set_option maxRecDepth 100000
theorem closed13_1 : Rows.poolCirclesRow.wf (OpenSpec.ofChange Rows.poolCirclesSpec) = true := by kernel_rfl
theorem closed13_4 : Tryz.f13.params.all (Tryz.prog.readableRec ·) = true := by kernel_rfl
theorem closed13_5 : namedTie Tryz.prog Rows.poolCirclesRow.named Rows.poolCirclesSpec.vars = true := by kernel_rfl
theorem closed13_6 : (Rows.poolCirclesRow.stops == []) = true := by kernel_rfl
theorem closed13_8 : (Rows.poolCirclesRow.knobs == []) = true := by kernel_rfl
theorem closed13_10 : (Rows.poolCirclesRow.inPlace == Tryz.prog.inPlace 13) = true := by kernel_rfl
theorem closed13_11 : (Rows.poolCirclesRow.unfollowed == Tryz.prog.unfollowed 13) = true := by kernel_rfl
theorem closed13_12 : (Rows.poolCirclesRow.recurses == Tryz.prog.recurses 13) = true := by kernel_rfl
theorem closed13_13 : (Rows.poolCirclesRow.named == Tryz.prog.varsNamed 13) = true := by kernel_rfl
theorem closed13_14 : (Rows.poolCirclesRow.maps == (Tryz.f13.params.toList ++ Rows.poolCirclesSpec.plain.varTypes Tryz.prog).any (Tryz.prog.mapsRec ·)) = true := by kernel_rfl
theorem closed13_15 : (Rows.poolCirclesRow.ifaces == (Tryz.f13.params.toList ++ Rows.poolCirclesSpec.plain.varTypes Tryz.prog).any (Tryz.prog.ifacesRec ·)) = true := by kernel_rfl
theorem closed13_16 : (Rows.poolCirclesRow.mapsOut == Tryz.prog.mapsAmong Tryz.f13.resultTypes.toList) = true := by kernel_rfl
theorem closed13_17 : (Rows.poolCirclesRow.loops == (Tryz.f13.params.toList ++ Rows.poolCirclesSpec.plain.varTypes Tryz.prog).any (Tryz.prog.loopsFrom ·)) = true := by kernel_rfl
theorem closed13_18 : (Rows.poolCirclesRow.wideKeys == (Tryz.f13.params.toList ++ Rows.poolCirclesSpec.plain.varTypes Tryz.prog ++ Tryz.f13.resultTypes.toList).any (Tryz.prog.wideKeysFrom ·)) = true := by kernel_rfl
theorem closed13_19 : Rows.poolCirclesSpec.vars.all (Tryz.prog.varReadable ·) = true := by kernel_rfl
theorem closed13_20 : Tryz.f13.resultTypes.all (fun t => Tryz.prog.readableRec t && decide (t < Tryz.prog.types.size)) = true := by kernel_rfl
theorem closed13_21 : (Rows.poolCirclesRow.ifacesOut == Tryz.f13.resultTypes.toList.any (Tryz.prog.ifacesRec ·)) = true := by kernel_rfl
theorem closed13_22 : (Rows.poolCirclesRow.loopsOut == Tryz.f13.resultTypes.toList.any (Tryz.prog.loopsFrom ·)) = true := by kernel_rfl
theorem closed13_23 : (Rows.poolCirclesRow.plainKeys == Tryz.prog.plainKeys) = true := by kernel_rfl
theorem closed13_24 : Rows.poolCirclesRow.shortTexts.isNone = true := by kernel_rfl
theorem closed13_27 : (Rows.poolCirclesRow.lifted == Tryz.prog.liftsFinal) = true := by kernel_rfl
theorem closed13_28 : (Tryz.prog.make == some Rows.poolCirclesRow.make) = true := by kernel_rfl
theorem closed13_29 : (Rows.poolCirclesRow.kinds == (if Rows.poolCirclesRow.domain.isEmpty then [] else Tryz.f13.params.toList.map fun t => match Tryz.prog.underlying t with | some (.int k) => some k | _ => none)) = true := by kernel_rfl
theorem closed13_30 : (Rows.poolCirclesRow.pinned == Rows.poolCirclesRow.pinnedBy) = true := by kernel_rfl
theorem closed13_31 : (Rows.poolCirclesRow.veiled == (Tryz.f13.params.toList ++ Rows.poolCirclesSpec.plain.varTypes Tryz.prog ++ Tryz.f13.resultTypes.toList).any (Tryz.prog.veiledRec ·)) = true := by kernel_rfl
theorem closed13_32 : Rows.poolCirclesRow.veiledFits Tryz.prog Tryz.f13.params.toList (Tryz.f13.params.toList ++ Rows.poolCirclesSpec.plain.varTypes Tryz.prog ++ Tryz.f13.resultTypes.toList) = true := by kernel_rfl
theorem closed13 : joinedFacts Tryz.prog 13 Tryz.f13 Rows.poolCirclesSpec Rows.poolCirclesRow = true :=
  Go.Ab.joined_of closed13_1 seat_2 seat_3 closed13_4 closed13_5 closed13_6 seat_7 closed13_8 seat_9 closed13_10 closed13_11 closed13_12 closed13_13 closed13_14 closed13_15 closed13_16 closed13_17 closed13_18 closed13_19 closed13_20 closed13_21 closed13_22 closed13_23 closed13_24 seat_25 seat_26 closed13_27 closed13_28 closed13_29 closed13_30 closed13_31 closed13_32
theorem card13_name : Tryz.prog.funcNamed Rows.poolCirclesRow.func = some 13 := by kernel_rfl
theorem card13_goes : false = Rows.poolCirclesRow.goesBy Tryz.pinned.checked.prog := by kernel_rfl
theorem card13_wf : Rows.poolCirclesRow.wfByText (OpenSpec.ofChange Rows.poolCirclesSpec) = true := by kernel_rfl
theorem card13_stand : ([3, 3, 3].all fun u => !Tryz.prog.wantsStandIn u) = true := by kernel_rfl
end Go.Proofs.YtnglhicedhcpbaaGreatDoor
