/- What the rows ask of the program alone. -/
import Derived.Test.YtnglhicedhcpbaaGreatDoorDG29
import Derived.Test.YtnglhicedhcpbaaGreatDoorRows
import Derived.Test.YtnglhicedhcpbaaGreatDoorCards
import Derived.KernelRfl
namespace Go.Proofs.YtnglhicedhcpbaaGreatDoor
open Go
set_option maxRecDepth 100000
theorem seat_2 : laidOutB Tryz.prog = true := by kernel_rfl
theorem seat_3 : mapsRowed Tryz.prog = true := by kernel_rfl
theorem seat_7 : (Tryz.prog.stops == []) = true := by kernel_rfl
theorem seat_9 : (Tryz.prog.stopKnobs == []) = true := by kernel_rfl
theorem seat_25 : Tryz.prog.stopsHeard = true := by kernel_rfl
theorem seat_26 : Tryz.prog.mayEnter = true := by kernel_rfl
theorem card_main : Tryz.pinned.checked.prog.mainIs = some (true, "167e363518a68182c5c761e88d2ab89c747fc052803a2d80bb731255294a9900".toList) := by kernel_rfl
theorem card_looks : false = Tryz.pinned.checked.prog.looks [] := by kernel_rfl
theorem own3 : ownKnob Tryz.prog.godebug = none := by kernel_rfl
end Go.Proofs.YtnglhicedhcpbaaGreatDoor

/- The closed facts of PoolNobody. -/
namespace Go.Proofs.YtnglhicedhcpbaaGreatDoor
open Go
set_option maxRecDepth 100000
theorem closed12_1 : Rows.poolNobodyRow.wf (OpenSpec.ofChange Rows.poolNobodySpec) = true := by kernel_rfl
theorem closed12_4 : Tryz.f12.params.all (Tryz.prog.readableRec ·) = true := by kernel_rfl
theorem closed12_5 : namedTie Tryz.prog Rows.poolNobodyRow.named Rows.poolNobodySpec.vars = true := by kernel_rfl
theorem closed12_6 : (Rows.poolNobodyRow.stops == []) = true := by kernel_rfl
theorem closed12_8 : (Rows.poolNobodyRow.knobs == []) = true := by kernel_rfl
theorem closed12_10 : (Rows.poolNobodyRow.inPlace == Tryz.prog.inPlace 12) = true := by kernel_rfl
theorem closed12_11 : (Rows.poolNobodyRow.unfollowed == Tryz.prog.unfollowed 12) = true := by kernel_rfl
theorem closed12_12 : (Rows.poolNobodyRow.recurses == Tryz.prog.recurses 12) = true := by kernel_rfl
theorem closed12_13 : (Rows.poolNobodyRow.named == Tryz.prog.varsNamed 12) = true := by kernel_rfl
theorem closed12_14 : (Rows.poolNobodyRow.maps == (Tryz.f12.params.toList ++ Rows.poolNobodySpec.plain.varTypes Tryz.prog).any (Tryz.prog.mapsRec ·)) = true := by kernel_rfl
theorem closed12_15 : (Rows.poolNobodyRow.ifaces == (Tryz.f12.params.toList ++ Rows.poolNobodySpec.plain.varTypes Tryz.prog).any (Tryz.prog.ifacesRec ·)) = true := by kernel_rfl
theorem closed12_16 : (Rows.poolNobodyRow.mapsOut == Tryz.prog.mapsAmong Tryz.f12.resultTypes.toList) = true := by kernel_rfl
theorem closed12_17 : (Rows.poolNobodyRow.loops == (Tryz.f12.params.toList ++ Rows.poolNobodySpec.plain.varTypes Tryz.prog).any (Tryz.prog.loopsFrom ·)) = true := by kernel_rfl
theorem closed12_18 : (Rows.poolNobodyRow.wideKeys == (Tryz.f12.params.toList ++ Rows.poolNobodySpec.plain.varTypes Tryz.prog ++ Tryz.f12.resultTypes.toList).any (Tryz.prog.wideKeysFrom ·)) = true := by kernel_rfl
theorem closed12_19 : Rows.poolNobodySpec.vars.all (Tryz.prog.varReadable ·) = true := by kernel_rfl
theorem closed12_20 : Tryz.f12.resultTypes.all (fun t => Tryz.prog.readableRec t && decide (t < Tryz.prog.types.size)) = true := by kernel_rfl
theorem closed12_21 : (Rows.poolNobodyRow.ifacesOut == Tryz.f12.resultTypes.toList.any (Tryz.prog.ifacesRec ·)) = true := by kernel_rfl
theorem closed12_22 : (Rows.poolNobodyRow.loopsOut == Tryz.f12.resultTypes.toList.any (Tryz.prog.loopsFrom ·)) = true := by kernel_rfl
theorem closed12_23 : (Rows.poolNobodyRow.plainKeys == Tryz.prog.plainKeys) = true := by kernel_rfl
theorem closed12_24 : Rows.poolNobodyRow.shortTexts.isNone = true := by kernel_rfl
theorem closed12_27 : (Rows.poolNobodyRow.lifted == Tryz.prog.liftsFinal) = true := by kernel_rfl
theorem closed12_28 : (Tryz.prog.make == some Rows.poolNobodyRow.make) = true := by kernel_rfl
theorem closed12_29 : (Rows.poolNobodyRow.kinds == (if Rows.poolNobodyRow.domain.isEmpty then [] else Tryz.f12.params.toList.map fun t => match Tryz.prog.underlying t with | some (.int k) => some k | _ => none)) = true := by kernel_rfl
theorem closed12_30 : (Rows.poolNobodyRow.pinned == Rows.poolNobodyRow.pinnedBy) = true := by kernel_rfl
theorem closed12_31 : (Rows.poolNobodyRow.veiled == (Tryz.f12.params.toList ++ Rows.poolNobodySpec.plain.varTypes Tryz.prog ++ Tryz.f12.resultTypes.toList).any (Tryz.prog.veiledRec ·)) = true := by kernel_rfl
theorem closed12_32 : Rows.poolNobodyRow.veiledFits Tryz.prog Tryz.f12.params.toList (Tryz.f12.params.toList ++ Rows.poolNobodySpec.plain.varTypes Tryz.prog ++ Tryz.f12.resultTypes.toList) = true := by kernel_rfl
theorem closed12 : joinedFacts Tryz.prog 12 Tryz.f12 Rows.poolNobodySpec Rows.poolNobodyRow = true :=
  Go.Ab.joined_of closed12_1 seat_2 seat_3 closed12_4 closed12_5 closed12_6 seat_7 closed12_8 seat_9 closed12_10 closed12_11 closed12_12 closed12_13 closed12_14 closed12_15 closed12_16 closed12_17 closed12_18 closed12_19 closed12_20 closed12_21 closed12_22 closed12_23 closed12_24 seat_25 seat_26 closed12_27 closed12_28 closed12_29 closed12_30 closed12_31 closed12_32
theorem card12_name : Tryz.prog.funcNamed Rows.poolNobodyRow.func = some 12 := by kernel_rfl
theorem card12_goes : false = Rows.poolNobodyRow.goesBy Tryz.pinned.checked.prog := by kernel_rfl
theorem card12_wf : Rows.poolNobodyRow.wfByText (OpenSpec.ofChange Rows.poolNobodySpec) = true := by kernel_rfl
theorem card12_stand : ([3].all fun u => !Tryz.prog.wantsStandIn u) = true := by kernel_rfl
end Go.Proofs.YtnglhicedhcpbaaGreatDoor
