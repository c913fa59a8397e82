import Derived.Test.YtnglhicedhcpbaaGreatDoorJG35
import Derived.Test.YtnglhicedhcpbaaGreatDoorRows
import Derived.Test.YtnglhicedhcpbaaGreatDoorCards
import Derived.KernelRfl
namespace Go.Proofs.YtnglhicedhcpbaaGreatDoor
open Go
set_option maxRecDepth 100000
theorem seat_2 : laidOutB Tryz.prog = true := by kernel_rfl
theorem seat_3 : mapsRowed Tryz.prog = true := by kernel_rfl
theorem seat_7 : (Tryz.prog.stops == []) = true := by kernel_rfl
theorem seat_9 : (Tryz.prog.stopKnobs == []) = true := by kernel_rfl
theorem seat_25 : Tryz.prog.stopsHeard = true := by kernel_rfl
theorem seat_26 : Tryz.prog.mayEnter = true := by kernel_rfl
theorem card_main : Tryz.pinned.checked.prog.mainIs = some (true, "167e363518a68182c5c761e88d2ab89c747fc052803a2d80bb731255294a9900".toList) := by kernel_rfl
theorem card_looks : false = Tryz.pinned.checked.prog.looks [] := by kernel_rfl
theorem own3 : ownKnob Tryz.prog.godebug = none := by kernel_rfl
theorem closed4_1 : Rows.manifestRecoversRow.wf (OpenSpec.ofChange Rows.manifestRecoversSpec) = true := by kernel_rfl
theorem closed4_4 : Tryz.f4.params.all (Tryz.prog.readableRec ·) = true := by kernel_rfl
theorem closed4_5 : namedTie Tryz.prog Rows.manifestRecoversRow.named Rows.manifestRecoversSpec.vars = true := by kernel_rfl
theorem closed4_6 : (Rows.manifestRecoversRow.stops == []) = true := by kernel_rfl
theorem closed4_8 : (Rows.manifestRecoversRow.knobs == []) = true := by kernel_rfl
theorem closed4_10 : (Rows.manifestRecoversRow.inPlace == Tryz.prog.inPlace 4) = true := by kernel_rfl
theorem closed4_11 : (Rows.manifestRecoversRow.unfollowed == Tryz.prog.unfollowed 4) = true := by kernel_rfl
theorem closed4_12 : (Rows.manifestRecoversRow.recurses == Tryz.prog.recurses 4) = true := by kernel_rfl
theorem closed4_13 : (Rows.manifestRecoversRow.named == Tryz.prog.varsNamed 4) = true := by kernel_rfl
theorem closed4_14 : (Rows.manifestRecoversRow.maps == (Tryz.f4.params.toList ++ Rows.manifestRecoversSpec.plain.varTypes Tryz.prog).any (Tryz.prog.mapsRec ·)) = true := by kernel_rfl
theorem closed4_15 : (Rows.manifestRecoversRow.ifaces == (Tryz.f4.params.toList ++ Rows.manifestRecoversSpec.plain.varTypes Tryz.prog).any (Tryz.prog.ifacesRec ·)) = true := by kernel_rfl
theorem closed4_16 : (Rows.manifestRecoversRow.mapsOut == Tryz.prog.mapsAmong Tryz.f4.resultTypes.toList) = true := by kernel_rfl
theorem closed4_17 : (Rows.manifestRecoversRow.loops == (Tryz.f4.params.toList ++ Rows.manifestRecoversSpec.plain.varTypes Tryz.prog).any (Tryz.prog.loopsFrom ·)) = true := by kernel_rfl
theorem closed4_18 : (Rows.manifestRecoversRow.wideKeys == (Tryz.f4.params.toList ++ Rows.manifestRecoversSpec.plain.varTypes Tryz.prog ++ Tryz.f4.resultTypes.toList).any (Tryz.prog.wideKeysFrom ·)) = true := by kernel_rfl
theorem closed4_19 : Rows.manifestRecoversSpec.vars.all (Tryz.prog.varReadable ·) = true := by kernel_rfl
theorem closed4_20 : Tryz.f4.resultTypes.all (fun t => Tryz.prog.readableRec t && decide (t < Tryz.prog.types.size)) = true := by kernel_rfl
theorem closed4_21 : (Rows.manifestRecoversRow.ifacesOut == Tryz.f4.resultTypes.toList.any (Tryz.prog.ifacesRec ·)) = true := by kernel_rfl
theorem closed4_22 : (Rows.manifestRecoversRow.loopsOut == Tryz.f4.resultTypes.toList.any (Tryz.prog.loopsFrom ·)) = true := by kernel_rfl
theorem closed4_23 : (Rows.manifestRecoversRow.plainKeys == Tryz.prog.plainKeys) = true := by kernel_rfl
theorem closed4_24 : Rows.manifestRecoversRow.shortTexts.isNone = true := by kernel_rfl
theorem closed4_27 : (Rows.manifestRecoversRow.lifted == Tryz.prog.liftsFinal) = true := by kernel_rfl
theorem closed4_28 : (Tryz.prog.make == some Rows.manifestRecoversRow.make) = true := by kernel_rfl
theorem closed4_29 : (Rows.manifestRecoversRow.kinds == (if Rows.manifestRecoversRow.domain.isEmpty then [] else Tryz.f4.params.toList.map fun t => match Tryz.prog.underlying t with | some (.int k) => some k | _ => none)) = true := by kernel_rfl
theorem closed4_30 : (Rows.manifestRecoversRow.pinned == Rows.manifestRecoversRow.pinnedBy) = true := by kernel_rfl
theorem closed4_31 : (Rows.manifestRecoversRow.veiled == (Tryz.f4.params.toList ++ Rows.manifestRecoversSpec.plain.varTypes Tryz.prog ++ Tryz.f4.resultTypes.toList).any (Tryz.prog.veiledRec ·)) = true := by kernel_rfl
theorem closed4_32 : Rows.manifestRecoversRow.veiledFits Tryz.prog Tryz.f4.params.toList (Tryz.f4.params.toList ++ Rows.manifestRecoversSpec.plain.varTypes Tryz.prog ++ Tryz.f4.resultTypes.toList) = true := by kernel_rfl
theorem closed4 : joinedFacts Tryz.prog 4 Tryz.f4 Rows.manifestRecoversSpec Rows.manifestRecoversRow = true :=
  Go.Ab.joined_of closed4_1 seat_2 seat_3 closed4_4 closed4_5 closed4_6 seat_7 closed4_8 seat_9 closed4_10 closed4_11 closed4_12 closed4_13 closed4_14 closed4_15 closed4_16 closed4_17 closed4_18 closed4_19 closed4_20 closed4_21 closed4_22 closed4_23 closed4_24 seat_25 seat_26 closed4_27 closed4_28 closed4_29 closed4_30 closed4_31 closed4_32
theorem card4_name : Tryz.prog.funcNamed Rows.manifestRecoversRow.func = some 4 := by kernel_rfl
theorem card4_goes : false = Rows.manifestRecoversRow.goesBy Tryz.pinned.checked.prog := by kernel_rfl
theorem card4_wf : Rows.manifestRecoversRow.wfByText (OpenSpec.ofChange Rows.manifestRecoversSpec) = true := by kernel_rfl
theorem card4_stand : ([45, 3, 46, 46].all fun u => !Tryz.prog.wantsStandIn u) = true := by kernel_rfl
end Go.Proofs.YtnglhicedhcpbaaGreatDoor
