import Derived.Test.YtnglhicedhcpbaaGreatDoorKG35
import Derived.Test.YtnglhicedhcpbaaGreatDoorRows
import Derived.Test.YtnglhicedhcpbaaGreatDoorCards
import Derived.KernelRfl
namespace Go.Proofs.YtnglhicedhcpbaaGreatDoor
open Go
set_option maxRecDepth 100000
theorem seat_2 : laidOutB Tryz.prog = true := by kernel_rfl
theorem seat_3 : mapsRowed Tryz.prog = true := by kernel_rfl
theorem seat_7 : (Tryz.prog.stops == []) = true := by kernel_rfl
theorem seat_9 : (Tryz.prog.stopKnobs == []) = true := by kernel_rfl
theorem seat_25 : Tryz.prog.stopsHeard = true := by kernel_rfl
theorem seat_26 : Tryz.prog.mayEnter = true := by kernel_rfl
theorem card_main : Tryz.pinned.checked.prog.mainIs = some (true, "167e363518a68182c5c761e88d2ab89c747fc052803a2d80bb731255294a9900".toList) := by kernel_rfl
theorem card_looks : false = Tryz.pinned.checked.prog.looks [] := by kernel_rfl
theorem own3 : ownKnob Tryz.prog.godebug = none := by kernel_rfl
theorem closed7_1 : Rows.manifestRenewsRow.wf (OpenSpec.ofChange Rows.manifestRenewsSpec) = true := by kernel_rfl
theorem closed7_4 : Tryz.f7.params.all (Tryz.prog.readableRec ·) = true := by kernel_rfl
theorem closed7_5 : namedTie Tryz.prog Rows.manifestRenewsRow.named Rows.manifestRenewsSpec.vars = true := by kernel_rfl
theorem closed7_6 : (Rows.manifestRenewsRow.stops == []) = true := by kernel_rfl
theorem closed7_8 : (Rows.manifestRenewsRow.knobs == []) = true := by kernel_rfl
theorem closed7_10 : (Rows.manifestRenewsRow.inPlace == Tryz.prog.inPlace 7) = true := by kernel_rfl
theorem closed7_11 : (Rows.manifestRenewsRow.unfollowed == Tryz.prog.unfollowed 7) = true := by kernel_rfl
theorem closed7_12 : (Rows.manifestRenewsRow.recurses == Tryz.prog.recurses 7) = true := by kernel_rfl
theorem closed7_13 : (Rows.manifestRenewsRow.named == Tryz.prog.varsNamed 7) = true := by kernel_rfl
theorem closed7_14 : (Rows.manifestRenewsRow.maps == (Tryz.f7.params.toList ++ Rows.manifestRenewsSpec.plain.varTypes Tryz.prog).any (Tryz.prog.mapsRec ·)) = true := by kernel_rfl
theorem closed7_15 : (Rows.manifestRenewsRow.ifaces == (Tryz.f7.params.toList ++ Rows.manifestRenewsSpec.plain.varTypes Tryz.prog).any (Tryz.prog.ifacesRec ·)) = true := by kernel_rfl
theorem closed7_16 : (Rows.manifestRenewsRow.mapsOut == Tryz.prog.mapsAmong Tryz.f7.resultTypes.toList) = true := by kernel_rfl
theorem closed7_17 : (Rows.manifestRenewsRow.loops == (Tryz.f7.params.toList ++ Rows.manifestRenewsSpec.plain.varTypes Tryz.prog).any (Tryz.prog.loopsFrom ·)) = true := by kernel_rfl
theorem closed7_18 : (Rows.manifestRenewsRow.wideKeys == (Tryz.f7.params.toList ++ Rows.manifestRenewsSpec.plain.varTypes Tryz.prog ++ Tryz.f7.resultTypes.toList).any (Tryz.prog.wideKeysFrom ·)) = true := by kernel_rfl
theorem closed7_19 : Rows.manifestRenewsSpec.vars.all (Tryz.prog.varReadable ·) = true := by kernel_rfl
theorem closed7_20 : Tryz.f7.resultTypes.all (fun t => Tryz.prog.readableRec t && decide (t < Tryz.prog.types.size)) = true := by kernel_rfl
theorem closed7_21 : (Rows.manifestRenewsRow.ifacesOut == Tryz.f7.resultTypes.toList.any (Tryz.prog.ifacesRec ·)) = true := by kernel_rfl
theorem closed7_22 : (Rows.manifestRenewsRow.loopsOut == Tryz.f7.resultTypes.toList.any (Tryz.prog.loopsFrom ·)) = true := by kernel_rfl
theorem closed7_23 : (Rows.manifestRenewsRow.plainKeys == Tryz.prog.plainKeys) = true := by kernel_rfl
theorem closed7_24 : Rows.manifestRenewsRow.shortTexts.isNone = true := by kernel_rfl
theorem closed7_27 : (Rows.manifestRenewsRow.lifted == Tryz.prog.liftsFinal) = true := by kernel_rfl
theorem closed7_28 : (Tryz.prog.make == some Rows.manifestRenewsRow.make) = true := by kernel_rfl
theorem closed7_29 : (Rows.manifestRenewsRow.kinds == (if Rows.manifestRenewsRow.domain.isEmpty then [] else Tryz.f7.params.toList.map fun t => match Tryz.prog.underlying t with | some (.int k) => some k | _ => none)) = true := by kernel_rfl
theorem closed7_30 : (Rows.manifestRenewsRow.pinned == Rows.manifestRenewsRow.pinnedBy) = true := by kernel_rfl
theorem closed7_31 : (Rows.manifestRenewsRow.veiled == (Tryz.f7.params.toList ++ Rows.manifestRenewsSpec.plain.varTypes Tryz.prog ++ Tryz.f7.resultTypes.toList).any (Tryz.prog.veiledRec ·)) = true := by kernel_rfl
theorem closed7_32 : Rows.manifestRenewsRow.veiledFits Tryz.prog Tryz.f7.params.toList (Tryz.f7.params.toList ++ Rows.manifestRenewsSpec.plain.varTypes Tryz.prog ++ Tryz.f7.resultTypes.toList) = true := by kernel_rfl
theorem closed7 : joinedFacts Tryz.prog 7 Tryz.f7 Rows.manifestRenewsSpec Rows.manifestRenewsRow = true :=
  Go.Ab.joined_of closed7_1 seat_2 seat_3 closed7_4 closed7_5 closed7_6 seat_7 closed7_8 seat_9 closed7_10 closed7_11 closed7_12 closed7_13 closed7_14 closed7_15 closed7_16 closed7_17 closed7_18 closed7_19 closed7_20 closed7_21 closed7_22 closed7_23 closed7_24 seat_25 seat_26 closed7_27 closed7_28 closed7_29 closed7_30 closed7_31 closed7_32
theorem card7_name : Tryz.prog.funcNamed Rows.manifestRenewsRow.func = some 7 := by kernel_rfl
theorem card7_goes : false = Rows.manifestRenewsRow.goesBy Tryz.pinned.checked.prog := by kernel_rfl
theorem card7_wf : Rows.manifestRenewsRow.wfByText (OpenSpec.ofChange Rows.manifestRenewsSpec) = true := by kernel_rfl
theorem card7_stand : ([45, 3].all fun u => !Tryz.prog.wantsStandIn u) = true := by kernel_rfl
end Go.Proofs.YtnglhicedhcpbaaGreatDoor
