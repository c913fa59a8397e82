import Derived.Test.YtafmabnolelknaaGreatDoorAG23
import Derived.Test.YtafmabnolelknaaGreatDoorRows
import Derived.Test.YtafmabnolelknaaGreatDoorCards
import Derived.KernelRfl
namespace Go.Proofs.YtafmabnolelknaaGreatDoor
open Go
set_option maxRecDepth 100000
theorem seat_2 : laidOutB Tryz.prog = true := by kernel_rfl
theorem seat_3 : mapsRowed Tryz.prog = true := by kernel_rfl
theorem seat_7 : (Tryz.prog.stops == []) = true := by kernel_rfl
theorem seat_9 : (Tryz.prog.stopKnobs == []) = true := by kernel_rfl
theorem seat_25 : Tryz.prog.stopsHeard = true := by kernel_rfl
theorem seat_26 : Tryz.prog.mayEnter = true := by kernel_rfl
theorem card_main : Tryz.pinned.checked.prog.mainIs = some (true, "a135674dfacc129f112544c4b8fa39b787132e786b4bf04053af45495352e943".toList) := by kernel_rfl
theorem card_looks : false = Tryz.pinned.checked.prog.looks [] := by kernel_rfl
theorem own3 : ownKnob Tryz.prog.godebug = none := by kernel_rfl
theorem closed5_1 : Rows.storeNobodyRow.wf (OpenSpec.ofChange Rows.storeNobodySpec) = true := by kernel_rfl
theorem closed5_4 : Tryz.f5.params.all (Tryz.prog.readableRec ·) = true := by kernel_rfl
theorem closed5_5 : namedTie Tryz.prog Rows.storeNobodyRow.named Rows.storeNobodySpec.vars = true := by kernel_rfl
theorem closed5_6 : (Rows.storeNobodyRow.stops == []) = true := by kernel_rfl
theorem closed5_8 : (Rows.storeNobodyRow.knobs == []) = true := by kernel_rfl
theorem closed5_10 : (Rows.storeNobodyRow.inPlace == Tryz.prog.inPlace 5) = true := by kernel_rfl
theorem closed5_11 : (Rows.storeNobodyRow.unfollowed == Tryz.prog.unfollowed 5) = true := by kernel_rfl
theorem closed5_12 : (Rows.storeNobodyRow.recurses == Tryz.prog.recurses 5) = true := by kernel_rfl
theorem closed5_13 : (Rows.storeNobodyRow.named == Tryz.prog.varsNamed 5) = true := by kernel_rfl
theorem closed5_14 : (Rows.storeNobodyRow.maps == (Tryz.f5.params.toList ++ Rows.storeNobodySpec.plain.varTypes Tryz.prog).any (Tryz.prog.mapsRec ·)) = true := by kernel_rfl
theorem closed5_15 : (Rows.storeNobodyRow.ifaces == (Tryz.f5.params.toList ++ Rows.storeNobodySpec.plain.varTypes Tryz.prog).any (Tryz.prog.ifacesRec ·)) = true := by kernel_rfl
theorem closed5_16 : (Rows.storeNobodyRow.mapsOut == Tryz.prog.mapsAmong Tryz.f5.resultTypes.toList) = true := by kernel_rfl
theorem closed5_17 : (Rows.storeNobodyRow.loops == (Tryz.f5.params.toList ++ Rows.storeNobodySpec.plain.varTypes Tryz.prog).any (Tryz.prog.loopsFrom ·)) = true := by kernel_rfl
theorem closed5_18 : (Rows.storeNobodyRow.wideKeys == (Tryz.f5.params.toList ++ Rows.storeNobodySpec.plain.varTypes Tryz.prog ++ Tryz.f5.resultTypes.toList).any (Tryz.prog.wideKeysFrom ·)) = true := by kernel_rfl
theorem closed5_19 : Rows.storeNobodySpec.vars.all (Tryz.prog.varReadable ·) = true := by kernel_rfl
theorem closed5_20 : Tryz.f5.resultTypes.all (fun t => Tryz.prog.readableRec t && decide (t < Tryz.prog.types.size)) = true := by kernel_rfl
theorem closed5_21 : (Rows.storeNobodyRow.ifacesOut == Tryz.f5.resultTypes.toList.any (Tryz.prog.ifacesRec ·)) = true := by kernel_rfl
theorem closed5_22 : (Rows.storeNobodyRow.loopsOut == Tryz.f5.resultTypes.toList.any (Tryz.prog.loopsFrom ·)) = true := by kernel_rfl
theorem closed5_23 : (Rows.storeNobodyRow.plainKeys == Tryz.prog.plainKeys) = true := by kernel_rfl
theorem closed5_24 : Rows.storeNobodyRow.shortTexts.isNone = true := by kernel_rfl
theorem closed5_27 : (Rows.storeNobodyRow.lifted == Tryz.prog.liftsFinal) = true := by kernel_rfl
theorem closed5_28 : (Tryz.prog.make == some Rows.storeNobodyRow.make) = true := by kernel_rfl
theorem closed5_29 : (Rows.storeNobodyRow.kinds == (if Rows.storeNobodyRow.domain.isEmpty then [] else Tryz.f5.params.toList.map fun t => match Tryz.prog.underlying t with | some (.int k) => some k | _ => none)) = true := by kernel_rfl
theorem closed5_30 : (Rows.storeNobodyRow.pinned == Rows.storeNobodyRow.pinnedBy) = true := by kernel_rfl
theorem closed5_31 : (Rows.storeNobodyRow.veiled == (Tryz.f5.params.toList ++ Rows.storeNobodySpec.plain.varTypes Tryz.prog ++ Tryz.f5.resultTypes.toList).any (Tryz.prog.veiledRec ·)) = true := by kernel_rfl
theorem closed5_32 : Rows.storeNobodyRow.veiledFits Tryz.prog Tryz.f5.params.toList (Tryz.f5.params.toList ++ Rows.storeNobodySpec.plain.varTypes Tryz.prog ++ Tryz.f5.resultTypes.toList) = true := by kernel_rfl
theorem closed5 : joinedFacts Tryz.prog 5 Tryz.f5 Rows.storeNobodySpec Rows.storeNobodyRow = true :=
  Go.Ab.joined_of closed5_1 seat_2 seat_3 closed5_4 closed5_5 closed5_6 seat_7 closed5_8 seat_9 closed5_10 closed5_11 closed5_12 closed5_13 closed5_14 closed5_15 closed5_16 closed5_17 closed5_18 closed5_19 closed5_20 closed5_21 closed5_22 closed5_23 closed5_24 seat_25 seat_26 closed5_27 closed5_28 closed5_29 closed5_30 closed5_31 closed5_32
theorem card5_name : Tryz.prog.funcNamed Rows.storeNobodyRow.func = some 5 := by kernel_rfl
theorem card5_goes : false = Rows.storeNobodyRow.goesBy Tryz.pinned.checked.prog := by kernel_rfl
theorem card5_wf : Rows.storeNobodyRow.wfByText (OpenSpec.ofChange Rows.storeNobodySpec) = true := by kernel_rfl
theorem card5_stand : ([36].all fun u => !Tryz.prog.wantsStandIn u) = true := by kernel_rfl
end Go.Proofs.YtafmabnolelknaaGreatDoor
