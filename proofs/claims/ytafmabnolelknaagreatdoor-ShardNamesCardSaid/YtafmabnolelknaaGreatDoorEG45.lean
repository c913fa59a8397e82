import Derived.Test.YtafmabnolelknaaGreatDoorEG44
import Derived.Test.YtafmabnolelknaaGreatDoorRows
import Derived.Test.YtafmabnolelknaaGreatDoorCards
import Derived.KernelRfl
namespace Go.Proofs.YtafmabnolelknaaGreatDoor
open Go
set_option maxRecDepth 100000
theorem seat_2 : laidOutB Tryz.prog = true := by kernel_rfl
theorem seat_3 : mapsRowed Tryz.prog = true := by kernel_rfl
theorem seat_7 : (Tryz.prog.stops == []) = true := by kernel_rfl
theorem seat_9 : (Tryz.prog.stopKnobs == []) = true := by kernel_rfl
theorem seat_25 : Tryz.prog.stopsHeard = true := by kernel_rfl
theorem seat_26 : Tryz.prog.mayEnter = true := by kernel_rfl
theorem card_main : Tryz.pinned.checked.prog.mainIs = some (true, "a135674dfacc129f112544c4b8fa39b787132e786b4bf04053af45495352e943".toList) := by kernel_rfl
theorem card_looks : false = Tryz.pinned.checked.prog.looks [] := by kernel_rfl
theorem own3 : ownKnob Tryz.prog.godebug = none := by kernel_rfl
theorem closed9_1 : Rows.shardNamesRow.wf (OpenSpec.ofChange Rows.shardNamesSpec) = true := by kernel_rfl
theorem closed9_4 : Tryz.f9.params.all (Tryz.prog.readableRec ·) = true := by kernel_rfl
theorem closed9_5 : namedTie Tryz.prog Rows.shardNamesRow.named Rows.shardNamesSpec.vars = true := by kernel_rfl
theorem closed9_6 : (Rows.shardNamesRow.stops == []) = true := by kernel_rfl
theorem closed9_8 : (Rows.shardNamesRow.knobs == []) = true := by kernel_rfl
theorem closed9_10 : (Rows.shardNamesRow.inPlace == Tryz.prog.inPlace 9) = true := by kernel_rfl
theorem closed9_11 : (Rows.shardNamesRow.unfollowed == Tryz.prog.unfollowed 9) = true := by kernel_rfl
theorem closed9_12 : (Rows.shardNamesRow.recurses == Tryz.prog.recurses 9) = true := by kernel_rfl
theorem closed9_13 : (Rows.shardNamesRow.named == Tryz.prog.varsNamed 9) = true := by kernel_rfl
theorem closed9_14 : (Rows.shardNamesRow.maps == (Tryz.f9.params.toList ++ Rows.shardNamesSpec.plain.varTypes Tryz.prog).any (Tryz.prog.mapsRec ·)) = true := by kernel_rfl
theorem closed9_15 : (Rows.shardNamesRow.ifaces == (Tryz.f9.params.toList ++ Rows.shardNamesSpec.plain.varTypes Tryz.prog).any (Tryz.prog.ifacesRec ·)) = true := by kernel_rfl
theorem closed9_16 : (Rows.shardNamesRow.mapsOut == Tryz.prog.mapsAmong Tryz.f9.resultTypes.toList) = true := by kernel_rfl
theorem closed9_17 : (Rows.shardNamesRow.loops == (Tryz.f9.params.toList ++ Rows.shardNamesSpec.plain.varTypes Tryz.prog).any (Tryz.prog.loopsFrom ·)) = true := by kernel_rfl
theorem closed9_18 : (Rows.shardNamesRow.wideKeys == (Tryz.f9.params.toList ++ Rows.shardNamesSpec.plain.varTypes Tryz.prog ++ Tryz.f9.resultTypes.toList).any (Tryz.prog.wideKeysFrom ·)) = true := by kernel_rfl
theorem closed9_19 : Rows.shardNamesSpec.vars.all (Tryz.prog.varReadable ·) = true := by kernel_rfl
theorem closed9_20 : Tryz.f9.resultTypes.all (fun t => Tryz.prog.readableRec t && decide (t < Tryz.prog.types.size)) = true := by kernel_rfl
theorem closed9_21 : (Rows.shardNamesRow.ifacesOut == Tryz.f9.resultTypes.toList.any (Tryz.prog.ifacesRec ·)) = true := by kernel_rfl
theorem closed9_22 : (Rows.shardNamesRow.loopsOut == Tryz.f9.resultTypes.toList.any (Tryz.prog.loopsFrom ·)) = true := by kernel_rfl
theorem closed9_23 : (Rows.shardNamesRow.plainKeys == Tryz.prog.plainKeys) = true := by kernel_rfl
theorem closed9_24 : Rows.shardNamesRow.shortTexts.isNone = true := by kernel_rfl
theorem closed9_27 : (Rows.shardNamesRow.lifted == Tryz.prog.liftsFinal) = true := by kernel_rfl
theorem closed9_28 : (Tryz.prog.make == some Rows.shardNamesRow.make) = true := by kernel_rfl
theorem closed9_29 : (Rows.shardNamesRow.kinds == (if Rows.shardNamesRow.domain.isEmpty then [] else Tryz.f9.params.toList.map fun t => match Tryz.prog.underlying t with | some (.int k) => some k | _ => none)) = true := by kernel_rfl
theorem closed9_30 : (Rows.shardNamesRow.pinned == Rows.shardNamesRow.pinnedBy) = true := by kernel_rfl
theorem closed9_31 : (Rows.shardNamesRow.veiled == (Tryz.f9.params.toList ++ Rows.shardNamesSpec.plain.varTypes Tryz.prog ++ Tryz.f9.resultTypes.toList).any (Tryz.prog.veiledRec ·)) = true := by kernel_rfl
theorem closed9_32 : Rows.shardNamesRow.veiledFits Tryz.prog Tryz.f9.params.toList (Tryz.f9.params.toList ++ Rows.shardNamesSpec.plain.varTypes Tryz.prog ++ Tryz.f9.resultTypes.toList) = true := by kernel_rfl
theorem closed9 : joinedFacts Tryz.prog 9 Tryz.f9 Rows.shardNamesSpec Rows.shardNamesRow = true :=
 Go.Ab.joined_of closed9_1 seat_2 seat_3 closed9_4 closed9_5 closed9_6 seat_7 closed9_8 seat_9 closed9_10 closed9_11 closed9_12 closed9_13 closed9_14 closed9_15 closed9_16 closed9_17 closed9_18 closed9_19 closed9_20 closed9_21 closed9_22 closed9_23 closed9_24 seat_25 seat_26 closed9_27 closed9_28 closed9_29 closed9_30 closed9_31 closed9_32
theorem card9_name : Tryz.prog.funcNamed Rows.shardNamesRow.func = some 9 := by kernel_rfl
theorem card9_goes : false = Rows.shardNamesRow.goesBy Tryz.pinned.checked.prog := by kernel_rfl
theorem card9_wf : Rows.shardNamesRow.wfByText (OpenSpec.ofChange Rows.shardNamesSpec) = true := by kernel_rfl
theorem card9_stand : ([79, 85, 3, 85, 3].all fun u => !Tryz.prog.wantsStandIn u) = true := by kernel_rfl
end Go.Proofs.YtafmabnolelknaaGreatDoor
