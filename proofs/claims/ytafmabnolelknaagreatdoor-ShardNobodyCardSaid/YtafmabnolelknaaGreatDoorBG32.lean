import Derived.Test.YtafmabnolelknaaGreatDoorBG31
import Derived.Test.YtafmabnolelknaaGreatDoorRows
import Derived.Test.YtafmabnolelknaaGreatDoorCards
import Derived.KernelRfl
namespace Go.Proofs.YtafmabnolelknaaGreatDoor
open Go
set_option maxRecDepth 100000
theorem seat_2 : laidOutB Tryz.prog = true := by kernel_rfl
theorem seat_3 : mapsRowed Tryz.prog = true := by kernel_rfl
theorem seat_7 : (Tryz.prog.stops == []) = true := by kernel_rfl
theorem seat_9 : (Tryz.prog.stopKnobs == []) = true := by kernel_rfl
theorem seat_25 : Tryz.prog.stopsHeard = true := by kernel_rfl
theorem seat_26 : Tryz.prog.mayEnter = true := by kernel_rfl
theorem card_main : Tryz.pinned.checked.prog.mainIs = some (true, "a135674dfacc129f112544c4b8fa39b787132e786b4bf04053af45495352e943".toList) := by kernel_rfl
theorem card_looks : false = Tryz.pinned.checked.prog.looks [] := by kernel_rfl
theorem own3 : ownKnob Tryz.prog.godebug = none := by kernel_rfl
theorem closed10_1 : Rows.shardNobodyRow.wf (OpenSpec.ofChange Rows.shardNobodySpec) = true := by kernel_rfl
theorem closed10_4 : Tryz.f10.params.all (Tryz.prog.readableRec ·) = true := by kernel_rfl
theorem closed10_5 : namedTie Tryz.prog Rows.shardNobodyRow.named Rows.shardNobodySpec.vars = true := by kernel_rfl
theorem closed10_6 : (Rows.shardNobodyRow.stops == []) = true := by kernel_rfl
theorem closed10_8 : (Rows.shardNobodyRow.knobs == []) = true := by kernel_rfl
theorem closed10_10 : (Rows.shardNobodyRow.inPlace == Tryz.prog.inPlace 10) = true := by kernel_rfl
theorem closed10_11 : (Rows.shardNobodyRow.unfollowed == Tryz.prog.unfollowed 10) = true := by kernel_rfl
theorem closed10_12 : (Rows.shardNobodyRow.recurses == Tryz.prog.recurses 10) = true := by kernel_rfl
theorem closed10_13 : (Rows.shardNobodyRow.named == Tryz.prog.varsNamed 10) = true := by kernel_rfl
theorem closed10_14 : (Rows.shardNobodyRow.maps == (Tryz.f10.params.toList ++ Rows.shardNobodySpec.plain.varTypes Tryz.prog).any (Tryz.prog.mapsRec ·)) = true := by kernel_rfl
theorem closed10_15 : (Rows.shardNobodyRow.ifaces == (Tryz.f10.params.toList ++ Rows.shardNobodySpec.plain.varTypes Tryz.prog).any (Tryz.prog.ifacesRec ·)) = true := by kernel_rfl
theorem closed10_16 : (Rows.shardNobodyRow.mapsOut == Tryz.prog.mapsAmong Tryz.f10.resultTypes.toList) = true := by kernel_rfl
theorem closed10_17 : (Rows.shardNobodyRow.loops == (Tryz.f10.params.toList ++ Rows.shardNobodySpec.plain.varTypes Tryz.prog).any (Tryz.prog.loopsFrom ·)) = true := by kernel_rfl
theorem closed10_18 : (Rows.shardNobodyRow.wideKeys == (Tryz.f10.params.toList ++ Rows.shardNobodySpec.plain.varTypes Tryz.prog ++ Tryz.f10.resultTypes.toList).any (Tryz.prog.wideKeysFrom ·)) = true := by kernel_rfl
theorem closed10_19 : Rows.shardNobodySpec.vars.all (Tryz.prog.varReadable ·) = true := by kernel_rfl
theorem closed10_20 : Tryz.f10.resultTypes.all (fun t => Tryz.prog.readableRec t && decide (t < Tryz.prog.types.size)) = true := by kernel_rfl
theorem closed10_21 : (Rows.shardNobodyRow.ifacesOut == Tryz.f10.resultTypes.toList.any (Tryz.prog.ifacesRec ·)) = true := by kernel_rfl
theorem closed10_22 : (Rows.shardNobodyRow.loopsOut == Tryz.f10.resultTypes.toList.any (Tryz.prog.loopsFrom ·)) = true := by kernel_rfl
theorem closed10_23 : (Rows.shardNobodyRow.plainKeys == Tryz.prog.plainKeys) = true := by kernel_rfl
theorem closed10_24 : Rows.shardNobodyRow.shortTexts.isNone = true := by kernel_rfl
theorem closed10_27 : (Rows.shardNobodyRow.lifted == Tryz.prog.liftsFinal) = true := by kernel_rfl
theorem closed10_28 : (Tryz.prog.make == some Rows.shardNobodyRow.make) = true := by kernel_rfl
theorem closed10_29 : (Rows.shardNobodyRow.kinds == (if Rows.shardNobodyRow.domain.isEmpty then [] else Tryz.f10.params.toList.map fun t => match Tryz.prog.underlying t with | some (.int k) => some k | _ => none)) = true := by kernel_rfl
theorem closed10_30 : (Rows.shardNobodyRow.pinned == Rows.shardNobodyRow.pinnedBy) = true := by kernel_rfl
theorem closed10_31 : (Rows.shardNobodyRow.veiled == (Tryz.f10.params.toList ++ Rows.shardNobodySpec.plain.varTypes Tryz.prog ++ Tryz.f10.resultTypes.toList).any (Tryz.prog.veiledRec ·)) = true := by kernel_rfl
theorem closed10_32 : Rows.shardNobodyRow.veiledFits Tryz.prog Tryz.f10.params.toList (Tryz.f10.params.toList ++ Rows.shardNobodySpec.plain.varTypes Tryz.prog ++ Tryz.f10.resultTypes.toList) = true := by kernel_rfl
theorem closed10 : joinedFacts Tryz.prog 10 Tryz.f10 Rows.shardNobodySpec Rows.shardNobodyRow = true :=
 Go.Ab.joined_of closed10_1 seat_2 seat_3 closed10_4 closed10_5 closed10_6 seat_7 closed10_8 seat_9 closed10_10 closed10_11 closed10_12 closed10_13 closed10_14 closed10_15 closed10_16 closed10_17 closed10_18 closed10_19 closed10_20 closed10_21 closed10_22 closed10_23 closed10_24 seat_25 seat_26 closed10_27 closed10_28 closed10_29 closed10_30 closed10_31 closed10_32
theorem card10_name : Tryz.prog.funcNamed Rows.shardNobodyRow.func = some 10 := by kernel_rfl
theorem card10_goes : false = Rows.shardNobodyRow.goesBy Tryz.pinned.checked.prog := by kernel_rfl
theorem card10_wf : Rows.shardNobodyRow.wfByText (OpenSpec.ofChange Rows.shardNobodySpec) = true := by kernel_rfl
theorem card10_stand : ([87].all fun u => !Tryz.prog.wantsStandIn u) = true := by kernel_rfl
end Go.Proofs.YtafmabnolelknaaGreatDoor
