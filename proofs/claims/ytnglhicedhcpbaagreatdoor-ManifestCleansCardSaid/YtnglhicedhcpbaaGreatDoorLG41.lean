import Derived.Test.YtnglhicedhcpbaaGreatDoorLG40
import Derived.Test.YtnglhicedhcpbaaGreatDoorRows
import Derived.Test.YtnglhicedhcpbaaGreatDoorCards
import Derived.KernelRfl
namespace Go.Proofs.YtnglhicedhcpbaaGreatDoor
open Go
set_option maxRecDepth 100000
theorem seat_2 : laidOutB Tryz.prog = true := by kernel_rfl
theorem seat_3 : mapsRowed Tryz.prog = true := by kernel_rfl
theorem seat_7 : (Tryz.prog.stops == []) = true := by kernel_rfl
theorem seat_9 : (Tryz.prog.stopKnobs == []) = true := by kernel_rfl
theorem seat_25 : Tryz.prog.stopsHeard = true := by kernel_rfl
theorem seat_26 : Tryz.prog.mayEnter = true := by kernel_rfl
theorem zO9 : Tryz.pinned.checked.prog.mainIs = some (true, "167e363518a68182c5c761e88d2ab89c747fc052803a2d80bb731255294a9900".toList) := by kernel_rfl
theorem zMS : false = Tryz.pinned.checked.prog.looks [] := by kernel_rfl
theorem own3 : ownKnob Tryz.prog.godebug = none := by kernel_rfl
theorem zO5 : Rows.manifestCleansRow.wf (OpenSpec.ofChange Rows.manifestCleansSpec) = true := by kernel_rfl
theorem zO4 : Tryz.f5.params.all (Tryz.prog.readableRec ·) = true := by kernel_rfl
theorem zO3 : namedTie Tryz.prog Rows.manifestCleansRow.named Rows.manifestCleansSpec.vars = true := by kernel_rfl
theorem zO2 : (Rows.manifestCleansRow.stops == []) = true := by kernel_rfl
theorem zO1 : (Rows.manifestCleansRow.knobs == []) = true := by kernel_rfl
theorem zMQ : (Rows.manifestCleansRow.inPlace == Tryz.prog.inPlace 5) = true := by kernel_rfl
theorem zMP : (Rows.manifestCleansRow.unfollowed == Tryz.prog.unfollowed 5) = true := by kernel_rfl
theorem zMO : (Rows.manifestCleansRow.recurses == Tryz.prog.recurses 5) = true := by kernel_rfl
theorem zMN : (Rows.manifestCleansRow.named == Tryz.prog.varsNamed 5) = true := by kernel_rfl
theorem zMM : (Rows.manifestCleansRow.maps == (Tryz.f5.params.toList ++ Rows.manifestCleansSpec.plain.varTypes Tryz.prog).any (Tryz.prog.mapsRec ·)) = true := by kernel_rfl
theorem zML : (Rows.manifestCleansRow.ifaces == (Tryz.f5.params.toList ++ Rows.manifestCleansSpec.plain.varTypes Tryz.prog).any (Tryz.prog.ifacesRec ·)) = true := by kernel_rfl
theorem zMK : (Rows.manifestCleansRow.mapsOut == Tryz.prog.mapsAmong Tryz.f5.resultTypes.toList) = true := by kernel_rfl
theorem zMJ : (Rows.manifestCleansRow.loops == (Tryz.f5.params.toList ++ Rows.manifestCleansSpec.plain.varTypes Tryz.prog).any (Tryz.prog.loopsFrom ·)) = true := by kernel_rfl
theorem zMI : (Rows.manifestCleansRow.wideKeys == (Tryz.f5.params.toList ++ Rows.manifestCleansSpec.plain.varTypes Tryz.prog ++ Tryz.f5.resultTypes.toList).any (Tryz.prog.wideKeysFrom ·)) = true := by kernel_rfl
theorem zMH : Rows.manifestCleansSpec.vars.all (Tryz.prog.varReadable ·) = true := by kernel_rfl
theorem zMG : Tryz.f5.resultTypes.all (fun t => Tryz.prog.readableRec t && decide (t < Tryz.prog.types.size)) = true := by kernel_rfl
theorem zMF : (Rows.manifestCleansRow.ifacesOut == Tryz.f5.resultTypes.toList.any (Tryz.prog.ifacesRec ·)) = true := by kernel_rfl
theorem zME : (Rows.manifestCleansRow.loopsOut == Tryz.f5.resultTypes.toList.any (Tryz.prog.loopsFrom ·)) = true := by kernel_rfl
theorem zMD : (Rows.manifestCleansRow.plainKeys == Tryz.prog.plainKeys) = true := by kernel_rfl
theorem zMC : Rows.manifestCleansRow.shortTexts.isNone = true := by kernel_rfl
theorem zMB : (Rows.manifestCleansRow.lifted == Tryz.prog.liftsFinal) = true := by kernel_rfl
theorem zMA : (Tryz.prog.make == some Rows.manifestCleansRow.make) = true := by kernel_rfl
theorem zL9 : (Rows.manifestCleansRow.kinds == (if Rows.manifestCleansRow.domain.isEmpty then [] else Tryz.f5.params.toList.map fun t => match Tryz.prog.underlying t with | some (.int k) => some k | _ => none)) = true := by kernel_rfl
theorem zL8 : (Rows.manifestCleansRow.pinned == Rows.manifestCleansRow.pinnedBy) = true := by kernel_rfl
theorem zL7 : (Rows.manifestCleansRow.veiled == (Tryz.f5.params.toList ++ Rows.manifestCleansSpec.plain.varTypes Tryz.prog ++ Tryz.f5.resultTypes.toList).any (Tryz.prog.veiledRec ·)) = true := by kernel_rfl
theorem zL6 : Rows.manifestCleansRow.veiledFits Tryz.prog Tryz.f5.params.toList (Tryz.f5.params.toList ++ Rows.manifestCleansSpec.plain.varTypes Tryz.prog ++ Tryz.f5.resultTypes.toList) = true := by kernel_rfl
theorem closed5 : joinedFacts Tryz.prog 5 Tryz.f5 Rows.manifestCleansSpec Rows.manifestCleansRow = true :=
 Go.Ab.joined_of zO5 seat_2 seat_3 zO4 zO3 zO2 seat_7 zO1 seat_9 zMQ zMP zMO zMN zMM zML zMK zMJ zMI zMH zMG zMF zME zMD zMC seat_25 seat_26 zMB zMA zL9 zL8 zL7 zL6
theorem zFX : Tryz.prog.funcNamed Rows.manifestCleansRow.func = some 5 := by kernel_rfl
theorem zMT : false = Rows.manifestCleansRow.goesBy Tryz.pinned.checked.prog := by kernel_rfl
theorem zQY : Rows.manifestCleansRow.wfByText (OpenSpec.ofChange Rows.manifestCleansSpec) = true := by kernel_rfl
theorem zJQ : ([64].all fun u => !Tryz.prog.wantsStandIn u) = true := by kernel_rfl
end Go.Proofs.YtnglhicedhcpbaaGreatDoor
