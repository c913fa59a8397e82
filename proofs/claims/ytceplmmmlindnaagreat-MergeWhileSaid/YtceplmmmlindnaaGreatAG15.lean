/- The run that asks whether all lives. -/
import Derived.Test.YtceplmmmlindnaaGreatAG8
import Derived.Test.YtceplmmmlindnaaGreatAG9
import Derived.Test.YtceplmmmlindnaaGreatAG14
namespace Go.Proofs.YtceplmmmlindnaaGreat
open Go.Ab
set_option linter.unusedVariables false
set_option linter.unusedSimpArgs false
set_option maxRecDepth 100000 in
theorem run7 : erun Tryz.prog slotsOf (fun _ => none) 60 7 [] ⟨.e, 0⟩ isTrue = true := by kernel_rfl
end Go.Proofs.YtceplmmmlindnaaGreat
