/- The run that asks whether a cursor that is nil is so, any entry given. -/
import Derived.Test.YtnmbpghijbmhbaaGreatDoorAG12
import Derived.Test.YtnmbpghijbmhbaaGreatDoorAG13
import Derived.Test.YtnmbpghijbmhbaaGreatDoorAG15
import Derived.Test.YtnmbpghijbmhbaaGreatDoorAG16
namespace Go.Proofs.YtnmbpghijbmhbaaGreatDoor
open Go.Ab
set_option linter.unusedVariables false
set_option linter.unusedSimpArgs false
/-- The program's one variable, laid. -/
def tblAV : List AV := Go.Crc.tbl.map fun n => .int .u32 (n : Nat)
abbrev ovF : Ovr := ovKS [(164, 220)] 163
set_option maxRecDepth 100000 in
theorem runw6 (a b c d : Int) : wlaid Tryz.prog slotsOf ovF 60 1 tblAV 6 [.agg [.int .i64 a, .int .i64 b, .int .i64 c, .int .i64 d]] isTrue = true := by kernel_rfl
end Go.Proofs.YtnmbpghijbmhbaaGreatDoor
