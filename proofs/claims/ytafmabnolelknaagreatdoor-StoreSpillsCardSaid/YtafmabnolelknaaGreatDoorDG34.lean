import Derived.Test.YtafmabnolelknaaGreatDoorDG13
import Derived.Test.YtafmabnolelknaaGreatDoorRows
namespace Go.Proofs.YtafmabnolelknaaGreatDoor
open Go.Ab
set_option linter.unusedVariables false
theorem own:ownKnob Tryz.prog.godebug=none:=by kernel_rfl
end Go.Proofs.YtafmabnolelknaaGreatDoor
