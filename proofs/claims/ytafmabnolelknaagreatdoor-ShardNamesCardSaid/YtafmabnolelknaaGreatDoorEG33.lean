import Derived.Test.YtafmabnolelknaaGreatDoorEG10
import Derived.Test.YtafmabnolelknaaGreatDoorEG16
import Derived.Test.YtafmabnolelknaaGreatDoorEG21
import Derived.Test.YtafmabnolelknaaGreatDoorEG22
import Derived.Test.YtafmabnolelknaaGreatDoorEG29
import Derived.Test.YtafmabnolelknaaGreatDoorEG32
namespace Go.Proofs.YtafmabnolelknaaGreatDoor
open Go.Ab
open Go.Dsk hiding Bs
set_option linter.unusedVariables false
set_option linter.unusedSimpArgs false
inductive Role where
 | disk | map | pends | file | now (b : Nat) | safe (b : Nat)
deriving DecidableEq
abbrev Roles := Nat → Option Role
abbrev Ents := List (AV × AV × Nat)
end Go.Proofs.YtafmabnolelknaaGreatDoor













