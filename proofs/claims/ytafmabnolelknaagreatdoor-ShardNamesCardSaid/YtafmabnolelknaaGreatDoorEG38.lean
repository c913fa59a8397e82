import Derived.Test.YtafmabnolelknaaGreatDoorEG22
import Derived.Test.YtafmabnolelknaaGreatDoorEG33
import Derived.Test.YtafmabnolelknaaGreatDoorEG35
import Derived.Test.YtafmabnolelknaaGreatDoorEG36
import Derived.Test.YtafmabnolelknaaGreatDoorEG37


namespace Go.Proofs.YtafmabnolelknaaGreatDoor
open Go.Ab
open Go.Num hiding Bs snoc_ind
open Go.Ent Go.Sto
open Go.Page hiding Bs get
open Go.Dsk hiding Bs
open Go.Pool hiding Bs Ents set_at Fr least
open Go.Cur
set_option linter.unusedVariables false
set_option linter.unusedSimpArgs false
structure GF where
 b : Nat
 nm : List UInt8
 base : Nat
 l : List Ent
structure Env where
 dp : Nat
 p : Nat
 fb : Nat
 mb : Nat
 ow : Roles
 gs : List GF
 P : PS
 N : Nat
 room : Nat
 F : Nat → Prop
end Go.Proofs.YtafmabnolelknaaGreatDoor
