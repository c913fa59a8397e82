import Derived.Test.YtafmabnolelknaaGreatDoorEG9
import Derived.Test.YtafmabnolelknaaGreatDoorEG10
import Derived.Test.YtafmabnolelknaaGreatDoorProg
import Derived.KernelRfl
namespace Go.Proofs
open Go.Ab
set_option maxRecDepth 100000
set_option linter.unusedVariables false
def vc85 (p1 : Option PA) (q2 : Option SL) (n3 : Int) (n4 : Int) (n5 : Int) (n6 : Int) (v7 : AV) (h : Heap) (Q : AV → Heap → Prop) : Prop :=
 AC Tryz.prog 149 [.ptr p1, .agg [.int .i64 n3, .int .i64 n4, .int .i64 n5, .int .i64 n6]] h fun v8 h9 => ∃ q10 : Option SL, ∃ n11 : Int, v8 = .tup [.sl q10, .int .i64 n11] ∧
 vif (n11 != 0)
 (Q (.tup [.sl none, .int .i64 n11]) h9)
 (PNew [.sl q2] true h9 fun a12 h13 =>
 AC Tryz.prog 150 [.sl (some ⟨a12, 0, 1, 1, 0⟩), .sl q10] h13 fun v14 h15 => ∃ p16 : Option PA, ∃ n17 : Int, v14 = .tup [.ptr p16, .int .i64 n17] ∧
 vif (n17 != 0)
 (Q (.tup [.sl none, .int .i64 n17]) h15)
 (AC Tryz.prog 152 [.ptr p16, v7] h15 fun v18 h19 => ∃ q20 : Option SL, ∃ n21 : Int, v18 = .tup [.sl q20, .int .i64 n21] ∧
 ACD Tryz.prog 151 [.ptr p16] h19 fun _ h22 =>
 Q (.tup [.sl q20, .int .i64 n21]) h22))
theorem ac85 {p1 : Option PA} {q2 : Option SL} {n3 : Int} {n4 : Int} {n5 : Int} {n6 : Int} {v7 : AV} {h : Heap} {Q : AV → Heap → Prop} (hk : vc85 p1 q2 n3 n4 n5 n6 v7 h Q) : AC Tryz.prog 85 [.ptr p1, .sl q2, .agg [.int .i64 n3, .int .i64 n4, .int .i64 n5, .int .i64 n6], v7] h Q :=
 AC_byD (n := 5) (H := hintsOf [6] []) (by kernel_rfl) (by kernel_rfl) hk
end Go.Proofs
