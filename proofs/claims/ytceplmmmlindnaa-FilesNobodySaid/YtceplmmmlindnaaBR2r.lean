/- FilesNobody, run by the kernel. -/
import Derived.Test.YtceplmmmlindnaaBR2s
import Derived.Test.YtceplmmmlindnaaBEv8
namespace Go.Proofs.Ytceplmmmlindnaa
open Go.Ab
def ovF : Ovr := ovKS [(85, 122), (96, 125)] 84
set_option maxRecDepth 100000 in
theorem run9_0 (a b c u : Int) (s t : List UInt8) (d k : Option SL) : erun Try.prog slotsOf ovF 60 9 [.agg [.int .i64 a, .str s, .str t, .int .i64 b, .int .i64 c, .int .u32 u, .sl d, .sl k]] ⟨.e, 0⟩ isTrue = true := by kernel_rfl
set_option maxRecDepth 100000 in
theorem run9_1 (a b c u : Int) (s t : List UInt8) (d k : Option SL) : erun Try.prog slotsOf ovF 60 9 [.agg [.int .i64 a, .str s, .str t, .int .i64 b, .int .i64 c, .int .u32 u, .sl d, .sl k]] ⟨.n .dead .e .e, 1⟩ isTrue = true := by kernel_rfl
set_option maxRecDepth 100000 in
theorem run9_2 (a b c u : Int) (s t : List UInt8) (d k : Option SL) : erun Try.prog slotsOf ovF 60 9 [.agg [.int .i64 a, .str s, .str t, .int .i64 b, .int .i64 c, .int .u32 u, .sl d, .sl k]] ⟨.n .dead (.n .dead .e .e) .e, 2⟩ isTrue = true := by kernel_rfl
end Go.Proofs.Ytceplmmmlindnaa
