import Derived.Test.YtnglhicedhcpbaaGreatDoorLG19
import Derived.Test.YtnglhicedhcpbaaGreatDoorLG20
import Derived.Test.YtnglhicedhcpbaaGreatDoorLG21
import Derived.Test.YtnglhicedhcpbaaGreatDoorLG22
import Derived.Test.YtnglhicedhcpbaaGreatDoorRows
import Derived.Test.YtnglhicedhcpbaaGreatDoorTie
import Derived.Test.YtnglhicedhcpbaaGreatDoorCards
import Derived.ChangeSame
import Derived.ChangeVars
import Derived.JoinedOf
import Derived.RowKit
import Derived.RowKitTokens
import Derived.LaidLaws
import Derived.LaidMore
import Derived.Lay
import Derived.LaidOnce
import Derived.Stop.Joined
namespace Go.Proofs.YtnglhicedhcpbaaGreatDoor
open Go.Ab hiding Bs
open Go.Ent
open Go.ChangeShapes Go.WideShapes Go.ChangeAt Go.RowKit
set_option linter.unusedVariables false
set_option linter.unusedSimpArgs false
abbrev zOH : String := Rows.segmentBackRow.named.headD ""
abbrev zJD : List (String × DataW Unit) := [(zOH, Rows.laid_oxbow_crc_halves)]
def laidT : List (String × DataW Unit) := [(zOH, .agg ((Go.Crc.tbl.map fun n => ((n : Nat) : Int)).map fun n => .lit (.int .u32 n)))]
theorem laidL_T : zJD = laidT := by kernel_rfl
theorem tblAV_T : ((Go.Crc.tbl.map fun n => ((n : Nat) : Int)).map (AV.int .u32)) = zM8 := by kernel_rfl
theorem zN7 {W : World} (h : laidMet Tryz.prog zJD W) : ∃ e0 e1 : ME, HRel [e0, e1] (laidH 0 zM8) W := by
 rw [laidL_T] at h
 obtain ⟨C, t, fz, h1, h2⟩ := zLV (tbl := Go.Crc.tbl.map fun n => ((n : Nat) : Int)) h (by kernel_rfl) (by kernel_rfl) (n := 16) (e := 113) (ty := 355) (by kernel_rfl) (by kernel_rfl) (by kernel_rfl) (by kernel_rfl) (by kernel_rfl)
 have := zH5 h1 h2
 rw [tblAV_T] at this
 exact ⟨_, _, this⟩
end Go.Proofs.YtnglhicedhcpbaaGreatDoor
