import Derived.Test.YtnglhicedhcpbaaGreatDoorKG18
import Derived.Test.YtnglhicedhcpbaaGreatDoorKG19
import Derived.Test.YtnglhicedhcpbaaGreatDoorKG20
import Derived.Test.YtnglhicedhcpbaaGreatDoorKG21
import Derived.Test.YtnglhicedhcpbaaGreatDoorRows
import Derived.Test.YtnglhicedhcpbaaGreatDoorTie
import Derived.Test.YtnglhicedhcpbaaGreatDoorCards
import Derived.ChangeSame
import Derived.ChangeVars
import Derived.JoinedOf
import Derived.RowKit
import Derived.RowKitTokens
import Derived.LaidLaws
import Derived.LaidMore
import Derived.Lay
import Derived.LaidOnce
import Derived.Stop.Joined
namespace Go.Proofs.YtnglhicedhcpbaaGreatDoor
open Go.Ab hiding Bs
open Go.Ent
open Go.ChangeShapes Go.WideShapes Go.ChangeAt Go.RowKit
set_option linter.unusedVariables false
set_option linter.unusedSimpArgs false
abbrev halvesN : String := Rows.segmentBackRow.named.headD ""
abbrev laidL : List (String × DataW Unit) := [(halvesN, Rows.laid_oxbow_crc_halves)]
def laidT : List (String × DataW Unit) := [(halvesN, .agg ((Go.Crc.tbl.map fun n => ((n : Nat) : Int)).map fun n => .lit (.int .u32 n)))]
theorem laidL_T : laidL = laidT := by kernel_rfl
theorem tblAV_T : ((Go.Crc.tbl.map fun n => ((n : Nat) : Int)).map (AV.int .u32)) = tblAV := by kernel_rfl
theorem laid_heap {W : World} (h : laidMet Tryz.prog laidL W) : ∃ e0 e1 : ME, HRel [e0, e1] (laidH 0 tblAV) W := by
  rw [laidL_T] at h
  obtain ⟨C, t, fz, h1, h2⟩ := laid_cells (tbl := Go.Crc.tbl.map fun n => ((n : Nat) : Int)) h (by kernel_rfl) (by kernel_rfl) (n := 16) (e := 113) (ty := 355) (by kernel_rfl) (by kernel_rfl) (by kernel_rfl) (by kernel_rfl) (by kernel_rfl)
  have := hrel_of_laid h1 h2
  rw [tblAV_T] at this
  exact ⟨_, _, this⟩
end Go.Proofs.YtnglhicedhcpbaaGreatDoor
