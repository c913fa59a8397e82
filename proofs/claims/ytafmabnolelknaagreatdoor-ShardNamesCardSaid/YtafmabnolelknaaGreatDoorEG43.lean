import Derived.Test.YtafmabnolelknaaGreatDoorEG23
import Derived.Test.YtafmabnolelknaaGreatDoorEG42
import Derived.Test.YtafmabnolelknaaGreatDoorRows
import Derived.Test.YtafmabnolelknaaGreatDoorTie
import Derived.Test.YtafmabnolelknaaGreatDoorCards
import Derived.ChangeSame
import Derived.ChangeVars
import Derived.JoinedOf
import Derived.RowKit
import Derived.RowKitTokens
import Derived.LaidLaws
import Derived.LaidMore
import Derived.Lay
import Derived.LaidOnce
import Derived.Stop.Joined
namespace Go.Proofs.YtafmabnolelknaaGreatDoor
open Go.Ab
open Go.ChangeShapes Go.WideShapes Go.ChangeAt Go.RowKit
set_option linter.unusedVariables false
set_option linter.unusedSimpArgs false
abbrev laidL : List (String × DataW Unit) := Rows.storeNobodyRow.laid
def nums (l : List AV) : List Int := l.map fun x => match x with | .int _ n => n | _ => 0
def laidN (i : Nat) : String := (Rows.storeNobodyRow.laid.map (·.1)).getD i ""
def laidT : List (String × DataW Unit) := [(laidN 0, .agg ((nums tab3).map fun n => .lit (.int .u8 n))), (laidN 1, .agg ((nums tab2).map fun n => .lit (.int .u8 n))), (laidN 2, .agg ((nums tab0).map fun n => .lit (.int .u64 n))), (laidN 3, .agg ((nums tab1).map fun n => .lit (.int .u32 n)))]
theorem laidL_T : laidL = laidT := by kernel_rfl
theorem tab0_T : tab0 = (nums tab0).map (.int .u64) := by kernel_rfl
theorem tab1_T : tab1 = (nums tab1).map (.int .u32) := by kernel_rfl
theorem tab2_T : tab2 = (nums tab2).map (.int .u8) := by kernel_rfl
theorem tab3_T : tab3 = (nums tab3).map (.int .u8) := by kernel_rfl
theorem laid_heap {W : World} (h : laidMet Tryz.prog laidL W) : ∃ μ : Ren, HRel μ (laidHs 0 gsAV) W := by
 rw [laidL_T] at h
 refine laid_all0 fun g c hm => ?_
 have r0 := Go.Lib.laidMet.reads h (n := laidN 2) (d := .agg ((nums tab0).map fun n => .lit (.int .u64 n))) (by simp [laidT])
 have r1 := Go.Lib.laidMet.reads h (n := laidN 3) (d := .agg ((nums tab1).map fun n => .lit (.int .u32 n))) (by simp [laidT])
 have r2 := Go.Lib.laidMet.reads h (n := laidN 0) (d := .agg ((nums tab3).map fun n => .lit (.int .u8 n))) (by simp [laidT])
 have r3 := Go.Lib.laidMet.reads h (n := laidN 1) (d := .agg ((nums tab2).map fun n => .lit (.int .u8 n))) (by simp [laidT])
 simp only [gsAV, List.mem_cons, Prod.mk.injEq, List.not_mem_nil, or_false] at hm
 rcases hm with ⟨rfl, rfl⟩ | ⟨rfl, rfl⟩ | ⟨rfl, rfl⟩ | ⟨rfl, rfl⟩
 ·obtain ⟨C, t, fz, k1, k2⟩ := laid_cells_v (gi := 1) (ty := 496) (e := 71) (n := 16) r1 (by kernel_rfl) (by kernel_rfl) (by kernel_rfl) (by kernel_rfl) (by kernel_rfl) (by kernel_rfl) (by kernel_rfl)
  exact ⟨_, _, C, t, fz, k1, k2, tab1_T⟩
 ·obtain ⟨C, t, fz, k1, k2⟩ := laid_cells_v (gi := 0) (ty := 466) (e := 383) (n := 20) r0 (by kernel_rfl) (by kernel_rfl) (by kernel_rfl) (by kernel_rfl) (by kernel_rfl) (by kernel_rfl) (by kernel_rfl)
  exact ⟨_, _, C, t, fz, k1, k2, tab0_T⟩
 ·obtain ⟨C, t, fz, k1, k2⟩ := laid_cells_v (gi := 2) (ty := 499) (e := 5) (n := 32) r2 (by kernel_rfl) (by kernel_rfl) (by kernel_rfl) (by kernel_rfl) (by kernel_rfl) (by kernel_rfl) (by kernel_rfl)
  exact ⟨_, _, C, t, fz, k1, k2, tab3_T⟩
 ·obtain ⟨C, t, fz, k1, k2⟩ := laid_cells_v (gi := 3) (ty := 174) (e := 5) (n := 64) r3 (by kernel_rfl) (by kernel_rfl) (by kernel_rfl) (by kernel_rfl) (by kernel_rfl) (by kernel_rfl) (by kernel_rfl)
  exact ⟨_, _, C, t, fz, k1, k2, tab2_T⟩
end Go.Proofs.YtafmabnolelknaaGreatDoor
