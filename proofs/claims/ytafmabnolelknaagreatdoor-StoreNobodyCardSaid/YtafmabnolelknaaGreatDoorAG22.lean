import Derived.Test.YtafmabnolelknaaGreatDoorAG20
import Derived.Test.YtafmabnolelknaaGreatDoorAG21
import Derived.Test.YtafmabnolelknaaGreatDoorRows
import Derived.Test.YtafmabnolelknaaGreatDoorTie
import Derived.Test.YtafmabnolelknaaGreatDoorCards
import Derived.ChangeSame
import Derived.ChangeVars
import Derived.JoinedOf
import Derived.RowKit
import Derived.RowKitTokens
import Derived.LaidLaws
import Derived.LaidMore
import Derived.Lay
import Derived.LaidOnce
import Derived.Stop.Joined
namespace Go.Proofs.YtafmabnolelknaaGreatDoor
open Go.Ab
open Go.ChangeShapes Go.WideShapes Go.ChangeAt Go.RowKit
set_option linter.unusedVariables false
set_option linter.unusedSimpArgs false
abbrev laidL : List (String × DataW Unit) := Rows.storeNobodyRow.laid
def nums (l : List AV) : List Int := l.map fun x => match x with | .int _ n => n | _ => 0
def laidN (i : Nat) : String := (Rows.storeNobodyRow.laid.map (·.1)).getD i ""
def laidT : List (String × DataW Unit) := [(laidN 0, .agg ((nums tab3).map fun n => .lit (.int .u8 n))), (laidN 1, .agg ((nums tab2).map fun n => .lit (.int .u8 n))), (laidN 2, .agg ((nums tab0).map fun n => .lit (.int .u64 n))), (laidN 3, .agg ((nums tab1).map fun n => .lit (.int .u32 n)))]
theorem laidL_T : laidL = laidT := by kernel_rfl
theorem tab0_T : tab0 = (nums tab0).map (.int .u64) := by kernel_rfl
theorem tab1_T : tab1 = (nums tab1).map (.int .u32) := by kernel_rfl
theorem tab2_T : tab2 = (nums tab2).map (.int .u8) := by kernel_rfl
theorem tab3_T : tab3 = (nums tab3).map (.int .u8) := by kernel_rfl
theorem laid_heap {W : World} (h : laidMet Tryz.prog laidL W) : ∃ μ : Ren, HRel μ (laidHs 0 gsAV) W := by
  rw [laidL_T] at h
  refine laid_all0 fun g c hm => ?_
  have r0 := Go.Lib.laidMet.reads h (n := laidN 2) (d := .agg ((nums tab0).map fun n => .lit (.int .u64 n))) (by simp [laidT])
  have r1 := Go.Lib.laidMet.reads h (n := laidN 3) (d := .agg ((nums tab1).map fun n => .lit (.int .u32 n))) (by simp [laidT])
  have r2 := Go.Lib.laidMet.reads h (n := laidN 0) (d := .agg ((nums tab3).map fun n => .lit (.int .u8 n))) (by simp [laidT])
  have r3 := Go.Lib.laidMet.reads h (n := laidN 1) (d := .agg ((nums tab2).map fun n => .lit (.int .u8 n))) (by simp [laidT])
  simp only [gsAV, List.mem_cons, Prod.mk.injEq, List.not_mem_nil, or_false] at hm
  rcases hm with ⟨rfl, rfl⟩ | ⟨rfl, rfl⟩ | ⟨rfl, rfl⟩ | ⟨rfl, rfl⟩
  · obtain ⟨C, t, fz, k1, k2⟩ := laid_cells_v (gi := 0) (ty := 466) (e := 383) (n := 20) r0 (by kernel_rfl) (by kernel_rfl) (by kernel_rfl) (by kernel_rfl) (by kernel_rfl) (by kernel_rfl) (by kernel_rfl)
    exact ⟨_, _, C, t, fz, k1, k2, tab0_T⟩
  · obtain ⟨C, t, fz, k1, k2⟩ := laid_cells_v (gi := 1) (ty := 496) (e := 71) (n := 16) r1 (by kernel_rfl) (by kernel_rfl) (by kernel_rfl) (by kernel_rfl) (by kernel_rfl) (by kernel_rfl) (by kernel_rfl)
    exact ⟨_, _, C, t, fz, k1, k2, tab1_T⟩
  · obtain ⟨C, t, fz, k1, k2⟩ := laid_cells_v (gi := 2) (ty := 499) (e := 5) (n := 32) r2 (by kernel_rfl) (by kernel_rfl) (by kernel_rfl) (by kernel_rfl) (by kernel_rfl) (by kernel_rfl) (by kernel_rfl)
    exact ⟨_, _, C, t, fz, k1, k2, tab3_T⟩
  · obtain ⟨C, t, fz, k1, k2⟩ := laid_cells_v (gi := 3) (ty := 174) (e := 5) (n := 64) r3 (by kernel_rfl) (by kernel_rfl) (by kernel_rfl) (by kernel_rfl) (by kernel_rfl) (by kernel_rfl) (by kernel_rfl)
    exact ⟨_, _, C, t, fz, k1, k2, tab2_T⟩
set_option maxRecDepth 100000 in
theorem op_dead {W : World} {base n : Nat} {r : Reach} {v : Value} (hv : Value.okWide Tryz.prog W r base 36 v) : ∃ (l : List ME) (a b c d e g : Int) (q q' : Option SL), (∀ x ∈ l, x.r < W.heap.size) ∧
    ∀ μ : Ren, μ.length = n → AV.rel (μ ++ l) (.agg [.int .i64 a, .int .i64 b, .int .i64 c, .int .i64 d, .int .i64 e, .sl q, .int .i64 g, .sl q']) v := by
  obtain ⟨cs, rfl, hl, hc⟩ := row_cells (ts := [3, 3, 3, 3, 3, 33, 3, 34]) Tryz.underlying36 (.inl ⟨_, rfl⟩) hv (by kernel_rfl) (by kernel_rfl)
  obtain ⟨x0, g0, h0⟩ := hc 0 3 rfl
  obtain ⟨x1, g1, h1⟩ := hc 1 3 rfl
  obtain ⟨x2, g2, h2⟩ := hc 2 3 rfl
  obtain ⟨x3, g3, h3⟩ := hc 3 3 rfl
  obtain ⟨x4, g4, h4⟩ := hc 4 3 rfl
  obtain ⟨x5, g5, h5⟩ := hc 5 33 rfl
  obtain ⟨x6, g6, h6⟩ := hc 6 3 rfl
  obtain ⟨x7, g7, h7⟩ := hc 7 34 rfl
  obtain rfl : cs = [x0, x1, x2, x3, x4, x5, x6, x7] := by
    match cs, hl with
    | [y0, y1, y2, y3, y4, y5, y6, y7], _ => simp at g0 g1 g2 g3 g4 g5 g6 g7; simp_all
  obtain ⟨a, rfl⟩ := cell_int Tryz.underlying3 h0
  obtain ⟨b, rfl⟩ := cell_int Tryz.underlying3 h1
  obtain ⟨c, rfl⟩ := cell_int Tryz.underlying3 h2
  obtain ⟨d, rfl⟩ := cell_int Tryz.underlying3 h3
  obtain ⟨e, rfl⟩ := cell_int Tryz.underlying3 h4
  obtain ⟨g, rfl⟩ := cell_int Tryz.underlying3 h6
  obtain ⟨q, l1, hl1, hb1, hd⟩ := dead_slice Tryz.underlying33 h5 n
  obtain ⟨q', l2, hl2, hb2, hk⟩ := dead_slice Tryz.underlying34 h7 (n + l1.length)
  refine ⟨l1 ++ l2, a, b, c, d, e, g, q, q', ?_, fun μ hμ => ?_⟩
  · intro e he
    rcases List.mem_append.1 he with he | he
    · exact hb1 e he
    · exact hb2 e he
  · have hd' := hd μ hμ (μ ++ (l1 ++ l2)) (by rw [← List.append_assoc]; exact Ren.le_append _ l2)
    have hk' := hk (μ ++ l1) (by rw [List.length_append, hμ]) (μ ++ (l1 ++ l2)) (by rw [← List.append_assoc]; exact Ren.le.refl _)
    exact ⟨_, rfl, _, _, rfl, rfl, _, _, rfl, rfl, _, _, rfl, rfl, _, _, rfl, rfl, _, _, rfl, rfl, _, _, rfl, hd', _, _, rfl, rfl, _, _, rfl, hk', rfl⟩
end Go.Proofs.YtafmabnolelknaaGreatDoor
