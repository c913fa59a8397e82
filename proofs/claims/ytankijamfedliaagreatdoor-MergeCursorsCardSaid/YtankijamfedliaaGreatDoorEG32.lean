import Derived.Test.YtankijamfedliaaGreatDoorEG13
import Derived.Test.YtankijamfedliaaGreatDoorEG17
import Derived.Test.YtankijamfedliaaGreatDoorEG19
import Derived.Test.YtankijamfedliaaGreatDoorEG20
import Derived.Test.YtankijamfedliaaGreatDoorRows
import Derived.Test.YtankijamfedliaaGreatDoorTie
import Derived.Test.YtankijamfedliaaGreatDoorCards
import Derived.ChangeSame
import Derived.ChangeVars
import Derived.JoinedOf
import Derived.RowKit
import Derived.RowKitTokens
import Derived.LaidLaws
import Derived.LaidMore
import Derived.Lay
import Derived.LaidOnce
import Derived.Stop.Joined
namespace Go.Proofs.YtankijamfedliaaGreatDoor
open Go.Ab hiding Bs
open Go.Ent
open Go.ChangeShapes Go.WideShapes Go.ChangeAt Go.RowKit
set_option linter.unusedVariables false
set_option linter.unusedSimpArgs false
abbrev halvesN : String := Rows.cursorTellsRow.named.headD ""
abbrev laidL : List (String × DataW Unit) := [(halvesN, Rows.laid_oxbow_crc_halves)]
def laidT : List (String × DataW Unit) := [(halvesN, .agg ((Go.Crc.tbl.map fun n => ((n : Nat) : Int)).map fun n => .lit (.int .u32 n)))]
theorem laidL_T : laidL = laidT := by kernel_rfl
theorem tblAV_T : ((Go.Crc.tbl.map fun n => ((n : Nat) : Int)).map (AV.int .u32)) = tblAV := by kernel_rfl
theorem laid_heap {W : World} (h : laidMet Tryz.prog laidL W) : ∃ e0 e1 : ME, HRel [e0, e1] (laidH 0 tblAV) W := by
  rw [laidL_T] at h
  obtain ⟨C, t, fz, h1, h2⟩ := laid_cells (tbl := Go.Crc.tbl.map fun n => ((n : Nat) : Int)) h (by kernel_rfl) (by kernel_rfl) (n := 16) (e := 53) (ty := 232) (by kernel_rfl) (by kernel_rfl) (by kernel_rfl) (by kernel_rfl) (by kernel_rfl)
  have := hrel_of_laid h1 h2
  rw [tblAV_T] at this
  exact ⟨_, _, this⟩
theorem laidH_Laid {t : Heap} : Laid (laidH 0 tblAV ++ t) := ⟨rfl, rfl⟩
set_option maxRecDepth 100000 in
theorem four_cells {W : World} {base : Nat} {r : Reach} {v : Value} (hv : Value.okWide Tryz.prog W r base 28 v) : ∃ a b c d : Int, v = .agg #[.int .i64 a, .int .i64 b, .int .i64 c, .int .i64 d] := by
  obtain ⟨cs, rfl, hl, hc⟩ := row_cells (ts := [3, 3, 3, 3]) Tryz.underlying28 (.inl ⟨_, rfl⟩) hv (by kernel_rfl) (by kernel_rfl)
  obtain ⟨x0, g0, h0⟩ := hc 0 3 rfl
  obtain ⟨x1, g1, h1⟩ := hc 1 3 rfl
  obtain ⟨x2, g2, h2⟩ := hc 2 3 rfl
  obtain ⟨x3, g3, h3⟩ := hc 3 3 rfl
  obtain rfl : cs = [x0, x1, x2, x3] := by
    match cs, hl with
    | [y0, y1, y2, y3], _ => simp at g0 g1 g2 g3; simp_all
  obtain ⟨a, rfl⟩ := cell_int Tryz.underlying3 h0
  obtain ⟨b, rfl⟩ := cell_int Tryz.underlying3 h1
  obtain ⟨c, rfl⟩ := cell_int Tryz.underlying3 h2
  obtain ⟨d, rfl⟩ := cell_int Tryz.underlying3 h3
  exact ⟨a, b, c, d, rfl⟩
section
variable {H : Type} {enc : TypeId × Value → H} {W : World}
set_option maxRecDepth 100000 in
theorem ent_in (n : Nat) (cs' : List Value) (y : DataW H × List MemPlace) (h : DataW.trod enc Tryz.prog W 0 (fun _ => true) true n 28 cs' = some y) (hl : cs'.length = entE.sz) : ∃ a, ∀ μ, relL μ (entE.f a) cs' := by
  obtain ⟨y0, y1, n', _, _, h0, h1⟩ := trod_struct2 Tryz.underlying28 h
  match cs', hl with
  | [c0, c1, c2, c3], _ =>
    have h0 : DataW.trod enc Tryz.prog W 0 (fun _ => true) true n' 24 [c0, c1] = some y0 := h0
    have h1 : DataW.trod enc Tryz.prog W 0 (fun _ => true) true n' 26 [c2, c3] = some y1 := h1
    obtain ⟨z0, z1, n2, _, _, g0, g1⟩ := trod_struct2 Tryz.underlying24 h0
    obtain ⟨z2, z3, n3, _, _, g2, g3⟩ := trod_struct2 Tryz.underlying26 h1
    have g0 : DataW.trod enc Tryz.prog W 0 (fun _ => true) true n2 3 [c0] = some z0 := g0
    have g1 : DataW.trod enc Tryz.prog W 0 (fun _ => true) true n2 3 [c1] = some z1 := g1
    have g2 : DataW.trod enc Tryz.prog W 0 (fun _ => true) true n3 3 [c2] = some z2 := g2
    have g3 : DataW.trod enc Tryz.prog W 0 (fun _ => true) true n3 3 [c3] = some z3 := g3
    obtain ⟨a, e0, _, _⟩ := DataW.trod_int Tryz.underlying3 g0
    obtain ⟨b, e1, _, _⟩ := DataW.trod_int Tryz.underlying3 g1
    obtain ⟨c, e2, _, _⟩ := DataW.trod_int Tryz.underlying3 g2
    obtain ⟨d, e3, _, _⟩ := DataW.trod_int Tryz.underlying3 g3
    simp at e0 e1 e2 e3
    subst e0 e1 e2 e3
    exact ⟨(a, b, c, d), fun μ => ⟨_, _, rfl, rfl, _, _, rfl, rfl, _, _, rfl, rfl, _, _, rfl, rfl, rfl⟩⟩
set_option maxRecDepth 100000 in
theorem okc22 {v : Value} {r : Reach} {base : Nat} (hv0 : Value.okWide Tryz.prog W r base 22 v) : Cell.okWide Tryz.prog W r base 22 v := by
  unfold Value.okWide at hv0
  rw [Tryz.underlying22] at hv0
  exact hv0
end
end Go.Proofs.YtankijamfedliaaGreatDoor
