import Derived.Test.YtankijamfedliaaGreatDoorFG13
import Derived.Test.YtankijamfedliaaGreatDoorFG17
import Derived.Test.YtankijamfedliaaGreatDoorFG19
import Derived.Test.YtankijamfedliaaGreatDoorFG20
import Derived.Test.YtankijamfedliaaGreatDoorRows
import Derived.Test.YtankijamfedliaaGreatDoorTie
import Derived.Test.YtankijamfedliaaGreatDoorCards
import Derived.ChangeSame
import Derived.ChangeVars
import Derived.JoinedOf
import Derived.RowKit
import Derived.RowKitTokens
import Derived.LaidLaws
import Derived.LaidMore
import Derived.Lay
import Derived.LaidOnce
import Derived.Stop.Joined
namespace Go.Proofs.YtankijamfedliaaGreatDoor
open Go.Ab hiding Bs
open Go.Ent
open Go.ChangeShapes Go.WideShapes Go.ChangeAt Go.RowKit
set_option linter.unusedVariables false
set_option linter.unusedSimpArgs false
abbrev halvesN : String := Rows.cursorTellsRow.named.headD ""
abbrev laidL : List (String × DataW Unit) := [(halvesN, Rows.laid_oxbow_crc_halves)]
def laidT : List (String × DataW Unit) := [(halvesN, .agg ((Go.Crc.tbl.map fun n => ((n : Nat) : Int)).map fun n => .lit (.int .u32 n)))]
theorem laidL_T : laidL = laidT := by kernel_rfl
theorem tblAV_T : ((Go.Crc.tbl.map fun n => ((n : Nat) : Int)).map (AV.int .u32)) = tblAV := by kernel_rfl
theorem laid_heap {W : World} (h : laidMet Tryz.prog laidL W) : ∃ e0 e1 : ME, HRel [e0, e1] (laidH 0 tblAV) W := by
 rw [laidL_T] at h
 obtain ⟨C, t, fz, h1, h2⟩ := laid_cells (tbl := Go.Crc.tbl.map fun n => ((n : Nat) : Int)) h (by kernel_rfl) (by kernel_rfl) (n := 16) (e := 53) (ty := 232) (by kernel_rfl) (by kernel_rfl) (by kernel_rfl) (by kernel_rfl) (by kernel_rfl)
 have := hrel_of_laid h1 h2
 rw [tblAV_T] at this
 exact ⟨_, _, this⟩
theorem u32_nat {n : Int} (h : (Lit.int .u32 n).wf = true) : ∃ t : Nat, n = ((t : Nat) : Int) ∧ t < 2 ^ 32 := by
 have e1 : IntKind.min .u32 = 0 := rfl
 have e2 : IntKind.max .u32 = 4294967295 := rfl
 simp only [Lit.wf, Bool.and_eq_true, decide_eq_true_eq, e1, e2] at h
 exact ⟨n.toNat, by omega, by omega⟩
theorem laidH_Laid {t : Heap} : Laid (laidH 0 tblAV ++ t) := ⟨rfl, rfl⟩
section
variable {H : Type} {enc : TypeId × Value → H} {W : World}
set_option maxRecDepth 100000 in
theorem ent_in (n : Nat) (cs' : List Value) (y : DataW H × List MemPlace) (h : DataW.trod enc Tryz.prog W 0 (fun _ => true) true n 28 cs' = some y) (hl : cs'.length = entE.sz) : ∃ a, ∀ μ, relL μ (entE.f a) cs' := by
 obtain ⟨y0, y1, n', _, _, h0, h1⟩ := trod_struct2 Tryz.underlying28 h
 match cs', hl with
 | [c0, c1, c2, c3], _ =>
  have h0 : DataW.trod enc Tryz.prog W 0 (fun _ => true) true n' 24 [c0, c1] = some y0 := h0
  have h1 : DataW.trod enc Tryz.prog W 0 (fun _ => true) true n' 26 [c2, c3] = some y1 := h1
  obtain ⟨z0, z1, n2, _, _, g0, g1⟩ := trod_struct2 Tryz.underlying24 h0
  obtain ⟨z2, z3, n3, _, _, g2, g3⟩ := trod_struct2 Tryz.underlying26 h1
  have g0 : DataW.trod enc Tryz.prog W 0 (fun _ => true) true n2 3 [c0] = some z0 := g0
  have g1 : DataW.trod enc Tryz.prog W 0 (fun _ => true) true n2 3 [c1] = some z1 := g1
  have g2 : DataW.trod enc Tryz.prog W 0 (fun _ => true) true n3 3 [c2] = some z2 := g2
  have g3 : DataW.trod enc Tryz.prog W 0 (fun _ => true) true n3 3 [c3] = some z3 := g3
  obtain ⟨a, e0, _, _⟩ := DataW.trod_int Tryz.underlying3 g0
  obtain ⟨b, e1, _, _⟩ := DataW.trod_int Tryz.underlying3 g1
  obtain ⟨c, e2, _, _⟩ := DataW.trod_int Tryz.underlying3 g2
  obtain ⟨d, e3, _, _⟩ := DataW.trod_int Tryz.underlying3 g3
  simp at e0 e1 e2 e3
  subst e0 e1 e2 e3
  exact ⟨(a, b, c, d), fun μ => ⟨_, _, rfl, rfl, _, _, rfl, rfl, _, _, rfl, rfl, _, _, rfl, rfl, rfl⟩⟩
set_option maxRecDepth 100000 in
theorem okc22 {v : Value} {r : Reach} {base : Nat} (hv0 : Value.okWide Tryz.prog W r base 22 v) : Cell.okWide Tryz.prog W r base 22 v := by
 unfold Value.okWide at hv0
 rw [Tryz.underlying22] at hv0
 exact hv0
end
end Go.Proofs.YtankijamfedliaaGreatDoor
