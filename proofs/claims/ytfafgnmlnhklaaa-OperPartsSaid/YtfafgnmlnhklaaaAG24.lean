/- Bags that came in. -/
import Derived.Test.YtfafgnmlnhklaaaAG12
import Derived.Test.YtfafgnmlnhklaaaAG16
import Derived.Test.YtfafgnmlnhklaaaAG18
namespace Go.Proofs.Ytfafgnmlnhklaaa
open Go.Ab
open Go.ChangeShapes Go.WideShapes Go.ChangeAt Go.RowKit
set_option linter.unusedVariables false
set_option linter.unusedSimpArgs false

section
variable {H : Type} {enc : TypeId × Value → H} {W : World}
set_option maxRecDepth 100000 in
theorem rec_in (n : Nat) (cs' : List Value) (y : DataW H × List MemPlace) (h : DataW.trod enc Try.prog W 0 (fun _ => true) true n 26 cs' = some y) (hl : cs'.length = recE.sz) : ∃ a, ∀ μ, relL μ (recE.f a) cs' := by
  obtain ⟨y0, y1, n', _, _, h0, h1⟩ := trod_struct2 Try.underlying26 h
  match cs', hl with
  | [c0, c1], _ =>
    have h0 : DataW.trod enc Try.prog W 0 (fun _ => true) true n' 3 [c0] = some y0 := h0
    have h1 : DataW.trod enc Try.prog W 0 (fun _ => true) true n' 3 [c1] = some y1 := h1
    obtain ⟨a, e0, _, _⟩ := DataW.trod_int Try.underlying3 h0
    obtain ⟨b, e1, _, _⟩ := DataW.trod_int Try.underlying3 h1
    simp at e0 e1
    subst e0 e1
    exact ⟨(a, b), fun μ => ⟨_, _, rfl, rfl, _, _, rfl, rfl, rfl⟩⟩

set_option maxRecDepth 100000 in
/-- A bag that came in. -/
theorem bag_in {v : Value} {d : DataW H} {p : List MemPlace} {r : Reach} {base : Nat} (hv0 : Value.okWide Try.prog W r base 24 v) (h : DataW.Trod enc Try.prog W 0 (fun _ => true) true 24 v d p) {μ : Ren} {hp : Heap} (HH : HRel μ hp W) (ro : ReadOnly hp) :
    ∃ (l1 : Ren) (bs : Heap) (q : Option SL) (l : List Rec), HRel (μ ++ l1) (hp ++ bs) W ∧ ReadOnly (hp ++ bs) ∧ AV.rel (μ ++ l1) (.sl q) v ∧ HasL recE (hp ++ bs) q l := by
  have hv : Cell.okWide Try.prog W r base 24 v := by
    unfold Value.okWide at hv0
    rw [Try.underlying24] at hv0
    exact hv0
  obtain ⟨fuel, hf⟩ := h
  have hc : v.cells.toList = [v] := by
    rcases cell_slice Try.underlying24 hv with rfl | ⟨b, o, len, cap, rfl, _, _⟩ <;> simp [Value.cells]
  rw [hc] at hf
  exact slice_in recE Try.underlying24 (by kernel_rfl) rec_in hv hf HH ro
end

end Go.Proofs.Ytfafgnmlnhklaaa
