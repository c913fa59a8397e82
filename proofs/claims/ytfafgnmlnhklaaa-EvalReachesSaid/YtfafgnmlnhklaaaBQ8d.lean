/- EvalReaches answers yes for all edges and every start. -/
import Derived.Test.YtfafgnmlnhklaaaBG13
import Derived.Test.YtfafgnmlnhklaaaBG25
namespace Go.Proofs.Ytfafgnmlnhklaaa
open Go.Ab
open Go.ChangeShapes Go.WideShapes Go.ChangeAt Go.RowKit
set_option linter.unusedVariables false
set_option linter.unusedSimpArgs false

section
variable {H : Type} {enc : TypeId × Value → H} {W : World}
set_option maxRecDepth 100000 in
theorem int_inQ (n : Nat) (cs' : List Value) (y : DataW H × List MemPlace) (h : DataW.trod enc Try.prog W 0 (fun _ => true) true n 3 cs' = some y) (hl : cs'.length = intE.sz) : ∃ a, ∀ μ, relL μ (intE.f a) cs' := by
  match cs', hl with
  | [c0], _ =>
    obtain ⟨a, e0, _, _⟩ := DataW.trod_int Try.underlying3 h
    simp at e0
    subst e0
    exact ⟨a, fun μ => ⟨_, _, rfl, rfl, rfl⟩⟩
set_option maxRecDepth 100000 in
theorem ints_inQ {v : Value} {d : DataW H} {p : List MemPlace} {r : Reach} {base : Nat} (hv0 : Value.okWide Try.prog W r base 22 v) (h : DataW.Trod enc Try.prog W 0 (fun _ => true) true 22 v d p) {μ : Ren} {hp : Heap} (HH : HRel μ hp W) (ro : ReadOnly hp) :
    ∃ (l1 : Ren) (bs : Heap) (q : Option SL) (l : List Int), HRel (μ ++ l1) (hp ++ bs) W ∧ ReadOnly (hp ++ bs) ∧ AV.rel (μ ++ l1) (.sl q) v ∧ HasL intE (hp ++ bs) q l := by
  have hv : Cell.okWide Try.prog W r base 22 v := by
    unfold Value.okWide at hv0
    rw [Try.underlying22] at hv0
    exact hv0
  obtain ⟨fuel, hf⟩ := h
  have hc : v.cells.toList = [v] := by
    rcases cell_slice Try.underlying22 hv with rfl | ⟨b, o, len, cap, rfl, _, _⟩ <;> simp [Value.cells]
  rw [hc] at hf
  exact slice_in intE Try.underlying22 (by kernel_rfl) int_inQ hv hf HH ro
set_option maxRecDepth 100000 in
theorem int_valQ {v : Value} {r : Reach} {base : Nat} (hv0 : Value.okWide Try.prog W r base 3 v) : ∃ n, v = .int .i64 n := by
  unfold Value.okWide at hv0
  rw [Try.underlying3] at hv0
  exact cell_int Try.underlying3 hv0
end

set_option maxRecDepth 100000 in
theorem evalReaches_lifted (os : Os) (started : os.Started) (H : Type) (enc : TypeId × Value → H) :
    ReturnsInHanded {} Try.checked os 3 .any (Rows.evalReachesSpec.pre6 enc Try.prog Try.f3 Rows.evalReachesRow.domain false) (Rows.evalReachesSpec.post enc Try.prog Try.f3 false true false false) := by
  refine returnsInHanded_of_change (C := Try.checked) own started (by kernel_rfl) Try.func3
    (ChangeSpec.witness6 (enc := enc) (C := Try.checked) false ⟨#[], #[.slice none 0 0, .int .i64 0], []⟩ 8 (by kernel_rfl) (by kernel_rfl) (by kernel_rfl) (by kernel_rfl)) ?_
  intro W base args ds gs before hval0 hW _ _
  have hval : ∀ (j : Nat) t v, Try.f3.params[j]? = some t → args[j]? = some v → Value.okWide Try.prog W .any base t v := hval0
  have hW' := hW
  obtain ⟨p, q, hA0, hV, rfl, hfz, hnd⟩ := hW
  have hA : DataW.TrodAll enc Try.prog W 0 (fun _ => true) true Try.f3.params.toList args.toList ds p := hA0
  rw [Try.params3] at hA hval
  obtain ⟨v0, vs0, d0, ds0, p0, q0, hargs, rfl, rfl, h0, r0⟩ := trodAll_cons hA
  obtain ⟨v1, vs1, d1, ds1, p1, q1, rfl, rfl, rfl, h1, r1⟩ := trodAll_cons r0
  obtain ⟨rfl, rfl, rfl⟩ := trodAll_nil r1
  obtain rfl : args = #[v0, v1] := by cases args; simp_all
  obtain ⟨rfl, rfl⟩ := trodVars_none hV
  obtain ⟨l1, bs, q, l, k1, k2, k3, k4⟩ := ints_inQ (hval 0 22 v0 rfl rfl) h0 (hrel_nil W) (by intro b B hb; simp at hb)
  obtain ⟨n, rfl⟩ := int_valQ (hval 1 3 v1 rfl rfl)
  refine (calls_of_AC (args := #[v0, .int .i64 n]) (s3 k4 (fun _ => (rfl : AV.bool true = AV.bool true))) k1 ⟨_, _, rfl, k3, _, _, rfl, rfl, rfl⟩ k2).mono fun e W' ⟨he, hb⟩ => ?_
  exact ⟨_, he, post_yes hW' rfl rfl (by kernel_rfl) Try.underlying4 (by kernel_rfl) hb⟩

theorem evalReaches_holds : Rows.EvalReachesSaid :=
  OpenClaim.holds_of_wide 3 Try.f3 rfl rfl rfl rfl rfl rfl rfl ⟨rfl, rfl, rfl, rfl, rfl⟩ rfl rfl rfl rfl rfl (by kernel_rfl) Try.func3 (by kernel_rfl)
    (of_decide_eq_true (by kernel_rfl)) (by unfold Func.isWrapper; first | (rw [if_pos (by decide +kernel)]; kernel_rfl) | (rw [if_neg (by decide +kernel)]; exact ⟨rfl, rfl⟩))
    (fun os started H enc _ => evalReaches_lifted os started H enc)
end Go.Proofs.Ytfafgnmlnhklaaa
