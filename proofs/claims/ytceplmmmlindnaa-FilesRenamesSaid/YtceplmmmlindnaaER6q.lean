/- FilesRenames answers yes for all numbers and every list of numbers: the statement. -/
import Derived.Test.YtceplmmmlindnaaEG22
namespace Go.Proofs.Ytceplmmmlindnaa
open Go.Ab
open Go.ChangeShapes Go.WideShapes Go.ChangeAt Go.RowKit
set_option linter.unusedVariables false
set_option linter.unusedSimpArgs false

section
variable {H : Type} {enc : TypeId × Value → H} {W : World}
theorem int_in (n : Nat) (cs' : List Value) (y : DataW H × List MemPlace) (h : DataW.trod enc Try.prog W 0 (fun _ => true) true n 3 cs' = some y) (hl : cs'.length = intE.sz) : ∃ a, ∀ μ, relL μ (intE.f a) cs' := by
  match cs', hl with
  | [c0], _ =>
    obtain ⟨a, e1, _, _⟩ := DataW.trod_int Try.underlying3 h
    simp at e1
    subst e1
    exact ⟨a, fun μ => ⟨_, _, rfl, rfl, rfl⟩⟩
end

set_option maxRecDepth 100000 in
theorem filesRenames_lifted (os : Os) (started : os.Started) (H : Type) (enc : TypeId × Value → H) :
    ReturnsInHanded {} Try.checked os 10 .any (Rows.filesRenamesSpec.pre6 enc Try.prog Try.f10 Rows.filesRenamesRow.domain false) (Rows.filesRenamesSpec.post enc Try.prog Try.f10 false true false false) := by
  refine returnsInHanded_of_change (C := Try.checked) own started (by kernel_rfl) Try.func10
    (ChangeSpec.witness6 (enc := enc) (C := Try.checked) false ⟨#[], #[.int .i64 0, .int .i64 0, .int .i64 0, .slice none 0 0], []⟩ 8 (by kernel_rfl) (by kernel_rfl) (by kernel_rfl) (by kernel_rfl)) ?_
  intro W base args ds gs before hval0 hW _ _
  have hval : ∀ (j : Nat) t v, Try.f10.params[j]? = some t → args[j]? = some v → Value.okWide Try.prog W .any base t v := hval0
  have hW' := hW
  obtain ⟨p, q, hA0, hV, rfl, hfz, hnd⟩ := hW
  have hA : DataW.TrodAll enc Try.prog W 0 (fun _ => true) true Try.f10.params.toList args.toList ds p := hA0
  rw [Try.params10] at hA hval
  obtain ⟨v0, vs0, d0, ds0, p0, q0, hargs, rfl, rfl, h0, r0⟩ := trodAll_cons hA
  obtain ⟨v1, vs1, d1, ds1, p1, q1, rfl, rfl, rfl, h1, r1⟩ := trodAll_cons r0
  obtain ⟨v2, vs2, d2, ds2, p2, q2, rfl, rfl, rfl, h2, r2⟩ := trodAll_cons r1
  obtain ⟨v3, vs3, d3, ds3, p3, q3, rfl, rfl, rfl, h3, r3⟩ := trodAll_cons r2
  obtain ⟨rfl, rfl, rfl⟩ := trodAll_nil r3
  obtain rfl : args = #[v0, v1, v2, v3] := by cases args; simp_all
  obtain ⟨rfl, rfl⟩ := trodVars_none hV
  obtain ⟨n, rfl, rfl, rfl, wa⟩ := open_int Try.underlying3 (hval 0 3 v0 rfl rfl) h0
  obtain ⟨m, rfl, rfl, rfl, wb⟩ := open_int Try.underlying3 (hval 1 3 v1 rfl rfl) h1
  obtain ⟨k, rfl, rfl, rfl, wc⟩ := open_int Try.underlying3 (hval 2 3 v2 rfl rfl) h2
  have hv0 := hval 3 70 v3 rfl rfl
  have hv : Cell.okWide Try.prog W .any base 70 v3 := by
    unfold Value.okWide at hv0
    rw [Try.underlying70] at hv0
    exact hv0
  obtain ⟨a0, len0, cap0, rfl⟩ := okWide_slice Try.underlying70 hv0
  obtain ⟨fuel, hf⟩ := h3
  obtain ⟨l1, bs, q, l, k1, k2, k3, k4⟩ := slice_in intE Try.underlying70 (by kernel_rfl) int_in hv hf (hrel_nil W) (by intro b B hb; simp at hb)
  refine (calls_of_AC (args := #[.int .i64 n, .int .i64 m, .int .i64 k, .slice a0 len0 cap0]) (s10 (n := n) (m := m) (k := k) k4) k1 ⟨_, _, rfl, rfl, _, _, rfl, rfl, _, _, rfl, rfl, _, _, rfl, k3, rfl⟩ k2).mono fun e W' ⟨he, hb⟩ => ?_
  exact ⟨_, he, post_yes hW' rfl rfl (by kernel_rfl) Try.underlying4 (by kernel_rfl) hb⟩

theorem filesRenames_holds : Rows.FilesRenamesSaid :=
  OpenClaim.holds_of_wide 10 Try.f10 rfl rfl rfl rfl rfl rfl rfl ⟨rfl, rfl, rfl, rfl, rfl⟩ rfl rfl rfl rfl rfl (by kernel_rfl) Try.func10 (by kernel_rfl)
    (of_decide_eq_true (by kernel_rfl)) (by unfold Func.isWrapper; first | (rw [if_pos (by decide +kernel)]; kernel_rfl) | (rw [if_neg (by decide +kernel)]; exact ⟨rfl, rfl⟩))
    (fun os started H enc _ => filesRenames_lifted os started H enc)
end Go.Proofs.Ytceplmmmlindnaa
