/- OperOnce answers yes for all two bags. -/
import Derived.Test.YtfafgnmlnhklaaaAG12
import Derived.Test.YtfafgnmlnhklaaaAG22
import Derived.Test.YtfafgnmlnhklaaaAG23
namespace Go.Proofs.Ytfafgnmlnhklaaa
open Go.Ab
open Go.ChangeShapes Go.WideShapes Go.ChangeAt Go.RowKit
set_option linter.unusedVariables false
set_option linter.unusedSimpArgs false

set_option maxRecDepth 100000 in
theorem operOnce_lifted (os : Os) (started : os.Started) (H : Type) (enc : TypeId × Value → H) :
    ReturnsInHanded {} Try.checked os 8 .any (Rows.operOnceSpec.pre6 enc Try.prog Try.f8 Rows.operOnceRow.domain false) (Rows.operOnceSpec.post enc Try.prog Try.f8 false true false false) := by
  refine returnsInHanded_of_change (C := Try.checked) own started (by kernel_rfl) Try.func8
    (ChangeSpec.witness6 (enc := enc) (C := Try.checked) false ⟨#[], #[.slice none 0 0, .slice none 0 0], []⟩ 8 (by kernel_rfl) (by kernel_rfl) (by kernel_rfl) (by kernel_rfl)) ?_
  intro W base args ds gs before hval0 hW _ _
  have hval : ∀ (j : Nat) t v, Try.f8.params[j]? = some t → args[j]? = some v → Value.okWide Try.prog W .any base t v := hval0
  have hW' := hW
  obtain ⟨p, q, hA0, hV, rfl, hfz, hnd⟩ := hW
  have hA : DataW.TrodAll enc Try.prog W 0 (fun _ => true) true Try.f8.params.toList args.toList ds p := hA0
  rw [Try.params8] at hA hval
  obtain ⟨v0, vs0, d0, ds0, p0, q0, hargs, rfl, rfl, h0, r0⟩ := trodAll_cons hA
  obtain ⟨v1, vs1, d1, ds1, p1, q1, rfl, rfl, rfl, h1, r1⟩ := trodAll_cons r0
  obtain ⟨rfl, rfl, rfl⟩ := trodAll_nil r1
  obtain rfl : args = #[v0, v1] := by cases args; simp_all
  obtain ⟨rfl, rfl⟩ := trodVars_none hV
  obtain ⟨l1, bs, q, l, k1, k2, k3, k4⟩ := bag_in (hval 0 24 v0 rfl rfl) h0 (hrel_nil W) (by intro b B hb; simp at hb)
  obtain ⟨l2, bs2, q2, l3, m1, m2, m3, m4⟩ := bag_in (hval 1 24 v1 rfl rfl) h1 k1 k2
  refine (calls_of_AC (args := #[v0, v1]) (s8 (k4.mono (Ext.app _ _)) m4 (fun _ => (rfl : AV.bool true = AV.bool true))) m1 ⟨_, _, rfl, AV.rel.mono (Ren.le_append _ _) _ _ k3, _, _, rfl, m3, rfl⟩ m2).mono fun e W' ⟨he, hb⟩ => ?_
  exact ⟨_, he, post_yes hW' rfl rfl (by kernel_rfl) Try.underlying4 (by kernel_rfl) hb⟩

theorem operOnce_holds : Rows.OperOnceSaid :=
  OpenClaim.holds_of_wide 8 Try.f8 rfl rfl rfl rfl rfl rfl rfl ⟨rfl, rfl, rfl, rfl, rfl⟩ rfl rfl rfl rfl rfl (by kernel_rfl) Try.func8 (by kernel_rfl)
    (of_decide_eq_true (by kernel_rfl)) (by unfold Func.isWrapper; first | (rw [if_pos (by decide +kernel)]; kernel_rfl) | (rw [if_neg (by decide +kernel)]; exact ⟨rfl, rfl⟩))
    (fun os started H enc _ => operOnce_lifted os started H enc)
end Go.Proofs.Ytfafgnmlnhklaaa
