/- EditGets answers yes for all bytes. -/
import Derived.Test.YtceplmmmlindnaaDG17
import Derived.Test.YtceplmmmlindnaaDG18
namespace Go.Proofs.Ytceplmmmlindnaa
open Go.Ab
open Go.ChangeShapes Go.WideShapes Go.ChangeAt Go.RowKit
set_option linter.unusedVariables false
set_option linter.unusedSimpArgs false

section
variable {H : Type} {enc : TypeId × Value → H} {W : World}
set_option maxRecDepth 100000 in
theorem byte_in (n : Nat) (cs' : List Value) (y : DataW H × List MemPlace) (h : DataW.trod enc Try.prog W 0 (fun _ => true) true n 5 cs' = some y) (hl : cs'.length = byE.sz) : ∃ a, ∀ μ, relL μ (byE.f a) cs' := by
  obtain ⟨a, rfl, _, hw⟩ := DataW.trod_int Try.underlying5 h
  obtain ⟨h0, h1⟩ := bounds_u8 hw
  refine ⟨UInt8.ofNat a.toNat, fun μ => ⟨_, _, rfl, ?_, rfl⟩⟩
  have : ((UInt8.ofNat a.toNat).toNat : Int) = a := by
    have : (UInt8.ofNat a.toNat).toNat = a.toNat := by simp; omega
    omega
  show Value.int .u8 a = Value.int .u8 _
  rw [this]
end

set_option maxRecDepth 100000 in
theorem editGets_lifted (os : Os) (started : os.Started) (H : Type) (enc : TypeId × Value → H) :
    ReturnsInHanded {} Try.checked os 4 .any (Rows.editGetsSpec.pre6 enc Try.prog Try.f4 Rows.editGetsRow.domain false) (Rows.editGetsSpec.post enc Try.prog Try.f4 false true false false) := by
  refine returnsInHanded_of_change (C := Try.checked) own started (by kernel_rfl) Try.func4
    (ChangeSpec.witness6 (enc := enc) (C := Try.checked) false ⟨#[], #[.slice none 0 0], []⟩ 8 (by kernel_rfl) (by kernel_rfl) (by kernel_rfl) (by kernel_rfl)) ?_
  intro W base args ds gs before hval0 hW _ _
  have hval : ∀ (j : Nat) t v, Try.f4.params[j]? = some t → args[j]? = some v → Value.okWide Try.prog W .any base t v := hval0
  have hW' := hW
  obtain ⟨p, q, hA0, hV, rfl, hfz, hnd⟩ := hW
  have hA : DataW.TrodAll enc Try.prog W 0 (fun _ => true) true Try.f4.params.toList args.toList ds p := hA0
  rw [Try.params4] at hA hval
  obtain ⟨v0, vs0, d0, ds0, p0, q0, hargs, rfl, rfl, h0, r0⟩ := trodAll_cons hA
  obtain ⟨rfl, rfl, rfl⟩ := trodAll_nil r0
  obtain rfl : args = #[v0] := by cases args; simp_all
  obtain ⟨rfl, rfl⟩ := trodVars_none hV
  have hv0 := hval 0 29 v0 rfl rfl
  have hv : Cell.okWide Try.prog W .any base 29 v0 := by
    unfold Value.okWide at hv0
    rw [Try.underlying29] at hv0
    exact hv0
  obtain ⟨a0, len0, cap0, rfl⟩ := okWide_slice Try.underlying29 hv0
  obtain ⟨fuel, hf⟩ := h0
  obtain ⟨l1, bs, q, l, k1, k2, k3, k4⟩ := slice_in byE Try.underlying29 (by kernel_rfl) byte_in hv hf (hrel_nil W) (by intro b B hb; simp at hb)
  refine (calls_of_AC (args := #[.slice a0 len0 cap0]) (s4 k4) k1 ⟨_, _, rfl, k3, rfl⟩ k2).mono fun e W' ⟨he, hb⟩ => ?_
  exact ⟨_, he, post_yes hW' rfl rfl (by kernel_rfl) Try.underlying4 (by kernel_rfl) hb⟩

theorem editGets_holds : Rows.EditGetsSaid :=
  OpenClaim.holds_of_wide 4 Try.f4 rfl rfl rfl rfl rfl rfl rfl ⟨rfl, rfl, rfl, rfl, rfl⟩ rfl rfl rfl rfl rfl (by kernel_rfl) Try.func4 (by kernel_rfl)
    (of_decide_eq_true (by kernel_rfl)) (by unfold Func.isWrapper; first | (rw [if_pos (by decide +kernel)]; kernel_rfl) | (rw [if_neg (by decide +kernel)]; exact ⟨rfl, rfl⟩))
    (fun os started H enc _ => editGets_lifted os started H enc)
end Go.Proofs.Ytceplmmmlindnaa
