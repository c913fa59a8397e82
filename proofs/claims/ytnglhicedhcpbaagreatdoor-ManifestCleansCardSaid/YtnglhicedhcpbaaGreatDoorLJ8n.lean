/- ManifestCleans answers yes for everything that it may be asked. -/
import Derived.Test.YtnglhicedhcpbaaGreatDoorLG38
import Derived.Test.YtnglhicedhcpbaaGreatDoorLG39
import Derived.Test.YtnglhicedhcpbaaGreatDoorLG41
namespace Go.Proofs.YtnglhicedhcpbaaGreatDoor
open Go.Ab
open Go.ChangeShapes Go.WideShapes Go.ChangeAt Go.RowKit
set_option linter.unusedVariables false
set_option linter.unusedSimpArgs false
set_option maxRecDepth 100000 in
theorem manifestCleans_lifted (os : Os) (started : os.Started) (H : Type) (enc : TypeId × Value -> H) :
    ReturnsInHanded {} Tryz.checked os 5 .any (fun w args => (Rows.manifestCleansSpec.pre enc Tryz.prog Tryz.f5 Rows.manifestCleansRow.domain false w args /\ laidMetH Tryz.prog zJD w) /\ sizedMet enc Tryz.prog Tryz.f5 (OpenSpec.ofChange Rows.manifestCleansSpec) false w args)
      (Rows.manifestCleansSpec.post enc Tryz.prog Tryz.f5 false true false false) := by
  refine returnsInHanded_of_change_and (C := Tryz.checked) (X := fun w _ => laidMetH Tryz.prog zJD w) (fun _ _ _ hh h => h.of_heap hh) own3 started (by kernel_rfl) Tryz.func5
    (ChangeSpec.witness_shaped (enc := enc) (C := Tryz.checked) (os := os) (X := fun w _ => laidMetH Tryz.prog zJD w) false (World.laidAll Tryz.prog os zJD) #[.slice none 0 0] 8 (World.laidAll_os _ _ _)
      (World.shaped_of_ZipB (by kernel_rfl) (by kernel_rfl)) (by kernel_rfl) (by kernel_rfl) (by kernel_rfl)
      (by rw [MakeChecks.laidMetH_plain _ _ _ (by kernel_rfl)]; exact laidMet_laidAll _ (by kernel_rfl) (by kernel_rfl))) ?_
  intro W base args ds gs before hval0 hW hc _ hL _
  have hval : ∀ (j : Nat) t v, Tryz.f5.params[j]? = some t -> args[j]? = some v -> Value.okWide Tryz.prog W .any base t v := hval0
  have hW' := hW
  obtain ⟨p, q, hA0, hV, rfl, _, _⟩ := hW
  have hA : DataW.TrodAll enc Tryz.prog W 0 (fun _ => true) true Tryz.f5.params.toList args.toList ds p := hA0
  rw [Tryz.params5] at hA hval
  obtain ⟨v0, vs0, d0, ds0, p0, q0, hargs, rfl, rfl, h0, r0⟩ := trodAll_cons hA
  obtain ⟨rfl, rfl, rfl⟩ := trodAll_nil r0
  obtain rfl : args = #[v0] := by cases args; simp_all
  obtain ⟨rfl, rfl⟩ := trodVars_none hV
  have hL' : laidMet Tryz.prog zJD W := by rwa [MakeChecks.laidMetH_plain _ _ _ (by kernel_rfl)] at hL
  obtain ⟨e0, e1, HH⟩ := zN7 hL'
  obtain ⟨a0, len0, cap0, rfl⟩ := okWide_slice Tryz.underlying64 (hval 0 64 v0 rfl rfl)
  obtain ⟨fu0, hf0⟩ := h0
  obtain ⟨m0, bs0, q0, l0, H0, ro0, rel0, has0⟩ := ops_in hf0 HH zKN (b0 := 1) rfl
  refine (zJR (args := #[.slice a0 len0 cap0]) (s5 (⟨rfl, rfl⟩ : Laid _) has0) H0 ⟨_, _, rfl, rel0, rfl⟩ ro0).mono fun e W' ⟨he, hb⟩ => ?_
  exact ⟨_, he, zP5 hW' rfl rfl (by kernel_rfl) Tryz.underlying4 (by kernel_rfl) hb⟩

theorem manifestCleans_row : Rows.ManifestCleansSaid :=
  OpenClaim.holds_of_wide 5 Tryz.f5 rfl rfl rfl rfl rfl rfl rfl ⟨rfl, rfl, rfl, rfl, rfl⟩ rfl rfl rfl rfl rfl zFX Tryz.func5 closed5
    (of_decide_eq_true (by kernel_rfl)) (by unfold Func.isWrapper; first | (rw [if_pos (by decide +kernel)]; kernel_rfl) | (rw [if_neg (by decide +kernel)]; exact ⟨rfl, rfl⟩))
    (fun os started H enc _ => manifestCleans_lifted os started H enc)
theorem manifestCleans_holds : Rows.ManifestCleansCardSaid :=
  Claim7.holds_tied_plain_at .later [] [.data] true (true, "167e363518a68182c5c761e88d2ab89c747fc052803a2d80bb731255294a9900") false manifestCleans_row (fun _ h => by cases h) zQY (fun _ h => by cases h) manifestCleans_row_tie rfl ⟨rfl, rfl⟩ zO9 rfl
    (fun f fn hf hfn => by
      obtain rfl : f = 5 := Option.some.inj (zFX.symm.trans hf) |>.symm
      obtain rfl : fn = Tryz.f5 := (Option.some.inj (Tryz.func5.symm.trans hfn)).symm
      exact ⟨zMS, fun j t ht => by
        rw [Tryz.params5] at ht
        have hm : t ∈ [64] := by simpa using Array.mem_of_getElem? ht
        exact (show Tryz.prog.wantsStandIn t = false by simpa using List.all_eq_true.1 zJQ t hm)⟩)
    zMT
end Go.Proofs.YtnglhicedhcpbaaGreatDoor
