/- StoreKeeps answers yes for everything that it may be asked. -/
import Derived.Test.YtafmabnolelknaaGreatDoorCG34
import Derived.Test.YtafmabnolelknaaGreatDoorCG38
import Derived.Test.YtafmabnolelknaaGreatDoorCG41
import Derived.Test.YtafmabnolelknaaGreatDoorCG43
namespace Go.Proofs.YtafmabnolelknaaGreatDoor
open Go.Ab
open Go.Ent Go.Sto
open Go.ChangeShapes Go.WideShapes Go.ChangeAt Go.RowKit
set_option linter.unusedVariables false
set_option linter.unusedSimpArgs false
set_option maxRecDepth 100000 in
theorem storeKeeps_lifted (os : Os) (started : os.Started) (H : Type) (enc : TypeId × Value -> H) :
    ReturnsInHanded {} Tryz.checked os 3 .any (fun w args => (Rows.storeKeepsSpec.pre enc Tryz.prog Tryz.f3 Rows.storeKeepsRow.domain false w args /\ laidMetH Tryz.prog zLW w) /\ sizedMet enc Tryz.prog Tryz.f3 (OpenSpec.ofChange Rows.storeKeepsSpec) false w args)
      (Rows.storeKeepsSpec.post enc Tryz.prog Tryz.f3 false true false false) := by
  refine returnsInHanded_of_change_and (C := Tryz.checked) (X := fun w _ => laidMetH Tryz.prog zLW w) (fun _ _ _ hh h => h.of_heap hh) own3 started (by kernel_rfl) Tryz.func3
    (ChangeSpec.witness_shaped (enc := enc) (C := Tryz.checked) (os := os) (X := fun w _ => laidMetH Tryz.prog zLW w) false (World.laidAll Tryz.prog os zLW) #[.int .i64 0, .slice none 0 0, .agg #[.int .i64 0, .int .i64 0]] 8 (World.laidAll_os _ _ _)
      (World.shaped_of_ZipB (by kernel_rfl) (by kernel_rfl)) (by kernel_rfl) (by kernel_rfl) (by kernel_rfl)
      (by rw [MakeChecks.laidMetH_plain _ _ _ (by kernel_rfl)]; exact laidMet_laidAll _ (by kernel_rfl) (by kernel_rfl))) ?_
  intro W base args ds gs before hval0 hW hc _ hL _
  have hval : ∀ (j : Nat) t v, Tryz.f3.params[j]? = some t -> args[j]? = some v -> Value.okWide Tryz.prog W .any base t v := hval0
  have hW' := hW
  obtain ⟨p, q, hA0, hV, rfl, _, _⟩ := hW
  have hA : DataW.TrodAll enc Tryz.prog W 0 (fun _ => true) true Tryz.f3.params.toList args.toList ds p := hA0
  rw [Tryz.params3] at hA hval
  obtain ⟨v0, vs0, d0, ds0, p0, q0, hargs, rfl, rfl, h0, r0⟩ := trodAll_cons hA
  obtain ⟨v1, vs1, d1, ds1, p1, q1, rfl, rfl, rfl, h1, r1⟩ := trodAll_cons r0
  obtain ⟨v2, vs2, d2, ds2, p2, q2, rfl, rfl, rfl, h2, r2⟩ := trodAll_cons r1
  obtain ⟨rfl, rfl, rfl⟩ := trodAll_nil r2
  obtain rfl : args = #[v0, v1, v2] := by cases args; simp_all
  obtain ⟨rfl, rfl⟩ := trodVars_none hV
  have hL' : laidMet Tryz.prog zLW W := by rwa [MakeChecks.laidMetH_plain _ _ _ (by kernel_rfl)] at hL
  obtain ⟨μ, HH⟩ := zRG hL'
  obtain ⟨n0, rfl, rfl, rfl, w0⟩ := open_int Tryz.underlying3 (hval 0 3 v0 rfl rfl) h0
  obtain ⟨a1, len1, cap1, rfl⟩ := okWide_slice Tryz.underlying22 (hval 1 22 v1 rfl rfl)
  obtain ⟨fu1, hf1⟩ := h1
  obtain ⟨m1, bs1, q1, l1, H1, ro1, rel1, has1, hin1⟩ := ops_in hf1 HH (zF3 gsAV 0) (b0 := 1) rfl
  obtain ⟨x2, y2, rfl⟩ := zPX (hval 2 24 v2 rfl rfl)
  refine (zMD (args := #[.int .i64 n0, .slice a1 len1 cap1, .agg #[.int .i64 x2, .int .i64 y2]]) (s3 laid_w has1 hin1 (fun _ => rfl) (Q := fun v _ => v = .bool true)) H1 ⟨_, _, rfl, rfl, ⟨_, _, rfl, rel1, ⟨_, _, rfl, ⟨_, rfl, _, _, rfl, rfl, _, _, rfl, rfl, rfl⟩, rfl⟩⟩⟩ ro1).mono fun e W' ⟨he, hb⟩ => ?_
  exact ⟨_, he, zTS hW' rfl rfl (by kernel_rfl) Tryz.underlying4 (by kernel_rfl) hb⟩

theorem storeKeeps_row : Rows.StoreKeepsSaid :=
  OpenClaim.holds_of_wide 3 Tryz.f3 rfl rfl rfl rfl rfl rfl rfl ⟨rfl, rfl, rfl, rfl, rfl⟩ rfl rfl rfl rfl rfl zHI Tryz.func3 closed3
    (of_decide_eq_true (by kernel_rfl)) (by unfold Func.isWrapper; first | (rw [if_pos (by decide +kernel)]; kernel_rfl) | (rw [if_neg (by decide +kernel)]; exact ⟨rfl, rfl⟩))
    (fun os started H enc _ => storeKeeps_lifted os started H enc)
theorem storeKeeps_holds : Rows.StoreKeepsCardSaid :=
  Claim7.holds_tied_plain_at .later [] [.data, .data, .data, .data] true (true, "a135674dfacc129f112544c4b8fa39b787132e786b4bf04053af45495352e943") false storeKeeps_row (fun _ h => by cases h) zUR (fun _ h => by cases h) storeKeeps_row_tie rfl ⟨rfl, rfl⟩ zSN rfl
    (fun f fn hf hfn => by
      obtain rfl : f = 3 := Option.some.inj (zHI.symm.trans hf) |>.symm
      obtain rfl : fn = Tryz.f3 := (Option.some.inj (Tryz.func3.symm.trans hfn)).symm
      exact ⟨zPJ, fun j t ht => by
        rw [Tryz.params3] at ht
        have hm : t ∈ [3, 22, 24] := by simpa using Array.mem_of_getElem? ht
        exact (show Tryz.prog.wantsStandIn t = false by simpa using List.all_eq_true.1 zMC t hm)⟩)
    zPK
end Go.Proofs.YtafmabnolelknaaGreatDoor
