/- DeskNobody answers yes for every line. -/
import Derived.Test.YtjackggnnjdhmaaGreatDoorBG11
import Derived.Test.YtjackggnnjdhmaaGreatDoorBG13
import Derived.Test.YtjackggnnjdhmaaGreatDoorBG40
import Derived.Test.YtjackggnnjdhmaaGreatDoorBG42
import Derived.Test.YtjackggnnjdhmaaGreatDoorBG46
import Derived.Test.YtjackggnnjdhmaaGreatDoorBG49
import Derived.ChangeMaps5
namespace Go.Proofs.YtjackggnnjdhmaaGreatDoor
open Go.Ab
open Go.ChangeShapes Go.WideShapes Go.ChangeAt Go.RowKit
open Go.ChangeMaps (open_string)
set_option linter.unusedVariables false
set_option linter.unusedSimpArgs false
set_option maxRecDepth 100000 in
theorem deskNobody_lifted (os : Os) (started : os.Started) (H : Type) (enc : TypeId × Value → H) :
    ReturnsInHanded {} Tryz.checked os 5 .any (fun w args => (Rows.deskNobodySpec.pre enc Tryz.prog Tryz.f5 Rows.deskNobodyRow.domain false w args ∧ laidMetH Tryz.prog laidL w) ∧ sizedMet enc Tryz.prog Tryz.f5 (OpenSpec.ofChange Rows.deskNobodySpec) false w args)
      (Rows.deskNobodySpec.post enc Tryz.prog Tryz.f5 false true false false) := by
  refine returnsInHanded_of_change_and (C := Tryz.checked) (X := fun w _ => laidMetH Tryz.prog laidL w) (fun _ _ _ hh h => h.of_heap hh) own3 started wi1 Tryz.func5
    (ChangeSpec.witness_shaped (enc := enc) (C := Tryz.checked) (os := os) (X := fun w _ => laidMetH Tryz.prog laidL w) false (World.laidAll Tryz.prog os laidL) #[.string ⟨#[]⟩] 8 (World.laidAll_os _ _ _)
      (World.shaped_of_ZipB (wi2 os) (wi3 os)) (wi4 os) (wi5 os enc) (wi6 os enc)
      (by rw [MakeChecks.laidMetH_plain _ _ _ wi9]; exact laidMet_laidAll _ (wi7 os) (wi8 os))) ?_
  intro W base args ds gs before hval0 hW hc _ hL _
  have hval : ∀ (j : Nat) t v, Tryz.f5.params[j]? = some t → args[j]? = some v → Value.okWide Tryz.prog W .any base t v := hval0
  have hW' := hW
  obtain ⟨p, q, hA0, hV, rfl, _, _⟩ := hW
  have hA : DataW.TrodAll enc Tryz.prog W 0 (fun _ => true) true Tryz.f5.params.toList args.toList ds p := hA0
  rw [Tryz.params5] at hA hval
  obtain ⟨v0, vs0, d0, ds0, p0, q0, hargs, rfl, rfl, h0, r0⟩ := trodAll_cons hA
  obtain ⟨rfl, rfl, rfl⟩ := trodAll_nil r0
  obtain rfl : args = #[v0] := by cases args; simp_all
  obtain ⟨rfl, rfl⟩ := trodVars_none hV
  obtain ⟨s, rfl, rfl, rfl, _⟩ := open_string Tryz.underlying9 (hval 0 9 v0 rfl rfl) h0
  have hL' : laidMet Tryz.prog laidL W := by rwa [MakeChecks.laidMetH_plain _ _ _ wi9] at hL
  obtain ⟨μ, HH⟩ := laid_heap hL'
  have L : OverL (laidHs 0 gsAV) := by simpa using overL_app []
  refine (calls_of_AC (args := #[.string s]) (s5 (l := s.data.toList) (Q := fun v _ => v = .bool true) (fun hQ => s9 L hQ) rfl) HH ⟨_, _, rfl, rfl, rfl⟩ (laidHs_ro gsAV 0)).mono fun e W' ⟨he, hb⟩ => ?_
  exact ⟨_, he, post_yes hW' rfl rfl (by kernel_rfl) Tryz.underlying4 wi10 hb⟩

theorem card5_stand : ([9].all fun u => !Tryz.prog.wantsStandIn u) = true := by kernel_rfl
theorem deskNobody_row : Rows.DeskNobodySaid :=
  OpenClaim.holds_of_wide 5 Tryz.f5 rfl rfl rfl rfl rfl rfl rfl ⟨rfl, rfl, rfl, rfl, rfl⟩ rfl rfl rfl rfl rfl card5_name Tryz.func5 closed5
    (of_decide_eq_true (by kernel_rfl)) (by unfold Func.isWrapper; first | (rw [if_pos (by decide +kernel)]; kernel_rfl) | (rw [if_neg (by decide +kernel)]; exact ⟨rfl, rfl⟩))
    (fun os started H enc _ => deskNobody_lifted os started H enc)
theorem deskNobody_holds : Rows.DeskNobodyCardSaid :=
  Claim7.holds_tied_plain_at .later [] [.data, .data, .data, .data, .pinned, .data] true (true, "40381def2742567bc3a9cc1c54b9a4c9b41f5d6dd63baaf5fe68423d58e14348") true deskNobody_row (fun _ h => by cases h) card5_wf (fun _ h => by cases h) deskNobody_row_tie rfl ⟨rfl, rfl⟩ card_main rfl
    (fun f fn hf hfn => by
      obtain rfl : f = 5 := Option.some.inj (card5_name.symm.trans hf) |>.symm
      obtain rfl : fn = Tryz.f5 := (Option.some.inj (Tryz.func5.symm.trans hfn)).symm
      exact ⟨card_looks, fun j t ht => by
        rw [Tryz.params5] at ht
        have hm : t ∈ [9] := by simpa using Array.mem_of_getElem? ht
        exact (show Tryz.prog.wantsStandIn t = false by simpa using List.all_eq_true.1 card5_stand t hm)⟩)
    card5_goes
end Go.Proofs.YtjackggnnjdhmaaGreatDoor
