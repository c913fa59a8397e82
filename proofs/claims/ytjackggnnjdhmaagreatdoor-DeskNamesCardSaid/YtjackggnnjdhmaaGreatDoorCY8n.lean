/- DeskNames answers yes for every graph and every place. -/
import Derived.Test.YtjackggnnjdhmaaGreatDoorCG12
import Derived.Test.YtjackggnnjdhmaaGreatDoorCG41
import Derived.Test.YtjackggnnjdhmaaGreatDoorCG43
import Derived.Test.YtjackggnnjdhmaaGreatDoorCG47
import Derived.Test.YtjackggnnjdhmaaGreatDoorCG50
import Derived.ChangeMaps5
namespace Go.Proofs.YtjackggnnjdhmaaGreatDoor
open Go.Ab
open Go.ChangeShapes Go.WideShapes Go.ChangeAt Go.RowKit
set_option linter.unusedVariables false
set_option linter.unusedSimpArgs false
set_option maxRecDepth 100000 in
theorem two_cells {W : World} {base : Nat} {r : Reach} {v : Value} (hv : Value.okWide Tryz.prog W r base 30 v) : ∃ a b : Int, v = .agg #[.int .i64 a, .int .i64 b] := by
  obtain ⟨cs, rfl, hl, hc⟩ := row_cells (ts := [3, 3]) Tryz.underlying30 (.inl ⟨_, rfl⟩) hv (by kernel_rfl) (by kernel_rfl)
  obtain ⟨x0, g0, h0⟩ := hc 0 3 rfl
  obtain ⟨x1, g1, h1⟩ := hc 1 3 rfl
  obtain rfl : cs = [x0, x1] := by
    match cs, hl with
    | [y0, y1], _ => simp at g0 g1; simp_all
  obtain ⟨a, rfl⟩ := cell_int Tryz.underlying3 h0
  obtain ⟨b, rfl⟩ := cell_int Tryz.underlying3 h1
  exact ⟨a, b, rfl⟩
theorem overL_ext {t h' : Heap} (x : Ext (laidHs 0 gsAV ++ t) h') : OverL h' := by
  have hl8 : (laidHs 0 gsAV).length = 8 := rfl
  have e : h' = laidHs 0 gsAV ++ h'.drop 8 := by
    apply List.ext_getElem?
    intro i
    by_cases hi : i < 8
    · rw [List.getElem?_append_left (by omega)]
      have h1 : (laidHs 0 gsAV ++ t)[i]? = (laidHs 0 gsAV)[i]? := List.getElem?_append_left (by omega)
      have h2 : (laidHs 0 gsAV)[i]? = some ((laidHs 0 gsAV)[i]'(by omega)) := List.getElem?_eq_getElem (by omega)
      rw [h2]
      exact x _ _ (h1.trans h2)
    · rw [List.getElem?_append_right (by omega), hl8, List.getElem?_drop]
      congr 1; omega
  rw [e]; exact overL_app _
set_option maxRecDepth 100000 in
theorem deskNames_lifted (os : Os) (started : os.Started) (H : Type) (enc : TypeId × Value → H) :
    ReturnsInHanded {} Tryz.checked os 4 .any (fun w args => (Rows.deskNamesSpec.pre enc Tryz.prog Tryz.f4 Rows.deskNamesRow.domain false w args ∧ laidMetH Tryz.prog laidL w) ∧ sizedMet enc Tryz.prog Tryz.f4 (OpenSpec.ofChange Rows.deskNamesSpec) false w args)
      (Rows.deskNamesSpec.post enc Tryz.prog Tryz.f4 false true false false) := by
  refine returnsInHanded_of_change_and (C := Tryz.checked) (X := fun w _ => laidMetH Tryz.prog laidL w) (fun _ _ _ hh h => h.of_heap hh) own3 started wi1 Tryz.func4
    (ChangeSpec.witness_shaped (enc := enc) (C := Tryz.checked) (os := os) (X := fun w _ => laidMetH Tryz.prog laidL w) false (World.laidAll Tryz.prog os laidL) #[.agg #[.slice none 0 0, .int .i64 0], .agg #[.int .i64 0, .int .i64 0]] 8 (World.laidAll_os _ _ _)
      (World.shaped_of_ZipB (wi2 os) (wi3 os)) (wi4 os) (wi5 os enc) (wi6 os enc)
      (by rw [MakeChecks.laidMetH_plain _ _ _ wi9]; exact laidMet_laidAll _ (wi7 os) (wi8 os))) ?_
  intro W base args ds gs before hval0 hW hc _ hL _
  have hval : ∀ (j : Nat) t v, Tryz.f4.params[j]? = some t → args[j]? = some v → Value.okWide Tryz.prog W .any base t v := hval0
  have hW' := hW
  obtain ⟨p, q, hA0, hV, rfl, _, _⟩ := hW
  have hA : DataW.TrodAll enc Tryz.prog W 0 (fun _ => true) true Tryz.f4.params.toList args.toList ds p := hA0
  rw [Tryz.params4] at hA hval
  obtain ⟨v0, vs0, d0, ds0, p0, q0, hargs, rfl, rfl, h0, r0⟩ := trodAll_cons hA
  obtain ⟨v1, vs1, d1, ds1, p1, q1, rfl, rfl, rfl, h1, r1⟩ := trodAll_cons r0
  obtain ⟨rfl, rfl, rfl⟩ := trodAll_nil r1
  obtain rfl : args = #[v0, v1] := by cases args; simp_all
  obtain ⟨rfl, rfl⟩ := trodVars_none hV
  have hL' : laidMet Tryz.prog laidL W := by rwa [MakeChecks.laidMetH_plain _ _ _ wi9] at hL
  obtain ⟨μ, HH⟩ := laid_heap hL'
  obtain ⟨m0, bs0, q0, o0, l0, H0, ro0, rel0, has0⟩ := graph_in (hval 0 28 v0 rfl rfl) h0 HH (laidHs_ro gsAV 0)
  obtain ⟨x1, y1, rfl⟩ := two_cells (hval 1 30 v1 rfl rfl)
  refine (calls_of_AC (args := #[v0, .agg #[.int .i64 x1, .int .i64 y1]]) (s4 has0 (fun h' x => overL_ext x) (fun L hQ => s9 L hQ) (fun _ => rfl) (Q := fun v _ => v = .bool true)) H0 ⟨_, _, rfl, rel0, ⟨_, _, rfl, ⟨_, rfl, _, _, rfl, rfl, _, _, rfl, rfl, rfl⟩, rfl⟩⟩ ro0).mono fun e W' ⟨he, hb⟩ => ?_
  exact ⟨_, he, post_yes hW' rfl rfl (by kernel_rfl) Tryz.underlying4 wi10 hb⟩

theorem card4_stand : ([28, 30].all fun u => !Tryz.prog.wantsStandIn u) = true := by kernel_rfl
theorem deskNames_row : Rows.DeskNamesSaid :=
  OpenClaim.holds_of_wide 4 Tryz.f4 rfl rfl rfl rfl rfl rfl rfl ⟨rfl, rfl, rfl, rfl, rfl⟩ rfl rfl rfl rfl rfl card4_name Tryz.func4 closed4
    (of_decide_eq_true (by kernel_rfl)) (by unfold Func.isWrapper; first | (rw [if_pos (by decide +kernel)]; kernel_rfl) | (rw [if_neg (by decide +kernel)]; exact ⟨rfl, rfl⟩))
    (fun os started H enc _ => deskNames_lifted os started H enc)
theorem deskNames_holds : Rows.DeskNamesCardSaid :=
  Claim7.holds_tied_plain_at .later [] [.data, .data, .data, .data, .pinned, .data] true (true, "40381def2742567bc3a9cc1c54b9a4c9b41f5d6dd63baaf5fe68423d58e14348") true deskNames_row (fun _ h => by cases h) card4_wf (fun _ h => by cases h) deskNames_row_tie rfl ⟨rfl, rfl⟩ card_main rfl
    (fun f fn hf hfn => by
      obtain rfl : f = 4 := Option.some.inj (card4_name.symm.trans hf) |>.symm
      obtain rfl : fn = Tryz.f4 := (Option.some.inj (Tryz.func4.symm.trans hfn)).symm
      exact ⟨card_looks, fun j t ht => by
        rw [Tryz.params4] at ht
        have hm : t ∈ [28, 30] := by simpa using Array.mem_of_getElem? ht
        exact (show Tryz.prog.wantsStandIn t = false by simpa using List.all_eq_true.1 card4_stand t hm)⟩)
    card4_goes
end Go.Proofs.YtjackggnnjdhmaaGreatDoor
