/- StoreSpills answers yes for everything that it may be asked. -/
import Derived.Test.YtafmabnolelknaaGreatDoorDG33
import Derived.Test.YtafmabnolelknaaGreatDoorDG38
import Derived.Test.YtafmabnolelknaaGreatDoorDG41
import Derived.Test.YtafmabnolelknaaGreatDoorDG43
namespace Go.Proofs.YtafmabnolelknaaGreatDoor
open Go.Ab
open Go.Ent Go.Sto
open Go.ChangeShapes Go.WideShapes Go.ChangeAt Go.RowKit
set_option linter.unusedVariables false
set_option linter.unusedSimpArgs false
set_option maxRecDepth 100000 in
theorem storeSpills_lifted (os : Os) (started : os.Started) (H : Type) (enc : TypeId × Value -> H) :
    ReturnsInHanded {} Tryz.checked os 4 .any (fun w args => (Rows.storeSpillsSpec.pre enc Tryz.prog Tryz.f4 Rows.storeSpillsRow.domain false w args /\ laidMetH Tryz.prog zLW w) /\ sizedMet enc Tryz.prog Tryz.f4 (OpenSpec.ofChange Rows.storeSpillsSpec) false w args)
      (Rows.storeSpillsSpec.post enc Tryz.prog Tryz.f4 false true false false) := by
  refine returnsInHanded_of_change_and (C := Tryz.checked) (X := fun w _ => laidMetH Tryz.prog zLW w) (fun _ _ _ hh h => h.of_heap hh) own3 started (by kernel_rfl) Tryz.func4
    (ChangeSpec.witness_shaped (enc := enc) (C := Tryz.checked) (os := os) (X := fun w _ => laidMetH Tryz.prog zLW w) false (World.laidAll Tryz.prog os zLW) #[.slice none 0 0, .int .i64 0, .slice none 0 0, .slice none 0 0] 8 (World.laidAll_os _ _ _)
      (World.shaped_of_ZipB (by kernel_rfl) (by kernel_rfl)) (by kernel_rfl) (by kernel_rfl) (by kernel_rfl)
      (by rw [MakeChecks.laidMetH_plain _ _ _ (by kernel_rfl)]; exact laidMet_laidAll _ (by kernel_rfl) (by kernel_rfl))) ?_
  intro W base args ds gs before hval0 hW hc _ hL _
  have hval : ∀ (j : Nat) t v, Tryz.f4.params[j]? = some t -> args[j]? = some v -> Value.okWide Tryz.prog W .any base t v := hval0
  have hW' := hW
  obtain ⟨p, q, hA0, hV, rfl, _, _⟩ := hW
  have hA : DataW.TrodAll enc Tryz.prog W 0 (fun _ => true) true Tryz.f4.params.toList args.toList ds p := hA0
  rw [Tryz.params4] at hA hval
  obtain ⟨v0, vs0, d0, ds0, p0, q0, hargs, rfl, rfl, h0, r0⟩ := trodAll_cons hA
  obtain ⟨v1, vs1, d1, ds1, p1, q1, rfl, rfl, rfl, h1, r1⟩ := trodAll_cons r0
  obtain ⟨v2, vs2, d2, ds2, p2, q2, rfl, rfl, rfl, h2, r2⟩ := trodAll_cons r1
  obtain ⟨v3, vs3, d3, ds3, p3, q3, rfl, rfl, rfl, h3, r3⟩ := trodAll_cons r2
  obtain ⟨rfl, rfl, rfl⟩ := trodAll_nil r3
  obtain rfl : args = #[v0, v1, v2, v3] := by cases args; simp_all
  obtain ⟨rfl, rfl⟩ := trodVars_none hV
  have hL' : laidMet Tryz.prog zLW W := by rwa [MakeChecks.laidMetH_plain _ _ _ (by kernel_rfl)] at hL
  obtain ⟨μ, HH⟩ := zRC hL'
  have c0 := okc28 (hval 0 28 v0 rfl rfl)
  obtain ⟨a0, len0, cap0, rfl⟩ := okWide_slice Tryz.underlying28 (hval 0 28 v0 rfl rfl)
  obtain ⟨fu0, hf0⟩ := h0
  obtain ⟨m0, bs0, q0, l0, H0, ro0, rel0, has0⟩ := zHY entE Tryz.underlying28 (by kernel_rfl) ent_in c0 hf0 HH (zDS gsAV 0)
  obtain ⟨n1, rfl, rfl, rfl, w1⟩ := open_int Tryz.underlying3 (hval 1 3 v1 rfl rfl) h1
  have c2 := okc34 (hval 2 34 v2 rfl rfl)
  obtain ⟨a2, len2, cap2, rfl⟩ := okWide_slice Tryz.underlying34 (hval 2 34 v2 rfl rfl)
  obtain ⟨fu2, hf2⟩ := h2
  obtain ⟨m2, bs2, q2, l2, H2, ro2, rel2, has2⟩ := zHY intE Tryz.underlying34 (by kernel_rfl) int_in c2 hf2 H0 ro0
  have c3 := okc34 (hval 3 34 v3 rfl rfl)
  obtain ⟨a3, len3, cap3, rfl⟩ := okWide_slice Tryz.underlying34 (hval 3 34 v3 rfl rfl)
  obtain ⟨fu3, hf3⟩ := h3
  obtain ⟨m3, bs3, q3, l3, H3, ro3, rel3, has3⟩ := zHY intE Tryz.underlying34 (by kernel_rfl) int_in c3 hf3 H2 ro2
  have rel0 := AV.rel.mono (Ren.le_append _ m2) _ _ rel0
  have has0 := has0.mono (Ext.app _ bs2)
  have rel0 := AV.rel.mono (Ren.le_append _ m3) _ _ rel0
  have has0 := has0.mono (Ext.app _ bs3)
  have rel2 := AV.rel.mono (Ren.le_append _ m3) _ _ rel2
  have has2 := has2.mono (Ext.app _ bs3)
  simp only [List.append_assoc] at has0 has2 has3 rel0 rel2 rel3 H3 ro3
  refine (zMD (args := #[.slice a0 len0 cap0, .int .i64 n1, .slice a2 len2 cap2, .slice a3 len3 cap3]) (s4 (lIT _ (LA.app _)) (LA.laid _ (LA.app _)) has0 has2 has3 (fun _ => rfl) (Q := fun v _ => v = .bool true)) H3 ⟨_, _, rfl, rel0, ⟨_, _, rfl, rfl, ⟨_, _, rfl, rel2, ⟨_, _, rfl, rel3, rfl⟩⟩⟩⟩ ro3).mono fun e W' ⟨he, hb⟩ => ?_
  exact ⟨_, he, zTJ hW' rfl rfl (by kernel_rfl) Tryz.underlying4 (by kernel_rfl) hb⟩

theorem storeSpills_row : Rows.StoreSpillsSaid :=
  OpenClaim.holds_of_wide 4 Tryz.f4 rfl rfl rfl rfl rfl rfl rfl ⟨rfl, rfl, rfl, rfl, rfl⟩ rfl rfl rfl rfl rfl zHJ Tryz.func4 closed4
    (of_decide_eq_true (by kernel_rfl)) (by unfold Func.isWrapper; first | (rw [if_pos (by decide +kernel)]; kernel_rfl) | (rw [if_neg (by decide +kernel)]; exact ⟨rfl, rfl⟩))
    (fun os started H enc _ => storeSpills_lifted os started H enc)
theorem storeSpills_holds : Rows.StoreSpillsCardSaid :=
  Claim7.holds_tied_plain_at .later [] [.data, .data, .data, .data] true (true, "a135674dfacc129f112544c4b8fa39b787132e786b4bf04053af45495352e943") false storeSpills_row (fun _ h => by cases h) zUF (fun _ h => by cases h) storeSpills_row_tie rfl ⟨rfl, rfl⟩ zSK rfl
    (fun f fn hf hfn => by
      obtain rfl : f = 4 := Option.some.inj (zHJ.symm.trans hf) |>.symm
      obtain rfl : fn = Tryz.f4 := (Option.some.inj (Tryz.func4.symm.trans hfn)).symm
      exact ⟨zPK, fun j t ht => by
        rw [Tryz.params4] at ht
        have hm : t ∈ [28, 3, 34, 34] := by simpa using Array.mem_of_getElem? ht
        exact (show Tryz.prog.wantsStandIn t = false by simpa using List.all_eq_true.1 zMC t hm)⟩)
    zPL
end Go.Proofs.YtafmabnolelknaaGreatDoor
