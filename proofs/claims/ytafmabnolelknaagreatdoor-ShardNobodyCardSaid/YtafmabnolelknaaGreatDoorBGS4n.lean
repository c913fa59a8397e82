/- ShardNobody answers yes for everything that it may be asked. -/
import Derived.Test.YtafmabnolelknaaGreatDoorBG28
import Derived.Test.YtafmabnolelknaaGreatDoorBG30
import Derived.Test.YtafmabnolelknaaGreatDoorBG32
namespace Go.Proofs.YtafmabnolelknaaGreatDoor
open Go.Ab
open Go.ChangeShapes Go.WideShapes Go.ChangeAt Go.RowKit
set_option linter.unusedVariables false
set_option linter.unusedSimpArgs false
set_option maxRecDepth 100000 in
/-- An Op: its numbers, and two slices that nobody looks at. -/
theorem op_dead24 {W : World} {base n : Nat} {r : Reach} {v : Value} (hv : Value.okWide Tryz.prog W r base 87 v) : ∃ (l : List ME) (a b c d e g : Int) (q q' : Option SL), l.length ≤ 2 ∧ (∀ x ∈ l, x.r < W.heap.size) ∧
    ∀ μ : Ren, μ.length = n → AV.rel (μ ++ l) (.agg [.int .i64 a, .int .i64 b, .int .i64 c, .int .i64 d, .int .i64 e, .int .i64 g, .sl q, .sl q']) v := by
  obtain ⟨cs, rfl, hl, hc⟩ := row_cells (ts := [3, 3, 3, 3, 3, 3, 60, 33]) Tryz.underlying87 (.inl ⟨_, rfl⟩) hv (by kernel_rfl) (by kernel_rfl)
  obtain ⟨x0, g0, h0⟩ := hc 0 3 rfl
  obtain ⟨x1, g1, h1⟩ := hc 1 3 rfl
  obtain ⟨x2, g2, h2⟩ := hc 2 3 rfl
  obtain ⟨x3, g3, h3⟩ := hc 3 3 rfl
  obtain ⟨x4, g4, h4⟩ := hc 4 3 rfl
  obtain ⟨x5, g5, h5⟩ := hc 5 3 rfl
  obtain ⟨x6, g6, h6⟩ := hc 6 60 rfl
  obtain ⟨x7, g7, h7⟩ := hc 7 33 rfl
  obtain rfl : cs = [x0, x1, x2, x3, x4, x5, x6, x7] := by
    match cs, hl with
    | [y0, y1, y2, y3, y4, y5, y6, y7], _ => simp at g0 g1 g2 g3 g4 g5 g6 g7; simp_all
  obtain ⟨a, rfl⟩ := cell_int Tryz.underlying3 h0
  obtain ⟨b, rfl⟩ := cell_int Tryz.underlying3 h1
  obtain ⟨c, rfl⟩ := cell_int Tryz.underlying3 h2
  obtain ⟨d, rfl⟩ := cell_int Tryz.underlying3 h3
  obtain ⟨e, rfl⟩ := cell_int Tryz.underlying3 h4
  obtain ⟨g, rfl⟩ := cell_int Tryz.underlying3 h5
  obtain ⟨q, l1, hl1, hb1, hd⟩ := dead_slice Tryz.underlying60 h6 n
  obtain ⟨q', l2, hl2, hb2, hk⟩ := dead_slice Tryz.underlying33 h7 (n + l1.length)
  refine ⟨l1 ++ l2, a, b, c, d, e, g, q, q', by rw [List.length_append]; omega, ?_, fun μ hμ => ?_⟩
  · intro e he
    rcases List.mem_append.1 he with he | he
    · exact hb1 e he
    · exact hb2 e he
  · have hd' := hd μ hμ (μ ++ (l1 ++ l2)) (by rw [← List.append_assoc]; exact Ren.le_append _ l2)
    have hk' := hk (μ ++ l1) (by rw [List.length_append, hμ]) (μ ++ (l1 ++ l2)) (by rw [← List.append_assoc]; exact Ren.le.refl _)
    exact ⟨_, rfl, _, _, rfl, rfl, _, _, rfl, rfl, _, _, rfl, rfl, _, _, rfl, rfl, _, _, rfl, rfl, _, _, rfl, rfl, _, _, rfl, hd', _, _, rfl, hk', rfl⟩
set_option maxRecDepth 100000 in
theorem shardNobody_lifted (os : Os) (started : os.Started) (H : Type) (enc : TypeId × Value → H) :
    ReturnsInHanded {} Tryz.checked os 10 .any (fun w args => (Rows.shardNobodySpec.pre enc Tryz.prog Tryz.f10 Rows.shardNobodyRow.domain false w args ∧ laidMetH Tryz.prog laidL w) ∧ sizedMet enc Tryz.prog Tryz.f10 (OpenSpec.ofChange Rows.shardNobodySpec) false w args)
      (Rows.shardNobodySpec.post enc Tryz.prog Tryz.f10 false true false false) := by
  refine returnsInHanded_of_change_and (C := Tryz.checked) (X := fun w _ => laidMetH Tryz.prog laidL w) (fun _ _ _ hh h => h.of_heap hh) own3 started (by kernel_rfl) Tryz.func10
    (ChangeSpec.witness_shaped (enc := enc) (C := Tryz.checked) (os := os) (X := fun w _ => laidMetH Tryz.prog laidL w) false (World.laidAll Tryz.prog os laidL) #[.agg #[.int .i64 0, .int .i64 0, .int .i64 0, .int .i64 0, .int .i64 0, .int .i64 0, .slice none 0 0, .slice none 0 0]] 8 (World.laidAll_os _ _ _)
      (World.shaped_of_ZipB (by kernel_rfl) (by kernel_rfl)) (by kernel_rfl) (by kernel_rfl) (by kernel_rfl)
      (by rw [MakeChecks.laidMetH_plain _ _ _ (by kernel_rfl)]; exact laidMet_laidAll _ (by kernel_rfl) (by kernel_rfl))) ?_
  intro W base args ds gs before hval0 hW hc _ hL _
  have hval : ∀ (j : Nat) t v, Tryz.f10.params[j]? = some t → args[j]? = some v → Value.okWide Tryz.prog W .any base t v := hval0
  have hW' := hW
  obtain ⟨p, q, hA0, hV, rfl, _, _⟩ := hW
  have hA : DataW.TrodAll enc Tryz.prog W 0 (fun _ => true) true Tryz.f10.params.toList args.toList ds p := hA0
  rw [Tryz.params10] at hA hval
  obtain ⟨v0, vs0, d0, ds0, p0, q0, hargs, rfl, rfl, h0, r0⟩ := trodAll_cons hA
  obtain ⟨rfl, rfl, rfl⟩ := trodAll_nil r0
  obtain rfl : args = #[v0] := by cases args; simp_all
  obtain ⟨rfl, rfl⟩ := trodVars_none hV
  have hL' : laidMet Tryz.prog laidL W := by rwa [MakeChecks.laidMetH_plain _ _ _ (by kernel_rfl)] at hL
  obtain ⟨μ, HH⟩ := laid_heap hL'
  have hlen : μ.length = 8 := HH.len
  obtain ⟨l, a, b, c, d, e, g, q, q', hl, hb, hr⟩ := op_dead24 (n := 8) (hval 0 87 v0 rfl rfl)
  have hm0 : ∃ m, μ[0]? = some m := ⟨_, List.getElem?_eq_getElem (by omega)⟩
  obtain ⟨m0, hm0⟩ := hm0
  have hb0 := HH.bnd 0 m0 hm0
  obtain ⟨H2, ro2⟩ := HH.addDead (l ++ List.replicate (2 - l.length) m0) (laidHs_ro gsAV 0) (fun x hx => by
    rcases List.mem_append.1 hx with hx | hx
    · exact hb x hx
    · rw [List.eq_of_mem_replicate hx]; exact hb0)
  have hl2 : (l ++ List.replicate (2 - l.length) m0).length = 2 := by rw [List.length_append, List.length_replicate]; omega
  rw [hl2] at H2 ro2
  have hr2 := AV.rel.mono (Ren.le_append (μ ++ l) (List.replicate (2 - l.length) m0)) _ _ (hr μ hlen)
  rw [List.append_assoc] at hr2
  refine (calls_of_AC (args := #[v0]) s10 H2 ⟨_, _, rfl, hr2, rfl⟩ ro2).mono fun e W' ⟨he, hb⟩ => ?_
  exact ⟨_, he, post_yes hW' rfl rfl (by kernel_rfl) Tryz.underlying4 (by kernel_rfl) hb⟩

theorem shardNobody_row : Rows.ShardNobodySaid :=
  OpenClaim.holds_of_wide 10 Tryz.f10 rfl rfl rfl rfl rfl rfl rfl ⟨rfl, rfl, rfl, rfl, rfl⟩ rfl rfl rfl rfl rfl card10_name Tryz.func10 closed10
    (of_decide_eq_true (by kernel_rfl)) (by unfold Func.isWrapper; first | (rw [if_pos (by decide +kernel)]; kernel_rfl) | (rw [if_neg (by decide +kernel)]; exact ⟨rfl, rfl⟩))
    (fun os started H enc _ => shardNobody_lifted os started H enc)
theorem shardNobody_holds : Rows.ShardNobodyCardSaid :=
  Claim7.holds_tied_plain_at .later [] [.data, .data, .data, .data] true (true, "a135674dfacc129f112544c4b8fa39b787132e786b4bf04053af45495352e943") false shardNobody_row (fun _ h => by cases h) card10_wf (fun _ h => by cases h) shardNobody_row_tie rfl ⟨rfl, rfl⟩ card_main rfl
    (fun f fn hf hfn => by
      obtain rfl : f = 10 := Option.some.inj (card10_name.symm.trans hf) |>.symm
      obtain rfl : fn = Tryz.f10 := (Option.some.inj (Tryz.func10.symm.trans hfn)).symm
      exact ⟨card_looks, fun j t ht => by
        rw [Tryz.params10] at ht
        have hm : t ∈ [87] := by simpa using Array.mem_of_getElem? ht
        exact (show Tryz.prog.wantsStandIn t = false by simpa using List.all_eq_true.1 card10_stand t hm)⟩)
    card10_goes
end Go.Proofs.YtafmabnolelknaaGreatDoor
