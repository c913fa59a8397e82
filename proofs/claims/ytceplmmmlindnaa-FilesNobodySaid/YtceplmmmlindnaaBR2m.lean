/- FilesNobody answers yes for every input: any numbers, any texts, any slices of bytes and of numbers. -/
import Derived.Test.YtceplmmmlindnaaBR2r
import Derived.Test.YtceplmmmlindnaaBR2k
import Derived.Test.YtceplmmmlindnaaBAb23
namespace Go.Proofs.Ytceplmmmlindnaa
open Go.Ab
open Go.ChangeShapes Go.WideShapes Go.ChangeAt Go.RowKit
set_option linter.unusedVariables false

abbrev opV (a b c u : Int) (s t : List UInt8) (d k : Option SL) : AV := .agg [.int .i64 a, .str s, .str t, .int .i64 b, .int .i64 c, .int .u32 u, .sl d, .sl k]
theorem s9 (n : Nat) (hn : n ≤ 2) (a b c u : Int) (s t : List UInt8) (d k : Option SL) : AC Try.prog 9 [opV a b c u s t d k] (List.replicate n .dead) fun v _ => v = .bool true := by
  match n, hn with
  | 0, _ => exact erun_ok Try.ovOk 60 9 _ _ _ _ _ HFor_nil (fun v e' h' _ hv => isTrue_ok hv) (run9_0 a b c u s t d k)
  | 1, _ => exact erun_ok Try.ovOk 60 9 _ _ _ _ _ HFor_dead1 (fun v e' h' _ hv => isTrue_ok hv) (run9_1 a b c u s t d k)
  | 2, _ => exact erun_ok Try.ovOk 60 9 _ _ _ _ _ HFor_dead2 (fun v e' h' _ hv => isTrue_ok hv) (run9_2 a b c u s t d k)

set_option maxRecDepth 100000 in
theorem open_op {W : World} {r : Reach} {base : Nat} {v : Value} (hv : Value.okWide Try.prog W r base 72 v) :
    ∃ (μ : Ren) (a b c u : Int) (s t : List UInt8) (d k : Option SL), μ.length ≤ 2 ∧ (∀ e ∈ μ, e.r < W.heap.size) ∧ (opV a b c u s t d k).rel μ v := by
  obtain ⟨cs, rfl, hl, hc⟩ := row_cells (ts := [3, 9, 9, 3, 3, 69, 29, 70]) Try.underlying72 (.inl ⟨_, rfl⟩) hv (by kernel_rfl) (by kernel_rfl)
  obtain ⟨x0, g0, h0⟩ := hc 0 3 rfl
  obtain ⟨x1, g1, h1⟩ := hc 1 9 rfl
  obtain ⟨x2, g2, h2⟩ := hc 2 9 rfl
  obtain ⟨x3, g3, h3⟩ := hc 3 3 rfl
  obtain ⟨x4, g4, h4⟩ := hc 4 3 rfl
  obtain ⟨x5, g5, h5⟩ := hc 5 69 rfl
  obtain ⟨x6, g6, h6⟩ := hc 6 29 rfl
  obtain ⟨x7, g7, h7⟩ := hc 7 70 rfl
  obtain rfl : cs = [x0, x1, x2, x3, x4, x5, x6, x7] := by
    match cs, hl with
    | [y0, y1, y2, y3, y4, y5, y6, y7], _ => simp at g0 g1 g2 g3 g4 g5 g6 g7; simp_all
  obtain ⟨a, rfl⟩ := cell_int Try.underlying3 h0
  obtain ⟨s, rfl⟩ := cell_str Try.underlying9 h1
  obtain ⟨t, rfl⟩ := cell_str Try.underlying9 h2
  obtain ⟨b, rfl⟩ := cell_int Try.underlying3 h3
  obtain ⟨c, rfl⟩ := cell_int Try.underlying3 h4
  obtain ⟨u, rfl⟩ := cell_int Try.underlying69 h5
  obtain ⟨d, l1, hl1, hb1, hd⟩ := dead_slice Try.underlying29 h6 0
  obtain ⟨k, l2, hl2, hb2, hk⟩ := dead_slice Try.underlying70 h7 l1.length
  have hd' := hd [] rfl (l1 ++ l2) (by simpa using Ren.le_append l1 l2)
  have hk' := hk l1 rfl (l1 ++ l2) (Ren.le.refl _)
  refine ⟨l1 ++ l2, a, b, c, u, s, t, d, k, by simp; omega, ?_, ?_⟩
  · intro e he
    rcases List.mem_append.1 he with he | he
    · exact hb1 e he
    · exact hb2 e he
  · exact ⟨_, rfl, _, _, rfl, rfl, _, _, rfl, rfl, _, _, rfl, rfl, _, _, rfl, rfl, _, _, rfl, rfl, _, _, rfl, rfl, _, _, rfl, hd', _, _, rfl, hk', rfl⟩

set_option maxRecDepth 100000 in
theorem files_lifted (os : Os) (started : os.Started) (H : Type) (enc : TypeId × Value → H) :
    ReturnsInHanded {} Try.checked os 9 .any (Rows.filesNobodySpec.pre6 enc Try.prog Try.f9 Rows.filesNobodyRow.domain false) (Rows.filesNobodySpec.post enc Try.prog Try.f9 false true false false) := by
  refine returnsInHanded_of_change (C := Try.checked) own started (by kernel_rfl) Try.func9
    (ChangeSpec.witness6 (enc := enc) (C := Try.checked) false ⟨#[], #[.agg #[.int .i64 0, .string ⟨#[]⟩, .string ⟨#[]⟩, .int .i64 0, .int .i64 0, .int .u32 0, .slice none 0 0, .slice none 0 0]], []⟩ 8 (by kernel_rfl) (by kernel_rfl) (by kernel_rfl) (by kernel_rfl)) ?_
  intro W base args ds gs before hval0 hW _ _
  have hval : ∀ (j : Nat) t v, Try.f9.params[j]? = some t → args[j]? = some v → Value.okWide Try.prog W .any base t v := hval0
  have hW' := hW
  obtain ⟨p, q, hA0, hV, rfl, hfz, hnd⟩ := hW
  have hA : DataW.TrodAll enc Try.prog W 0 (fun _ => true) true Try.f9.params.toList args.toList ds p := hA0
  rw [Try.params9] at hA hval
  obtain ⟨v0, vs0, d0, ds0, p0, q0, hargs, rfl, rfl, h0, r0⟩ := trodAll_cons hA
  obtain ⟨rfl, rfl, rfl⟩ := trodAll_nil r0
  obtain rfl : args = #[v0] := by cases args; simp_all
  obtain ⟨rfl, rfl⟩ := trodVars_none hV
  obtain ⟨μ, a, b, c, u, s, t, d, k, hl, hb, hr⟩ := open_op (hval 0 72 v0 rfl rfl)
  refine (calls_of_AC (args := #[v0]) (s9 μ.length hl a b c u s t d k) (hrel_dead hb) ⟨_, _, rfl, hr, rfl⟩ dead_ro).mono fun e W' ⟨he, hb⟩ => ?_
  exact ⟨_, he, post_yes hW' rfl rfl (by kernel_rfl) Try.underlying4 (by kernel_rfl) hb⟩

theorem filesNobody_holds : Rows.FilesNobodySaid :=
  OpenClaim.holds_of_wide 9 Try.f9 rfl rfl rfl rfl rfl rfl rfl ⟨rfl, rfl, rfl, rfl, rfl⟩ rfl rfl rfl rfl rfl (by kernel_rfl) Try.func9 (by kernel_rfl)
    (of_decide_eq_true (by kernel_rfl)) (by unfold Func.isWrapper; first | (rw [if_pos (by decide +kernel)]; kernel_rfl) | (rw [if_neg (by decide +kernel)]; exact ⟨rfl, rfl⟩))
    (fun os started H enc _ => files_lifted os started H enc)
end Go.Proofs.Ytceplmmmlindnaa
