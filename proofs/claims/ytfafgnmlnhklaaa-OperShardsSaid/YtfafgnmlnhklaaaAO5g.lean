/- OperShards answers yes for every node, all bags, every number of shards. -/
import Derived.Test.YtfafgnmlnhklaaaAG23
import Derived.Test.YtfafgnmlnhklaaaAG24
namespace Go.Proofs.Ytfafgnmlnhklaaa
open Go.Ab
open Go.ChangeShapes Go.WideShapes Go.ChangeAt Go.RowKit
set_option linter.unusedVariables false
set_option linter.unusedSimpArgs false

section
variable {H : Type} {enc : TypeId × Value → H} {W : World}
set_option maxRecDepth 100000 in
theorem int_val' {v : Value} {r : Reach} {base : Nat} (hv0 : Value.okWide Try.prog W r base 3 v) : ∃ n, v = .int .i64 n := by
  unfold Value.okWide at hv0
  rw [Try.underlying3] at hv0
  exact cell_int Try.underlying3 hv0
end

set_option maxRecDepth 100000 in
theorem operShards_lifted (os : Os) (started : os.Started) (H : Type) (enc : TypeId × Value → H) :
    ReturnsInHanded {} Try.checked os 5 .any (Rows.operShardsSpec.pre6 enc Try.prog Try.f5 Rows.operShardsRow.domain false) (Rows.operShardsSpec.post enc Try.prog Try.f5 false true false false) := by
  refine returnsInHanded_of_change (C := Try.checked) own started (by kernel_rfl) Try.func5
    (ChangeSpec.witness6 (enc := enc) (C := Try.checked) false ⟨#[], #[.agg #[.int .i64 0, .slice none 0 0, .int .i64 0, .int .i64 0, .int .i64 0, .slice none 0 0], .slice none 0 0, .int .i64 0], []⟩ 8 (by kernel_rfl) (by kernel_rfl) (by kernel_rfl) (by kernel_rfl)) ?_
  intro W base args ds gs before hval0 hW _ _
  have hval : ∀ (j : Nat) t v, Try.f5.params[j]? = some t → args[j]? = some v → Value.okWide Try.prog W .any base t v := hval0
  have hW' := hW
  obtain ⟨p, q, hA0, hV, rfl, hfz, hnd⟩ := hW
  have hA : DataW.TrodAll enc Try.prog W 0 (fun _ => true) true Try.f5.params.toList args.toList ds p := hA0
  rw [Try.params5] at hA hval
  obtain ⟨v0, vs0, d0, ds0, p0, q0, hargs, rfl, rfl, h0, r0⟩ := trodAll_cons hA
  obtain ⟨v1, vs1, d1, ds1, p1, q1, rfl, rfl, rfl, h1, r1⟩ := trodAll_cons r0
  obtain ⟨v2, vs2, d2, ds2, p2, q2', rfl, rfl, rfl, h2, r2⟩ := trodAll_cons r1
  obtain ⟨rfl, rfl, rfl⟩ := trodAll_nil r2
  obtain rfl : args = #[v0, v1, v2] := by cases args; simp_all
  obtain ⟨rfl, rfl⟩ := trodVars_none hV
  obtain ⟨μ, hp, q, ls, k1, k2, k3, k4⟩ := bags_in (hval 1 29 v1 rfl rfl) h1
  obtain ⟨n, rfl⟩ := int_val' (hval 2 3 v2 rfl rfl)
  obtain ⟨l2, bs2, op, k, a, A, q2, q6, m1, m2, m3⟩ := node_in (hval 0 51 v0 rfl rfl) k1 k2
  have G := k4.mono (Ext.app hp bs2)
  have G' : InGG (fun b => b < (hp ++ bs2).length) (hp ++ bs2) q ls := by
    obtain ⟨qs, g1, g2, g3, g4⟩ := G
    exact ⟨qs, g1, g2, fun s hs => by have := g3 s hs; rw [List.length_append]; omega, fun i s g hs hg => ⟨(g4 i s g hs hg).1, fun u hu => by have := (g4 i s g hs hg).2 u hu; rw [List.length_append]; omega⟩⟩
  refine (calls_of_AC (args := #[v0, v1, .int .i64 n]) (s5 (op := op) (k := k) (a := a) (A := A) (q2 := q2) (q6 := q6) G' (fun _ => (rfl : AV.bool true = AV.bool true))) m1 ⟨_, _, rfl, m3, _, _, rfl, AV.rel.mono (Ren.le_append _ _) _ _ k3, _, _, rfl, rfl, rfl⟩ m2).mono fun e W' ⟨he, hb⟩ => ?_
  exact ⟨_, he, post_yes hW' rfl rfl (by kernel_rfl) Try.underlying4 (by kernel_rfl) hb⟩

theorem operShards_holds : Rows.OperShardsSaid :=
  OpenClaim.holds_of_wide 5 Try.f5 rfl rfl rfl rfl rfl rfl rfl ⟨rfl, rfl, rfl, rfl, rfl⟩ rfl rfl rfl rfl rfl (by kernel_rfl) Try.func5 (by kernel_rfl)
    (of_decide_eq_true (by kernel_rfl)) (by unfold Func.isWrapper; first | (rw [if_pos (by decide +kernel)]; kernel_rfl) | (rw [if_neg (by decide +kernel)]; exact ⟨rfl, rfl⟩))
    (fun os started H enc _ => operShards_lifted os started H enc)
end Go.Proofs.Ytfafgnmlnhklaaa
