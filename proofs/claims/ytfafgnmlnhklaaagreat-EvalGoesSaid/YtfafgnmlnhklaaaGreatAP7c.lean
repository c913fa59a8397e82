/- EvalGoes answers yes for every graph and all inputs. -/
import Derived.Test.YtfafgnmlnhklaaaGreatAG19
import Derived.Test.YtfafgnmlnhklaaaGreatAG21
import Derived.Test.YtfafgnmlnhklaaaGreatAG25
namespace Go.Proofs.YtfafgnmlnhklaaaGreat
open Go.Ab
open Go.ChangeShapes Go.WideShapes Go.ChangeAt Go.RowKit
set_option linter.unusedVariables false
set_option linter.unusedSimpArgs false

set_option maxRecDepth 100000 in
theorem evalGoes_lifted (os : Os) (started : os.Started) (H : Type) (enc : TypeId × Value → H) :
    ReturnsInHanded {} Tryz.checked os 4 .any (Rows.evalGoesSpec.pre6 enc Tryz.prog Tryz.f4 Rows.evalGoesRow.domain false) (Rows.evalGoesSpec.post enc Tryz.prog Tryz.f4 false true false false) := by
  refine returnsInHanded_of_change (C := Tryz.checked) own started (by kernel_rfl) Tryz.func4
    (ChangeSpec.witness6 (enc := enc) (C := Tryz.checked) false ⟨#[], #[.agg #[.slice none 0 0, .int .i64 0], .slice none 0 0], []⟩ 8 (by kernel_rfl) (by kernel_rfl) (by kernel_rfl) (by kernel_rfl)) ?_
  intro W base args ds gs before hval0 hW _ _
  have hval : ∀ (j : Nat) t v, Tryz.f4.params[j]? = some t → args[j]? = some v → Value.okWide Tryz.prog W .any base t v := hval0
  have hW' := hW
  obtain ⟨p, q, hA0, hV, rfl, hfz, hnd⟩ := hW
  have hA : DataW.TrodAll enc Tryz.prog W 0 (fun _ => true) true Tryz.f4.params.toList args.toList ds p := hA0
  rw [Tryz.params4] at hA hval
  obtain ⟨v0, vs0, d0, ds0, p0, q0, hargs, rfl, rfl, h0, r0⟩ := trodAll_cons hA
  obtain ⟨v1, vs1, d1, ds1, p1, q1, rfl, rfl, rfl, h1, r1⟩ := trodAll_cons r0
  obtain ⟨rfl, rfl, rfl⟩ := trodAll_nil r1
  obtain rfl : args = #[v0, v1] := by cases args; simp_all
  obtain ⟨rfl, rfl⟩ := trodVars_none hV
  obtain ⟨μ, hp, q, ls, k1, k2, k3, k4⟩ := bags_in (hval 1 25 v1 rfl rfl) h1
  obtain ⟨l2, bs2, qg, out, l, m1, m2, m3, m4⟩ := graph_in (hval 0 24 v0 rfl rfl) h0 k1 k2
  have G' : InGG (fun b => b < (hp ++ bs2).length) (hp ++ bs2) q ls := ((k4.mono (Ext.app hp bs2)).live).imp fun b hb => hb.2
  refine (calls_of_AC (args := #[v0, v1]) (s4 s8 m4 G' (fun _ => (rfl : AV.bool true = AV.bool true))) m1 ⟨_, _, rfl, m3, _, _, rfl, AV.rel.mono (Ren.le_append _ _) _ _ k3, rfl⟩ m2).mono fun e W' ⟨he, hb⟩ => ?_
  exact ⟨_, he, post_yes hW' rfl rfl (by kernel_rfl) Tryz.underlying4 (by kernel_rfl) hb⟩

theorem evalGoes_holds : Rows.EvalGoesSaid :=
  OpenClaim.holds_of_wide 4 Tryz.f4 rfl rfl rfl rfl rfl rfl rfl ⟨rfl, rfl, rfl, rfl, rfl⟩ rfl rfl rfl rfl rfl (by kernel_rfl) Tryz.func4 (by kernel_rfl)
    (of_decide_eq_true (by kernel_rfl)) (by unfold Func.isWrapper; first | (rw [if_pos (by decide +kernel)]; kernel_rfl) | (rw [if_neg (by decide +kernel)]; exact ⟨rfl, rfl⟩))
    (fun os started H enc _ => evalGoes_lifted os started H enc)
end Go.Proofs.YtfafgnmlnhklaaaGreat
