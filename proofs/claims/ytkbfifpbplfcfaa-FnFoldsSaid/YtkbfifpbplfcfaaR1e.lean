/- The laws of functions of records: what each answers. -/
import Derived.Test.YtkbfifpbplfcfaaR1d
namespace Go.Proofs
open Go.Ab
set_option linter.unusedVariables false
set_option linter.unusedSimpArgs false

section
variable {h : Heap}

theorem vif_f {b : Bool} {A B : Prop} (h : b = false) (a : B) : vif b A B := by subst h; exact a
def Yes (v : AV) (_ : Heap) : Prop := v = .bool true

theorem mapV_ok {k a : Int} {r : Int × Int} (hf : fam k a ≠ 0) (hr : okR r = true) : okR (mapV k a r) = true := by
  obtain ⟨x, y⟩ := r
  have ha := fam_range hf
  have hm : (k = 4 ∨ k = 5 ∨ k = 6) → 1 ≤ a := fam_mod hf
  rw [okR_iff] at hr
  obtain ⟨⟨x0, x1⟩, y0, y1⟩ := hr
  simp only at x0 x1 y0 y1
  rw [okR_iff]
  unfold mapV
  split
  · simp only; omega
  split
  · simp only; omega
  split
  · simp only; omega
  split
  · have := hm (by omega)
    simp only
    have h1 := Int.emod_nonneg x (show a ≠ 0 by omega)
    have h2 := Int.emod_lt_of_pos x (show 0 < a by omega)
    omega
  split
  · have := hm (by omega)
    simp only
    have h1 := Int.emod_nonneg y (show a ≠ 0 by omega)
    have h2 := Int.emod_lt_of_pos y (show 0 < a by omega)
    omega
  split
  · have := hm (by omega)
    simp only
    have hd : 0 ≤ y / a ∧ y / a ≤ y := ⟨Int.ediv_nonneg y0 (by omega), Int.ediv_le_self a y0⟩
    omega
  split
  · simp only; split <;> omega
  split
  · simp only; split <;> omega
  · simp only; omega

theorem s3 {k a x y : Int} : AC Try.prog 3 [.agg [.int .i64 k, .int .i64 a], .agg [.int .i64 x, .int .i64 y]] h Yes := ac3 (by
  unfold vc3
  refine s8 fun h1 e1 => ?_
  rw [mayE_one]
  by_cases g : wantE k a 1 (x, y) = 0
  · rw [if_pos g]
    obtain ⟨hf, hr⟩ := wantE_zero g
    refine ⟨_, _, _, rfl, s9 fun h2 _ => ⟨_, rfl, ?_⟩⟩
    refine vif_f rfl (s10 ⟨_, rfl, ?_⟩)
    refine vif_f (by rw [g]; rfl) (vif_f rfl ?_)
    refine s11 (by omega) hr ⟨_, _, rfl, rfl, vif_t (by simp) (s12 ⟨_, rfl, ?_⟩)⟩
    exact congrArg AV.bool (mapV_ok (by omega) hr)
  · rw [if_neg g]
    refine ⟨_, _, _, rfl, s9 fun h2 _ => ⟨_, rfl, ?_⟩⟩
    refine vif_f rfl (s10 ⟨_, rfl, ?_⟩)
    exact vif_f (by simp) (vif_t (by simpa using g) rfl))

theorem s4 {k a x y : Int} : AC Try.prog 4 [.agg [.int .i64 k, .int .i64 a], .agg [.int .i64 x, .int .i64 y]] h Yes := ac4 (by
  unfold vc4
  refine s13 fun h1 e1 => ⟨_, _, rfl, s14 ⟨_, rfl, ?_⟩⟩
  have tail : ∀ h2 c, c = (if fam k a = 0 then (160 : Int) else 0) → AC Try.prog 16 [.agg [.int .i64 k, .int .i64 a]] h2 fun v21 h22 => ∃ n23 : Int, v21 = .int .i64 n23 ∧
      (LV.val (.agg [.int .i64 k, .int .i64 a]) = LV.val (.agg [.int .i64 k, .int .i64 a])) ∧
      AC Try.prog 14 [.agg [.int .i64 k, .int .i64 a]] h22 fun v24 h25 => ∃ n26 : Int, v24 = .int .i64 n26 ∧
      vif (n23 == n26) (AC Try.prog 17 [.agg [.int .i64 k, .int .i64 a]] h25 fun v27 h28 => ∃ n29 : Int, v27 = .int .i64 n29 ∧ Yes (.bool (n29 == c)) h28) (Yes (.bool false) h25) := by
    intro h2 c hc
    subst hc
    exact s16 ⟨_, rfl, rfl, s14 ⟨_, rfl, vif_t (by simp) (s17 ⟨_, rfl, by simp [Yes]⟩)⟩⟩
  refine vif_mk (fun g0 => ?_) fun g0 => ?_
  all_goals
    refine s9 fun h2 _ => ⟨_, rfl, vif_t rfl (s10 ⟨_, rfl, vif_t (by simp) ?_⟩)⟩
    refine vif_mk (fun g => ?_) fun g => ?_
    · have g : wantE k a 2 (x, y) = 0 := by simpa using g
      obtain ⟨hf, hr⟩ := wantE_zero g
      refine s15 hr ⟨_, rfl, vif_t (by simp [g]) ?_⟩
      exact tail _ _ (by simp at g0; simp [g0])
    · have g : wantE k a 2 (x, y) ≠ 0 := by simpa using g
      refine vif_t (by simp [g]) ?_
      exact tail _ _ (by simp at g0; simp [g0]))

theorem pairV_ok {k : Int} {r s : Int × Int} (hr : okR r = true) (hs : okR s = true) : okR (pairV k r s) = true := by
  have hr' := hr; have hs' := hs
  rw [okR_iff] at hr' hs'
  unfold pairV
  repeat' split
  · exact hr
  · exact hs
  · rw [okR_iff]; simp only; omega
  · rw [okR_iff]; simp only; omega

theorem s7 {k a x y u v : Int} : AC Try.prog 7 [.agg [.int .i64 k, .int .i64 a], .agg [.int .i64 x, .int .i64 y], .agg [.int .i64 u, .int .i64 v]] h Yes := ac7 (by
  unfold vc7
  refine s26 fun h1 e1 => ?_
  by_cases hf : fam k a = 5
  case neg =>
    have hp : pairE k a (x, y) (u, v) = 160 := by simp [pairE, hf]
    have hw : ∀ r, wantE k a 5 r = 160 := by intro r; simp [wantE, hf]
    rw [if_neg (by rw [hp]; decide)]
    refine ⟨_, _, _, rfl, s10 ⟨_, rfl, ?_⟩⟩
    rw [hw, hp]
    refine vif_f rfl (vif_f rfl (s9 fun h2 _ => ⟨_, rfl, vif_f rfl (vif_f rfl (vif_t rfl rfl))⟩))
  cases hr : okR (x, y) with
  | false =>
    have hp : pairE k a (x, y) (u, v) = 30 := by simp [pairE, hf, hr]
    have hw : wantE k a 5 (x, y) = 30 := by simp [wantE, hf, hr]
    rw [if_neg (by rw [hp]; decide)]
    refine ⟨_, _, _, rfl, s10 ⟨_, rfl, ?_⟩⟩
    rw [hw, hp]
    refine vif_f rfl (vif_f rfl (s9 fun h2 _ => ⟨_, rfl, vif_f rfl (vif_f rfl (vif_t rfl rfl))⟩))
  | true =>
    have hw : wantE k a 5 (x, y) = 0 := by simp [wantE, hf, hr]
    cases hs : okR (u, v) with
    | false =>
      have hp : pairE k a (x, y) (u, v) = 30 := by simp [pairE, hf, hs]
      have hw2 : wantE k a 5 (u, v) = 30 := by simp [wantE, hf, hs]
      rw [if_neg (by rw [hp]; decide)]
      refine ⟨_, _, _, rfl, s10 ⟨_, rfl, ?_⟩⟩
      rw [hw]
      refine vif_t rfl (s10 ⟨_, rfl, ?_⟩)
      rw [hw2, hp]
      refine vif_f rfl (s9 fun h2 _ => ⟨_, rfl, vif_f rfl (vif_f rfl (vif_t rfl rfl))⟩)
    | true =>
      have hw2 : wantE k a 5 (u, v) = 0 := by simp [wantE, hf, hs]
      by_cases hk : x = u
      · have hp : pairE k a (x, y) (u, v) = 0 := by subst hk; simp [pairE, hf, hr, hs]
        rw [if_pos hp]
        refine ⟨_, _, _, rfl, s10 ⟨_, rfl, ?_⟩⟩
        rw [hw]
        refine vif_t rfl (s10 ⟨_, rfl, ?_⟩)
        rw [hw2]
        refine vif_t rfl (vif_f (by simp [hk]) (s9 fun h2 _ => ⟨_, rfl, vif_f rfl (vif_f rfl (vif_f rfl ?_))⟩))
        refine s27 hr hs ⟨_, _, rfl, rfl, vif_t (by simp) (s12 ⟨_, rfl, ?_⟩)⟩
        exact congrArg AV.bool (pairV_ok hr hs)
      · have hp : pairE k a (x, y) (u, v) = 1 := by simp [pairE, hf, hr, hs, hk]
        rw [if_neg (by rw [hp]; decide)]
        refine ⟨_, _, _, rfl, s10 ⟨_, rfl, ?_⟩⟩
        rw [hw]
        refine vif_t rfl (s10 ⟨_, rfl, ?_⟩)
        rw [hw2, hp]
        refine vif_t rfl (vif_t (by simpa using hk) (s9 fun h2 _ => ⟨_, rfl, vif_f rfl (vif_f rfl (vif_t rfl rfl))⟩)))
end
end Go.Proofs
