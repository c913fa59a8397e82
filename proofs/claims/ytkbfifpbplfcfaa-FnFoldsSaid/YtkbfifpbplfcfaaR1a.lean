/- Functions of records: what each does. The small ones. -/
import Derived.Test.YtkbfifpbplfcfaaR1v
import Derived.Test.YtkbfifpbplfcfaaAb20
namespace Go.Proofs
open Go.Ab
set_option linter.unusedVariables false
set_option linter.unusedSimpArgs false

/-- A number that may be; a record that may be. -/
def okN (n : Int) : Bool := decide (0 ≤ n) && decide (n ≤ 1048575)
def okR (r : Int × Int) : Bool := okN r.1 && okN r.2

theorem okN_iff {n : Int} : okN n = true ↔ 0 ≤ n ∧ n ≤ 1048575 := by simp [okN]
theorem okR_iff {r : Int × Int} : okR r = true ↔ (0 ≤ r.1 ∧ r.1 ≤ 1048575) ∧ (0 ≤ r.2 ∧ r.2 ≤ 1048575) := by simp [okR, okN_iff]

def recE : Enc (Int × Int) where
  sz := 2
  f r := [.int .i64 r.1, .int .i64 r.2]
  len _ := rfl
  pos := by decide
  one _ := rfl

/-- A function's family. -/
def fam (k a : Int) : Int :=
  if a < 0 ∨ 1048576 ≤ a then 0 else
  if k = 1 ∨ k = 2 ∨ k = 7 ∨ k = 8 then 1 else
  if (k = 4 ∨ k = 5 ∨ k = 6) ∧ 1 ≤ a then 1 else
  if k = 9 ∨ k = 10 ∨ k = 11 then 2 else
  if (k = 13 ∨ k = 14) ∧ a ≤ 8 then 3 else
  if a ≠ 0 then 0 else
  if k = 3 then 1 else if k = 12 then 2 else if k = 15 then 3 else
  if 16 ≤ k ∧ k ≤ 19 then 4 else if 20 ≤ k ∧ k ≤ 23 then 5 else 0

section
variable {h : Heap} {Q : AV → Heap → Prop}

theorem s29 {n : Int} (h0 : 0 ≤ n) (h1 : n ≤ 9223372036854775807) (hQ : Q (.int .i64 (n % 1048576)) h) : AC Try.prog 29 [.int .i64 n] h Q := ac29 (by
  unfold vc29
  have := bitsAnd_mask 20 (by decide) h0 h1
  have e1 : (2 : Int) ^ 20 - 1 = 1048575 := by decide
  have e2 : (2 : Int) ^ 20 = 1048576 := by decide
  rw [e1, e2] at this
  rw [this]; exact hQ)
theorem s31 {n : Int} (h0 : 0 ≤ n) (hQ : Q (.int .i64 (n % 1048576)) h) : AC Try.prog 31 [.int .i64 n] h Q := ac31 (by
  unfold vc31; rw [tmod_pos h0]; exact hQ)
theorem s30 {a b : Int} (hQ : Q (.agg [.int .i64 b, .int .i64 a]) h) : AC Try.prog 30 [.agg [.int .i64 a, .int .i64 b]] h Q := ac30 (by unfold vc30; exact hQ)
theorem s42 {n : Int} (hQ : Q (.bool (okN n)) h) : AC Try.prog 42 [.int .i64 n] h Q := ac42 (by
  unfold vc42
  by_cases h0 : 0 ≤ n
  · have : decide (n ≥ 0) = true := by simpa using h0
    rw [this]; simpa [vif, okN, h0] using hQ
  · have : decide (n ≥ 0) = false := by simpa using h0
    rw [this]; simpa [vif, okN, h0] using hQ)
theorem s39 {a b : Int} (hQ : Q (.int .i64 (if okR (a, b) then 0 else 30)) h) : AC Try.prog 39 [.agg [.int .i64 a, .int .i64 b]] h Q := ac39 (by
  unfold vc39
  refine s42 ⟨_, rfl, ?_⟩
  simp only [vif_not]
  cases ha : okN a with
  | false => simpa [vif, okR, ha] using hQ
  | true =>
    refine s42 ⟨_, rfl, ?_⟩
    cases hb : okN b <;> simpa [vif, okR, ha, hb] using hQ)
theorem s12 {a b : Int} (hQ : Q (.bool (okR (a, b))) h) : AC Try.prog 12 [.agg [.int .i64 a, .int .i64 b]] h Q := ac12 (by
  unfold vc12
  have hq : ∀ c : Bool, okR (a, b) = c → Q (.bool c) h := by rintro c rfl; exact hQ
  simp only [vif_dec]
  refine ⟨fun h1 => ⟨fun h2 => ⟨fun h3 => hq _ ?_, fun h3 => hq _ ?_⟩, fun h2 => hq _ ?_⟩, fun h1 => hq _ ?_⟩
  · simp only [okR, okN]
    have e : (decide (b < 1048576)) = decide (b ≤ 1048575) := by rw [decide_eq_decide]; omega
    rw [e, decide_eq_true (by omega : 0 ≤ a), decide_eq_true (by omega : a ≤ 1048575), decide_eq_true (by omega : 0 ≤ b)]; rfl
  all_goals
    cases hc : okR (a, b) with
    | false => rfl
    | true => rw [okR_iff] at hc; simp only at hc; omega)

theorem kinds (k : Int) : k = 1 ∨ k = 2 ∨ k = 3 ∨ k = 4 ∨ k = 5 ∨ k = 6 ∨ k = 7 ∨ k = 8 ∨ k = 9 ∨ k = 10 ∨ k = 11 ∨ k = 12 ∨ k = 13 ∨ k = 14 ∨ k = 15 ∨ k = 16 ∨ k = 17 ∨ k = 18 ∨ k = 19 ∨ k = 20 ∨ k = 21 ∨ k = 22 ∨ k = 23 ∨
    (k < 1 ∨ 23 < k) := by omega

theorem s14 {k a : Int} (hQ : Q (.int .i64 (fam k a)) h) : AC Try.prog 14 [.agg [.int .i64 k, .int .i64 a]] h Q := ac14 (by
  have hq : ∀ c : Int, fam k a = c → Q (.int .i64 c) h := by rintro c rfl; exact hQ
  clear hQ
  unfold vc14
  have hk := kinds k
  rcases Int.lt_or_le a 0 with h1 | h1
  · have e1 : decide (a < 0) = true := by simpa using h1
    rw [e1]
    exact hq _ (by unfold fam; rw [if_pos (by omega)])
  have e1 : decide (a < 0) = false := by simpa using h1
  rw [e1]
  rcases Int.lt_or_le a 1048576 with h2 | h2
  · have e2 : decide (a ≥ 1048576) = false := by simpa using h2
    rw [e2]
    have hf : fam k a = if k = 1 ∨ k = 2 ∨ k = 7 ∨ k = 8 then 1 else
      if (k = 4 ∨ k = 5 ∨ k = 6) ∧ 1 ≤ a then 1 else
      if k = 9 ∨ k = 10 ∨ k = 11 then 2 else
      if (k = 13 ∨ k = 14) ∧ a ≤ 8 then 3 else
      if a ≠ 0 then 0 else
      if k = 3 then 1 else if k = 12 then 2 else if k = 15 then 3 else
      if 16 ≤ k ∧ k ≤ 19 then 4 else if 20 ≤ k ∧ k ≤ 23 then 5 else 0 := by
        unfold fam; rw [if_neg (by omega)]
    rw [hf] at hq
    clear hf e1 e2
    simp only [vif_false]
    rcases hk with rfl | rfl | rfl | rfl | rfl | rfl | rfl | rfl | rfl | rfl | rfl | rfl | rfl | rfl | rfl | rfl | rfl | rfl | rfl | rfl | rfl | rfl | rfl | hk
    case inr.inr.inr.inr.inr.inr.inr.inr.inr.inr.inr.inr.inr.inr.inr.inr.inr.inr.inr.inr.inr.inr.inr =>
      have ne : ∀ n : Int, 1 ≤ n ∧ n ≤ 23 → (k == n) = false := by intro n hn; have : k ≠ n := by omega
                                                                   simpa using this
      simp only [ne 1 (by decide), ne 2 (by decide), ne 3 (by decide), ne 4 (by decide), ne 5 (by decide), ne 6 (by decide), ne 7 (by decide), ne 8 (by decide), ne 9 (by decide), ne 10 (by decide), ne 11 (by decide), ne 12 (by decide),
        ne 13 (by decide), ne 14 (by decide), ne 15 (by decide), ne 16 (by decide), ne 17 (by decide), ne 18 (by decide), ne 19 (by decide), ne 20 (by decide), ne 21 (by decide), ne 22 (by decide), ne 23 (by decide), vif_false, vif_ne]
      refine ⟨fun _ => hq _ ?_, fun _ => hq _ ?_⟩
      · rw [if_neg (by omega), if_neg (by omega), if_neg (by omega), if_neg (by omega), if_pos (by omega)]
      · rw [if_neg (by omega), if_neg (by omega), if_neg (by omega), if_neg (by omega), if_neg (by omega), if_neg (by omega), if_neg (by omega), if_neg (by omega), if_neg (by omega), if_neg (by omega)]
    all_goals
      have hQ := hq _ rfl
      clear hq
      simp [vif_eq, vif_ne, vif_dec, vif_true, vif_false] at hQ ⊢
      first
        | exact hQ
        | (repeat' first | apply And.intro | intro _
           all_goals
             split at hQ
             all_goals first | exact hQ | omega | (split at hQ <;> first | exact hQ | omega))
  · have e2 : decide (a ≥ 1048576) = true := by simpa using h2
    rw [e2]
    exact hq _ (by unfold fam; rw [if_pos (by omega)]))

theorem s32 {k : Int} (hQ : Q (.int .i64 (if k < 1 then 0 else if k ≤ 8 then 1 else if k ≤ 12 then 2 else if k ≤ 15 then 3 else if k ≤ 19 then 4 else if k ≤ 23 then 5 else 0)) h) : AC Try.prog 32 [.int .i64 k] h Q := ac32 (by
  unfold vc32
  revert hQ
  simp only [vif_dec]
  intro hQ
  refine ⟨fun h1 => by simpa [h1] using hQ, fun h1 => ⟨fun h2 => by simpa [h1, h2] using hQ, fun h2 => ⟨fun h3 => by simpa [h1, h2, h3] using hQ, fun h3 => ⟨fun h4 => by simpa [h1, h2, h3, h4] using hQ, fun h4 =>
    ⟨fun h5 => by simpa [h1, h2, h3, h4, h5] using hQ, fun h5 => ⟨fun h6 => by simpa [h1, h2, h3, h4, h5, h6] using hQ, fun h6 => by simpa [h1, h2, h3, h4, h5, h6] using hQ⟩⟩⟩⟩⟩⟩)

set_option maxHeartbeats 1000000 in
theorem s33 {k : Int} (hQ : Q (.tup [.int .i64 (if k = 4 ∨ k = 5 ∨ k = 6 then 1 else 0), .int .i64 (if k = 4 ∨ k = 5 ∨ k = 6 ∨ k = 1 ∨ k = 2 ∨ k = 7 ∨ k = 8 ∨ k = 9 ∨ k = 10 ∨ k = 11 then 1048575 else if k = 13 ∨ k = 14 then 8 else 0)]) h) :
    AC Try.prog 33 [.int .i64 k] h Q := ac33 (by
  unfold vc33
  simp only [vif_eq]
  repeat' first | apply And.intro | intro _
  all_goals
    simp_all)

/-- What it takes to be of no family. -/
theorem fam_zero {k a : Int} : fam k a = 0 ↔ (k < 1 ∨ 23 < k) ∨ a < (if k = 4 ∨ k = 5 ∨ k = 6 then 1 else 0) ∨
    (if k = 4 ∨ k = 5 ∨ k = 6 ∨ k = 1 ∨ k = 2 ∨ k = 7 ∨ k = 8 ∨ k = 9 ∨ k = 10 ∨ k = 11 then 1048575 else if k = 13 ∨ k = 14 then 8 else 0) < a := by
  by_cases hk : k = 4 ∨ k = 5 ∨ k = 6
  · have e : (k = 4 ∨ k = 5 ∨ k = 6 ∨ k = 1 ∨ k = 2 ∨ k = 7 ∨ k = 8 ∨ k = 9 ∨ k = 10 ∨ k = 11) := by omega
    rw [if_pos hk, if_pos e]
    unfold fam
    by_cases h1 : a < 0 ∨ 1048576 ≤ a
    · rw [if_pos h1]; omega
    · rw [if_neg h1, if_neg (by omega)]
      by_cases h2 : 1 ≤ a
      · rw [if_pos ⟨hk, h2⟩]; omega
      · rw [if_neg (by omega), if_neg (by omega), if_neg (by omega), if_neg (by omega), if_neg (by omega), if_neg (by omega), if_neg (by omega), if_neg (by omega), if_neg (by omega)]; omega
  · rw [if_neg hk]
    unfold fam
    by_cases h1 : a < 0 ∨ 1048576 ≤ a
    · rw [if_pos h1]
      repeat' split
      all_goals omega
    · rw [if_neg h1]
      by_cases h2 : k = 1 ∨ k = 2 ∨ k = 7 ∨ k = 8
      · rw [if_pos h2, if_pos (by omega)]; omega
      · rw [if_neg h2, if_neg (by omega)]
        by_cases h3 : k = 9 ∨ k = 10 ∨ k = 11
        · rw [if_pos h3, if_pos (by omega)]; omega
        · rw [if_neg h3]
          by_cases h4 : k = 13 ∨ k = 14
          · rw [if_neg (by omega : ¬ (k = 4 ∨ k = 5 ∨ k = 6 ∨ k = 1 ∨ k = 2 ∨ k = 7 ∨ k = 8 ∨ k = 9 ∨ k = 10 ∨ k = 11)), if_pos h4]
            by_cases h5 : a ≤ 8
            · rw [if_pos ⟨h4, h5⟩]; omega
            · rw [if_neg (by omega), if_pos (by omega)]; omega
          · rw [if_neg (by omega), if_neg (by omega : ¬ (k = 4 ∨ k = 5 ∨ k = 6 ∨ k = 1 ∨ k = 2 ∨ k = 7 ∨ k = 8 ∨ k = 9 ∨ k = 10 ∨ k = 11)), if_neg h4]
            by_cases h6 : a = 0
            · rw [if_neg (by omega)]
              repeat' split
              all_goals omega
            · rw [if_pos h6]; omega

theorem s17 {k a : Int} (hQ : Q (.int .i64 (if fam k a = 0 then 160 else 0)) h) : AC Try.prog 17 [.agg [.int .i64 k, .int .i64 a]] h Q := ac17 (by
  have hq : ∀ c : Int, (if fam k a = 0 then (160 : Int) else 0) = c → Q (.int .i64 c) h := by rintro c rfl; exact hQ
  have h160 : fam k a = 0 → Q (.int .i64 160) h := fun e => hq _ (if_pos e)
  have h0 : fam k a ≠ 0 → Q (.int .i64 0) h := fun e => hq _ (if_neg e)
  rw [ne_eq, fam_zero] at h0
  rw [fam_zero] at h160
  clear hq hQ
  unfold vc17
  refine s33 ⟨_, _, rfl, s32 ⟨_, rfl, ?_⟩⟩
  generalize (if k = 4 ∨ k = 5 ∨ k = 6 then (1 : Int) else 0) = least at *
  generalize (if k = 4 ∨ k = 5 ∨ k = 6 ∨ k = 1 ∨ k = 2 ∨ k = 7 ∨ k = 8 ∨ k = 9 ∨ k = 10 ∨ k = 11 then (1048575 : Int) else if k = 13 ∨ k = 14 then 8 else 0) = most at *
  have hz : (if k < 1 then (0 : Int) else if k ≤ 8 then 1 else if k ≤ 12 then 2 else if k ≤ 15 then 3 else if k ≤ 19 then 4 else if k ≤ 23 then 5 else 0) = 0 ↔ (k < 1 ∨ 23 < k) := by
    repeat' split
    all_goals omega
  simp only [vif_eq, vif_dec]
  refine ⟨fun g => h160 (.inl (hz.1 g)), fun g => ⟨fun g1 => h160 (.inr (.inl g1)), fun g1 => ⟨fun g2 => h160 (.inr (.inr g2)), fun g2 => h0 ?_⟩⟩⟩
  rintro (h1 | h1 | h1)
  · exact g (hz.2 h1)
  · exact g1 h1
  · exact g2 h1)

theorem fam_kind {k a : Int} (h : fam k a ≠ 0) : fam k a = if k < 1 then 0 else if k ≤ 8 then 1 else if k ≤ 12 then 2 else if k ≤ 15 then 3 else if k ≤ 19 then 4 else if k ≤ 23 then 5 else 0 := by
  revert h
  unfold fam
  by_cases h1 : a < 0 ∨ 1048576 ≤ a
  · rw [if_pos h1]; intro h; exact absurd rfl h
  · rw [if_neg h1]
    rcases kinds k with rfl | rfl | rfl | rfl | rfl | rfl | rfl | rfl | rfl | rfl | rfl | rfl | rfl | rfl | rfl | rfl | rfl | rfl | rfl | rfl | rfl | rfl | rfl | hk
    case inr.inr.inr.inr.inr.inr.inr.inr.inr.inr.inr.inr.inr.inr.inr.inr.inr.inr.inr.inr.inr.inr.inr =>
      rw [if_neg (by omega), if_neg (by omega), if_neg (by omega), if_neg (by omega)]
      repeat' split
      all_goals (intros; omega)
    all_goals simp

theorem s16 {k a : Int} (hQ : Q (.int .i64 (fam k a)) h) : AC Try.prog 16 [.agg [.int .i64 k, .int .i64 a]] h Q := ac16 (by
  have hq : ∀ c : Int, fam k a = c → Q (.int .i64 c) h := by rintro c rfl; exact hQ
  unfold vc16
  refine s17 ⟨_, rfl, ?_⟩
  simp only [vif_ne]
  refine ⟨fun h1 => hq _ ?_, fun h1 => s32 ⟨_, rfl, hq _ (fam_kind ?_)⟩⟩
  · split at h1
    · assumption
    · exact absurd rfl h1
  · intro h2
    rw [if_pos h2] at h1
    omega)
end
end Go.Proofs
