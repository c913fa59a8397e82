/- Functions of records: what each does. The small ones. -/
import Derived.Test.YtfafgnmlnhklaaaBG7
import Derived.Test.YtfafgnmlnhklaaaBG8
namespace Go.Proofs.Ytfafgnmlnhklaaa
open Go.Ab
set_option linter.unusedVariables false
set_option linter.unusedSimpArgs false

/-- A number that may be; a record that may be. -/
def okN (n : Int) : Bool := decide (0 ≤ n) && decide (n ≤ 1048575)
def okR (r : Int × Int) : Bool := okN r.1 && okN r.2

theorem okN_iff {n : Int} : okN n = true ↔ 0 ≤ n ∧ n ≤ 1048575 := by simp [okN]
theorem okR_iff {r : Int × Int} : okR r = true ↔ (0 ≤ r.1 ∧ r.1 ≤ 1048575) ∧ (0 ≤ r.2 ∧ r.2 ≤ 1048575) := by simp [okR, okN_iff]

def recE : Enc (Int × Int) where
  sz := 2
  f r := [.int .i64 r.1, .int .i64 r.2]
  len _ := rfl
  pos := by decide
  one _ := rfl

/-- A function's family. -/
def fam (k a : Int) : Int :=
  if a < 0 ∨ 1048576 ≤ a then 0 else
  if k = 1 ∨ k = 2 ∨ k = 7 ∨ k = 8 then 1 else
  if (k = 4 ∨ k = 5 ∨ k = 6) ∧ 1 ≤ a then 1 else
  if k = 9 ∨ k = 10 ∨ k = 11 then 2 else
  if (k = 13 ∨ k = 14) ∧ a ≤ 8 then 3 else
  if a ≠ 0 then 0 else
  if k = 3 then 1 else if k = 12 then 2 else if k = 15 then 3 else
  if 16 ≤ k ∧ k ≤ 19 then 4 else if 20 ≤ k ∧ k ≤ 23 then 5 else 0

section
variable {h : Heap} {Q : AV → Heap → Prop}

theorem o105 {n : Int} (h0 : 0 ≤ n) (h1 : n ≤ 9223372036854775807) (hQ : Q (.int .i64 (n % 1048576)) h) : AC Try.prog 105 [.int .i64 n] h Q := ac105 (by
  unfold vc105
  have := bitsAnd_mask 20 (by decide) h0 h1
  have e1 : (2 : Int) ^ 20 - 1 = 1048575 := by decide
  have e2 : (2 : Int) ^ 20 = 1048576 := by decide
  rw [e1, e2] at this
  rw [this]; exact hQ)
theorem o106 {a b : Int} (hQ : Q (.agg [.int .i64 b, .int .i64 a]) h) : AC Try.prog 106 [.agg [.int .i64 a, .int .i64 b]] h Q := ac106 (by unfold vc106; exact hQ)
theorem o76 {n : Int} (hQ : Q (.bool (okN n)) h) : AC Try.prog 76 [.int .i64 n] h Q := ac76 (by
  unfold vc76
  by_cases h0 : 0 ≤ n
  · have : decide (n ≥ 0) = true := by simpa using h0
    rw [this]; simpa [vif, okN, h0] using hQ
  · have : decide (n ≥ 0) = false := by simpa using h0
    rw [this]; simpa [vif, okN, h0] using hQ)
theorem o56 {a b : Int} (hQ : Q (.int .i64 (if okR (a, b) then 0 else 30)) h) : AC Try.prog 56 [.agg [.int .i64 a, .int .i64 b]] h Q := ac56 (by
  unfold vc56
  refine o76 ⟨_, rfl, ?_⟩
  simp only [vif_not]
  cases ha : okN a with
  | false => simpa [vif, okR, ha] using hQ
  | true =>
    refine o76 ⟨_, rfl, ?_⟩
    cases hb : okN b <;> simpa [vif, okR, ha, hb] using hQ)
theorem o42 {a b : Int} (hQ : Q (.bool (okR (a, b))) h) : AC Try.prog 42 [.agg [.int .i64 a, .int .i64 b]] h Q := ac42 (by
  unfold vc42
  have hq : ∀ c : Bool, okR (a, b) = c → Q (.bool c) h := by rintro c rfl; exact hQ
  simp only [vif_dec]
  refine ⟨fun h1 => ⟨fun h2 => ⟨fun h3 => hq _ ?_, fun h3 => hq _ ?_⟩, fun h2 => hq _ ?_⟩, fun h1 => hq _ ?_⟩
  · simp only [okR, okN]
    have e : (decide (b < 1048576)) = decide (b ≤ 1048575) := by rw [decide_eq_decide]; omega
    rw [e, decide_eq_true (by omega : 0 ≤ a), decide_eq_true (by omega : a ≤ 1048575), decide_eq_true (by omega : 0 ≤ b)]; rfl
  all_goals
    cases hc : okR (a, b) with
    | false => rfl
    | true => rw [okR_iff] at hc; simp only at hc; omega)

theorem kinds (k : Int) : k = 1 ∨ k = 2 ∨ k = 3 ∨ k = 4 ∨ k = 5 ∨ k = 6 ∨ k = 7 ∨ k = 8 ∨ k = 9 ∨ k = 10 ∨ k = 11 ∨ k = 12 ∨ k = 13 ∨ k = 14 ∨ k = 15 ∨ k = 16 ∨ k = 17 ∨ k = 18 ∨ k = 19 ∨ k = 20 ∨ k = 21 ∨ k = 22 ∨ k = 23 ∨
    (k < 1 ∨ 23 < k) := by omega

theorem o72 {k : Int} (hQ : Q (.int .i64 (if k < 1 then 0 else if k ≤ 8 then 1 else if k ≤ 12 then 2 else if k ≤ 15 then 3 else if k ≤ 19 then 4 else if k ≤ 23 then 5 else 0)) h) : AC Try.prog 72 [.int .i64 k] h Q := ac72 (by
  unfold vc72
  revert hQ
  simp only [vif_dec]
  intro hQ
  refine ⟨fun h1 => by simpa [h1] using hQ, fun h1 => ⟨fun h2 => by simpa [h1, h2] using hQ, fun h2 => ⟨fun h3 => by simpa [h1, h2, h3] using hQ, fun h3 => ⟨fun h4 => by simpa [h1, h2, h3, h4] using hQ, fun h4 =>
    ⟨fun h5 => by simpa [h1, h2, h3, h4, h5] using hQ, fun h5 => ⟨fun h6 => by simpa [h1, h2, h3, h4, h5, h6] using hQ, fun h6 => by simpa [h1, h2, h3, h4, h5, h6] using hQ⟩⟩⟩⟩⟩⟩)

set_option maxHeartbeats 1000000 in
theorem o89 {k : Int} (hQ : Q (.tup [.int .i64 (if k = 4 ∨ k = 5 ∨ k = 6 then 1 else 0), .int .i64 (if k = 4 ∨ k = 5 ∨ k = 6 ∨ k = 1 ∨ k = 2 ∨ k = 7 ∨ k = 8 ∨ k = 9 ∨ k = 10 ∨ k = 11 then 1048575 else if k = 13 ∨ k = 14 then 8 else 0)]) h) :
    AC Try.prog 89 [.int .i64 k] h Q := ac89 (by
  unfold vc89
  simp only [vif_eq]
  repeat' first | apply And.intro | intro _
  all_goals
    simp_all)

/-- What it takes to be of no family. -/
theorem fam_zero {k a : Int} : fam k a = 0 ↔ (k < 1 ∨ 23 < k) ∨ a < (if k = 4 ∨ k = 5 ∨ k = 6 then 1 else 0) ∨
    (if k = 4 ∨ k = 5 ∨ k = 6 ∨ k = 1 ∨ k = 2 ∨ k = 7 ∨ k = 8 ∨ k = 9 ∨ k = 10 ∨ k = 11 then 1048575 else if k = 13 ∨ k = 14 then 8 else 0) < a := by
  by_cases hk : k = 4 ∨ k = 5 ∨ k = 6
  · have e : (k = 4 ∨ k = 5 ∨ k = 6 ∨ k = 1 ∨ k = 2 ∨ k = 7 ∨ k = 8 ∨ k = 9 ∨ k = 10 ∨ k = 11) := by omega
    rw [if_pos hk, if_pos e]
    unfold fam
    by_cases h1 : a < 0 ∨ 1048576 ≤ a
    · rw [if_pos h1]; omega
    · rw [if_neg h1, if_neg (by omega)]
      by_cases h2 : 1 ≤ a
      · rw [if_pos ⟨hk, h2⟩]; omega
      · rw [if_neg (by omega), if_neg (by omega), if_neg (by omega), if_neg (by omega), if_neg (by omega), if_neg (by omega), if_neg (by omega), if_neg (by omega), if_neg (by omega)]; omega
  · rw [if_neg hk]
    unfold fam
    by_cases h1 : a < 0 ∨ 1048576 ≤ a
    · rw [if_pos h1]
      repeat' split
      all_goals omega
    · rw [if_neg h1]
      by_cases h2 : k = 1 ∨ k = 2 ∨ k = 7 ∨ k = 8
      · rw [if_pos h2, if_pos (by omega)]; omega
      · rw [if_neg h2, if_neg (by omega)]
        by_cases h3 : k = 9 ∨ k = 10 ∨ k = 11
        · rw [if_pos h3, if_pos (by omega)]; omega
        · rw [if_neg h3]
          by_cases h4 : k = 13 ∨ k = 14
          · rw [if_neg (by omega : ¬ (k = 4 ∨ k = 5 ∨ k = 6 ∨ k = 1 ∨ k = 2 ∨ k = 7 ∨ k = 8 ∨ k = 9 ∨ k = 10 ∨ k = 11)), if_pos h4]
            by_cases h5 : a ≤ 8
            · rw [if_pos ⟨h4, h5⟩]; omega
            · rw [if_neg (by omega), if_pos (by omega)]; omega
          · rw [if_neg (by omega), if_neg (by omega : ¬ (k = 4 ∨ k = 5 ∨ k = 6 ∨ k = 1 ∨ k = 2 ∨ k = 7 ∨ k = 8 ∨ k = 9 ∨ k = 10 ∨ k = 11)), if_neg h4]
            by_cases h6 : a = 0
            · rw [if_neg (by omega)]
              repeat' split
              all_goals omega
            · rw [if_pos h6]; omega

theorem o71 {k a : Int} (hQ : Q (.int .i64 (if fam k a = 0 then 160 else 0)) h) : AC Try.prog 71 [.agg [.int .i64 k, .int .i64 a]] h Q := ac71 (by
  have hq : ∀ c : Int, (if fam k a = 0 then (160 : Int) else 0) = c → Q (.int .i64 c) h := by rintro c rfl; exact hQ
  have h160 : fam k a = 0 → Q (.int .i64 160) h := fun e => hq _ (if_pos e)
  have h0 : fam k a ≠ 0 → Q (.int .i64 0) h := fun e => hq _ (if_neg e)
  rw [ne_eq, fam_zero] at h0
  rw [fam_zero] at h160
  clear hq hQ
  unfold vc71
  refine o89 ⟨_, _, rfl, o72 ⟨_, rfl, ?_⟩⟩
  generalize (if k = 4 ∨ k = 5 ∨ k = 6 then (1 : Int) else 0) = least at *
  generalize (if k = 4 ∨ k = 5 ∨ k = 6 ∨ k = 1 ∨ k = 2 ∨ k = 7 ∨ k = 8 ∨ k = 9 ∨ k = 10 ∨ k = 11 then (1048575 : Int) else if k = 13 ∨ k = 14 then 8 else 0) = most at *
  have hz : (if k < 1 then (0 : Int) else if k ≤ 8 then 1 else if k ≤ 12 then 2 else if k ≤ 15 then 3 else if k ≤ 19 then 4 else if k ≤ 23 then 5 else 0) = 0 ↔ (k < 1 ∨ 23 < k) := by
    repeat' split
    all_goals omega
  simp only [vif_eq, vif_dec]
  refine ⟨fun g => h160 (.inl (hz.1 g)), fun g => ⟨fun g1 => h160 (.inr (.inl g1)), fun g1 => ⟨fun g2 => h160 (.inr (.inr g2)), fun g2 => h0 ?_⟩⟩⟩
  rintro (h1 | h1 | h1)
  · exact g (hz.2 h1)
  · exact g1 h1
  · exact g2 h1)

theorem fam_kind {k a : Int} (h : fam k a ≠ 0) : fam k a = if k < 1 then 0 else if k ≤ 8 then 1 else if k ≤ 12 then 2 else if k ≤ 15 then 3 else if k ≤ 19 then 4 else if k ≤ 23 then 5 else 0 := by
  revert h
  unfold fam
  by_cases h1 : a < 0 ∨ 1048576 ≤ a
  · rw [if_pos h1]; intro h; exact absurd rfl h
  · rw [if_neg h1]
    rcases kinds k with rfl | rfl | rfl | rfl | rfl | rfl | rfl | rfl | rfl | rfl | rfl | rfl | rfl | rfl | rfl | rfl | rfl | rfl | rfl | rfl | rfl | rfl | rfl | hk
    case inr.inr.inr.inr.inr.inr.inr.inr.inr.inr.inr.inr.inr.inr.inr.inr.inr.inr.inr.inr.inr.inr.inr =>
      rw [if_neg (by omega), if_neg (by omega), if_neg (by omega), if_neg (by omega)]
      repeat' split
      all_goals (intros; omega)
    all_goals simp

theorem o49 {k a : Int} (hQ : Q (.int .i64 (fam k a)) h) : AC Try.prog 49 [.agg [.int .i64 k, .int .i64 a]] h Q := ac49 (by
  have hq : ∀ c : Int, fam k a = c → Q (.int .i64 c) h := by rintro c rfl; exact hQ
  unfold vc49
  refine o71 ⟨_, rfl, ?_⟩
  simp only [vif_ne]
  refine ⟨fun h1 => hq _ ?_, fun h1 => o72 ⟨_, rfl, hq _ (fam_kind ?_)⟩⟩
  · split at h1
    · assumption
    · exact absurd rfl h1
  · intro h2
    rw [if_pos h2] at h1
    omega)
end
end Go.Proofs.Ytfafgnmlnhklaaa

/- Functions of records: what each does. Those that may refuse. -/
namespace Go.Proofs.Ytfafgnmlnhklaaa
open Go.Ab
set_option linter.unusedVariables false
set_option linter.unusedSimpArgs false

section
variable {h : Heap} {Q : AV → Heap → Prop}

/-- How far a loop's number is from its end. -/
def left (n : Nat) (xs : List AV) (_ : Heap) : Nat := match xs with | .int _ i :: _ => (n - i).toNat | _ => 0

theorem take_succ_all {α : Type} {p : α → Bool} {l : List α} {i : Nat} {x : α} (hx : l[i]? = some x) (h : (l.take i).all p = true) (hp : p x = true) : (l.take (i + 1)).all p = true := by
  rw [List.take_add_one, hx]
  simp only [List.all_append, h, Bool.true_and]
  simp [hp]

def mayE (k a f : Int) (l : List (Int × Int)) : Int := if fam k a ≠ f then 160 else if l.all okR then 0 else 30

theorem o102 {k a f : Int} {q : Option SL} {l : List (Int × Int)} (H : HasL recE h q l) (hl : l.length ≤ 4611686018427387904) (hQ : Q (.int .i64 (mayE k a f l)) h) :
    AC Try.prog 102 [.agg [.int .i64 k, .int .i64 a], .int .i64 f, .sl q] h Q := ac102 (by
  unfold vc102
  refine o49 ⟨_, rfl, ?_⟩
  simp only [vif_ne]
  refine ⟨fun g => by simpa [mayE, g] using hQ, fun g => ?_⟩
  refine ⟨fun xs h' => ∃ i : Nat, xs = [.int .i64 i] ∧ h' = h ∧ i ≤ l.length ∧ (l.take i).all okR = true, left l.length, ⟨0, rfl, rfl, by simp, by simp⟩, ?_⟩
  rintro n h' ⟨i, e, rfl, hi, ha⟩
  cases e
  rw [H.len]
  simp only [vif_dec]
  refine ⟨fun g1 => ?_, fun g1 => ?_⟩
  · refine H.idx (E := recE) (by omega) (by omega) fun p x hx hc => ?_
    simp only [Int.toNat_natCast] at hx
    refine ⟨_, _, hc, o56 ⟨_, rfl, ?_⟩⟩
    simp only [vif_ne]
    cases hx' : okR x with
    | false =>
      have hall : l.all okR = false := by
        rw [List.all_eq_false]
        exact ⟨x, List.mem_of_getElem? hx, by simp [hx']⟩
      refine ⟨fun _ => ?_, fun g => by simp at g⟩
      simpa [mayE, g, hall] using hQ
    | true =>
      refine ⟨fun g => by simp at g, fun _ => ⟨by simp, ⟨i + 1, ?_, by simp, by omega, take_succ_all hx ha hx'⟩, ?_⟩⟩
      · rw [wrapK_i64 (by omega)]; rfl
      · rw [wrapK_i64 (by omega)]; simp only [left]; omega
  · have : l.take i = l := List.take_of_length_le (by omega)
    rw [this] at ha
    simpa [mayE, g, ha] using hQ)

def mapV (k a : Int) (r : Int × Int) : Int × Int :=
  if k = 1 then (r.1, (r.2 + a) % 1048576) else
  if k = 2 then (r.1, (r.2 * a) % 1048576) else
  if k = 3 then (r.2, r.1) else
  if k = 4 then (r.1 % a, r.2) else
  if k = 5 then (r.1, r.2 % a) else
  if k = 6 then (r.2 / a, r.2) else
  if k = 7 then (r.1, if a < r.2 then a else r.2) else
  if k = 8 then (r.1, if r.2 < a then a else r.2) else r

theorem fam_range {k a : Int} (h : fam k a ≠ 0) : 0 ≤ a ∧ a ≤ 1048575 := by
  revert h; unfold fam
  by_cases h1 : a < 0 ∨ 1048576 ≤ a
  · rw [if_pos h1]; intro h; exact absurd rfl h
  · intro _; omega
theorem fam_mod {k a : Int} (h : fam k a ≠ 0) (hk : k = 4 ∨ k = 5 ∨ k = 6) : 1 ≤ a := by
  rw [ne_eq, fam_zero, if_pos hk] at h
  omega

theorem mul_small {x y : Int} (h1 : 0 ≤ x ∧ x ≤ 1048575) (h2 : 0 ≤ y ∧ y ≤ 1048575) : 0 ≤ x * y ∧ x * y ≤ 1099509530625 := by
  refine ⟨Int.mul_nonneg h1.1 h2.1, ?_⟩
  have := Int.mul_le_mul h1.2 h2.2 h2.1 (by decide : (0 : Int) ≤ 1048575)
  omega

def retR (r : Int × Int) (e : Int) : AV := .tup [.agg [.int .i64 r.1, .int .i64 r.2], .int .i64 e]

/-- fn.Map. -/
theorem o81 {k a x y : Int} (hQ : ∀ h', Ext h h' → Q (if mayE k a 1 [(x, y)] = 0 then retR (mapV k a (x, y)) 0 else retR (0, 0) (mayE k a 1 [(x, y)])) h') :
    AC Try.prog 81 [.agg [.int .i64 k, .int .i64 a], .agg [.int .i64 x, .int .i64 y]] h Q := ac81 (by
  unfold vc81 PNew
  refine o102 (HasL.new (l := [(x, y)]) rfl rfl) (by simp) ⟨_, rfl, ?_⟩
  have hQ := hQ _ (Ext.app h [.cells [.int .i64 x, .int .i64 y] true])
  generalize h ++ [.cells [.int .i64 x, .int .i64 y] true] = h' at hQ ⊢
  simp only [vif_ne]
  refine ⟨fun g => by rw [if_neg g] at hQ; exact hQ, fun g => ?_⟩
  rw [if_pos g] at hQ
  have hf : fam k a = 1 := by
    unfold mayE at g
    split at g
    · simp at g
    · omega
  have hr : okR (x, y) = true := by
    unfold mayE at g
    rw [if_neg (by omega)] at g
    cases hc : okR (x, y) with
    | true => rfl
    | false => simp [hc] at g
  rw [okR_iff] at hr
  obtain ⟨⟨x0, x1⟩, y0, y1⟩ := hr
  simp only at x0 x1 y0 y1
  have hf : fam k a ≠ 0 := by omega
  have ha := fam_range hf
  have hq : ∀ u v : Int, mapV k a (x, y) = (u, v) → Q (.tup [.agg [.int .i64 u, .int .i64 v], .int .i64 0]) h' := by intro u v e; rw [e] at hQ; exact hQ
  have hm := mul_small ⟨y0, y1⟩ ha
  simp only [vif_eq, vif_dec, need_var]
  refine ⟨fun g => ?_, fun n1 => ⟨fun g => ?_, fun n2 => ⟨fun g => ?_, fun n3 => ⟨fun g => ?_, fun n4 => ⟨fun g => ?_, fun n5 => ⟨fun g => ?_, fun n6 => ⟨fun g => ?_, fun n7 => ⟨fun g => ?_, fun n8 => ?_⟩⟩⟩⟩⟩⟩⟩⟩
  · rw [wrapK_i64 (by omega)]; exact o105 (by omega) (by omega) ⟨_, rfl, hq _ _ (by simp [mapV, g])⟩
  · rw [wrapK_i64 (by omega)]; exact o105 (by omega) (by omega) ⟨_, rfl, hq _ _ (by simp [mapV, g])⟩
  · exact o106 ⟨_, _, rfl, hq _ _ (by simp [mapV, g])⟩
  · have := fam_mod hf (by omega)
    exact ⟨by simp; omega, by rw [tmod_pos x0]; exact hq _ _ (by simp [mapV, g])⟩
  · have := fam_mod hf (by omega)
    exact ⟨by simp; omega, by rw [tmod_pos y0]; exact hq _ _ (by simp [mapV, g])⟩
  · have := fam_mod hf (by omega)
    have hd : 0 ≤ y / a ∧ y / a ≤ y := ⟨Int.ediv_nonneg y0 (by omega), Int.ediv_le_self a y0⟩
    exact ⟨by simp; omega, by rw [tdiv_pos y0, wrapK_i64 (by omega)]; exact hq _ _ (by simp [mapV, g])⟩
  · exact hq _ _ (by simp [mapV, g, minI])
  · exact hq _ _ (by simp [mapV, g, maxI2])
  · exact hq _ _ (by simp [mapV, *]))

/-- What a record's function answers when it may not. -/
def wantE (k a f : Int) (r : Int × Int) : Int := if fam k a ≠ f then 160 else if okR r then 0 else 30
theorem mayE_one {k a f : Int} {r : Int × Int} : mayE k a f [r] = wantE k a f r := by simp [mayE, wantE]
theorem wantE_zero {k a f : Int} {r : Int × Int} (h : wantE k a f r = 0) : fam k a = f ∧ okR r = true := by
  unfold wantE at h
  split at h
  · simp at h
  · split at h
    · rename_i h1 h2; exact ⟨by omega, h2⟩
    · simp at h

def testV (k a : Int) (r : Int × Int) : Bool := if k = 9 then decide (r.2 < a) else if k = 10 then decide (r.2 > a) else if k = 11 then r.1 == a else r.2 % 2 == 1

theorem o82 {k a x y : Int} (hQ : ∀ h', Ext h h' → Q (.tup [.bool (decide (wantE k a 2 (x, y) = 0) && testV k a (x, y)), .int .i64 (wantE k a 2 (x, y))]) h') :
    AC Try.prog 82 [.agg [.int .i64 k, .int .i64 a], .agg [.int .i64 x, .int .i64 y]] h Q := ac82 (by
  unfold vc82 PNew
  refine o102 (HasL.new (l := [(x, y)]) rfl rfl) (by simp) ⟨_, rfl, ?_⟩
  have hQ := hQ _ (Ext.app h [.cells [.int .i64 x, .int .i64 y] true])
  generalize h ++ [.cells [.int .i64 x, .int .i64 y] true] = h' at hQ ⊢
  rw [mayE_one]
  simp only [vif_ne]
  refine ⟨fun g => by simpa [g] using hQ, fun g => ?_⟩
  rw [g] at hQ
  obtain ⟨hf, hr⟩ := wantE_zero g
  rw [okR_iff] at hr
  obtain ⟨⟨x0, x1⟩, y0, y1⟩ := hr
  simp only at x0 x1 y0 y1
  have e := bitsAnd_mask (n := y) 1 (by decide) (by omega) (by omega)
  have e1 : (2 : Int) ^ 1 - 1 = 1 := by decide
  have e2 : (2 : Int) ^ 1 = 2 := by decide
  rw [e1, e2] at e
  rw [e]
  simp only [vif_eq]
  refine ⟨fun g => by simpa [testV, g] using hQ, fun n1 => ⟨fun g => by simpa [testV, g] using hQ, fun n2 => ⟨fun g => by simpa [testV, g] using hQ, fun n3 => by simpa [testV, n1, n2, n3] using hQ⟩⟩⟩)

def pairV (k : Int) (r s : Int × Int) : Int × Int := if k = 20 then r else if k = 21 then s else if k = 22 then (r.1, (r.2 + s.2) % 1048576) else (r.2, s.2)

def pairE (k a : Int) (r s : Int × Int) : Int := if fam k a ≠ 5 then 160 else if okR r && okR s then (if r.1 = s.1 then 0 else 1) else 30

theorem o79 {k a x y u v : Int} (hQ : ∀ h', Ext h h' → Q (if pairE k a (x, y) (u, v) = 0 then retR (pairV k (x, y) (u, v)) 0 else retR (0, 0) (pairE k a (x, y) (u, v))) h') :
    AC Try.prog 79 [.agg [.int .i64 k, .int .i64 a], .agg [.int .i64 x, .int .i64 y], .agg [.int .i64 u, .int .i64 v]] h Q := ac79 (by
  unfold vc79 PNew
  refine o102 (HasL.new (l := [(x, y), (u, v)]) rfl rfl) (by simp) ⟨_, rfl, ?_⟩
  have hQ := hQ _ (Ext.app h [.cells [.int .i64 x, .int .i64 y, .int .i64 u, .int .i64 v] true])
  generalize h ++ [.cells [.int .i64 x, .int .i64 y, .int .i64 u, .int .i64 v] true] = h' at hQ ⊢
  simp only [vif_ne, mayE, List.all_cons, List.all_nil, Bool.and_true]
  simp only [pairE, retR] at hQ
  by_cases hf : fam k a = 5
  · simp only [hf, ne_eq, not_true_eq_false, if_false] at hQ ⊢
    cases hc : (okR (x, y) && okR (u, v)) with
    | false =>
      simp only [hc] at hQ ⊢
      exact ⟨fun _ => by simpa using hQ, fun g => by simp at g⟩
    | true =>
      simp only [hc] at hQ ⊢
      simp only [Bool.and_eq_true] at hc
      obtain ⟨hr, hs⟩ := hc
      rw [okR_iff] at hr hs
      obtain ⟨⟨x0, x1⟩, y0, y1⟩ := hr
      obtain ⟨⟨u0, u1⟩, v0, v1⟩ := hs
      simp only at x0 x1 y0 y1 u0 u1 v0 v1
      refine ⟨fun g => by simp at g, fun _ => ⟨fun g => ?_, fun g => ?_⟩⟩
      · simpa [g] using hQ
      · subst g
        simp only [if_true] at hQ
        simp only [vif_eq]
        refine ⟨fun g => by simpa [pairV, g] using hQ, fun n1 => ⟨fun g => by simpa [pairV, g] using hQ, fun n2 => ⟨fun g => ?_, fun n3 => by simpa [pairV, n1, n2, n3] using hQ⟩⟩⟩
        rw [wrapK_i64 (by omega)]
        exact o105 (by omega) (by omega) ⟨_, rfl, by simp, by simpa [pairV, g] using hQ⟩
  · simp only [hf, ne_eq, not_false_eq_true, if_true] at hQ ⊢
    exact ⟨fun _ => by simpa using hQ, fun g => by simp at g⟩)
end
end Go.Proofs.Ytfafgnmlnhklaaa

/- Functions of records: spreads and folds. -/
namespace Go.Proofs.Ytfafgnmlnhklaaa
open Go.Ab
set_option linter.unusedVariables false
set_option linter.unusedSimpArgs false

section
variable {h : Heap} {Q : AV → Heap → Prop}

theorem o123 {n : Nat} (hn : n ≤ 8) (hQ : Q (.tup [.int .u64 0, .int .u64 n]) h) : AC Try.prog 123 [.int .u64 (wrapK .u64 1), .int .u64 (wrapK .u64 n)] h Q := ac123 (by
  unfold vc123
  refine ac135 ?_
  have : n = 0 ∨ n = 1 ∨ n = 2 ∨ n = 3 ∨ n = 4 ∨ n = 5 ∨ n = 6 ∨ n = 7 ∨ n = 8 := by omega
  unfold vc135
  rcases this with rfl | rfl | rfl | rfl | rfl | rfl | rfl | rfl | rfl <;> exact ⟨0, _, by kernel_rfl, hQ⟩)

theorem o107 {q : Option SL} {r : Int × Int} {n : Nat} (H : HasL recE h q [r]) (hn : n ≤ 8) (hQ : ∀ h' b, Mine recE h h' b (List.replicate n r) → Q (.sl (some ⟨b, 0, n, n, 0⟩)) h') :
    AC Try.prog 107 [.sl q, .int .i64 n] h Q := ac107 (by
  unfold vc107
  rw [H.len]
  have e0 : decide ((n : Int) < 0) = false := by simp
  rw [e0]
  refine o123 hn ⟨_, _, rfl, ?_⟩
  have e1 : decide ((0 : Int) > 0) = false := by simp
  have e2 : decide ((n : Int) > 9223372036854775807) = false := by simp; omega
  rw [e1, e2, wrapK_i64 (by omega)]
  refine ⟨by omega, by omega, by omega, by simp [maxI]; omega, ?_⟩
  have hM : Mine recE h (h ++ [.cells (List.replicate (n : Int).toNat [.int .i64 0, .int .i64 0]).flatten true]) h.length (List.replicate n (0, 0)) := Mine.new (by rw [all_replicate]; rfl)
  simp only [Int.toNat_natCast] at hM ⊢
  generalize h ++ [.cells (List.replicate n [.int .i64 0, .int .i64 0]).flatten true] = h1 at hM ⊢
  generalize h.length = b at hM ⊢
  refine hM.copy (k := 0) (H.mono hM.1) (by simp) (by simp) fun h2 M2 => ?_
  have hm : min [r].length n = if n = 0 then 0 else 1 := by simp; split <;> omega
  rw [hm] at M2 ⊢
  have main : ∀ i : Nat, i ≤ n → (n = 0 ∨ 1 ≤ i) → ∀ h', Mine recE h h' b (List.replicate i r ++ List.replicate (n - i) (0, 0)) → True := fun _ _ _ _ _ => trivial
  refine ⟨fun xs h' => ∃ i : Nat, xs = [.int .i64 i] ∧ i ≤ n ∧ (n = 0 ∨ 1 ≤ i) ∧ Mine recE h h' b (List.replicate i r ++ List.replicate (n - i) (0, 0)), left n, ⟨_, rfl, ?_, ?_, ?_⟩, ?_⟩
  · split <;> omega
  · split <;> omega
  · split at M2
    · rename_i h0; subst h0; simpa using M2
    · rename_i h0
      rw [if_neg h0]
      simpa using M2
  · rintro i' h' ⟨i, e, hi, h1i, M⟩
    cases e
    have hlen : (List.replicate i r ++ List.replicate (n - i) ((0 : Int), (0 : Int))).length = n := by simp; omega
    simp only [vif_dec]
    refine ⟨fun g => ?_, fun g => ?_⟩
    · have g : (i : Int) < (n : Int) := g
      refine ⟨.inl rfl, by omega, by show (i : Int) ≤ n; omega, by show (n : Int) ≤ n; omega, by show (n : Int) ≤ n; omega, ?_⟩
      refine (M.hasL (n := n) (by rw [hlen])).slice (E := recE) (hi := some (i : Int)) (by omega) (by show (0 : Int) ≤ i; omega) (by rw [hlen]; show (i : Int) ≤ n; omega) fun q' Hq => ?_
      have eq1 : ((List.replicate i r ++ List.replicate (n - i) ((0 : Int), (0 : Int))).take (Option.getD (some (i : Int)) ↑(List.replicate i r ++ List.replicate (n - i) ((0 : Int), (0 : Int))).length).toNat).drop (0 : Int).toNat = List.replicate i r := by simp
      rw [eq1] at Hq
      have hs : ((some (⟨b, 0 + (i : Int).toNat * 2, ((n : Int) - i).toNat, ((n : Int) - i).toNat, 0⟩ : SL))) = some ⟨b, i * 2, n - i, n - i, 0⟩ := by
        congr 2 <;> omega
      show PCopyS 2 (some ⟨b, 0 + (i : Int).toNat * 2, ((n : Int) - i).toNat, ((n : Int) - i).toNat, 0⟩) q' h' _
      rw [hs]
      refine M.copy (k := i) Hq (by rw [hlen]; omega) rfl fun h3 M3 => ?_
      simp only [List.length_replicate] at M3 ⊢
      refine ⟨trivial, ⟨i + min i (n - i), ?_, by omega, by omega, ?_⟩, ?_⟩
      · rw [wrapK_i64 (by omega)]; simp
      · have e3 : (List.replicate i r ++ List.replicate (n - i) ((0 : Int), (0 : Int))).take i ++ (List.replicate i r).take (min i (n - i)) ++ (List.replicate i r ++ List.replicate (n - i) ((0 : Int), (0 : Int))).drop (i + min i (n - i)) =
            List.replicate (i + min i (n - i)) r ++ List.replicate (n - (i + min i (n - i))) (0, 0) := by
          rw [List.take_left' (by simp), List.take_replicate, List.drop_append]
          simp only [List.drop_replicate, List.length_replicate]
          rw [← List.replicate_append_replicate]
          have : i - (i + min i (n - i)) = 0 := by omega
          rw [this]
          have : min (min i (n - i)) i = min i (n - i) := by omega
          rw [this]
          have : n - i - (i + min i (n - i) - i) = n - (i + min i (n - i)) := by omega
          rw [this]
          simp
        rw [e3] at M3; exact M3
      · rw [wrapK_i64 (by omega)]; simp only [left]; omega
    · have g : ¬ (i : Int) < (n : Int) := g
      have : i = n := by omega
      subst this
      simp only [Nat.sub_self, List.replicate_zero, List.append_nil] at M
      exact hQ _ _ M)

def spreadV (k a : Int) (r : Int × Int) : List (Int × Int) :=
  if k = 15 then [r, (r.2, r.1)] else if k = 14 then (List.range a.toNat).map fun (i : Nat) => (r.1, (r.2 + (i : Int)) % 1048576) else List.replicate a.toNat r

theorem fam_spread {k a : Int} (h : fam k a = 3) : a ≤ 8 := by
  revert h; unfold fam
  repeat' split
  all_goals omega

theorem o83 {k a x y : Int} (hQ1 : wantE k a 3 (x, y) ≠ 0 → ∀ h', Ext h h' → Q (.tup [.sl none, .int .i64 (wantE k a 3 (x, y))]) h') (hQ : wantE k a 3 (x, y) = 0 → ∀ h' q, Ext h h' → HasL recE h' q (spreadV k a (x, y)) → Q (.tup [.sl q, .int .i64 0]) h') :
    AC Try.prog 83 [.agg [.int .i64 k, .int .i64 a], .agg [.int .i64 x, .int .i64 y]] h Q := ac83 (by
  unfold vc83 PNew
  refine o102 (HasL.new (l := [(x, y)]) rfl rfl) (by simp) ⟨_, rfl, ?_⟩
  rw [mayE_one]
  have he := Ext.app h [.cells [.int .i64 x, .int .i64 y] true]
  generalize h ++ [.cells [.int .i64 x, .int .i64 y] true] = h1 at he ⊢
  simp only [vif_ne]
  refine ⟨fun g => hQ1 g _ he, fun g => ?_⟩
  have hQ := hQ g
  clear hQ1
  obtain ⟨hf, hr⟩ := wantE_zero g
  rw [okR_iff] at hr
  obtain ⟨⟨x0, x1⟩, y0, y1⟩ := hr
  simp only at x0 x1 y0 y1
  have ha := fam_range (show fam k a ≠ 0 by omega)
  have ha8 := fam_spread hf
  simp only [vif_eq]
  refine ⟨fun g => ?_, fun g15 => ?_⟩
  · refine o106 ⟨_, _, rfl, by simp, ?_⟩
    refine hQ _ _ (he.trans (.app _ _)) ?_
    have : spreadV k a (x, y) = [(x, y), (y, x)] := by simp [spreadV, g]
    rw [this]
    exact HasL.new (l := [(x, y), (y, x)]) rfl rfl
  · obtain ⟨n, rfl⟩ := Int.eq_ofNat_of_zero_le ha.1
    refine o107 (HasL.new (l := [(x, y)]) rfl rfl) (by omega) fun h2 b M => ⟨_, rfl, ?_⟩
    have he2 : Ext h h2 := (he.trans (.app _ _)).trans M.1
    refine ⟨fun g14 => ?_, fun g14 => ?_⟩
    · refine ⟨fun xs h' => ∃ i : Nat, xs = [.int .i64 i] ∧ i ≤ n ∧ Mine recE (h1 ++ [.cells [.int .i64 x, .int .i64 y] true]) h' b (((List.range i).map fun (j : Nat) => (x, (y + (j : Int)) % 1048576)) ++ List.replicate (n - i) (x, y)), left n, ⟨0, rfl, by omega, by simpa using M⟩, ?_⟩
      rintro i' h' ⟨i, e, hi, M⟩
      cases e
      have hlen : (((List.range i).map fun (j : Nat) => ((x, (y + (j : Int)) % 1048576) : Int × Int)) ++ List.replicate (n - i) (x, y)).length = n := by simp; omega
      have hsl : slLen (some (⟨b, 0, n, n, 0⟩ : SL)) = n := rfl
      rw [hsl]
      simp only [vif_dec]
      refine ⟨fun g1 => ?_, fun g1 => ?_⟩
      · have g1 : (i : Int) < (n : Int) := g1
        rw [wrapK_i64 (by omega)]
        refine o105 (by omega) (by omega) ⟨_, rfl, ?_⟩
        refine M.at (i := i) rfl (by omega) ?_
        refine M.store (i := i) (k := 1) (r := (x, y)) (r' := (x, (y + i) % 1048576)) rfl ?_ (by simp [recE]) rfl fun h3 M3 => ?_
        · rw [List.getElem?_append_right (by simp)]
          simp only [List.length_map, List.length_range, Nat.sub_self]
          rw [List.getElem?_replicate, if_pos (by omega)]
        · refine ⟨by simp, ⟨i + 1, ?_, by omega, ?_⟩, ?_⟩
          · rw [wrapK_i64 (by omega)]; rfl
          · have e3 : (((List.range i).map fun (j : Nat) => ((x, (y + (j : Int)) % 1048576) : Int × Int)) ++ List.replicate (n - i) (x, y)).set i (x, (y + i) % 1048576) =
                ((List.range (i + 1)).map fun (j : Nat) => (x, (y + (j : Int)) % 1048576)) ++ List.replicate (n - (i + 1)) (x, y) := by
              rw [List.set_append_right _ _ (by simp)]
              have : n - i = (n - (i + 1)) + 1 := by omega
              rw [this, List.replicate_succ]
              simp [List.range_succ]
            rw [e3] at M3; exact M3
          · rw [wrapK_i64 (by omega)]; simp only [left]; omega
      · have g1 : ¬ (i : Int) < (n : Int) := g1
        have : i = n := by omega
        subst this
        refine hQ _ _ ((he.trans (.app _ _)).trans M.1) ?_
        have : spreadV k (i : Nat) (x, y) = ((List.range i).map fun (j : Nat) => ((x, (y + (j : Int)) % 1048576) : Int × Int)) ++ List.replicate (i - i) (x, y) := by simp [spreadV, g15, g14]
        rw [this]
        exact M.hasL (by rw [hlen])
    · refine hQ _ _ he2 ?_
      have : spreadV k (n : Nat) (x, y) = List.replicate n (x, y) := by simp [spreadV, g15, g14]
      rw [this]
      exact M.hasL (by simp))
end
end Go.Proofs.Ytfafgnmlnhklaaa

/- Functions of records: Fold; what must come of every program. -/
namespace Go.Proofs.Ytfafgnmlnhklaaa
open Go.Ab
set_option linter.unusedVariables false
set_option linter.unusedSimpArgs false

section
variable {h : Heap} {Q : AV → Heap → Prop}

def stepV (k a b : Int) : Int := if k = 17 then (if b < a then b else a) else if k = 18 then (if b > a then b else a) else (a + b) % 1048576

theorem stepV_range {k a b : Int} (ha : 0 ≤ a ∧ a ≤ 1048575) (hb : 0 ≤ b ∧ b ≤ 1048575) : 0 ≤ stepV k a b ∧ stepV k a b ≤ 1048575 := by
  unfold stepV
  repeat' split
  all_goals omega

theorem o104 {k a x y : Int} (hx : 0 ≤ x ∧ x ≤ 1048575) (hy : 0 ≤ y ∧ y ≤ 1048575) (hQ : Q (.int .i64 (stepV k x y)) h) : AC Try.prog 104 [.agg [.int .i64 k, .int .i64 a], .int .i64 x, .int .i64 y] h Q := ac104 (by
  unfold vc104
  simp only [vif_eq]
  refine ⟨fun g => by simpa [stepV, g, minI] using hQ, fun g1 => ⟨fun g => by simpa [stepV, g, maxI2] using hQ, fun g2 => ?_⟩⟩
  rw [wrapK_i64 (by omega)]
  exact o105 (by omega) (by omega) ⟨_, rfl, by simpa [stepV, g1, g2] using hQ⟩)

theorem o103 {p : PA} {q : Option SL} {r0 : Int × Int} {rest : List (Int × Int)} {x y : Int} (hc : cellsAt h p 1 = some [.sl q]) (H : HasL recE h q (r0 :: rest)) (hQ : Q (.bool (x != r0.1)) h) :
    AC Try.prog 103 [.agg [.int .i64 x, .int .i64 y], .ptr (some p)] h Q := ac103 (by
  unfold vc103
  refine ⟨q, hc, H.idx (E := recE) (by omega) (by simp) fun p' r hr hc' => ?_⟩
  simp at hr
  subst hr
  exact ⟨_, cellsAt_sub (k := 0) (m := 1) hc' (by simp [recE]), hQ⟩)

theorem o53f {p : PA} {q : Option SL} {r0 : Int × Int} {rest : List (Int × Int)} (hc : cellsAt h p 1 = some [.sl q]) (H : HasL recE h q (r0 :: rest)) (hl : rest.length ≤ 4611686018427387904)
    (hQ : ∀ n : Int, (0 ≤ n ↔ (r0 :: rest).all (fun r => r.1 == r0.1) = false) → Q (.int .i64 n) h) :
    AC Try.prog 53 [.sl q, .func (.func 103) [] [.ptr (some p)]] h Q := ac53f (by
  unfold vc53f
  generalize hL : r0 :: rest = l at H hQ
  have hl2 : l.length ≤ 4611686018427387905 := by subst hL; simp; omega
  refine ⟨fun xs h' => ∃ i : Nat, xs = [.int .i64 i] ∧ h' = h ∧ i ≤ l.length ∧ (l.take i).all (fun r => r.1 == r0.1) = true, left l.length, ⟨0, rfl, rfl, by simp, by simp⟩, ?_⟩
  rintro n h' ⟨i, e, rfl, hi, ha⟩
  cases e
  rw [H.len]
  simp only [vif_dec]
  refine ⟨fun g1 => ?_, fun g1 => ?_⟩
  · refine H.idx (E := recE) (by omega) (by omega) fun p' x hx hc' => ?_
    simp only [Int.toNat_natCast] at hx
    refine ⟨_, _, hc', o103 hc (hL ▸ H) ⟨_, rfl, ?_⟩⟩
    refine vif_mk (fun g => hQ _ ⟨fun _ => ?_, fun _ => by omega⟩) fun g => ⟨trivial, ⟨i + 1, ?_, rfl, by omega, take_succ_all hx ha ?_⟩, ?_⟩
    · rw [List.all_eq_false]
      exact ⟨x, List.mem_of_getElem? hx, by simpa using g⟩
    · rw [wrapK_i64 (by omega)]; rfl
    · simpa using g
    · rw [wrapK_i64 (by omega)]; simp only [left]; omega
  · refine hQ _ ⟨fun g => by omega, fun g => ?_⟩
    have : l.take i = l := List.take_of_length_le (by omega)
    rw [this, g] at ha
    cases ha)

theorem o54f {p : PA} {q : Option SL} {r0 : Int × Int} {rest : List (Int × Int)} (hc : cellsAt h p 1 = some [.sl q]) (H : HasL recE h q (r0 :: rest)) (hl : rest.length ≤ 4611686018427387904)
    (hQ : Q (.bool (!(r0 :: rest).all (fun r => r.1 == r0.1))) h) : AC Try.prog 54 [.sl q, .func (.func 103) [] [.ptr (some p)]] h Q := ac54f (by
  unfold vc54f
  refine o53f hc H hl fun n hn => ⟨_, rfl, ?_⟩
  have : decide (n ≥ 0) = !(r0 :: rest).all (fun r => r.1 == r0.1) := by
    cases hb : (r0 :: rest).all (fun r => r.1 == r0.1) with
    | true => rw [hb] at hn; simp only [Bool.not_true, decide_eq_false_iff_not]; intro g; exact absurd (hn.1 g) (by simp)
    | false => rw [hb] at hn; simpa using hn.2 rfl
  rw [this]
  exact hQ)

def sameKey (l : List (Int × Int)) : Bool := match l with | [] => false | r0 :: rest => (r0 :: rest).all (fun r => r.1 == r0.1)
def foldE (k a : Int) (l : List (Int × Int)) : Int := if fam k a ≠ 4 then 160 else if l.all okR then (if sameKey l then 0 else 1) else 30
def foldN (k : Int) (l : List (Int × Int)) (z : Int) : Int := l.foldl (fun v r => stepV k v r.2) z
def foldV (k : Int) (l : List (Int × Int)) : Int × Int :=
  match l with
  | [] => (0, 0)
  | r :: rest => (r.1, if k = 19 then (l.length : Int) % 1048576 else foldN k rest r.2)

theorem o78 {k a : Int} {q : Option SL} {l : List (Int × Int)} (H : HasL recE h q l) (hl : l.length ≤ 4611686018427387904)
    (hQ : ∀ h', Ext h h' → Q (if foldE k a l = 0 then retR (foldV k l) 0 else retR (0, 0) (foldE k a l)) h') :
    AC Try.prog 78 [.agg [.int .i64 k, .int .i64 a], .sl q] h Q := ac78 (by
  unfold vc78 PNew
  have hQ := hQ _ (Ext.app h [.cells [.sl q] true])
  have hc : cellsAt (h ++ [.cells [.sl q] true]) ⟨h.length, 0⟩ 1 = some [.sl q] := by
    rw [cellsAt_mk (C := [.sl q]) (rw' := true) (by simp) (by simp)]; rfl
  have H := H.mono (Ext.app h [.cells [.sl q] true])
  generalize h ++ [.cells [.sl q] true] = h1 at hQ hc H ⊢
  generalize h.length = b at hc ⊢
  simp only [foldE, retR] at hQ
  refine ⟨q, hc, o102 H hl ⟨_, rfl, ?_⟩⟩
  simp only [vif_ne, mayE]
  by_cases hf : fam k a = 4
  case neg =>
    simp only [hf, ne_eq, not_false_eq_true, if_true] at hQ ⊢
    exact ⟨fun _ => by simpa using hQ, fun g => by simp at g⟩
  simp only [hf, ne_eq, not_true_eq_false, if_false] at hQ ⊢
  cases hok : l.all okR with
  | false =>
    simp only [hok] at hQ ⊢
    exact ⟨fun _ => by simpa using hQ, fun g => by simp at g⟩
  | true =>
    simp only [hok, if_true] at hQ ⊢
    refine ⟨fun g => by simp at g, fun _ => ⟨q, hc, ?_⟩⟩
    rw [H.len]
    simp only [vif_eq]
    cases l with
    | nil => exact ⟨fun _ => by simpa [sameKey] using hQ, fun g => by simp at g⟩
    | cons r0 rest =>
      refine ⟨fun g => by simp at g; omega, fun _ => ⟨q, hc, ?_⟩⟩
      simp only [List.length_cons] at hl
      refine o54f hc H (by omega) ⟨_, rfl, ?_⟩
      rw [vif_not]
      refine vif_mk (fun hs => ?_) (fun hs => ?_)
      case refine_2 =>
        have e : sameKey (r0 :: rest) = false := hs
        simpa [e] using hQ
      have e : sameKey (r0 :: rest) = true := hs
      simp only [e, if_true] at hQ
      refine ⟨q, hc, H.idx (E := recE) (by omega) (by simp) fun p r hr hcr => ?_⟩
      simp at hr
      subst hr
      refine ⟨_, _, hcr, q, hc, ?_⟩
      refine H.slice (E := recE) (hi := none) (by omega) (by simp; omega) (by simp) fun q' Hq => ?_
      have e1 : ((r0 :: rest).take (Option.getD none ((r0 :: rest).length : Int)).toNat).drop (1 : Int).toNat = rest := by simp
      rw [e1] at Hq
      simp only [List.all_cons, Bool.and_eq_true] at hok
      have hr0 := okR_iff.1 hok.1
      refine ⟨fun xs h' => ∃ (i : Nat) (v : Int), xs = [.int .i64 i, .int .i64 r0.1, .int .i64 v] ∧ h' = h1 ∧ i ≤ rest.length ∧ v = foldN k (rest.take i) r0.2 ∧ (0 ≤ v ∧ v ≤ 1048575), left rest.length,
        ⟨0, _, rfl, rfl, by simp, rfl, hr0.2⟩, ?_⟩
      rintro n1 n2 n3 h' ⟨i, v, e, rfl, hi, hv, hvr⟩
      cases e
      rw [Hq.len]
      simp only [vif_dec]
      refine ⟨fun g1 => ?_, fun g1 => ?_⟩
      · refine Hq.idx (E := recE) (by omega) (by omega) fun p' x hx hc' => ?_
        simp only [Int.toNat_natCast] at hx
        have hxo := okR_iff.1 (List.all_eq_true.1 hok.2 x (List.mem_of_getElem? hx))
        refine ⟨_, _, hc', o104 hvr hxo.2 ⟨_, rfl, by simp, ⟨i + 1, _, ?_, rfl, by omega, ?_, stepV_range (k := k) hvr hxo.2⟩, ?_⟩⟩
        · rw [wrapK_i64 (by omega)]; rfl
        · rw [List.take_add_one, hx, hv]
          simp [foldN]
        · rw [wrapK_i64 (by omega)]; simp only [left]; omega
      · have hti : rest.take i = rest := List.take_of_length_le (by omega)
        rw [hti] at hv
        refine ⟨fun g => ?_, fun g => ?_⟩
        · refine ⟨q, hc, ?_⟩
          rw [H.len]
          refine o105 (by omega) (by simp; omega) ⟨_, rfl, ?_⟩
          simpa [foldV, g] using hQ
        · subst hv
          simpa [foldV, g] using hQ)

theorem vif_t {b : Bool} {A B : Prop} (h : b = true) (a : A) : vif b A B := by subst h; exact a

end
end Go.Proofs.Ytfafgnmlnhklaaa

/- Lists that are alike; bags that may be; spreads. -/
namespace Go.Proofs.Ytfafgnmlnhklaaa
open Go.Ab
set_option linter.unusedVariables false
set_option linter.unusedSimpArgs false

section
variable {h : Heap} {Q : AV → Heap → Prop}

theorem vif_f {b : Bool} {A B : Prop} (h : b = false) (a : B) : vif b A B := by subst h; exact a

theorem take_eq_of {α : Type} {l m : List α} {i : Nat} (h : l.take i = m.take i) {x : α} (h1 : l[i]? = some x) (h2 : m[i]? = some x) : l.take (i + 1) = m.take (i + 1) := by
  rw [List.take_add_one, List.take_add_one, h, h1, h2]

theorem o13 {q1 q2 : Option SL} {l m : List (Int × Int)} (H1 : HasL recE h q1 l) (H2 : HasL recE h q2 m) (hl : l.length ≤ 4611686018427387904) (hQ : Q (.bool (decide (l = m))) h) :
    AC Try.prog 13 [.sl q1, .sl q2] h Q := ac13 (by
  have hq : ∀ b : Bool, (b = true ↔ l = m) → Q (.bool b) h := by
    intro b hb
    have : b = decide (l = m) := by rw [Bool.eq_iff_iff]; simpa using hb
    rw [this]; exact hQ
  unfold vc13
  rw [H1.len, H2.len]
  simp only [vif_ne]
  refine ⟨fun g => hq _ ⟨fun e => by simp at e, fun e => absurd (by rw [e]) g⟩, fun g => ?_⟩
  have hlen : l.length = m.length := by omega
  refine ⟨fun xs h' => ∃ i : Nat, xs = [.int .i64 i] ∧ h' = h ∧ i ≤ l.length ∧ l.take i = m.take i, left l.length, ⟨0, rfl, rfl, by simp, by simp⟩, ?_⟩
  rintro n h' ⟨i, e, rfl, hi, ha⟩
  cases e
  simp only [vif_dec]
  refine ⟨fun g1 => ?_, fun g1 => ?_⟩
  · refine H1.idx (E := recE) (by omega) (by omega) fun p x hx hc => ⟨_, _, hc, ?_⟩
    refine H2.idx (E := recE) (by omega) (by omega) fun p' y hy hc' => ⟨_, _, hc', ?_⟩
    simp only [Int.toNat_natCast] at hx hy
    rw [vif_not]
    refine vif_mk (fun e => ?_) fun e => ?_
    · have exy : x = y := by
        simp only [Bool.and_true, Bool.and_eq_true, beq_iff_eq] at e
        exact Prod.ext e.1 e.2
      subst exy
      refine ⟨trivial, ⟨i + 1, ?_, trivial, by omega, take_eq_of ha hx hy⟩, ?_⟩
      · rw [wrapK_i64 (by omega)]; rfl
      · rw [wrapK_i64 (by omega)]; simp only [left]; omega
    · refine hq _ ⟨fun e => by simp at e, fun elm => ?_⟩
      subst elm
      rw [hx] at hy
      cases hy
      simp at e
  · refine hq _ ⟨fun _ => ?_, fun _ => rfl⟩
    have e1 : l.take i = l := List.take_of_length_le (by omega)
    have e2 : m.take i = m := List.take_of_length_le (by omega)
    rw [← e1, ← e2, ha])

def mayC (l : List (Int × Int)) : Int := if l.all okR then (if l.length > 4096 then 31 else 0) else 30

theorem o25 {q : Option SL} {l : List (Int × Int)} (H : HasL recE h q l) (hl : l.length ≤ 4611686018427387904) (hQ : Q (.int .i64 (mayC l)) h) : AC Try.prog 25 [.sl q] h Q := ac25 (by
  unfold vc25
  refine ⟨fun xs h' => ∃ i : Nat, xs = [.int .i64 i] ∧ h' = h ∧ i ≤ l.length ∧ (l.take i).all okR = true, left l.length, ⟨0, rfl, rfl, by simp, by simp⟩, ?_⟩
  rintro n h' ⟨i, e, rfl, hi, ha⟩
  cases e
  rw [H.len]
  simp only [vif_dec]
  refine ⟨fun g1 => ?_, fun g1 => ?_⟩
  · refine H.idx (E := recE) (by omega) (by omega) fun p x hx hc => ?_
    simp only [Int.toNat_natCast] at hx
    refine ⟨_, _, hc, o42 ⟨_, rfl, ?_⟩⟩
    rw [vif_not]
    refine vif_mk (fun hx' => ?_) fun hx' => ?_
    · refine ⟨trivial, ⟨i + 1, ?_, rfl, by omega, take_succ_all hx ha hx'⟩, ?_⟩
      · rw [wrapK_i64 (by omega)]; rfl
      · rw [wrapK_i64 (by omega)]; simp only [left]; omega
    · have hall : l.all okR = false := by
        rw [List.all_eq_false]
        have e1 : okR x = false := hx'
        exact ⟨x, List.mem_of_getElem? hx, by simp [e1]⟩
      simpa [mayC, hall] using hQ
  · have : l.take i = l := List.take_of_length_le (by omega)
    rw [this] at ha
    refine ⟨fun g => ?_, fun g => ?_⟩
    · have g' : l.length > 4096 := by omega
      simpa [mayC, ha, g'] using hQ
    · have g' : ¬ l.length > 4096 := by omega
      simpa [mayC, ha, g'] using hQ)

def spreadF (k : Int) (r : Int × Int) (i : Nat) : Int × Int := if k = 14 then (r.1, (r.2 + (i : Int)) % 1048576) else r
theorem spreadV_eq {k a : Int} {r : Int × Int} (h : k ≠ 15) : spreadV k a r = (List.range a.toNat).map (spreadF k r) := by
  unfold spreadV
  rw [if_neg h]
  split
  · rename_i g
    have : spreadF k r = fun (i : Nat) => (r.1, (r.2 + (i : Int)) % 1048576) := by funext i; simp [spreadF, g]
    rw [this]
  · rename_i g
    have : spreadF k r = fun (i : Nat) => r := by funext i; simp [spreadF, g]
    rw [this, List.map_const']
    simp

theorem spreadV_len {k a : Int} {r : Int × Int} (hf : fam k a = 3) : (spreadV k a r).length ≤ 8 := by
  have ha := fam_range (show fam k a ≠ 0 by omega)
  have := fam_spread hf
  by_cases h : k = 15
  · simp [spreadV, h]
  · rw [spreadV_eq h]; simp; omega
theorem spreadV_ok {k a : Int} {r : Int × Int} (hr : okR r = true) : (spreadV k a r).all okR = true := by
  have hr' := okR_iff.1 hr
  by_cases h : k = 15
  · simp only [spreadV, h, if_true, List.all_cons, hr, Bool.true_and, List.all_nil, Bool.and_true]
    rw [okR_iff]; simp only; omega
  · rw [spreadV_eq h, List.all_eq_true]
    intro x hx
    simp only [List.mem_map] at hx
    obtain ⟨i, _, rfl⟩ := hx
    unfold spreadF
    split
    · rw [okR_iff]; simp only; omega
    · exact hr

end
end Go.Proofs.Ytfafgnmlnhklaaa

/- Records in order: Compare, Sort. -/
namespace Go.Proofs.Ytfafgnmlnhklaaa
open Go.Ab
set_option linter.unusedVariables false
set_option linter.unusedSimpArgs false

section
variable {h : Heap} {Q : AV → Heap → Prop}

def leR (r s : Int × Int) : Bool := decide (r.1 < s.1 ∨ (r.1 = s.1 ∧ r.2 ≤ s.2))
theorem leR_iff {r s : Int × Int} : leR r s = true ↔ r.1 < s.1 ∨ (r.1 = s.1 ∧ r.2 ≤ s.2) := by simp [leR]
theorem leR_trans (a b c : Int × Int) (h1 : leR a b = true) (h2 : leR b c = true) : leR a c = true := by
  rw [leR_iff] at *; omega
theorem leR_total (a b : Int × Int) : (leR a b || leR b a) = true := by
  rw [Bool.or_eq_true, leR_iff, leR_iff]; omega
theorem leR_antisymm {a b : Int × Int} (h1 : leR a b = true) (h2 : leR b a = true) : a = b := by
  rw [leR_iff] at *; exact Prod.ext (by omega) (by omega)

/-- A number that is not above zero just where the one comes ahead of the other, or is it. -/
theorem o41 {a b c d : Int} (hQ : ∀ n : Int, (n ≤ 0 ↔ leR (a, b) (c, d) = true) → (n = 0 ↔ (a, b) = (c, d)) → (-1 ≤ n ∧ n ≤ 1) → Q (.int .i64 n) h) :
    AC Try.prog 41 [.agg [.int .i64 a, .int .i64 b], .agg [.int .i64 c, .int .i64 d]] h Q := ac41 (by
  unfold vc41
  simp only [vif_dec, vif_eq, vif_and, vif_true, Prod.mk.injEq, leR_iff] at hQ ⊢
  refine ⟨fun g => hQ _ (by omega) (by omega) (by omega), fun g => ⟨fun g1 => ⟨fun g2 => hQ _ (by omega) (by omega) (by omega), fun g2 => ⟨fun _ => ⟨fun g3 => hQ _ (by omega) (by omega) (by omega), fun g3 => hQ _ (by omega) (by omega) (by omega)⟩, fun g3 => hQ _ (by omega) (by omega) (by omega)⟩⟩,
    fun g1 => ⟨fun g3 => absurd g3 g1, fun g3 => hQ _ (by omega) (by omega) (by omega)⟩⟩⟩)

/-- The first of one list, to the end of another. -/
theorem take_head {h0 h' : Heap} {qa qo : Option SL} {x : Int × Int} {xs out : List (Int × Int)} {K : Option SL → Heap → Option SL → Prop} (Ha : HasL recE h0 qa (x :: xs)) (Ao : Acc recE h0 h' qo out) (hb : (out.length + 1) * 16 ≤ 140737488355328)
    (hK : ∀ qo' h3 qa', Acc recE h0 h3 qo' (out ++ [x]) → HasL recE h0 qa' xs → K qo' h3 qa') :
    vIdx qa 0 2 fun p => ∃ n : Int, ∃ m : Int, cellsAt h' p 2 = some [.int .i64 n, .int .i64 m] ∧
      PNew [.int .i64 n, .int .i64 m] true h' fun a h2 => PAppendS 2 16 qo (some ⟨a, 0, 1, 1, 0⟩) h2 fun q h3 => PSlice 2 qa 1 none none fun q' => K q h3 q' := by
  refine (Ha.mono Ao.ext).idx (E := recE) (by omega) (by simp) fun p r hr hc => ?_
  simp at hr
  subst hr
  refine ⟨_, _, hc, ?_⟩
  refine (Ao.mono (.app _ _)).append (E := recE) (m := [x]) (HasL.new (l := [x]) rfl rfl) (by simpa using hb) fun qo' h3 A3 => ?_
  refine Ha.slice (E := recE) (hi := none) (by omega) (by simp; omega) (by simp) fun q' Hq => hK _ _ _ A3 ?_
  simpa using Hq

theorem HasL_new' {α : Type} {E : Enc α} {h : Heap} {l : List α} {n opn : Nat} (hn : n = l.length) {c : List AV} (hc : c = E.all l) (ho : opn = 0 ∨ opn = E.sz) : HasL E (h ++ [.cells c true]) (some ⟨h.length, 0, n, n, opn⟩) l := by
  subst hn hc
  refine ⟨rfl, Nat.le_refl _, ho, ?_⟩
  rw [cellsAt_mk (C := E.all l) (rw' := true) (by simp) (by simp [Enc.all_length])]
  simp [← Enc.all_length]

/-- append([]T{}, l...) -/
theorem append_copy {α : Type} {E : Enc α} {h : Heap} {q : Option SL} {l : List α} {by' : Nat} {K : Option SL → Heap → Prop} (H : HasL E h q l) (hb : l.length * by' ≤ 140737488355328) (hK : ∀ q' h', Ext h h' → HasL E h' q' l → (∀ s, q' = some s → h.length ≤ s.b) → K q' h') :
    PNew [] true h fun a h3 => PAppendS E.sz by' (some ⟨a, 0, 0, 0, 0⟩) q h3 K := by
  unfold PNew
  have H' := H.mono (.app h [.cells [] true])
  have hex := Ext.app h [.cells [] true]
  have hat : (h ++ [Blk.cells [] true])[h.length]? = some (.cells [] true) := by simp
  generalize h ++ [Blk.cells [] true] = h1 at H' hex hat ⊢
  refine ⟨E.all l, H'.cells, by rw [Enc.all_length, H'.len], ?_⟩
  rw [H'.len]
  simp only
  split
  · rename_i hz
    have hl0 : l.length = 0 := by omega
    have : l = [] := List.eq_nil_of_length_eq_zero hl0
    subst this
    rw [hat]
    simp only
    refine ⟨by simp [Enc.all], hK _ _ ?_ ?_ (fun s hs => by cases hs; exact Nat.le_refl _)⟩
    · exact hex.set (Nat.le_refl _)
    · refine ⟨rfl, Nat.le_refl _, .inl rfl, ?_⟩
      have hlt := lt_of_get hat
      rw [cellsAt_mk (C := splice [] (0 + 0 * E.sz) (E.all ([] : List α))) (rw' := true) (by show (h1.set h.length _)[h.length]? = _; rw [List.getElem?_set_self hlt]) (by simp)]
      simp [Enc.all]
  · refine ⟨by simpa using hb, E.pos, ?_⟩
    have hold : cellsAt h1 ⟨h.length, 0⟩ (0 * E.sz) = some [] := by
      rw [cellsAt_mk (C := []) (rw' := true) hat (by simp)]; simp
    rw [hold, hat]
    simp only [if_true, List.nil_append, Nat.zero_add]
    exact hK _ _ (hex.trans (.app _ _)) (HasL_new' rfl rfl (.inr rfl)) (fun s hs => by cases hs; exact hex.len)

def merge2 (q : List AV) (_ : Heap) : Nat := match q with | .sl a :: .sl b :: _ => slLen a + slLen b | _ => 0

theorem merge_nil_right {le : Int × Int → Int × Int → Bool} {l : List (Int × Int)} : l.merge [] le = l := by cases l <;> simp [List.merge]

theorem o24 : ∀ (n : Nat) {h : Heap} {Q : AV → Heap → Prop} {q : Option SL} {l : List (Int × Int)}, l.length ≤ n → HasL recE h q l → l.length ≤ 1099511627776 →
    (∀ h' q' l', Ext h h' → HasL recE h' q' l' → (∀ s, q' = some s → h.length ≤ s.b) → l'.Perm l → l'.Pairwise (fun a b => leR a b = true) → Q (.sl q') h') → AC Try.prog 24 [.sl q] h Q := by
  intro n
  induction n with
  | zero =>
    intro h Q q l hn H hl hQ
    refine ac24 ?_
    unfold vc24
    have hnil : l = [] := List.eq_nil_of_length_eq_zero (by omega)
    subst hnil
    refine vif_t (by rw [H.len]; decide) ?_
    exact append_copy (E := recE) H (by simp) fun q' h' e H' f' => hQ _ _ _ e H' f' (.refl _) .nil
  | succ n ih =>
    intro h Q q l hn H hl hQ
    refine ac24 ?_
    unfold vc24
    simp only [H.len]
    refine vif_mk (fun g => ?_) fun g => ?_
    · have g : l.length < 2 := by simp at g; omega
      refine append_copy (E := recE) H (by omega) fun q' h' e H' f' => hQ _ _ _ e H' f' (.refl _) ?_
      match l, g with
      | [], _ => exact .nil
      | [x], _ => simp
    · have g : ¬ l.length < 2 := by simp at g; omega
      have hd : wrapK .i64 (Int.tdiv (l.length : Int) 2) = ((l.length / 2 : Nat) : Int) := by
        rw [tdiv_pos (by omega), wrapK_i64 (by omega)]; omega
      rw [hd]
      refine H.slice (E := recE) (hi := some ((l.length / 2 : Nat) : Int)) (by omega) (by simp; omega) (by simp; omega) fun qa Ha => ?_
      refine H.slice (E := recE) (hi := none) (by omega) (by simp; omega) (by simp) fun qb Hb => ?_
      simp only [Option.getD_some, Int.toNat_natCast, Int.toNat_zero, List.drop_zero, Option.getD_none, List.take_length] at Ha Hb
      refine ih (by simp; omega) Ha (by simp; omega) fun h1 q1 la e1 H1 _ P1 S1 => ⟨_, rfl, ?_⟩
      refine ih (by simp; omega) (Hb.mono e1) (by simp; omega) fun h2 q2 lb e2 H2 _ P2 S2 => ⟨_, rfl, ?_⟩
      have H1 := H1.mono e2
      have hperm : (la.merge lb leR).Perm l := by
        refine (List.merge_perm_append leR).trans ?_
        refine (P1.append P2).trans ?_
        rw [List.take_append_drop]
      have hsort : (la.merge lb leR).Pairwise (fun a b => leR a b = true) := List.pairwise_merge leR_trans leR_total _ _ S1 S2
      have hlen : (la.merge lb leR).length = l.length := hperm.length_eq
      refine ⟨fun xs h' => ∃ (qa qb qo : Option SL) (a b out : List (Int × Int)), xs = [.sl qa, .sl qb, .sl qo] ∧ HasL recE h2 qa a ∧ HasL recE h2 qb b ∧ Acc recE h2 h' qo out ∧ out ++ a.merge b leR = la.merge lb leR, merge2,
        ⟨_, _, _, _, _, [], rfl, H1, H2, Acc.start _, rfl⟩, ?_⟩
      rintro qa qb qo h3 ⟨_, _, _, a, b, out, e, Ha, Hb, Ao, hm⟩
      cases e
      simp only [Ha.len, Hb.len]
      have hbound : (out.length + 1) * 16 ≤ 140737488355328 ∨ (a = [] ∧ b = []) := by
        have := congrArg List.length hm
        simp only [List.length_append, List.length_merge, hlen] at this
        cases a <;> cases b <;> simp at this ⊢ <;> omega
      have stepA : ∀ x xs, a = x :: xs → out ++ [x] ++ xs.merge b leR = la.merge lb leR → ∀ qo' h4 qa', Acc recE h2 h4 qo' (out ++ [x]) → HasL recE h2 qa' xs →
          (∃ (qa_1 qb_1 qo : Option SL) (a b out : List (Int × Int)), [AV.sl qa', .sl qb, .sl qo'] = [.sl qa_1, .sl qb_1, .sl qo] ∧ HasL recE h2 qa_1 a ∧ HasL recE h2 qb_1 b ∧ Acc recE h2 h4 qo out ∧ out ++ a.merge b leR = la.merge lb leR) ∧
          merge2 [AV.sl qa', .sl qb, .sl qo'] h4 < merge2 [.sl qa, .sl qb, .sl qo] h3 := by
        intro x xs hax hm' qo' h4 qa' A4 Hqa
        refine ⟨⟨_, _, _, _, _, _, rfl, Hqa, Hb, A4, hm'⟩, ?_⟩
        simp only [merge2, Hqa.len, Ha.len, hax, List.length_cons]; omega
      have stepB : ∀ y ys, b = y :: ys → out ++ [y] ++ a.merge ys leR = la.merge lb leR → ∀ qo' h4 qb', Acc recE h2 h4 qo' (out ++ [y]) → HasL recE h2 qb' ys →
          (∃ (qa_1 qb_1 qo : Option SL) (a b out : List (Int × Int)), [AV.sl qa, .sl qb', .sl qo'] = [.sl qa_1, .sl qb_1, .sl qo] ∧ HasL recE h2 qa_1 a ∧ HasL recE h2 qb_1 b ∧ Acc recE h2 h4 qo out ∧ out ++ a.merge b leR = la.merge lb leR) ∧
          merge2 [AV.sl qa, .sl qb', .sl qo'] h4 < merge2 [.sl qa, .sl qb, .sl qo] h3 := by
        intro y ys hby hm' qo' h4 qb' A4 Hqb
        refine ⟨⟨_, _, _, _, _, _, rfl, Ha, Hqb, A4, hm'⟩, ?_⟩
        simp only [merge2, Hqb.len, Hb.len, hby, List.length_cons]; omega
      cases a with
      | nil =>
        cases b with
        | nil =>
          refine vif_f (by simp) (vif_f (by simp) ?_)
          have e0 : out = la.merge lb leR := by simpa [List.merge] using hm
          subst e0
          exact hQ _ _ _ ((e1.trans e2).trans Ao.ext) Ao.hasL (fun s hs => by
            subst hs
            have := Ao.2.1
            have := (e1.trans e2).len
            omega) hperm hsort
        | cons y ys =>
          refine vif_f (by simp) (vif_t (by simp) (vif_f (by simp; omega) (vif_f (by simp) ?_)))
          refine take_head Hb Ao (hbound.resolve_right (by simp)) fun qo' h4 qb' A4 Hq4 => ?_
          exact ⟨trivial, stepB y ys rfl (by rw [← hm]; simp [List.merge]) _ _ _ A4 Hq4⟩
      | cons x xs =>
        cases b with
        | nil =>
          refine vif_t (by simp) (vif_t (by simp) ?_)
          refine take_head Ha Ao (hbound.resolve_right (by simp)) fun qo' h4 qa' A4 Hq4 => ?_
          exact ⟨trivial, stepA x xs rfl (by rw [← hm]; simp [merge_nil_right]) _ _ _ A4 Hq4⟩
        | cons y ys =>
          refine vif_t (by simp) (vif_f (by simp; omega) (vif_t (by simp) ?_))
          refine (Ha.mono Ao.ext).idx (E := recE) (by omega) (by simp) fun p r hr hc => ⟨_, _, hc, ?_⟩
          refine (Hb.mono Ao.ext).idx (E := recE) (by omega) (by simp) fun p' r' hr' hc' => ⟨_, _, hc', ?_⟩
          simp at hr hr'
          subst hr hr'
          refine o41 fun k hk _ _ => ⟨_, rfl, ?_⟩
          refine vif_mk (fun g => ?_) fun g => ?_
          · have hle : leR x y = true := hk.1 (by simpa using g)
            refine take_head Ha Ao (hbound.resolve_right (by simp)) fun qo' h4 qa' A4 Hq4 => ?_
            exact ⟨trivial, stepA x xs rfl (by rw [← hm]; simp [List.merge, hle]) _ _ _ A4 Hq4⟩
          · have hle : leR x y = false := by
              cases hc : leR x y with
              | false => rfl
              | true => have := hk.2 hc; simp at g; omega
            refine take_head Hb Ao (hbound.resolve_right (by simp)) fun qo' h4 qb' A4 Hq4 => ?_
            exact ⟨trivial, stepB y ys rfl (by rw [← hm]; simp [List.merge, hle]) _ _ _ A4 Hq4⟩
end
end Go.Proofs.Ytfafgnmlnhklaaa

/- FnFolds over the abstract heap: it answers yes. -/
namespace Go.Proofs.Ytfafgnmlnhklaaa
open Go.Ab
set_option linter.unusedVariables false
set_option linter.unusedSimpArgs false

section
variable {h : Heap} {Q : AV → Heap → Prop}

theorem fam_fold {k a : Int} (h : fam k a = 4) : 16 ≤ k ∧ k ≤ 19 := by
  revert h; unfold fam
  repeat' split
  all_goals omega

theorem foldN_range {k : Int} : ∀ {l : List (Int × Int)} {v : Int}, (0 ≤ v ∧ v ≤ 1048575) → l.all okR = true → 0 ≤ foldN k l v ∧ foldN k l v ≤ 1048575
  | [], v, hv, _ => hv
  | r :: l, v, hv, hl => by
    simp only [List.all_cons, Bool.and_eq_true] at hl
    exact foldN_range (l := l) (stepV_range hv (okR_iff.1 hl.1).2) hl.2

end
end Go.Proofs.Ytfafgnmlnhklaaa

/- FnFolds over the abstract heap: it answers yes. -/
namespace Go.Proofs.Ytfafgnmlnhklaaa
open Go.Ab
set_option linter.unusedVariables false
set_option linter.unusedSimpArgs false

section
variable {h : Heap}

theorem all_perm {α : Type} {p : α → Bool} {l m : List α} (h : l.Perm m) : l.all p = m.all p := by
  rw [Bool.eq_iff_iff, List.all_eq_true, List.all_eq_true]
  exact ⟨fun g x hx => g x (h.mem_iff.2 hx), fun g x hx => g x (h.mem_iff.1 hx)⟩

theorem sameKey_iff {l : List (Int × Int)} : sameKey l = true ↔ l ≠ [] ∧ ∀ r ∈ l, ∀ s ∈ l, r.1 = s.1 := by
  cases l with
  | nil => simp [sameKey]
  | cons r0 rest =>
    unfold sameKey
    rw [List.all_eq_true]
    constructor
    · intro g
      refine ⟨by simp, fun r hr s hs => ?_⟩
      have h1 := g r hr
      have h2 := g s hs
      simp only [beq_iff_eq] at h1 h2
      rw [h1, h2]
    · rintro ⟨_, g⟩ r hr
      simpa using g r hr r0 (by simp)

theorem sameKey_perm {l m : List (Int × Int)} (h : l.Perm m) : sameKey l = sameKey m := by
  rw [Bool.eq_iff_iff, sameKey_iff, sameKey_iff]
  constructor
  · rintro ⟨h1, h2⟩
    exact ⟨fun e => h1 (by rw [e] at h; exact h.eq_nil), fun r hr s hs => h2 r (h.mem_iff.2 hr) s (h.mem_iff.2 hs)⟩
  · rintro ⟨h1, h2⟩
    exact ⟨fun e => h1 (by rw [e] at h; exact h.symm.eq_nil), fun r hr s hs => h2 r (h.mem_iff.1 hr) s (h.mem_iff.1 hs)⟩

theorem foldE_perm {k a : Int} {l m : List (Int × Int)} (h : l.Perm m) : foldE k a l = foldE k a m := by
  unfold foldE
  rw [all_perm h, sameKey_perm h]

/-- Where a fold begins. -/
def foldZ (k : Int) : Int := if k = 17 then 1048575 else 0
theorem foldZ_step {k v : Int} (hv : 0 ≤ v ∧ v ≤ 1048575) : stepV k (foldZ k) v = v := by
  unfold stepV foldZ
  repeat' split
  all_goals omega
theorem step_comm {k v x y : Int} : stepV k (stepV k v x) y = stepV k (stepV k v y) x := by
  unfold stepV
  by_cases h1 : k = 17
  · simp only [h1, if_true]; repeat' split
    all_goals omega
  · simp only [h1, if_false]
    by_cases h2 : k = 18
    · simp only [h2, if_true]; repeat' split
      all_goals omega
    · simp only [h2, if_false]; omega

theorem foldN_perm {k z : Int} {l m : List (Int × Int)} (h : l.Perm m) : foldN k l z = foldN k m z :=
  h.foldl_eq' (fun x _ y _ z => step_comm) z

theorem foldV_eq {k : Int} {r : Int × Int} {rest : List (Int × Int)} (hr : okR r = true) : foldV k (r :: rest) = (r.1, if k = 19 then ((r :: rest).length : Int) % 1048576 else foldN k (r :: rest) (foldZ k)) := by
  unfold foldV
  have : foldN k (r :: rest) (foldZ k) = foldN k rest r.2 := by
    show foldN k rest (stepV k (foldZ k) r.2) = _
    rw [foldZ_step (okR_iff.1 hr).2]
  rw [this]

theorem foldV_perm {k : Int} {l m : List (Int × Int)} (h : l.Perm m) (hok : l.all okR = true) (hs : sameKey l = true) : foldV k l = foldV k m := by
  have hs' := (sameKey_iff.1 hs)
  cases l with
  | nil => exact absurd rfl hs'.1
  | cons r rest =>
    cases m with
    | nil => exact absurd h.eq_nil (by simp)
    | cons s rest' =>
      have hr : okR r = true := List.all_eq_true.1 hok r (by simp)
      have hs2 : okR s = true := List.all_eq_true.1 hok s (h.mem_iff.2 (by simp))
      rw [foldV_eq hr, foldV_eq hs2, foldN_perm h, h.length_eq, hs'.2 r (by simp) s (h.mem_iff.2 (by simp))]

theorem foldV_ok {k : Int} {l : List (Int × Int)} (hok : l.all okR = true) (hne : l ≠ []) : okR (foldV k l) = true := by
  cases l with
  | nil => exact absurd rfl hne
  | cons r rest =>
    simp only [List.all_cons, Bool.and_eq_true] at hok
    have hr := okR_iff.1 hok.1
    rw [okR_iff]
    refine ⟨hr.1, ?_⟩
    unfold foldV
    simp only
    split
    · omega
    · exact foldN_range hr.2 hok.2

theorem foldE_zero {k a : Int} {l : List (Int × Int)} (h : foldE k a l = 0) : fam k a = 4 ∧ l.all okR = true ∧ sameKey l = true := by
  unfold foldE at h
  split at h
  · simp at h
  · split at h
    · split at h
      · rename_i h1 h2 h3; exact ⟨by omega, h2, h3⟩
      · simp at h
    · simp at h

end
end Go.Proofs.Ytfafgnmlnhklaaa
