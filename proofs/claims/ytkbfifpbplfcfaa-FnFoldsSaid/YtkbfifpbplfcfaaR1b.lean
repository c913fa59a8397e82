/- Functions of records: what each does. Those that may refuse. -/
import Derived.Test.YtkbfifpbplfcfaaR1a
namespace Go.Proofs
open Go.Ab
set_option linter.unusedVariables false
set_option linter.unusedSimpArgs false

section
variable {h : Heap} {Q : AV → Heap → Prop}

/-- How far a loop's number is from its end. -/
def left (n : Nat) (xs : List AV) (_ : Heap) : Nat := match xs with | .int _ i :: _ => (n - i).toNat | _ => 0

theorem take_succ_all {α : Type} {p : α → Bool} {l : List α} {i : Nat} {x : α} (hx : l[i]? = some x) (h : (l.take i).all p = true) (hp : p x = true) : (l.take (i + 1)).all p = true := by
  rw [List.take_add_one, hx]
  simp only [List.all_append, h, Bool.true_and]
  simp [hp]

def mayE (k a f : Int) (l : List (Int × Int)) : Int := if fam k a ≠ f then 160 else if l.all okR then 0 else 30

theorem s28 {k a f : Int} {q : Option SL} {l : List (Int × Int)} (H : HasL recE h q l) (hl : l.length ≤ 4611686018427387904) (hQ : Q (.int .i64 (mayE k a f l)) h) :
    AC Try.prog 28 [.agg [.int .i64 k, .int .i64 a], .int .i64 f, .sl q] h Q := ac28 (by
  unfold vc28
  refine s16 ⟨_, rfl, ?_⟩
  simp only [vif_ne]
  refine ⟨fun g => by simpa [mayE, g] using hQ, fun g => ?_⟩
  refine ⟨fun xs h' => ∃ i : Nat, xs = [.int .i64 i] ∧ h' = h ∧ i ≤ l.length ∧ (l.take i).all okR = true, left l.length, ⟨0, rfl, rfl, by simp, by simp⟩, ?_⟩
  rintro n h' ⟨i, e, rfl, hi, ha⟩
  cases e
  rw [H.len]
  simp only [vif_dec]
  refine ⟨fun g1 => ?_, fun g1 => ?_⟩
  · refine H.idx (E := recE) (by omega) (by omega) fun p x hx hc => ?_
    simp only [Int.toNat_natCast] at hx
    refine ⟨_, _, hc, s39 ⟨_, rfl, ?_⟩⟩
    simp only [vif_ne]
    cases hx' : okR x with
    | false =>
      have hall : l.all okR = false := by
        rw [List.all_eq_false]
        exact ⟨x, List.mem_of_getElem? hx, by simp [hx']⟩
      refine ⟨fun _ => ?_, fun g => by simp at g⟩
      simpa [mayE, g, hall] using hQ
    | true =>
      refine ⟨fun g => by simp at g, fun _ => ⟨by simp, ⟨i + 1, ?_, by simp, by omega, take_succ_all hx ha hx'⟩, ?_⟩⟩
      · rw [wrapK_i64 (by omega)]; rfl
      · rw [wrapK_i64 (by omega)]; simp only [left]; omega
  · have : l.take i = l := List.take_of_length_le (by omega)
    rw [this] at ha
    simpa [mayE, g, ha] using hQ)

def mapV (k a : Int) (r : Int × Int) : Int × Int :=
  if k = 1 then (r.1, (r.2 + a) % 1048576) else
  if k = 2 then (r.1, (r.2 * a) % 1048576) else
  if k = 3 then (r.2, r.1) else
  if k = 4 then (r.1 % a, r.2) else
  if k = 5 then (r.1, r.2 % a) else
  if k = 6 then (r.2 / a, r.2) else
  if k = 7 then (r.1, if a < r.2 then a else r.2) else
  if k = 8 then (r.1, if r.2 < a then a else r.2) else r

theorem fam_range {k a : Int} (h : fam k a ≠ 0) : 0 ≤ a ∧ a ≤ 1048575 := by
  revert h; unfold fam
  by_cases h1 : a < 0 ∨ 1048576 ≤ a
  · rw [if_pos h1]; intro h; exact absurd rfl h
  · intro _; omega
theorem fam_mod {k a : Int} (h : fam k a ≠ 0) (hk : k = 4 ∨ k = 5 ∨ k = 6) : 1 ≤ a := by
  rw [ne_eq, fam_zero, if_pos hk] at h
  omega

theorem mul_small {x y : Int} (h1 : 0 ≤ x ∧ x ≤ 1048575) (h2 : 0 ≤ y ∧ y ≤ 1048575) : 0 ≤ x * y ∧ x * y ≤ 1099509530625 := by
  refine ⟨Int.mul_nonneg h1.1 h2.1, ?_⟩
  have := Int.mul_le_mul h1.2 h2.2 h2.1 (by decide : (0 : Int) ≤ 1048575)
  omega

/-- The document's Map. -/
theorem s11 {k a x y : Int} (hf : fam k a ≠ 0) (hr : okR (x, y) = true) (hQ : Q (.agg [.int .i64 (mapV k a (x, y)).1, .int .i64 (mapV k a (x, y)).2]) h) :
    AC Try.prog 11 [.agg [.int .i64 k, .int .i64 a], .agg [.int .i64 x, .int .i64 y]] h Q := ac11 (by
  rw [okR_iff] at hr
  obtain ⟨⟨x0, x1⟩, y0, y1⟩ := hr
  simp only at x0 x1 y0 y1
  have ha := fam_range hf
  have hq : ∀ u v : Int, mapV k a (x, y) = (u, v) → Q (.agg [.int .i64 u, .int .i64 v]) h := by intro u v e; rw [e] at hQ; exact hQ
  have hm := mul_small ⟨y0, y1⟩ ha
  unfold vc11
  simp only [vif_eq, vif_dec, need_var]
  refine ⟨fun g => ?_, fun n1 => ⟨fun g => ?_, fun n2 => ⟨fun g => ?_, fun n3 => ⟨fun g => ?_, fun n4 => ⟨fun g => ?_, fun n5 => ⟨fun g => ?_, fun n6 => ⟨fun g => ?_, fun n7 => ⟨fun g => ?_, fun n8 => ?_⟩⟩⟩⟩⟩⟩⟩⟩
  · rw [wrapK_i64 (by omega)]; exact s31 (by omega) ⟨_, rfl, hq _ _ (by simp [mapV, g])⟩
  · rw [wrapK_i64 (by omega)]; exact s31 (by omega) ⟨_, rfl, hq _ _ (by simp [mapV, g])⟩
  · exact hq _ _ (by simp [mapV, g])
  · have := fam_mod hf (by omega)
    exact ⟨by simp; omega, by rw [tmod_pos x0]; exact hq _ _ (by simp [mapV, g])⟩
  · have := fam_mod hf (by omega)
    exact ⟨by simp; omega, by rw [tmod_pos y0]; exact hq _ _ (by simp [mapV, g])⟩
  · have := fam_mod hf (by omega)
    have hd : 0 ≤ y / a ∧ y / a ≤ y := ⟨Int.ediv_nonneg y0 (by omega), Int.ediv_le_self a y0⟩
    exact ⟨by simp; omega, by rw [tdiv_pos y0, wrapK_i64 (by omega)]; exact hq _ _ (by simp [mapV, g])⟩
  · exact ⟨fun c => hq _ _ (by simp [mapV, g, c]), fun c => hq _ _ (by simp [mapV, g, c])⟩
  · refine ⟨fun c => hq _ _ ?_, fun c => hq _ _ ?_⟩
    · have : y < a := c
      simp [mapV, g, this]
    · have : ¬ y < a := c
      simp [mapV, g, this]
  · exact hq _ _ (by simp [mapV, *]))

def retR (r : Int × Int) (e : Int) : AV := .tup [.agg [.int .i64 r.1, .int .i64 r.2], .int .i64 e]

/-- fn.Map. -/
theorem s8 {k a x y : Int} (hQ : ∀ h', Ext h h' → Q (if mayE k a 1 [(x, y)] = 0 then retR (mapV k a (x, y)) 0 else retR (0, 0) (mayE k a 1 [(x, y)])) h') :
    AC Try.prog 8 [.agg [.int .i64 k, .int .i64 a], .agg [.int .i64 x, .int .i64 y]] h Q := ac8 (by
  unfold vc8 PNew
  refine s28 (HasL.new (l := [(x, y)]) rfl rfl) (by simp) ⟨_, rfl, ?_⟩
  have hQ := hQ _ (Ext.app h [.cells [.int .i64 x, .int .i64 y] true])
  generalize h ++ [.cells [.int .i64 x, .int .i64 y] true] = h' at hQ ⊢
  simp only [vif_ne]
  refine ⟨fun g => by rw [if_neg g] at hQ; exact hQ, fun g => ?_⟩
  rw [if_pos g] at hQ
  have hf : fam k a = 1 := by
    unfold mayE at g
    split at g
    · simp at g
    · omega
  have hr : okR (x, y) = true := by
    unfold mayE at g
    rw [if_neg (by omega)] at g
    cases hc : okR (x, y) with
    | true => rfl
    | false => simp [hc] at g
  rw [okR_iff] at hr
  obtain ⟨⟨x0, x1⟩, y0, y1⟩ := hr
  simp only at x0 x1 y0 y1
  have hf : fam k a ≠ 0 := by omega
  have ha := fam_range hf
  have hq : ∀ u v : Int, mapV k a (x, y) = (u, v) → Q (.tup [.agg [.int .i64 u, .int .i64 v], .int .i64 0]) h' := by intro u v e; rw [e] at hQ; exact hQ
  have hm := mul_small ⟨y0, y1⟩ ha
  simp only [vif_eq, vif_dec, need_var]
  refine ⟨fun g => ?_, fun n1 => ⟨fun g => ?_, fun n2 => ⟨fun g => ?_, fun n3 => ⟨fun g => ?_, fun n4 => ⟨fun g => ?_, fun n5 => ⟨fun g => ?_, fun n6 => ⟨fun g => ?_, fun n7 => ⟨fun g => ?_, fun n8 => ?_⟩⟩⟩⟩⟩⟩⟩⟩
  · rw [wrapK_i64 (by omega)]; exact s29 (by omega) (by omega) ⟨_, rfl, hq _ _ (by simp [mapV, g])⟩
  · rw [wrapK_i64 (by omega)]; exact s29 (by omega) (by omega) ⟨_, rfl, hq _ _ (by simp [mapV, g])⟩
  · exact s30 ⟨_, _, rfl, hq _ _ (by simp [mapV, g])⟩
  · have := fam_mod hf (by omega)
    exact ⟨by simp; omega, by rw [tmod_pos x0]; exact hq _ _ (by simp [mapV, g])⟩
  · have := fam_mod hf (by omega)
    exact ⟨by simp; omega, by rw [tmod_pos y0]; exact hq _ _ (by simp [mapV, g])⟩
  · have := fam_mod hf (by omega)
    have hd : 0 ≤ y / a ∧ y / a ≤ y := ⟨Int.ediv_nonneg y0 (by omega), Int.ediv_le_self a y0⟩
    exact ⟨by simp; omega, by rw [tdiv_pos y0, wrapK_i64 (by omega)]; exact hq _ _ (by simp [mapV, g])⟩
  · exact hq _ _ (by simp [mapV, g, minI])
  · exact hq _ _ (by simp [mapV, g, maxI2])
  · exact hq _ _ (by simp [mapV, *]))

/-- What a record's function answers when it may not. -/
def wantE (k a f : Int) (r : Int × Int) : Int := if fam k a ≠ f then 160 else if okR r then 0 else 30
theorem mayE_one {k a f : Int} {r : Int × Int} : mayE k a f [r] = wantE k a f r := by simp [mayE, wantE]
theorem wantE_zero {k a f : Int} {r : Int × Int} (h : wantE k a f r = 0) : fam k a = f ∧ okR r = true := by
  unfold wantE at h
  split at h
  · simp at h
  · split at h
    · rename_i h1 h2; exact ⟨by omega, h2⟩
    · simp at h

theorem s10 {k a f x y : Int} (hQ : Q (.int .i64 (wantE k a f (x, y))) h) : AC Try.prog 10 [.agg [.int .i64 k, .int .i64 a], .int .i64 f, .agg [.int .i64 x, .int .i64 y]] h Q := ac10 (by
  unfold vc10
  refine s14 ⟨_, rfl, ?_⟩
  simp only [vif_ne]
  refine ⟨fun g => by simpa [wantE, g] using hQ, fun g => s12 ⟨_, rfl, ?_⟩⟩
  cases hc : okR (x, y) <;> simpa [vif, wantE, g, hc] using hQ)

def testV (k a : Int) (r : Int × Int) : Bool := if k = 9 then decide (r.2 < a) else if k = 10 then decide (r.2 > a) else if k = 11 then r.1 == a else r.2 % 2 == 1

theorem s15 {k a x y : Int} (hr : okR (x, y) = true) (hQ : Q (.bool (testV k a (x, y))) h) : AC Try.prog 15 [.agg [.int .i64 k, .int .i64 a], .agg [.int .i64 x, .int .i64 y]] h Q := ac15 (by
  rw [okR_iff] at hr
  obtain ⟨⟨x0, x1⟩, y0, y1⟩ := hr
  simp only at x0 x1 y0 y1
  unfold vc15
  simp only [vif_eq]
  rw [tmod_pos y0]
  refine ⟨fun g => by simpa [testV, g] using hQ, fun n1 => ⟨fun g => by simpa [testV, g] using hQ, fun n2 => ⟨fun g => by simpa [testV, g] using hQ, fun n3 => by simpa [testV, n1, n2, n3] using hQ⟩⟩⟩)

theorem s13 {k a x y : Int} (hQ : ∀ h', Ext h h' → Q (.tup [.bool (decide (wantE k a 2 (x, y) = 0) && testV k a (x, y)), .int .i64 (wantE k a 2 (x, y))]) h') :
    AC Try.prog 13 [.agg [.int .i64 k, .int .i64 a], .agg [.int .i64 x, .int .i64 y]] h Q := ac13 (by
  unfold vc13 PNew
  refine s28 (HasL.new (l := [(x, y)]) rfl rfl) (by simp) ⟨_, rfl, ?_⟩
  have hQ := hQ _ (Ext.app h [.cells [.int .i64 x, .int .i64 y] true])
  generalize h ++ [.cells [.int .i64 x, .int .i64 y] true] = h' at hQ ⊢
  rw [mayE_one]
  simp only [vif_ne]
  refine ⟨fun g => by simpa [g] using hQ, fun g => ?_⟩
  rw [g] at hQ
  obtain ⟨hf, hr⟩ := wantE_zero g
  rw [okR_iff] at hr
  obtain ⟨⟨x0, x1⟩, y0, y1⟩ := hr
  simp only at x0 x1 y0 y1
  have e := bitsAnd_mask (n := y) 1 (by decide) (by omega) (by omega)
  have e1 : (2 : Int) ^ 1 - 1 = 1 := by decide
  have e2 : (2 : Int) ^ 1 = 2 := by decide
  rw [e1, e2] at e
  rw [e]
  simp only [vif_eq]
  refine ⟨fun g => by simpa [testV, g] using hQ, fun n1 => ⟨fun g => by simpa [testV, g] using hQ, fun n2 => ⟨fun g => by simpa [testV, g] using hQ, fun n3 => by simpa [testV, n1, n2, n3] using hQ⟩⟩⟩)

def pairV (k : Int) (r s : Int × Int) : Int × Int := if k = 20 then r else if k = 21 then s else if k = 22 then (r.1, (r.2 + s.2) % 1048576) else (r.2, s.2)

def pairE (k a : Int) (r s : Int × Int) : Int := if fam k a ≠ 5 then 160 else if okR r && okR s then (if r.1 = s.1 then 0 else 1) else 30

theorem s27 {k a x y u v : Int} (hr : okR (x, y) = true) (hs : okR (u, v) = true) (hQ : Q (.agg [.int .i64 (pairV k (x, y) (u, v)).1, .int .i64 (pairV k (x, y) (u, v)).2]) h) :
    AC Try.prog 27 [.agg [.int .i64 k, .int .i64 a], .agg [.int .i64 x, .int .i64 y], .agg [.int .i64 u, .int .i64 v]] h Q := ac27 (by
  rw [okR_iff] at hr hs
  obtain ⟨⟨x0, x1⟩, y0, y1⟩ := hr
  obtain ⟨⟨u0, u1⟩, v0, v1⟩ := hs
  simp only at x0 x1 y0 y1 u0 u1 v0 v1
  unfold vc27
  simp only [vif_eq]
  refine ⟨fun g => by simpa [pairV, g] using hQ, fun n1 => ⟨fun g => by simpa [pairV, g] using hQ, fun n2 => ⟨fun g => ?_, fun n3 => by simpa [pairV, n1, n2, n3] using hQ⟩⟩⟩
  rw [wrapK_i64 (by omega)]
  exact s31 (by omega) ⟨_, rfl, by simp, by simpa [pairV, g] using hQ⟩)

theorem s26 {k a x y u v : Int} (hQ : ∀ h', Ext h h' → Q (if pairE k a (x, y) (u, v) = 0 then retR (pairV k (x, y) (u, v)) 0 else retR (0, 0) (pairE k a (x, y) (u, v))) h') :
    AC Try.prog 26 [.agg [.int .i64 k, .int .i64 a], .agg [.int .i64 x, .int .i64 y], .agg [.int .i64 u, .int .i64 v]] h Q := ac26 (by
  unfold vc26 PNew
  refine s28 (HasL.new (l := [(x, y), (u, v)]) rfl rfl) (by simp) ⟨_, rfl, ?_⟩
  have hQ := hQ _ (Ext.app h [.cells [.int .i64 x, .int .i64 y, .int .i64 u, .int .i64 v] true])
  generalize h ++ [.cells [.int .i64 x, .int .i64 y, .int .i64 u, .int .i64 v] true] = h' at hQ ⊢
  simp only [vif_ne, mayE, List.all_cons, List.all_nil, Bool.and_true]
  simp only [pairE, retR] at hQ
  by_cases hf : fam k a = 5
  · simp only [hf, ne_eq, not_true_eq_false, if_false] at hQ ⊢
    cases hc : (okR (x, y) && okR (u, v)) with
    | false =>
      simp only [hc] at hQ ⊢
      exact ⟨fun _ => by simpa using hQ, fun g => by simp at g⟩
    | true =>
      simp only [hc] at hQ ⊢
      simp only [Bool.and_eq_true] at hc
      obtain ⟨hr, hs⟩ := hc
      rw [okR_iff] at hr hs
      obtain ⟨⟨x0, x1⟩, y0, y1⟩ := hr
      obtain ⟨⟨u0, u1⟩, v0, v1⟩ := hs
      simp only at x0 x1 y0 y1 u0 u1 v0 v1
      refine ⟨fun g => by simp at g, fun _ => ⟨fun g => ?_, fun g => ?_⟩⟩
      · simpa [g] using hQ
      · subst g
        simp only [if_true] at hQ
        simp only [vif_eq]
        refine ⟨fun g => by simpa [pairV, g] using hQ, fun n1 => ⟨fun g => by simpa [pairV, g] using hQ, fun n2 => ⟨fun g => ?_, fun n3 => by simpa [pairV, n1, n2, n3] using hQ⟩⟩⟩
        rw [wrapK_i64 (by omega)]
        exact s29 (by omega) (by omega) ⟨_, rfl, by simp, by simpa [pairV, g] using hQ⟩
  · simp only [hf, ne_eq, not_false_eq_true, if_true] at hQ ⊢
    exact ⟨fun _ => by simpa using hQ, fun g => by simp at g⟩)
end
end Go.Proofs
