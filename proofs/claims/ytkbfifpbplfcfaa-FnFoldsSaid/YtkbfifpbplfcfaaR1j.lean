/- FnFolds over the abstract heap: it answers yes. -/
import Derived.Test.YtkbfifpbplfcfaaR1i
namespace Go.Proofs
open Go.Ab
set_option linter.unusedVariables false
set_option linter.unusedSimpArgs false

section
variable {h : Heap} {Q : AV → Heap → Prop}

theorem s24 {k a : Int} {q : Option SL} {l : List (Int × Int)} (H : HasL recE h q l) (hl : l.length ≤ 4611686018427387904) (hQ : Q (.int .i64 (foldE k a l)) h) : AC Try.prog 24 [.agg [.int .i64 k, .int .i64 a], .sl q] h Q := ac24 (by
  unfold vc24
  refine s14 ⟨_, rfl, ?_⟩
  simp only [vif_ne]
  unfold foldE at hQ
  refine ⟨fun g => by simpa [g] using hQ, fun g => ?_⟩
  simp only [g, ne_eq, not_true_eq_false, if_false] at hQ
  refine ⟨fun xs h' => ∃ i : Nat, xs = [.int .i64 i] ∧ h' = h ∧ i ≤ l.length ∧ (l.take i).all okR = true, left l.length, ⟨0, rfl, rfl, by simp, by simp⟩, ?_⟩
  rintro n h' ⟨i, e, rfl, hi, ha⟩
  cases e
  simp only [H.len]
  simp only [vif_dec]
  refine ⟨fun g1 => ?_, fun g1 => ?_⟩
  · refine H.idx (E := recE) (by omega) (by omega) fun p x hx hc => ?_
    simp only [Int.toNat_natCast] at hx
    refine ⟨_, _, hc, s12 ⟨_, rfl, ?_⟩⟩
    rw [vif_not]
    refine vif_mk (fun hx' => ?_) fun hx' => ?_
    · refine ⟨by simp, ⟨i + 1, ?_, by simp, by omega, take_succ_all hx ha hx'⟩, ?_⟩
      · rw [wrapK_i64 (by omega)]; rfl
      · rw [wrapK_i64 (by omega)]; simp only [left]; omega
    · have hall : l.all okR = false := by
        rw [List.all_eq_false]
        have e1 : okR x = false := hx'
        exact ⟨x, List.mem_of_getElem? hx, by simp [e1]⟩
      simpa [hall] using hQ
  · have hti : l.take i = l := List.take_of_length_le (by omega)
    rw [hti] at ha
    simp only [ha, if_true] at hQ
    clear hti hi g1 i
    cases l with
    | nil =>
      refine ⟨fun xs h2 => xs = [.int .i64 0] ∧ h2 = h', left 0, ⟨rfl, rfl⟩, ?_⟩
      rintro n h2 ⟨e, rfl⟩
      cases e
      refine ⟨fun g => absurd g (by simp), fun _ => ?_⟩
      exact vif_t (by simp) (by simpa [sameKey] using hQ)
    | cons r0 rest =>
      refine ⟨fun xs h2 => ∃ i : Nat, xs = [.int .i64 i] ∧ h2 = h' ∧ i ≤ (r0 :: rest).length ∧ ((r0 :: rest).take i).all (fun r => r.1 == r0.1) = true, left (r0 :: rest).length, ⟨0, rfl, rfl, by simp, by simp⟩, ?_⟩
      rintro n h2 ⟨i, e, rfl, hi, ha'⟩
      cases e
      refine ⟨fun g1 => ?_, fun g1 => ?_⟩
      · have g1 : i < (r0 :: rest).length := by omega
        refine H.idx (E := recE) (by omega) (by omega) fun p x hx hc => ?_
        refine ⟨_, cellsAt_sub (k := 0) (m := 1) hc (by simp [recE]), ?_⟩
        refine H.idx (E := recE) (by omega) (by simp) fun p' y hy hc' => ?_
        simp at hy
        subst hy
        refine ⟨_, cellsAt_sub (k := 0) (m := 1) hc' (by simp [recE]), ?_⟩
        simp only [Int.toNat_natCast] at hx
        refine ⟨fun g => ?_, fun g => ?_⟩
        · have : sameKey (r0 :: rest) = false := by
            unfold sameKey
            rw [List.all_eq_false]
            exact ⟨x, List.mem_of_getElem? hx, by simpa using g⟩
          simpa [this] using hQ
        · refine ⟨by simp, ⟨i + 1, ?_, rfl, by omega, take_succ_all hx ha' (by simpa using g)⟩, ?_⟩
          · rw [wrapK_i64 (by omega)]; rfl
          · rw [wrapK_i64 (by omega)]; simp only [left]; omega
      · have g1 : ¬ i < (r0 :: rest).length := by omega
        have hti : (r0 :: rest).take i = r0 :: rest := List.take_of_length_le (by omega)
        rw [hti] at ha'
        have : sameKey (r0 :: rest) = true := ha'
        refine vif_f (by simp; omega) ?_
        simpa [this] using hQ)

theorem fam_fold {k a : Int} (h : fam k a = 4) : 16 ≤ k ∧ k ≤ 19 := by
  revert h; unfold fam
  repeat' split
  all_goals omega

theorem foldN_range {k : Int} : ∀ {l : List (Int × Int)} {v : Int}, (0 ≤ v ∧ v ≤ 1048575) → l.all okR = true → 0 ≤ foldN k l v ∧ foldN k l v ≤ 1048575
  | [], v, hv, _ => hv
  | r :: l, v, hv, hl => by
    simp only [List.all_cons, Bool.and_eq_true] at hl
    exact foldN_range (l := l) (stepV_range hv (okR_iff.1 hl.1).2) hl.2

theorem s25 {k a : Int} {q : Option SL} {l : List (Int × Int)} (H : HasL recE h q l) (hl : l.length ≤ 4611686018427387904) (hf : fam k a = 4) (hok : l.all okR = true) (hne : l ≠ [])
    (hQ : Q (.agg [.int .i64 (foldV k l).1, .int .i64 (foldV k l).2]) h) : AC Try.prog 25 [.agg [.int .i64 k, .int .i64 a], .sl q] h Q := ac25 (by
  unfold vc25
  cases l with
  | nil => exact absurd rfl hne
  | cons r0 rest =>
    have hk := fam_fold hf
    simp only [List.all_cons, Bool.and_eq_true] at hok
    have hr0 := okR_iff.1 hok.1
    simp only [List.length_cons] at hl
    refine H.idx (E := recE) (by omega) (by simp) fun p x hx hc => ?_
    simp at hx
    subst hx
    have c0 := cellsAt_sub (k := 0) (m := 1) hc (by simp [recE])
    have c1 := cellsAt_sub (k := 1) (m := 1) hc (by simp [recE])
    refine ⟨_, c0, ?_⟩
    refine H.idx (E := recE) (by omega) (by simp) fun p' x hx hc' => ?_
    simp at hx
    subst hx
    have c1' := cellsAt_sub (k := 1) (m := 1) hc' (by simp [recE])
    refine ⟨_, c1', ⟨_, c1', rfl⟩, ⟨_, c0, rfl⟩, ?_⟩
    refine vif_eq.2 ⟨fun g => ?_, fun g19 => ?_⟩
    · rw [H.len]
      exact s31 (by omega) ⟨_, rfl, by simpa [foldV, g] using hQ⟩
    · refine ⟨fun xs h2 => ∃ (i : Nat) (v : Int), xs = [.int .i64 ((i : Int) + 1), .int .i64 r0.1, .int .i64 v] ∧ h2 = h ∧ i ≤ rest.length ∧ v = foldN k (rest.take i) r0.2 ∧ (0 ≤ v ∧ v ≤ 1048575), fun xs h2 => left (rest.length + 1) xs h2,
        ⟨0, _, rfl, rfl, by simp, rfl, hr0.2⟩, ?_⟩
      rintro n1 n2 n3 h2 ⟨i, v, e, rfl, hi, hv, hvr⟩
      cases e
      simp only [H.len]
      refine vif_mk (fun g1 => ?_) fun g1 => ?_
      · have g1 : i < rest.length := by simp at g1; omega
        refine H.idx (E := recE) (by omega) (by simp; omega) fun p2 x hx hc2 => ?_
        have hx : rest[i]? = some x := by
          have e1 : ((i : Int) + 1).toNat = i + 1 := by omega
          rw [e1] at hx; simpa using hx
        have hxo := okR_iff.1 (List.all_eq_true.1 hok.2 x (List.mem_of_getElem? hx))
        have fin : ∀ w : Int, w = stepV k n3 x.2 →
            (∃ (i_1 : Nat) (v : Int), [AV.int .i64 (wrapK .i64 ((i : Int) + 1 + 1)), .int .i64 r0.1, .int .i64 w] = [.int .i64 ((i_1 : Int) + 1), .int .i64 r0.1, .int .i64 v] ∧ h2 = h2 ∧ i_1 ≤ rest.length ∧ v = foldN k (rest.take i_1) r0.2 ∧ (0 ≤ v ∧ v ≤ 1048575)) ∧
            left (rest.length + 1) [AV.int .i64 (wrapK .i64 ((i : Int) + 1 + 1)), .int .i64 r0.1, .int .i64 w] h2 < left (rest.length + 1) [.int .i64 ((i : Int) + 1), .int .i64 r0.1, .int .i64 n3] h2 := by
          intro w hw
          rw [wrapK_i64 (by omega)]
          refine ⟨⟨i + 1, w, by simp, rfl, by omega, ?_, ?_⟩, by simp only [left]; omega⟩
          · rw [hw, List.take_add_one, hx, hv]; simp [foldN]
          · rw [hw]; exact stepV_range (k := k) hvr hxo.2
        have finT := fin
        simp only [eq_self_iff_true] at finT
        refine ⟨_, cellsAt_sub (k := 1) (m := 1) hc2 (by simp [recE]), ?_⟩
        refine vif_eq.2 ⟨fun g => ?_, fun g16 => ?_⟩
        · rw [wrapK_i64 (by omega)]
          refine s31 (by omega) ⟨_, rfl, by simp, fin _ ?_⟩
          simp [stepV, g]
        · refine vif_eq.2 ⟨fun g => ?_, fun g17 => ?_⟩
          · subst g
            refine vif_dec.2 ⟨fun c => ⟨by simp, finT _ ?_⟩, fun c => vif_f (by simp) ⟨by simp, finT _ ?_⟩⟩
            · simp [stepV, c]
            · simp [stepV, c]
          · have g18 : k = 18 := by omega
            refine vif_t (by simpa using g18) ?_
            refine vif_dec.2 ⟨fun c => ⟨by simp, finT _ ?_⟩, fun c => ⟨by simp, finT _ ?_⟩⟩
            · have c : n3 < x.2 := c
              simp [stepV, g18, c]
            · have c : ¬ n3 < x.2 := c
              simp [stepV, g18, c]
      · have g1 : ¬ i < rest.length := by simp at g1; omega
        have hti : rest.take i = rest := List.take_of_length_le (by omega)
        rw [hti] at hv
        subst hv
        simpa [foldV, g19] using hQ)
end
end Go.Proofs
