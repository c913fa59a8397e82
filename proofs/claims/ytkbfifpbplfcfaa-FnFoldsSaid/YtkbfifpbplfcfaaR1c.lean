/- Functions of records: spreads and folds. -/
import Derived.Test.YtkbfifpbplfcfaaR1b
import Derived.Test.YtkbfifpbplfcfaaAb21
namespace Go.Proofs
open Go.Ab
set_option linter.unusedVariables false
set_option linter.unusedSimpArgs false

section
variable {h : Heap} {Q : AV → Heap → Prop}

theorem s40 {n : Nat} (hn : n ≤ 8) (hQ : Q (.tup [.int .u64 0, .int .u64 n]) h) : AC Try.prog 40 [.int .u64 (wrapK .u64 1), .int .u64 (wrapK .u64 n)] h Q := ac40 (by
  unfold vc40
  refine ac44 ?_
  have : n = 0 ∨ n = 1 ∨ n = 2 ∨ n = 3 ∨ n = 4 ∨ n = 5 ∨ n = 6 ∨ n = 7 ∨ n = 8 := by omega
  unfold vc44
  rcases this with rfl | rfl | rfl | rfl | rfl | rfl | rfl | rfl | rfl <;> exact ⟨0, _, by kernel_rfl, hQ⟩)

theorem s34 {q : Option SL} {r : Int × Int} {n : Nat} (H : HasL recE h q [r]) (hn : n ≤ 8) (hQ : ∀ h' b, Mine recE h h' b (List.replicate n r) → Q (.sl (some ⟨b, 0, n, n, 0⟩)) h') :
    AC Try.prog 34 [.sl q, .int .i64 n] h Q := ac34 (by
  unfold vc34
  rw [H.len]
  have e0 : decide ((n : Int) < 0) = false := by simp
  rw [e0]
  refine s40 hn ⟨_, _, rfl, ?_⟩
  have e1 : decide ((0 : Int) > 0) = false := by simp
  have e2 : decide ((n : Int) > 9223372036854775807) = false := by simp; omega
  rw [e1, e2, wrapK_i64 (by omega)]
  refine ⟨by omega, by omega, by omega, by simp [maxI]; omega, ?_⟩
  have hM : Mine recE h (h ++ [.cells (List.replicate (n : Int).toNat [.int .i64 0, .int .i64 0]).flatten true]) h.length (List.replicate n (0, 0)) := Mine.new (by rw [all_replicate]; rfl)
  simp only [Int.toNat_natCast] at hM ⊢
  generalize h ++ [.cells (List.replicate n [.int .i64 0, .int .i64 0]).flatten true] = h1 at hM ⊢
  generalize h.length = b at hM ⊢
  refine hM.copy (k := 0) (H.mono hM.1) (by simp) (by simp) fun h2 M2 => ?_
  have hm : min [r].length n = if n = 0 then 0 else 1 := by simp; split <;> omega
  rw [hm] at M2 ⊢
  have main : ∀ i : Nat, i ≤ n → (n = 0 ∨ 1 ≤ i) → ∀ h', Mine recE h h' b (List.replicate i r ++ List.replicate (n - i) (0, 0)) → True := fun _ _ _ _ _ => trivial
  refine ⟨fun xs h' => ∃ i : Nat, xs = [.int .i64 i] ∧ i ≤ n ∧ (n = 0 ∨ 1 ≤ i) ∧ Mine recE h h' b (List.replicate i r ++ List.replicate (n - i) (0, 0)), left n, ⟨_, rfl, ?_, ?_, ?_⟩, ?_⟩
  · split <;> omega
  · split <;> omega
  · split at M2
    · rename_i h0; subst h0; simpa using M2
    · rename_i h0
      rw [if_neg h0]
      simpa using M2
  · rintro i' h' ⟨i, e, hi, h1i, M⟩
    cases e
    have hlen : (List.replicate i r ++ List.replicate (n - i) ((0 : Int), (0 : Int))).length = n := by simp; omega
    simp only [vif_dec]
    refine ⟨fun g => ?_, fun g => ?_⟩
    · have g : (i : Int) < (n : Int) := g
      refine ⟨.inl rfl, by omega, by show (i : Int) ≤ n; omega, by show (n : Int) ≤ n; omega, by show (n : Int) ≤ n; omega, ?_⟩
      refine (M.hasL (n := n) (by rw [hlen])).slice (E := recE) (hi := some (i : Int)) (by omega) (by show (0 : Int) ≤ i; omega) (by rw [hlen]; show (i : Int) ≤ n; omega) fun q' Hq => ?_
      have eq1 : ((List.replicate i r ++ List.replicate (n - i) ((0 : Int), (0 : Int))).take (Option.getD (some (i : Int)) ↑(List.replicate i r ++ List.replicate (n - i) ((0 : Int), (0 : Int))).length).toNat).drop (0 : Int).toNat = List.replicate i r := by simp
      rw [eq1] at Hq
      have hs : ((some (⟨b, 0 + (i : Int).toNat * 2, ((n : Int) - i).toNat, ((n : Int) - i).toNat, 0⟩ : SL))) = some ⟨b, i * 2, n - i, n - i, 0⟩ := by
        congr 2 <;> omega
      show PCopyS 2 (some ⟨b, 0 + (i : Int).toNat * 2, ((n : Int) - i).toNat, ((n : Int) - i).toNat, 0⟩) q' h' _
      rw [hs]
      refine M.copy (k := i) Hq (by rw [hlen]; omega) rfl fun h3 M3 => ?_
      simp only [List.length_replicate] at M3 ⊢
      refine ⟨trivial, ⟨i + min i (n - i), ?_, by omega, by omega, ?_⟩, ?_⟩
      · rw [wrapK_i64 (by omega)]; simp
      · have e3 : (List.replicate i r ++ List.replicate (n - i) ((0 : Int), (0 : Int))).take i ++ (List.replicate i r).take (min i (n - i)) ++ (List.replicate i r ++ List.replicate (n - i) ((0 : Int), (0 : Int))).drop (i + min i (n - i)) =
            List.replicate (i + min i (n - i)) r ++ List.replicate (n - (i + min i (n - i))) (0, 0) := by
          rw [List.take_left' (by simp), List.take_replicate, List.drop_append]
          simp only [List.drop_replicate, List.length_replicate]
          rw [← List.replicate_append_replicate]
          have : i - (i + min i (n - i)) = 0 := by omega
          rw [this]
          have : min (min i (n - i)) i = min i (n - i) := by omega
          rw [this]
          have : n - i - (i + min i (n - i) - i) = n - (i + min i (n - i)) := by omega
          rw [this]
          simp
        rw [e3] at M3; exact M3
      · rw [wrapK_i64 (by omega)]; simp only [left]; omega
    · have g : ¬ (i : Int) < (n : Int) := g
      have : i = n := by omega
      subst this
      simp only [Nat.sub_self, List.replicate_zero, List.append_nil] at M
      exact hQ _ _ M)

def spreadV (k a : Int) (r : Int × Int) : List (Int × Int) :=
  if k = 15 then [r, (r.2, r.1)] else if k = 14 then (List.range a.toNat).map fun (i : Nat) => (r.1, (r.2 + (i : Int)) % 1048576) else List.replicate a.toNat r

theorem fam_spread {k a : Int} (h : fam k a = 3) : a ≤ 8 := by
  revert h; unfold fam
  repeat' split
  all_goals omega

theorem s18 {k a x y : Int} (hQ1 : wantE k a 3 (x, y) ≠ 0 → ∀ h', Ext h h' → Q (.tup [.sl none, .int .i64 (wantE k a 3 (x, y))]) h') (hQ : wantE k a 3 (x, y) = 0 → ∀ h' q, Ext h h' → HasL recE h' q (spreadV k a (x, y)) → Q (.tup [.sl q, .int .i64 0]) h') :
    AC Try.prog 18 [.agg [.int .i64 k, .int .i64 a], .agg [.int .i64 x, .int .i64 y]] h Q := ac18 (by
  unfold vc18 PNew
  refine s28 (HasL.new (l := [(x, y)]) rfl rfl) (by simp) ⟨_, rfl, ?_⟩
  rw [mayE_one]
  have he := Ext.app h [.cells [.int .i64 x, .int .i64 y] true]
  generalize h ++ [.cells [.int .i64 x, .int .i64 y] true] = h1 at he ⊢
  simp only [vif_ne]
  refine ⟨fun g => hQ1 g _ he, fun g => ?_⟩
  have hQ := hQ g
  clear hQ1
  obtain ⟨hf, hr⟩ := wantE_zero g
  rw [okR_iff] at hr
  obtain ⟨⟨x0, x1⟩, y0, y1⟩ := hr
  simp only at x0 x1 y0 y1
  have ha := fam_range (show fam k a ≠ 0 by omega)
  have ha8 := fam_spread hf
  simp only [vif_eq]
  refine ⟨fun g => ?_, fun g15 => ?_⟩
  · refine s30 ⟨_, _, rfl, by simp, ?_⟩
    refine hQ _ _ (he.trans (.app _ _)) ?_
    have : spreadV k a (x, y) = [(x, y), (y, x)] := by simp [spreadV, g]
    rw [this]
    exact HasL.new (l := [(x, y), (y, x)]) rfl rfl
  · obtain ⟨n, rfl⟩ := Int.eq_ofNat_of_zero_le ha.1
    refine s34 (HasL.new (l := [(x, y)]) rfl rfl) (by omega) fun h2 b M => ⟨_, rfl, ?_⟩
    have he2 : Ext h h2 := (he.trans (.app _ _)).trans M.1
    refine ⟨fun g14 => ?_, fun g14 => ?_⟩
    · refine ⟨fun xs h' => ∃ i : Nat, xs = [.int .i64 i] ∧ i ≤ n ∧ Mine recE (h1 ++ [.cells [.int .i64 x, .int .i64 y] true]) h' b (((List.range i).map fun (j : Nat) => (x, (y + (j : Int)) % 1048576)) ++ List.replicate (n - i) (x, y)), left n, ⟨0, rfl, by omega, by simpa using M⟩, ?_⟩
      rintro i' h' ⟨i, e, hi, M⟩
      cases e
      have hlen : (((List.range i).map fun (j : Nat) => ((x, (y + (j : Int)) % 1048576) : Int × Int)) ++ List.replicate (n - i) (x, y)).length = n := by simp; omega
      have hsl : slLen (some (⟨b, 0, n, n, 0⟩ : SL)) = n := rfl
      rw [hsl]
      simp only [vif_dec]
      refine ⟨fun g1 => ?_, fun g1 => ?_⟩
      · have g1 : (i : Int) < (n : Int) := g1
        rw [wrapK_i64 (by omega)]
        refine s29 (by omega) (by omega) ⟨_, rfl, ?_⟩
        refine M.at (i := i) rfl (by omega) ?_
        refine M.store (i := i) (k := 1) (r := (x, y)) (r' := (x, (y + i) % 1048576)) rfl ?_ (by simp [recE]) rfl fun h3 M3 => ?_
        · rw [List.getElem?_append_right (by simp)]
          simp only [List.length_map, List.length_range, Nat.sub_self]
          rw [List.getElem?_replicate, if_pos (by omega)]
        · refine ⟨by simp, ⟨i + 1, ?_, by omega, ?_⟩, ?_⟩
          · rw [wrapK_i64 (by omega)]; rfl
          · have e3 : (((List.range i).map fun (j : Nat) => ((x, (y + (j : Int)) % 1048576) : Int × Int)) ++ List.replicate (n - i) (x, y)).set i (x, (y + i) % 1048576) =
                ((List.range (i + 1)).map fun (j : Nat) => (x, (y + (j : Int)) % 1048576)) ++ List.replicate (n - (i + 1)) (x, y) := by
              rw [List.set_append_right _ _ (by simp)]
              have : n - i = (n - (i + 1)) + 1 := by omega
              rw [this, List.replicate_succ]
              simp [List.range_succ]
            rw [e3] at M3; exact M3
          · rw [wrapK_i64 (by omega)]; simp only [left]; omega
      · have g1 : ¬ (i : Int) < (n : Int) := g1
        have : i = n := by omega
        subst this
        refine hQ _ _ ((he.trans (.app _ _)).trans M.1) ?_
        have : spreadV k (i : Nat) (x, y) = ((List.range i).map fun (j : Nat) => ((x, (y + (j : Int)) % 1048576) : Int × Int)) ++ List.replicate (i - i) (x, y) := by simp [spreadV, g15, g14]
        rw [this]
        exact M.hasL (by rw [hlen])
    · refine hQ _ _ he2 ?_
      have : spreadV k (n : Nat) (x, y) = List.replicate n (x, y) := by simp [spreadV, g15, g14]
      rw [this]
      exact M.hasL (by simp))
end
end Go.Proofs
