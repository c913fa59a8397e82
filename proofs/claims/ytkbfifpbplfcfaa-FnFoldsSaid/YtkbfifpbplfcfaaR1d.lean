/- Functions of records: Fold; what must come of every program. -/
import Derived.Test.YtkbfifpbplfcfaaR1c
namespace Go.Proofs
open Go.Ab
set_option linter.unusedVariables false
set_option linter.unusedSimpArgs false

section
variable {h : Heap} {Q : AV → Heap → Prop}

def stepV (k a b : Int) : Int := if k = 17 then (if b < a then b else a) else if k = 18 then (if b > a then b else a) else (a + b) % 1048576

theorem stepV_range {k a b : Int} (ha : 0 ≤ a ∧ a ≤ 1048575) (hb : 0 ≤ b ∧ b ≤ 1048575) : 0 ≤ stepV k a b ∧ stepV k a b ≤ 1048575 := by
  unfold stepV
  repeat' split
  all_goals omega

theorem s37 {k a x y : Int} (hx : 0 ≤ x ∧ x ≤ 1048575) (hy : 0 ≤ y ∧ y ≤ 1048575) (hQ : Q (.int .i64 (stepV k x y)) h) : AC Try.prog 37 [.agg [.int .i64 k, .int .i64 a], .int .i64 x, .int .i64 y] h Q := ac37 (by
  unfold vc37
  simp only [vif_eq]
  refine ⟨fun g => by simpa [stepV, g, minI] using hQ, fun g1 => ⟨fun g => by simpa [stepV, g, maxI2] using hQ, fun g2 => ?_⟩⟩
  rw [wrapK_i64 (by omega)]
  exact s29 (by omega) (by omega) ⟨_, rfl, by simpa [stepV, g1, g2] using hQ⟩)

theorem s36 {p : PA} {q : Option SL} {r0 : Int × Int} {rest : List (Int × Int)} {x y : Int} (hc : cellsAt h p 1 = some [.sl q]) (H : HasL recE h q (r0 :: rest)) (hQ : Q (.bool (x != r0.1)) h) :
    AC Try.prog 36 [.agg [.int .i64 x, .int .i64 y], .ptr (some p)] h Q := ac36 (by
  unfold vc36
  refine ⟨q, hc, H.idx (E := recE) (by omega) (by simp) fun p' r hr hc' => ?_⟩
  simp at hr
  subst hr
  exact ⟨_, cellsAt_sub (k := 0) (m := 1) hc' (by simp [recE]), hQ⟩)

theorem s41 {p : PA} {q : Option SL} {r0 : Int × Int} {rest : List (Int × Int)} (hc : cellsAt h p 1 = some [.sl q]) (H : HasL recE h q (r0 :: rest)) (hl : rest.length ≤ 4611686018427387904)
    (hQ : ∀ n : Int, (0 ≤ n ↔ (r0 :: rest).all (fun r => r.1 == r0.1) = false) → Q (.int .i64 n) h) :
    AC Try.prog 41 [.sl q, .func (.func 36) [] [.ptr (some p)]] h Q := ac41 (by
  unfold vc41
  generalize hL : r0 :: rest = l at H hQ
  have hl2 : l.length ≤ 4611686018427387905 := by subst hL; simp; omega
  refine ⟨fun xs h' => ∃ i : Nat, xs = [.int .i64 i] ∧ h' = h ∧ i ≤ l.length ∧ (l.take i).all (fun r => r.1 == r0.1) = true, left l.length, ⟨0, rfl, rfl, by simp, by simp⟩, ?_⟩
  rintro n h' ⟨i, e, rfl, hi, ha⟩
  cases e
  rw [H.len]
  simp only [vif_dec]
  refine ⟨fun g1 => ?_, fun g1 => ?_⟩
  · refine H.idx (E := recE) (by omega) (by omega) fun p' x hx hc' => ?_
    simp only [Int.toNat_natCast] at hx
    refine ⟨_, _, hc', s36 hc (hL ▸ H) ⟨_, rfl, ?_⟩⟩
    refine vif_mk (fun g => hQ _ ⟨fun _ => ?_, fun _ => by omega⟩) fun g => ⟨trivial, ⟨i + 1, ?_, rfl, by omega, take_succ_all hx ha ?_⟩, ?_⟩
    · rw [List.all_eq_false]
      exact ⟨x, List.mem_of_getElem? hx, by simpa using g⟩
    · rw [wrapK_i64 (by omega)]; rfl
    · simpa using g
    · rw [wrapK_i64 (by omega)]; simp only [left]; omega
  · refine hQ _ ⟨fun g => by omega, fun g => ?_⟩
    have : l.take i = l := List.take_of_length_le (by omega)
    rw [this, g] at ha
    cases ha)

theorem s35 {p : PA} {q : Option SL} {r0 : Int × Int} {rest : List (Int × Int)} (hc : cellsAt h p 1 = some [.sl q]) (H : HasL recE h q (r0 :: rest)) (hl : rest.length ≤ 4611686018427387904)
    (hQ : Q (.bool (!(r0 :: rest).all (fun r => r.1 == r0.1))) h) : AC Try.prog 35 [.sl q, .func (.func 36) [] [.ptr (some p)]] h Q := ac35 (by
  unfold vc35
  refine s41 hc H hl fun n hn => ⟨_, rfl, ?_⟩
  have : decide (n ≥ 0) = !(r0 :: rest).all (fun r => r.1 == r0.1) := by
    cases hb : (r0 :: rest).all (fun r => r.1 == r0.1) with
    | true => rw [hb] at hn; simp only [Bool.not_true, decide_eq_false_iff_not]; intro g; exact absurd (hn.1 g) (by simp)
    | false => rw [hb] at hn; simpa using hn.2 rfl
  rw [this]
  exact hQ)

def sameKey (l : List (Int × Int)) : Bool := match l with | [] => false | r0 :: rest => (r0 :: rest).all (fun r => r.1 == r0.1)
def foldE (k a : Int) (l : List (Int × Int)) : Int := if fam k a ≠ 4 then 160 else if l.all okR then (if sameKey l then 0 else 1) else 30
def foldN (k : Int) (l : List (Int × Int)) (z : Int) : Int := l.foldl (fun v r => stepV k v r.2) z
def foldV (k : Int) (l : List (Int × Int)) : Int × Int :=
  match l with
  | [] => (0, 0)
  | r :: rest => (r.1, if k = 19 then (l.length : Int) % 1048576 else foldN k rest r.2)

theorem s22 {k a : Int} {q : Option SL} {l : List (Int × Int)} (H : HasL recE h q l) (hl : l.length ≤ 4611686018427387904)
    (hQ : ∀ h', Ext h h' → Q (if foldE k a l = 0 then retR (foldV k l) 0 else retR (0, 0) (foldE k a l)) h') :
    AC Try.prog 22 [.agg [.int .i64 k, .int .i64 a], .sl q] h Q := ac22 (by
  unfold vc22 PNew
  have hQ := hQ _ (Ext.app h [.cells [.sl q] true])
  have hc : cellsAt (h ++ [.cells [.sl q] true]) ⟨h.length, 0⟩ 1 = some [.sl q] := by
    rw [cellsAt_mk (C := [.sl q]) (rw' := true) (by simp) (by simp)]; rfl
  have H := H.mono (Ext.app h [.cells [.sl q] true])
  generalize h ++ [.cells [.sl q] true] = h1 at hQ hc H ⊢
  generalize h.length = b at hc ⊢
  simp only [foldE, retR] at hQ
  refine ⟨q, hc, s28 H hl ⟨_, rfl, ?_⟩⟩
  simp only [vif_ne, mayE]
  by_cases hf : fam k a = 4
  case neg =>
    simp only [hf, ne_eq, not_false_eq_true, if_true] at hQ ⊢
    exact ⟨fun _ => by simpa using hQ, fun g => by simp at g⟩
  simp only [hf, ne_eq, not_true_eq_false, if_false] at hQ ⊢
  cases hok : l.all okR with
  | false =>
    simp only [hok] at hQ ⊢
    exact ⟨fun _ => by simpa using hQ, fun g => by simp at g⟩
  | true =>
    simp only [hok, if_true] at hQ ⊢
    refine ⟨fun g => by simp at g, fun _ => ⟨q, hc, ?_⟩⟩
    rw [H.len]
    simp only [vif_eq]
    cases l with
    | nil => exact ⟨fun _ => by simpa [sameKey] using hQ, fun g => by simp at g⟩
    | cons r0 rest =>
      refine ⟨fun g => by simp at g; omega, fun _ => ⟨q, hc, ?_⟩⟩
      simp only [List.length_cons] at hl
      refine s35 hc H (by omega) ⟨_, rfl, ?_⟩
      rw [vif_not]
      refine vif_mk (fun hs => ?_) (fun hs => ?_)
      case refine_2 =>
        have e : sameKey (r0 :: rest) = false := hs
        simpa [e] using hQ
      have e : sameKey (r0 :: rest) = true := hs
      simp only [e, if_true] at hQ
      refine ⟨q, hc, H.idx (E := recE) (by omega) (by simp) fun p r hr hcr => ?_⟩
      simp at hr
      subst hr
      refine ⟨_, _, hcr, q, hc, ?_⟩
      refine H.slice (E := recE) (hi := none) (by omega) (by simp; omega) (by simp) fun q' Hq => ?_
      have e1 : ((r0 :: rest).take (Option.getD none ((r0 :: rest).length : Int)).toNat).drop (1 : Int).toNat = rest := by simp
      rw [e1] at Hq
      simp only [List.all_cons, Bool.and_eq_true] at hok
      have hr0 := okR_iff.1 hok.1
      refine ⟨fun xs h' => ∃ (i : Nat) (v : Int), xs = [.int .i64 i, .int .i64 r0.1, .int .i64 v] ∧ h' = h1 ∧ i ≤ rest.length ∧ v = foldN k (rest.take i) r0.2 ∧ (0 ≤ v ∧ v ≤ 1048575), left rest.length,
        ⟨0, _, rfl, rfl, by simp, rfl, hr0.2⟩, ?_⟩
      rintro n1 n2 n3 h' ⟨i, v, e, rfl, hi, hv, hvr⟩
      cases e
      rw [Hq.len]
      simp only [vif_dec]
      refine ⟨fun g1 => ?_, fun g1 => ?_⟩
      · refine Hq.idx (E := recE) (by omega) (by omega) fun p' x hx hc' => ?_
        simp only [Int.toNat_natCast] at hx
        have hxo := okR_iff.1 (List.all_eq_true.1 hok.2 x (List.mem_of_getElem? hx))
        refine ⟨_, _, hc', s37 hvr hxo.2 ⟨_, rfl, by simp, ⟨i + 1, _, ?_, rfl, by omega, ?_, stepV_range (k := k) hvr hxo.2⟩, ?_⟩⟩
        · rw [wrapK_i64 (by omega)]; rfl
        · rw [List.take_add_one, hx, hv]
          simp [foldN]
        · rw [wrapK_i64 (by omega)]; simp only [left]; omega
      · have hti : rest.take i = rest := List.take_of_length_le (by omega)
        rw [hti] at hv
        refine ⟨fun g => ?_, fun g => ?_⟩
        · refine ⟨q, hc, ?_⟩
          rw [H.len]
          refine s29 (by omega) (by simp; omega) ⟨_, rfl, ?_⟩
          simpa [foldV, g] using hQ
        · subst hv
          simpa [foldV, g] using hQ)

theorem vif_t {b : Bool} {A B : Prop} (h : b = true) (a : A) : vif b A B := by subst h; exact a

/-- What must come of every program, comes. -/
theorem s9 (hQ : ∀ h', Ext h h' → Q (.bool true) h') : AC Try.prog 9 [] h Q := ac9 (by
  unfold vc9 PNew
  refine s8 fun h1 e1 => ?_
  have c1 : mayE 3 0 1 [(3, 4)] = 0 := by decide
  rw [if_pos c1]
  refine ⟨_, _, _, rfl, s13 fun h2 e2 => ⟨_, _, rfl, ?_⟩⟩
  refine s18 (fun g => absurd (by decide) g) fun _ h3 q e3 Hq => ⟨_, _, rfl, ?_⟩
  have Hq : HasL recE h3 q [(3, 4), (3, 5)] := Hq
  refine s22 (HasL.new (l := [(3, 4), (3, 5)]) rfl rfl) (by simp) fun h4 e4 => ?_
  have c2 : foldE 16 0 [(3, 4), (3, 5)] = 0 := by decide
  rw [if_pos c2]
  have Hq := (Hq.mono (.app _ _)).mono e4
  have e04 : Ext h h4 := (((e1.trans e2).trans e3).trans (.app _ _)).trans e4
  refine ⟨_, _, _, rfl, s26 fun h5 e5 => ?_⟩
  have c3 : pairE 23 0 (3, 4) (3, 9) = 0 := by decide
  rw [if_pos c3]
  refine ⟨_, _, _, rfl, s8 fun h6 e6 => ?_⟩
  have c4 : ¬ mayE 16 0 1 [(3, 4)] = 0 := by decide
  rw [if_neg c4]
  refine ⟨_, _, _, rfl, s22 (q := none) (l := []) rfl (by simp) fun h7 e7 => ?_⟩
  have c5 : ¬ foldE 16 0 [] = 0 := by decide
  rw [if_neg c5]
  refine ⟨_, _, _, rfl, ?_⟩
  have Hq := ((Hq.mono e5).mono e6).mono e7
  have e07 : Ext h h7 := ((e04.trans e5).trans e6).trans e7
  rw [Hq.len]
  iterate 6 refine vif_t (by decide) ?_
  refine Hq.idx (E := recE) (i := 1) (by decide) (by decide) fun p r hr hc => ?_
  simp at hr
  subst hr
  refine ⟨_, _, hc, ?_⟩
  iterate 7 refine vif_t (by decide) ?_
  refine s16 ⟨_, rfl, ?_⟩
  refine vif_t (by decide) ?_
  refine s17 ⟨_, rfl, hQ _ e07⟩)
end
end Go.Proofs
