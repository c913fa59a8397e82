/- OperParts: the keys of records, and its law. -/
import Derived.Test.YtfafgnmlnhklaaaAG9
import Derived.Test.YtfafgnmlnhklaaaAG17
import Derived.Test.YtfafgnmlnhklaaaAG22
namespace Go.Proofs.Ytfafgnmlnhklaaa
open Go.Ab
set_option linter.unusedVariables false
set_option linter.unusedSimpArgs false

theorem nodup_le : ∀ {a b : List Int}, a.Nodup → (∀ x ∈ a, x ∈ b) → a.length ≤ b.length
  | [], _, _, _ => by simp
  | x :: a, b, hn, hs => by
    obtain ⟨h1, h2⟩ := List.nodup_cons.1 hn
    have hx := hs x (by simp)
    have := nodup_le (b := b.erase x) h2 fun y hy => (List.mem_erase_of_ne (fun e => h1 (by rw [← e]; exact hy))).2 (hs y (by simp [hy]))
    rw [List.length_erase_of_mem hx] at this
    have := List.length_pos_of_mem hx
    simp only [List.length_cons]; omega
theorem keyStrs_entK : ∀ (ks : List KE), Go.AbI.keyStrs (ks.map entK) = some (ks.map (·.1))
  | [] => rfl
  | e :: ks => by
    simp only [List.map_cons, entK, Go.AbI.keyStrs]
    rw [keyStrs_entK ks]
theorem intE_all : ∀ (l : List Int), intE.all l = l.map (.int .i64)
  | [] => rfl
  | x :: l => by rw [Enc.all_cons, intE_all l]; rfl
theorem leI_iff {a b : Int} : Go.leI a b = true ↔ a ≤ b := by simp [Go.leI]

section
variable {h : Heap} {Q : AV → Heap → Prop} {q : Option SL} {l : List Rec}
/-- Keys -/
theorem c15 (H : HasL recE h q l) (hl : l.length ≤ 1000000) (hr : ∀ r ∈ l, -9223372036854775808 ≤ r.1 ∧ r.1 ≤ 9223372036854775807)
    (hQ : ∀ q' h' ks, Ext h h' → HasL intE h' q' ks → ks.Pairwise (· < ·) → (∀ k, k ∈ ks ↔ ∃ r ∈ l, r.1 = k) → ks.length ≤ l.length → Q (.sl q') h') : AC Try.prog 15 [.sl q] h Q := ac15 (by
  unfold vc15
  refine c34 H hl fun h3 mb ks cl x3 B => ⟨_, rfl, ?_⟩
  have hmem : ∀ k, k ∈ ks.map (·.1) ↔ ∃ r ∈ l, r.1 = k := by
    intro k
    constructor
    · intro hk
      obtain ⟨e, he, rfl⟩ := List.mem_map.1 hk
      exact B.has e he
    · rintro ⟨r, hr, rfl⟩
      by_cases hc : ∃ e ∈ ks, e.1 = r.1
      · obtain ⟨e, he, hk⟩ := hc
        exact List.mem_map.2 ⟨e, he, hk⟩
      · have := B.miss r.1 fun e he hk => hc ⟨e, he, hk⟩
        have hm : r ∈ l.filter fun x => x.1 == r.1 := List.mem_filter.2 ⟨hr, by simp⟩
        rw [this] at hm; simp at hm
  have hlen : (ks.map (·.1)).length ≤ l.length := by
    have := nodup_le (b := l.map (·.1)) B.nod fun x hx => by
      obtain ⟨r, hr, e⟩ := (hmem x).1 hx
      exact List.mem_map.2 ⟨r, hr, e⟩
    simpa using this
  refine keys_ac (f := 33) (g := 52) (by kernel_rfl) Try.keysLaw33 ⟨_, rfl, rfl, ?_⟩
  have x4 := Ext.app h3 [Blk.bx (.map (some mb))]
  have c4 : (h3 ++ [Blk.bx (.map (some mb))])[h3.length]? = some (.bx (.map (some mb))) := by simp
  have m4 := x4 _ _ B.cells
  generalize h3 ++ [Blk.bx (.map (some mb))] = h4 at *
  have hp := List.mergeSort_perm (ks.map (·.1)) Go.leI
  have hs : ((ks.map (·.1)).mergeSort Go.leI).Pairwise (fun a b => Go.leI a b = true) := List.pairwise_mergeSort (fun a b c h1 h2 => by rw [leI_iff] at *; omega) (fun a b => by rw [Bool.or_eq_true, leI_iff, leI_iff]; omega) _
  refine Go.AbI.sorted_ac (kt := 3) (by kernel_rfl) Try.underlying3 Try.sortedLaw32 c4 m4 (keyStrs_entK ks) hp hs B.nod ?_ ?_ (by omega) (fun k hk => ?_) ?_
  · have : (ks.map entK).map (·.2.2) = ks.map (·.2.2) := by rw [List.map_map]; rfl
    rw [this]; exact B.brn
  · intro e he
    obtain ⟨u, hu, rfl⟩ := List.mem_map.1 he
    exact B.brl u hu
  · obtain ⟨r, hr2, rfl⟩ := (hmem k).1 hk
    exact hr r hr2
  · have pw : ((ks.map (·.1)).mergeSort Go.leI).Pairwise (· < ·) := by
      have hn : ((ks.map (·.1)).mergeSort Go.leI).Pairwise (· ≠ ·) := hp.nodup_iff.2 B.nod
      refine (hs.and hn).imp fun ⟨h1, h2⟩ => ?_
      rw [leI_iff] at h1
      omega
    have mm : ∀ k, k ∈ (ks.map (·.1)).mergeSort Go.leI ↔ ∃ r ∈ l, r.1 = k := fun k => hp.mem_iff.trans (hmem k)
    have ml : ((ks.map (·.1)).mergeSort Go.leI).length ≤ l.length := by rw [hp.length_eq]; exact hlen
    generalize (ks.map (·.1)).mergeSort Go.leI = ss at *
    cases ss with
    | nil => exact ⟨_, rfl, hQ none h4 [] (x3.trans x4) rfl pw mm ml⟩
    | cons s t =>
      refine ⟨_, rfl, hQ _ _ (s :: t) ((x3.trans x4).trans (Ext.app _ _)) ⟨rfl, Nat.le_refl _, .inr rfl, ?_⟩ pw mm ml⟩
      rw [intE_all]
      unfold cellsAt Go.AbI.sortedH
      simp [intE]
      exact List.take_of_length_le (by simp))

set_option maxRecDepth 20000 in
/-- OperParts -/
theorem s4 {n : Int} (H : HasL recE h q l) (hr : ∀ r ∈ l, -9223372036854775808 ≤ r.1 ∧ r.1 ≤ 9223372036854775807) (hQ : ∀ h', Q (.bool true) h') : AC Try.prog 4 [.sl q, .int .i64 n] h Q := ac4 (by
  unfold vc4
  rw [H.len]
  refine vif_mk (fun _ => s14 ⟨_, rfl, hQ _⟩) (fun g => ?_)
  have g := of_decide_eq_false g
  have hl : l.length ≤ 3000 := by omega
  refine c15 H (by omega) hr fun q8 h7 ks x7 K7 PW MM ML => ⟨q8, rfl, pnew_mk ?_⟩
  have x10 := Ext.app h7 [Blk.cells [.int .i64 n] true]
  have c10 : cellsAt (h7 ++ [Blk.cells [AV.int .i64 n] true]) ⟨h7.length, 0⟩ 1 = some [.int .i64 n] := by unfold cellsAt; simp
  generalize h7 ++ [Blk.cells [.int .i64 n] true] = h10 at *
  refine c16c ((H.mono x7).mono x10) (by omega) c10 fun q13 h12 N12 => ⟨q13, rfl, ?_⟩
  have H12 := ((H.mono x7).mono x10).mono N12.1
  have K12 := (K7.mono x10).mono N12.1
  refine ⟨fun xs h18 => ∃ (q14 : Option SL) (i : Nat), xs = [.sl q14, .int .i64 i] ∧ i ≤ l.length ∧ New recE h12 h18 q14 ((l.take i).filter fun r => decide (r.1 < n)), fun xs _ => match xs with | [_, .int _ i] => (l.length - i).toNat | _ => 0, ⟨none, 0, rfl, by omega, by simpa using New.none⟩, ?_⟩
  rintro q14 n15 h18 ⟨q14', i, hx, hi, N18⟩
  simp only [List.cons.injEq, AV.int.injEq, AV.sl.injEq, true_and, and_true] at hx
  obtain ⟨rfl, rfl⟩ := hx
  have fl : ∀ m : List Rec, (m.filter fun r => decide (r.1 < n)).length ≤ m.length := fun m => List.length_filter_le _ _
  refine vif_mk (fun g1 => ?_) (fun g1 => ?_)
  · replace g1 := of_decide_eq_true g1
    have w : wrapK .i64 ((i : Int) + 1) = ((i + 1 : Nat) : Int) := by rw [wrapK_i64 ⟨by omega, by omega⟩]; omega
    rw [w]
    have hx : l[i]? = some l[i] := List.getElem?_eq_getElem (by omega)
    have et : l.take (i + 1) = l.take i ++ [l[i]] := by rw [List.take_add_one, hx]; rfl
    generalize l[i] = x at *
    have at1 : ∀ {K : PA → Prop}, (∀ p, cellsAt h18 p 2 = some [.int .i64 x.1, .int .i64 x.2] → K p) → vIdx q (i : Int) 2 K := fun hK => (H12.mono N18.1).idx (E := recE) (by omega) (by omega) fun p y hy hc => by
      have : y = x := by rw [Int.toNat_natCast, hx] at hy; exact (Option.some.inj hy).symm
      subst this; exact hK p hc
    refine at1 fun p hp => ⟨x.1, cellsAt_sub (k := 0) (m := 1) hp (by omega), vif_mk (fun g2 => ?_) (fun g2 => ?_)⟩
    · refine at1 fun p hp => ⟨x.1, x.2, hp, pnew_mk ?_⟩
      have x25 := Ext.app h18 [Blk.cells [.int .i64 x.1, .int .i64 x.2] true]
      have Hn : HasL recE (h18 ++ [Blk.cells [.int .i64 x.1, .int .i64 x.2] true]) (some ⟨h18.length, 0, 1, 1, 0⟩) [x] := HasL.new (n := 1) rfl rfl
      generalize h18 ++ [Blk.cells [.int .i64 x.1, .int .i64 x.2] true] = h25 at *
      have hb : ((l.take i).filter fun r => decide (r.1 < n)).length ≤ 3000 := Nat.le_trans (List.length_filter_le _ _) (by rw [List.length_take]; omega)
      refine (N18.ext x25).append (E := recE) Hn (Nat.le_trans (Nat.mul_le_mul_right 16 (Nat.add_le_add hb (Nat.le_refl 1))) (by omega)) fun q26 h27 N27 => ⟨trivial, ⟨q26, i + 1, rfl, by omega, ?_⟩, by simp only; omega⟩
      rw [et, List.filter_append, List.filter_cons_of_pos (by simpa using g2)]
      exact N27
    · refine ⟨trivial, ⟨q14, i + 1, rfl, by omega, ?_⟩, by simp only; omega⟩
      rw [et, List.filter_append, List.filter_cons_of_neg (by simpa using g2)]
      simpa using N18
  · replace g1 := of_decide_eq_false g1
    have e : l.take i = l := List.take_of_length_le (by omega)
    rw [e] at N18
    refine s14 ⟨true, rfl, vif_mk (fun g => by simp at g) fun _ => ?_⟩
    refine o13 (N12.hasL.mono N18.1) N18.hasL (Nat.le_trans (List.length_filter_le _ _) (by omega)) ⟨_, rfl, vif_mk (fun g => by simp at g) fun _ => ?_⟩
    have K18 := K12.mono N18.1
    have H18 := H12.mono N18.1
    refine ⟨fun xs h37 => h37 = h18 ∧ ∃ i : Nat, xs = [.int .i64 i] ∧ 1 ≤ i, fun xs _ => match xs with | [.int _ i] => (ks.length - i).toNat | _ => 0, ⟨rfl, 1, rfl, by omega⟩, ?_⟩
    rintro n34 h37 ⟨rfl, i, hx, hi⟩
    simp only [List.cons.injEq, AV.int.injEq, true_and, and_true] at hx
    subst hx
    rw [K18.len]
    refine vif_mk (fun g2 => ?_) (fun _ => ?_)
    · replace g2 := of_decide_eq_true g2
      rw [wrapK_i64 (n := (i : Int) - 1) ⟨by omega, by omega⟩, wrapK_i64 (n := (i : Int) + 1) ⟨by omega, by omega⟩]
      refine K18.idx (E := intE) (by omega) (by omega) fun p x hx hc => ⟨x, hc, ?_⟩
      refine K18.idx (E := intE) (by omega) (by omega) fun p y hy hc2 => ⟨y, hc2, vif_mk (fun g3 => ?_) (fun _ => ?_)⟩
      · replace g3 := of_decide_eq_true g3
        have e1 : ((i : Int) - 1).toNat = i - 1 := by omega
        rw [e1] at hx
        rw [Int.toNat_natCast] at hy
        have l1 := lt_of_get hx
        have l2 := lt_of_get hy
        have := List.pairwise_iff_getElem.1 PW (i - 1) i l1 l2 (by omega)
        rw [List.getElem?_eq_getElem l1] at hx
        rw [List.getElem?_eq_getElem l2] at hy
        cases hx; cases hy
        omega
      · exact ⟨trivial, ⟨rfl, i + 1, by simp, by omega⟩, by simp only; omega⟩
    · refine ⟨fun xs h45 => h45 = h37 ∧ ∃ i : Nat, xs = [.int .i64 i], fun xs _ => match xs with | [.int _ i] => (l.length - i).toNat | _ => 0, ⟨rfl, 0, rfl⟩, ?_⟩
      rintro n42 h45 ⟨rfl, j, hx⟩
      simp only [List.cons.injEq, AV.int.injEq, true_and, and_true] at hx
      subst hx
      refine vif_mk (fun g2 => ?_) (fun _ => ?_)
      · replace g2 := of_decide_eq_true g2
        rw [wrapK_i64 (n := (j : Int) + 1) ⟨by omega, by omega⟩]
        refine H18.idx (E := recE) (by omega) (by omega) fun p x hx hc => ⟨x.1, cellsAt_sub (k := 0) (m := 1) hc (by show 0 + 1 ≤ 2; omega), ?_⟩
        refine c18 K18 (by omega) ((MM x.1).2 ⟨x, List.mem_of_getElem? hx, rfl⟩) ⟨true, rfl, vif_mk (fun g => by simp at g) fun _ => ?_⟩
        exact ⟨trivial, ⟨rfl, j + 1, by simp⟩, by simp only; omega⟩
      · refine ⟨fun xs h54 => h54 = h45 ∧ ∃ i : Nat, xs = [.int .i64 i], fun xs _ => match xs with | [.int _ i] => (ks.length - i).toNat | _ => 0, ⟨rfl, 0, rfl⟩, ?_⟩
        rintro n51 h54 ⟨rfl, u, hx⟩
        simp only [List.cons.injEq, AV.int.injEq, true_and, and_true] at hx
        subst hx
        refine vif_mk (fun g2 => ?_) (fun _ => hQ _)
        replace g2 := of_decide_eq_true g2
        rw [wrapK_i64 (n := (u : Int) + 1) ⟨by omega, by omega⟩]
        refine K18.idx (E := intE) (by omega) (by omega) fun p x hx hc => ⟨x, hc, ?_⟩
        refine c19 H18 (by omega) ((MM x).1 (List.mem_of_getElem? hx)) ⟨true, rfl, vif_mk (fun g => by simp at g) fun _ => ?_⟩
        exact ⟨trivial, ⟨rfl, u + 1, by simp⟩, by simp only; omega⟩)
end
end Go.Proofs.Ytfafgnmlnhklaaa
