/- Bags: copies, bags that may be, bags in order, each record once. -/
import Derived.Test.YtfafgnmlnhklaaaBG9
import Derived.Test.YtfafgnmlnhklaaaBG13
import Derived.Test.YtfafgnmlnhklaaaBG14
namespace Go.Proofs.Ytfafgnmlnhklaaa
open Go.Ab
set_option linter.unusedVariables false
set_option linter.unusedSimpArgs false

abbrev Rec := Int × Int
def insR (x : Rec) : List Rec → List Rec
  | [] => [x]
  | y :: l => if leR x y then x :: y :: l else y :: insR x l
/-- In order: a sort that the kernel works out. -/
def sortR : List Rec → List Rec
  | [] => []
  | x :: l => insR x (sortR l)
theorem insR_perm {x : Rec} : ∀ (l : List Rec), (insR x l).Perm (x :: l)
  | [] => .refl _
  | y :: l => by
    unfold insR
    split
    · exact .refl _
    · exact ((insR_perm l).cons y).trans (.swap x y l)
theorem sortR_perm : ∀ (l : List Rec), (sortR l).Perm l
  | [] => .refl _
  | x :: l => (insR_perm _).trans ((sortR_perm l).cons x)
theorem insR_sorted {x : Rec} : ∀ {l : List Rec}, l.Pairwise (fun a b => leR a b = true) → (insR x l).Pairwise (fun a b => leR a b = true)
  | [], _ => by simp [insR]
  | y :: l, h => by
    obtain ⟨h1, h2⟩ := List.pairwise_cons.1 h
    unfold insR
    split
    · rename_i g
      refine List.pairwise_cons.2 ⟨fun z hz => ?_, h⟩
      rcases List.mem_cons.1 hz with rfl | hz
      · exact g
      · exact leR_trans _ _ _ g (h1 z hz)
    · rename_i g
      refine List.pairwise_cons.2 ⟨fun z hz => ?_, insR_sorted h2⟩
      rcases List.mem_cons.1 ((insR_perm l).mem_iff.1 hz) with rfl | hz
      · have := leR_total y z
        rw [Bool.or_eq_true] at this
        rcases this with a | a
        · exact a
        · exact absurd a g
      · exact h1 z hz
theorem sortR_sorted : ∀ (l : List Rec), (sortR l).Pairwise (fun a b => leR a b = true)
  | [] => .nil
  | x :: l => insR_sorted (sortR_sorted l)
theorem sorted_uniqR : ∀ {l1 l2 : List Rec}, l1.Pairwise (fun a b => leR a b = true) → l2.Pairwise (fun a b => leR a b = true) → l1.Perm l2 → l1 = l2
  | [], l2, _, _, h => h.nil_eq
  | a :: l1, l2, h1, h2, h => by
    cases l2 with
    | nil => exact absurd h.length_eq (by simp)
    | cons b l2 =>
      have hab : a = b := by
        have ha : a ∈ b :: l2 := h.mem_iff.1 (by simp)
        have hb : b ∈ a :: l1 := h.mem_iff.2 (by simp)
        rcases List.mem_cons.1 ha with rfl | ha
        · rfl
        rcases List.mem_cons.1 hb with rfl | hb
        · rfl
        exact leR_antisymm (List.rel_of_pairwise_cons h1 hb) (List.rel_of_pairwise_cons h2 ha)
      subst hab
      rw [sorted_uniqR h1.of_cons h2.of_cons (h.cons_inv)]
theorem sortR_eq {l m : List Rec} (hs : m.Pairwise (fun a b => leR a b = true)) (hp : m.Perm l) : sortR l = m := sorted_uniqR (sortR_sorted l) hs ((sortR_perm l).trans hp.symm)
theorem sortR_perm_eq {l m : List Rec} (hp : l.Perm m) : sortR l = sortR m := sortR_eq (sortR_sorted m) ((sortR_perm m).trans hp.symm)
theorem mergeSort_R (l : List Rec) : l.mergeSort leR = sortR l := (sortR_eq (List.pairwise_mergeSort leR_trans leR_total l) (List.mergeSort_perm l leR)).symm
theorem sortR_len {l : List Rec} : (sortR l).length = l.length := (sortR_perm l).length_eq
theorem mayC_perm {l m : List Rec} (h : l.Perm m) : mayC l = mayC m := by
  unfold mayC; rw [all_perm h, h.length_eq]

/-- .. without those that are alike the one ahead of them. -/
def ddf (p : Rec) : List Rec → List Rec
  | [] => []
  | x :: l => if x = p then ddf p l else x :: ddf x l
def dd : List Rec → List Rec
  | [] => []
  | x :: l => x :: ddf x l
def lastD (p : Rec) : List Rec → Rec
  | [] => p
  | z :: t => lastD z t
theorem lastD_get {p : Rec} : ∀ {t : List Rec}, (p :: t)[t.length]? = some (lastD p t)
  | [] => rfl
  | z :: t => by
    have := lastD_get (p := z) (t := t)
    simpa [lastD] using this
theorem ddf_snoc {x : Rec} : ∀ {t : List Rec} {p : Rec}, ddf p (t ++ [x]) = ddf p t ++ (if x = lastD p t then [] else [x])
  | [], p => by
    by_cases h : x = p <;> simp [ddf, lastD, h]
  | z :: t, p => by
    have ih := fun p => ddf_snoc (x := x) (t := t) (p := p)
    by_cases hz : z = p
    · subst hz
      simp only [List.cons_append, ddf, lastD, if_true]
      rw [ih]
      by_cases h : x = lastD z t <;> simp [h]
    · simp only [List.cons_append, ddf, lastD, if_neg hz]
      rw [ih]
      by_cases h : x = lastD z t <;> simp [h]
theorem dd_snoc {l : List Rec} {i : Nat} {x y : Rec} (hx : l[i + 1]? = some x) (hy : l[i]? = some y) : dd (l.take (i + 2)) = if x = y then dd (l.take (i + 1)) else dd (l.take (i + 1)) ++ [x] := by
  have e : l.take (i + 2) = l.take (i + 1) ++ [x] := by rw [show i + 2 = (i + 1) + 1 from rfl, List.take_add_one (i := i + 1), hx]; rfl
  have hlt := lt_of_get hx
  cases h : l.take (i + 1) with
  | nil => have := congrArg List.length h; rw [List.length_take, List.length_nil] at this; omega
  | cons p t =>
    have hl := congrArg List.length h
    rw [List.length_take] at hl
    simp only [List.length_cons] at hl
    have ht : t.length = i := by omega
    have hlast : lastD p t = y := by
      have h1 := lastD_get (p := p) (t := t)
      rw [← h, ht, List.getElem?_take_of_lt (by omega), hy] at h1
      exact (Option.some.inj h1).symm
    rw [e, h]
    simp only [List.cons_append, dd]
    rw [ddf_snoc, hlast]
    by_cases hxy : x = y
    · rw [if_pos hxy, if_pos hxy, List.append_nil]
    · rw [if_neg hxy, if_neg hxy]
theorem ddf_len {p : Rec} : ∀ {l : List Rec}, (ddf p l).length ≤ l.length
  | [] => Nat.le_refl _
  | x :: l => by
    unfold ddf
    split
    · exact Nat.le_succ_of_le ddf_len
    · simp only [List.length_cons]; exact Nat.succ_le_succ ddf_len
theorem dd_len {l : List Rec} : (dd l).length ≤ l.length := by
  cases l with
  | nil => exact Nat.le_refl _
  | cons x l => simp only [dd, List.length_cons]; exact Nat.succ_le_succ ddf_len
theorem dd_one {l : List Rec} (h : l.length < 2) : dd l = l := by
  match l, h with
  | [], _ => rfl
  | [x], _ => rfl

section
variable {h : Heap} {Q : AV → Heap → Prop} {q : Option SL} {l : List Rec}

/-- slices.Clone -/
theorem c36 (H : HasL recE h q l) (hl : l.length ≤ 1000000) (hQ : ∀ q' h', New recE h h' q' l → Q (.sl q') h') : AC Try.prog 36 [.sl q] h Q := ac36 (by
  unfold vc36
  cases q with
  | none =>
    simp only [HasL] at H
    subst H
    exact vif_mk (fun _ => hQ none h New.none) (fun g => by simp at g)
  | some s =>
    refine vif_mk (fun g => by simp at g) (fun _ => ?_)
    have N : New recE h (h ++ [.cells [] true]) (some ⟨h.length, 0, 0, 0, 0⟩) [] := New.mk1 rfl rfl
    show PAppendS _ _ _ _ _ _
    refine New.append (E := recE) N (H.mono N.1) (by simp; omega) fun q' h' N' => ?_
    rw [List.nil_append] at N'
    exact hQ q' h' N')

theorem c55 {a b : Int} (hQ : Q (.bool (!okR (a, b))) h) : AC Try.prog 55 [.agg [.int .i64 a, .int .i64 b]] h Q := ac55 (by
  unfold vc55
  refine o56 ⟨_, rfl, ?_⟩
  cases hr : okR (a, b) <;> rw [hr] at hQ <;> simpa using hQ)
/-- slices.IndexFunc, of those that may not be. -/
theorem c53 (H : HasL recE h q l) (hl : l.length ≤ 4611686018427387904) (hQ : ∀ n : Int, decide (n ≥ 0) = !l.all okR → Q (.int .i64 n) h) : AC Try.prog 53 [.sl q, .func (.func 55) [] []] h Q := ac53 (by
  unfold vc53
  refine ⟨fun xs h5 => h5 = h ∧ ∃ i : Nat, xs = [.int .i64 i] ∧ i ≤ l.length ∧ (l.take i).all okR = true, left l.length, ⟨rfl, 0, rfl, by omega, by simp⟩, ?_⟩
  rintro n2 h5 ⟨rfl, i, hx, hi, ha⟩
  simp only [List.cons.injEq, AV.int.injEq, true_and, and_true] at hx
  subst hx
  rw [H.len]
  refine vif_mk (fun g => ?_) (fun g => ?_)
  · replace g := of_decide_eq_true g
    refine H.idx (E := recE) (by omega) (by omega) fun p x hx hc => ⟨_, _, hc, c55 ⟨_, rfl, ?_⟩⟩
    simp only [Int.toNat_natCast] at hx
    rw [vif_not]
    refine vif_mk (fun hok => ?_) (fun hok => ?_)
    · rw [wrapK_i64 ⟨by omega, by omega⟩]
      exact ⟨trivial, ⟨rfl, i + 1, by simp, by omega, take_succ_all hx ha hok⟩, by simp only [left]; omega⟩
    · refine hQ _ ?_
      have hall : l.all okR = false := by
        rw [List.all_eq_false]
        have e1 : okR x = false := hok
        exact ⟨x, List.mem_of_getElem? hx, by simp [e1]⟩
      rw [hall]; simp
  · replace g := of_decide_eq_false g
    have : l.take i = l := List.take_of_length_le (by omega)
    rw [this] at ha
    exact hQ _ (by rw [ha]; decide))
theorem c54 (H : HasL recE h q l) (hl : l.length ≤ 4611686018427387904) (hQ : Q (.bool (!l.all okR)) h) : AC Try.prog 54 [.sl q, .func (.func 55) [] []] h Q := ac54 (by
  unfold vc54
  refine c53 H hl fun n hn => ⟨n, rfl, ?_⟩
  rw [hn]; exact hQ)
/-- rec.May -/
theorem c38 (H : HasL recE h q l) (hl : l.length ≤ 4611686018427387904) (hQ : Q (.int .i64 (mayC l)) h) : AC Try.prog 38 [.sl q] h Q := ac38 (by
  unfold vc38
  refine c54 H hl ⟨_, rfl, ?_⟩
  unfold mayC at hQ
  rw [H.len]
  cases ha : l.all okR with
  | false => rw [ha] at hQ; exact hQ
  | true =>
    rw [ha, if_pos rfl] at hQ
    refine vif_mk (fun g => by simp at g) (fun _ => vif_mk (fun g => ?_) (fun g => ?_))
    · rw [if_pos (by have := of_decide_eq_true g; omega)] at hQ; exact hQ
    · rw [if_neg (by have := of_decide_eq_false g; omega)] at hQ; exact hQ)

set_option maxRecDepth 20000 in
/-- slices.Compact -/
theorem c80 (A : AppJ recE h q l) (hl : l.length ≤ 1000000)
    (hQ : ∀ q' h', AppJ recE h' q' (dd l) → Keeps (fun b => ∃ s, q = some s ∧ s.b = b) h h' → h'.length = h.length → (∀ s', q' = some s' → ∃ s, q = some s ∧ s.b = s'.b) → Q (.sl q') h') : AC Try.prog 80 [.sl q] h Q := ac80 (by
  unfold vc80
  have H := A.hasL
  have hlen := H.len
  rw [hlen]
  have same : Q (.sl q) h ∨ dd l ≠ l := by
    by_cases e : dd l = l
    · exact .inl (hQ q h (by rw [e]; exact A) (.refl _ _) rfl (fun s' hs' => ⟨s', hs', rfl⟩))
    · exact .inr e
  refine vif_mk (fun g => ?_) (fun g => ?_)
  · replace g := of_decide_eq_true g
    exact same.resolve_right fun hn => hn (dd_one (by omega))
  replace g := of_decide_eq_false g
  refine ⟨fun xs h5 => h5 = h ∧ ∃ i : Nat, xs = [.int .i64 ((i + 1 : Nat) : Int)] ∧ i + 1 ≤ l.length ∧ dd (l.take (i + 1)) = l.take (i + 1), left l.length, ⟨rfl, 0, rfl, by omega, dd_one (by rw [List.length_take]; omega)⟩, ?_⟩
  rintro n2 h5 ⟨rfl, i, hx, hi, hd⟩
  simp only [List.cons.injEq, AV.int.injEq, true_and, and_true] at hx
  subst hx
  refine vif_mk (fun g1 => ?_) (fun g1 => ?_)
  · replace g1 := of_decide_eq_true g1
    refine H.idx (E := recE) (by omega) (by omega) fun p x hx hc => ⟨_, _, hc, ?_⟩
    have w1 : wrapK .i64 (((i + 1 : Nat) : Int) - 1) = (i : Int) := by rw [wrapK_i64 ⟨by omega, by omega⟩]; omega
    rw [w1]
    refine H.idx (E := recE) (by omega) (by omega) fun p' y hy hc' => ⟨_, _, hc', ?_⟩
    simp only [Int.toNat_natCast] at hx hy
    have hsn := dd_snoc hx hy
    refine vif_mk (fun hxy => ?_) (fun hxy => ?_)
    · have exy : x = y := by
        simp only [Bool.and_true, Bool.and_eq_true, beq_iff_eq] at hxy
        exact Prod.ext hxy.1 hxy.2
      rw [if_pos exy, hd] at hsn
      refine AppJ.tailS (E := recE) A (n := i + 1) (by omega) rfl fun q12 H12 hq12 => ?_
      -- what is told, and what was there
      refine ⟨fun xs h17 => ∃ (k k2 : Nat), xs = [.int .i64 (k : Nat), .int .i64 (k2 : Nat)] ∧ 1 ≤ k2 ∧ i + 1 + k2 ≤ l.length ∧ k ≤ i + k2 ∧ (dd (l.take (i + 1 + k2))).length = k ∧ AppJ recE h17 q (dd (l.take (i + 1 + k2)) ++ l.drop k) ∧ Keeps (fun b => ∃ s, q = some s ∧ s.b = b) h5 h17 ∧ h17.length = h5.length,
        fun xs _ => match xs with | [_, .int _ k2] => (l.length - k2).toNat | _ => 0, ⟨i + 1, 1, rfl, by omega, by omega, by omega, ?_, ?_, .refl _ _, rfl⟩, ?_⟩
      · rw [hsn, List.length_take]; omega
      · rw [hsn, List.take_append_drop]; exact A
      rintro n13 n14 h17 ⟨k, k2, hx, hk2, hik, hkk, hdl, A17, K17, l17⟩
      simp only [List.cons.injEq, AV.int.injEq, true_and, and_true] at hx
      obtain ⟨rfl, rfl⟩ := hx
      generalize hout : dd (l.take (i + 1 + k2)) = out at *
      have hml : (out ++ l.drop k).length = l.length := by rw [List.length_append, List.length_drop]; omega
      have H12' := H12 h17 _ A17 hml
      have hl12 := H12'.len
      have hdd : (out ++ l.drop k).drop (i + 1) = (out ++ l.drop k).drop (i + 1) := rfl
      have get : ∀ (t : Nat) (x : Rec), k ≤ i + 1 + t → ((out ++ l.drop k).drop (i + 1))[t]? = some x → l[i + 1 + t]? = some x := by
        intro t x ht hx
        rw [List.getElem?_drop, List.getElem?_append_right (by omega), List.getElem?_drop] at hx
        rw [← hx]; congr 1; omega
      rw [hl12, List.length_drop, hml]
      have w4 : wrapK .i64 ((k2 : Int) + 1) = ((k2 + 1 : Nat) : Int) := by rw [wrapK_i64 ⟨by omega, by omega⟩]; omega
      have w3 : wrapK .i64 ((k2 : Int) - 1) = ((k2 - 1 : Nat) : Int) := by rw [wrapK_i64 ⟨by omega, by omega⟩]; omega
      rw [w4, w3]
      refine vif_mk (fun g2 => ?_) (fun g2 => ?_)
      · replace g2 := of_decide_eq_true g2
        have hd12 : ((out ++ l.drop k).drop (i + 1)).length = l.length - (i + 1) := by rw [List.length_drop, hml]
        refine H12'.idx (E := recE) (by omega) (by omega) fun p18 u hu hc18 => ⟨_, _, hc18, ?_⟩
        refine H12'.idx (E := recE) (by omega) (by omega) fun p21 v hv hc21 => ⟨_, _, hc21, ?_⟩
        simp only [Int.toNat_natCast] at hu hv
        have hu := get k2 u (by omega) hu
        have hv := get (k2 - 1) v (by omega) hv
        have e1 : i + 1 + (k2 - 1) = i + k2 := by omega
        have e2 : i + 1 + k2 = i + k2 + 1 := by omega
        rw [e1] at hv
        rw [e2] at hu
        have hsn2 := dd_snoc hu hv
        have e3 : i + k2 + 1 = i + 1 + k2 := by omega
        have e4 : i + k2 + 2 = i + 1 + (k2 + 1) := by omega
        rw [e3, e4, hout] at hsn2
        rw [vif_not]
        refine vif_mk (fun huv => ?_) (fun huv => ?_)
        · have euv : u = v := by
            simp only [Bool.and_true, Bool.and_eq_true, beq_iff_eq] at huv
            exact Prod.ext huv.1 huv.2
          rw [if_pos euv] at hsn2
          refine ⟨trivial, ⟨k, k2 + 1, rfl, by omega, by omega, by omega, by rw [hsn2]; exact hdl, by rw [hsn2]; exact A17, K17, l17⟩, by simp only; omega⟩
        · have nuv : ¬ u = v := by
            intro e
            subst e
            simp at huv
          rw [if_neg nuv] at hsn2
          refine H12'.idx (E := recE) (by omega) (by omega) fun p24 u2 hu2 hc24 => ⟨_, _, hc24, ?_⟩
          simp only [Int.toNat_natCast] at hu2
          have hu2 := get k2 u2 (by omega) hu2
          rw [e2, hu] at hu2; cases hu2
          have hkl : k < (out ++ l.drop k).length := by omega
          refine AppJ.idx (E := recE) A17 (by omega) (by omega) fun p27 r hr _ hp27 => ?_
          simp only [Int.toNat_natCast] at hr hp27
          refine AppJ.store (E := recE) (k := 0) (r' := u) (r := r) (xs := [.int .i64 u.1, .int .i64 u.2]) A17 hr (by show 0 + 2 ≤ 2; omega) rfl (fun s hs => by rw [hp27 s hs]; rfl) fun h28 A28 K28 l28 => ?_
          have w5 : wrapK .i64 ((k : Int) + 1) = ((k + 1 : Nat) : Int) := by rw [wrapK_i64 ⟨by omega, by omega⟩]; omega
          rw [w5]
          have hset : (out ++ l.drop k).set k u = (out ++ [u]) ++ l.drop (k + 1) := by
            rw [List.set_append_right _ _ (by omega), hdl, Nat.sub_self, List.append_assoc]
            congr 1
            rw [List.drop_eq_getElem_cons (by omega : k < l.length)]
            rfl
          rw [hset] at A28
          refine ⟨trivial, ⟨k + 1, k2 + 1, rfl, by omega, by omega, by omega, by rw [hsn2, List.length_append, hdl]; rfl, by rw [hsn2]; exact A28, K17.trans K28, by omega⟩, by simp only; omega⟩
      · replace g2 := of_decide_eq_false g2
        have hend : i + 1 + k2 = l.length := by omega
        rw [hend, List.take_length] at hout
        refine AppJ.clear (E := recE) A17 (n := k) (by omega) rfl (z := (0, 0)) fun h30 A30 K30 l30 => ?_
        refine AppJ.cut (E := recE) A30 (n := k) (by rw [List.length_append, List.length_take, List.length_replicate]; omega) fun q31 A31 hq31 => ?_
        have e5 : ((out ++ l.drop k).take k ++ List.replicate ((out ++ l.drop k).length - k) (0, 0)).take k = out := by
          rw [List.take_left' hdl, List.take_left' hdl]
        rw [e5, ← hout] at A31
        exact hQ q31 h30 A31 (K17.trans K30) (by omega) hq31
    · have nxy : ¬ x = y := by
        intro e
        subst e
        simp at hxy
      rw [if_neg nxy, hd] at hsn
      have w2 : wrapK .i64 (((i + 1 : Nat) : Int) + 1) = ((i + 1 + 1 : Nat) : Int) := by rw [wrapK_i64 ⟨by omega, by omega⟩]; omega
      rw [w2]
      refine ⟨trivial, ⟨rfl, i + 1, rfl, by omega, ?_⟩, by simp only [left]; omega⟩
      rw [hsn, List.take_add_one (i := i + 1), hx]; rfl
  · replace g1 := of_decide_eq_false g1
    have : l.take (i + 1) = l := List.take_of_length_le (by omega)
    rw [this] at hd
    exact same.resolve_right fun hn => hn hd)
end
end Go.Proofs.Ytfafgnmlnhklaaa
