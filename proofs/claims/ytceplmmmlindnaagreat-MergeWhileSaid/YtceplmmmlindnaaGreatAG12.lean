/- Entries: their order, lists of them in order. -/
import Derived.Test.YtceplmmmlindnaaGreatAG8
import Derived.Test.YtceplmmmlindnaaGreatAG11
namespace Go.Proofs.YtceplmmmlindnaaGreat
open Go.Ab
set_option linter.unusedVariables false
set_option linter.unusedSimpArgs false

abbrev Ent := Int × Int × Int × Int
def entE : Enc Ent := ⟨4, fun e => [.int .i64 e.1, .int .i64 e.2.1, .int .i64 e.2.2.1, .int .i64 e.2.2.2], fun _ => rfl, by omega, fun _ => rfl⟩
abbrev entV (e : Ent) : AV := .agg [.int .i64 e.1, .int .i64 e.2.1, .int .i64 e.2.2.1, .int .i64 e.2.2.2]
def ltE (a b : Ent) : Prop := a.1 < b.1 ∨ a.1 = b.1 ∧ (a.2.1 < b.2.1 ∨ a.2.1 = b.2.1 ∧ (a.2.2.1 < b.2.2.1 ∨ a.2.2.1 = b.2.2.1 ∧ a.2.2.2 < b.2.2.2))
instance (a b : Ent) : Decidable (ltE a b) := by unfold ltE; infer_instance
abbrev leE (a b : Ent) : Prop := ¬ ltE b a
theorem ent_ext {a b : Ent} (h1 : a.1 = b.1) (h2 : a.2.1 = b.2.1) (h3 : a.2.2.1 = b.2.2.1) (h4 : a.2.2.2 = b.2.2.2) : a = b := by
  obtain ⟨a1, a2, a3, a4⟩ := a
  obtain ⟨b1, b2, b3, b4⟩ := b
  simp_all
theorem leE_trans {a b c : Ent} (h1 : leE a b) (h2 : leE b c) : leE a c := by unfold leE ltE at *; omega
theorem leE_total (a b : Ent) : leE a b ∨ leE b a := by unfold leE ltE; omega
theorem leE_refl (a : Ent) : leE a a := by unfold leE ltE; omega
theorem leE_anti {a b : Ent} (h1 : leE a b) (h2 : leE b a) : a = b := by unfold leE ltE at *; exact ent_ext (by omega) (by omega) (by omega) (by omega)
theorem leE_lt {a b : Ent} (h : ltE a b) : leE a b := by unfold leE ltE at *; omega

def cmp1 (a b : Int) : Int := if a < b then -1 else if a > b then 1 else 0
def orI (a b : Int) : Int := if a = 0 then b else a
def cmpE (a b : Ent) : Int := orI (orI (cmp1 a.1 b.1) (cmp1 a.2.1 b.2.1)) (orI (cmp1 a.2.2.1 b.2.2.1) (cmp1 a.2.2.2 b.2.2.2))
theorem cmpE_lt {a b : Ent} : cmpE a b < 0 ↔ ltE a b := by
  unfold cmpE orI cmp1 ltE
  repeat' split
  all_goals omega
theorem cmpE_gt {a b : Ent} : cmpE a b > 0 ↔ ltE b a := by
  unfold cmpE orI cmp1 ltE
  repeat' split
  all_goals omega

abbrev SortedL (l : List Ent) : Prop := l.Pairwise leE
def leEb (a b : Ent) : Bool := decide (leE a b)
def sortE (l : List Ent) : List Ent := l.mergeSort leEb
theorem sortE_sorted (l : List Ent) : SortedL (sortE l) := by
  have := List.pairwise_mergeSort (le := leEb) (fun a b c h1 h2 => by simp only [leEb, decide_eq_true_eq] at *; exact leE_trans h1 h2) (fun a b => by simp only [leEb, Bool.or_eq_true, decide_eq_true_eq]; exact leE_total a b) l
  exact this.imp fun h => by simpa [leEb] using h
theorem sortE_perm (l : List Ent) : (sortE l).Perm l := List.mergeSort_perm l leEb
theorem sorted_uniq : ∀ {l1 l2 : List Ent}, SortedL l1 → SortedL l2 → l1.Perm l2 → l1 = l2
  | [], l2, _, _, h => h.nil_eq
  | a :: l1, l2, h1, h2, h => by
    cases l2 with
    | nil => exact absurd h.length_eq (by simp)
    | cons b l2 =>
      have hab : a = b := by
        have ha : a ∈ b :: l2 := h.mem_iff.1 (by simp)
        have hb : b ∈ a :: l1 := h.mem_iff.2 (by simp)
        rcases List.mem_cons.1 ha with rfl | ha
        · rfl
        rcases List.mem_cons.1 hb with rfl | hb
        · rfl
        exact leE_anti (List.rel_of_pairwise_cons h1 hb) (List.rel_of_pairwise_cons h2 ha)
      subst hab
      rw [sorted_uniq h1.of_cons h2.of_cons (h.cons_inv)]
theorem sortE_eq {l m : List Ent} (hs : SortedL m) (hp : m.Perm l) : sortE l = m := sorted_uniq (sortE_sorted l) hs ((sortE_perm l).trans hp.symm)
theorem sortE_perm_eq {l m : List Ent} (hp : l.Perm m) : sortE l = sortE m := sortE_eq (sortE_sorted m) ((sortE_perm m).trans hp.symm)
theorem sortE_self {l : List Ent} (h : SortedL l) : sortE l = l := sortE_eq h (.refl l)
/-- In order: each with the one behind it. -/
theorem sorted_of_adj {l : List Ent} (h : ∀ i a b, l[i]? = some a → l[i + 1]? = some b → leE a b) : SortedL l := by
  induction l with
  | nil => exact .nil
  | cons a l ih =>
    have hl := ih fun i x y hx hy => h (i + 1) x y (by simpa using hx) (by simpa using hy)
    refine .cons ?_ hl
    cases l with
    | nil => simp
    | cons b l =>
      have hab : leE a b := h 0 a b (by simp) (by simp)
      intro c hc
      rcases List.mem_cons.1 hc with rfl | hc
      · exact hab
      · exact leE_trans hab (List.rel_of_pairwise_cons hl hc)
theorem adj_of_sorted {l : List Ent} (h : SortedL l) {i : Nat} {a b : Ent} (ha : l[i]? = some a) (hb : l[i + 1]? = some b) : leE a b := by
  obtain ⟨hi, rfl⟩ := List.getElem?_eq_some_iff.1 ha
  obtain ⟨hi2, rfl⟩ := List.getElem?_eq_some_iff.1 hb
  exact List.pairwise_iff_getElem.1 h i (i + 1) hi hi2 (by omega)
instance (l : List Ent) : Decidable (SortedL l) := by unfold SortedL; infer_instance

section
variable {h : Heap} {Q : AV → Heap → Prop}
theorem z42 {n : Int} (hQ : Q (.bool false) h) : AC Tryz.prog 42 [.int .i64 n] h Q := ac42 (by
  unfold vc42; rw [show (n != n) = false by simp]; exact hQ)
theorem z41 {a b : Int} (hQ : Q (.int .i64 (cmp1 a b)) h) : AC Tryz.prog 41 [.int .i64 a, .int .i64 b] h Q := ac41 (by
  unfold vc41
  unfold cmp1 at hQ
  refine z42 ⟨_, rfl, z42 ⟨_, rfl, ?_⟩⟩
  refine vif_mk (fun g => by cases g) (fun _ => vif_mk (fun g => by cases g) (fun _ => ?_))
  refine vif_mk (fun g => ?_) (fun g => ?_)
  · rw [if_pos (of_decide_eq_true g)] at hQ; exact hQ
  rw [if_neg (of_decide_eq_false g)] at hQ
  refine vif_mk (fun g => ?_) (fun g => ?_)
  · rw [if_pos (of_decide_eq_true g)] at hQ; exact hQ
  · rw [if_neg (of_decide_eq_false g)] at hQ; exact hQ)
/-- cmp.Or of two. -/
theorem z38 {a b : Int} {q : Option SL} (H : HasL intE h q [a, b]) (hQ : Q (.int .i64 (orI a b)) h) : AC Tryz.prog 38 [.sl q] h Q := ac38 (by
  unfold vc38
  have hl := H.len
  refine ⟨fun xs h5 => h5 = h ∧ ∃ i : Nat, xs = [.int .i64 i] ∧ i ≤ 2 ∧ (1 ≤ i → a = 0) ∧ (2 ≤ i → b = 0), fun xs _ => match xs with | [.int _ i] => (2 - i).toNat | _ => 0, ⟨rfl, 0, rfl, by omega, by omega, by omega⟩, ?_⟩
  rintro n2 h5 ⟨rfl, i, hx, hi, h1, h2⟩
  simp only [List.cons.injEq, AV.int.injEq, true_and, and_true] at hx
  subst hx
  simp only [List.length_cons, List.length_nil] at hl
  refine vif_mk (fun g => ?_) (fun g => ?_)
  · replace g := of_decide_eq_true g
    refine HasL.idx (E := intE) H (by omega) (by simp; omega) fun pp x hx hc => ⟨x, hc, ?_⟩
    rw [wrapK_i64 ⟨by omega, by omega⟩]
    have hi' : i = 0 ∨ i = 1 := by omega
    refine vif_mk (fun g2 => ?_) (fun g2 => ?_)
    · have g2 : x ≠ 0 := by simpa using g2
      rcases hi' with rfl | rfl
      · simp at hx; subst hx
        unfold orI at hQ; rw [if_neg g2] at hQ; exact hQ
      · simp at hx; subst hx
        unfold orI at hQ; rw [if_pos (h1 (by omega))] at hQ; exact hQ
    · have g2 : x = 0 := by simpa using g2
      refine ⟨trivial, ⟨rfl, i + 1, by simp, by omega, fun _ => ?_, fun _ => ?_⟩, by simp only; omega⟩
      · rcases hi' with rfl | rfl
        · simp at hx; omega
        · exact h1 (by omega)
      · rcases hi' with rfl | rfl
        · omega
        · simp at hx; omega
  · replace g := of_decide_eq_false g
    have e : orI a b = 0 := by unfold orI; rw [if_pos (h1 (by omega)), h2 (by omega)]
    rw [e] at hQ; exact hQ)
theorem z39 {a b c d : Int} (hQ : ∀ h', Ext h h' → Q (.int .i64 (orI (cmp1 a c) (cmp1 b d))) h') : AC Tryz.prog 39 [.agg [.int .i64 a, .int .i64 b], .agg [.int .i64 c, .int .i64 d]] h Q := ac39 (by
  unfold vc39 PNew
  refine z41 ⟨_, rfl, rfl, rfl, z41 ⟨_, rfl, ?_⟩⟩
  exact z38 (HasL.new (E := intE) (l := [cmp1 a c, cmp1 b d]) (n := 2) rfl rfl) ⟨_, rfl, hQ _ (Ext.app _ _)⟩)
theorem z40 {a b c d : Int} (hQ : ∀ h', Ext h h' → Q (.int .i64 (orI (cmp1 a c) (cmp1 b d))) h') : AC Tryz.prog 40 [.agg [.int .i64 a, .int .i64 b], .agg [.int .i64 c, .int .i64 d]] h Q := ac40 (by
  unfold vc40 PNew
  refine z41 ⟨_, rfl, rfl, rfl, z41 ⟨_, rfl, ?_⟩⟩
  exact z38 (HasL.new (E := intE) (l := [cmp1 a c, cmp1 b d]) (n := 2) rfl rfl) ⟨_, rfl, hQ _ (Ext.app _ _)⟩)
/-- The engine's Compare. -/
theorem z36 {a b : Ent} (hQ : ∀ h', Ext h h' → Q (.int .i64 (cmpE a b)) h') : AC Tryz.prog 36 [entV a, entV b] h Q := ac36 (by
  unfold vc36 PNew
  refine z39 fun h1 x1 => ⟨_, rfl, rfl, rfl, z40 fun h2 x2 => ⟨_, rfl, ?_⟩⟩
  exact z38 (HasL.new (E := intE) (l := [_, _]) (n := 2) rfl rfl) ⟨_, rfl, hQ _ (x1.trans (x2.trans (Ext.app _ _)))⟩)
theorem z33 {a b c d : Int} (hQ : Q (.int .i64 (orI (cmp1 a c) (cmp1 b d))) h) : AC Tryz.prog 33 [.agg [.int .i64 a, .int .i64 b], .agg [.int .i64 c, .int .i64 d]] h Q := ac33 (by
  unfold vc33
  unfold orI cmp1 at hQ
  refine vif_mk (fun g => ?_) (fun g => ?_)
  · replace g := of_decide_eq_true g
    rw [if_pos g, if_neg (by omega)] at hQ; exact hQ
  replace g := of_decide_eq_false g
  rw [if_neg g] at hQ
  refine vif_mk (fun g1 => ?_) (fun g1 => ?_)
  · have g1 : a = c := by simpa using g1
    rw [if_neg (by omega : ¬ a > c), if_pos rfl] at hQ
    refine vif_mk (fun g2 => ?_) (fun g2 => ?_)
    · rw [if_pos (of_decide_eq_true g2)] at hQ; exact hQ
    replace g2 := of_decide_eq_false g2
    rw [if_neg g2] at hQ
    refine vif_mk (fun g3 => ?_) (fun g3 => ?_)
    · have g3 : a = c ∧ b = d := by simpa using g3
      rw [if_neg (by omega)] at hQ; exact hQ
    · have g3 : a = c → ¬ b = d := by simpa using g3
      have := g3 g1
      rw [if_pos (by omega)] at hQ; exact hQ
  · have g1 : ¬ a = c := by simpa using g1
    refine vif_mk (fun g3 => ?_) (fun g3 => ?_)
    · have g3 : a = c ∧ b = d := by simpa using g3
      omega
    · rw [if_pos (by omega : a > c), if_neg (by omega)] at hQ; exact hQ)
theorem z34 {a b c d : Int} (hQ : Q (.int .i64 (orI (cmp1 a c) (cmp1 b d))) h) : AC Tryz.prog 34 [.agg [.int .i64 a, .int .i64 b], .agg [.int .i64 c, .int .i64 d]] h Q := ac34 (by
  unfold vc34
  unfold orI cmp1 at hQ
  refine vif_mk (fun g => ?_) (fun g => ?_)
  · replace g := of_decide_eq_true g
    rw [if_pos g, if_neg (by omega)] at hQ; exact hQ
  replace g := of_decide_eq_false g
  rw [if_neg g] at hQ
  refine vif_mk (fun g1 => ?_) (fun g1 => ?_)
  · have g1 : a = c := by simpa using g1
    rw [if_neg (by omega : ¬ a > c), if_pos rfl] at hQ
    refine vif_mk (fun g2 => ?_) (fun g2 => ?_)
    · rw [if_pos (of_decide_eq_true g2)] at hQ; exact hQ
    replace g2 := of_decide_eq_false g2
    rw [if_neg g2] at hQ
    refine vif_mk (fun g3 => ?_) (fun g3 => ?_)
    · have g3 : a = c ∧ b = d := by simpa using g3
      rw [if_neg (by omega)] at hQ; exact hQ
    · have g3 : a = c → ¬ b = d := by simpa using g3
      have := g3 g1
      rw [if_pos (by omega)] at hQ; exact hQ
  · have g1 : ¬ a = c := by simpa using g1
    refine vif_mk (fun g3 => ?_) (fun g3 => ?_)
    · have g3 : a = c ∧ b = d := by simpa using g3
      omega
    · rw [if_pos (by omega : a > c), if_neg (by omega)] at hQ; exact hQ)
/-- The document's Compare. -/
theorem z28 {a b : Ent} (hQ : Q (.int .i64 (cmpE a b)) h) : AC Tryz.prog 28 [entV a, entV b] h Q := ac28 (by
  unfold vc28
  refine z33 ⟨_, rfl, ?_⟩
  unfold cmpE at hQ
  refine vif_mk (fun g => ?_) (fun g => ?_)
  · have g : ¬ orI (cmp1 a.1 b.1) (cmp1 a.2.1 b.2.1) = 0 := by simpa using g
    rw [orI, if_neg g] at hQ
    exact hQ
  · have g : orI (cmp1 a.1 b.1) (cmp1 a.2.1 b.2.1) = 0 := by simpa using g
    rw [orI, if_pos g] at hQ
    exact z34 ⟨_, rfl, hQ⟩)

/-- The engine's Sorted. -/
theorem z35 {q : Option SL} {l : List Ent} (H : HasL entE h q l) (hl : l.length ≤ 1000000) (hQ : ∀ h', Ext h h' → Q (.bool (decide (SortedL l))) h') : AC Tryz.prog 35 [.sl q, .func (.func 36) [] []] h Q := ac35 (by
  unfold vc35
  have hlen := H.len
  rw [hlen, wrapK_i64 ⟨by omega, by omega⟩]
  refine ⟨fun xs h5 => ∃ i : Nat, (xs = [.int .i64 ((i : Int) - 1)]) ∧ i ≤ l.length ∧ Ext h h5 ∧ ∀ j a b, i ≤ j + 1 → l[j]? = some a → l[j + 1]? = some b → leE a b, fun xs _ => match xs with | [.int _ i] => (i + 1).toNat | _ => 0, ⟨l.length, rfl, by omega, .refl _, fun j a b hj ha hb => by have := lt_of_get hb; omega⟩, ?_⟩
  rintro n2 h5 ⟨i, hx, hi, x5, hadj⟩
  simp only [List.cons.injEq, AV.int.injEq, true_and, and_true] at hx
  subst hx
  refine vif_mk (fun g => ?_) (fun g => ?_)
  · replace g := of_decide_eq_true g
    obtain ⟨k, rfl⟩ : ∃ k, i = k + 2 := ⟨i - 2, by omega⟩
    have e1 : ((k + 2 : Nat) : Int) - 1 = ((k + 1 : Nat) : Int) := by omega
    have e2 : ((k + 1 : Nat) : Int) - 1 = ((k : Nat) : Int) := by omega
    rw [e1, wrapK_i64 (n := ((k + 1 : Nat) : Int) - 1) ⟨by omega, by omega⟩, e2]
    refine HasL.idx (E := entE) (H.mono x5) (by omega) (by omega) fun pp a ha hc => ⟨_, _, _, _, hc, ?_⟩
    refine HasL.idx (E := entE) (H.mono x5) (by omega) (by omega) fun pp2 b hb hc2 => ⟨_, _, _, _, hc2, ?_⟩
    have ha : l[k + 1]? = some a := by simpa using ha
    have hb : l[k]? = some b := by simpa using hb
    refine z36 (a := a) (b := b) fun h17 x17 => ⟨_, rfl, ?_⟩
    refine vif_mk (fun g2 => ?_) (fun g2 => ?_)
    · replace g2 := cmpE_lt.1 (of_decide_eq_true g2)
      have : decide (SortedL l) = false := decide_eq_false fun hs => adj_of_sorted hs hb ha g2
      rw [this] at hQ
      exact hQ _ (x5.trans x17)
    · replace g2 := of_decide_eq_false g2
      have hle : leE b a := fun hlt => g2 (cmpE_lt.2 hlt)
      refine ⟨trivial, ⟨k + 1, by simp, by omega, x5.trans x17, fun j a' b' hj ha' hb' => ?_⟩, by simp only; omega⟩
      rcases Nat.lt_or_ge k j with hk | hk
      · exact hadj j a' b' (by omega) ha' hb'
      · have : j = k := by omega
        subst this
        rw [hb] at ha'; rw [ha] at hb'
        cases ha'; cases hb'
        exact hle
  · replace g := of_decide_eq_false g
    have : decide (SortedL l) = true := decide_eq_true (sorted_of_adj fun j a b ha hb => hadj j a b (by omega) ha hb)
    rw [this] at hQ
    exact hQ _ x5)
theorem z29 {q : Option SL} {l : List Ent} (H : HasL entE h q l) (hl : l.length ≤ 1000000) (hQ : ∀ h', Ext h h' → Q (.bool (decide (SortedL l))) h') : AC Tryz.prog 29 [.sl q] h Q := ac29 (by
  unfold vc29
  exact z35 H hl fun h' x => ⟨_, rfl, hQ h' x⟩)
/-- The document's Sorted. -/
theorem z21 {q : Option SL} {l : List Ent} (H : HasL entE h q l) (hl : l.length ≤ 1000000) (hQ : Q (.bool (decide (SortedL l))) h) : AC Tryz.prog 21 [.sl q] h Q := ac21 (by
  unfold vc21
  have hlen := H.len
  refine ⟨fun xs h5 => h5 = h ∧ ∃ i : Nat, xs = [.int .i64 i] ∧ 1 ≤ i ∧ i ≤ l.length + 1 ∧ ∀ j a b, j + 1 < i → l[j]? = some a → l[j + 1]? = some b → leE a b, fun xs _ => match xs with | [.int _ i] => (l.length + 1 - i).toNat | _ => 0, ⟨rfl, 1, rfl, by omega, by omega, fun j a b hj => by omega⟩, ?_⟩
  rintro n2 h5 ⟨rfl, i, hx, hi, hi2, hadj⟩
  simp only [List.cons.injEq, AV.int.injEq, true_and, and_true] at hx
  subst hx
  refine vif_mk (fun g => ?_) (fun g => ?_)
  · replace g := of_decide_eq_true g
    obtain ⟨k, rfl⟩ : ∃ k, i = k + 1 := ⟨i - 1, by omega⟩
    have e2 : ((k + 1 : Nat) : Int) - 1 = ((k : Nat) : Int) := by omega
    rw [e2, wrapK_i64 (n := ((k : Nat) : Int)) ⟨by omega, by omega⟩]
    refine HasL.idx (E := entE) H (by omega) (by omega) fun pp a ha hc => ⟨_, _, _, _, hc, ?_⟩
    refine HasL.idx (E := entE) H (by omega) (by omega) fun pp2 b hb hc2 => ⟨_, _, _, _, hc2, ?_⟩
    have ha : l[k]? = some a := by simpa using ha
    have hb : l[k + 1]? = some b := by simpa using hb
    refine z28 (a := a) (b := b) ⟨_, rfl, ?_⟩
    refine vif_mk (fun g2 => ?_) (fun g2 => ?_)
    · replace g2 := cmpE_gt.1 (of_decide_eq_true g2)
      have : decide (SortedL l) = false := decide_eq_false fun hs => adj_of_sorted hs ha hb g2
      rw [this] at hQ
      exact hQ
    · replace g2 := of_decide_eq_false g2
      have hle : leE a b := fun hlt => g2 (cmpE_gt.2 hlt)
      rw [wrapK_i64 ⟨by omega, by omega⟩]
      refine ⟨trivial, ⟨rfl, k + 2, by simp; omega, by omega, by omega, fun j a' b' hj ha' hb' => ?_⟩, by simp only; omega⟩
      rcases Nat.lt_or_ge j k with hk | hk
      · exact hadj j a' b' (by omega) ha' hb'
      · have : j = k := by omega
        subst this
        rw [ha] at ha'; rw [hb] at hb'
        cases ha'; cases hb'
        exact hle
  · replace g := of_decide_eq_false g
    have : decide (SortedL l) = true := decide_eq_true (sorted_of_adj fun j a b ha hb => hadj j a b (by have := lt_of_get hb; omega) ha hb)
    rw [this] at hQ
    exact hQ)
end
end Go.Proofs.YtceplmmmlindnaaGreat

/- Lists of entries: the document's. -/
namespace Go.Proofs.YtceplmmmlindnaaGreat
open Go.Ab
set_option linter.unusedVariables false
set_option linter.unusedSimpArgs false

section
variable {h h' : Heap} {Q : AV → Heap → Prop}

theorem idx4 {q : Option SL} {l : List Ent} {i : Nat} {x : Ent} (H : HasL entE h q l) (hx : l[i]? = some x) {ix : Int} (hix : ix = i) {K : PA → Prop} (hK : ∀ p, cellsAt h p 4 = some [.int .i64 x.1, .int .i64 x.2.1, .int .i64 x.2.2.1, .int .i64 x.2.2.2] → K p) : vIdx q ix 4 K := by
  have := lt_of_get hx
  refine HasL.idx (E := entE) H (by omega) (by omega) fun pp y hy hc => hK pp ?_
  subst hix
  have : l[i]? = some y := by simpa using hy
  rw [hx] at this; cases this
  exact hc

set_option maxRecDepth 20000 in
/-- The document's Sort. -/
theorem z22 : ∀ (n : Nat) {h : Heap} {Q : AV → Heap → Prop} {q : Option SL} {l : List Ent}, l.length ≤ n → HasL entE h q l → l.length ≤ 100000 → (∀ q' h', New entE h h' q' (sortE l) → Q (.sl q') h') → AC Tryz.prog 22 [.sl q] h Q
  | n, h, Q, q, l, hln, H, hl, hQ => ac22 (by
  unfold vc22 PNew
  have hlen := H.len
  rw [hlen]
  refine vif_mk (fun g => ?_) (fun g => ?_)
  · replace g := of_decide_eq_true g
    have N : New entE h (h ++ [Blk.cells [] true]) (some ⟨h.length, 0, 0, 0, 0⟩) [] := New.mk1 rfl rfl
    refine New.append (E := entE) N (H.mono (Ext.app _ _)) (by simp; omega) fun q4 h5 N5 => hQ q4 h5 ?_
    have : SortedL l := by
      match l, g with
      | [], _ => exact .nil
      | [x], _ => exact .cons (by simp) .nil
      | x :: y :: l, g => simp at g; omega
    rw [sortE_self this]; simpa using N5
  · replace g := of_decide_eq_false g
    have e1 : (((l.length : Nat) : Int).tdiv 2) = ((l.length / 2 : Nat) : Int) := by rw [tdiv_pos (by omega)]; omega
    rw [e1, wrapK_i64 ⟨by omega, by omega⟩]
    refine HasL.slice (E := entE) H (by omega) (by simp; omega) (by simp; omega) fun q6 H6 => ?_
    refine HasL.slice (E := entE) H (by omega) (by simp; omega) (by simp) fun q7 H7 => ?_
    have H6 : HasL entE h q6 (l.take (l.length / 2)) := by simp only [Option.getD_some, Int.toNat_natCast, Int.toNat_zero, List.drop_zero] at H6; exact H6
    have H7 : HasL entE h q7 (l.drop (l.length / 2)) := by simp only [Option.getD_none, Int.toNat_natCast, List.take_length] at H7; exact H7
    have hn1 : (l.take (l.length / 2)).length < n := by rw [List.length_take]; omega
    have hn2 : (l.drop (l.length / 2)).length < n := by rw [List.length_drop]; omega
    obtain ⟨m, rfl⟩ : ∃ m, n = m + 1 := ⟨n - 1, by omega⟩
    refine z22 m (by omega) H6 (by rw [List.length_take]; omega) fun q10 h9 N9 => ⟨q10, rfl, ?_⟩
    refine z22 m (by omega) (H7.mono N9.1) (by rw [List.length_drop]; omega) fun q13 h12 N12 => ⟨q13, rfl, ?_⟩
    have HA := N9.hasL.mono N12.1
    have HB := N12.hasL
    have hsa := sortE_sorted (l.take (l.length / 2))
    have hsb := sortE_sorted (l.drop (l.length / 2))
    have hpa := sortE_perm (l.take (l.length / 2))
    have hpb := sortE_perm (l.drop (l.length / 2))
    generalize sortE (l.take (l.length / 2)) = A at *
    generalize sortE (l.drop (l.length / 2)) = B at *
    have hperm : (A ++ B).Perm l := (hpa.append hpb).trans (by rw [List.take_append_drop])
    let I : Option SL → Option SL → Option SL → Heap → Prop := fun q14 q15 q16 h19 => ∃ a b o : List Ent, HasL entE h12 q14 a ∧ HasL entE h12 q15 b ∧ New entE h12 h19 q16 o ∧ (o ++ (a ++ b)).Perm l ∧ SortedL a ∧ SortedL b ∧ SortedL o ∧ ∀ x ∈ o, ∀ y ∈ a ++ b, leE x y
    refine ⟨fun xs h19 => ∃ q14 q15 q16, xs = [.sl q14, .sl q15, .sl q16] ∧ I q14 q15 q16 h19, fun xs _ => match xs with | [.sl q14, .sl q15, _] => slLen q14 + slLen q15 | _ => 0, ⟨_, _, _, rfl, A, B, [], HA, HB, New.none, by simpa using hperm, hsa, hsb, .nil, by simp⟩, ?_⟩
    rintro q14 q15 q16 h19 ⟨_, _, _, hx, a, b, o, Ha, Hb, No, hp, sa, sb, so, hle⟩
    simp only [List.cons.injEq, AV.sl.injEq, and_true] at hx
    obtain ⟨rfl, rfl, rfl⟩ := hx
    have la := Ha.len
    have lb := Hb.len
    have hlp := hp.length_eq
    simp only [List.length_append] at hlp
    have Ha19 := Ha.mono No.1
    have Hb19 := Hb.mono No.1
    rw [la, lb]
    -- the first of the first list goes on
    have stepA : ∀ {x : Ent} {a' : List Ent}, a = x :: a' → (∀ y ∈ b, leE x y) → vIdx q14 0 4 fun p20 => ∃ n21 : Int, ∃ n22 : Int, ∃ n23 : Int, ∃ n24 : Int, cellsAt h19 p20 4 = some [.int .i64 n21, .int .i64 n22, .int .i64 n23, .int .i64 n24] ∧
        PAppendS 4 32 q16 (some ⟨h19.length, 0, 1, 1, 0⟩) (h19 ++ [.cells [.int .i64 n21, .int .i64 n22, .int .i64 n23, .int .i64 n24] true]) fun q27 h28 => PSlice 4 q14 1 none none fun q29 =>
          (True) ∧ (∃ q14' q15' q16', [AV.sl q29, .sl q15, .sl q27] = [.sl q14', .sl q15', .sl q16'] ∧ I q14' q15' q16' h28) ∧ (slLen q29 + slLen q15) < (slLen q14 + slLen q15) := by
      intro x a' ha hxb
      subst ha
      refine idx4 Ha19 (i := 0) (x := x) rfl rfl fun p hc => ⟨_, _, _, _, hc, ?_⟩
      refine New.append (E := entE) (m := [x]) (No.ext (Ext.app _ _)) (HasL.new (E := entE) (l := [x]) (n := 1) rfl (by simp [Enc.all, entE])) (by simp at hlp ⊢; omega) fun q27 h28 N28 => ?_
      refine HasL.slice (E := entE) Ha (by omega) (by simp; omega) (by simp) fun q29 H29 => ?_
      have H29 : HasL entE h12 q29 a' := by
        have e : ((x :: a').take ((Option.getD none (((x :: a').length : Nat) : Int))).toNat).drop (1 : Int).toNat = a' := by
          simp only [Option.getD_none, Int.toNat_natCast, List.take_length]; rfl
        rw [e] at H29; exact H29
      have l29 := H29.len
      refine ⟨trivial, ⟨_, _, _, rfl, a', b, o ++ [x], H29, Hb, N28, by simpa using hp, sa.of_cons, sb, ?_, ?_⟩, by rw [la, l29]; simp⟩
      · rw [SortedL, List.pairwise_append]
        exact ⟨so, .cons (by simp) .nil, fun y hy z hz => by simp at hz; subst hz; exact hle y hy z (by simp)⟩
      · intro y hy z hz
        rcases List.mem_append.1 hy with hy | hy
        · exact hle y hy z (by simp at hz ⊢; rcases hz with h | h <;> simp [h])
        · simp at hy; subst hy
          rcases List.mem_append.1 hz with hz | hz
          · exact List.rel_of_pairwise_cons sa hz
          · exact hxb z hz
    have stepB : ∀ {x : Ent} {b' : List Ent}, b = x :: b' → (∀ y ∈ a, leE x y) → vIdx q15 0 4 fun p20 => ∃ n21 : Int, ∃ n22 : Int, ∃ n23 : Int, ∃ n24 : Int, cellsAt h19 p20 4 = some [.int .i64 n21, .int .i64 n22, .int .i64 n23, .int .i64 n24] ∧
        PAppendS 4 32 q16 (some ⟨h19.length, 0, 1, 1, 0⟩) (h19 ++ [.cells [.int .i64 n21, .int .i64 n22, .int .i64 n23, .int .i64 n24] true]) fun q27 h28 => PSlice 4 q15 1 none none fun q29 =>
          (True) ∧ (∃ q14' q15' q16', [AV.sl q14, .sl q29, .sl q27] = [.sl q14', .sl q15', .sl q16'] ∧ I q14' q15' q16' h28) ∧ (slLen q14 + slLen q29) < (slLen q14 + slLen q15) := by
      intro x b' hb hxa
      subst hb
      refine idx4 Hb19 (i := 0) (x := x) rfl rfl fun p hc => ⟨_, _, _, _, hc, ?_⟩
      refine New.append (E := entE) (m := [x]) (No.ext (Ext.app _ _)) (HasL.new (E := entE) (l := [x]) (n := 1) rfl (by simp [Enc.all, entE])) (by simp at hlp ⊢; omega) fun q27 h28 N28 => ?_
      refine HasL.slice (E := entE) Hb (by omega) (by simp; omega) (by simp) fun q29 H29 => ?_
      have H29 : HasL entE h12 q29 b' := by
        have e : ((x :: b').take ((Option.getD none (((x :: b').length : Nat) : Int))).toNat).drop (1 : Int).toNat = b' := by
          simp only [Option.getD_none, Int.toNat_natCast, List.take_length]; rfl
        rw [e] at H29; exact H29
      have l29 := H29.len
      refine ⟨trivial, ⟨_, _, _, rfl, a, b', o ++ [x], Ha, H29, N28, ?_, sa, sb.of_cons, ?_, ?_⟩, by rw [lb, l29]; simp⟩
      · refine List.Perm.trans ?_ hp
        rw [List.append_assoc]
        exact List.Perm.append_left o (by simpa using (List.perm_middle (a := x) (l₁ := a) (l₂ := b')).symm)
      · rw [SortedL, List.pairwise_append]
        exact ⟨so, .cons (by simp) .nil, fun y hy z hz => by simp at hz; subst hz; exact hle y hy z (by simp)⟩
      · intro y hy z hz
        rcases List.mem_append.1 hy with hy | hy
        · exact hle y hy z (by simp at hz ⊢; rcases hz with h | h <;> simp [h])
        · simp at hy; subst hy
          rcases List.mem_append.1 hz with hz | hz
          · exact hxa z hz
          · exact List.rel_of_pairwise_cons sb hz
    refine vif_mk (fun g1 => ?_) (fun g1 => ?_)
    · replace g1 := of_decide_eq_true g1
      obtain ⟨x, a', rfl⟩ : ∃ x a', a = x :: a' := by cases a with | nil => simp at g1 | cons x a' => exact ⟨x, a', rfl⟩
      refine vif_mk (fun g2 => ?_) (fun g2 => ?_)
      · have g2 : b.length = 0 := by have : ((b.length : Nat) : Int) = 0 := by simpa using g2
                                     omega
        have : b = [] := List.eq_nil_of_length_eq_zero g2
        subst this
        exact stepA rfl (by simp)
      · obtain ⟨y, b', rfl⟩ : ∃ y b', b = y :: b' := by cases b with | nil => simp at g2 | cons x a' => exact ⟨x, a', rfl⟩
        refine vif_mk (fun _ => ?_) (fun g3 => by simp at g3)
        refine idx4 Ha19 (i := 0) (x := x) rfl rfl fun p hc => ⟨_, _, _, _, hc, ?_⟩
        refine idx4 Hb19 (i := 0) (x := y) rfl rfl fun p hc => ⟨_, _, _, _, hc, ?_⟩
        refine z28 (a := x) (b := y) ⟨_, rfl, ?_⟩
        refine vif_mk (fun g4 => ?_) (fun g4 => ?_)
        · replace g4 := of_decide_eq_true g4
          have hxy : leE x y := fun hlt => by have := cmpE_gt.2 hlt; omega
          refine stepA rfl fun z hz => ?_
          rcases List.mem_cons.1 hz with rfl | hz
          · exact hxy
          · exact leE_trans hxy (List.rel_of_pairwise_cons sb hz)
        · replace g4 := of_decide_eq_false g4
          have hyx : leE y x := leE_lt (cmpE_gt.1 (by omega))
          refine stepB rfl fun z hz => ?_
          rcases List.mem_cons.1 hz with rfl | hz
          · exact hyx
          · exact leE_trans hyx (List.rel_of_pairwise_cons sa hz)
    · replace g1 := of_decide_eq_false g1
      have : a = [] := List.eq_nil_of_length_eq_zero (by omega)
      subst this
      refine vif_mk (fun g2 => ?_) (fun g2 => ?_)
      · replace g2 := of_decide_eq_true g2
        obtain ⟨y, b', rfl⟩ : ∃ y b', b = y :: b' := by cases b with | nil => simp at g2 | cons x a' => exact ⟨x, a', rfl⟩
        refine vif_mk (fun g3 => by simp at g3; omega) (fun _ => ?_)
        refine vif_mk (fun g3 => by simp at g3) (fun _ => ?_)
        exact stepB rfl (by simp)
      · replace g2 := of_decide_eq_false g2
        have : b = [] := List.eq_nil_of_length_eq_zero (by omega)
        subst this
        have : o = sortE l := (sortE_eq so (by simpa using hp)).symm
        subst this
        exact hQ q16 h19 (No.of (N9.1.trans N12.1)))
end
end Go.Proofs.YtceplmmmlindnaaGreat

/- Lists of lists of entries: what is looked at first. -/
namespace Go.Proofs.YtceplmmmlindnaaGreat
open Go.Ab
set_option linter.unusedVariables false
set_option linter.unusedSimpArgs false

/-- Lists that came in. -/
def InLL (h : Heap) (q : Option SL) (ls : List (List Ent)) : Prop :=
  ∃ qs : List (Option SL), HasL slE h q qs ∧ qs.length = ls.length ∧ ∀ (i : Nat) (s : Option SL) (l : List Ent), qs[i]? = some s → ls[i]? = some l → HasL entE h s l
theorem InLL.mono {h h' : Heap} {q : Option SL} {ls : List (List Ent)} (I : InLL h q ls) (x : Ext h h') : InLL h' q ls := by
  obtain ⟨qs, H, hl, hq⟩ := I
  exact ⟨qs, H.mono x, hl, fun i s l h1 h2 => (hq i s l h1 h2).mono x⟩
theorem InLL.len {h : Heap} {q : Option SL} {ls : List (List Ent)} (I : InLL h q ls) : slLen q = ls.length := by
  obtain ⟨qs, H, hl, hq⟩ := I
  rw [H.len, hl]
theorem InLL.idx {h : Heap} {q : Option SL} {ls : List (List Ent)} (I : InLL h q ls) {i : Nat} (hi : i < ls.length) {K : PA → Prop} (hK : ∀ p s l, ls[i]? = some l → cellsAt h p 1 = some [.sl s] → HasL entE h s l → K p) : vIdx q (i : Int) 1 K := by
  obtain ⟨qs, H, hl, hq⟩ := I
  refine HasL.idx (E := slE) H (by omega) (by omega) fun pp s hs hc => ?_
  have hs : qs[i]? = some s := by simpa using hs
  have hl2 : ls[i]? = some ls[i] := List.getElem?_eq_getElem hi
  exact hK pp s _ hl2 hc (hq i s _ hs hl2)

def mayC (ls : List (List Ent)) : Int := if ls.length > 64 then 31 else if ls.all (fun l => decide (SortedL l)) then 0 else 1
def Fits (ls : List (List Ent)) : Prop := (∀ l ∈ ls.take 70, l.length ≤ 500) ∧ ((ls.take 70).map List.length).sum ≤ 1000

section
variable {h h' : Heap} {Q : AV → Heap → Prop} {q : Option SL} {ls : List (List Ent)}
/-- large -/
theorem z6 (I : InLL h q ls) (hQ : ∀ b, (b = false → Fits ls) → Q (.bool b) h) : AC Tryz.prog 6 [.sl q] h Q := ac6 (by
  unfold vc6
  have hlen := I.len
  refine ⟨fun xs h6 => h6 = h ∧ ∃ i : Nat, xs = [.int .i64 (((ls.take i).map List.length).sum : Nat), .int .i64 i] ∧ i ≤ ls.length ∧ i ≤ 70 ∧ (∀ l ∈ ls.take i, l.length ≤ 500) ∧ ((ls.take i).map List.length).sum ≤ i * 500, fun xs _ => match xs with | [_, .int _ i] => (ls.length - i).toNat | _ => 0, ⟨rfl, 0, by simp, by omega, by omega, by simp, by simp⟩, ?_⟩
  rintro n2 n3 h6 ⟨rfl, i, hx, hi, hi7, hle, hsum⟩
  simp only [List.cons.injEq, AV.int.injEq, true_and, and_true] at hx
  obtain ⟨rfl, rfl⟩ := hx
  have fin : (ls.length ≤ i ∨ 70 ≤ i) → Q (.bool (decide ((((ls.take i).map List.length).sum : Nat) > (1000 : Int)))) h6 := fun hd => hQ _ fun hb => by
    have hb := of_decide_eq_false hb
    have e : ls.take 70 = ls.take i := by
      rcases hd with hd | hd
      · rw [List.take_of_length_le hd, List.take_of_length_le (by omega)]
      · have : i = 70 := by omega
        rw [this]
    unfold Fits
    rw [e]
    exact ⟨hle, by omega⟩
  refine vif_mk (fun g => ?_) (fun g => fin (.inl (by have := of_decide_eq_false g; omega)))
  replace g := of_decide_eq_true g
  refine vif_mk (fun g1 => ?_) (fun g1 => fin (.inr (by have := of_decide_eq_false g1; omega)))
  replace g1 := of_decide_eq_true g1
  refine I.idx (by omega) fun pp s l hl hc H => ⟨s, hc, ?_⟩
  rw [H.len]
  refine vif_mk (fun g2 => hQ _ (by simp)) (fun g2 => ?_)
  replace g2 := of_decide_eq_false g2
  refine I.idx (by omega) fun pp s l2 hl2 hc H2 => ⟨s, hc, ?_⟩
  rw [hl] at hl2; cases hl2
  rw [H2.len]
  have e : ls.take (i + 1) = ls.take i ++ [l] := by rw [List.take_add_one, hl]; rfl
  have e2 : ((ls.take (i + 1)).map List.length).sum = ((ls.take i).map List.length).sum + l.length := by rw [e]; simp
  have e3 : ((((ls.take i).map List.length).sum : Nat) : Int) + (l.length : Nat) = (((ls.take (i + 1)).map List.length).sum : Nat) := by omega
  rw [e3, wrapK_i64 ⟨by omega, by omega⟩, wrapK_i64 ⟨by omega, by omega⟩]
  refine ⟨trivial, ⟨rfl, i + 1, by simp, by omega, by omega, ?_, by omega⟩, by simp only; omega⟩
  intro x hx
  rw [e] at hx
  rcases List.mem_append.1 hx with hx | hx
  · exact hle x hx
  · simp at hx; subst hx; omega)

theorem fits_all (F : Fits ls) (h : ls.length ≤ 64) : (∀ l ∈ ls, l.length ≤ 500) ∧ (ls.map List.length).sum ≤ 1000 := by
  unfold Fits at F; rwa [List.take_of_length_le (by omega)] at F

/-- The document's May. -/
theorem z9 (I : InLL h q ls) (F : Fits ls) (hQ : Q (.int .i64 (mayC ls)) h) : AC Tryz.prog 9 [.sl q] h Q := ac9 (by
  unfold vc9
  have hlen := I.len
  unfold mayC at hQ
  refine vif_mk (fun g => ?_) (fun g => ?_)
  · replace g := of_decide_eq_true g
    rw [if_pos (by omega)] at hQ; exact hQ
  replace g := of_decide_eq_false g
  rw [if_neg (by omega)] at hQ
  have F2 := (fits_all F (by omega)).1
  refine ⟨fun xs h5 => h5 = h ∧ ∃ i : Nat, xs = [.int .i64 i] ∧ i ≤ ls.length ∧ ∀ l ∈ ls.take i, SortedL l, fun xs _ => match xs with | [.int _ i] => (ls.length - i).toNat | _ => 0, ⟨rfl, 0, rfl, by omega, by simp⟩, ?_⟩
  rintro n2 h5 ⟨rfl, i, hx, hi, hs⟩
  simp only [List.cons.injEq, AV.int.injEq, true_and, and_true] at hx
  subst hx
  refine vif_mk (fun g1 => ?_) (fun g1 => ?_)
  · replace g1 := of_decide_eq_true g1
    refine I.idx (by omega) fun pp s l hl hc H => ⟨s, hc, ?_⟩
    refine z21 H (by have := F2 l (List.mem_of_getElem? hl); omega) ⟨_, rfl, ?_⟩
    refine vif_mk (fun g2 => ?_) (fun g2 => ?_)
    · have g2 : ¬ SortedL l := by simpa using g2
      have : ls.all (fun l => decide (SortedL l)) = false := by
        rw [List.all_eq_false]; exact ⟨l, List.mem_of_getElem? hl, by simpa using g2⟩
      rw [this] at hQ
      exact hQ
    · have g2 : SortedL l := by simpa using g2
      rw [wrapK_i64 ⟨by omega, by omega⟩]
      refine ⟨trivial, ⟨rfl, i + 1, by simp, by omega, ?_⟩, by simp only; omega⟩
      intro x hx
      rw [List.take_add_one, hl] at hx
      rcases List.mem_append.1 hx with hx | hx
      · exact hs x hx
      · simp at hx; subst hx; exact g2
  · replace g1 := of_decide_eq_false g1
    have : i = ls.length := by omega
    subst this
    rw [List.take_length] at hs
    rw [if_pos (by simpa [List.all_eq_true] using hs)] at hQ
    exact hQ)

/-- The engine's may, no cursors. -/
theorem z23 (I : InLL h q ls) (F : Fits ls) (hll : ls.length ≤ 9223372036854775807) (hQ : ∀ h', Ext h h' → Q (.int .i64 (mayC ls)) h') : AC Tryz.prog 23 [.sl q, .sl none] h Q := ac23 (by
  unfold vc23
  have hlen := I.len
  unfold mayC at hQ
  have e0 : ((slLen (none : Option SL) : Nat) : Int) = 0 := rfl
  rw [e0, Int.add_zero, wrapK_i64 ⟨by omega, by omega⟩]
  refine vif_mk (fun g => ?_) (fun g => ?_)
  · replace g := of_decide_eq_true g
    have := hQ h (.refl _)
    rw [if_pos (by omega)] at this; exact this
  replace g := of_decide_eq_false g
  rw [if_neg (by omega)] at hQ
  have F2 := (fits_all F (by omega)).1
  refine ⟨fun xs h5 => Ext h h5 ∧ ∃ i : Nat, xs = [.int .i64 i] ∧ i ≤ ls.length ∧ ∀ l ∈ ls.take i, SortedL l, fun xs _ => match xs with | [.int _ i] => (ls.length - i).toNat | _ => 0, ⟨.refl _, 0, rfl, by omega, by simp⟩, ?_⟩
  rintro n2 h5 ⟨x5, i, hx, hi, hs⟩
  simp only [List.cons.injEq, AV.int.injEq, true_and, and_true] at hx
  subst hx
  refine vif_mk (fun g1 => ?_) (fun g1 => ?_)
  · replace g1 := of_decide_eq_true g1
    refine (I.mono x5).idx (by omega) fun pp s l hl hc H => ⟨s, hc, ?_⟩
    refine z29 H (by have := F2 l (List.mem_of_getElem? hl); omega) fun h10 x10 => ⟨_, rfl, ?_⟩
    refine vif_mk (fun g2 => ?_) (fun g2 => ?_)
    · have g2 : ¬ SortedL l := by simpa using g2
      have : ls.all (fun l => decide (SortedL l)) = false := by
        rw [List.all_eq_false]; exact ⟨l, List.mem_of_getElem? hl, by simpa using g2⟩
      rw [this] at hQ
      exact hQ _ (x5.trans x10)
    · have g2 : SortedL l := by simpa using g2
      rw [wrapK_i64 ⟨by omega, by omega⟩]
      refine ⟨trivial, ⟨x5.trans x10, i + 1, by simp, by omega, ?_⟩, by simp only; omega⟩
      intro x hx
      rw [List.take_add_one, hl] at hx
      rcases List.mem_append.1 hx with hx | hx
      · exact hs x hx
      · simp at hx; subst hx; exact g2
  · replace g1 := of_decide_eq_false g1
    have : i = ls.length := by omega
    subst this
    rw [List.take_length] at hs
    rw [if_pos (by simpa [List.all_eq_true] using hs)] at hQ
    refine ⟨fun xs h15 => h15 = h5 ∧ xs = [.int .i64 0], fun _ _ => 0, ⟨rfl, rfl⟩, ?_⟩
    rintro n12 h15 ⟨rfl, hx⟩
    simp only [List.cons.injEq, AV.int.injEq, true_and, and_true] at hx
    subst hx
    refine vif_mk (fun g => ?_) (fun _ => hQ _ x5)
    replace g := of_decide_eq_true g
    exact absurd g (by decide))

/-- All, in order. -/
theorem z11 (I : InLL h q ls) (hs : (ls.map List.length).sum ≤ 1000) (hll : ls.length ≤ 1000000) (hQ : ∀ q' h', New entE h h' q' (sortE ls.flatten) → Q (.sl q') h') : AC Tryz.prog 11 [.sl q] h Q := ac11 (by
  unfold vc11
  have hlen := I.len
  have hsum : ∀ i, (ls.take i).flatten.length ≤ 1000 := by
    intro i
    rw [List.length_flatten, List.map_take]
    have : ((ls.map List.length).take i).sum ≤ (ls.map List.length).sum := by
      conv => rhs; rw [← List.take_append_drop i (ls.map List.length), List.sum_append]
      omega
    omega
  refine ⟨fun xs h6 => ∃ (q2 : Option SL) (i : Nat), xs = [.sl q2, .int .i64 i] ∧ i ≤ ls.length ∧ New entE h h6 q2 (ls.take i).flatten, fun xs _ => match xs with | [_, .int _ i] => (ls.length - i).toNat | _ => 0, ⟨none, 0, rfl, by omega, by simpa using New.none⟩, ?_⟩
  rintro q2 n3 h6 ⟨_, i, hx, hi, N⟩
  simp only [List.cons.injEq, AV.int.injEq, AV.sl.injEq, true_and, and_true] at hx
  obtain ⟨rfl, rfl⟩ := hx
  refine vif_mk (fun g => ?_) (fun g => ?_)
  · replace g := of_decide_eq_true g
    refine (I.mono N.1).idx (by omega) fun pp s l hl hc H => ⟨s, hc, ?_⟩
    have e : (ls.take (i + 1)).flatten = (ls.take i).flatten ++ l := by rw [List.take_add_one, hl]; simp
    have h1 := hsum (i + 1)
    rw [e, List.length_append] at h1
    refine New.append (E := entE) N H (by omega) fun q9 h10 N10 => ?_
    rw [wrapK_i64 ⟨by omega, by omega⟩]
    exact ⟨trivial, ⟨q9, i + 1, by simp, by omega, by rw [e]; exact N10⟩, by simp only; omega⟩
  · replace g := of_decide_eq_false g
    have : i = ls.length := by omega
    subst this
    have h1 := hsum ls.length
    rw [List.take_length] at N h1
    exact z22 _ (Nat.le_refl _) N.hasL (by omega) fun q' h' N' => ⟨q', rfl, hQ q' h' (N'.of N.1)⟩)

/-- Same. -/
theorem z10 {q1 q2 : Option SL} {a b : List Ent} (Ha : HasL entE h q1 a) (Hb : HasL entE h q2 b) (hl : a.length ≤ 1000000) (hQ : a = b → Q (.bool true) h) (hab : a = b) : AC Tryz.prog 10 [.sl q1, .sl q2] h Q := ac10 (by
  subst hab
  unfold vc10
  have la := Ha.len
  have lb := Hb.len
  refine vif_mk (fun g => by simp [la, lb] at g) (fun _ => ?_)
  refine ⟨fun xs h6 => h6 = h ∧ ∃ i : Nat, xs = [.int .i64 i] ∧ i ≤ a.length, fun xs _ => match xs with | [.int _ i] => (a.length - i).toNat | _ => 0, ⟨rfl, 0, rfl, by omega⟩, ?_⟩
  rintro n3 h6 ⟨rfl, i, hx, hi⟩
  simp only [List.cons.injEq, AV.int.injEq, true_and, and_true] at hx
  subst hx
  refine vif_mk (fun g => ?_) (fun g => hQ rfl)
  replace g := of_decide_eq_true g
  have hx : a[i]? = some a[i] := List.getElem?_eq_getElem (by omega)
  generalize a[i] = x at *
  refine idx4 Ha hx rfl fun p hc => ⟨_, _, _, _, hc, ?_⟩
  refine idx4 Hb hx rfl fun p hc => ⟨_, _, _, _, hc, ?_⟩
  refine vif_mk (fun g => by simp at g) (fun _ => ?_)
  rw [wrapK_i64 ⟨by omega, by omega⟩]
  exact ⟨trivial, ⟨rfl, i + 1, by simp, by omega⟩, by simp only; omega⟩)
end
end Go.Proofs.YtceplmmmlindnaaGreat

/- A heap of heads: the plain law. -/
namespace Go.Proofs.YtceplmmmlindnaaGreat
open Go.Ab
set_option linter.unusedVariables false
set_option linter.unusedSimpArgs false

/-- A source's head: where it lies, where its list lies, its entry, what is behind it. -/
structure HD where
  hb : Nat
  lb : Nat
  e : Ent
  r : List Ent

def swp {α : Type} (l : List α) (i k : Nat) : List α := match l[i]?, l[k]? with | some a, some b => (l.set i b).set k a | _, _ => l
theorem swp_eq {α : Type} {l : List α} {i k : Nat} {a b : α} (ha : l[i]? = some a) (hb : l[k]? = some b) : swp l i k = (l.set i b).set k a := by simp only [swp, ha, hb]
theorem swp_len {α : Type} {l : List α} {i k : Nat} : (swp l i k).length = l.length := by
  unfold swp; split <;> simp
theorem swp_perm {α : Type} {l : List α} {i k : Nat} {a b : α} (ha : l[i]? = some a) (hb : l[k]? = some b) : (swp l i k).Perm l := by
  rw [swp_eq ha hb]
  obtain ⟨hi, rfl⟩ := List.getElem?_eq_some_iff.1 ha
  obtain ⟨hk, rfl⟩ := List.getElem?_eq_some_iff.1 hb
  exact List.set_set_perm hi hk
theorem swp_get {α : Type} {l : List α} {i k j : Nat} {a b : α} (ha : l[i]? = some a) (hb : l[k]? = some b) : (swp l i k)[j]? = if j = k then some a else if j = i then some b else l[j]? := by
  have hi := lt_of_get ha
  have hk := lt_of_get hb
  rw [swp_eq ha hb, List.getElem?_set]
  by_cases h1 : k = j
  · subst h1; rw [if_pos rfl, if_pos (by simpa using hk), if_pos rfl]
  · rw [if_neg h1, if_neg (Ne.symm h1), List.getElem?_set]
    by_cases h2 : i = j
    · subst h2; rw [if_pos rfl, if_pos hi, if_pos rfl]
    · rw [if_neg h2, if_neg (Ne.symm h2)]
theorem swp_map {α β : Type} (f : α → β) {l : List α} {i k : Nat} : (swp l i k).map f = swp (l.map f) i k := by
  unfold swp
  rw [List.getElem?_map, List.getElem?_map]
  cases l[i]? <;> cases l[k]? <;> simp [List.map_set]

def Kid (j c : Nat) : Prop := c = 2 * j + 1 ∨ c = 2 * j + 2
/-- Each from lo on comes not behind its children, of the first n. -/
def HeapOK (H : List HD) (n lo : Nat) : Prop := ∀ j c x y, lo ≤ j → Kid j c → c < n → H[j]? = some x → H[c]? = some y → leE x.e y.e
/-- .. but for one that is on its way down. -/
def DInv (H : List HD) (n lo i : Nat) : Prop :=
  (∀ j c x y, lo ≤ j → j ≠ i → Kid j c → c < n → H[j]? = some x → H[c]? = some y → leE x.e y.e) ∧
  (∀ j c x y, lo ≤ j → Kid j i → Kid i c → c < n → H[j]? = some x → H[c]? = some y → leE x.e y.e)
theorem dinv_start {H : List HD} {n lo : Nat} (h : HeapOK H n (lo + 1)) : DInv H n lo lo :=
  ⟨fun j c x y h1 h2 h3 h4 h5 h6 => h j c x y (by omega) h3 h4 h5 h6, fun j c x y h1 h2 => by unfold Kid at h2; omega⟩
theorem dinv_end {H : List HD} {n lo i : Nat} (D : DInv H n lo i) (h : ∀ c x y, Kid i c → c < n → H[i]? = some x → H[c]? = some y → leE x.e y.e) : HeapOK H n lo := by
  intro j c x y h1 h2 h3 h4 h5
  by_cases hj : j = i
  · subst hj; exact h c x y h2 h3 h4 h5
  · exact D.1 j c x y h1 hj h2 h3 h4 h5
theorem dinv_step {H : List HD} {n lo i c0 : Nat} {x y : HD} (D : DInv H n lo i) (hlo : lo ≤ i) (hx : H[i]? = some x) (hy : H[c0]? = some y) (hk : Kid i c0) (hc : c0 < n) (hlt : leE y.e x.e)
    (hmin : ∀ c z, Kid i c → c < n → H[c]? = some z → leE y.e z.e) : DInv (swp H i c0) n lo c0 := by
  have hne : c0 ≠ i := by unfold Kid at hk; omega
  have get := fun j => swp_get (j := j) hx hy
  refine ⟨fun j c u v h1 h2 h3 h4 h5 h6 => ?_, fun j c u v h1 h2 h3 h4 h5 h6 => ?_⟩
  · rw [get] at h5 h6
    rw [if_neg h2] at h5
    by_cases hj : j = i
    · subst hj
      rw [if_pos rfl] at h5
      cases h5
      by_cases hcc : c = c0
      · rw [if_pos hcc] at h6; cases h6; exact hlt
      · rw [if_neg hcc, if_neg (by unfold Kid at h3; omega)] at h6
        exact hmin c v h3 h4 h6
    · rw [if_neg hj] at h5
      by_cases hcc : c = c0
      · exfalso; unfold Kid at hk h3; omega
      · rw [if_neg hcc] at h6
        by_cases hci : c = i
        · rw [if_pos hci] at h6; cases h6
          subst hci
          exact D.2 j c0 _ _ h1 h3 hk hc h5 hy
        · rw [if_neg hci] at h6
          exact D.1 j c u v h1 hj h3 h4 h5 h6
  · have hj : j = i := by unfold Kid at h2 hk; omega
    subst hj
    rw [get] at h5 h6
    rw [if_neg (Ne.symm hne), if_pos rfl] at h5
    cases h5
    rw [if_neg (by unfold Kid at h3; omega), if_neg (by unfold Kid at h3 hk; omega)] at h6
    exact D.1 c0 c _ _ (by unfold Kid at hk; omega) hne h3 h4 hy h6
/-- The first one is the least. -/
theorem heap_min {H : List HD} {n : Nat} (h : HeapOK H n 0) {x0 : HD} (h0 : H[0]? = some x0) : ∀ (j : Nat) (y : HD), j < n → H[j]? = some y → leE x0.e y.e
  | 0, y, _, hy => by rw [h0] at hy; cases hy; exact leE_refl _
  | j + 1, y, hj, hy => by
    have hp : j / 2 < n := by omega
    have hlt := lt_of_get hy
    have hz : H[j / 2]? = some H[j / 2] := List.getElem?_eq_getElem (by omega)
    exact leE_trans (heap_min h h0 (j / 2) _ hp hz) (h (j / 2) (j + 1) _ _ (by omega) (by unfold Kid; omega) hj hz hy)

/-- All that is left. -/
def allOf (H : List HD) : List Ent := (H.map fun x => x.e :: x.r).flatten
theorem allOf_perm {H H' : List HD} (h : H.Perm H') : (allOf H).Perm (allOf H') := (h.map _).flatten
theorem allOf_cons {x : HD} {H : List HD} : allOf (x :: H) = (x.e :: x.r) ++ allOf H := by simp [allOf]
theorem allOf_min {H : List HD} {x0 : HD} (h : HeapOK H H.length 0) (h0 : H[0]? = some x0) (hs : ∀ x ∈ H, SortedL (x.e :: x.r)) : ∀ y ∈ allOf H, leE x0.e y := by
  intro y hy
  simp only [allOf, List.mem_flatten, List.mem_map] at hy
  obtain ⟨_, ⟨x, hx, rfl⟩, hy⟩ := hy
  obtain ⟨j, hj⟩ := List.mem_iff_getElem?.1 hx
  have h1 := heap_min h h0 j x (lt_of_get hj) hj
  rcases List.mem_cons.1 hy with rfl | hy
  · exact h1
  · exact leE_trans h1 (List.rel_of_pairwise_cons (hs x hx) hy)
/-- What is told first. -/
theorem sort_head {l : List Ent} {e : Ent} {m : List Ent} (hp : l.Perm (e :: m)) (hmin : ∀ y ∈ l, leE e y) : sortE l = e :: sortE m := by
  refine sortE_eq ?_ ?_
  · refine .cons (fun y hy => ?_) (sortE_sorted m)
    exact hmin y (hp.mem_iff.2 (List.mem_cons_of_mem _ ((sortE_perm m).mem_iff.1 hy)))
  · exact ((sortE_perm m).cons e).trans hp.symm

/-! Blocks and their roles. -/
inductive ZRole where
  | mrg | arr | head | lst | dat
deriving DecidableEq
abbrev Roles := Nat → Option ZRole
abbrev dsk (ow : Roles) : Nat → Prop := fun b => ow b ≠ none
structure DStep (ow : Roles) (h : Heap) (ow' : Roles) (h' : Heap) : Prop where
  keeps : Keeps (dsk ow) h h'
  len : h.length ≤ h'.length
  own : ∀ b, ow' b ≠ none → ow b ≠ none ∨ h.length ≤ b
theorem DStep.refl (ow : Roles) (h : Heap) : DStep ow h ow h := ⟨.refl _ _, Nat.le_refl _, fun b hb => .inl hb⟩
theorem DStep.trans {ow0 ow1 ow2 : Roles} {h0 h1 h2 : Heap} (a : DStep ow0 h0 ow1 h1) (b : DStep ow1 h1 ow2 h2) : DStep ow0 h0 ow2 h2 := by
  refine ⟨fun k B hk hB => ?_, Nat.le_trans a.len b.len, fun k hk => ?_⟩
  · refine b.keeps k B (fun hn => ?_) (a.keeps k B hk hB)
    rcases a.own k hn with h | h
    · exact hk h
    · have := lt_of_get hB; omega
  · rcases b.own k hk with h | h
    · exact a.own k h
    · exact .inr (Nat.le_trans a.len h)
theorem DStep.ext {ow : Roles} {h h' : Heap} (e : Ext h h') : DStep ow h ow h' := ⟨keeps_of_ext e, e.len, fun b hb => .inl hb⟩
def setOw (ow : Roles) (q : Option SL) (r : ZRole) : Roles := fun b => match q with
  | some s => if b = s.b then some r else ow b
  | none => ow b
theorem setOw_keep {ow : Roles} {n : Nat} {q : Option SL} {r : ZRole} (hl : ∀ b, ow b ≠ none → b < n) (hq : ∀ s, q = some s → n ≤ s.b ∨ ow s.b = some r) : ∀ b r', ow b = some r' → setOw ow q r b = some r' := by
  intro b r' hb
  unfold setOw
  cases q with
  | none => exact hb
  | some s =>
    simp only
    split
    · rename_i he
      subst he
      rcases hq s rfl with h | h
      · have := hl s.b (by simp [hb]); omega
      · rw [h] at hb; exact hb
    · exact hb
theorem setOw_self {ow : Roles} {q : Option SL} {r : ZRole} : ∀ s, q = some s → setOw ow q r s.b = some r := by
  intro s hs; subst hs; simp [setOw]
theorem setOw_some {ow : Roles} {n : Nat} {q : Option SL} {r : ZRole} (hq : ∀ s, q = some s → n ≤ s.b ∨ ow s.b = some r) : ∀ b, setOw ow q r b ≠ none → ow b ≠ none ∨ (n ≤ b ∧ ∃ s, q = some s ∧ b = s.b) := by
  intro b hb
  unfold setOw at hb
  cases q with
  | none => exact .inl hb
  | some s =>
    simp only at hb
    split at hb
    · rename_i he; subst he
      rcases hq s rfl with h | h
      · exact .inr ⟨h, s, rfl, rfl⟩
      · exact .inl (by simp [h])
    · exact .inl hb

def ptrE : Enc Nat := ⟨1, fun b => [.ptr (some ⟨b, 0⟩)], fun _ => rfl, by omega, fun _ => rfl⟩
abbrev srcV (lb : Nat) : AV := .iface 63 (.ptr (some ⟨lb, 0⟩))
abbrev headB (e : Ent) (lb : Nat) : Blk := .cells [.int .i64 e.1, .int .i64 e.2.1, .int .i64 e.2.2.1, .int .i64 e.2.2.2, srcV lb, .func (.method "Next") [srcV lb] []] true

/-- The merger's heap, as far as its entries go. -/
structure MrgK (h : Heap) (ow : Roles) (p : Nat) (H : List HD) : Prop where
  live : ∀ b, ow b ≠ none → b < h.length
  pr : ow p = some .mrg
  cells : ∃ qa, h[p]? = some (.cells [.sl qa, .sl none, .int .i64 0] true) ∧ AppJ ptrE h qa (H.map (·.hb)) ∧ ∀ s, qa = some s → ow s.b = some .arr
  heads : ∀ x ∈ H, ow x.hb = some .head ∧ h[x.hb]? = some (headB x.e x.lb)
  nodup : (H.map (·.hb)).Nodup
  many : H.length ≤ 100000
/-- A head's list. -/
structure LstR (h : Heap) (ow : Roles) (x : HD) : Prop where
  role : ow x.lb = some .lst
  cells : ∃ ql, h[x.lb]? = some (.cells [.sl ql] true) ∧ HasL entE h ql (x.e :: x.r) ∧ ∀ s, ql = some s → ow s.b = some .dat
  srt : SortedL (x.e :: x.r)

section
variable {h h' : Heap} {ow ow' : Roles} {p : Nat} {H H' : List HD} {x y : HD} {Q : AV → Heap → Prop}
theorem MrgK.ext (M : MrgK h ow p H) (K : Keeps (fun b => ow b = none) h h') (hl : h.length ≤ h'.length) : MrgK h' ow p H := by
  obtain ⟨l, pr, ⟨qa, c1, c2, c3⟩, hd, nd, mn⟩ := M
  exact ⟨fun b hb => Nat.lt_of_lt_of_le (l b hb) hl, pr, ⟨qa, K _ _ (by simp [pr]) c1, c2.keeps K (fun s hs => by simp [c3 s hs]), c3⟩, fun x hx => ⟨(hd x hx).1, K _ _ (by simp [(hd x hx).1]) (hd x hx).2⟩, nd, mn⟩
theorem MrgK.grow (M : MrgK h ow p H) (e : Ext h h') : MrgK h' ow p H := M.ext (keeps_of_ext e) e.len
/-- What the heap's own steps turn. -/
abbrev hp (ow : Roles) : Nat → Prop := fun b => ow b = some .arr ∨ ow b = some .mrg
theorem LstR.keeps (L : LstR h ow x) {X : Nat → Prop} (K : Keeps X h h') (hX : ∀ b, ow b = some .lst ∨ ow b = some .dat → ¬ X b) : LstR h' ow x := by
  obtain ⟨r, ⟨ql, c1, c2, c3⟩, s⟩ := L
  exact ⟨r, ⟨ql, K _ _ (hX _ (.inl r)) c1, K.hasL (fun s hs => hX _ (.inr (c3 s hs))) c2, c3⟩, s⟩
end
end Go.Proofs.YtceplmmmlindnaaGreat

/- A heap of heads: its steps. -/
namespace Go.Proofs.YtceplmmmlindnaaGreat
open Go.Ab
set_option linter.unusedVariables false
set_option linter.unusedSimpArgs false

section
variable {α : Type} {E : Enc α} {h h' : Heap} {q : Option SL} {l : List α}
/-- The first so many of a slice that has room. -/
theorem AppJ.cut (A : AppJ E h q l) {n : Nat} (hn : n ≤ l.length) {K : Option SL → Prop} (hK : ∀ q', AppJ E h q' (l.take n) → (∀ s', q' = some s' → ∃ s, q = some s ∧ s.b = s'.b) → K q') : PSlice E.sz q 0 (some (n : Int)) none K := by
  rcases A with ⟨rfl, rfl⟩ | ⟨a, c, o, j, rfl, ho, hb, hj, hc⟩
  · simp at hn; subst hn
    exact ⟨rfl, rfl, rfl, hK none (.inl ⟨rfl, by simp⟩) (fun s hs => by cases hs)⟩
  · refine ⟨ho, by omega, by simp, by simp; omega, by simp, ?_⟩
    simp only [Option.getD_some, Option.getD_none, Int.toNat_natCast, Int.toNat_zero, Nat.zero_mul, Nat.add_zero, Int.sub_zero, Option.isNone_none, if_true]
    have hl : (l.take n).length = n := by rw [List.length_take]; omega
    refine hK _ (.inr ⟨a, c, o, E.all (l.drop n) ++ j, by rw [hl], ho, ?_, ?_, by omega⟩) (fun s' hs' => by cases hs'; exact ⟨_, rfl, rfl⟩)
    · rw [← List.append_assoc, ← Enc.all_append, List.take_append_drop]; exact hb
    · rw [List.length_append, Enc.all_length, hj, hl, List.length_drop, ← Nat.add_mul]; congr 1; omega
end

section
variable {h h' : Heap} {ow ow' : Roles} {p : Nat} {H H' : List HD} {x y : HD} {Q : AV → Heap → Prop} {q : Option SL}

theorem MrgK.qa (M : MrgK h ow p H) : ∃ qa, cellsAt h ⟨p, 0⟩ 1 = some [.sl qa] ∧ h[p]? = some (.cells [.sl qa, .sl none, .int .i64 0] true) ∧ AppJ ptrE h qa (H.map (·.hb)) ∧ ∀ s, qa = some s → ow s.b = some .arr := by
  obtain ⟨qa, c1, c2, c3⟩ := M.cells
  exact ⟨qa, by rw [cellsAt_mk (p := ⟨p, 0⟩) c1 (by simp)]; rfl, c1, c2, c3⟩
theorem MrgK.key (M : MrgK h ow p H) (hx : x ∈ H) : cellsAt h ⟨x.hb, 0 + 0⟩ 4 = some [.int .i64 x.e.1, .int .i64 x.e.2.1, .int .i64 x.e.2.2.1, .int .i64 x.e.2.2.2] := by
  rw [cells6 (M.heads x hx).2 (by simp)]; rfl
theorem ptr_idx (A : AppJ ptrE h q (H.map (·.hb))) {i : Nat} (hx : H[i]? = some x) {ix : Int} (hix : ix = i) {K : PA → Prop} (hK : ∀ pp, cellsAt h pp 1 = some [.ptr (some ⟨x.hb, 0⟩)] → (∀ s, q = some s → pp = ⟨s.b, i * ptrE.sz⟩) → K pp) : vIdx q ix 1 K := by
  have hl := lt_of_get hx
  subst hix
  refine AppJ.idx (E := ptrE) A (by omega) (by simp; omega) fun pp b hb hc hpp => hK pp ?_ (by simpa using hpp)
  have : b = x.hb := by
    simp only [Int.toNat_natCast, List.getElem?_map, hx, Option.map_some, Option.some.injEq] at hb
    exact hb.symm
  rw [← this]; exact hc

theorem z60 {n : Nat} (hl : slLen q = n) (hQ : Q (.int .i64 (n : Nat)) h) : AC Tryz.prog 60 [.sl q] h Q := ac60 (by
  unfold vc60; rw [hl]; exact hQ)
theorem z61 (M : MrgK h ow p H) (A : AppJ ptrE h q (H.map (·.hb))) {i k : Nat} (hx : H[i]? = some x) (hy : H[k]? = some y) {ix kx : Int} (hix : ix = i) (hkx : kx = k) (hQ : ∀ h', Ext h h' → Q (.bool (decide (ltE x.e y.e))) h') :
    AC Tryz.prog 61 [.sl q, .int .i64 ix, .int .i64 kx] h Q := ac61 (by
  unfold vc61
  refine ptr_idx A hx hix fun pp hc _ => ⟨_, hc, _, _, _, _, M.key (List.mem_of_getElem? hx), ?_⟩
  refine ptr_idx A hy hkx fun pp2 hc2 _ => ⟨_, hc2, _, _, _, _, M.key (List.mem_of_getElem? hy), ?_⟩
  refine z36 (a := x.e) (b := y.e) fun h' x' => ⟨_, rfl, ?_⟩
  have : decide (cmpE x.e y.e < 0) = decide (ltE x.e y.e) := decide_eq_decide.2 cmpE_lt
  rw [this]; exact hQ h' x')
theorem set_swp {l : List Nat} {i k a b : Nat} (ha : l[i]? = some a) (hb : l[k]? = some b) : (l.set i b).set k a = swp l i k := (swp_eq ha hb).symm
theorem z62 (M : MrgK h ow p H) (A : AppJ ptrE h q (H.map (·.hb))) (hq : ∀ s, q = some s → ow s.b = some .arr) {i k : Nat} (hx : H[i]? = some x) (hy : H[k]? = some y) {ix kx : Int} (hix : ix = i) (hkx : kx = k)
    (hpq : h[p]? = some (.cells [.sl q, .sl none, .int .i64 0] true)) (hQ : ∀ h', MrgK h' ow p (swp H i k) → Keeps (hp ow) h h' → h'.length = h.length → Q (.tup []) h') : AC Tryz.prog 62 [.sl q, .int .i64 ix, .int .i64 kx] h Q := ac62 (by
  unfold vc62
  refine ptr_idx A hy hkx fun p4 hc4 hp4 => ⟨_, hc4, ?_⟩
  refine ptr_idx A hx hix fun p6 hc6 hp6 => ⟨_, hc6, ?_⟩
  refine ptr_idx A hx hix fun p8 hc8 hp8 => ?_
  have hxm : (H.map (·.hb))[i]? = some x.hb := by rw [List.getElem?_map, hx]; rfl
  have hym : (H.map (·.hb))[k]? = some y.hb := by rw [List.getElem?_map, hy]; rfl
  refine AppJ.store (E := ptrE) (k := 0) (r' := y.hb) (r := x.hb) (xs := [.ptr (some ⟨y.hb, 0⟩)]) A hxm (by show 0 + 1 ≤ 1; omega) rfl (fun s hs => by rw [hp8 s hs]; simp) fun h9 A9 K9 hl9 => ?_
  have hk9 : ∃ z, ((H.map (·.hb)).set i y.hb)[k]? = some z := ⟨_, List.getElem?_eq_getElem (by simp; exact lt_of_get hy)⟩
  obtain ⟨z, hz⟩ := hk9
  have hkl := lt_of_get hy
  subst hkx
  refine AppJ.idx (E := ptrE) A9 (by omega) (by simp; omega) fun p10 b hb hc hpp => ?_
  have hz' : ((H.map (·.hb)).set i y.hb)[k]? = some b := by simpa using hb
  refine AppJ.store (E := ptrE) (k := 0) (r' := x.hb) (r := b) (xs := [.ptr (some ⟨x.hb, 0⟩)]) A9 hz' (by show 0 + 1 ≤ 1; omega) rfl (fun s hs => by rw [hpp s hs]; simp) fun h11 A11 K11 hl11 => ?_
  have K : Keeps (fun b => ow b = some .arr) h h11 := by
    intro b X hb hX
    exact K11 _ _ (fun ⟨s, h1, h2⟩ => hb (by rw [← h2]; exact hq s h1)) (K9 _ _ (fun ⟨s, h1, h2⟩ => hb (by rw [← h2]; exact hq s h1)) hX)
  refine hQ h11 ⟨fun b hb => by have := M.live b hb; omega, M.pr, ⟨q, K _ _ (by simp [M.pr]) hpq, ?_, hq⟩, fun u hu => ?_, ?_, by rw [swp_len]; exact M.many⟩ (fun b X hb hX => K b X (fun hx => hb (.inl hx)) hX) (by omega)
  · rw [swp_map, ← set_swp hxm hym]; exact A11
  · have hu' : u ∈ H := (swp_perm hx hy).mem_iff.1 hu
    have := M.heads u hu'
    exact ⟨this.1, K _ _ (by simp [this.1]) this.2⟩
  · exact ((swp_perm hx hy).map _).nodup_iff.2 M.nodup)

set_option maxRecDepth 20000 in
/-- down -/
theorem z30 (M : MrgK h ow p H) {lo n : Nat} (hn : n ≤ H.length) (hlo : lo ≤ n) (hH : HeapOK H n (lo + 1))
    (hQ : ∀ b h' H', MrgK h' ow p H' → Keeps (hp ow) h h' → h.length ≤ h'.length → H'.Perm H → (∀ j, n ≤ j → H'[j]? = H[j]?) → HeapOK H' n lo → Q (.bool b) h') :
    AC Tryz.prog 30 [.iface 68 (.ptr (some ⟨p, 0⟩)), .int .i64 (lo : Nat), .int .i64 (n : Nat)] h Q := ac30 (by
  unfold vc30
  have hmany := M.many
  let I : Heap → Nat → Prop := fun h7 i => ∃ H1, lo ≤ i ∧ i ≤ n ∧ MrgK h7 ow p H1 ∧ Keeps (hp ow) h h7 ∧ h.length ≤ h7.length ∧ H1.Perm H ∧ (∀ j, n ≤ j → H1[j]? = H[j]?) ∧ DInv H1 n lo i
  refine ⟨fun xs h7 => ∃ i : Nat, xs = [.int .i64 i] ∧ I h7 i, fun xs _ => match xs with | [.int _ i] => (n - i).toNat | _ => 0, ⟨lo, rfl, H, Nat.le_refl _, hlo, M, .refl _ _, Nat.le_refl _, .refl _, fun _ _ => rfl, dinv_start hH⟩, ?_⟩
  rintro n4 h7 ⟨i, hx, H1, hi, hin, M1, K1, l1, P1, T1, D1⟩
  simp only [List.cons.injEq, AV.int.injEq, true_and, and_true] at hx
  subst hx
  have hlen1 := P1.length_eq
  have w1 : wrapK .i64 (2 * (i : Int)) = ((2 * i : Nat) : Int) := by rw [wrapK_i64 ⟨by omega, by omega⟩]; omega
  have w2 : wrapK .i64 (((2 * i : Nat) : Int) + 1) = ((2 * i + 1 : Nat) : Int) := by rw [wrapK_i64 ⟨by omega, by omega⟩]; omega
  have w3 : wrapK .i64 (((2 * i + 1 : Nat) : Int) + 1) = ((2 * i + 2 : Nat) : Int) := by rw [wrapK_i64 ⟨by omega, by omega⟩]; omega
  rw [w1, w2, w3]
  have done : ∀ b {h' : Heap}, Ext h7 h' → (∀ c x y, Kid i c → c < n → H1[i]? = some x → H1[c]? = some y → leE x.e y.e) → Q (.bool b) h' := fun b h' x' hc =>
    hQ b h' H1 (M1.grow x') (K1.trans (keeps_of_ext x')) (Nat.le_trans l1 x'.len) P1 T1 (dinv_end D1 hc)
  refine vif_mk (fun g => ?_) (fun g => ?_)
  · replace g := of_decide_eq_true g
    exact done _ (.refl _) fun c x y hk hc => by unfold Kid at hk; omega
  replace g := of_decide_eq_false g
  refine vif_mk (fun g1 => ?_) (fun _ => ?_)
  · replace g1 := of_decide_eq_true g1; omega
  have hxi : H1[i]? = some H1[i] := List.getElem?_eq_getElem (by omega)
  have hxa : H1[2 * i + 1]? = some H1[2 * i + 1] := List.getElem?_eq_getElem (by omega)
  generalize H1[i] = xi at *
  generalize H1[2 * i + 1] = xa at *
  -- one step down
  have step : ∀ {h8 : Heap} {c0 : Nat} {y : HD}, Ext h7 h8 → H1[c0]? = some y → Kid i c0 → c0 < n → (∀ c z, Kid i c → c < n → H1[c]? = some z → leE y.e z.e) →
      ∃ q8, cellsAt h8 ⟨p, 0⟩ 1 = some [.sl q8] ∧ AC Tryz.prog 61 [.sl q8, .int .i64 (c0 : Nat), .int .i64 (i : Nat)] h8 fun v11 h12 => ∃ b13 : Bool, v11 = .bool b13 ∧
        vif (!b13) (Q (.bool (decide ((i : Int) > (lo : Int)))) h12)
          (∃ q14, cellsAt h12 ⟨p, 0⟩ 1 = some [.sl q14] ∧ AC Tryz.prog 62 [.sl q14, .int .i64 (i : Nat), .int .i64 (c0 : Nat)] h12 fun v14 h15 => v14 = .tup [] ∧ (True) ∧ (∃ i' : Nat, [AV.int .i64 ((c0 : Nat) : Int)] = [.int .i64 i'] ∧ I h15 i') ∧ ((n : Int) - (c0 : Nat)).toNat < ((n : Int) - (i : Nat)).toNat) := by
    intro h8 c0 y x8 hy hk hc hmin
    have M8 := M1.grow x8
    obtain ⟨qa, c1, c2, c3, c4⟩ := M8.qa
    refine ⟨qa, c1, z61 M8 c3 hy hxi rfl rfl fun h12 x12 => ⟨_, rfl, ?_⟩⟩
    refine vif_mk (fun g2 => ?_) (fun g2 => ?_)
    · have g2 : ¬ ltE y.e xi.e := by simpa using g2
      refine done _ (x8.trans x12) fun c u v hkc hcn hu hv => ?_
      rw [hxi] at hu; cases hu
      exact leE_trans g2 (hmin c v hkc hcn hv)
    · have g2 : ltE y.e xi.e := by simpa using g2
      have M12 := M8.grow x12
      obtain ⟨qb, d1, d2, d3, d4⟩ := M12.qa
      refine ⟨qb, d1, z62 M12 d3 d4 hxi hy rfl rfl d2 fun h15 M15 K15 l15 => ⟨rfl, trivial, ⟨c0, rfl, swp H1 i c0, by unfold Kid at hk; omega, by omega, M15, K1.trans ((keeps_of_ext (x8.trans x12)).trans K15), by have := (x8.trans x12).len; omega, (swp_perm hxi hy).trans P1, fun j hj => ?_, dinv_step D1 hi hxi hy hk hc (leE_lt g2) hmin⟩, by unfold Kid at hk; omega⟩⟩
      rw [swp_get hxi hy, if_neg (by omega), if_neg (by omega)]
      exact T1 j hj
  refine vif_mk (fun g2 => ?_) (fun g2 => ?_)
  · replace g2 := of_decide_eq_true g2
    have hxb : H1[2 * i + 2]? = some H1[2 * i + 2] := List.getElem?_eq_getElem (by omega)
    generalize H1[2 * i + 2] = xb at *
    obtain ⟨qa, c1, c2, c3, c4⟩ := M1.qa
    refine ⟨qa, c1, z61 M1 c3 hxb hxa rfl rfl fun h9 x9 => ⟨_, rfl, ?_⟩⟩
    refine vif_mk (fun g3 => ?_) (fun g3 => ?_)
    · have g3 : ltE xb.e xa.e := by simpa using g3
      refine step (c0 := 2 * i + 2) x9 hxb (.inr rfl) (by omega) fun c z hk hc hz => ?_
      rcases hk with rfl | rfl
      · rw [hxa] at hz; cases hz; exact leE_lt g3
      · rw [hxb] at hz; cases hz; exact leE_refl _
    · have g3 : leE xa.e xb.e := by simpa using g3
      refine step (c0 := 2 * i + 1) x9 hxa (.inl rfl) (by omega) fun c z hk hc hz => ?_
      rcases hk with rfl | rfl
      · rw [hxa] at hz; cases hz; exact leE_refl _
      · rw [hxb] at hz; cases hz; exact g3
  · replace g2 := of_decide_eq_false g2
    refine step (c0 := 2 * i + 1) (.refl _) hxa (.inl rfl) (by omega) fun c z hk hc hz => ?_
    rcases hk with rfl | rfl
    · rw [hxa] at hz; cases hz; exact leE_refl _
    · omega)

/-- Init -/
theorem z25 (M : MrgK h ow p H) (hQ : ∀ h' H', MrgK h' ow p H' → Keeps (hp ow) h h' → h.length ≤ h'.length → H'.Perm H → HeapOK H' H'.length 0 → Q (.tup []) h') : AC Tryz.prog 25 [.iface 68 (.ptr (some ⟨p, 0⟩))] h Q := ac25 (by
  unfold vc25
  have hmany := M.many
  obtain ⟨qa, c1, c2, c3, c4⟩ := M.qa
  refine ⟨qa, c1, z60 (n := H.length) (by rw [c3.hasL.len]; simp) ⟨_, rfl, ?_⟩⟩
  have w : wrapK .i64 (wrapK .i64 (((H.length : Nat) : Int).tdiv 2) - 1) = ((H.length / 2 : Nat) : Int) - 1 := by
    rw [tdiv_pos (by omega), wrapK_i64 (n := ((H.length : Nat) : Int) / 2) ⟨by omega, by omega⟩, wrapK_i64 ⟨by omega, by omega⟩]; omega
  rw [w]
  refine ⟨fun xs h8 => ∃ (i : Nat) (H1 : List HD), xs = [.int .i64 ((i : Int) - 1)] ∧ i ≤ H.length ∧ MrgK h8 ow p H1 ∧ Keeps (hp ow) h h8 ∧ h.length ≤ h8.length ∧ H1.Perm H ∧ HeapOK H1 H.length i, fun xs _ => match xs with | [.int _ i] => (i + 1).toNat | _ => 0, ⟨H.length / 2, H, rfl, by omega, M, .refl _ _, Nat.le_refl _, .refl _, fun j c x y hj hk hc => by unfold Kid at hk; omega⟩, ?_⟩
  rintro n5 h8 ⟨i, H1, hx, hi, M1, K1, l1, P1, O1⟩
  simp only [List.cons.injEq, AV.int.injEq, true_and, and_true] at hx
  subst hx
  have hlen1 := P1.length_eq
  refine vif_mk (fun g => ?_) (fun g => ?_)
  · replace g := of_decide_eq_true g
    obtain ⟨k, rfl⟩ : ∃ k, i = k + 1 := ⟨i - 1, by omega⟩
    have e : ((k + 1 : Nat) : Int) - 1 = ((k : Nat) : Int) := by omega
    rw [e]
    refine z30 M1 (by omega) (by omega) O1 fun b h10 H2 M2 K2 l2 P2 T2 O2 => ⟨_, rfl, trivial, ⟨k, H2, ?_, by omega, M2, K1.trans K2, by omega, P2.trans P1, O2⟩, ?_⟩
    · rw [wrapK_i64 ⟨by omega, by omega⟩]
    · rw [wrapK_i64 ⟨by omega, by omega⟩]; simp only; omega
  · replace g := of_decide_eq_false g
    have : i = 0 := by omega
    subst this
    exact hQ h8 H1 M1 K1 l1 P1 (by rw [hlen1]; exact O1))

/-- Pop: the last one. -/
theorem z123 {H : List HD} {x : HD} (M : MrgK h ow p (H ++ [x])) (hQ : ∀ v h', v.one = true → MrgK h' ow p H → Keeps (hp ow) h h' → h'.length = h.length → Q v h') : AC Tryz.prog 123 [.ptr (some ⟨p, 0⟩)] h Q := ac123 (by
  unfold vc123
  have hmany := M.many
  simp only [List.length_append, List.length_cons, List.length_nil] at hmany
  obtain ⟨qa, c1, c2, c3, c4⟩ := M.qa
  have hl : slLen qa = H.length + 1 := by rw [c3.hasL.len]; simp
  have w : wrapK .i64 (((slLen qa : Nat) : Int) - 1) = ((H.length : Nat) : Int) := by rw [hl, wrapK_i64 ⟨by omega, by omega⟩]; omega
  refine ⟨qa, c1, qa, c1, ?_⟩
  rw [w]
  refine ptr_idx c3 (i := H.length) (x := x) (by simp) rfl fun pp hc _ => ⟨_, hc, qa, c1, ?_⟩
  refine AppJ.cut (E := ptrE) c3 (by simp) fun q10 A10 hq10 => ?_
  have e : ((H ++ [x]).map (·.hb)).take H.length = H.map (·.hb) := by
    rw [List.map_append, List.take_left' (by simp)]
  rw [e] at A10
  have hst : PStore h ⟨p, 0⟩ [.sl q10] fun h12 => Q (.iface 74 (.ptr (some ⟨x.hb, 0⟩))) h12 := by
    refine store6 (o := 0) c2 (by simp) ?_
    have hpl := M.live p (by simp [M.pr])
    have K : Keeps (fun b => b = p) h (h.set p (.cells (splice [.sl qa, .sl none, .int .i64 0] 0 [.sl q10]) true)) := keeps_set rfl
    have hpne : ∀ b r, ow b = some r → r ≠ .mrg → ¬ b = p := fun b r hr hn he => by subst he; rw [M.pr] at hr; exact hn (Option.some.inj hr).symm
    have hq10' : ∀ s, q10 = some s → ow s.b = some .arr := fun s hs => by obtain ⟨s2, h1, h2⟩ := hq10 s hs; rw [← h2]; exact c4 s2 h1
    refine hQ _ _ rfl ⟨fun b hb => by rw [List.length_set]; exact M.live b hb, M.pr, ⟨q10, ?_, A10.keeps K (fun s hs => hpne _ _ (hq10' s hs) (by simp)), hq10'⟩, fun u hu => ?_, ?_, by omega⟩ (fun b X hb hX => K b X (fun he => hb (.inr (by rw [he]; exact M.pr))) hX) (by simp)
    · rw [List.getElem?_set_self hpl]; rfl
    · have := M.heads u (by simp [hu])
      exact ⟨this.1, K _ _ (hpne _ _ this.1 (by simp)) this.2⟩
    · have := M.nodup
      rw [List.map_append, List.nodup_append] at this
      exact this.1
  exact hst)

/-- Pop -/
theorem z31 (M : MrgK h ow p (x :: H)) (hO : HeapOK (x :: H) (x :: H).length 1) (hQ : ∀ v h' H', v.one = true → MrgK h' ow p H' → Keeps (hp ow) h h' → h.length ≤ h'.length → H'.Perm H → HeapOK H' H'.length 0 → Q v h') : AC Tryz.prog 31 [.iface 68 (.ptr (some ⟨p, 0⟩))] h Q := ac31 (by
  unfold vc31
  have hmany := M.many
  simp only [List.length_cons] at hmany
  obtain ⟨qa, c1, c2, c3, c4⟩ := M.qa
  refine ⟨qa, c1, z60 (n := H.length + 1) (by rw [c3.hasL.len]; simp) ⟨_, rfl, qa, c1, ?_⟩⟩
  have w : wrapK .i64 (((H.length + 1 : Nat) : Int) - 1) = ((H.length : Nat) : Int) := by rw [wrapK_i64 ⟨by omega, by omega⟩]; omega
  rw [w]
  have hx0 : (x :: H)[0]? = some x := rfl
  have hy : (x :: H)[H.length]? = some (x :: H)[H.length] := List.getElem?_eq_getElem (by simp)
  generalize (x :: H)[H.length] = y at *
  refine z62 M c3 c4 hx0 hy rfl rfl c2 fun h7 M7 K7 l7 => ⟨rfl, ?_⟩
  have hP := swp_perm hx0 hy
  refine z30 (lo := 0) (n := H.length) M7 (by rw [swp_len]; simp) (by omega) (fun j c u v hj hk hc hu hv => ?_) fun b h10 H2 M2 K2 l2 P2 T2 O2 => ⟨_, rfl, ?_⟩
  · rw [swp_get hx0 hy] at hu hv
    have hk' := hk
    unfold Kid at hk'
    have : j < H.length := by omega
    rw [if_neg (by omega), if_neg (by omega)] at hu hv
    exact hO j c u v hj hk (by simp; omega) hu hv
  · have hl2 : H2.length = H.length + 1 := by rw [P2.length_eq, swp_len]; simp
    have hlast : H2[H.length]? = some x := by
      rw [T2 H.length (Nat.le_refl _), swp_get hx0 hy, if_pos rfl]
    have e : H2 = H2.take H.length ++ [x] := by
      have h1 : H2.drop H.length = [x] := by
        rw [List.drop_eq_getElem_cons (by omega)]
        have h2 : H2[H.length] = x := by rw [List.getElem?_eq_getElem (by omega)] at hlast; exact Option.some.inj hlast
        rw [h2, List.drop_eq_nil_of_le (by omega)]
      conv => lhs; rw [← List.take_append_drop H.length H2, h1]
    have hl3 : (H2.take H.length).length = H.length := by rw [List.length_take]; omega
    have P3 : (H2.take H.length).Perm H := by
      have h1 : (H2.take H.length ++ [x]).Perm (x :: H) := by rw [← e]; exact P2.trans hP
      exact List.Perm.cons_inv (a := x) ((List.perm_append_comm (l₁ := [x]) (l₂ := H2.take H.length)).trans h1)
    rw [e] at M2
    refine z123 M2 fun v h13 hv1 M3 K3 l3 => ⟨v, hv1, rfl, ?_⟩
    refine hQ v h13 _ hv1 M3 (K7.trans (K2.trans K3)) (by omega) P3 ?_
    rw [hl3]
    intro j c u v hj hk hc hu hv
    have hk' := hk
    unfold Kid at hk'
    rw [List.getElem?_take_of_lt (by omega)] at hu hv
    exact O2 j c u v hj hk hc hu hv)

theorem z37 (hQ : Q (.tup []) h) : AC Tryz.prog 37 [.iface 68 (.ptr (some ⟨p, 0⟩)), .int .i64 0] h Q := ac37 (by
  unfold vc37
  refine ⟨fun xs h6 => h6 = h ∧ xs = [.int .i64 0], fun _ _ => 0, ⟨rfl, rfl⟩, ?_⟩
  rintro n3 h6 ⟨rfl, hx⟩
  simp only [List.cons.injEq, AV.int.injEq, true_and, and_true] at hx
  subst hx
  exact vif_mk (fun _ => hQ) (fun g => absurd g (by decide)))
/-- Fix of the first one. -/
theorem z32 (M : MrgK h ow p H) (hO : HeapOK H H.length 1) (hQ : ∀ h' H', MrgK h' ow p H' → Keeps (hp ow) h h' → h.length ≤ h'.length → H'.Perm H → HeapOK H' H'.length 0 → Q (.tup []) h') : AC Tryz.prog 32 [.iface 68 (.ptr (some ⟨p, 0⟩)), .int .i64 0] h Q := ac32 (by
  unfold vc32
  obtain ⟨qa, c1, c2, c3, c4⟩ := M.qa
  refine ⟨qa, c1, z60 (n := H.length) (by rw [c3.hasL.len]; simp) ⟨_, rfl, ?_⟩⟩
  refine z30 (lo := 0) M (Nat.le_refl _) (by omega) hO fun b h7 H2 M2 K2 l2 P2 T2 O2 => ⟨_, rfl, ?_⟩
  have fin := hQ h7 H2 M2 K2 l2 P2 (by rw [P2.length_eq]; exact O2)
  exact vif_mk (fun _ => z37 ⟨rfl, fin⟩) (fun _ => fin))
end
end Go.Proofs.YtceplmmmlindnaaGreat

/- The merger: its calls. -/
namespace Go.Proofs.YtceplmmmlindnaaGreat
open Go.Ab
set_option linter.unusedVariables false
set_option linter.unusedSimpArgs false

abbrev zeroE : Ent := (0, 0, 0, 0)
section
variable {h h' : Heap} {ow ow' : Roles} {p : Nat} {H H' : List HD} {x y : HD} {Q : AV → Heap → Prop} {q : Option SL}

/-- A list's Peek. -/
theorem z64 {lb : Nat} {ql : Option SL} {l : List Ent} (hb : h[lb]? = some (.cells [.sl ql] true)) (Hl : HasL entE h ql l) (h0 : l = [] → Q (.tup [entV zeroE, .bool false]) h) (h1 : ∀ e r, l = e :: r → Q (.tup [entV e, .bool true]) h) :
    AC Tryz.prog 64 [.ptr (some ⟨lb, 0⟩)] h Q := ac64 (by
  unfold vc64
  have c : cellsAt h ⟨lb, 0 + 0⟩ 1 = some [.sl ql] := by rw [cells6 hb (by simp)]; rfl
  have hl := Hl.len
  refine ⟨ql, c, vif_mk (fun g => ?_) (fun g => ?_)⟩
  · have g : l.length = 0 := by have : ((slLen ql : Nat) : Int) = 0 := by simpa using g
                                omega
    exact h0 (List.eq_nil_of_length_eq_zero g)
  · cases l with
    | nil => simp [hl] at g
    | cons e r =>
      refine ⟨ql, c, idx4 Hl (i := 0) (x := e) rfl rfl fun pp hc => ⟨_, _, _, _, hc, h1 e r rfl⟩⟩)
/-- A list's Next. -/
theorem z63 {lb : Nat} {ql : Option SL} {e : Ent} {r : List Ent} (hb : h[lb]? = some (.cells [.sl ql] true)) (Hl : HasL entE h ql (e :: r))
    (hQ : ∀ q6, HasL entE h q6 r → (∀ s', q6 = some s' → ∃ s, ql = some s ∧ s'.b = s.b) → Q (.int .i64 0) (h.set lb (.cells [.sl q6] true))) : AC Tryz.prog 63 [.ptr (some ⟨lb, 0⟩)] h Q := ac63 (by
  unfold vc63
  have c : cellsAt h ⟨lb, 0 + 0⟩ 1 = some [.sl ql] := by rw [cells6 hb (by simp)]; rfl
  have hl := Hl.len
  refine ⟨ql, c, vif_mk (fun g => by simp [hl] at g; omega) (fun _ => ?_)⟩
  refine ⟨ql, c, HasL.slice2 (E := entE) Hl (by omega) (by simp; omega) (by simp) fun q6 H6 hq6 => ?_⟩
  have e1 : ((e :: r).take ((Option.getD none (((e :: r).length : Nat) : Int))).toNat).drop (1 : Int).toNat = r := by
    simp only [Option.getD_none, Int.toNat_natCast, List.take_length]; rfl
  rw [e1] at H6
  exact store6v hb (by simp) (hQ q6 H6 hq6))

/-- The merger. -/
structure MrgR (h : Heap) (ow : Roles) (p : Nat) (H : List HD) : Prop where
  K : MrgK h ow p H
  L : ∀ x ∈ H, LstR h ow x
  lnd : (H.map (·.lb)).Nodup
theorem MrgR.grow (M : MrgR h ow p H) (e : Ext h h') : MrgR h' ow p H := ⟨M.K.grow e, fun x hx => (M.L x hx).keeps (X := fun _ => False) (keeps_of_ext e) (fun _ _ h => h), M.lnd⟩
theorem MrgR.ext (M : MrgR h ow p H) (e : Keeps (fun b => ow b = none) h h') (hl : h.length ≤ h'.length) : MrgR h' ow p H :=
  ⟨M.K.ext e hl, fun x hx => (M.L x hx).keeps e (fun b hb hn => by rcases hb with hb | hb <;> rw [hn] at hb <;> cases hb), M.lnd⟩
/-- Nothing of it is where the disk's own is. -/
theorem MrgR.kd (M : MrgR h ow p H) (K : Keeps (dsk ow) h h') : ∀ b B, ow b = none → h[b]? = some B → h'[b]? = some B := fun b B hb hB => K b B (by simp [hb]) hB

/-- Peek -/
theorem z13 (M : MrgR h ow p H) (h0 : H = [] → Q (.tup [entV zeroE, .bool false]) h) (h1 : ∀ x H1, H = x :: H1 → Q (.tup [entV x.e, .bool true]) h) : AC Tryz.prog 13 [.ptr (some ⟨p, 0⟩)] h Q := ac13 (by
  unfold vc13
  obtain ⟨qa, c1, c2, c3, c4⟩ := M.K.qa
  have cq : cellsAt h ⟨p, 0 + 0⟩ 1 = some [.sl qa] := by rw [cells6 c2 (by simp)]; rfl
  have ce : cellsAt h ⟨p, 0 + 2⟩ 1 = some [.int .i64 0] := by rw [cells6 c2 (by simp)]; rfl
  have hl := c3.hasL.len
  simp only [List.length_map] at hl
  refine vif_mk (fun g => by simp at g) (fun _ => ⟨0, ce, vif_mk (fun g => by simp at g) (fun _ => ⟨qa, cq, vif_mk (fun g => ?_) (fun g => ?_)⟩)⟩)
  · have g : H.length = 0 := by have : ((slLen qa : Nat) : Int) = 0 := by simpa using g
                                omega
    exact h0 (List.eq_nil_of_length_eq_zero g)
  · cases H with
    | nil => simp [hl] at g
    | cons x H1 =>
      refine ⟨qa, cq, ptr_idx c3 (i := 0) (x := x) rfl rfl fun pp hc _ => ⟨_, hc, _, _, _, _, M.K.key (by simp), h1 x H1 rfl⟩⟩)
/-- Left -/
theorem z15 (M : MrgR h ow p H) (hQ : Q (.int .i64 (H.length : Nat)) h) : AC Tryz.prog 15 [.ptr (some ⟨p, 0⟩)] h Q := ac15 (by
  unfold vc15
  obtain ⟨qa, c1, c2, c3, c4⟩ := M.K.qa
  have cq : cellsAt h ⟨p, 0 + 0⟩ 1 = some [.sl qa] := by rw [cells6 c2 (by simp)]; rfl
  have hl := c3.hasL.len
  simp only [List.length_map] at hl
  refine vif_mk (fun g => by simp at g) (fun _ => ⟨qa, cq, ?_⟩)
  rw [hl]; exact hQ)

theorem meth_next : methodOf Tryz.prog 63 "Next" = some 63 := by kernel_rfl
theorem meth_peek : methodOf Tryz.prog 63 "Peek" = some 64 := by kernel_rfl
theorem inv_next {lb : Nat} (hk : AC Tryz.prog 63 [.ptr (some ⟨lb, 0⟩)] h Q) : vInvoke Tryz.prog (AC Tryz.prog) (srcV lb) "Next" [] h Q := by
  unfold vInvoke; simp only [meth_next]; exact hk
theorem inv_peek {lb : Nat} (hk : AC Tryz.prog 64 [.ptr (some ⟨lb, 0⟩)] h Q) : vInvoke Tryz.prog (AC Tryz.prog) (srcV lb) "Peek" [] h Q := by
  unfold vInvoke; simp only [meth_peek]; exact hk

theorem inv_nextF {lb : Nat} (hk : AC Tryz.prog 63 [.ptr (some ⟨lb, 0⟩)] h Q) : vCallF Tryz.prog (AC Tryz.prog) (.func (.method "Next") [srcV lb] []) [] h Q := by
  simp only [vCallF, vInvoke, meth_next]; exact hk

attribute [local irreducible] vInvoke vCallF
/-- Lists of heads that were turned by the heap's own steps. -/
theorem MrgR.of_heap (M : MrgK h' ow p H') (P : H'.Perm H) (L : ∀ x ∈ H, LstR h ow x) (nd : (H.map (·.lb)).Nodup) (K : Keeps (hp ow) h h') : MrgR h' ow p H' := by
  refine ⟨M, fun x hx => (L x (P.mem_iff.1 hx)).keeps K (fun b hb hx => ?_), (P.map _).nodup_iff.2 nd⟩
  rcases hb with hb | hb <;> rcases hx with hx | hx <;> rw [hb] at hx <;> cases hx

set_option maxRecDepth 20000 in
/-- advance -/
theorem z26 (M : MrgR h ow p (x :: H)) (hO : HeapOK (x :: H) (x :: H).length 0)
    (hQ : ∀ h' H', MrgR h' ow p H' → HeapOK H' H'.length 0 → (allOf H').Perm (x.r ++ allOf H) → H'.length ≤ H.length + 1 → Keeps (dsk ow) h h' → h.length ≤ h'.length → Q (.tup []) h') : AC Tryz.prog 26 [.ptr (some ⟨p, 0⟩)] h Q := ac26 (by
  unfold vc26
  obtain ⟨qa, c1, c2, c3, c4⟩ := M.K.qa
  have cq : cellsAt h ⟨p, 0 + 0⟩ 1 = some [.sl qa] := by rw [cells6 c2 (by simp)]; rfl
  obtain ⟨hr, hcx⟩ := M.K.heads x (by simp)
  obtain ⟨lr, ⟨ql, l1, l2, l3⟩, srt⟩ := M.L x (by simp)
  refine ⟨qa, cq, ptr_idx c3 (i := 0) (x := x) rfl rfl fun pp hc _ => ⟨_, hc, ?_⟩⟩
  refine ⟨.func (.method "Next") [srcV x.lb] [], rfl, by rw [cells6 hcx (by simp)]; rfl, ?_⟩
  refine inv_nextF (z63 l1 l2 fun q6 H6 hq6 => ⟨_, rfl, ?_⟩)
  have hll := M.K.live x.lb (by simp [lr])
  have hpl := M.K.live p (by simp [M.K.pr])
  have hhl := M.K.live x.hb (by simp [hr])
  have hlp : x.lb ≠ p := fun e => by rw [e, M.K.pr] at lr; cases lr
  have hlh : x.lb ≠ x.hb := fun e => by rw [e, hr] at lr; cases lr
  have hhp : x.hb ≠ p := fun e => by rw [e, M.K.pr] at hr; cases hr
  generalize hh1 : h.set x.lb (.cells [.sl q6] true) = h1 at *
  have K1 : Keeps (fun b => b = x.lb) h h1 := by rw [← hh1]; exact keeps_set rfl
  have len1 : h1.length = h.length := by rw [← hh1]; simp
  have c2' := K1 p _ (fun e => hlp e.symm) c2
  refine store6v c2' (by simp) ?_
  have e2 : splice [AV.sl qa, .sl none, .int .i64 0] (0 + 2) [.int .i64 0] = [.sl qa, .sl none, .int .i64 0] := rfl
  rw [e2, set_same c2']
  have hcx1 := K1 x.hb _ (fun e => hlh e.symm) hcx
  refine ⟨srcV x.lb, rfl, by rw [cells6 hcx1 (by simp)]; rfl, ?_⟩
  have hb1 : h1[x.lb]? = some (.cells [.sl q6] true) := by rw [← hh1, List.getElem?_set_self hll]
  have hqn : ∀ s, q6 = some s → ow s.b = some .dat := fun s hs => by obtain ⟨s2, g1, g2⟩ := hq6 s hs; rw [g2]; exact l3 s2 g1
  have hqlb : ∀ s, q6 = some s → ¬ s.b = x.lb := fun s hs e => by have := hqn s hs; rw [e, lr] at this; cases this
  have H61 : HasL entE h1 q6 x.r := K1.hasL hqlb H6
  have M1 : MrgK h1 ow p (x :: H) := by
    obtain ⟨a1, a2, ⟨qa', a3, a4, a5⟩, a6, a7, a8⟩ := M.K
    refine ⟨fun b hb => by have := a1 b hb; omega, a2, ⟨qa', K1 _ _ (fun e => hlp e.symm) a3, a4.keeps K1 (fun s hs e => by have := a5 s hs; rw [e, lr] at this; cases this), a5⟩, fun u hu => ⟨(a6 u hu).1, K1 _ _ (fun e => ?_) (a6 u hu).2⟩, a7, a8⟩
    have := (a6 u hu).1
    rw [e, lr] at this; cases this
  have hlnd := M.lnd
  simp only [List.map_cons, List.nodup_cons, List.mem_map, not_exists, not_and] at hlnd
  have L1 : ∀ u ∈ H, LstR h1 ow u := by
    intro u hu
    obtain ⟨r', ⟨qu, u1, u2, u3⟩, us⟩ := M.L u (by simp [hu])
    refine ⟨r', ⟨qu, K1 _ _ (fun e => hlnd.1 u hu e) u1, K1.hasL (fun s hs e => ?_) u2, u3⟩, us⟩
    have := u3 s hs
    rw [e, lr] at this; cases this
  have kd1 : ∀ {h2 : Heap}, Keeps (hp ow) h1 h2 → Keeps (dsk ow) h h2 := by
    intro h2 K b B hb hB
    refine K b B (fun hx => hb ?_) (K1 b B (fun e => hb (by rw [e]; show ow x.lb ≠ none; rw [lr]; simp)) hB)
    show ow b ≠ none
    rcases hx with hx | hx <;> rw [hx] <;> simp
  have ob : ∀ {y : HD}, HeapOK (y :: H) (y :: H).length 1 := by
    intro y j c u v hj hk hc hu hv
    obtain ⟨j, rfl⟩ : ∃ k, j = k + 1 := ⟨j - 1, by omega⟩
    obtain ⟨c, rfl⟩ : ∃ k, c = k + 1 := ⟨c - 1, by unfold Kid at hk; omega⟩
    exact hO (j + 1) (c + 1) u v (by omega) hk hc (by simpa using hu) (by simpa using hv)
  refine inv_peek (z64 hb1 H61 (fun hn => ⟨_, _, _, _, _, rfl, ?_⟩) fun e r hr2 => ⟨_, _, _, _, _, rfl, ?_⟩)
  · refine vif_mk (fun _ => ?_) (fun g => by simp at g)
    refine z31 M1 ob fun v h24 H2 hv M2 K2 len2 P2 O2 => ⟨v, hv, rfl, ?_⟩
    refine hQ h24 H2 (MrgR.of_heap M2 P2 L1 hlnd.2 K2) O2 ?_ (by rw [P2.length_eq]; omega) (kd1 K2) (by omega)
    rw [hn]; exact allOf_perm P2
  · refine vif_mk (fun g => by simp at g) (fun _ => ?_)
    have hst : PStore h1 ⟨x.hb, 0 + 0⟩ [.int .i64 e.1, .int .i64 e.2.1, .int .i64 e.2.2.1, .int .i64 e.2.2.2] fun h27 => vPtr (some ⟨p, 0⟩) fun p28 => AC Tryz.prog 32 [.iface 68 (.ptr (some ⟨p28.b, p28.o + 0⟩)), .int .i64 0] h27 fun v29 h30 => v29 = .tup [] ∧ Q (.tup []) h30 := by
      refine store6 hcx1 (by simp) ?_
      have e3 : splice [AV.int .i64 x.e.1, .int .i64 x.e.2.1, .int .i64 x.e.2.2.1, .int .i64 x.e.2.2.2, srcV x.lb, .func (.method "Next") [srcV x.lb] []] 0 [.int .i64 e.1, .int .i64 e.2.1, .int .i64 e.2.2.1, .int .i64 e.2.2.2] = [.int .i64 e.1, .int .i64 e.2.1, .int .i64 e.2.2.1, .int .i64 e.2.2.2, srcV x.lb, .func (.method "Next") [srcV x.lb] []] := rfl
      rw [e3]
      generalize hh2 : h1.set x.hb (headB e x.lb) = h2
      have K2 : Keeps (fun b => b = x.hb) h1 h2 := by rw [← hh2]; exact keeps_set rfl
      have len2 : h2.length = h1.length := by rw [← hh2]; simp
      have hnd := M.K.nodup
      simp only [List.map_cons, List.nodup_cons, List.mem_map, not_exists, not_and] at hnd
      have M2 : MrgK h2 ow p (⟨x.hb, x.lb, e, r⟩ :: H) := by
        obtain ⟨a1, a2, ⟨qa', a3, a4, a5⟩, a6, a7, a8⟩ := M1
        refine ⟨fun b hb => by have := a1 b hb; omega, a2, ⟨qa', K2 _ _ (fun e => hhp e.symm) a3, a4.keeps K2 (fun s hs e => by have := a5 s hs; rw [e, hr] at this; cases this), a5⟩, fun u hu => ?_, a7, a8⟩
        rcases List.mem_cons.1 hu with rfl | hu
        · exact ⟨hr, by rw [← hh2, List.getElem?_set_self (by omega)]⟩
        · exact ⟨(a6 u (by simp [hu])).1, K2 _ _ (fun e => hnd.1 u hu e) (a6 u (by simp [hu])).2⟩
      have L2 : ∀ u ∈ (⟨x.hb, x.lb, e, r⟩ : HD) :: H, LstR h2 ow u := by
        intro u hu
        rcases List.mem_cons.1 hu with rfl | hu
        · refine ⟨lr, ⟨q6, K2 _ _ (fun e => hlh e) hb1, K2.hasL (fun s hs e => by have := hqn s hs; rw [e, hr] at this; cases this) (by rw [← hr2]; exact H61), hqn⟩, by rw [← hr2]; exact srt.of_cons⟩
        · exact (L1 u hu).keeps K2 (fun b hb e => by subst e; rcases hb with hb | hb <;> rw [hr] at hb <;> cases hb)
      show AC Tryz.prog 32 _ _ _
      refine z32 M2 ob fun h30 H3 M3 K3 len3 P3 O3 => ⟨rfl, ?_⟩
      refine hQ h30 H3 (MrgR.of_heap M3 P3 L2 (by simp only [List.map_cons, List.nodup_cons, List.mem_map, not_exists, not_and]; exact hlnd) K3) O3 ?_ (by rw [P3.length_eq]; simp) ?_ (by omega)
      · rw [hr2]
        have := allOf_perm P3
        rw [allOf_cons] at this
        exact this
      · intro b B hb hB
        have h2b := K2 b B (fun e => hb (by rw [e]; show ow x.hb ≠ none; rw [hr]; simp)) (K1 b B (fun e => hb (by rw [e]; show ow x.lb ≠ none; rw [lr]; simp)) hB)
        refine K3 b B (fun hx => hb ?_) h2b
        show ow b ≠ none
        rcases hx with hx | hx <;> rw [hx] <;> simp
    exact hst)
end
end Go.Proofs.YtceplmmmlindnaaGreat
