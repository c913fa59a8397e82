/- OperOnce: each once, of each once; both bags together. -/
import Derived.Test.YtfafgnmlnhklaaaAG16
import Derived.Test.YtfafgnmlnhklaaaAG17
import Derived.Test.YtfafgnmlnhklaaaAG22
namespace Go.Proofs.Ytfafgnmlnhklaaa
open Go.Ab
set_option linter.unusedVariables false
set_option linter.unusedSimpArgs false

theorem ddf_idem : ∀ {l : List Rec} {p : Rec}, ddf p (ddf p l) = ddf p l
  | [], p => rfl
  | x :: l, p => by
    by_cases h : x = p
    · have e : ddf p (x :: l) = ddf p l := by simp only [ddf, if_pos h]
      rw [e, ddf_idem]
    · have e : ddf p (x :: l) = x :: ddf x l := by simp only [ddf, if_neg h]
      rw [e]
      simp only [ddf, if_neg h]
      rw [ddf_idem]
theorem dd_idem {l : List Rec} : dd (dd l) = dd l := by
  cases l with
  | nil => rfl
  | cons x l => simp only [dd, ddf_idem]
theorem sortR_self {l : List Rec} (h : l.Pairwise fun a b => leR a b = true) : sortR l = l := sortR_eq h (.refl l)
theorem dd_sorted {l : List Rec} : (dd (sortR l)).Pairwise fun a b => leR a b = true := (sortR_sorted l).sublist dd_sub

section
variable {h : Heap} {Q : AV → Heap → Prop} {q q' : Option SL} {l l' : List Rec}
theorem inGG1 (H : HasL recE h q l) : InGG (fun b => b < (h ++ [Blk.cells [.sl q] true]).length) (h ++ [Blk.cells [.sl q] true]) (some ⟨h.length, 0, 1, 1, 0⟩) [l] := by
  refine ⟨[q], HasL.new (n := 1) rfl rfl, rfl, fun s hs => by cases hs; simp, fun i s g hs hg => ?_⟩
  match i with
  | 0 => cases hs; cases hg; exact ⟨H.mono (Ext.app _ _), fun u hu => by have := H.live u hu; simp; omega⟩
  | i + 1 => simp at hs
theorem inGG2 (H : HasL recE h q l) (H' : HasL recE h q' l') : InGG (fun b => b < (h ++ [Blk.cells [.sl q, .sl q'] true]).length) (h ++ [Blk.cells [.sl q, .sl q'] true]) (some ⟨h.length, 0, 2, 2, 0⟩) [l, l'] := by
  refine ⟨[q, q'], HasL.new (n := 2) rfl rfl, rfl, fun s hs => by cases hs; simp, fun i s g hs hg => ?_⟩
  match i with
  | 0 => cases hs; cases hg; exact ⟨H.mono (Ext.app _ _), fun u hu => by have := H.live u hu; simp; omega⟩
  | 1 => cases hs; cases hg; exact ⟨H'.mono (Ext.app _ _), fun u hu => by have := H'.live u hu; simp; omega⟩
  | i + 2 => simp at hs

theorem once_E {l : List Rec} (h : mayC l = 0) : applyE 7 1 0 0 0 0 [l] = 0 := by
  have hl := (mayC0 h).2
  have hd := dd_len (l := sortR l)
  rw [sortR_len] at hd
  unfold applyE
  rw [if_neg (by simp; decide), if_neg (by simp [insE, h]), if_neg]
  have e : madeV 7 0 0 [l] = dd (sortR l) := rfl
  rw [e]; omega
theorem both_E {l m : List Rec} (h : mayC l = 0) (h' : mayC m = 0) (hl : l.length ≤ 2000) (hm : m.length ≤ 2000) : applyE 8 2 0 0 0 0 [l, m] = 0 := by
  unfold applyE
  rw [if_neg (by simp; decide), if_neg (by simp [insE, h, h']), if_neg]
  have e : madeV 8 0 0 [l, m] = l ++ m := rfl
  rw [e, List.length_append]; omega

/-- Each once. -/
theorem once (H : HasL recE h q l) (hm : mayC l = 0) {b : Nat} {o : Nat} (hQ : ∀ q' h', NewJ recE h h' q' (dd (sortR l)) → Q (.tup [.sl q', .int .i64 0]) h') :
    PNew [.sl q] true h fun a h1 => AC Try.prog 21 [.agg [.int .i64 7, .sl (some ⟨b, 0, 1, 1, 0⟩), .int .i64 0, .int .i64 0, .int .i64 0, .sl none], .sl (some ⟨a, 0, 1, 1, 0⟩)] h1 Q := by
  refine pnew_mk ?_
  have hl := (mayC0 hm).2
  refine c21 (inGG1 H) (fun b hb => hb) (by simp) (by simp; omega) (fun hn => absurd (once_E hm) hn) fun _ q' h' N => ?_
  have e : sortR (madeV 7 0 0 [l]) = dd (sortR l) := sortR_self dd_sorted
  rw [e] at N
  exact hQ q' h' (N.back (Ext.app _ _))
/-- Both. -/
theorem both (H : HasL recE h q l) (H' : HasL recE h q' l') (hm : mayC l = 0) (hm' : mayC l' = 0) (hl : l.length ≤ 2000) (hl' : l'.length ≤ 2000) {b : Nat} (hQ : ∀ q' h', NewJ recE h h' q' (sortR (l ++ l')) → Q (.tup [.sl q', .int .i64 0]) h') :
    PNew [.sl q, .sl q'] true h fun a h1 => AC Try.prog 21 [.agg [.int .i64 8, .sl (some ⟨b, 0, 2, 2, 0⟩), .int .i64 0, .int .i64 0, .int .i64 0, .sl none], .sl (some ⟨a, 0, 2, 2, 0⟩)] h1 Q := by
  refine pnew_mk ?_
  exact c21 (inGG2 H H') (fun b hb => hb) (by simp) (by simp; omega) (fun hn => absurd (both_E hm hm' hl hl') hn) fun _ q' h' N => hQ q' h' (N.back (Ext.app _ _))

set_option maxRecDepth 20000 in
/-- OperOnce -/
theorem s8 (H : HasL recE h q l) (H' : HasL recE h q' l') (hQ : ∀ h', Q (.bool true) h') : AC Try.prog 8 [.sl q, .sl q'] h Q := ac8 (by
  unfold vc8
  rw [H.len, H'.len]
  refine vif_mk (fun _ => s14 ⟨_, rfl, hQ _⟩) (fun g1 => vif_mk (fun _ => s14 ⟨_, rfl, hQ _⟩) (fun g2 => ?_))
  have g1 := of_decide_eq_false g1
  have g2 := of_decide_eq_false g2
  refine o25 H (by omega) ⟨_, rfl, vif_mk (fun _ => s14 ⟨_, rfl, hQ _⟩) (fun g3 => ?_)⟩
  refine o25 H' (by omega) ⟨_, rfl, vif_mk (fun _ => s14 ⟨_, rfl, hQ _⟩) (fun g4 => ?_)⟩
  have m1 : mayC l = 0 := by simpa using g3
  have m2 : mayC l' = 0 := by simpa using g4
  refine pnew_mk (pnew_mk ?_)
  have x24 := (Ext.app h [Blk.cells [.int .i64 0] true]).trans (Ext.app (h ++ [Blk.cells [.int .i64 0] true]) [Blk.cells [.int .i64 0, .int .i64 1] true])
  generalize h ++ [Blk.cells [.int .i64 0] true] ++ [Blk.cells [.int .i64 0, .int .i64 1] true] = h24 at *
  have H24 := H.mono x24
  have H24' := H'.mono x24
  refine once (o := 0) H24 m1 fun q29 h28 N28 => ⟨q29, 0, rfl, ?_⟩
  have md : mayC (dd (sortR l)) = 0 := by
    have h1 := all_sub dd_sub (m := sortR l) (by rw [all_perm (sortR_perm l)]; exact (mayC0 m1).1)
    have h2 := dd_len (l := sortR l)
    rw [sortR_len] at h2
    unfold mayC
    rw [if_pos h1, if_neg (by omega)]
  refine once (o := 0) N28.hasL md fun q35 h34 N34 => ⟨q35, 0, rfl, ?_⟩
  have e1 : dd (sortR (dd (sortR l))) = dd (sortR l) := by rw [sortR_self dd_sorted, dd_idem]
  rw [e1] at N34
  have x34 := N28.1.trans N34.1
  refine both (H24.mono x34) (H24'.mono x34) m1 m2 (by omega) (by omega) fun q41 h40 N40 => ⟨q41, 0, rfl, ?_⟩
  have x40 := x34.trans N40.1
  refine both (H24'.mono x40) (H24.mono x40) m2 m1 (by omega) (by omega) fun q47 h46 N46 => ⟨q47, 0, rfl, s14 ⟨true, rfl, ?_⟩⟩
  have e2 : sortR (l' ++ l) = sortR (l ++ l') := sortR_perm_eq List.perm_append_comm
  rw [e2] at N46
  have hd := dd_len (l := sortR l)
  rw [sortR_len] at hd
  refine vif_mk (fun _ => ?_) (fun g => by simp at g)
  refine vif_mk (fun _ => ?_) (fun g => by simp at g)
  refine vif_mk (fun _ => ?_) (fun g => by simp at g)
  refine o13 (N28.hasL.mono (N34.1.trans (N40.1.trans N46.1))) (N34.hasL.mono (N40.1.trans N46.1)) (by omega) ⟨_, rfl, vif_mk (fun _ => ?_) (fun g => by simp at g)⟩
  refine vif_mk (fun _ => ?_) (fun g => by simp at g)
  refine vif_mk (fun _ => ?_) (fun g => by simp at g)
  refine o13 (N40.hasL.mono N46.1) N46.hasL (by rw [sortR_len, List.length_append]; omega) ⟨_, rfl, vif_mk (fun _ => ?_) (fun g => by simp at g)⟩
  rw [N40.hasL.len, sortR_len, List.length_append, wrapK_i64 ⟨by omega, by omega⟩]
  have e3 : (((l.length + l'.length : Nat) : Int) == ((l.length : Nat) : Int) + (l'.length : Nat)) = true := by simp
  rw [e3]
  exact hQ _)
end
end Go.Proofs.Ytfafgnmlnhklaaa

/- OperOrder: what comes of it does not hang on the order of records. -/
namespace Go.Proofs.Ytfafgnmlnhklaaa
open Go.Ab
set_option linter.unusedVariables false
set_option linter.unusedSimpArgs false

/-- Lists of bags that are alike, but for the order in each. -/
def PermLs : List (List Rec) → List (List Rec) → Prop
  | [], [] => True
  | a :: xs, b :: ys => a.Perm b ∧ PermLs xs ys
  | _, _ => False
theorem PermLs.len : ∀ {a b : List (List Rec)}, PermLs a b → a.length = b.length
  | [], [], _ => rfl
  | _ :: _, _ :: _, h => by simp [PermLs.len h.2]
  | [], _ :: _, h => h.elim
  | _ :: _, [], h => h.elim
theorem PermLs.insE : ∀ {a b : List (List Rec)}, PermLs a b → Ytfafgnmlnhklaaa.insE a = Ytfafgnmlnhklaaa.insE b
  | [], [], _ => rfl
  | x :: xs, y :: ys, h => by
    simp only [Ytfafgnmlnhklaaa.insE]
    rw [mayC_perm h.1, PermLs.insE h.2]
  | [], _ :: _, h => h.elim
  | _ :: _, [], h => h.elim
theorem PermLs.getD : ∀ {a b : List (List Rec)} {i : Nat}, PermLs a b → (a.getD i []).Perm (b.getD i [])
  | [], [], _, _ => .refl _
  | x :: xs, y :: ys, 0, h => h.1
  | x :: xs, y :: ys, i + 1, h => by simpa using PermLs.getD (i := i) h.2
  | [], _ :: _, _, h => h.elim
  | _ :: _, [], _, h => h.elim
theorem PermLs.snoc : ∀ {a b : List (List Rec)} {x y : List Rec}, PermLs a b → x.Perm y → PermLs (a ++ [x]) (b ++ [y])
  | [], [], _, _, _, hp => ⟨hp, trivial⟩
  | _ :: _, _ :: _, _, _, h, hp => ⟨h.1, PermLs.snoc h.2 hp⟩
  | [], _ :: _, _, _, h, _ => h.elim
  | _ :: _, [], _, _, h, _ => h.elim
theorem flatMap_perm {f g : Rec → List Rec} : ∀ {l : List Rec}, (∀ x, (f x).Perm (g x)) → (l.flatMap f).Perm (l.flatMap g)
  | [], _ => .refl _
  | x :: l, h => by
    simp only [List.flatMap_cons]
    exact (h x).append (flatMap_perm h)
theorem pairAll_perm {k : Int} {a a' b b' : List Rec} (ha : a.Perm a') (hb : b.Perm b') : (pairAll k a b).Perm (pairAll k a' b') := by
  unfold pairAll
  refine (List.Perm.flatMap_right _ ha).trans ?_
  exact flatMap_perm fun x => (hb.filter _).map _
theorem made_perm {op k a : Int} {ins ins' : List (List Rec)} (h : PermLs ins ins') : (madeV op k a ins).Perm (madeV op k a ins') := by
  have g := fun i => h.getD (i := i)
  unfold madeV
  split
  · rw [sortR_perm_eq (g 0)]
  split
  · exact pairAll_perm (g 0) (g 1)
  split
  · rw [sortR_perm_eq (g 0)]
  split
  · exact (g 0).append (g 1)
  · exact List.Perm.flatMap_right _ (g 0)
theorem apply_perm {op k a A : Int} {nIn nB : Nat} {ins ins' : List (List Rec)} (h : PermLs ins ins') : applyE op nIn k a A nB ins = applyE op nIn k a A nB ins' := by
  unfold applyE
  rw [h.len, h.insE, (made_perm h).length_eq]

section
variable {F : Nat → Prop} {h h' : Heap} {Q : AV → Heap → Prop} {q : Option SL} {ins : List (List Rec)}
/-- large -/
theorem c20 (G : InGG F h q ins) (hQ : ∀ b, (b = false → ins.length ≤ 10 ∧ ∀ l ∈ ins, l.length ≤ 5000) → Q (.bool b) h) : AC Try.prog 20 [.sl q] h Q := ac20 (by
  unfold vc20
  rw [G.len]
  refine vif_mk (fun g => hQ true (by simp)) (fun g => ?_)
  have g := of_decide_eq_false g
  refine ⟨fun xs h5 => h5 = h ∧ ∃ i : Nat, xs = [.int .i64 i] ∧ i ≤ ins.length ∧ ∀ l ∈ ins.take i, l.length ≤ 5000, fun xs _ => match xs with | [.int _ i] => (ins.length - i).toNat | _ => 0, ⟨rfl, 0, rfl, by omega, by simp⟩, ?_⟩
  rintro n2 h5 ⟨rfl, i, hx, hi, hl⟩
  simp only [List.cons.injEq, AV.int.injEq, true_and, and_true] at hx
  subst hx
  refine vif_mk (fun g1 => ?_) (fun g1 => ?_)
  · replace g1 := of_decide_eq_true g1
    refine G.idx (i := i) (by omega) rfl fun pp s l hl2 hc Hl f => ⟨s, hc, ?_⟩
    rw [Hl.len]
    refine vif_mk (fun g2 => hQ true (by simp)) (fun g2 => ?_)
    have g2 := of_decide_eq_false g2
    rw [wrapK_i64 ⟨by omega, by omega⟩]
    refine ⟨trivial, ⟨rfl, i + 1, by simp, by omega, fun x hx => ?_⟩, by simp only; omega⟩
    rw [List.take_add_one, hl2] at hx
    rcases List.mem_append.1 hx with hx | hx
    · exact hl x hx
    · simp only [Option.toList_some, List.mem_singleton] at hx; rw [hx]; omega
  · replace g1 := of_decide_eq_false g1
    have e : ins.take i = ins := List.take_of_length_le (by omega)
    rw [e] at hl
    exact hQ false fun _ => ⟨by omega, hl⟩)

/-- What is made so far, of slices that are made: each in a block of its own. -/
def Made (n0 : Nat) (h : Heap) (q : Option SL) (ls : List (List Rec)) : Prop :=
  ∃ qs : List (Option SL), Apd slE h q qs ∧ qs.length = ls.length ∧ (∀ s, q = some s → n0 ≤ s.b) ∧ ∀ (i : Nat) (s : Option SL) (g : List Rec), qs[i]? = some s → ls[i]? = some g → HasL recE h s g ∧ ∀ u t, s = some u → q = some t → t.b ≠ u.b
theorem Made.nil {n0 : Nat} : Made n0 h none [] := ⟨[], .inl ⟨rfl, rfl⟩, rfl, (fun s hs => by cases hs), by simp⟩
theorem Made.inGG {n0 : Nat} (M : Made n0 h q ins) : InGG (fun b => b < h.length) h q ins := by
  obtain ⟨qs, A, hl, hn, he⟩ := M
  exact ⟨qs, A.hasL, hl, fun s hs => A.hasL.live s hs, fun i s g hs hg => ⟨(he i s g hs hg).1, fun u hu => (he i s g hs hg).1.live u hu⟩⟩
theorem Made.live {n0 : Nat} (M : Made n0 h q ins) : ∀ t, q = some t → t.b < h.length := by
  obtain ⟨qs, A, _⟩ := M
  exact A.hasL.live
/-- One more. -/
theorem Made.put {n0 : Nat} {h1 : Heap} {q2 : Option SL} {l : List Rec} {K : Option SL → Heap → Prop} (M : Made n0 h q ins) (hn0 : n0 ≤ h.length) (x : Ext h h1) (H : HasL recE h1 q2 l) (hq2 : ∀ u t, q2 = some u → q = some t → t.b ≠ u.b) (hl : ins.length ≤ 1000000)
    (hK : ∀ q' h', Made n0 h' q' (ins ++ [l]) → (∀ b B, b < n0 → h1[b]? = some B → h'[b]? = some B) → h1.length ≤ h'.length → K q' h') :
    PNew [.sl q2] true h1 fun a h2 => PAppendS 1 24 q (some ⟨a, 0, 1, 1, 0⟩) h2 K := by
  refine pnew_mk ?_
  obtain ⟨qs, A, hlq, hn, he⟩ := M
  have x2 := Ext.app h1 [Blk.cells [.sl q2] true]
  have Hn : HasL slE (h1 ++ [Blk.cells [.sl q2] true]) (some ⟨h1.length, 0, 1, 1, 0⟩) [q2] := HasL.new (n := 1) rfl rfl
  have l2 : (h1 ++ [Blk.cells [AV.sl q2] true]).length = h1.length + 1 := by simp
  generalize h1 ++ [Blk.cells [.sl q2] true] = h2 at *
  have xx := x.trans x2
  have lx := x.len
  refine Apd.append (E := slE) (A.ext xx) Hn (by simp; omega) fun q' h3 A3 K3 l3 hq' => ?_
  have live := A.hasL.live
  refine hK q' h3 ⟨qs ++ [q2], A3, by simp [hlq], fun s hs => ?_, fun i s g hs hg => ?_⟩ (fun b B hb hB => K3 b B (fun ⟨s, a1, a2⟩ => by have := hn s a1; omega) (x2 _ _ hB)) (by omega)
  · rcases hq' s hs with a | ⟨t, a1, a2⟩
    · omega
    · have := hn t a1; omega
  · rw [List.getElem?_append] at hs hg
    split at hs
    · rename_i hi
      rw [if_pos (by omega)] at hg
      obtain ⟨r1, r2⟩ := he i s g hs hg
      refine ⟨K3.hasL (fun u hu ⟨t, a1, a2⟩ => r2 u t hu a1 a2) (r1.mono xx), fun u t hu ht => ?_⟩
      have := r1.live u hu
      rcases hq' t ht with a | ⟨t2, a1, a2⟩
      · omega
      · rw [← a2]; exact r2 u t2 hu a1
    · rename_i hi
      rw [if_neg (by omega)] at hg
      have i0 : i - qs.length = 0 := by have := lt_of_get hs; simp at this; omega
      have i1 : i - ins.length = 0 := by omega
      rw [i0] at hs
      rw [i1] at hg
      simp at hs hg
      subst hs hg
      refine ⟨K3.hasL (fun u hu ⟨t, a1, a2⟩ => hq2 u t hu a1 a2) (H.mono x2), fun u t hu ht => ?_⟩
      have := H.live u hu
      rcases hq' t ht with a | ⟨t2, a1, a2⟩
      · omega
      · rw [← a2]; exact hq2 u t2 hu a1

set_option maxRecDepth 20000 in
/-- OperOrder -/
theorem s7 {op k a A : Int} {q2 q6 : Option SL} (G : InGG (fun b => b < h.length) h q ins) (hQ : ∀ h', Q (.bool true) h') : AC Try.prog 7 [.agg [.int .i64 op, .sl q2, .int .i64 k, .int .i64 a, .int .i64 A, .sl q6], .sl q] h Q := ac7 (by
  unfold vc7
  refine c20 G fun b hb => ⟨b, rfl, vif_mk (fun _ => s14 ⟨_, rfl, hQ _⟩) (fun g => ?_)⟩
  obtain ⟨hl10, hl5⟩ := hb g
  refine ⟨fun xs h18 => ∃ (q14 : Option SL) (i : Nat) (ss : List (List Rec)), xs = [.sl q14, .int .i64 i] ∧ i ≤ ins.length ∧ Ext h h18 ∧ Made h.length h18 q14 ss ∧ PermLs (ins.take i) ss ∧ (∀ l ∈ ss, l.length ≤ 5000), fun xs _ => match xs with | [_, .int _ i] => (ins.length - i).toNat | _ => 0, ⟨none, 0, [], rfl, by omega, .refl _, .nil, (by rw [List.take_zero]; trivial), by simp⟩, ?_⟩
  rintro q14 n15 h18 ⟨q14', i, ss, hx, hi, x18, M18, P18, b18⟩
  simp only [List.cons.injEq, AV.int.injEq, AV.sl.injEq, true_and, and_true] at hx
  obtain ⟨rfl, rfl⟩ := hx
  have hss := P18.len
  rw [List.length_take] at hss
  rw [G.len]
  refine vif_mk (fun g1 => ?_) (fun g1 => ?_)
  · replace g1 := of_decide_eq_true g1
    refine (G.mono x18).idx (i := i) (by omega) rfl fun pp s l hl hc Hl f => ⟨s, hc, ?_⟩
    have hll := hl5 l (List.mem_of_getElem? hl)
    refine o24 l.length (Nat.le_refl _) Hl (by omega) fun h22 q23 l' x22 H23 f23 P23 _ => ⟨q23, rfl, ?_⟩
    refine Made.put M18 x18.len x22 H23 (fun u t hu ht => ?_) (by omega) fun q26 h27 M27 K27 l27 => ?_
    · have := f23 u hu
      have := M18.live t ht
      omega
    · rw [wrapK_i64 ⟨by omega, by omega⟩]
      refine ⟨⟨rfl, trivial⟩, ⟨q26, i + 1, ss ++ [l'], by simp, by omega, fun b B hB => K27 b B (lt_of_get hB) (x22 _ _ (x18 _ _ hB)), M27, ?_, fun x hx => ?_⟩, by simp only; omega⟩
      · rw [List.take_add_one, hl]; exact P18.snoc P23.symm
      · rcases List.mem_append.1 hx with hx | hx
        · exact b18 x hx
        · simp only [List.mem_singleton] at hx; rw [hx, P23.length_eq]; exact hll
  · replace g1 := of_decide_eq_false g1
    have e : ins.take i = ins := List.take_of_length_le (by omega)
    rw [e] at P18
    have hE := apply_perm (op := op) (k := k) (a := a) (A := A) (nIn := slLen q2) (nB := slLen q6) P18
    have hS : sortR (madeV op k a ins) = sortR (madeV op k a ss) := sortR_perm_eq (made_perm P18)
    have M18' := M18.inGG
    by_cases h0 : applyE op (slLen q2) k a A (slLen q6) ins = 0
    · refine c21 (G.mono x18) (fun b hb => by have := x18.len; omega) (by omega) (fun l hl => by have := hl5 l hl; omega) (fun hn => absurd h0 hn) fun _ q30 h29 N29 => ⟨q30, 0, rfl, ?_⟩
      refine c21 (M18'.mono N29.1) (fun b hb => by have := N29.1.len; omega) (by omega) (fun l hl => by have := b18 l hl; omega) (fun hn => absurd (by rw [← hE]; exact h0) hn) fun _ q34 h33 N33 => ⟨q34, 0, rfl, s14 ⟨true, rfl, ?_⟩⟩
      refine vif_mk (fun _ => ?_) (fun g => by simp at g)
      refine vif_mk (fun _ => ?_) (fun g => by simp at g)
      have hml : (sortR (madeV op k a ins)).length ≤ 4611686018427387904 := by
        rw [sortR_len]
        unfold applyE at h0
        split at h0
        · cases h0
        split at h0
        · rename_i g; exact absurd h0 g
        split at h0
        · cases h0
        · omega
      refine o13 (N29.hasL.mono N33.1) N33.hasL hml ⟨_, rfl, ?_⟩
      rw [decide_eq_true hS]; exact hQ _
    · refine c21 (G.mono x18) (fun b hb => by have := x18.len; omega) (by omega) (fun l hl => by have := hl5 l hl; omega) (fun _ h29 x29 => ⟨none, _, rfl, ?_⟩) (fun hn => absurd hn h0)
      refine c21 (M18'.mono x29) (fun b hb => by have := x29.len; omega) (by omega) (fun l hl => by have := b18 l hl; omega) (fun _ h33 x33 => ⟨none, _, rfl, s14 ⟨true, rfl, ?_⟩⟩) (fun hn => absurd (by rw [hE]; exact hn) h0)
      refine vif_mk (fun _ => ?_) (fun g => by simp at g)
      refine vif_mk (fun _ => ?_) (fun g => by rw [hE] at g; simp at g)
      refine o13 (l := []) (m := []) rfl rfl (by simp) ⟨_, rfl, ?_⟩
      exact hQ _)
end
end Go.Proofs.Ytfafgnmlnhklaaa

/- Bags that are cut anywhere: the plain law. -/
namespace Go.Proofs.Ytfafgnmlnhklaaa
open Go.Ab
set_option linter.unusedVariables false
set_option linter.unusedSimpArgs false

/-- Each bag is one piece, and another behind it. -/
def CutLs : List (List Rec) → List (List Rec) → List (List Rec) → Prop
  | [], [], [] => True
  | l :: ls, x :: xs, y :: ys => l = x ++ y ∧ CutLs ls xs ys
  | _, _, _ => False
theorem CutLs.len : ∀ {l a b : List (List Rec)}, CutLs l a b → l.length = a.length ∧ l.length = b.length
  | [], [], [], _ => ⟨rfl, rfl⟩
  | _ :: _, _ :: _, _ :: _, h => by
    have := CutLs.len h.2
    simp [this.1, this.2.symm]
  | [], _ :: _, _, h => h.elim
  | [], [], _ :: _, h => h.elim
  | _ :: _, [], _, h => h.elim
  | _ :: _, _ :: _, [], h => h.elim
theorem CutLs.getD : ∀ {l a b : List (List Rec)} {i : Nat}, CutLs l a b → l.getD i [] = a.getD i [] ++ b.getD i []
  | [], [], [], _, _ => rfl
  | _ :: _, _ :: _, _ :: _, 0, h => h.1
  | _ :: _, _ :: _, _ :: _, i + 1, h => by simpa using CutLs.getD (i := i) h.2
  | [], _ :: _, _, _, h => h.elim
  | [], [], _ :: _, _, h => h.elim
  | _ :: _, [], _, _, h => h.elim
  | _ :: _, _ :: _, [], _, h => h.elim
theorem CutLs.snoc : ∀ {l a b : List (List Rec)} {x y : List Rec}, CutLs l a b → CutLs (l ++ [x ++ y]) (a ++ [x]) (b ++ [y])
  | [], [], [], _, _, _ => ⟨rfl, trivial⟩
  | _ :: _, _ :: _, _ :: _, _, _, h => ⟨h.1, CutLs.snoc h.2⟩
  | [], _ :: _, _, _, _, h => h.elim
  | [], [], _ :: _, _, _, h => h.elim
  | _ :: _, [], _, _, _, h => h.elim
  | _ :: _, _ :: _, [], _, _, h => h.elim
theorem mayC_cut {x y : List Rec} (h : mayC (x ++ y) = 0) : mayC x = 0 ∧ mayC y = 0 := by
  obtain ⟨h1, h2⟩ := mayC0 h
  rw [List.all_append, Bool.and_eq_true] at h1
  rw [List.length_append] at h2
  unfold mayC
  rw [if_pos h1.1, if_pos h1.2, if_neg (by omega), if_neg (by omega)]
  exact ⟨rfl, rfl⟩
theorem insE_mk : ∀ {ls : List (List Rec)}, (∀ l ∈ ls, mayC l = 0) → insE ls = 0
  | [], _ => rfl
  | x :: ls, h => by
    unfold insE
    rw [if_neg (by rw [h x (by simp)]; simp)]
    exact insE_mk fun l hl => h l (by simp [hl])
theorem CutLs.ins : ∀ {l a b : List (List Rec)}, CutLs l a b → insE l = 0 → insE a = 0 ∧ insE b = 0
  | [], [], [], _, _ => ⟨rfl, rfl⟩
  | l :: ls, x :: xs, y :: ys, h, hi => by
    have h0 := insE0 hi
    have hl := h0 l (by simp)
    rw [h.1] at hl
    have hc := mayC_cut hl
    have := CutLs.ins h.2 (insE_mk fun z hz => h0 z (by simp [hz]))
    unfold insE
    rw [hc.1, hc.2]
    simpa using this
  | [], _ :: _, _, h, _ => h.elim
  | [], [], _ :: _, h, _ => h.elim
  | _ :: _, [], _, h, _ => h.elim
  | _ :: _, _ :: _, [], h, _ => h.elim
theorem made_cut {op k a : Int} (h5 : op ≠ 5) (h6 : op ≠ 6) (h7 : op ≠ 7) {l x y : List (List Rec)} (h : CutLs l x y) : (madeV op k a x ++ madeV op k a y).Perm (madeV op k a l) := by
  have g := fun i => h.getD (i := i)
  unfold madeV
  simp only [if_neg h5, if_neg h6, if_neg h7]
  split
  · rw [g 0, g 1]
    simp only [List.append_assoc]
    refine List.Perm.append_left _ ?_
    simp only [← List.append_assoc]
    exact List.Perm.append_right _ List.perm_append_comm
  · rw [g 0, List.flatMap_append]
theorem apply_cut {op k a A : Int} {nIn nB : Nat} (h5 : op ≠ 5) (h6 : op ≠ 6) (h7 : op ≠ 7) {l x y : List (List Rec)} (h : CutLs l x y) (he : applyE op nIn k a A nB l = 0) : applyE op nIn k a A nB x = 0 ∧ applyE op nIn k a A nB y = 0 ∧ (madeV op k a l).length ≤ 4096 := by
  have hp := (made_cut (k := k) (a := a) h5 h6 h7 h).length_eq
  rw [List.length_append] at hp
  have hl := h.len
  unfold applyE at he ⊢
  split at he
  · cases he
  rename_i g1
  split at he
  · rename_i g; exact absurd he g
  rename_i g2
  have hi := h.ins (Classical.not_not.1 g2)
  split at he
  · cases he
  rename_i g3
  rw [← hl.1, ← hl.2, hi.1, hi.2, if_neg g1, if_neg (by simp), if_neg (by omega), if_neg g1, if_neg (by simp), if_neg (by omega)]
  exact ⟨rfl, rfl, by omega⟩
end Go.Proofs.Ytfafgnmlnhklaaa

/- Bags that are parted by keys: the plain law. -/
namespace Go.Proofs.Ytfafgnmlnhklaaa
open Go.Ab
set_option linter.unusedVariables false
set_option linter.unusedSimpArgs false

section
variable {α : Type}
theorem flatMap_nilL {β : Type} : ∀ {l : List α}, l.flatMap (fun _ => ([] : List β)) = []
  | [] => rfl
  | _ :: l => by rw [List.flatMap_cons, flatMap_nilL]; rfl
theorem flatMap_app_perm {β : Type} {f g : α → List β} : ∀ {l : List α}, (l.flatMap fun x => f x ++ g x).Perm (l.flatMap f ++ l.flatMap g)
  | [] => .refl _
  | x :: l => by
    simp only [List.flatMap_cons, List.append_assoc]
    refine List.Perm.append_left _ ?_
    refine (List.Perm.append_left _ flatMap_app_perm).trans ?_
    rw [← List.append_assoc, ← List.append_assoc]
    exact List.Perm.append_right _ List.perm_append_comm
theorem flatMap_single {x : α} {s : Nat} : ∀ {n : Nat}, ((List.range n).flatMap fun t => if t = s then [x] else []) = if s < n then [x] else []
  | 0 => by simp
  | n + 1 => by
    rw [List.range_succ, List.flatMap_append, flatMap_single]
    simp only [List.flatMap_cons, List.flatMap_nil, List.append_nil]
    by_cases h : s < n
    · have h1 : ¬ n = s := by omega
      have h2 : s < n + 1 := by omega
      simp [h, h1, h2]
    · by_cases e : n = s
      · subst e; simp
      · have h2 : ¬ s < n + 1 := by omega
        simp [h, e, h2]
/-- Each is in one part. -/
theorem part_perm {c : α → Nat → Bool} {n : Nat} : ∀ {G : List α}, (∀ x ∈ G, ∃ s, s < n ∧ ∀ t, t < n → c x t = decide (t = s)) → ((List.range n).flatMap fun s => G.filter fun x => c x s).Perm G
  | [], _ => by simp only [List.filter_nil]; rw [flatMap_nilL]
  | x :: G, h => by
    obtain ⟨s, hs, hc⟩ := h x (by simp)
    have e : ((List.range n).flatMap fun s => (x :: G).filter fun x => c x s) = (List.range n).flatMap fun t => (if t = s then [x] else []) ++ G.filter fun x => c x t := by
      unfold List.flatMap
      congr 1
      refine List.map_congr_left fun t ht => ?_
      have ht := List.mem_range.1 ht
      rw [List.filter_cons, hc t ht]
      by_cases e : t = s
      · simp [e]
      · simp [e]
    rw [e]
    refine flatMap_app_perm.trans ?_
    rw [flatMap_single, if_pos hs]
    exact List.Perm.append_left [x] (part_perm fun y hy => h y (by simp [hy]))
end

/-- Is a key of that rest? -/
def inP (n s : Int) (k : Int) : Bool := Int.tmod k n == s
def partB (n s : Int) (l : List Rec) : List Rec := l.filter fun r => inP n s r.1
theorem inP_one {n : Nat} {k : Int} (hn : 1 ≤ n) (hk : 0 ≤ k) : ∃ s, s < n ∧ ∀ t : Nat, t < n → inP n t k = decide (t = s) := by
  have h1 := Int.tmod_nonneg (a := k) (b := (n : Int)) hk
  have h2 := Int.tmod_lt_of_pos k (show (0 : Int) < n by omega)
  refine ⟨(Int.tmod k n).toNat, by omega, fun t ht => ?_⟩
  unfold inP
  rw [Bool.eq_iff_iff]
  simp only [beq_iff_eq, decide_eq_true_eq]
  omega

theorem filter_ok {l : List Rec} {P : Rec → Bool} (h : l.all okR = true) : (l.filter P).all okR = true := by
  rw [List.all_eq_true] at *
  exact fun x hx => h x (List.mem_filter.1 hx).1
theorem mayC_part {n s : Int} {l : List Rec} (h : mayC l = 0) : mayC (partB n s l) = 0 := by
  obtain ⟨h1, h2⟩ := mayC0 h
  have := List.length_filter_le (fun r : Rec => inP n s r.1) l
  unfold mayC partB
  rw [if_pos (filter_ok h1), if_neg (by omega)]
theorem insE_part {n s : Int} {ins : List (List Rec)} (h : insE ins = 0) : insE (ins.map (partB n s)) = 0 := by
  refine insE_mk fun l hl => ?_
  obtain ⟨m, hm, rfl⟩ := List.mem_map.1 hl
  exact mayC_part (insE0 h m hm)
theorem part_getD {n s : Int} {ins : List (List Rec)} {i : Nat} : (ins.map (partB n s)).getD i [] = partB n s (ins.getD i []) := by
  rw [List.getD_eq_getElem?_getD, List.getD_eq_getElem?_getD, List.getElem?_map]
  cases ins[i]? <;> rfl
theorem sortR_filter {l : List Rec} {P : Rec → Bool} : sortR (l.filter P) = (sortR l).filter P :=
  sortR_eq ((sortR_sorted l).sublist List.filter_sublist) ((sortR_perm l).filter P)

theorem ddf_mem {x : Rec} : ∀ {l : List Rec} {p : Rec}, x ∈ ddf p l ∨ x = p ↔ x ∈ l ∨ x = p
  | [], p => Iff.rfl
  | y :: l, p => by
    unfold ddf
    by_cases h : y = p
    · rw [if_pos h, ddf_mem, List.mem_cons, h]
      constructor
      · rintro (a | a)
        · exact .inl (.inr a)
        · exact .inr a
      · rintro ((a | a) | a)
        · exact .inr a
        · exact .inl a
        · exact .inr a
    · rw [if_neg h, List.mem_cons, List.mem_cons]
      have := ddf_mem (x := x) (l := l) (p := y)
      constructor
      · rintro ((a | a) | a)
        · exact .inl (.inl a)
        · rcases this.1 (.inl a) with b | b
          · exact .inl (.inr b)
          · exact .inl (.inl b)
        · exact .inr a
      · rintro ((a | a) | a)
        · exact .inl (.inl a)
        · rcases this.2 (.inl a) with b | b
          · exact .inl (.inr b)
          · exact .inl (.inl b)
        · exact .inr a
theorem dd_mem {x : Rec} {l : List Rec} : x ∈ dd l ↔ x ∈ l := by
  cases l with
  | nil => exact Iff.rfl
  | cons y l =>
    have := ddf_mem (x := x) (l := l) (p := y)
    rw [dd, List.mem_cons, List.mem_cons, or_comm, this, or_comm]
theorem ddf_str : ∀ {l : List Rec} {p : Rec}, (p :: l).Pairwise (fun a b => leR a b = true) → (p :: ddf p l).Pairwise (fun a b => leR a b = true ∧ a ≠ b)
  | [], p, _ => by simp [ddf]
  | y :: l, p, h => by
    have hy := List.pairwise_cons.1 h
    have hl := List.pairwise_cons.1 hy.2
    unfold ddf
    by_cases e : y = p
    · rw [if_pos e]
      exact ddf_str (List.pairwise_cons.2 ⟨fun z hz => hy.1 z (by simp [hz]), hl.2⟩)
    · rw [if_neg e]
      have ih := ddf_str hy.2
      refine List.pairwise_cons.2 ⟨fun z hz => ?_, ih⟩
      have hpy := hy.1 y (by simp)
      rcases List.mem_cons.1 hz with rfl | hz
      · exact ⟨hpy, fun e2 => e e2.symm⟩
      · have h2 := (List.pairwise_cons.1 ih).1 z hz
        refine ⟨leR_trans _ _ _ hpy h2.1, fun e2 => ?_⟩
        subst e2
        exact e (leR_antisymm h2.1 hpy)
theorem dd_str {l : List Rec} : (dd (sortR l)).Pairwise (fun a b => leR a b = true ∧ a ≠ b) := by
  have h := sortR_sorted l
  cases e : sortR l with
  | nil => simp [dd]
  | cons x m => rw [e] at h; exact ddf_str h
theorem str_uniq : ∀ {l1 l2 : List Rec}, l1.Pairwise (fun a b => leR a b = true ∧ a ≠ b) → l2.Pairwise (fun a b => leR a b = true ∧ a ≠ b) → (∀ x, x ∈ l1 ↔ x ∈ l2) → l1 = l2
  | [], [], _, _, _ => rfl
  | [], y :: _, _, _, h => by have := (h y).2 (by simp); simp at this
  | x :: _, [], _, _, h => by have := (h x).1 (by simp); simp at this
  | x :: l1, y :: l2, h1, h2, h => by
    have a1 := List.pairwise_cons.1 h1
    have a2 := List.pairwise_cons.1 h2
    have e : x = y := by
      rcases List.mem_cons.1 ((h x).1 (by simp)) with e | e
      · exact e
      · rcases List.mem_cons.1 ((h y).2 (by simp)) with e2 | e2
        · exact e2.symm
        · exact leR_antisymm (a1.1 y e2).1 (a2.1 x e).1
    subst e
    rw [str_uniq a1.2 a2.2 fun z => ?_]
    have hz := h z
    simp only [List.mem_cons] at hz
    constructor
    · intro hm
      rcases hz.1 (.inr hm) with e | e
      · exact absurd e.symm (a1.1 z hm).2
      · exact e
    · intro hm
      rcases hz.2 (.inr hm) with e | e
      · exact absurd e.symm (a2.1 z hm).2
      · exact e
theorem dd_filter {l : List Rec} {P : Rec → Bool} : dd (sortR (l.filter P)) = (dd (sortR l)).filter P := by
  refine str_uniq dd_str (dd_str.sublist List.filter_sublist) fun x => ?_
  rw [dd_mem, List.mem_filter, dd_mem, (sortR_perm _).mem_iff, (sortR_perm _).mem_iff, List.mem_filter]

def headP (P : Int → Bool) (g : List Rec) : Bool := match g with | [] => false | r :: _ => P r.1
theorem grp_filter {P : Int → Bool} : ∀ (n : Nat) (l : List Rec), l.length ≤ n → l.Pairwise (fun a b => leR a b = true) → grp (l.filter fun r => P r.1) = (grp l).filter (headP P)
  | _, [], _, _ => by simp [grp_nil]
  | 0, _ :: _, h, _ => by simp at h
  | n + 1, x :: l, h, hs => by
    obtain ⟨hx, hl⟩ := List.pairwise_cons.1 hs
    have hdl := (List.dropWhile_sublist (fun r : Rec => r.1 == x.1) (l := l)).length_le
    have hds : (l.dropWhile fun r => r.1 == x.1).Pairwise (fun a b => leR a b = true) := hl.sublist (List.dropWhile_sublist _)
    have ih := grp_filter (P := P) n (l.dropWhile fun r => r.1 == x.1) (by simp only [List.length_cons] at h; omega) hds
    have htw : ∀ y ∈ l.takeWhile fun r => r.1 == x.1, y.1 = x.1 := fun y hy => by simpa using List.all_eq_true.1 List.all_takeWhile y hy
    have hdw : ∀ y ∈ l.dropWhile fun r => r.1 == x.1, y.1 ≠ x.1 := by
      intro y hy
      cases e : l.dropWhile fun r => r.1 == x.1 with
      | nil => rw [e] at hy; simp at hy
      | cons z t =>
        have hz : z.1 ≠ x.1 := by
          have := List.head?_dropWhile_not (fun r : Rec => r.1 == x.1) l
          rw [e] at this
          simpa using this
        have hzl : z ∈ l := (List.dropWhile_sublist _).subset (by rw [e]; simp)
        have h1 := leR_iff.1 (hx z hzl)
        rw [e] at hds hy
        rcases List.mem_cons.1 hy with rfl | hy
        · exact hz
        · have h2 := leR_iff.1 ((List.pairwise_cons.1 hds).1 y hy)
          omega
    have el : l = (l.takeWhile fun r => r.1 == x.1) ++ l.dropWhile fun r => r.1 == x.1 := List.takeWhile_append_dropWhile.symm
    have eg : grp (x :: l) = (x :: l.takeWhile fun r => r.1 == x.1) :: grp (l.dropWhile fun r => r.1 == x.1) := by rw [grp]
    rw [eg, List.filter_cons (xs := grp _)]
    cases hP : P x.1 with
    | true =>
      have e1 : headP P (x :: l.takeWhile fun r => r.1 == x.1) = true := hP
      rw [if_pos e1, ← ih, List.filter_cons, if_pos (show P x.1 = true from hP)]
      have e2 : (l.filter fun r => P r.1) = (l.takeWhile fun r => r.1 == x.1) ++ (l.dropWhile fun r => r.1 == x.1).filter fun r => P r.1 := by
        conv => lhs; rw [el, List.filter_append]
        rw [List.filter_eq_self.2 fun y hy => by rw [htw y hy]; exact hP]
      rw [e2, grp]
      have e3 := @twR (fun r => r.1 == x.1) (l.takeWhile fun r => r.1 == x.1) ((l.dropWhile fun r => r.1 == x.1).filter fun r => P r.1) (fun y hy => by simpa using htw y hy) (by
        cases e : (l.dropWhile fun r => r.1 == x.1).filter fun r => P r.1 with
        | nil => exact .inl rfl
        | cons z t =>
          refine .inr ⟨z, t, rfl, ?_⟩
          have : z ∈ (l.dropWhile fun r => r.1 == x.1).filter fun r => P r.1 := by rw [e]; simp
          simpa using hdw z (List.mem_filter.1 this).1)
      rw [e3.1, e3.2]
    | false =>
      have e1 : headP P (x :: l.takeWhile fun r => r.1 == x.1) = false := hP
      rw [if_neg (by rw [e1]; simp), ← ih, List.filter_cons, if_neg (by show ¬ P x.1 = true; rw [hP]; simp)]
      congr 1
      conv => lhs; rw [el, List.filter_append]
      rw [List.filter_eq_nil_iff.2 fun y hy => by rw [htw y hy, hP]; simp]
      rfl

theorem grp_head {l : List Rec} (hl : l.all okR = true) {n : Nat} (hn : 1 ≤ n) : ∀ g ∈ grp l, ∃ s, s < n ∧ ∀ t : Nat, t < n → headP (inP n t) g = decide (t = s) := by
  intro g hg
  obtain ⟨h1, _⟩ := grp_each l.length l (Nat.le_refl _) g hg
  have hok := grp_ok hl hg
  cases g with
  | nil => exact absurd rfl h1
  | cons r g =>
    rw [List.all_cons, Bool.and_eq_true, okR_iff] at hok
    exact inP_one hn hok.1.1.1

theorem pair_part {k n s : Int} {a b : List Rec} : pairAll k (partB n s a) (partB n s b) = (a.filter fun r => inP n s r.1).flatMap fun x => (b.filter fun y => y.1 == x.1).map fun y => pairV k x y := by
  unfold pairAll partB List.flatMap
  congr 1
  refine List.map_congr_left fun x hx => ?_
  have hx := (List.mem_filter.1 hx).2
  congr 1
  rw [List.filter_filter]
  refine List.filter_congr fun y _ => ?_
  by_cases e : y.1 = x.1
  · rw [e, hx]; simp
  · simp [e]

/-- The parts of what is made of all. -/
theorem made_parts {op k a : Int} {ins : List (List Rec)} {n : Nat} (hn : 1 ≤ n) (hi : insE ins = 0) :
    ((List.range n).flatMap fun s : Nat => madeV op k a (ins.map (partB n s))).Perm (madeV op k a ins) := by
  have ok : ∀ i, (ins.getD i []).all okR = true := by
    intro i
    rw [List.getD_eq_getElem?_getD]
    cases e : ins[i]? with
    | none => rfl
    | some l => exact (mayC0 (insE0 hi l (List.mem_of_getElem? e))).1
  have one : ∀ i, ∀ x ∈ ins.getD i [], ∃ s, s < n ∧ ∀ t : Nat, t < n → inP n t x.1 = decide (t = s) := by
    intro i x hx
    have := List.all_eq_true.1 (ok i) x hx
    rw [okR_iff] at this
    exact inP_one hn this.1.1
  have pt : ∀ i, ((List.range n).flatMap fun s : Nat => partB n s (ins.getD i [])).Perm (ins.getD i []) := fun i => part_perm (c := fun (r : Rec) (s : Nat) => inP n s r.1) (G := ins.getD i []) (one i)
  unfold madeV
  simp only [part_getD]
  split
  · have sok : (sortR (ins.getD 0 [])).all okR = true := by rw [all_perm (sortR_perm _)]; exact ok 0
    have e : ∀ s : Nat, (grp (sortR (partB n s (ins.getD 0 [])))).map (foldV k) = ((grp (sortR (ins.getD 0 []))).filter (headP (inP n s))).map (foldV k) := by
      intro s
      unfold partB
      rw [sortR_filter, grp_filter (P := inP n s) _ _ (Nat.le_refl _) (sortR_sorted _)]
    simp only [e]
    have := (part_perm (c := fun g (s : Nat) => headP (inP n s) g) (grp_head sok hn)).map (foldV k)
    rw [List.map_flatMap] at this
    exact this
  split
  · simp only [pair_part]
    unfold pairAll
    have := List.Perm.flatMap_right (fun x : Rec => ((ins.getD 1 []).filter fun y => y.1 == x.1).map fun y => pairV k x y) (pt 0)
    rw [List.flatMap_assoc] at this
    exact this
  split
  · have e : ∀ s : Nat, dd (sortR (partB n s (ins.getD 0 []))) = (dd (sortR (ins.getD 0 []))).filter fun r => inP n s r.1 := fun s => dd_filter
    simp only [e]
    refine part_perm (c := fun (r : Rec) (s : Nat) => inP n s r.1) fun x hx => ?_
    rw [dd_mem, (sortR_perm _).mem_iff] at hx
    exact one 0 x hx
  split
  · exact flatMap_app_perm.trans ((pt 0).append (pt 1))
  · have := List.Perm.flatMap_right (oneV op k a) (pt 0)
    rw [List.flatMap_assoc] at this
    exact this

theorem flatMap_le {α β : Type} {f : α → List β} {x : α} : ∀ {l : List α}, x ∈ l → (f x).length ≤ (l.flatMap f).length
  | y :: l, h => by
    rw [List.flatMap_cons, List.length_append]
    rcases List.mem_cons.1 h with rfl | h
    · omega
    · have := flatMap_le (f := f) h; omega
theorem apply_parts {op k a A : Int} {nIn nB n s : Nat} {ins : List (List Rec)} (hn : 1 ≤ n) (hs : s < n) (he : applyE op nIn k a A nB ins = 0) : applyE op nIn k a A nB (ins.map (partB n s)) = 0 ∧ insE ins = 0 ∧ (madeV op k a ins).length ≤ 4096 := by
  unfold applyE at he ⊢
  split at he
  · cases he
  rename_i g1
  split at he
  · rename_i g; exact absurd he g
  rename_i g2
  have hi := Classical.not_not.1 g2
  split at he
  · cases he
  rename_i g3
  have hp := (made_parts (op := op) (k := k) (a := a) hn hi).length_eq
  have h1 := flatMap_le (f := fun s : Nat => madeV op k a (ins.map (partB n s))) (List.mem_range.2 hs)
  rw [if_neg (by rw [List.length_map]; exact g1), insE_part hi, if_neg (by simp), if_neg (by omega)]
  exact ⟨rfl, hi, by omega⟩
end Go.Proofs.Ytfafgnmlnhklaaa

/- OperCuts: the walk. -/
namespace Go.Proofs.Ytfafgnmlnhklaaa
open Go.Ab
set_option linter.unusedVariables false
set_option linter.unusedSimpArgs false

section
variable {h : Heap} {Q : AV → Heap → Prop} {q : Option SL} {ins : List (List Rec)}
/-- One of two lists of slices that are made side by side, of what lay there. -/
def Side (n0 : Nat) (h : Heap) (q : Option SL) (ls : List (List Rec)) : Prop :=
  ∃ qs : List (Option SL), Apd slE h q qs ∧ qs.length = ls.length ∧ (∀ s, q = some s → n0 ≤ s.b) ∧ ∀ (i : Nat) (s : Option SL) (g : List Rec), qs[i]? = some s → ls[i]? = some g → HasL recE h s g ∧ ∀ u, s = some u → u.b < n0
theorem Side.nil {n0 : Nat} : Side n0 h none [] := ⟨[], .inl ⟨rfl, rfl⟩, rfl, (fun s hs => by cases hs), by simp⟩
theorem Side.live {n0 : Nat} (M : Side n0 h q ins) : ∀ t, q = some t → t.b < h.length := by
  obtain ⟨qs, A, _⟩ := M
  exact A.hasL.live
theorem Side.inGG {n0 : Nat} (M : Side n0 h q ins) : InGG (fun b => b < h.length) h q ins := by
  obtain ⟨qs, A, hl, hn, he⟩ := M
  exact ⟨qs, A.hasL, hl, fun s hs => A.hasL.live s hs, fun i s g hs hg => ⟨(he i s g hs hg).1, fun u hu => (he i s g hs hg).1.live u hu⟩⟩
/-- What is not of one side stays. -/
theorem Side.keeps {n0 : Nat} {h' : Heap} {X : Nat → Prop} (M : Side n0 h q ins) (K : Keeps X h h') (hX : ∀ b, X b → n0 ≤ b) (hq : ∀ s, q = some s → ¬ X s.b) : Side n0 h' q ins := by
  obtain ⟨qs, A, hl, hn, he⟩ := M
  exact ⟨qs, A.keeps K hq, hl, hn, fun i s g hs hg => ⟨K.hasL (fun u hu hx => by have := (he i s g hs hg).2 u hu; have := hX _ hx; omega) (he i s g hs hg).1, (he i s g hs hg).2⟩⟩
theorem Side.grow {n0 : Nat} {h' : Heap} (M : Side n0 h q ins) (x : Ext h h') : Side n0 h' q ins := M.keeps (X := fun _ => False) (keeps_of_ext x) (fun _ h => h.elim) (fun _ _ h => h)
/-- One more. -/
theorem Side.put {n0 : Nat} {q2 : Option SL} {l : List Rec} {K : Option SL → Heap → Prop} (M : Side n0 h q ins) (hn0 : n0 ≤ h.length) (H : HasL recE h q2 l) (hq2 : ∀ u, q2 = some u → u.b < n0) (hl : ins.length ≤ 1000000)
    (hK : ∀ q' h', Side n0 h' q' (ins ++ [l]) → Keeps (fun b => ∃ s, q = some s ∧ s.b = b) h h' → h.length ≤ h'.length → (∀ s', q' = some s' → h.length ≤ s'.b ∨ ∃ s, q = some s ∧ s.b = s'.b) → K q' h') :
    PNew [.sl q2] true h fun a h2 => PAppendS 1 24 q (some ⟨a, 0, 1, 1, 0⟩) h2 K := by
  refine pnew_mk ?_
  obtain ⟨qs, A, hlq, hn, he⟩ := M
  have x2 := Ext.app h [Blk.cells [.sl q2] true]
  have Hn : HasL slE (h ++ [Blk.cells [.sl q2] true]) (some ⟨h.length, 0, 1, 1, 0⟩) [q2] := HasL.new (n := 1) rfl rfl
  have l2 : (h ++ [Blk.cells [AV.sl q2] true]).length = h.length + 1 := by simp
  generalize h ++ [Blk.cells [.sl q2] true] = h2 at *
  refine Apd.append (E := slE) (A.ext x2) Hn (by simp; omega) fun q' h3 A3 K3 l3 hq' => ?_
  have KK : Keeps (fun b => ∃ s, q = some s ∧ s.b = b) h h3 := (keeps_of_ext x2).trans K3
  refine hK q' h3 ⟨qs ++ [q2], A3, by simp [hlq], fun s hs => ?_, fun i s g hs hg => ?_⟩ KK (by omega) (fun s hs => ?_)
  · rcases hq' s hs with a | ⟨t, a1, a2⟩
    · omega
    · have := hn t a1; omega
  · have key : ∀ {s : Option SL} {g : List Rec}, HasL recE h s g → (∀ u, s = some u → u.b < n0) → HasL recE h3 s g ∧ ∀ u, s = some u → u.b < n0 := fun H1 h1 => ⟨KK.hasL (fun u hu ⟨t, a1, a2⟩ => by have := h1 u hu; have := hn t a1; omega) H1, h1⟩
    rw [List.getElem?_append] at hs hg
    split at hs
    · rename_i hi
      rw [if_pos (by omega)] at hg
      exact key (he i s g hs hg).1 (he i s g hs hg).2
    · rename_i hi
      rw [if_neg (by omega)] at hg
      have i0 : i - qs.length = 0 := by have := lt_of_get hs; simp at this; omega
      have i1 : i - ins.length = 0 := by omega
      rw [i0] at hs
      rw [i1] at hg
      simp at hs hg
      subst hs hg
      exact key H hq2
  · rcases hq' s hs with a | b
    · exact .inl (by omega)
    · exact .inr b
/-- ref03.Same -/
theorem c23 {q2 : Option SL} {l m : List Rec} (H : HasL recE h q l) (H2 : HasL recE h q2 m) (hl : l.length ≤ 1000000) (hm : m.length ≤ 1000000) (hp : l.Perm m) (hQ : ∀ h', Q (.bool true) h') : AC Try.prog 23 [.sl q, .sl q2] h Q := ac23 (by
  unfold vc23
  rw [H.len, H2.len]
  have hle := hp.length_eq
  refine vif_mk (fun _ => ?_) (fun g => by rw [hle] at g; simp at g)
  refine o24 l.length (Nat.le_refl _) H (by omega) fun h1 q1 l1 x1 H1 _ P1 S1 => ⟨_, rfl, ?_⟩
  refine o24 m.length (Nat.le_refl _) (H2.mono x1) (by omega) fun h3 q3 m1 x3 H3 _ P3 S3 => ⟨_, rfl, ?_⟩
  have e : l1 = m1 := sorted_uniqR S1 S3 (P1.trans (hp.trans P3.symm))
  refine o13 (H1.mono x3) H3 (by rw [P1.length_eq]; omega) ⟨_, rfl, ?_⟩
  rw [decide_eq_true e]
  exact hQ _)

/-- Both sides, what was cut. -/
def Cut (n0 : Nat) (h : Heap) (qa qb : Option SL) (done : List (List Rec)) : Prop :=
  ∃ xs ys, Side n0 h qa xs ∧ Side n0 h qb ys ∧ CutLs done xs ys ∧ ∀ s t, qa = some s → qb = some t → s.b ≠ t.b

set_option maxRecDepth 20000 in
/-- One bag cut. -/
theorem cutStep {h0 : Heap} {qa qb q7 : Option SL} {done ins : List (List Rec)} {l : List Rec} {i k : Nat} {kx : Int} {n : Int} {K : Option SL → Option SL → Heap → Prop} (hkx : kx = k) (hn : n = i) (C : Cut h0.length h qa qb done) (x : Ext h0 h) (G : InGG (fun b => b < h0.length) h0 q7 ins) (hl : ins[i]? = some l) (hk : k ≤ l.length) (hd : done.length ≤ 1000)
    (hK : ∀ qa' qb' h', Cut h0.length h' qa' qb' (done ++ [l]) → Ext h0 h' → K qa' qb' h') :
    vIdx q7 n 1 fun p51 => ∃ q52 : Option SL, cellsAt h p51 1 = some [.sl q52] ∧ PSlice 2 q52 0 (some kx) none fun q53 => PNew [.sl q53] true h fun a54 h55 => PAppendS 1 24 qa (some ⟨a54, 0, 1, 1, 0⟩) h55 fun q56 h57 =>
      vIdx q7 n 1 fun p58 => ∃ q59 : Option SL, cellsAt h57 p58 1 = some [.sl q59] ∧ PSlice 2 q59 kx none none fun q60 => PNew [.sl q60] true h57 fun a61 h62 => PAppendS 1 24 qb (some ⟨a61, 0, 1, 1, 0⟩) h62 fun q63 h64 => K q56 q63 h64 := by
  subst hkx
  obtain ⟨xs, ys, A, B, CL, ne⟩ := C
  have hlt := lt_of_get hl
  have lens := CL.len
  have lx := x.len
  refine (G.mono x).idx (i := i) hlt hn fun p51 s l2 hl2 hc Hl f => ⟨s, hc, ?_⟩
  rw [hl] at hl2; cases hl2
  refine HasL.slice2 (E := recE) Hl (by omega) (by simp) (by simp; omega) fun q53 H53 f53 => ?_
  have e1 : (l.take ((Option.getD (some (k : Int)) ((l.length : Nat) : Int))).toNat).drop (0 : Int).toNat = l.take k := by simp
  rw [e1] at H53
  refine Side.put A lx H53 (fun u hu => by obtain ⟨t, a1, a2⟩ := f53 u hu; rw [a2]; exact f t a1) (by omega) fun q56 h57 A57 K57 l57 o57 => ?_
  have fr : ∀ t, qa = some t → h0.length ≤ t.b := by obtain ⟨_, _, _, hn0, _⟩ := A; exact hn0
  have x57 : Ext h0 h57 := by
    intro b C hC
    have := lt_of_get hC
    exact K57 b C (fun ⟨t, a1, a2⟩ => by have := fr t a1; omega) (x b C hC)
  have B57 : Side h0.length h57 qb ys := B.keeps K57 (fun b ⟨t, a1, a2⟩ => by have := fr t a1; omega) (fun s hs ⟨t, a1, a2⟩ => ne t s a1 hs a2)
  refine (G.mono x57).idx (i := i) hlt hn fun p58 s2 l2 hl2 hc2 Hl2 f2 => ⟨s2, hc2, ?_⟩
  rw [hl] at hl2; cases hl2
  refine HasL.slice2 (E := recE) Hl2 (by omega) (by simp; omega) (by simp) fun q60 H60 f60 => ?_
  have e2 : (l.take ((Option.getD none ((l.length : Nat) : Int))).toNat).drop (k : Int).toNat = l.drop k := by simp
  rw [e2] at H60
  have ne57 : ∀ s t, q56 = some s → qb = some t → s.b ≠ t.b := by
    intro s t hs ht
    have := B.live t ht
    rcases o57 s hs with a | ⟨u, a1, a2⟩
    · omega
    · rw [← a2]; exact ne u t a1 ht
  refine Side.put B57 (by omega) H60 (fun u hu => by obtain ⟨t, a1, a2⟩ := f60 u hu; rw [a2]; exact f2 t a1) (by omega) fun q63 h64 B64 K64 l64 o64 => ?_
  have frb : ∀ t, qb = some t → h0.length ≤ t.b := by obtain ⟨_, _, _, hn0, _⟩ := B; exact hn0
  refine hK q56 q63 h64 ⟨_, _, A57.keeps K64 (fun b ⟨t, a1, a2⟩ => by have := frb t a1; omega) (fun s hs ⟨t, a1, a2⟩ => ne57 s t hs a1 a2.symm), B64, ?_, fun s t hs ht => ?_⟩ (fun b C hC => ?_)
  · have := CL.snoc (x := l.take k) (y := l.drop k)
    rw [List.take_append_drop] at this
    exact this
  · have := A57.live s hs
    rcases o64 t ht with a | ⟨u, a1, a2⟩
    · omega
    · rw [← a2]; exact ne57 s u hs a1
  · have := lt_of_get hC
    exact K64 b C (fun ⟨t, a1, a2⟩ => by have := frb t a1; omega) (x57 b C hC)
end
end Go.Proofs.Ytfafgnmlnhklaaa

/- OperCuts: its law. -/
namespace Go.Proofs.Ytfafgnmlnhklaaa
open Go.Ab
set_option linter.unusedVariables false
set_option linter.unusedSimpArgs false

section
variable {h : Heap} {Q : AV → Heap → Prop} {q q8 : Option SL} {ins : List (List Rec)} {cuts : List Int}
theorem madeLen {op k a A : Int} {nIn nB : Nat} (h0 : applyE op nIn k a A nB ins = 0) : (madeV op k a ins).length ≤ 4096 := by
  unfold applyE at h0
  split at h0
  · cases h0
  split at h0
  · rename_i g; exact absurd h0 g
  split at h0
  · cases h0
  · omega
set_option maxRecDepth 20000 in
/-- OperCuts -/
theorem s6 {op k a A : Int} {q2 q6 : Option SL} (G : InGG (fun b => b < h.length) h q ins) (HC : HasL intE h q8 cuts) (hQ : ∀ h', Q (.bool true) h') : AC Try.prog 6 [.agg [.int .i64 op, .sl q2, .int .i64 k, .int .i64 a, .int .i64 A, .sl q6], .sl q, .sl q8] h Q := ac6 (by
  unfold vc6
  refine c20 G fun b hb => ⟨b, rfl, vif_mk (fun _ => s14 ⟨_, rfl, hQ _⟩) (fun g => ?_)⟩
  obtain ⟨hl10, hl5⟩ := hb g
  refine vif_mk (fun _ => s14 ⟨_, rfl, hQ _⟩) (fun g5 => vif_mk (fun _ => s14 ⟨_, rfl, hQ _⟩) (fun g6 => vif_mk (fun _ => s14 ⟨_, rfl, hQ _⟩) (fun g7 => ?_)))
  have g5 : op ≠ 5 := by simpa using g5
  have g6 : op ≠ 6 := by simpa using g6
  have g7 : op ≠ 7 := by simpa using g7
  by_cases h0 : applyE op (slLen q2) k a A (slLen q6) ins = 0
  · refine c21 G (fun b hb => hb) (by omega) (fun l hl => by have := hl5 l hl; omega) (fun hn => absurd h0 hn) fun _ q26 h25 N25 => ⟨q26, 0, rfl, s14 ⟨true, rfl, ?_⟩⟩
    refine vif_mk (fun g => by simp at g) (fun _ => vif_mk (fun g => by simp at g) (fun _ => ?_))
    have x25 := N25.1
    have hml := madeLen h0
    -- all blocks that were there stay
    have G25 := G.mono x25
    refine ⟨fun xs h42 => ∃ (qa qb : Option SL) (i : Nat), xs = [.sl qa, .sl qb, .int .i64 i] ∧ i ≤ ins.length ∧ Ext h25 h42 ∧ Cut h25.length h42 qa qb (ins.take i), fun xs _ => match xs with | [_, _, .int _ i] => (ins.length - i).toNat | _ => 0, ⟨none, none, 0, rfl, by omega, .refl _, [], [], .nil, .nil, (by rw [List.take_zero]; trivial), fun s t hs => by cases hs⟩, ?_⟩
    rintro qa qb n39 h42 ⟨qa', qb', i, hx, hi, x42, C42⟩
    simp only [List.cons.injEq, AV.int.injEq, AV.sl.injEq, true_and, and_true] at hx
    obtain ⟨rfl, rfl, rfl⟩ := hx
    have G25' : InGG (fun b => b < h25.length) h25 q ins := by
      obtain ⟨qs, g1, g2, g3, g4⟩ := G25
      exact ⟨qs, g1, g2, fun s hs => by have := g3 s hs; have := x25.len; omega, fun i s g hs hg => ⟨(g4 i s g hs hg).1, fun u hu => by have := (g4 i s g hs hg).2 u hu; have := x25.len; omega⟩⟩
    have HC42 := (HC.mono x25).mono x42
    rw [G.len, HC.len]
    refine vif_mk (fun g1 => ?_) (fun g1 => ?_)
    · replace g1 := of_decide_eq_true g1
      have hl : ins[i]? = some ins[i] := List.getElem?_eq_getElem (by omega)
      generalize ins[i] = l at *
      have w : wrapK .i64 ((i : Int) + 1) = ((i + 1 : Nat) : Int) := by rw [wrapK_i64 ⟨by omega, by omega⟩]; omega
      have dl : (ins.take i).length ≤ 1000 := by rw [List.length_take]; omega
      have et : ins.take (i + 1) = ins.take i ++ [l] := by rw [List.take_add_one, hl]; rfl
      rw [w]
      refine vif_mk (fun g2 => ?_) (fun g2 => ?_)
      · replace g2 := of_decide_eq_true g2
        have hcx : cuts[i]? = some cuts[i] := List.getElem?_eq_getElem (by omega)
        generalize cuts[i] = c at *
        have atc : ∀ {K : PA → Prop}, (∀ p, cellsAt h42 p 1 = some [.int .i64 c] → K p) → vIdx q8 (i : Int) 1 K := fun hK => HC42.idx (E := intE) (by omega) (by omega) fun p x hx hc => by
          have : x = c := by rw [Int.toNat_natCast, hcx] at hx; exact (Option.some.inj hx).symm
          subst this; exact hK p hc
        refine atc fun p hp => ⟨c, hp, vif_mk (fun g3 => ?_) (fun g3 => ?_)⟩
        · replace g3 := of_decide_eq_true g3
          refine atc fun p hp => ⟨c, hp, (G25'.mono x42).idx (i := i) (by omega) rfl fun pp s l2 hl2 hc2 Hl2 f2 => ⟨s, hc2, ?_⟩⟩
          rw [hl] at hl2; cases hl2
          rw [Hl2.len]
          refine vif_mk (fun g4 => ?_) (fun g4 => ?_)
          · replace g4 := of_decide_eq_true g4
            refine atc fun p hp => ⟨c, hp, ?_⟩
            exact cutStep (k := c.toNat) (by omega) rfl C42 x42 G25' hl (by omega) dl fun qa' qb' h' C' x' => ⟨⟨rfl, trivial⟩, ⟨qa', qb', i + 1, rfl, by omega, x', by rw [et]; exact C'⟩, by simp only; omega⟩
          · exact cutStep (k := 0) rfl rfl C42 x42 G25' hl (by omega) dl fun qa' qb' h' C' x' => ⟨⟨rfl, trivial⟩, ⟨qa', qb', i + 1, rfl, by omega, x', by rw [et]; exact C'⟩, by simp only; omega⟩
        · exact cutStep (k := 0) rfl rfl C42 x42 G25' hl (by omega) dl fun qa' qb' h' C' x' => ⟨⟨rfl, trivial⟩, ⟨qa', qb', i + 1, rfl, by omega, x', by rw [et]; exact C'⟩, by simp only; omega⟩
      · exact cutStep (k := 0) rfl rfl C42 x42 G25' hl (by omega) dl fun qa' qb' h' C' x' => ⟨⟨rfl, trivial⟩, ⟨qa', qb', i + 1, rfl, by omega, x', by rw [et]; exact C'⟩, by simp only; omega⟩
    · replace g1 := of_decide_eq_false g1
      have e : ins.take i = ins := List.take_of_length_le (by omega)
      rw [e] at C42
      obtain ⟨xs, ys, SA, SB, CL, _⟩ := C42
      obtain ⟨ea, eb, _⟩ := apply_cut g5 g6 g7 CL h0
      have hp := made_cut (k := k) (a := a) g5 g6 g7 CL
      have hpl := hp.length_eq
      rw [List.length_append] at hpl
      have lens := CL.len
      have each : ∀ {l x y : List (List Rec)}, CutLs l x y → (∀ z ∈ l, z.length ≤ 5000) → (∀ z ∈ x, z.length ≤ 5000) ∧ ∀ z ∈ y, z.length ≤ 5000 := by
        intro l
        induction l with
        | nil => intro x y h _; cases x <;> cases y <;> first | exact h.elim | simp
        | cons z l ih =>
          intro x y h hz
          cases x with
          | nil => exact h.elim
          | cons x0 x =>
            cases y with
            | nil => exact h.elim
            | cons y0 y =>
              have := ih h.2 fun w hw => hz w (by simp [hw])
              have h1 := hz z (by simp)
              rw [h.1, List.length_append] at h1
              refine ⟨fun w hw => ?_, fun w hw => ?_⟩
              · rcases List.mem_cons.1 hw with rfl | hw
                · omega
                · exact this.1 w hw
              · rcases List.mem_cons.1 hw with rfl | hw
                · omega
                · exact this.2 w hw
      obtain ⟨ba, bb⟩ := each CL hl5
      refine c21 SA.inGG (fun b hb => hb) (by omega) (fun l hl => by have := ba l hl; omega) (fun hn => absurd ea hn) fun _ q109 h108 N1 => ⟨q109, 0, rfl, ?_⟩
      refine c21 ((SB.grow N1.1).inGG) (fun b hb => hb) (by omega) (fun l hl => by have := bb l hl; omega) (fun hn => absurd eb hn) fun _ q113 h112 N2 => ⟨q113, 0, rfl, ?_⟩
      refine vif_mk (fun _ => ?_) (fun g => by simp at g)
      refine vif_mk (fun _ => ?_) (fun g => by simp at g)
      refine AppJ.append (E := recE) (N1.2.1.ext N2.1) N2.hasL (by rw [sortR_len, sortR_len]; omega) fun q115 h116 A K l116 o => ?_
      have x112 : Ext h25 h112 := x42.trans (N1.1.trans N2.1)
      have H26 : HasL recE h116 q26 (sortR (madeV op k a ins)) := by
        refine K.hasL (fun s hs ⟨t, a1, a2⟩ => ?_) (N25.hasL.mono x112)
        have h1 := N1.2.2 t a1
        have h2 := N25.hasL.live s hs
        have := x42.len
        omega
      refine c23 A.hasL H26 (by rw [List.length_append, sortR_len, sortR_len]; omega) (by rw [sortR_len]; omega) ?_ fun h' => ⟨true, rfl, hQ _⟩
      exact (((sortR_perm _).append (sortR_perm _)).trans hp).trans (sortR_perm _).symm
  · refine c21 G (fun b hb => hb) (by omega) (fun l hl => by have := hl5 l hl; omega) (fun _ h25 x25 => ⟨none, _, rfl, s14 ⟨true, rfl, ?_⟩⟩) (fun hn => absurd hn h0)
    exact vif_mk (fun g => by simp at g) (fun _ => vif_mk (fun _ => s14 ⟨_, rfl, hQ _⟩) (fun g => absurd (by simpa using g) h0)))
end
end Go.Proofs.Ytfafgnmlnhklaaa

/- OperShards: its law. -/
namespace Go.Proofs.Ytfafgnmlnhklaaa
open Go.Ab
set_option linter.unusedVariables false
set_option linter.unusedSimpArgs false

section
variable {h : Heap} {Q : AV → Heap → Prop} {q : Option SL} {ins : List (List Rec)}
set_option maxRecDepth 20000 in
/-- OperShards -/
theorem s5 {op k a A n8 : Int} {q2 q6 : Option SL} (G : InGG (fun b => b < h.length) h q ins) (hQ : ∀ h', Q (.bool true) h') : AC Try.prog 5 [.agg [.int .i64 op, .sl q2, .int .i64 k, .int .i64 a, .int .i64 A, .sl q6], .sl q, .int .i64 n8] h Q := ac5 (by
  unfold vc5
  refine c20 G fun b hb => ⟨b, rfl, vif_mk (fun _ => s14 ⟨_, rfl, hQ _⟩) (fun g => ?_)⟩
  obtain ⟨hl10, hl5⟩ := hb g
  refine vif_mk (fun _ => s14 ⟨_, rfl, hQ _⟩) (fun g1 => vif_mk (fun _ => s14 ⟨_, rfl, hQ _⟩) (fun g9 => ?_))
  have g1 := of_decide_eq_false g1
  have g9 := of_decide_eq_false g9
  obtain ⟨n, rfl⟩ : ∃ n : Nat, n8 = n := ⟨n8.toNat, by omega⟩
  have hn : 1 ≤ n := by omega
  by_cases h0 : applyE op (slLen q2) k a A (slLen q6) ins = 0
  · refine c21 G (fun b hb => hb) (by omega) (fun l hl => by have := hl5 l hl; omega) (fun hn => absurd h0 hn) fun _ q23 h22 N22 => ⟨q23, 0, rfl, s14 ⟨true, rfl, ?_⟩⟩
    refine vif_mk (fun g => by simp at g) (fun _ => vif_mk (fun g => by simp at g) (fun _ => ?_))
    have x22 := N22.1
    obtain ⟨_, hi0, hml⟩ := apply_parts (s := 0) hn (by omega) h0
    have total := made_parts (op := op) (k := k) (a := a) hn hi0
    have hmono : ∀ i, i ≤ n → ((List.range i).flatMap fun s : Nat => madeV op k a (ins.map (partB n s))).length ≤ (madeV op k a ins).length := by
      intro i hi
      have e : List.range n = List.range i ++ (List.range n).drop i := by
        conv => lhs; rw [← List.take_append_drop i (List.range n)]
        rw [List.take_range, Nat.min_eq_left hi]
      have := total.length_eq
      rw [e, List.flatMap_append, List.length_append] at this
      omega
    refine ⟨fun xs h38 => ∃ (q34 : Option SL) (i : Nat) (sum : List Rec), xs = [.sl q34, .int .i64 i] ∧ i ≤ n ∧ Ext h22 h38 ∧ AppJ recE h38 q34 sum ∧ (∀ s, q34 = some s → h22.length ≤ s.b) ∧ sum.Perm ((List.range i).flatMap fun s : Nat => madeV op k a (ins.map (partB n s))), fun xs _ => match xs with | [_, .int _ i] => (n - i).toNat | _ => 0, ⟨none, 0, [], rfl, by omega, .refl _, .inl ⟨rfl, rfl⟩, (fun s hs => by cases hs), .refl _⟩, ?_⟩
    rintro q34 n35 h38 ⟨q34', i, sum, hx, hi, x38, A38, o38, P38⟩
    simp only [List.cons.injEq, AV.int.injEq, AV.sl.injEq, true_and, and_true] at hx
    obtain ⟨rfl, rfl⟩ := hx
    refine vif_mk (fun gi => ?_) (fun gi => ?_)
    · replace gi := of_decide_eq_true gi
      refine pnew_mk ?_
      have x40 := Ext.app h38 [Blk.cells [.int .i64 (n : Int), .int .i64 (i : Int)] true]
      have c40 : cellsAt (h38 ++ [Blk.cells [AV.int .i64 (n : Int), .int .i64 (i : Int)] true]) ⟨h38.length, 0⟩ 2 = some [.int .i64 (n : Int), .int .i64 (i : Int)] := by unfold cellsAt; simp
      have l40 : (h38 ++ [Blk.cells [AV.int .i64 (n : Int), .int .i64 (i : Int)] true]).length = h38.length + 1 := by simp
      generalize h38 ++ [Blk.cells [.int .i64 (n : Int), .int .i64 (i : Int)] true] = h40 at *
      have G40 := ((G.mono x22).mono x38).mono x40
      refine ⟨fun xs h45 => ∃ (q41 : Option SL) (j : Nat), xs = [.sl q41, .int .i64 j] ∧ j ≤ ins.length ∧ Ext h40 h45 ∧ Made h40.length h45 q41 ((ins.take j).map (partB n i)), fun xs _ => match xs with | [_, .int _ j] => (ins.length - j).toNat | _ => 0, ⟨none, 0, rfl, by omega, .refl _, by rw [List.take_zero]; exact .nil⟩, ?_⟩
      rintro q41 n42 h45 ⟨q41', j, hx, hj, x45, M45⟩
      simp only [List.cons.injEq, AV.int.injEq, AV.sl.injEq, true_and, and_true] at hx
      obtain ⟨rfl, rfl⟩ := hx
      rw [G.len]
      refine vif_mk (fun gj => ?_) (fun gj => ?_)
      · replace gj := of_decide_eq_true gj
        refine (G40.mono x45).idx (i := j) (by omega) rfl fun pp s l hl hc Hl f => ⟨s, hc, ?_⟩
        have hll := hl5 l (List.mem_of_getElem? hl)
        refine c16r Hl (by omega) (x45.cells c40) (by omega) fun q50 h49 N49 => ⟨q50, rfl, ?_⟩
        refine Made.put M45 x45.len N49.1 N49.hasL (fun u t hu ht => ?_) (by rw [List.length_map, List.length_take]; omega) fun q53 h54 M54 K54 l54 => ?_
        · have := N49.2.2 u hu
          have := M45.live t ht
          omega
        · rw [wrapK_i64 ⟨by omega, by omega⟩]
          refine ⟨⟨rfl, trivial⟩, ⟨q53, j + 1, by simp, by omega, fun b B hB => K54 b B (lt_of_get hB) (N49.1 _ _ (x45 _ _ hB)), ?_⟩, by simp only; omega⟩
          rw [List.take_add_one, hl, List.map_append]
          exact M54
      · replace gj := of_decide_eq_false gj
        have e : ins.take j = ins := List.take_of_length_le (by omega)
        rw [e] at M45
        obtain ⟨ha, _, _⟩ := apply_parts (s := i) hn (by omega) h0
        have hb : ∀ l ∈ ins.map (partB n i), l.length ≤ 1000000 := by
          intro l hl
          obtain ⟨m, hm, rfl⟩ := List.mem_map.1 hl
          have := hl5 m hm
          have := List.length_filter_le (fun r : Rec => inP n i r.1) m
          unfold partB; omega
        refine c21 M45.inGG (fun b hb => hb) (by rw [List.length_map]; omega) hb (fun hn => absurd ha hn) fun _ q57 h56 N56 => ⟨q57, 0, rfl, ?_⟩
        refine vif_mk (fun g => by simp at g) (fun _ => ?_)
        have A45 := (A38.ext (x40.trans x45)).ext N56.1
        have hm1 := hmono i (by omega)
        have hm2 := hmono (i + 1) (by omega)
        have eR : ((List.range (i + 1)).flatMap fun s : Nat => madeV op k a (ins.map (partB n s))) = ((List.range i).flatMap fun s : Nat => madeV op k a (ins.map (partB n s))) ++ madeV op k a (ins.map (partB n i)) := by
          rw [List.range_succ, List.flatMap_append]; simp
        rw [eR, List.length_append] at hm2
        have hPl := P38.length_eq
        refine AppJ.append (E := recE) A45 N56.hasL (by rw [sortR_len]; omega) fun q59 h60 A60 K60 l60 o60 => ?_
        rw [wrapK_i64 ⟨by omega, by omega⟩]
        have x60 : Ext h22 h60 := fun b B hB => K60 b B (fun ⟨s, a1, a2⟩ => by have := o38 s a1; have := lt_of_get hB; omega) (N56.1 _ _ (x45 _ _ (x40 _ _ (x38 _ _ hB))))
        have l22 := (x38.trans (x40.trans (x45.trans N56.1))).len
        refine ⟨⟨rfl, trivial⟩, ⟨q59, i + 1, _, by simp, by omega, x60, A60, fun s hs => ?_, ?_⟩, by simp only; omega⟩
        · rcases o60 s hs with e | ⟨t, a1, a2⟩
          · omega
          · rw [← a2]; exact o38 t a1
        · rw [eR]
          exact P38.append (sortR_perm _)
    · replace gi := of_decide_eq_false gi
      have e : i = n := by omega
      subst e
      have P := P38.trans total
      have := P.length_eq
      refine c23 A38.hasL (N22.hasL.mono x38) (by omega) (by rw [sortR_len]; omega) (P.trans (sortR_perm _).symm) fun h' => ⟨true, rfl, hQ _⟩
  · refine c21 G (fun b hb => hb) (by omega) (fun l hl => by have := hl5 l hl; omega) (fun _ h25 x25 => ⟨none, _, rfl, s14 ⟨true, rfl, ?_⟩⟩) (fun hn => absurd hn h0)
    exact vif_mk (fun g => by simp at g) (fun _ => vif_mk (fun _ => s14 ⟨_, rfl, hQ _⟩) (fun g => absurd (by simpa using g) h0)))
end
end Go.Proofs.Ytfafgnmlnhklaaa
