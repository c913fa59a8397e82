/- OperOnce: each once, of each once; both bags together. -/
import Derived.Test.YtfafgnmlnhklaaaAG16
import Derived.Test.YtfafgnmlnhklaaaAG21
namespace Go.Proofs.Ytfafgnmlnhklaaa
open Go.Ab
set_option linter.unusedVariables false
set_option linter.unusedSimpArgs false

theorem ddf_idem : ∀ {l : List Rec} {p : Rec}, ddf p (ddf p l) = ddf p l
  | [], p => rfl
  | x :: l, p => by
    by_cases h : x = p
    · have e : ddf p (x :: l) = ddf p l := by simp only [ddf, if_pos h]
      rw [e, ddf_idem]
    · have e : ddf p (x :: l) = x :: ddf x l := by simp only [ddf, if_neg h]
      rw [e]
      simp only [ddf, if_neg h]
      rw [ddf_idem]
theorem dd_idem {l : List Rec} : dd (dd l) = dd l := by
  cases l with
  | nil => rfl
  | cons x l => simp only [dd, ddf_idem]
theorem sortR_self {l : List Rec} (h : l.Pairwise fun a b => leR a b = true) : sortR l = l := sortR_eq h (.refl l)
theorem dd_sorted {l : List Rec} : (dd (sortR l)).Pairwise fun a b => leR a b = true := (sortR_sorted l).sublist dd_sub

section
variable {h : Heap} {Q : AV → Heap → Prop} {q q' : Option SL} {l l' : List Rec}
theorem inGG1 (H : HasL recE h q l) : InGG (fun b => b < (h ++ [Blk.cells [.sl q] true]).length) (h ++ [Blk.cells [.sl q] true]) (some ⟨h.length, 0, 1, 1, 0⟩) [l] := by
  refine ⟨[q], HasL.new (n := 1) rfl rfl, rfl, fun s hs => by cases hs; simp, fun i s g hs hg => ?_⟩
  match i with
  | 0 => cases hs; cases hg; exact ⟨H.mono (Ext.app _ _), fun u hu => by have := H.live u hu; simp; omega⟩
  | i + 1 => simp at hs
theorem inGG2 (H : HasL recE h q l) (H' : HasL recE h q' l') : InGG (fun b => b < (h ++ [Blk.cells [.sl q, .sl q'] true]).length) (h ++ [Blk.cells [.sl q, .sl q'] true]) (some ⟨h.length, 0, 2, 2, 0⟩) [l, l'] := by
  refine ⟨[q, q'], HasL.new (n := 2) rfl rfl, rfl, fun s hs => by cases hs; simp, fun i s g hs hg => ?_⟩
  match i with
  | 0 => cases hs; cases hg; exact ⟨H.mono (Ext.app _ _), fun u hu => by have := H.live u hu; simp; omega⟩
  | 1 => cases hs; cases hg; exact ⟨H'.mono (Ext.app _ _), fun u hu => by have := H'.live u hu; simp; omega⟩
  | i + 2 => simp at hs

theorem once_E {l : List Rec} (h : mayC l = 0) : applyE 7 1 0 0 0 0 [l] = 0 := by
  have hl := (mayC0 h).2
  have hd := dd_len (l := sortR l)
  rw [sortR_len] at hd
  unfold applyE
  rw [if_neg (by simp; decide), if_neg (by simp [insE, h]), if_neg]
  have e : madeV 7 0 0 [l] = dd (sortR l) := rfl
  rw [e]; omega
theorem both_E {l m : List Rec} (h : mayC l = 0) (h' : mayC m = 0) (hl : l.length ≤ 2000) (hm : m.length ≤ 2000) : applyE 8 2 0 0 0 0 [l, m] = 0 := by
  unfold applyE
  rw [if_neg (by simp; decide), if_neg (by simp [insE, h, h']), if_neg]
  have e : madeV 8 0 0 [l, m] = l ++ m := rfl
  rw [e, List.length_append]; omega

/-- Each once. -/
theorem once (H : HasL recE h q l) (hm : mayC l = 0) {b : Nat} {o : Nat} (hQ : ∀ q' h', NewJ recE h h' q' (dd (sortR l)) → Q (.tup [.sl q', .int .i64 0]) h') :
    PNew [.sl q] true h fun a h1 => AC Try.prog 21 [.agg [.int .i64 7, .sl (some ⟨b, 0, 1, 1, 0⟩), .int .i64 0, .int .i64 0, .int .i64 0, .sl none], .sl (some ⟨a, 0, 1, 1, 0⟩)] h1 Q := by
  refine pnew_mk ?_
  have hl := (mayC0 hm).2
  refine c21 (inGG1 H) (fun b hb => hb) (by simp) (by simp; omega) (fun hn => absurd (once_E hm) hn) fun _ q' h' N => ?_
  have e : sortR (madeV 7 0 0 [l]) = dd (sortR l) := sortR_self dd_sorted
  rw [e] at N
  exact hQ q' h' (N.back (Ext.app _ _))
/-- Both. -/
theorem both (H : HasL recE h q l) (H' : HasL recE h q' l') (hm : mayC l = 0) (hm' : mayC l' = 0) (hl : l.length ≤ 2000) (hl' : l'.length ≤ 2000) {b : Nat} (hQ : ∀ q' h', NewJ recE h h' q' (sortR (l ++ l')) → Q (.tup [.sl q', .int .i64 0]) h') :
    PNew [.sl q, .sl q'] true h fun a h1 => AC Try.prog 21 [.agg [.int .i64 8, .sl (some ⟨b, 0, 2, 2, 0⟩), .int .i64 0, .int .i64 0, .int .i64 0, .sl none], .sl (some ⟨a, 0, 2, 2, 0⟩)] h1 Q := by
  refine pnew_mk ?_
  exact c21 (inGG2 H H') (fun b hb => hb) (by simp) (by simp; omega) (fun hn => absurd (both_E hm hm' hl hl') hn) fun _ q' h' N => hQ q' h' (N.back (Ext.app _ _))

set_option maxRecDepth 20000 in
/-- OperOnce -/
theorem s8 (H : HasL recE h q l) (H' : HasL recE h q' l') (hQ : ∀ h', Q (.bool true) h') : AC Try.prog 8 [.sl q, .sl q'] h Q := ac8 (by
  unfold vc8
  rw [H.len, H'.len]
  refine vif_mk (fun _ => s14 ⟨_, rfl, hQ _⟩) (fun g1 => vif_mk (fun _ => s14 ⟨_, rfl, hQ _⟩) (fun g2 => ?_))
  have g1 := of_decide_eq_false g1
  have g2 := of_decide_eq_false g2
  refine o25 H (by omega) ⟨_, rfl, vif_mk (fun _ => s14 ⟨_, rfl, hQ _⟩) (fun g3 => ?_)⟩
  refine o25 H' (by omega) ⟨_, rfl, vif_mk (fun _ => s14 ⟨_, rfl, hQ _⟩) (fun g4 => ?_)⟩
  have m1 : mayC l = 0 := by simpa using g3
  have m2 : mayC l' = 0 := by simpa using g4
  refine pnew_mk (pnew_mk ?_)
  have x24 := (Ext.app h [Blk.cells [.int .i64 0] true]).trans (Ext.app (h ++ [Blk.cells [.int .i64 0] true]) [Blk.cells [.int .i64 0, .int .i64 1] true])
  generalize h ++ [Blk.cells [.int .i64 0] true] ++ [Blk.cells [.int .i64 0, .int .i64 1] true] = h24 at *
  have H24 := H.mono x24
  have H24' := H'.mono x24
  refine once (o := 0) H24 m1 fun q29 h28 N28 => ⟨q29, 0, rfl, ?_⟩
  have md : mayC (dd (sortR l)) = 0 := by
    have h1 := all_sub dd_sub (m := sortR l) (by rw [all_perm (sortR_perm l)]; exact (mayC0 m1).1)
    have h2 := dd_len (l := sortR l)
    rw [sortR_len] at h2
    unfold mayC
    rw [if_pos h1, if_neg (by omega)]
  refine once (o := 0) N28.hasL md fun q35 h34 N34 => ⟨q35, 0, rfl, ?_⟩
  have e1 : dd (sortR (dd (sortR l))) = dd (sortR l) := by rw [sortR_self dd_sorted, dd_idem]
  rw [e1] at N34
  have x34 := N28.1.trans N34.1
  refine both (H24.mono x34) (H24'.mono x34) m1 m2 (by omega) (by omega) fun q41 h40 N40 => ⟨q41, 0, rfl, ?_⟩
  have x40 := x34.trans N40.1
  refine both (H24'.mono x40) (H24.mono x40) m2 m1 (by omega) (by omega) fun q47 h46 N46 => ⟨q47, 0, rfl, s14 ⟨true, rfl, ?_⟩⟩
  have e2 : sortR (l' ++ l) = sortR (l ++ l') := sortR_perm_eq List.perm_append_comm
  rw [e2] at N46
  have hd := dd_len (l := sortR l)
  rw [sortR_len] at hd
  refine vif_mk (fun _ => ?_) (fun g => by simp at g)
  refine vif_mk (fun _ => ?_) (fun g => by simp at g)
  refine vif_mk (fun _ => ?_) (fun g => by simp at g)
  refine o13 (N28.hasL.mono (N34.1.trans (N40.1.trans N46.1))) (N34.hasL.mono (N40.1.trans N46.1)) (by omega) ⟨_, rfl, vif_mk (fun _ => ?_) (fun g => by simp at g)⟩
  refine vif_mk (fun _ => ?_) (fun g => by simp at g)
  refine vif_mk (fun _ => ?_) (fun g => by simp at g)
  refine o13 (N40.hasL.mono N46.1) N46.hasL (by rw [sortR_len, List.length_append]; omega) ⟨_, rfl, vif_mk (fun _ => ?_) (fun g => by simp at g)⟩
  rw [N40.hasL.len, sortR_len, List.length_append, wrapK_i64 ⟨by omega, by omega⟩]
  have e3 : (((l.length + l'.length : Nat) : Int) == ((l.length : Nat) : Int) + (l'.length : Nat)) = true := by simp
  rw [e3]
  exact hQ _)
end
end Go.Proofs.Ytfafgnmlnhklaaa

/- OperOrder: what comes of it does not hang on the order of records. -/
namespace Go.Proofs.Ytfafgnmlnhklaaa
open Go.Ab
set_option linter.unusedVariables false
set_option linter.unusedSimpArgs false

/-- Lists of bags that are alike, but for the order in each. -/
def PermLs : List (List Rec) → List (List Rec) → Prop
  | [], [] => True
  | a :: xs, b :: ys => a.Perm b ∧ PermLs xs ys
  | _, _ => False
theorem PermLs.len : ∀ {a b : List (List Rec)}, PermLs a b → a.length = b.length
  | [], [], _ => rfl
  | _ :: _, _ :: _, h => by simp [PermLs.len h.2]
  | [], _ :: _, h => h.elim
  | _ :: _, [], h => h.elim
theorem PermLs.insE : ∀ {a b : List (List Rec)}, PermLs a b → Ytfafgnmlnhklaaa.insE a = Ytfafgnmlnhklaaa.insE b
  | [], [], _ => rfl
  | x :: xs, y :: ys, h => by
    simp only [Ytfafgnmlnhklaaa.insE]
    rw [mayC_perm h.1, PermLs.insE h.2]
  | [], _ :: _, h => h.elim
  | _ :: _, [], h => h.elim
theorem PermLs.getD : ∀ {a b : List (List Rec)} {i : Nat}, PermLs a b → (a.getD i []).Perm (b.getD i [])
  | [], [], _, _ => .refl _
  | x :: xs, y :: ys, 0, h => h.1
  | x :: xs, y :: ys, i + 1, h => by simpa using PermLs.getD (i := i) h.2
  | [], _ :: _, _, h => h.elim
  | _ :: _, [], _, h => h.elim
theorem PermLs.snoc : ∀ {a b : List (List Rec)} {x y : List Rec}, PermLs a b → x.Perm y → PermLs (a ++ [x]) (b ++ [y])
  | [], [], _, _, _, hp => ⟨hp, trivial⟩
  | _ :: _, _ :: _, _, _, h, hp => ⟨h.1, PermLs.snoc h.2 hp⟩
  | [], _ :: _, _, _, h, _ => h.elim
  | _ :: _, [], _, _, h, _ => h.elim
theorem flatMap_perm {f g : Rec → List Rec} : ∀ {l : List Rec}, (∀ x, (f x).Perm (g x)) → (l.flatMap f).Perm (l.flatMap g)
  | [], _ => .refl _
  | x :: l, h => by
    simp only [List.flatMap_cons]
    exact (h x).append (flatMap_perm h)
theorem pairAll_perm {k : Int} {a a' b b' : List Rec} (ha : a.Perm a') (hb : b.Perm b') : (pairAll k a b).Perm (pairAll k a' b') := by
  unfold pairAll
  refine (List.Perm.flatMap_right _ ha).trans ?_
  exact flatMap_perm fun x => (hb.filter _).map _
theorem made_perm {op k a : Int} {ins ins' : List (List Rec)} (h : PermLs ins ins') : (madeV op k a ins).Perm (madeV op k a ins') := by
  have g := fun i => h.getD (i := i)
  unfold madeV
  split
  · rw [sortR_perm_eq (g 0)]
  split
  · exact pairAll_perm (g 0) (g 1)
  split
  · rw [sortR_perm_eq (g 0)]
  split
  · exact (g 0).append (g 1)
  · exact List.Perm.flatMap_right _ (g 0)
theorem apply_perm {op k a A : Int} {nIn nB : Nat} {ins ins' : List (List Rec)} (h : PermLs ins ins') : applyE op nIn k a A nB ins = applyE op nIn k a A nB ins' := by
  unfold applyE
  rw [h.len, h.insE, (made_perm h).length_eq]

section
variable {F : Nat → Prop} {h h' : Heap} {Q : AV → Heap → Prop} {q : Option SL} {ins : List (List Rec)}
/-- large -/
theorem c20 (G : InGG F h q ins) (hQ : ∀ b, (b = false → ins.length ≤ 10 ∧ ∀ l ∈ ins, l.length ≤ 5000) → Q (.bool b) h) : AC Try.prog 20 [.sl q] h Q := ac20 (by
  unfold vc20
  rw [G.len]
  refine vif_mk (fun g => hQ true (by simp)) (fun g => ?_)
  have g := of_decide_eq_false g
  refine ⟨fun xs h5 => h5 = h ∧ ∃ i : Nat, xs = [.int .i64 i] ∧ i ≤ ins.length ∧ ∀ l ∈ ins.take i, l.length ≤ 5000, fun xs _ => match xs with | [.int _ i] => (ins.length - i).toNat | _ => 0, ⟨rfl, 0, rfl, by omega, by simp⟩, ?_⟩
  rintro n2 h5 ⟨rfl, i, hx, hi, hl⟩
  simp only [List.cons.injEq, AV.int.injEq, true_and, and_true] at hx
  subst hx
  refine vif_mk (fun g1 => ?_) (fun g1 => ?_)
  · replace g1 := of_decide_eq_true g1
    refine G.idx (i := i) (by omega) rfl fun pp s l hl2 hc Hl f => ⟨s, hc, ?_⟩
    rw [Hl.len]
    refine vif_mk (fun g2 => hQ true (by simp)) (fun g2 => ?_)
    have g2 := of_decide_eq_false g2
    rw [wrapK_i64 ⟨by omega, by omega⟩]
    refine ⟨trivial, ⟨rfl, i + 1, by simp, by omega, fun x hx => ?_⟩, by simp only; omega⟩
    rw [List.take_add_one, hl2] at hx
    rcases List.mem_append.1 hx with hx | hx
    · exact hl x hx
    · simp only [Option.toList_some, List.mem_singleton] at hx; rw [hx]; omega
  · replace g1 := of_decide_eq_false g1
    have e : ins.take i = ins := List.take_of_length_le (by omega)
    rw [e] at hl
    exact hQ false fun _ => ⟨by omega, hl⟩)

/-- What is made so far, of slices that are made: each in a block of its own. -/
def Made (n0 : Nat) (h : Heap) (q : Option SL) (ls : List (List Rec)) : Prop :=
  ∃ qs : List (Option SL), Apd slE h q qs ∧ qs.length = ls.length ∧ (∀ s, q = some s → n0 ≤ s.b) ∧ ∀ (i : Nat) (s : Option SL) (g : List Rec), qs[i]? = some s → ls[i]? = some g → HasL recE h s g ∧ ∀ u t, s = some u → q = some t → t.b ≠ u.b
theorem Made.nil {n0 : Nat} : Made n0 h none [] := ⟨[], .inl ⟨rfl, rfl⟩, rfl, (fun s hs => by cases hs), by simp⟩
theorem Made.inGG {n0 : Nat} (M : Made n0 h q ins) : InGG (fun b => b < h.length) h q ins := by
  obtain ⟨qs, A, hl, hn, he⟩ := M
  exact ⟨qs, A.hasL, hl, fun s hs => A.hasL.live s hs, fun i s g hs hg => ⟨(he i s g hs hg).1, fun u hu => (he i s g hs hg).1.live u hu⟩⟩
theorem Made.live {n0 : Nat} (M : Made n0 h q ins) : ∀ t, q = some t → t.b < h.length := by
  obtain ⟨qs, A, _⟩ := M
  exact A.hasL.live
/-- One more. -/
theorem Made.put {n0 : Nat} {h1 : Heap} {q2 : Option SL} {l : List Rec} {K : Option SL → Heap → Prop} (M : Made n0 h q ins) (hn0 : n0 ≤ h.length) (x : Ext h h1) (H : HasL recE h1 q2 l) (hq2 : ∀ u t, q2 = some u → q = some t → t.b ≠ u.b) (hl : ins.length ≤ 1000000)
    (hK : ∀ q' h', Made n0 h' q' (ins ++ [l]) → (∀ b B, b < n0 → h1[b]? = some B → h'[b]? = some B) → h1.length ≤ h'.length → K q' h') :
    PNew [.sl q2] true h1 fun a h2 => PAppendS 1 24 q (some ⟨a, 0, 1, 1, 0⟩) h2 K := by
  refine pnew_mk ?_
  obtain ⟨qs, A, hlq, hn, he⟩ := M
  have x2 := Ext.app h1 [Blk.cells [.sl q2] true]
  have Hn : HasL slE (h1 ++ [Blk.cells [.sl q2] true]) (some ⟨h1.length, 0, 1, 1, 0⟩) [q2] := HasL.new (n := 1) rfl rfl
  have l2 : (h1 ++ [Blk.cells [AV.sl q2] true]).length = h1.length + 1 := by simp
  generalize h1 ++ [Blk.cells [.sl q2] true] = h2 at *
  have xx := x.trans x2
  have lx := x.len
  refine Apd.append (E := slE) (A.ext xx) Hn (by simp; omega) fun q' h3 A3 K3 l3 hq' => ?_
  have live := A.hasL.live
  refine hK q' h3 ⟨qs ++ [q2], A3, by simp [hlq], fun s hs => ?_, fun i s g hs hg => ?_⟩ (fun b B hb hB => K3 b B (fun ⟨s, a1, a2⟩ => by have := hn s a1; omega) (x2 _ _ hB)) (by omega)
  · rcases hq' s hs with a | ⟨t, a1, a2⟩
    · omega
    · have := hn t a1; omega
  · rw [List.getElem?_append] at hs hg
    split at hs
    · rename_i hi
      rw [if_pos (by omega)] at hg
      obtain ⟨r1, r2⟩ := he i s g hs hg
      refine ⟨K3.hasL (fun u hu ⟨t, a1, a2⟩ => r2 u t hu a1 a2) (r1.mono xx), fun u t hu ht => ?_⟩
      have := r1.live u hu
      rcases hq' t ht with a | ⟨t2, a1, a2⟩
      · omega
      · rw [← a2]; exact r2 u t2 hu a1
    · rename_i hi
      rw [if_neg (by omega)] at hg
      have i0 : i - qs.length = 0 := by have := lt_of_get hs; simp at this; omega
      have i1 : i - ins.length = 0 := by omega
      rw [i0] at hs
      rw [i1] at hg
      simp at hs hg
      subst hs hg
      refine ⟨K3.hasL (fun u hu ⟨t, a1, a2⟩ => hq2 u t hu a1 a2) (H.mono x2), fun u t hu ht => ?_⟩
      have := H.live u hu
      rcases hq' t ht with a | ⟨t2, a1, a2⟩
      · omega
      · rw [← a2]; exact hq2 u t2 hu a1

set_option maxRecDepth 20000 in
/-- OperOrder -/
theorem s7 {op k a A : Int} {q2 q6 : Option SL} (G : InGG (fun b => b < h.length) h q ins) (hQ : ∀ h', Q (.bool true) h') : AC Try.prog 7 [.agg [.int .i64 op, .sl q2, .int .i64 k, .int .i64 a, .int .i64 A, .sl q6], .sl q] h Q := ac7 (by
  unfold vc7
  refine c20 G fun b hb => ⟨b, rfl, vif_mk (fun _ => s14 ⟨_, rfl, hQ _⟩) (fun g => ?_)⟩
  obtain ⟨hl10, hl5⟩ := hb g
  refine ⟨fun xs h18 => ∃ (q14 : Option SL) (i : Nat) (ss : List (List Rec)), xs = [.sl q14, .int .i64 i] ∧ i ≤ ins.length ∧ Ext h h18 ∧ Made h.length h18 q14 ss ∧ PermLs (ins.take i) ss ∧ (∀ l ∈ ss, l.length ≤ 5000), fun xs _ => match xs with | [_, .int _ i] => (ins.length - i).toNat | _ => 0, ⟨none, 0, [], rfl, by omega, .refl _, .nil, (by rw [List.take_zero]; trivial), by simp⟩, ?_⟩
  rintro q14 n15 h18 ⟨q14', i, ss, hx, hi, x18, M18, P18, b18⟩
  simp only [List.cons.injEq, AV.int.injEq, AV.sl.injEq, true_and, and_true] at hx
  obtain ⟨rfl, rfl⟩ := hx
  have hss := P18.len
  rw [List.length_take] at hss
  rw [G.len]
  refine vif_mk (fun g1 => ?_) (fun g1 => ?_)
  · replace g1 := of_decide_eq_true g1
    refine (G.mono x18).idx (i := i) (by omega) rfl fun pp s l hl hc Hl f => ⟨s, hc, ?_⟩
    have hll := hl5 l (List.mem_of_getElem? hl)
    refine o24 l.length (Nat.le_refl _) Hl (by omega) fun h22 q23 l' x22 H23 f23 P23 _ => ⟨q23, rfl, ?_⟩
    refine Made.put M18 x18.len x22 H23 (fun u t hu ht => ?_) (by omega) fun q26 h27 M27 K27 l27 => ?_
    · have := f23 u hu
      have := M18.live t ht
      omega
    · rw [wrapK_i64 ⟨by omega, by omega⟩]
      refine ⟨⟨rfl, trivial⟩, ⟨q26, i + 1, ss ++ [l'], by simp, by omega, fun b B hB => K27 b B (lt_of_get hB) (x22 _ _ (x18 _ _ hB)), M27, ?_, fun x hx => ?_⟩, by simp only; omega⟩
      · rw [List.take_add_one, hl]; exact P18.snoc P23.symm
      · rcases List.mem_append.1 hx with hx | hx
        · exact b18 x hx
        · simp only [List.mem_singleton] at hx; rw [hx, P23.length_eq]; exact hll
  · replace g1 := of_decide_eq_false g1
    have e : ins.take i = ins := List.take_of_length_le (by omega)
    rw [e] at P18
    have hE := apply_perm (op := op) (k := k) (a := a) (A := A) (nIn := slLen q2) (nB := slLen q6) P18
    have hS : sortR (madeV op k a ins) = sortR (madeV op k a ss) := sortR_perm_eq (made_perm P18)
    have M18' := M18.inGG
    by_cases h0 : applyE op (slLen q2) k a A (slLen q6) ins = 0
    · refine c21 (G.mono x18) (fun b hb => by have := x18.len; omega) (by omega) (fun l hl => by have := hl5 l hl; omega) (fun hn => absurd h0 hn) fun _ q30 h29 N29 => ⟨q30, 0, rfl, ?_⟩
      refine c21 (M18'.mono N29.1) (fun b hb => by have := N29.1.len; omega) (by omega) (fun l hl => by have := b18 l hl; omega) (fun hn => absurd (by rw [← hE]; exact h0) hn) fun _ q34 h33 N33 => ⟨q34, 0, rfl, s14 ⟨true, rfl, ?_⟩⟩
      refine vif_mk (fun _ => ?_) (fun g => by simp at g)
      refine vif_mk (fun _ => ?_) (fun g => by simp at g)
      have hml : (sortR (madeV op k a ins)).length ≤ 4611686018427387904 := by
        rw [sortR_len]
        unfold applyE at h0
        split at h0
        · cases h0
        split at h0
        · rename_i g; exact absurd h0 g
        split at h0
        · cases h0
        · omega
      refine o13 (N29.hasL.mono N33.1) N33.hasL hml ⟨_, rfl, ?_⟩
      rw [decide_eq_true hS]; exact hQ _
    · refine c21 (G.mono x18) (fun b hb => by have := x18.len; omega) (by omega) (fun l hl => by have := hl5 l hl; omega) (fun _ h29 x29 => ⟨none, _, rfl, ?_⟩) (fun hn => absurd hn h0)
      refine c21 (M18'.mono x29) (fun b hb => by have := x29.len; omega) (by omega) (fun l hl => by have := b18 l hl; omega) (fun _ h33 x33 => ⟨none, _, rfl, s14 ⟨true, rfl, ?_⟩⟩) (fun hn => absurd (by rw [hE]; exact hn) h0)
      refine vif_mk (fun _ => ?_) (fun g => by simp at g)
      refine vif_mk (fun _ => ?_) (fun g => by rw [hE] at g; simp at g)
      refine o13 (l := []) (m := []) rfl rfl (by simp) ⟨_, rfl, ?_⟩
      exact hQ _)
end
end Go.Proofs.Ytfafgnmlnhklaaa

/- Bags that are cut anywhere: the plain law. -/
namespace Go.Proofs.Ytfafgnmlnhklaaa
open Go.Ab
set_option linter.unusedVariables false
set_option linter.unusedSimpArgs false

/-- Each bag is one piece, and another behind it. -/
def CutLs : List (List Rec) → List (List Rec) → List (List Rec) → Prop
  | [], [], [] => True
  | l :: ls, x :: xs, y :: ys => l = x ++ y ∧ CutLs ls xs ys
  | _, _, _ => False
theorem CutLs.len : ∀ {l a b : List (List Rec)}, CutLs l a b → l.length = a.length ∧ l.length = b.length
  | [], [], [], _ => ⟨rfl, rfl⟩
  | _ :: _, _ :: _, _ :: _, h => by
    have := CutLs.len h.2
    simp [this.1, this.2.symm]
  | [], _ :: _, _, h => h.elim
  | [], [], _ :: _, h => h.elim
  | _ :: _, [], _, h => h.elim
  | _ :: _, _ :: _, [], h => h.elim
theorem CutLs.getD : ∀ {l a b : List (List Rec)} {i : Nat}, CutLs l a b → l.getD i [] = a.getD i [] ++ b.getD i []
  | [], [], [], _, _ => rfl
  | _ :: _, _ :: _, _ :: _, 0, h => h.1
  | _ :: _, _ :: _, _ :: _, i + 1, h => by simpa using CutLs.getD (i := i) h.2
  | [], _ :: _, _, _, h => h.elim
  | [], [], _ :: _, _, h => h.elim
  | _ :: _, [], _, _, h => h.elim
  | _ :: _, _ :: _, [], _, h => h.elim
theorem CutLs.snoc : ∀ {l a b : List (List Rec)} {x y : List Rec}, CutLs l a b → CutLs (l ++ [x ++ y]) (a ++ [x]) (b ++ [y])
  | [], [], [], _, _, _ => ⟨rfl, trivial⟩
  | _ :: _, _ :: _, _ :: _, _, _, h => ⟨h.1, CutLs.snoc h.2⟩
  | [], _ :: _, _, _, _, h => h.elim
  | [], [], _ :: _, _, _, h => h.elim
  | _ :: _, [], _, _, _, h => h.elim
  | _ :: _, _ :: _, [], _, _, h => h.elim
theorem mayC_cut {x y : List Rec} (h : mayC (x ++ y) = 0) : mayC x = 0 ∧ mayC y = 0 := by
  obtain ⟨h1, h2⟩ := mayC0 h
  rw [List.all_append, Bool.and_eq_true] at h1
  rw [List.length_append] at h2
  unfold mayC
  rw [if_pos h1.1, if_pos h1.2, if_neg (by omega), if_neg (by omega)]
  exact ⟨rfl, rfl⟩
theorem insE_mk : ∀ {ls : List (List Rec)}, (∀ l ∈ ls, mayC l = 0) → insE ls = 0
  | [], _ => rfl
  | x :: ls, h => by
    unfold insE
    rw [if_neg (by rw [h x (by simp)]; simp)]
    exact insE_mk fun l hl => h l (by simp [hl])
theorem CutLs.ins : ∀ {l a b : List (List Rec)}, CutLs l a b → insE l = 0 → insE a = 0 ∧ insE b = 0
  | [], [], [], _, _ => ⟨rfl, rfl⟩
  | l :: ls, x :: xs, y :: ys, h, hi => by
    have h0 := insE0 hi
    have hl := h0 l (by simp)
    rw [h.1] at hl
    have hc := mayC_cut hl
    have := CutLs.ins h.2 (insE_mk fun z hz => h0 z (by simp [hz]))
    unfold insE
    rw [hc.1, hc.2]
    simpa using this
  | [], _ :: _, _, h, _ => h.elim
  | [], [], _ :: _, h, _ => h.elim
  | _ :: _, [], _, h, _ => h.elim
  | _ :: _, _ :: _, [], h, _ => h.elim
theorem made_cut {op k a : Int} (h5 : op ≠ 5) (h6 : op ≠ 6) (h7 : op ≠ 7) {l x y : List (List Rec)} (h : CutLs l x y) : (madeV op k a x ++ madeV op k a y).Perm (madeV op k a l) := by
  have g := fun i => h.getD (i := i)
  unfold madeV
  simp only [if_neg h5, if_neg h6, if_neg h7]
  split
  · rw [g 0, g 1]
    simp only [List.append_assoc]
    refine List.Perm.append_left _ ?_
    simp only [← List.append_assoc]
    exact List.Perm.append_right _ List.perm_append_comm
  · rw [g 0, List.flatMap_append]
theorem apply_cut {op k a A : Int} {nIn nB : Nat} (h5 : op ≠ 5) (h6 : op ≠ 6) (h7 : op ≠ 7) {l x y : List (List Rec)} (h : CutLs l x y) (he : applyE op nIn k a A nB l = 0) : applyE op nIn k a A nB x = 0 ∧ applyE op nIn k a A nB y = 0 ∧ (madeV op k a l).length ≤ 4096 := by
  have hp := (made_cut (k := k) (a := a) h5 h6 h7 h).length_eq
  rw [List.length_append] at hp
  have hl := h.len
  unfold applyE at he ⊢
  split at he
  · cases he
  rename_i g1
  split at he
  · rename_i g; exact absurd he g
  rename_i g2
  have hi := h.ins (Classical.not_not.1 g2)
  split at he
  · cases he
  rename_i g3
  rw [← hl.1, ← hl.2, hi.1, hi.2, if_neg g1, if_neg (by simp), if_neg (by omega), if_neg g1, if_neg (by simp), if_neg (by omega)]
  exact ⟨rfl, rfl, by omega⟩
end Go.Proofs.Ytfafgnmlnhklaaa

/- OperCuts: the walk. -/
namespace Go.Proofs.Ytfafgnmlnhklaaa
open Go.Ab
set_option linter.unusedVariables false
set_option linter.unusedSimpArgs false

section
variable {h : Heap} {Q : AV → Heap → Prop} {q : Option SL} {ins : List (List Rec)}
/-- One of two lists of slices that are made side by side, of what lay there. -/
def Side (n0 : Nat) (h : Heap) (q : Option SL) (ls : List (List Rec)) : Prop :=
  ∃ qs : List (Option SL), Apd slE h q qs ∧ qs.length = ls.length ∧ (∀ s, q = some s → n0 ≤ s.b) ∧ ∀ (i : Nat) (s : Option SL) (g : List Rec), qs[i]? = some s → ls[i]? = some g → HasL recE h s g ∧ ∀ u, s = some u → u.b < n0
theorem Side.nil {n0 : Nat} : Side n0 h none [] := ⟨[], .inl ⟨rfl, rfl⟩, rfl, (fun s hs => by cases hs), by simp⟩
theorem Side.live {n0 : Nat} (M : Side n0 h q ins) : ∀ t, q = some t → t.b < h.length := by
  obtain ⟨qs, A, _⟩ := M
  exact A.hasL.live
theorem Side.inGG {n0 : Nat} (M : Side n0 h q ins) : InGG (fun b => b < h.length) h q ins := by
  obtain ⟨qs, A, hl, hn, he⟩ := M
  exact ⟨qs, A.hasL, hl, fun s hs => A.hasL.live s hs, fun i s g hs hg => ⟨(he i s g hs hg).1, fun u hu => (he i s g hs hg).1.live u hu⟩⟩
/-- What is not of one side stays. -/
theorem Side.keeps {n0 : Nat} {h' : Heap} {X : Nat → Prop} (M : Side n0 h q ins) (K : Keeps X h h') (hX : ∀ b, X b → n0 ≤ b) (hq : ∀ s, q = some s → ¬ X s.b) : Side n0 h' q ins := by
  obtain ⟨qs, A, hl, hn, he⟩ := M
  exact ⟨qs, A.keeps K hq, hl, hn, fun i s g hs hg => ⟨K.hasL (fun u hu hx => by have := (he i s g hs hg).2 u hu; have := hX _ hx; omega) (he i s g hs hg).1, (he i s g hs hg).2⟩⟩
theorem Side.grow {n0 : Nat} {h' : Heap} (M : Side n0 h q ins) (x : Ext h h') : Side n0 h' q ins := M.keeps (X := fun _ => False) (keeps_of_ext x) (fun _ h => h.elim) (fun _ _ h => h)
/-- One more. -/
theorem Side.put {n0 : Nat} {q2 : Option SL} {l : List Rec} {K : Option SL → Heap → Prop} (M : Side n0 h q ins) (hn0 : n0 ≤ h.length) (H : HasL recE h q2 l) (hq2 : ∀ u, q2 = some u → u.b < n0) (hl : ins.length ≤ 1000000)
    (hK : ∀ q' h', Side n0 h' q' (ins ++ [l]) → Keeps (fun b => ∃ s, q = some s ∧ s.b = b) h h' → h.length ≤ h'.length → (∀ s', q' = some s' → h.length ≤ s'.b ∨ ∃ s, q = some s ∧ s.b = s'.b) → K q' h') :
    PNew [.sl q2] true h fun a h2 => PAppendS 1 24 q (some ⟨a, 0, 1, 1, 0⟩) h2 K := by
  refine pnew_mk ?_
  obtain ⟨qs, A, hlq, hn, he⟩ := M
  have x2 := Ext.app h [Blk.cells [.sl q2] true]
  have Hn : HasL slE (h ++ [Blk.cells [.sl q2] true]) (some ⟨h.length, 0, 1, 1, 0⟩) [q2] := HasL.new (n := 1) rfl rfl
  have l2 : (h ++ [Blk.cells [AV.sl q2] true]).length = h.length + 1 := by simp
  generalize h ++ [Blk.cells [.sl q2] true] = h2 at *
  refine Apd.append (E := slE) (A.ext x2) Hn (by simp; omega) fun q' h3 A3 K3 l3 hq' => ?_
  have KK : Keeps (fun b => ∃ s, q = some s ∧ s.b = b) h h3 := (keeps_of_ext x2).trans K3
  refine hK q' h3 ⟨qs ++ [q2], A3, by simp [hlq], fun s hs => ?_, fun i s g hs hg => ?_⟩ KK (by omega) (fun s hs => ?_)
  · rcases hq' s hs with a | ⟨t, a1, a2⟩
    · omega
    · have := hn t a1; omega
  · have key : ∀ {s : Option SL} {g : List Rec}, HasL recE h s g → (∀ u, s = some u → u.b < n0) → HasL recE h3 s g ∧ ∀ u, s = some u → u.b < n0 := fun H1 h1 => ⟨KK.hasL (fun u hu ⟨t, a1, a2⟩ => by have := h1 u hu; have := hn t a1; omega) H1, h1⟩
    rw [List.getElem?_append] at hs hg
    split at hs
    · rename_i hi
      rw [if_pos (by omega)] at hg
      exact key (he i s g hs hg).1 (he i s g hs hg).2
    · rename_i hi
      rw [if_neg (by omega)] at hg
      have i0 : i - qs.length = 0 := by have := lt_of_get hs; simp at this; omega
      have i1 : i - ins.length = 0 := by omega
      rw [i0] at hs
      rw [i1] at hg
      simp at hs hg
      subst hs hg
      exact key H hq2
  · rcases hq' s hs with a | b
    · exact .inl (by omega)
    · exact .inr b
/-- ref03.Same -/
theorem c23 {q2 : Option SL} {l m : List Rec} (H : HasL recE h q l) (H2 : HasL recE h q2 m) (hl : l.length ≤ 1000000) (hm : m.length ≤ 1000000) (hp : l.Perm m) (hQ : ∀ h', Q (.bool true) h') : AC Try.prog 23 [.sl q, .sl q2] h Q := ac23 (by
  unfold vc23
  rw [H.len, H2.len]
  have hle := hp.length_eq
  refine vif_mk (fun _ => ?_) (fun g => by rw [hle] at g; simp at g)
  refine o24 l.length (Nat.le_refl _) H (by omega) fun h1 q1 l1 x1 H1 _ P1 S1 => ⟨_, rfl, ?_⟩
  refine o24 m.length (Nat.le_refl _) (H2.mono x1) (by omega) fun h3 q3 m1 x3 H3 _ P3 S3 => ⟨_, rfl, ?_⟩
  have e : l1 = m1 := sorted_uniqR S1 S3 (P1.trans (hp.trans P3.symm))
  refine o13 (H1.mono x3) H3 (by rw [P1.length_eq]; omega) ⟨_, rfl, ?_⟩
  rw [decide_eq_true e]
  exact hQ _)

/-- Both sides, what was cut. -/
def Cut (n0 : Nat) (h : Heap) (qa qb : Option SL) (done : List (List Rec)) : Prop :=
  ∃ xs ys, Side n0 h qa xs ∧ Side n0 h qb ys ∧ CutLs done xs ys ∧ ∀ s t, qa = some s → qb = some t → s.b ≠ t.b

set_option maxRecDepth 20000 in
/-- One bag cut. -/
theorem cutStep {h0 : Heap} {qa qb q7 : Option SL} {done ins : List (List Rec)} {l : List Rec} {i k : Nat} {kx : Int} {n : Int} {K : Option SL → Option SL → Heap → Prop} (hkx : kx = k) (hn : n = i) (C : Cut h0.length h qa qb done) (x : Ext h0 h) (G : InGG (fun b => b < h0.length) h0 q7 ins) (hl : ins[i]? = some l) (hk : k ≤ l.length) (hd : done.length ≤ 1000)
    (hK : ∀ qa' qb' h', Cut h0.length h' qa' qb' (done ++ [l]) → Ext h0 h' → K qa' qb' h') :
    vIdx q7 n 1 fun p51 => ∃ q52 : Option SL, cellsAt h p51 1 = some [.sl q52] ∧ PSlice 2 q52 0 (some kx) none fun q53 => PNew [.sl q53] true h fun a54 h55 => PAppendS 1 24 qa (some ⟨a54, 0, 1, 1, 0⟩) h55 fun q56 h57 =>
      vIdx q7 n 1 fun p58 => ∃ q59 : Option SL, cellsAt h57 p58 1 = some [.sl q59] ∧ PSlice 2 q59 kx none none fun q60 => PNew [.sl q60] true h57 fun a61 h62 => PAppendS 1 24 qb (some ⟨a61, 0, 1, 1, 0⟩) h62 fun q63 h64 => K q56 q63 h64 := by
  subst hkx
  obtain ⟨xs, ys, A, B, CL, ne⟩ := C
  have hlt := lt_of_get hl
  have lens := CL.len
  have lx := x.len
  refine (G.mono x).idx (i := i) hlt hn fun p51 s l2 hl2 hc Hl f => ⟨s, hc, ?_⟩
  rw [hl] at hl2; cases hl2
  refine HasL.slice2 (E := recE) Hl (by omega) (by simp) (by simp; omega) fun q53 H53 f53 => ?_
  have e1 : (l.take ((Option.getD (some (k : Int)) ((l.length : Nat) : Int))).toNat).drop (0 : Int).toNat = l.take k := by simp
  rw [e1] at H53
  refine Side.put A lx H53 (fun u hu => by obtain ⟨t, a1, a2⟩ := f53 u hu; rw [a2]; exact f t a1) (by omega) fun q56 h57 A57 K57 l57 o57 => ?_
  have fr : ∀ t, qa = some t → h0.length ≤ t.b := by obtain ⟨_, _, _, hn0, _⟩ := A; exact hn0
  have x57 : Ext h0 h57 := by
    intro b C hC
    have := lt_of_get hC
    exact K57 b C (fun ⟨t, a1, a2⟩ => by have := fr t a1; omega) (x b C hC)
  have B57 : Side h0.length h57 qb ys := B.keeps K57 (fun b ⟨t, a1, a2⟩ => by have := fr t a1; omega) (fun s hs ⟨t, a1, a2⟩ => ne t s a1 hs a2)
  refine (G.mono x57).idx (i := i) hlt hn fun p58 s2 l2 hl2 hc2 Hl2 f2 => ⟨s2, hc2, ?_⟩
  rw [hl] at hl2; cases hl2
  refine HasL.slice2 (E := recE) Hl2 (by omega) (by simp; omega) (by simp) fun q60 H60 f60 => ?_
  have e2 : (l.take ((Option.getD none ((l.length : Nat) : Int))).toNat).drop (k : Int).toNat = l.drop k := by simp
  rw [e2] at H60
  have ne57 : ∀ s t, q56 = some s → qb = some t → s.b ≠ t.b := by
    intro s t hs ht
    have := B.live t ht
    rcases o57 s hs with a | ⟨u, a1, a2⟩
    · omega
    · rw [← a2]; exact ne u t a1 ht
  refine Side.put B57 (by omega) H60 (fun u hu => by obtain ⟨t, a1, a2⟩ := f60 u hu; rw [a2]; exact f2 t a1) (by omega) fun q63 h64 B64 K64 l64 o64 => ?_
  have frb : ∀ t, qb = some t → h0.length ≤ t.b := by obtain ⟨_, _, _, hn0, _⟩ := B; exact hn0
  refine hK q56 q63 h64 ⟨_, _, A57.keeps K64 (fun b ⟨t, a1, a2⟩ => by have := frb t a1; omega) (fun s hs ⟨t, a1, a2⟩ => ne57 s t hs a1 a2.symm), B64, ?_, fun s t hs ht => ?_⟩ (fun b C hC => ?_)
  · have := CL.snoc (x := l.take k) (y := l.drop k)
    rw [List.take_append_drop] at this
    exact this
  · have := A57.live s hs
    rcases o64 t ht with a | ⟨u, a1, a2⟩
    · omega
    · rw [← a2]; exact ne57 s u hs a1
  · have := lt_of_get hC
    exact K64 b C (fun ⟨t, a1, a2⟩ => by have := frb t a1; omega) (x57 b C hC)
end
end Go.Proofs.Ytfafgnmlnhklaaa

/- OperCuts: its law. -/
namespace Go.Proofs.Ytfafgnmlnhklaaa
open Go.Ab
set_option linter.unusedVariables false
set_option linter.unusedSimpArgs false

section
variable {h : Heap} {Q : AV → Heap → Prop} {q q8 : Option SL} {ins : List (List Rec)} {cuts : List Int}
theorem madeLen {op k a A : Int} {nIn nB : Nat} (h0 : applyE op nIn k a A nB ins = 0) : (madeV op k a ins).length ≤ 4096 := by
  unfold applyE at h0
  split at h0
  · cases h0
  split at h0
  · rename_i g; exact absurd h0 g
  split at h0
  · cases h0
  · omega
set_option maxRecDepth 20000 in
/-- OperCuts -/
theorem s6 {op k a A : Int} {q2 q6 : Option SL} (G : InGG (fun b => b < h.length) h q ins) (HC : HasL intE h q8 cuts) (hQ : ∀ h', Q (.bool true) h') : AC Try.prog 6 [.agg [.int .i64 op, .sl q2, .int .i64 k, .int .i64 a, .int .i64 A, .sl q6], .sl q, .sl q8] h Q := ac6 (by
  unfold vc6
  refine c20 G fun b hb => ⟨b, rfl, vif_mk (fun _ => s14 ⟨_, rfl, hQ _⟩) (fun g => ?_)⟩
  obtain ⟨hl10, hl5⟩ := hb g
  refine vif_mk (fun _ => s14 ⟨_, rfl, hQ _⟩) (fun g5 => vif_mk (fun _ => s14 ⟨_, rfl, hQ _⟩) (fun g6 => vif_mk (fun _ => s14 ⟨_, rfl, hQ _⟩) (fun g7 => ?_)))
  have g5 : op ≠ 5 := by simpa using g5
  have g6 : op ≠ 6 := by simpa using g6
  have g7 : op ≠ 7 := by simpa using g7
  by_cases h0 : applyE op (slLen q2) k a A (slLen q6) ins = 0
  · refine c21 G (fun b hb => hb) (by omega) (fun l hl => by have := hl5 l hl; omega) (fun hn => absurd h0 hn) fun _ q26 h25 N25 => ⟨q26, 0, rfl, s14 ⟨true, rfl, ?_⟩⟩
    refine vif_mk (fun g => by simp at g) (fun _ => vif_mk (fun g => by simp at g) (fun _ => ?_))
    have x25 := N25.1
    have hml := madeLen h0
    -- all blocks that were there stay
    have G25 := G.mono x25
    refine ⟨fun xs h42 => ∃ (qa qb : Option SL) (i : Nat), xs = [.sl qa, .sl qb, .int .i64 i] ∧ i ≤ ins.length ∧ Ext h25 h42 ∧ Cut h25.length h42 qa qb (ins.take i), fun xs _ => match xs with | [_, _, .int _ i] => (ins.length - i).toNat | _ => 0, ⟨none, none, 0, rfl, by omega, .refl _, [], [], .nil, .nil, (by rw [List.take_zero]; trivial), fun s t hs => by cases hs⟩, ?_⟩
    rintro qa qb n39 h42 ⟨qa', qb', i, hx, hi, x42, C42⟩
    simp only [List.cons.injEq, AV.int.injEq, AV.sl.injEq, true_and, and_true] at hx
    obtain ⟨rfl, rfl, rfl⟩ := hx
    have G25' : InGG (fun b => b < h25.length) h25 q ins := by
      obtain ⟨qs, g1, g2, g3, g4⟩ := G25
      exact ⟨qs, g1, g2, fun s hs => by have := g3 s hs; have := x25.len; omega, fun i s g hs hg => ⟨(g4 i s g hs hg).1, fun u hu => by have := (g4 i s g hs hg).2 u hu; have := x25.len; omega⟩⟩
    have HC42 := (HC.mono x25).mono x42
    rw [G.len, HC.len]
    refine vif_mk (fun g1 => ?_) (fun g1 => ?_)
    · replace g1 := of_decide_eq_true g1
      have hl : ins[i]? = some ins[i] := List.getElem?_eq_getElem (by omega)
      generalize ins[i] = l at *
      have w : wrapK .i64 ((i : Int) + 1) = ((i + 1 : Nat) : Int) := by rw [wrapK_i64 ⟨by omega, by omega⟩]; omega
      have dl : (ins.take i).length ≤ 1000 := by rw [List.length_take]; omega
      have et : ins.take (i + 1) = ins.take i ++ [l] := by rw [List.take_add_one, hl]; rfl
      rw [w]
      refine vif_mk (fun g2 => ?_) (fun g2 => ?_)
      · replace g2 := of_decide_eq_true g2
        have hcx : cuts[i]? = some cuts[i] := List.getElem?_eq_getElem (by omega)
        generalize cuts[i] = c at *
        have atc : ∀ {K : PA → Prop}, (∀ p, cellsAt h42 p 1 = some [.int .i64 c] → K p) → vIdx q8 (i : Int) 1 K := fun hK => HC42.idx (E := intE) (by omega) (by omega) fun p x hx hc => by
          have : x = c := by rw [Int.toNat_natCast, hcx] at hx; exact (Option.some.inj hx).symm
          subst this; exact hK p hc
        refine atc fun p hp => ⟨c, hp, vif_mk (fun g3 => ?_) (fun g3 => ?_)⟩
        · replace g3 := of_decide_eq_true g3
          refine atc fun p hp => ⟨c, hp, (G25'.mono x42).idx (i := i) (by omega) rfl fun pp s l2 hl2 hc2 Hl2 f2 => ⟨s, hc2, ?_⟩⟩
          rw [hl] at hl2; cases hl2
          rw [Hl2.len]
          refine vif_mk (fun g4 => ?_) (fun g4 => ?_)
          · replace g4 := of_decide_eq_true g4
            refine atc fun p hp => ⟨c, hp, ?_⟩
            exact cutStep (k := c.toNat) (by omega) rfl C42 x42 G25' hl (by omega) dl fun qa' qb' h' C' x' => ⟨⟨rfl, trivial⟩, ⟨qa', qb', i + 1, rfl, by omega, x', by rw [et]; exact C'⟩, by simp only; omega⟩
          · exact cutStep (k := 0) rfl rfl C42 x42 G25' hl (by omega) dl fun qa' qb' h' C' x' => ⟨⟨rfl, trivial⟩, ⟨qa', qb', i + 1, rfl, by omega, x', by rw [et]; exact C'⟩, by simp only; omega⟩
        · exact cutStep (k := 0) rfl rfl C42 x42 G25' hl (by omega) dl fun qa' qb' h' C' x' => ⟨⟨rfl, trivial⟩, ⟨qa', qb', i + 1, rfl, by omega, x', by rw [et]; exact C'⟩, by simp only; omega⟩
      · exact cutStep (k := 0) rfl rfl C42 x42 G25' hl (by omega) dl fun qa' qb' h' C' x' => ⟨⟨rfl, trivial⟩, ⟨qa', qb', i + 1, rfl, by omega, x', by rw [et]; exact C'⟩, by simp only; omega⟩
    · replace g1 := of_decide_eq_false g1
      have e : ins.take i = ins := List.take_of_length_le (by omega)
      rw [e] at C42
      obtain ⟨xs, ys, SA, SB, CL, _⟩ := C42
      obtain ⟨ea, eb, _⟩ := apply_cut g5 g6 g7 CL h0
      have hp := made_cut (k := k) (a := a) g5 g6 g7 CL
      have hpl := hp.length_eq
      rw [List.length_append] at hpl
      have lens := CL.len
      have each : ∀ {l x y : List (List Rec)}, CutLs l x y → (∀ z ∈ l, z.length ≤ 5000) → (∀ z ∈ x, z.length ≤ 5000) ∧ ∀ z ∈ y, z.length ≤ 5000 := by
        intro l
        induction l with
        | nil => intro x y h _; cases x <;> cases y <;> first | exact h.elim | simp
        | cons z l ih =>
          intro x y h hz
          cases x with
          | nil => exact h.elim
          | cons x0 x =>
            cases y with
            | nil => exact h.elim
            | cons y0 y =>
              have := ih h.2 fun w hw => hz w (by simp [hw])
              have h1 := hz z (by simp)
              rw [h.1, List.length_append] at h1
              refine ⟨fun w hw => ?_, fun w hw => ?_⟩
              · rcases List.mem_cons.1 hw with rfl | hw
                · omega
                · exact this.1 w hw
              · rcases List.mem_cons.1 hw with rfl | hw
                · omega
                · exact this.2 w hw
      obtain ⟨ba, bb⟩ := each CL hl5
      refine c21 SA.inGG (fun b hb => hb) (by omega) (fun l hl => by have := ba l hl; omega) (fun hn => absurd ea hn) fun _ q109 h108 N1 => ⟨q109, 0, rfl, ?_⟩
      refine c21 ((SB.grow N1.1).inGG) (fun b hb => hb) (by omega) (fun l hl => by have := bb l hl; omega) (fun hn => absurd eb hn) fun _ q113 h112 N2 => ⟨q113, 0, rfl, ?_⟩
      refine vif_mk (fun _ => ?_) (fun g => by simp at g)
      refine vif_mk (fun _ => ?_) (fun g => by simp at g)
      refine AppJ.append (E := recE) (N1.2.1.ext N2.1) N2.hasL (by rw [sortR_len, sortR_len]; omega) fun q115 h116 A K l116 o => ?_
      have x112 : Ext h25 h112 := x42.trans (N1.1.trans N2.1)
      have H26 : HasL recE h116 q26 (sortR (madeV op k a ins)) := by
        refine K.hasL (fun s hs ⟨t, a1, a2⟩ => ?_) (N25.hasL.mono x112)
        have h1 := N1.2.2 t a1
        have h2 := N25.hasL.live s hs
        have := x42.len
        omega
      refine c23 A.hasL H26 (by rw [List.length_append, sortR_len, sortR_len]; omega) (by rw [sortR_len]; omega) ?_ fun h' => ⟨true, rfl, hQ _⟩
      exact (((sortR_perm _).append (sortR_perm _)).trans hp).trans (sortR_perm _).symm
  · refine c21 G (fun b hb => hb) (by omega) (fun l hl => by have := hl5 l hl; omega) (fun _ h25 x25 => ⟨none, _, rfl, s14 ⟨true, rfl, ?_⟩⟩) (fun hn => absurd hn h0)
    exact vif_mk (fun g => by simp at g) (fun _ => vif_mk (fun _ => s14 ⟨_, rfl, hQ _⟩) (fun g => absurd (by simpa using g) h0)))
end
end Go.Proofs.Ytfafgnmlnhklaaa
