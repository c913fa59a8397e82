/- OperOnce: each once, of each once; both bags together. -/
import Derived.Test.YtfafgnmlnhklaaaAG16
import Derived.Test.YtfafgnmlnhklaaaAG21
namespace Go.Proofs.Ytfafgnmlnhklaaa
open Go.Ab
set_option linter.unusedVariables false
set_option linter.unusedSimpArgs false

theorem ddf_idem : ∀ {l : List Rec} {p : Rec}, ddf p (ddf p l) = ddf p l
  | [], p => rfl
  | x :: l, p => by
    by_cases h : x = p
    · have e : ddf p (x :: l) = ddf p l := by simp only [ddf, if_pos h]
      rw [e, ddf_idem]
    · have e : ddf p (x :: l) = x :: ddf x l := by simp only [ddf, if_neg h]
      rw [e]
      simp only [ddf, if_neg h]
      rw [ddf_idem]
theorem dd_idem {l : List Rec} : dd (dd l) = dd l := by
  cases l with
  | nil => rfl
  | cons x l => simp only [dd, ddf_idem]
theorem sortR_self {l : List Rec} (h : l.Pairwise fun a b => leR a b = true) : sortR l = l := sortR_eq h (.refl l)
theorem dd_sorted {l : List Rec} : (dd (sortR l)).Pairwise fun a b => leR a b = true := (sortR_sorted l).sublist dd_sub

section
variable {h : Heap} {Q : AV → Heap → Prop} {q q' : Option SL} {l l' : List Rec}
theorem inGG1 (H : HasL recE h q l) : InGG (fun b => b < (h ++ [Blk.cells [.sl q] true]).length) (h ++ [Blk.cells [.sl q] true]) (some ⟨h.length, 0, 1, 1, 0⟩) [l] := by
  refine ⟨[q], HasL.new (n := 1) rfl rfl, rfl, fun s hs => by cases hs; simp, fun i s g hs hg => ?_⟩
  match i with
  | 0 => cases hs; cases hg; exact ⟨H.mono (Ext.app _ _), fun u hu => by have := H.live u hu; simp; omega⟩
  | i + 1 => simp at hs
theorem inGG2 (H : HasL recE h q l) (H' : HasL recE h q' l') : InGG (fun b => b < (h ++ [Blk.cells [.sl q, .sl q'] true]).length) (h ++ [Blk.cells [.sl q, .sl q'] true]) (some ⟨h.length, 0, 2, 2, 0⟩) [l, l'] := by
  refine ⟨[q, q'], HasL.new (n := 2) rfl rfl, rfl, fun s hs => by cases hs; simp, fun i s g hs hg => ?_⟩
  match i with
  | 0 => cases hs; cases hg; exact ⟨H.mono (Ext.app _ _), fun u hu => by have := H.live u hu; simp; omega⟩
  | 1 => cases hs; cases hg; exact ⟨H'.mono (Ext.app _ _), fun u hu => by have := H'.live u hu; simp; omega⟩
  | i + 2 => simp at hs

theorem once_E {l : List Rec} (h : mayC l = 0) : applyE 7 1 0 0 0 0 [l] = 0 := by
  have hl := (mayC0 h).2
  have hd := dd_len (l := sortR l)
  rw [sortR_len] at hd
  unfold applyE
  rw [if_neg (by simp; decide), if_neg (by simp [insE, h]), if_neg]
  have e : madeV 7 0 0 [l] = dd (sortR l) := rfl
  rw [e]; omega
theorem both_E {l m : List Rec} (h : mayC l = 0) (h' : mayC m = 0) (hl : l.length ≤ 2000) (hm : m.length ≤ 2000) : applyE 8 2 0 0 0 0 [l, m] = 0 := by
  unfold applyE
  rw [if_neg (by simp; decide), if_neg (by simp [insE, h, h']), if_neg]
  have e : madeV 8 0 0 [l, m] = l ++ m := rfl
  rw [e, List.length_append]; omega

/-- Each once. -/
theorem once (H : HasL recE h q l) (hm : mayC l = 0) {b : Nat} {o : Nat} (hQ : ∀ q' h', NewJ recE h h' q' (dd (sortR l)) → Q (.tup [.sl q', .int .i64 0]) h') :
    PNew [.sl q] true h fun a h1 => AC Try.prog 21 [.agg [.int .i64 7, .sl (some ⟨b, 0, 1, 1, 0⟩), .int .i64 0, .int .i64 0, .int .i64 0, .sl none], .sl (some ⟨a, 0, 1, 1, 0⟩)] h1 Q := by
  refine pnew_mk ?_
  have hl := (mayC0 hm).2
  refine c21 (inGG1 H) (fun b hb => hb) (by simp) (by simp; omega) (fun hn => absurd (once_E hm) hn) fun _ q' h' N => ?_
  have e : sortR (madeV 7 0 0 [l]) = dd (sortR l) := sortR_self dd_sorted
  rw [e] at N
  exact hQ q' h' (N.back (Ext.app _ _))
/-- Both. -/
theorem both (H : HasL recE h q l) (H' : HasL recE h q' l') (hm : mayC l = 0) (hm' : mayC l' = 0) (hl : l.length ≤ 2000) (hl' : l'.length ≤ 2000) {b : Nat} (hQ : ∀ q' h', NewJ recE h h' q' (sortR (l ++ l')) → Q (.tup [.sl q', .int .i64 0]) h') :
    PNew [.sl q, .sl q'] true h fun a h1 => AC Try.prog 21 [.agg [.int .i64 8, .sl (some ⟨b, 0, 2, 2, 0⟩), .int .i64 0, .int .i64 0, .int .i64 0, .sl none], .sl (some ⟨a, 0, 2, 2, 0⟩)] h1 Q := by
  refine pnew_mk ?_
  exact c21 (inGG2 H H') (fun b hb => hb) (by simp) (by simp; omega) (fun hn => absurd (both_E hm hm' hl hl') hn) fun _ q' h' N => hQ q' h' (N.back (Ext.app _ _))

set_option maxRecDepth 20000 in
/-- OperOnce -/
theorem s8 (H : HasL recE h q l) (H' : HasL recE h q' l') (hQ : ∀ h', Q (.bool true) h') : AC Try.prog 8 [.sl q, .sl q'] h Q := ac8 (by
  unfold vc8
  rw [H.len, H'.len]
  refine vif_mk (fun _ => s14 ⟨_, rfl, hQ _⟩) (fun g1 => vif_mk (fun _ => s14 ⟨_, rfl, hQ _⟩) (fun g2 => ?_))
  have g1 := of_decide_eq_false g1
  have g2 := of_decide_eq_false g2
  refine o25 H (by omega) ⟨_, rfl, vif_mk (fun _ => s14 ⟨_, rfl, hQ _⟩) (fun g3 => ?_)⟩
  refine o25 H' (by omega) ⟨_, rfl, vif_mk (fun _ => s14 ⟨_, rfl, hQ _⟩) (fun g4 => ?_)⟩
  have m1 : mayC l = 0 := by simpa using g3
  have m2 : mayC l' = 0 := by simpa using g4
  refine pnew_mk (pnew_mk ?_)
  have x24 := (Ext.app h [Blk.cells [.int .i64 0] true]).trans (Ext.app (h ++ [Blk.cells [.int .i64 0] true]) [Blk.cells [.int .i64 0, .int .i64 1] true])
  generalize h ++ [Blk.cells [.int .i64 0] true] ++ [Blk.cells [.int .i64 0, .int .i64 1] true] = h24 at *
  have H24 := H.mono x24
  have H24' := H'.mono x24
  refine once (o := 0) H24 m1 fun q29 h28 N28 => ⟨q29, 0, rfl, ?_⟩
  have md : mayC (dd (sortR l)) = 0 := by
    have h1 := all_sub dd_sub (m := sortR l) (by rw [all_perm (sortR_perm l)]; exact (mayC0 m1).1)
    have h2 := dd_len (l := sortR l)
    rw [sortR_len] at h2
    unfold mayC
    rw [if_pos h1, if_neg (by omega)]
  refine once (o := 0) N28.hasL md fun q35 h34 N34 => ⟨q35, 0, rfl, ?_⟩
  have e1 : dd (sortR (dd (sortR l))) = dd (sortR l) := by rw [sortR_self dd_sorted, dd_idem]
  rw [e1] at N34
  have x34 := N28.1.trans N34.1
  refine both (H24.mono x34) (H24'.mono x34) m1 m2 (by omega) (by omega) fun q41 h40 N40 => ⟨q41, 0, rfl, ?_⟩
  have x40 := x34.trans N40.1
  refine both (H24'.mono x40) (H24.mono x40) m2 m1 (by omega) (by omega) fun q47 h46 N46 => ⟨q47, 0, rfl, s14 ⟨true, rfl, ?_⟩⟩
  have e2 : sortR (l' ++ l) = sortR (l ++ l') := sortR_perm_eq List.perm_append_comm
  rw [e2] at N46
  have hd := dd_len (l := sortR l)
  rw [sortR_len] at hd
  refine vif_mk (fun _ => ?_) (fun g => by simp at g)
  refine vif_mk (fun _ => ?_) (fun g => by simp at g)
  refine vif_mk (fun _ => ?_) (fun g => by simp at g)
  refine o13 (N28.hasL.mono (N34.1.trans (N40.1.trans N46.1))) (N34.hasL.mono (N40.1.trans N46.1)) (by omega) ⟨_, rfl, vif_mk (fun _ => ?_) (fun g => by simp at g)⟩
  refine vif_mk (fun _ => ?_) (fun g => by simp at g)
  refine vif_mk (fun _ => ?_) (fun g => by simp at g)
  refine o13 (N40.hasL.mono N46.1) N46.hasL (by rw [sortR_len, List.length_append]; omega) ⟨_, rfl, vif_mk (fun _ => ?_) (fun g => by simp at g)⟩
  rw [N40.hasL.len, sortR_len, List.length_append, wrapK_i64 ⟨by omega, by omega⟩]
  have e3 : (((l.length + l'.length : Nat) : Int) == ((l.length : Nat) : Int) + (l'.length : Nat)) = true := by simp
  rw [e3]
  exact hQ _)
end
end Go.Proofs.Ytfafgnmlnhklaaa
