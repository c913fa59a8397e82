import Derived.Test.YtankijamfedliaaGreatDoorFG17
namespace Go.Proofs.YtankijamfedliaaGreatDoor
open Go.Ab
open Go.Num hiding Bs snoc_ind
open Go.Ent
set_option linter.unusedVariables false
set_option linter.unusedSimpArgs false
section
variable {h h' : Heap} {Q : AV → Heap → Prop}
theorem idx4 {q : Option SL} {l : List Ent} {i : Nat} {x : Ent} (H : HasL entE h q l) (hx : l[i]? = some x) {ix : Int} (hix : ix = i) {K : PA → Prop} (hK : ∀ p, cellsAt h p 4 = some [.int .i64 x.1, .int .i64 x.2.1, .int .i64 x.2.2.1, .int .i64 x.2.2.2] → K p) : vIdx q ix 4 K := by
  have := lt_of_get hx
  refine HasL.idx (E := entE) H (by omega) (by omega) fun pp y hy hc => hK pp ?_
  subst hix
  have : l[i]? = some y := by simpa using hy
  rw [hx] at this; cases this
  exact hc
set_option maxRecDepth 20000 in
theorem z39 : ∀ (n : Nat) {h : Heap} {Q : AV → Heap → Prop} {q : Option SL} {l : List Ent}, l.length ≤ n → HasL entE h q l → l.length ≤ 100000 → (∀ q' h', New entE h h' q' (sortE l) → Q (.sl q') h') → AC Tryz.prog 39 [.sl q] h Q
  | n, h, Q, q, l, hln, H, hl, hQ => ac39 (by
  unfold vc39 PNew
  have hlen := H.len
  rw [hlen]
  refine vif_mk (fun g => ?_) (fun g => ?_)
  · replace g := of_decide_eq_true g
    have N : New entE h (h ++ [Blk.cells [] true]) (some ⟨h.length, 0, 0, 0, 0⟩) [] := New.mk1 rfl rfl
    refine New.append (E := entE) N (H.mono (Ext.app _ _)) (by simp; omega) fun q4 h5 N5 => hQ q4 h5 ?_
    have : SortedL l := by
      match l, g with
      | [], _ => exact .nil
      | [x], _ => exact .cons (by simp) .nil
      | x :: y :: l, g => simp at g; omega
    rw [sortE_self this]; simpa using N5
  · replace g := of_decide_eq_false g
    have e1 : (((l.length : Nat) : Int).tdiv 2) = ((l.length / 2 : Nat) : Int) := by rw [tdiv_pos (by omega)]; omega
    rw [e1, wrapK_i64 ⟨by omega, by omega⟩]
    refine HasL.slice (E := entE) H (by omega) (by simp; omega) (by simp; omega) fun q6 H6 => ?_
    refine HasL.slice (E := entE) H (by omega) (by simp; omega) (by simp) fun q7 H7 => ?_
    have H6 : HasL entE h q6 (l.take (l.length / 2)) := by simp only [Option.getD_some, Int.toNat_natCast, Int.toNat_zero, List.drop_zero] at H6; exact H6
    have H7 : HasL entE h q7 (l.drop (l.length / 2)) := by simp only [Option.getD_none, Int.toNat_natCast, List.take_length] at H7; exact H7
    have hn1 : (l.take (l.length / 2)).length < n := by rw [List.length_take]; omega
    have hn2 : (l.drop (l.length / 2)).length < n := by rw [List.length_drop]; omega
    obtain ⟨m, rfl⟩ : ∃ m, n = m + 1 := ⟨n - 1, by omega⟩
    refine z39 m (by omega) H6 (by rw [List.length_take]; omega) fun q10 h9 N9 => ⟨q10, rfl, ?_⟩
    refine z39 m (by omega) (H7.mono N9.1) (by rw [List.length_drop]; omega) fun q13 h12 N12 => ⟨q13, rfl, ?_⟩
    have HA := N9.hasL.mono N12.1
    have HB := N12.hasL
    have hsa := sortE_sorted (l.take (l.length / 2))
    have hsb := sortE_sorted (l.drop (l.length / 2))
    have hpa := sortE_perm (l.take (l.length / 2))
    have hpb := sortE_perm (l.drop (l.length / 2))
    generalize sortE (l.take (l.length / 2)) = A at *
    generalize sortE (l.drop (l.length / 2)) = B at *
    have hperm : (A ++ B).Perm l := (hpa.append hpb).trans (by rw [List.take_append_drop])
    let I : Option SL → Option SL → Option SL → Heap → Prop := fun q14 q15 q16 h19 => ∃ a b o : List Ent, HasL entE h12 q14 a ∧ HasL entE h12 q15 b ∧ New entE h12 h19 q16 o ∧ (o ++ (a ++ b)).Perm l ∧ SortedL a ∧ SortedL b ∧ SortedL o ∧ ∀ x ∈ o, ∀ y ∈ a ++ b, leE x y
    refine ⟨fun xs h19 => ∃ q14 q15 q16, xs = [.sl q14, .sl q15, .sl q16] ∧ I q14 q15 q16 h19, fun xs _ => match xs with | [.sl q14, .sl q15, _] => slLen q14 + slLen q15 | _ => 0, ⟨_, _, _, rfl, A, B, [], HA, HB, New.none, by simpa using hperm, hsa, hsb, .nil, by simp⟩, ?_⟩
    rintro q14 q15 q16 h19 ⟨_, _, _, hx, a, b, o, Ha, Hb, No, hp, sa, sb, so, hle⟩
    simp only [List.cons.injEq, AV.sl.injEq, and_true] at hx
    obtain ⟨rfl, rfl, rfl⟩ := hx
    have la := Ha.len
    have lb := Hb.len
    have hlp := hp.length_eq
    simp only [List.length_append] at hlp
    have Ha19 := Ha.mono No.1
    have Hb19 := Hb.mono No.1
    rw [la, lb]
    have stepA : ∀ {x : Ent} {a' : List Ent}, a = x :: a' → (∀ y ∈ b, leE x y) → vIdx q14 0 4 fun p20 => ∃ n21 n22 : Int, ∃ n23 n24 : Int, cellsAt h19 p20 4 = some [.int .i64 n21, .int .i64 n22, .int .i64 n23, .int .i64 n24] ∧
        PAppendS 4 32 q16 (some ⟨h19.length, 0, 1, 1, 0⟩) (h19 ++ [.cells [.int .i64 n21, .int .i64 n22, .int .i64 n23, .int .i64 n24] true]) fun q27 h28 => PSlice 4 q14 1 none none fun q29 =>
          (True) ∧ (∃ q14' q15' q16', [AV.sl q29, .sl q15, .sl q27] = [.sl q14', .sl q15', .sl q16'] ∧ I q14' q15' q16' h28) ∧ (slLen q29 + slLen q15) < (slLen q14 + slLen q15) := by
      intro x a' ha hxb
      subst ha
      refine idx4 Ha19 (i := 0) (x := x) rfl rfl fun p hc => ⟨_, _, _, _, hc, ?_⟩
      refine New.append (E := entE) (m := [x]) (No.ext (Ext.app _ _)) (HasL.new (E := entE) (l := [x]) (n := 1) rfl (by simp [Enc.all, entE])) (by simp at hlp ⊢; omega) fun q27 h28 N28 => ?_
      refine HasL.slice (E := entE) Ha (by omega) (by simp; omega) (by simp) fun q29 H29 => ?_
      have H29 : HasL entE h12 q29 a' := by
        have e : ((x :: a').take ((Option.getD none (((x :: a').length : Nat) : Int))).toNat).drop (1 : Int).toNat = a' := by
          simp only [Option.getD_none, Int.toNat_natCast, List.take_length]; rfl
        rw [e] at H29; exact H29
      have l29 := H29.len
      refine ⟨trivial, ⟨_, _, _, rfl, a', b, o ++ [x], H29, Hb, N28, by simpa using hp, sa.of_cons, sb, ?_, ?_⟩, by rw [la, l29]; simp⟩
      · rw [SortedL, List.pairwise_append]
        exact ⟨so, .cons (by simp) .nil, fun y hy z hz => by simp at hz; subst hz; exact hle y hy z (by simp)⟩
      · intro y hy z hz
        rcases List.mem_append.1 hy with hy | hy
        · exact hle y hy z (by simp at hz ⊢; rcases hz with h | h <;> simp [h])
        · simp at hy; subst hy
          rcases List.mem_append.1 hz with hz | hz
          · exact List.rel_of_pairwise_cons sa hz
          · exact hxb z hz
    have stepB : ∀ {x : Ent} {b' : List Ent}, b = x :: b' → (∀ y ∈ a, leE x y) → vIdx q15 0 4 fun p20 => ∃ n21 n22 : Int, ∃ n23 n24 : Int, cellsAt h19 p20 4 = some [.int .i64 n21, .int .i64 n22, .int .i64 n23, .int .i64 n24] ∧
        PAppendS 4 32 q16 (some ⟨h19.length, 0, 1, 1, 0⟩) (h19 ++ [.cells [.int .i64 n21, .int .i64 n22, .int .i64 n23, .int .i64 n24] true]) fun q27 h28 => PSlice 4 q15 1 none none fun q29 =>
          (True) ∧ (∃ q14' q15' q16', [AV.sl q14, .sl q29, .sl q27] = [.sl q14', .sl q15', .sl q16'] ∧ I q14' q15' q16' h28) ∧ (slLen q14 + slLen q29) < (slLen q14 + slLen q15) := by
      intro x b' hb hxa
      subst hb
      refine idx4 Hb19 (i := 0) (x := x) rfl rfl fun p hc => ⟨_, _, _, _, hc, ?_⟩
      refine New.append (E := entE) (m := [x]) (No.ext (Ext.app _ _)) (HasL.new (E := entE) (l := [x]) (n := 1) rfl (by simp [Enc.all, entE])) (by simp at hlp ⊢; omega) fun q27 h28 N28 => ?_
      refine HasL.slice (E := entE) Hb (by omega) (by simp; omega) (by simp) fun q29 H29 => ?_
      have H29 : HasL entE h12 q29 b' := by
        have e : ((x :: b').take ((Option.getD none (((x :: b').length : Nat) : Int))).toNat).drop (1 : Int).toNat = b' := by
          simp only [Option.getD_none, Int.toNat_natCast, List.take_length]; rfl
        rw [e] at H29; exact H29
      have l29 := H29.len
      refine ⟨trivial, ⟨_, _, _, rfl, a, b', o ++ [x], Ha, H29, N28, ?_, sa, sb.of_cons, ?_, ?_⟩, by rw [lb, l29]; simp⟩
      · refine List.Perm.trans ?_ hp
        rw [List.append_assoc]
        exact List.Perm.append_left o (by simpa using (List.perm_middle (a := x) (l₁ := a) (l₂ := b')).symm)
      · rw [SortedL, List.pairwise_append]
        exact ⟨so, .cons (by simp) .nil, fun y hy z hz => by simp at hz; subst hz; exact hle y hy z (by simp)⟩
      · intro y hy z hz
        rcases List.mem_append.1 hy with hy | hy
        · exact hle y hy z (by simp at hz ⊢; rcases hz with h | h <;> simp [h])
        · simp at hy; subst hy
          rcases List.mem_append.1 hz with hz | hz
          · exact hxa z hz
          · exact List.rel_of_pairwise_cons sb hz
    refine vif_mk (fun g1 => ?_) (fun g1 => ?_)
    · replace g1 := of_decide_eq_true g1
      obtain ⟨x, a', rfl⟩ : ∃ x a', a = x :: a' := by cases a with | nil => simp at g1 | cons x a' => exact ⟨x, a', rfl⟩
      refine vif_mk (fun g2 => ?_) (fun g2 => ?_)
      · have g2 : b.length = 0 := by have : ((b.length : Nat) : Int) = 0 := by simpa using g2
                                     omega
        have : b = [] := List.eq_nil_of_length_eq_zero g2
        subst this
        exact stepA rfl (by simp)
      · obtain ⟨y, b', rfl⟩ : ∃ y b', b = y :: b' := by cases b with | nil => simp at g2 | cons x a' => exact ⟨x, a', rfl⟩
        refine vif_mk (fun _ => ?_) (fun g3 => by simp at g3)
        refine idx4 Ha19 (i := 0) (x := x) rfl rfl fun p hc => ⟨_, _, _, _, hc, ?_⟩
        refine idx4 Hb19 (i := 0) (x := y) rfl rfl fun p hc => ⟨_, _, _, _, hc, ?_⟩
        refine z42 (a := x) (b := y) ⟨_, rfl, ?_⟩
        refine vif_mk (fun g4 => ?_) (fun g4 => ?_)
        · replace g4 := of_decide_eq_true g4
          have hxy : leE x y := fun hlt => by have := cmpE_gt.2 hlt; omega
          refine stepA rfl fun z hz => ?_
          rcases List.mem_cons.1 hz with rfl | hz
          · exact hxy
          · exact leE_trans hxy (List.rel_of_pairwise_cons sb hz)
        · replace g4 := of_decide_eq_false g4
          have hyx : leE y x := leE_lt (cmpE_gt.1 (by omega))
          refine stepB rfl fun z hz => ?_
          rcases List.mem_cons.1 hz with rfl | hz
          · exact hyx
          · exact leE_trans hyx (List.rel_of_pairwise_cons sa hz)
    · replace g1 := of_decide_eq_false g1
      have : a = [] := List.eq_nil_of_length_eq_zero (by omega)
      subst this
      refine vif_mk (fun g2 => ?_) (fun g2 => ?_)
      · replace g2 := of_decide_eq_true g2
        obtain ⟨y, b', rfl⟩ : ∃ y b', b = y :: b' := by cases b with | nil => simp at g2 | cons x a' => exact ⟨x, a', rfl⟩
        refine vif_mk (fun g3 => by simp at g3; omega) (fun _ => ?_)
        refine vif_mk (fun g3 => by simp at g3) (fun _ => ?_)
        exact stepB rfl (by simp)
      · replace g2 := of_decide_eq_false g2
        have : b = [] := List.eq_nil_of_length_eq_zero (by omega)
        subst this
        have : o = sortE l := (sortE_eq so (by simpa using hp)).symm
        subst this
        exact hQ q16 h19 (No.of (N9.1.trans N12.1)))
end
end Go.Proofs.YtankijamfedliaaGreatDoor
