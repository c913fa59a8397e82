/- Bags in order; each record once. -/
import Derived.Test.YtfafgnmlnhklaaaBG15
import Derived.Test.YtfafgnmlnhklaaaBG16
namespace Go.Proofs.Ytfafgnmlnhklaaa
open Go.Ab
set_option linter.unusedVariables false
set_option linter.unusedSimpArgs false

theorem merge_le : (fun x y : Rec => !(ltOf cmpR) y x) = leR := by
  funext x y
  rw [Try.ltR]
  rw [Bool.eq_iff_iff, leR_iff]
  simp only [Bool.not_eq_true', decide_eq_false_iff_not]
  omega
theorem sortLaw : SortLaw Try.prog 84 (.func (.func 85) #[] #[]) encR 2 sortR := by
  refine ⟨fun blk off cap d w hH hblk hsz => ?_, fun p cap w => Try.sortFunc84_none p cap w⟩
  have := Try.sortFunc84 blk off cap d w hH hblk hsz
  rw [merge_le, mergeSort_R] at this
  exact this

section
variable {h : Heap} {Q : AV → Heap → Prop} {q : Option SL} {l : List Rec}
/-- slices.SortFunc -/
theorem c84 (A : AppJ recE h q l) (hl : l.length < 4611686018427387904)
    (hQ : ∀ h', AppJ recE h' q (sortR l) → Keeps (fun b => ∃ s, q = some s ∧ s.b = b) h h' → h'.length = h.length → Q (.tup []) h') : AC Try.prog 84 [.sl q, .func (.func 85) [] []] h Q := by
  refine sort_ac (E := recE) (by kernel_rfl) sortLaw (fun μ v hv => ?_) (fun _ => rfl) (fun a μ t x y hx hr => ?_) (fun a μ t x y hx hy => ?_) (fun l => sortR_len) A hl hQ
  · obtain ⟨f', c', rfl, h1, h2⟩ := hv
    have e1 : f' = #[] := by apply Array.ext'; exact h1
    have e2 : c' = #[] := by apply Array.ext'; exact h2
    rw [e1, e2]
  · match t, hx with
    | 0, hx => cases hx; have hr : y = .int .i64 a.1 := hr; subst hr; rfl
    | 1, hx => cases hx; have hr : y = .int .i64 a.2 := hr; subst hr; rfl
  · match t, hx with
    | 0, hx => cases hx; cases hy; rfl
    | 1, hx => cases hx; cases hy; rfl
/-- rec.sorted -/
theorem c62 (H : HasL recE h q l) (hl : l.length ≤ 1000000) (hQ : ∀ q' h', NewJ recE h h' q' (sortR l) → Q (.sl q') h') : AC Try.prog 62 [.sl q] h Q := ac62 (by
  unfold vc62
  refine c36 H hl fun q4 h3 N => ⟨q4, rfl, ?_⟩
  have N := NewJ.of N
  exact c84 N.2.1 (by omega) fun h6 A6 K6 l6 => ⟨rfl, hQ q4 h6 (N.inplace A6 K6 (fun s' hs' => ⟨s', hs', rfl⟩))⟩)
/-- rec.Sort -/
theorem c40 (H : HasL recE h q l) (hl : l.length ≤ 1000000) (h1 : mayC l ≠ 0 → Q (.tup [.sl none, .int .i64 (mayC l)]) h) (h0 : mayC l = 0 → ∀ q' h', NewJ recE h h' q' (sortR l) → Q (.tup [.sl q', .int .i64 0]) h') : AC Try.prog 40 [.sl q] h Q := ac40 (by
  unfold vc40
  refine c38 H (by omega) ⟨_, rfl, vif_mk (fun g => h1 (by simpa using g)) (fun g => ?_)⟩
  exact c62 H hl fun q' h' N => ⟨q', rfl, h0 (by simpa using g) q' h' N⟩)
/-- rec.Distinct -/
theorem c59 (H : HasL recE h q l) (hl : l.length ≤ 1000000) (h1 : mayC l ≠ 0 → Q (.tup [.sl none, .int .i64 (mayC l)]) h) (h0 : mayC l = 0 → ∀ q' h', NewJ recE h h' q' (dd (sortR l)) → Q (.tup [.sl q', .int .i64 0]) h') : AC Try.prog 59 [.sl q] h Q := ac59 (by
  unfold vc59
  refine c40 H hl (fun g => ⟨none, _, rfl, ?_⟩) fun g q' h' N => ⟨q', 0, rfl, ?_⟩
  · refine c80 (l := []) (.inl ⟨rfl, rfl⟩) (by simp) fun q' h' A K l' hq => ⟨q', rfl, ?_⟩
    rcases A with ⟨rfl, _⟩ | ⟨a, c, o, j, rfl, _⟩
    · have : h' = h := by
        apply List.ext_getElem?
        intro i
        rcases hi : h[i]? with _ | B
        · rw [List.getElem?_eq_none_iff] at hi ⊢; omega
        · exact K i B (fun ⟨s, hs, _⟩ => by cases hs) hi
      rw [this]; exact h1 g
    · obtain ⟨s, hs, _⟩ := hq _ rfl; cases hs
  · refine c80 N.2.1 (by rw [sortR_len]; exact hl) fun q8 h7 A7 K7 l7 hq => ⟨q8, rfl, ?_⟩
    exact h0 g q8 h7 (N.inplace A7 K7 hq))
end
end Go.Proofs.Ytfafgnmlnhklaaa

/- Bags by their keys. -/
namespace Go.Proofs.Ytfafgnmlnhklaaa
open Go.Ab
set_option linter.unusedVariables false
set_option linter.unusedSimpArgs false

theorem twR {P : Rec → Bool} : ∀ {out m6 : List Rec}, (∀ x ∈ out, P x = true) → (m6 = [] ∨ ∃ e r, m6 = e :: r ∧ P e = false) → (out ++ m6).takeWhile P = out ∧ (out ++ m6).dropWhile P = m6
  | [], m6, _, hm => by
    rcases hm with rfl | ⟨e, r, rfl, he⟩
    · exact ⟨rfl, rfl⟩
    · simp [he]
  | x :: out, m6, ho, hm => by
    have hx := ho x (by simp)
    have := twR (out := out) (fun y hy => ho y (by simp [hy])) hm
    simp [hx, this.1, this.2]
def grp : List Rec → List (List Rec)
  | [] => []
  | x :: l => (x :: l.takeWhile (fun r => r.1 == x.1)) :: grp (l.dropWhile (fun r => r.1 == x.1))
termination_by l => l.length
decreasing_by
  simp only [List.length_cons]
  have := (List.dropWhile_sublist (fun r : Rec => r.1 == x.1) (l := l)).length_le
  omega
theorem grp_nil : grp [] = [] := by unfold grp; rfl
theorem grp_cut {x : Rec} {l : List Rec} {k : Nat} (hk : 1 ≤ k) (hkl : k ≤ (x :: l).length) (h1 : ∀ r ∈ (x :: l).take k, r.1 = x.1) (h2 : ∀ r, (x :: l)[k]? = some r → r.1 ≠ x.1) : grp (x :: l) = (x :: l).take k :: grp ((x :: l).drop k) := by
  obtain ⟨j, rfl⟩ : ∃ j, k = j + 1 := ⟨k - 1, by omega⟩
  have := twR (P := fun r => r.1 == x.1) (out := l.take j) (m6 := l.drop j) (fun r hr => by simp [h1 r (by simp [hr])]) (by
    cases hd : l.drop j with
    | nil => exact .inl rfl
    | cons e r =>
      refine .inr ⟨e, r, rfl, ?_⟩
      have h0 : (l.drop j)[0]? = some e := by rw [hd]; rfl
      rw [List.getElem?_drop] at h0
      have := h2 e (by simpa using h0)
      simpa using this)
  rw [List.take_append_drop] at this
  rw [grp, this.1, this.2]
  rfl

theorem pnew_mk {c : List AV} {rw' : Bool} {h : Heap} {K : Nat → Heap → Prop} (hk : K h.length (h ++ [.cells c rw'])) : PNew c rw' h K := hk

/-- Groups that were made, in blocks of some kind. -/
def InGG (F : Nat → Prop) (h : Heap) (q : Option SL) (gs : List (List Rec)) : Prop :=
  ∃ qs : List (Option SL), HasL slE h q qs ∧ qs.length = gs.length ∧ (∀ s, q = some s → F s.b) ∧ ∀ (i : Nat) (s : Option SL) (g : List Rec), qs[i]? = some s → gs[i]? = some g → HasL recE h s g ∧ ∀ u, s = some u → F u.b
section
variable {F X : Nat → Prop} {h h' : Heap} {q : Option SL} {ls : List (List Rec)}
theorem InGG.keeps (I : InGG F h q ls) (K : Keeps X h h') (hX : ∀ b, F b → ¬ X b) : InGG F h' q ls := by
  obtain ⟨qs, H, hl, hf, hq⟩ := I
  exact ⟨qs, K.hasL (fun s hs => hX _ (hf s hs)) H, hl, hf, fun i s l h1 h2 => ⟨K.hasL (fun u hu => hX _ ((hq i s l h1 h2).2 u hu)) (hq i s l h1 h2).1, (hq i s l h1 h2).2⟩⟩
theorem InGG.mono (I : InGG F h q ls) (x : Ext h h') : InGG F h' q ls := I.keeps (X := fun _ => False) (keeps_of_ext x) (fun _ _ h => h)
theorem InGG.len (I : InGG F h q ls) : slLen q = ls.length := by
  obtain ⟨qs, H, hl, hf, hq⟩ := I
  rw [H.len, hl]
theorem InGG.idx (I : InGG F h q ls) {i : Nat} (hi : i < ls.length) {ix : Int} (hix : ix = i) {K : PA → Prop} (hK : ∀ p s l, ls[i]? = some l → cellsAt h p 1 = some [.sl s] → HasL recE h s l → (∀ u, s = some u → F u.b) → K p) : vIdx q ix 1 K := by
  subst hix
  obtain ⟨qs, H, hl, hf, hq⟩ := I
  refine HasL.idx (E := slE) H (by omega) (by omega) fun pp s hs hc => ?_
  have hs : qs[i]? = some s := by simpa using hs
  have hl2 : ls[i]? = some ls[i] := List.getElem?_eq_getElem hi
  exact hK pp s _ hl2 hc (hq i s _ hs hl2).1 (hq i s _ hs hl2).2
end

section
variable {h : Heap} {Q : AV → Heap → Prop} {q : Option SL} {l : List Rec}
theorem c101 {a b : Int} {p : PA} {q4 : Option SL} {x : Rec} {r : List Rec} (hc : cellsAt h p 1 = some [.sl q4]) (H : HasL recE h q4 (x :: r)) (hQ : Q (.bool (a != x.1)) h) : AC Try.prog 101 [.agg [.int .i64 a, .int .i64 b], .ptr (some p)] h Q := ac101 (by
  unfold vc101
  refine ⟨q4, hc, H.idx (E := recE) (by omega) (by simp) fun pp y hy hcy => ?_⟩
  simp only [Int.toNat_zero, List.getElem?_cons_zero, Option.some.injEq] at hy
  subst hy
  refine ⟨x.1, ?_, hQ⟩
  have := cellsAt_sub (k := 0) (m := 1) hcy (by show 0 + 1 ≤ 2; omega)
  simpa [recE] using this)
/-- slices.IndexFunc: the first of another key. -/
theorem c53k {p : PA} {q4 : Option SL} {x : Rec} {r : List Rec} (hc : cellsAt h p 1 = some [.sl q4]) (H4 : HasL recE h q4 (x :: r)) (H : HasL recE h q l) (hl : l.length ≤ 1000000)
    (hQ : ∀ k : Nat, k ≤ l.length → (∀ y ∈ l.take k, y.1 = x.1) → (∀ y, l[k]? = some y → y.1 ≠ x.1) → Q (.int .i64 (if k = l.length then -1 else k)) h) : AC Try.prog 53 [.sl q, .func (.func 101) [] [.ptr (some p)]] h Q := ac53k (by
  unfold vc53k
  refine ⟨fun xs h5 => h5 = h ∧ ∃ i : Nat, xs = [.int .i64 i] ∧ i ≤ l.length ∧ ∀ y ∈ l.take i, y.1 = x.1, left l.length, ⟨rfl, 0, rfl, by omega, by simp⟩, ?_⟩
  rintro n2 h5 ⟨rfl, i, hx, hi, ha⟩
  simp only [List.cons.injEq, AV.int.injEq, true_and, and_true] at hx
  subst hx
  rw [H.len]
  refine vif_mk (fun g => ?_) (fun g => ?_)
  · replace g := of_decide_eq_true g
    refine H.idx (E := recE) (by omega) (by omega) fun p x hx hcx => ⟨_, _, hcx, c101 hc H4 ⟨_, rfl, ?_⟩⟩
    simp only [Int.toNat_natCast] at hx
    refine vif_mk (fun hok => ?_) (fun hok => ?_)
    · have hne := by simpa using hok
      have := hQ i hi ha (fun y hy => by rw [hx] at hy; cases hy; exact hne)
      rw [if_neg (by omega)] at this
      exact this
    · have heq := by simpa using hok
      rw [wrapK_i64 ⟨by omega, by omega⟩]
      refine ⟨trivial, ⟨rfl, i + 1, by simp, by omega, fun y hy => ?_⟩, by simp only [left]; omega⟩
      rw [List.take_add_one, hx] at hy
      rcases List.mem_append.1 hy with hy | hy
      · exact ha y hy
      · simp only [Option.toList_some, List.mem_singleton] at hy; rw [hy]; exact heq
  · replace g := of_decide_eq_false g
    have e : i = l.length := by omega
    have := hQ i hi ha (fun y hy => by have := lt_of_get hy; omega)
    rw [if_pos e] at this
    exact this)

set_option maxRecDepth 20000 in
/-- rec.Groups -/
theorem c77 (H : HasL recE h q l) (hl : l.length ≤ 1000000) (hm : mayC l = 0) (hQ : ∀ q' h', Ext h h' → InGG (fun b => h.length ≤ b ∧ b < h'.length) h' q' (grp (sortR l)) → Q (.tup [.sl q', .int .i64 0]) h') : AC Try.prog 77 [.sl q] h Q := ac77 (by
  unfold vc77
  refine c40 H hl (fun g => absurd hm g) fun _ q4 h3 N => ⟨q4, 0, rfl, ?_⟩
  have hSl : (sortR l).length ≤ 1000000 := by rw [sortR_len]; exact hl
  have HS := N.hasL
  have xS := N.1
  have livS := HS.live
  clear N
  generalize sortR l = S at *
  refine pnew_mk ?_
  have hb6 : (h3 ++ [Blk.cells [.sl none] true])[h3.length]? = some (.cells [.sl none] true) := by simp
  refine store6 (o := 0) hb6 (by simp) ?_
  have es : splice [AV.sl none] 0 [.sl q4] = [.sl q4] := rfl
  rw [es]
  have hb8 : ((h3 ++ [Blk.cells [.sl none] true]).set h3.length (.cells [.sl q4] true))[h3.length]? = some (.cells [.sl q4] true) := List.getElem?_set_self (by simp)
  have x8 : Ext h3 ((h3 ++ [Blk.cells [.sl none] true]).set h3.length (.cells [.sl q4] true)) := by
    intro b B hB
    have hbl := lt_of_get hB
    rw [List.getElem?_set, if_neg (by omega), List.getElem?_append_left hbl]; exact hB
  generalize (h3 ++ [Blk.cells [.sl none] true]).set h3.length (.cells [.sl q4] true) = h8 at *
  let I : Heap → Option SL → Prop := fun h12 q9 => ∃ (q13 : Option SL) (qs : List (Option SL)) (gs : List (List Rec)) (rest : List Rec),
    Ext h3 h12 ∧ h12[h3.length]? = some (.cells [.sl q13] true) ∧ HasL recE h12 q13 rest ∧ (∀ s, q13 = some s → s.b < h3.length) ∧ Apd slE h12 q9 qs ∧ (∀ t, q9 = some t → h3.length < t.b) ∧
    qs.length = gs.length ∧ (∀ (i : Nat) (s : Option SL) (g : List Rec), qs[i]? = some s → gs[i]? = some g → HasL recE h12 s g ∧ ∀ u, s = some u → h3.length < u.b ∧ ∀ t, q9 = some t → t.b ≠ u.b) ∧ gs ++ grp rest = grp S ∧ gs.length + rest.length ≤ S.length
  refine ⟨fun xs h12 => ∃ q9, xs = [.sl q9] ∧ I h12 q9, fun _ h12 => match h12[h3.length]? with | some (.cells [.sl q13] _) => slLen q13 | _ => 0, ⟨none, rfl, q4, [], [], S, x8, hb8, HS.mono x8, livS, .inl ⟨rfl, rfl⟩, (fun t ht => by cases ht), rfl, (by simp), rfl, (by simp)⟩, ?_⟩
  rintro q9 h12 ⟨q9', hx, q13, qs, gs, rest, x12, hb12, H13, b13, A9, b9, hlq, hgs, hcat, hcnt⟩
  simp only [List.cons.injEq, AV.sl.injEq, and_true] at hx
  subst hx
  have hc13 : cellsAt h12 ⟨h3.length, 0⟩ 1 = some [.sl q13] := by rw [cellsAt_mk (p := ⟨h3.length, 0⟩) hb12 (by simp)]; rfl
  refine ⟨q13, hc13, vif_mk (fun g => ?_) (fun g => ?_)⟩
  · have g : rest.length > 0 := by have := of_decide_eq_true g; rw [H13.len] at this; omega
    refine ⟨q13, hc13, ?_⟩
    cases rest with
    | nil => simp at g
    | cons x r =>
    simp only [List.length_cons] at hcnt
    refine c53k hc13 H13 H13 (by simp; omega) fun k hk h1 h2 => ⟨_, rfl, ?_⟩
    have hk1 : 1 ≤ k := by
      rcases Nat.eq_zero_or_pos k with hz | hz
      · subst hz; exact absurd rfl (h2 x rfl)
      · exact hz
    have hcut := grp_cut hk1 hk h1 h2
    have hlive12 := lt_of_get hb12
    -- one more group
    have step : ∀ {nk : Int}, nk = k → PSlice 2 q13 0 (some nk) none fun q20 => AC Try.prog 36 [.sl q20] h12 fun v21 h22 => ∃ q23 : Option SL, v21 = .sl q23 ∧
        PNew [.sl q23] true h22 fun a24 h25 => PAppendS 1 24 q9 (some ⟨a24, 0, 1, 1, 0⟩) h25 fun q26 h27 =>
          ∃ q28 : Option SL, cellsAt h27 ⟨h3.length, 0⟩ 1 = some [.sl q28] ∧ PSlice 2 q28 nk none none fun q29 => PStore h27 ⟨h3.length, 0⟩ [.sl q29] fun h30 =>
            (True) ∧ (∃ q9', [AV.sl q26] = [.sl q9'] ∧ I h30 q9') ∧ (match h30[h3.length]? with | some (.cells [.sl q13] _) => slLen q13 | _ => 0) < (match h12[h3.length]? with | some (.cells [.sl q13] _) => slLen q13 | _ => 0) := by
      intro nk hnk
      subst hnk
      refine HasL.slice2 (E := recE) H13 (by omega) (by simp) (by simp at hk ⊢; omega) fun q20 H20 hq20 => ?_
      have e1 : ((x :: r).take ((Option.getD (some (k : Int)) (((x :: r).length : Nat) : Int))).toNat).drop (0 : Int).toNat = (x :: r).take k := by simp
      rw [e1] at H20
      refine c36 H20 (by rw [List.length_take]; simp; omega) fun q23 h22 N22 => ⟨q23, rfl, ?_⟩
      have x25 := Ext.app h22 [Blk.cells [.sl q23] true]
      have Hn : HasL slE (h22 ++ [Blk.cells [.sl q23] true]) (some ⟨h22.length, 0, 1, 1, 0⟩) [q23] := HasL.new (n := 1) rfl rfl
      show PAppendS _ _ _ _ _ _
      have l25 : (h22 ++ [Blk.cells [AV.sl q23] true]).length = h22.length + 1 := by simp
      generalize h22 ++ [Blk.cells [.sl q23] true] = h25 at *
      have e25 := N22.1.trans x25
      have l22 := N22.1.len
      have qlen : qs.length ≤ 1000000 := by omega
      refine Apd.append (E := slE) (A9.ext e25) Hn (by simp; omega) fun q26 h27 A27 K27 l27 hq26 => ?_
      have K : Keeps (fun b => ∃ s, q9 = some s ∧ s.b = b) h12 h27 := (keeps_of_ext e25).trans K27
      have hb27 := K _ _ (fun ⟨s, a1, a2⟩ => by have := b9 s a1; omega) hb12
      have hc27 : cellsAt h27 ⟨h3.length, 0⟩ 1 = some [.sl q13] := by rw [cellsAt_mk (p := ⟨h3.length, 0⟩) hb27 (by simp)]; rfl
      have H27 : HasL recE h27 q13 (x :: r) := K.hasL (fun s hs ⟨t, a1, a2⟩ => by have := b9 t a1; have := b13 s hs; omega) H13
      refine ⟨q13, hc27, HasL.slice2 (E := recE) H27 (by omega) (by simp at hk ⊢; omega) (by simp) fun q29 H29 hq29 => ?_⟩
      have e2 : ((x :: r).take ((Option.getD none (((x :: r).length : Nat) : Int))).toNat).drop (k : Int).toNat = (x :: r).drop k := by simp
      rw [e2] at H29
      refine store6 (o := 0) hb27 (by simp) ?_
      have es2 : splice [AV.sl q13] 0 [.sl q29] = [.sl q29] := rfl
      rw [es2]
      have hb30 : (h27.set h3.length (.cells [.sl q29] true))[h3.length]? = some (.cells [.sl q29] true) := List.getElem?_set_self (lt_of_get hb27)
      have K30 : Keeps (fun b => b = h3.length) h27 (h27.set h3.length (.cells [.sl q29] true)) := keeps_set rfl
      generalize h27.set h3.length (.cells [.sl q29] true) = h30 at *
      have KK : Keeps (fun b => b = h3.length ∨ ∃ s, q9 = some s ∧ s.b = b) h12 h30 := by
        intro b B hb hB
        exact K30 b B (fun e => hb (.inl e)) (K b B (fun e => hb (.inr e)) hB)
      have b26 : ∀ t, q26 = some t → h3.length < t.b := fun t ht => by
        rcases hq26 t ht with a | ⟨s, a1, a2⟩
        · omega
        · have := b9 s a1; omega
      have b29 : ∀ s, q29 = some s → s.b < h3.length := fun s hs => by
        obtain ⟨s2, a1, a2⟩ := hq29 s hs
        have := b13 s2 a1; omega
      have A30 : Apd slE h30 q26 (qs ++ [q23]) := A27.keeps K30 (fun s hs => by have := b26 s hs; omega)
      have H30 : HasL recE h30 q29 ((x :: r).drop k) := K30.hasL (fun s hs => by have := b29 s hs; omega) H29
      refine ⟨trivial, ⟨q26, rfl, q29, qs ++ [q23], gs ++ [(x :: r).take k], (x :: r).drop k, ?_, hb30, H30, b29, A30, b26, by simp [hlq], ?_, ?_, ?_⟩, ?_⟩
      · intro b B hB
        have hbl := lt_of_get hB
        exact KK b B (fun hb => by rcases hb with hb | ⟨s, a1, a2⟩; omega; have := b9 s a1; omega) (x12 b B hB)
      · intro i s g hs hg
        rw [List.getElem?_append] at hs hg
        split at hs
        · rename_i hi
          rw [if_pos (by omega)] at hg
          obtain ⟨r1, r2⟩ := hgs i s g hs hg
          refine ⟨KK.hasL (fun u hu hb => ?_) r1, fun u hu => ⟨(r2 u hu).1, fun t ht => ?_⟩⟩
          · rcases hb with hb | ⟨t, a1, a2⟩
            · have := (r2 u hu).1; omega
            · exact (r2 u hu).2 t a1 a2
          · have hul := r1.live u hu
            rcases hq26 t ht with a | ⟨s2, a1, a2⟩
            · omega
            · rw [← a2]; exact (r2 u hu).2 s2 a1
        · rename_i hi
          rw [if_neg (by omega)] at hg
          have i0 : i - qs.length = 0 := by have := lt_of_get hs; simp at this; omega
          have i1 : i - gs.length = 0 := by omega
          rw [i0] at hs
          rw [i1] at hg
          simp at hs hg
          subst hs hg
          have f23 := N22.2.2
          refine ⟨K30.hasL (fun u hu => by have := f23 u hu; omega) (K27.hasL (fun u hu ⟨t, a1, a2⟩ => ?_) (N22.hasL.mono x25)), fun u hu => ⟨by have := f23 u hu; omega, fun t ht => ?_⟩⟩
          · have h1 := f23 u hu
            have h2 := A9.hasL.live t a1
            omega
          · have h1 := f23 u hu
            have h2 := N22.hasL.live u hu
            rcases hq26 t ht with a | ⟨s2, a1, a2⟩
            · omega
            · have h3 := A9.hasL.live s2 a1
              omega
      · rw [← hcat, hcut, List.append_assoc]; rfl
      · rw [List.length_append, List.length_drop]; simp; omega
      · rw [hb30, hb12]
        simp only
        rw [H30.len, H13.len, List.length_drop]
        simp; omega
    refine vif_mk (fun g2 => ?_) (fun g2 => ?_)
    · have hkl : k = (x :: r).length := by
        by_cases e : k = (x :: r).length
        · exact e
        · rw [if_neg e] at g2; have := of_decide_eq_true g2; omega
      refine ⟨q13, hc13, q13, hc13, ?_⟩
      have e : ((slLen q13 : Nat) : Int) = (k : Nat) := by rw [H13.len, hkl]
      exact step e
    · have hkl : k ≠ (x :: r).length := fun e => by rw [if_pos e] at g2; simp at g2
      rw [if_neg hkl]
      exact ⟨q13, hc13, step rfl⟩
  · have g : rest.length = 0 := by have := of_decide_eq_false g; rw [H13.len] at this; omega
    have e := List.eq_nil_of_length_eq_zero g
    subst e
    rw [grp_nil, List.append_nil] at hcat
    rw [← hcat] at hQ
    have l3 := xS.len
    exact hQ q9 h12 (xS.trans x12) ⟨qs, A9.hasL, hlq, fun s hs => ⟨by have := b9 s hs; omega, A9.hasL.live s hs⟩, fun i s g hs hg => ⟨(hgs i s g hs hg).1, fun u hu => ⟨by have := ((hgs i s g hs hg).2 u hu).1; omega, (hgs i s g hs hg).1.live u hu⟩⟩⟩)
end
end Go.Proofs.Ytfafgnmlnhklaaa

/- The maker: what it adds of records, of groups. -/
namespace Go.Proofs.Ytfafgnmlnhklaaa
open Go.Ab
set_option linter.unusedVariables false
set_option linter.unusedSimpArgs false

/-- A step of one that has blocks of its own. -/
structure MStep (own : Nat → Prop) (h : Heap) (own' : Nat → Prop) (h' : Heap) : Prop where
  keeps : Keeps own h h'
  len : h.length ≤ h'.length
  grow : ∀ b, own' b → own b ∨ h.length ≤ b
theorem MStep.refl (own : Nat → Prop) (h : Heap) : MStep own h own h := ⟨.refl _ _, Nat.le_refl _, fun b hb => .inl hb⟩
theorem MStep.trans {o0 o1 o2 : Nat → Prop} {h0 h1 h2 : Heap} (a : MStep o0 h0 o1 h1) (b : MStep o1 h1 o2 h2) : MStep o0 h0 o2 h2 := by
  refine ⟨fun k B hk hB => ?_, Nat.le_trans a.len b.len, fun k hk => ?_⟩
  · refine b.keeps k B (fun hn => ?_) (a.keeps k B hk hB)
    rcases a.grow k hn with h | h
    · exact hk h
    · have := lt_of_get hB; omega
  · rcases b.grow k hk with h | h
    · exact a.grow k h
    · exact .inr (Nat.le_trans a.len h)
theorem MStep.ext {own : Nat → Prop} {h h' : Heap} (e : Ext h h') : MStep own h own h' := ⟨keeps_of_ext e, e.len, fun b hb => .inl hb⟩
theorem MStep.hasL {α : Type} {E : Enc α} {own own' : Nat → Prop} {h h' : Heap} {q : Option SL} {l : List α} (S : MStep own h own' h') (H : HasL E h q l) (hn : ∀ s, q = some s → ¬ own s.b) : HasL E h' q l ∧ ∀ s, q = some s → ¬ own' s.b := by
  refine ⟨S.keeps.hasL hn H, fun s hs ho => ?_⟩
  rcases S.grow _ ho with h | h
  · exact hn s hs h
  · have := H.live s hs; omega

/-- The maker, what it has made. -/
structure MK (h : Heap) (p : Nat) (own : Nat → Prop) (out : List Rec) : Prop where
  cells : ∃ q, h[p]? = some (.cells [.sl q, .bool (decide (out.length > 4096))] true) ∧ AppJ recE h q out ∧ ∀ s, q = some s → own s.b ∧ s.b ≠ p
  mine : own p
  live : ∀ b, own b → b < h.length
theorem MK.grow {h h' : Heap} {p : Nat} {own : Nat → Prop} {out : List Rec} (M : MK h p own out) (e : Ext h h') : MK h' p own out := by
  obtain ⟨⟨q, c1, c2, c3⟩, m, l⟩ := M
  exact ⟨⟨q, e _ _ c1, c2.ext e, c3⟩, m, fun b hb => Nat.lt_of_lt_of_le (l b hb) e.len⟩

def oneV (op k a : Int) (r : Rec) : List Rec := if op = 2 then [mapV k a r] else if op = 3 then (if testV k a r then [r] else []) else spreadV k a r

section
variable {h : Heap} {Q : AV → Heap → Prop} {q : Option SL} {l : List Rec} {p : Nat} {own : Nat → Prop} {out : List Rec}

/-- add -/
theorem c60 (M : MK h p own out) (H : HasL recE h q l) (ho : out.length ≤ 2000000) (hl : l.length ≤ 2000000) (hQ : ∀ h' own', MK h' p own' (out ++ l) → MStep own h own' h' → Q (.tup []) h') : AC Try.prog 60 [.ptr (some ⟨p, 0⟩), .sl q] h Q := ac60 (by
  unfold vc60
  obtain ⟨⟨q4, c1, c2, c3⟩, mine, live⟩ := M
  have hpl := live p mine
  refine ⟨q4, by rw [cells6 c1 (by simp)]; rfl, ?_⟩
  refine AppJ.append (E := recE) c2 H (by omega) fun q5 h6 A6 K6 l6 hq5 => ?_
  have b6 := K6 _ _ (fun ⟨s, a1, a2⟩ => (c3 s a1).2 a2) c1
  have n5 : ∀ s, q5 = some s → s.b ≠ p := fun s hs => by
    rcases hq5 s hs with a | ⟨t, a1, a2⟩
    · omega
    · rw [← a2]; exact (c3 t a1).2
  have o5 : ∀ s, q5 = some s → own s.b ∨ h.length ≤ s.b := fun s hs => by
    rcases hq5 s hs with a | ⟨t, a1, a2⟩
    · exact .inr a
    · rw [← a2]; exact .inl (c3 t a1).1
  have fin : ∀ {h' : Heap}, Keeps (fun b => b = p) h6 h' → h'.length = h6.length → h'[p]? = some (.cells [.sl q5, .bool (decide ((out ++ l).length > 4096))] true) → Q (.tup []) h' := by
    intro h' K' l' b'
    have A' : AppJ recE h' q5 (out ++ l) := A6.keeps K' (fun s hs => n5 s hs)
    refine hQ h' (fun b => own b ∨ ∃ s, q5 = some s ∧ s.b = b) ⟨⟨q5, b', A', fun s hs => ⟨.inr ⟨s, hs, rfl⟩, n5 s hs⟩⟩, .inl mine, fun b hb => ?_⟩ ⟨fun b B hb hB => ?_, by omega, fun b hb => ?_⟩
    · rcases hb with hb | ⟨s, hs, rfl⟩
      · have := live b hb; omega
      · exact A'.live s hs
    · exact K' b B (fun e => hb (by rw [e]; exact mine)) (K6 b B (fun ⟨s, a1, a2⟩ => hb (by rw [← a2]; exact (c3 s a1).1)) hB)
    · rcases hb with hb | ⟨s, hs, rfl⟩
      · exact .inl hb
      · exact o5 s hs
  refine store6v b6 (by simp) ?_
  have e1 : splice [AV.sl q4, .bool (decide (out.length > 4096))] 0 [.sl q5] = [.sl q5, .bool (decide (out.length > 4096))] := rfl
  rw [e1]
  have b8 : (h6.set p (.cells [.sl q5, .bool (decide (out.length > 4096))] true))[p]? = some (.cells [.sl q5, .bool (decide (out.length > 4096))] true) := List.getElem?_set_self (by omega)
  have K8 : Keeps (fun b => b = p) h6 (h6.set p (.cells [.sl q5, .bool (decide (out.length > 4096))] true)) := keeps_set rfl
  have l8 : (h6.set p (.cells [.sl q5, .bool (decide (out.length > 4096))] true)).length = h6.length := by simp
  generalize h6.set p (.cells [.sl q5, .bool (decide (out.length > 4096))] true) = h8 at *
  refine ⟨_, by rw [cells6 b8 (by simp)]; rfl, vif_mk (fun g => ?_) (fun g => ?_)⟩
  · have g := of_decide_eq_true g
    refine store6v b8 (by simp) ?_
    have e2 : splice [AV.sl q5, .bool (decide (out.length > 4096))] (0 + 1) [.bool true] = [.sl q5, .bool (decide ((out ++ l).length > 4096))] := by
      have : decide ((out ++ l).length > 4096) = true := decide_eq_true (by rw [List.length_append]; omega)
      rw [this]; rfl
    rw [Nat.zero_add] at e2
    rw [e2]
    exact fin (fun b B hb hB => by rw [List.getElem?_set, if_neg (fun e => hb e.symm)]; exact K8 b B hb hB) (by simp [l8]) (List.getElem?_set_self (by omega))
  · refine ⟨q5, by rw [cells6 b8 (by simp)]; rfl, store6v b8 (by simp) ?_⟩
    have e2 : splice [AV.sl q5, .bool (decide (out.length > 4096))] 1 [.bool (decide ((slLen q5 : Int) > 4096))] = [.sl q5, .bool (decide ((out ++ l).length > 4096))] := by
      have : decide ((slLen q5 : Int) > 4096) = decide ((out ++ l).length > 4096) := by
        rw [A6.hasL.len]
        exact decide_eq_decide.2 (by omega)
      rw [this]; rfl
    rw [e2]
    exact fin (fun b B hb hB => by rw [List.getElem?_set, if_neg (fun e => hb e.symm)]; exact K8 b B hb hB) (by simp [l8]) (List.getElem?_set_self (by omega)))

/-- One record more. -/
theorem c60one (M : MK h p own out) (ho : out.length ≤ 2000000) {x y : Int} (hQ : ∀ h' own', MK h' p own' (out ++ [(x, y)]) → MStep own h own' h' → Q (.tup []) h') :
    PNew [.int .i64 x, .int .i64 y] true h fun a h1 => AC Try.prog 60 [.ptr (some ⟨p, 0⟩), .sl (some ⟨a, 0, 1, 1, 0⟩)] h1 Q := by
  refine pnew_mk ?_
  have e := Ext.app h [Blk.cells [.int .i64 x, .int .i64 y] true]
  have Hn : HasL recE (h ++ [Blk.cells [.int .i64 x, .int .i64 y] true]) (some ⟨h.length, 0, 1, 1, 0⟩) [(x, y)] := HasL.new (n := 1) rfl rfl
  exact c60 (M.grow e) Hn ho (by simp) fun h' own' M' S' => hQ h' own' M' ((MStep.ext e).trans S')

theorem wantE0 {k a f : Int} {r : Rec} (hf : fam k a = f) (hr : okR r = true) : wantE k a f r = 0 := by
  unfold wantE; rw [if_neg (by omega), if_pos hr]

/-- single -/
theorem c61 {op k a n6 : Int} {q3 q7 : Option SL} {r : Rec} (M : MK h p own out) (ho : out.length ≤ 1000000) (hop : op = 2 ∨ op = 3 ∨ op = 4) (hf : fam k a = op - 1) (hr : okR r = true)
    (hQ : ∀ h' own', MK h' p own' (out ++ oneV op k a r) → MStep own h own' h' → Q (.tup []) h') : AC Try.prog 61 [.ptr (some ⟨p, 0⟩), .agg [.int .i64 op, .sl q3, .int .i64 k, .int .i64 a, .int .i64 n6, .sl q7], .agg [.int .i64 r.1, .int .i64 r.2]] h Q := ac61 (by
  unfold vc61
  rcases hop with rfl | rfl | rfl
  · refine vif_mk (fun _ => ?_) (fun g => by simp at g)
    refine o81 fun h11 x11 => ?_
    rw [mayE_one, wantE0 (by omega) hr, if_pos rfl]
    refine ⟨_, _, _, rfl, c60one (M.grow x11) (by omega) fun h' own' M' S' => ⟨rfl, hQ h' own' ?_ ((MStep.ext x11).trans S')⟩⟩
    have e : oneV 2 k a r = [((mapV k a (r.1, r.2)).1, (mapV k a (r.1, r.2)).2)] := by simp [oneV]
    rw [e]; exact M'
  · refine vif_mk (fun g => by simp at g) (fun _ => vif_mk (fun _ => ?_) (fun g => by simp at g))
    refine o82 fun h20 x20 => ⟨_, _, rfl, ?_⟩
    rw [wantE0 (by omega) hr]
    have e : oneV 3 k a r = if testV k a r then [r] else [] := by simp [oneV]
    rw [e] at hQ
    refine vif_mk (fun g => ?_) (fun g => ?_)
    · have g : testV k a r = true := by simpa using g
      rw [if_pos g] at hQ
      exact c60one (M.grow x20) (by omega) fun h' own' M' S' => ⟨rfl, hQ h' own' M' ((MStep.ext x20).trans S')⟩
    · have g : testV k a r = false := by simpa using g
      rw [g] at hQ
      refine hQ h20 own ?_ (MStep.ext x20)
      have : out ++ (if false = true then [r] else []) = out := by simp
      rw [this]; exact M.grow x20
  · refine vif_mk (fun g => by simp at g) (fun _ => vif_mk (fun g => by simp at g) (fun _ => vif_mk (fun _ => ?_) (fun g => by simp at g)))
    refine o83 (fun hn => absurd (wantE0 (by omega) hr) hn) fun _ h28 q29 x28 H28 => ⟨q29, 0, rfl, ?_⟩
    have hl := spreadV_len (r := (r.1, r.2)) (show fam k a = 3 by omega)
    refine c60 (M.grow x28) H28 (by omega) (by omega) fun h' own' M' S' => ⟨rfl, hQ h' own' ?_ ((MStep.ext x28).trans S')⟩
    have e : oneV 4 k a r = spreadV k a (r.1, r.2) := by simp [oneV]
    rw [e]; exact M')
end

/-! Groups: what each is. -/
theorem grp_flat : ∀ (n : Nat) (l : List Rec), l.length ≤ n → (grp l).flatten = l
  | 0, l, h => by
    have := List.eq_nil_of_length_eq_zero (Nat.le_zero.1 h)
    subst this; rw [grp_nil]; rfl
  | n + 1, [], h => by rw [grp_nil]; rfl
  | n + 1, x :: l, h => by
    have hd := (List.dropWhile_sublist (fun r : Rec => r.1 == x.1) (l := l)).length_le
    simp only [List.length_cons] at h
    rw [grp, List.flatten_cons, grp_flat n _ (by omega), List.cons_append, List.takeWhile_append_dropWhile]
theorem grp_each : ∀ (n : Nat) (l : List Rec), l.length ≤ n → ∀ g ∈ grp l, g ≠ [] ∧ ∀ r ∈ g, ∀ s ∈ g, r.1 = s.1
  | 0, l, h, g, hg => by
    have := List.eq_nil_of_length_eq_zero (Nat.le_zero.1 h)
    subst this; rw [grp_nil] at hg; cases hg
  | n + 1, [], h, g, hg => by rw [grp_nil] at hg; cases hg
  | n + 1, x :: l, h, g, hg => by
    have hd := (List.dropWhile_sublist (fun r : Rec => r.1 == x.1) (l := l)).length_le
    simp only [List.length_cons] at h
    rw [grp] at hg
    rcases List.mem_cons.1 hg with rfl | hg
    · refine ⟨by simp, ?_⟩
      have key : ∀ r ∈ x :: l.takeWhile (fun r => r.1 == x.1), r.1 = x.1 := by
        intro r hr
        rcases List.mem_cons.1 hr with rfl | hr
        · rfl
        · have := List.all_takeWhile (p := fun r : Rec => r.1 == x.1) (l := l)
          rw [List.all_eq_true] at this
          simpa using this r hr
      intro r hr s hs
      rw [key r hr, key s hs]
    · exact grp_each n _ (by omega) g hg
theorem grp_ok {l : List Rec} (hl : l.all okR = true) {g : List Rec} (hg : g ∈ grp l) : g.all okR = true := by
  rw [List.all_eq_true] at hl ⊢
  intro r hr
  refine hl r ?_
  rw [← grp_flat _ l (Nat.le_refl _)]
  exact List.mem_flatten.2 ⟨g, hg, hr⟩
theorem grp_foldE {k a : Int} {l : List Rec} (hf : fam k a = 4) (hl : l.all okR = true) {g : List Rec} (hg : g ∈ grp l) : foldE k a g = 0 := by
  have h1 := grp_each _ l (Nat.le_refl _) g hg
  have h2 := grp_ok hl hg
  unfold foldE
  rw [if_neg (by omega), if_pos h2, if_pos (sameKey_iff.2 h1)]
theorem grp_len : ∀ (n : Nat) (l : List Rec), l.length ≤ n → (grp l).length ≤ l.length
  | 0, l, h => by
    have := List.eq_nil_of_length_eq_zero (Nat.le_zero.1 h)
    subst this; rw [grp_nil]; exact Nat.le_refl _
  | n + 1, [], h => by rw [grp_nil]; exact Nat.le_refl _
  | n + 1, x :: l, h => by
    have hd := (List.dropWhile_sublist (fun r : Rec => r.1 == x.1) (l := l)).length_le
    simp only [List.length_cons] at h
    rw [grp, List.length_cons, List.length_cons]
    have := grp_len n _ (show (l.dropWhile (fun r => r.1 == x.1)).length ≤ n by omega)
    omega
theorem grp_glen {l g : List Rec} (hg : g ∈ grp l) : g.length ≤ l.length := by
  have := (List.sublist_flatten_of_mem hg).length_le
  rw [grp_flat _ l (Nat.le_refl _)] at this
  exact this

section
variable {h : Heap} {Q : AV → Heap → Prop} {q : Option SL} {l : List Rec} {p : Nat} {own : Nat → Prop} {out : List Rec}
/-- fold -/
theorem c57 {k a : Int} (M : MK h p own out) (ho : out.length ≤ 1000000) (H : HasL recE h q l) (hl : l.length ≤ 1000000) (hm : mayC l = 0) (hf : fam k a = 4) (hok : l.all okR = true)
    (hQ : ∀ h' own', MK h' p own' (out ++ (grp (sortR l)).map (foldV k)) → MStep own h own' h' → Q (.tup []) h') : AC Try.prog 57 [.ptr (some ⟨p, 0⟩), .agg [.int .i64 k, .int .i64 a], .sl q] h Q := ac57 (by
  unfold vc57
  refine c77 H hl hm fun q7 h6 x6 G => ⟨q7, 0, rfl, ?_⟩
  have hSok : (sortR l).all okR = true := by rw [all_perm (sortR_perm l)]; exact hok
  have hSl : (sortR l).length = l.length := sortR_len
  generalize sortR l = S at *
  have hgl := grp_len _ S (Nat.le_refl _)
  have l6 := x6.len
  refine ⟨fun xs h12 => ∃ (i : Nat) (own1 : Nat → Prop), xs = [.int .i64 i] ∧ i ≤ (grp S).length ∧ MK h12 p own1 (out ++ ((grp S).take i).map (foldV k)) ∧ MStep own h own1 h12 ∧ h6.length ≤ h12.length ∧ (∀ b, own1 b → own b ∨ h6.length ≤ b) ∧ InGG (fun b => h.length ≤ b ∧ b < h6.length) h12 q7 (grp S),
    fun xs _ => match xs with | [.int _ i] => ((grp S).length - i).toNat | _ => 0, ⟨0, own, rfl, by omega, by simpa using M.grow x6, MStep.ext x6, Nat.le_refl _, fun b hb => .inl hb, G⟩, ?_⟩
  rintro n9 h12 ⟨i, own1, hx, hi, M1, S1, l12, o1, G1⟩
  simp only [List.cons.injEq, AV.int.injEq, true_and, and_true] at hx
  subst hx
  rw [G1.len]
  refine vif_mk (fun g => ?_) (fun g => ?_)
  · replace g := of_decide_eq_true g
    refine G1.idx (i := i) (by omega) rfl fun pp s gl hgl2 hc Hg _ => ⟨s, hc, ?_⟩
    have hmem : gl ∈ grp S := List.mem_of_getElem? hgl2
    have hgl3 := grp_glen hmem
    refine o78 Hg (by omega) fun h16 x16 => ?_
    rw [grp_foldE hf hSok hmem, if_pos rfl]
    refine ⟨_, _, _, rfl, c60one (M1.grow x16) (by rw [List.length_append, List.length_map, List.length_take]; omega) fun h' own' M' S' => ⟨rfl, ⟨rfl, trivial⟩, ⟨i + 1, own', ?_, by omega, ?_, S1.trans ((MStep.ext x16).trans S'), ?_, fun b hb => ?_, ?_⟩, ?_⟩⟩
    · rw [wrapK_i64 ⟨by omega, by omega⟩]; rfl
    · have e : ((grp S).take (i + 1)).map (foldV k) = ((grp S).take i).map (foldV k) ++ [((foldV k gl).1, (foldV k gl).2)] := by rw [List.take_add_one, hgl2]; simp
      rw [e, ← List.append_assoc]; exact M'
    · have := S'.len; have := x16.len; omega
    · rcases S'.grow b hb with hb | hb
      · exact o1 b hb
      · have := x16.len; exact .inr (by omega)
    · refine (G1.mono x16).keeps S'.keeps fun b hb ho => ?_
      rcases o1 b ho with ho | ho
      · have := M.live b ho; omega
      · omega
    · rw [wrapK_i64 ⟨by omega, by omega⟩]; simp only; omega
  · replace g := of_decide_eq_false g
    have e : (grp S).take i = grp S := List.take_of_length_le (by omega)
    rw [e] at M1
    exact hQ h12 own1 M1 S1)
end
end Go.Proofs.Ytfafgnmlnhklaaa

/- Records by their keys, in a map; pairs. -/
namespace Go.Proofs.Ytfafgnmlnhklaaa
open Go.Ab
set_option linter.unusedVariables false
set_option linter.unusedSimpArgs false

abbrev KE := Int × Option SL × Nat
def entK (e : KE) : AV × AV × Nat := (.int .i64 e.1, .sl e.2.1, e.2.2)
theorem findP_int {P : Program} {kt : TypeId} (hkt : P.underlying kt = some (.int .i64)) {k : Int} {K : Option (Nat × AV × Nat) → Prop} : ∀ {ks : List KE} {i : Nat}, ((∀ e ∈ ks, e.1 ≠ k) → K none) → (∀ j e, ks[j]? = some e → e.1 = k → K (some (i + j, .sl e.2.1, e.2.2))) → findP P kt (.int .i64 k) (ks.map entK) i K
  | [], i, h0, h1 => h0 (by simp)
  | e :: ks, i, h0, h1 => by
    simp only [List.map_cons, entK]
    unfold findP keyIs
    rw [hkt]
    refine need_mk (by simp) (vif_mk (fun g => ?_) (fun g => ?_))
    · have g : k = e.1 := by simpa using g
      have := h1 0 e rfl g.symm
      simpa using this
    · have g : k ≠ e.1 := by simpa using g
      refine findP_int hkt (fun hn => h0 (fun x hx => ?_)) fun j x hj hx => ?_
      · rcases List.mem_cons.1 hx with rfl | hx
        · exact fun e => g e.symm
        · exact hn x hx
      · have := h1 (j + 1) x (by simpa using hj) hx
        rw [show i + (j + 1) = i + 1 + j by omega] at this
        exact this
theorem tz24 : tz Try.prog 24 = some (.sl none) := by kernel_rfl
theorem kok {k : Int} : keyOk Try.prog 3 (.int .i64 k) = true := by
  unfold keyOk; rw [Try.underlying3]; rfl

attribute [local irreducible] need keyOk
/-- Records by keys. -/
structure BK (F : Nat → Prop) (h : Heap) (mb : Nat) (l : List Rec) (ks : List KE) (cl : Nat) : Prop where
  cells : h[mb]? = some (.mp (ks.map entK) cl)
  mine : F mb
  nod : (ks.map (·.1)).Nodup
  each : ∀ e ∈ ks, AppJ recE h e.2.1 (l.filter fun r => r.1 == e.1) ∧ ∃ s, e.2.1 = some s ∧ F s.b ∧ s.b ≠ mb
  miss : ∀ k, (∀ e ∈ ks, e.1 ≠ k) → (l.filter fun r => r.1 == k) = []
  apart : ∀ e ∈ ks, ∀ e' ∈ ks, e.1 ≠ e'.1 → ∀ s s', e.2.1 = some s → e'.2.1 = some s' → s.b ≠ s'.b
  brn : (ks.map (·.2.2)).Nodup
  brl : ∀ e ∈ ks, e.2.2 < cl
  has : ∀ e ∈ ks, ∃ r ∈ l, r.1 = e.1

section
variable {F X : Nat → Prop} {h h' : Heap} {mb : Nat} {l : List Rec} {ks : List KE} {cl : Nat}
theorem BK.keeps (B : BK F h mb l ks cl) (K : Keeps X h h') (hX : ∀ b, F b → ¬ X b) : BK F h' mb l ks cl := by
  obtain ⟨c, m, n, e, ms, ap, br, bl, hs⟩ := B
  refine ⟨K _ _ (hX _ m) c, m, n, fun x hx => ?_, ms, ap, br, bl, hs⟩
  obtain ⟨h1, s, h2, h3, h4⟩ := e x hx
  exact ⟨h1.keeps K (fun s' hs' => by rw [h2] at hs'; cases hs'; exact hX _ h3), s, h2, h3, h4⟩
theorem BK.mono (B : BK F h mb l ks cl) (x : Ext h h') : BK F h' mb l ks cl := B.keeps (X := fun _ => False) (keeps_of_ext x) (fun _ _ h => h)
theorem BK.look (B : BK F h mb l ks cl) {k : Int} {K : AV → Prop} (hK : ∀ q, AppJ recE h q (l.filter fun r => r.1 == k) → (∀ s, q = some s → F s.b) → (q = none ∧ (∀ e ∈ ks, e.1 ≠ k) ∨ ∃ e ∈ ks, e.1 = k ∧ q = e.2.1) → K (.sl q)) : PLookup Try.prog 3 24 (some mb) (.int .i64 k) false h K := by
  unfold PLookup mapEs
  simp only [B.cells, tz24]
  refine need_mk kok ?_
  refine findP_int Try.underlying3 (fun hn => ?_) fun j e he hk => ?_
  · refine hK none (.inl ⟨rfl, B.miss k hn⟩) (fun s hs => by cases hs) (.inl ⟨rfl, hn⟩)
  · have hm := List.mem_of_getElem? he
    obtain ⟨h1, s, h2, h3, h4⟩ := B.each e hm
    rw [hk] at h1
    exact hK e.2.1 h1 (fun s' hs' => by rw [h2] at hs'; cases hs'; exact h3) (.inr ⟨e, hm, hk, rfl⟩)
/-- One record more. -/
theorem BK.put {r : Rec} {q q' : Option SL} {h12 h14 : Heap} {K : Heap → Prop} (B : BK F h mb l ks cl) (x : Ext h h12) (hq : q = none ∧ (∀ e ∈ ks, e.1 ≠ r.1) ∨ ∃ e ∈ ks, e.1 = r.1 ∧ q = e.2.1)
    (A : AppJ recE h14 q' ((l.filter fun y => y.1 == r.1) ++ [r])) (KK : Keeps (fun b => ∃ s, q = some s ∧ s.b = b) h12 h14) (hq' : ∀ s', q' = some s' → h12.length ≤ s'.b ∨ ∃ s, q = some s ∧ s.b = s'.b) (hF : ∀ b, h12.length ≤ b → F b)
    (hl : h12.length ≤ h14.length)
    (hK : ∀ h15 ks' cl', BK F h15 mb (l ++ [r]) ks' cl' → Keeps F h12 h15 → h15.length = h14.length → K h15) : PUpdate Try.prog 3 mb (.int .i64 r.1) (.sl q') h14 K := by
  have hmq : ∀ s, q = some s → F s.b ∧ s.b ≠ mb := by
    intro s hs
    rcases hq with ⟨rfl, _⟩ | ⟨e, he, _, rfl⟩
    · cases hs
    · obtain ⟨_, s2, h2, h3, h4⟩ := B.each e he
      rw [h2] at hs; cases hs; exact ⟨h3, h4⟩
  have hmb := lt_of_get (x _ _ B.cells)
  have c14 : h14[mb]? = some (.mp (ks.map entK) cl) := KK _ _ (fun ⟨s, a1, a2⟩ => (hmq s a1).2 a2) (x _ _ B.cells)
  have hne : ∃ s', q' = some s' := by
    rcases A with ⟨_, h0⟩ | ⟨a, c, o, j, h0, _⟩
    · simp at h0
    · exact ⟨_, h0⟩
  obtain ⟨s', hs'⟩ := hne
  have hF' : F s'.b ∧ s'.b ≠ mb := by
    rcases hq' s' hs' with a | ⟨s, a1, a2⟩
    · exact ⟨hF _ a, by omega⟩
    · rw [← a2]; exact hmq s a1
  have fin : ∀ (ks' : List KE) (cl' n' : Nat), (∀ e ∈ ks', e = (r.1, q', n') ∨ (e ∈ ks ∧ e.1 ≠ r.1)) → (∀ e ∈ ks, e.1 ≠ r.1 → e ∈ ks') → (r.1, q', n') ∈ ks' → (ks'.map (·.1)).Nodup → (ks'.map (·.2.2)).Nodup → (∀ e ∈ ks', e.2.2 < cl') → K (h14.set mb (.mp (ks'.map entK) cl')) := by
    intro ks' cl' n' h1 h2 h3 h4 h5 h6
    have K15 : Keeps (fun b => b = mb) h14 (h14.set mb (.mp (ks'.map entK) cl')) := keeps_set rfl
    have flt : ∀ k : Int, k ≠ r.1 → ((l ++ [r]).filter fun y => y.1 == k) = l.filter fun y => y.1 == k := by
      intro k hk
      rw [List.filter_append, List.filter_cons_of_neg (by simpa using fun e => hk e.symm)]
      simp
    have blk : ∀ e ∈ ks, e.1 ≠ r.1 → ∀ s, e.2.1 = some s → s.b < h12.length ∧ (∀ t, q = some t → t.b ≠ s.b) ∧ s.b ≠ s'.b := by
      intro e he hk s hs
      obtain ⟨g1, s2, g2, g3, g4⟩ := B.each e he
      rw [hs] at g2; cases g2
      have hlt := g1.live s hs
      have := x.len
      have hqs : ∀ t, q = some t → t.b ≠ s.b := by
        intro t ht
        rcases hq with ⟨rfl, _⟩ | ⟨e2, he2, hk2, rfl⟩
        · cases ht
        · exact B.apart e2 he2 e he (by rw [hk2]; exact fun e => hk e.symm) t s ht hs
      refine ⟨by omega, hqs, fun e => ?_⟩
      rcases hq' s' hs' with a | ⟨t, a1, a2⟩
      · omega
      · exact hqs t a1 (by rw [a2]; exact e.symm)
    refine hK _ ks' cl' ⟨List.getElem?_set_self (lt_of_get c14), B.mine, h4, fun e he => ?_, fun k hk => ?_, fun e he e' he' hne s t hs ht => ?_, h5, h6, fun e he => ?_⟩ (fun b C hb hC => ?_) (by simp)
    · rcases h1 e he with rfl | ⟨he, hk⟩
      · refine ⟨?_, s', hs', hF'⟩
        have e1 : ((l ++ [r]).filter fun y => y.1 == r.1) = (l.filter fun y => y.1 == r.1) ++ [r] := by
          rw [List.filter_append, List.filter_cons_of_pos (by simp)]; simp
        simp only [e1]
        exact A.keeps K15 (fun s hs => by rw [hs'] at hs; cases hs; exact hF'.2)
      · obtain ⟨g1, s2, g2, g3, g4⟩ := B.each e he
        rw [flt _ hk]
        exact ⟨((g1.ext x).keeps KK (fun s hs ⟨t, a1, a2⟩ => (blk e he hk s hs).2.1 t a1 a2)).keeps K15 (fun s hs => by rw [g2] at hs; cases hs; exact g4), s2, g2, g3, g4⟩
    · have hkr : k ≠ r.1 := fun e => hk _ h3 e.symm
      rw [flt k hkr]
      refine B.miss k fun e he hek => ?_
      exact hk e (h2 e he (by rw [hek]; exact hkr)) hek
    · rcases h1 e he with rfl | ⟨he1, hk1⟩ <;> rcases h1 e' he' with rfl | ⟨he2, hk2⟩
      · exact absurd rfl hne
      · rw [hs'] at hs; cases hs; exact fun e => (blk e' he2 hk2 t ht).2.2 e.symm
      · rw [hs'] at ht; cases ht; exact (blk e he1 hk1 s hs).2.2
      · exact B.apart e he1 e' he2 hne s t hs ht
    · rcases h1 e he with rfl | ⟨he, hk⟩
      · exact ⟨r, by simp, rfl⟩
      · obtain ⟨u, hu, hk2⟩ := B.has e he
        exact ⟨u, List.mem_append_left _ hu, hk2⟩
    · exact K15 b C (fun e => hb (by rw [e]; exact B.mine)) (KK b C (fun ⟨s, a1, a2⟩ => hb (by rw [← a2]; exact (hmq s a1).1)) hC)
  unfold PUpdate
  simp only [c14]
  refine need_mk (by rw [kok]; rfl) ?_
  refine findP_int Try.underlying3 (fun hn => ?_) fun j e he hk => ?_
  · have e1 : ks.map entK ++ [(AV.int .i64 r.1, AV.sl q', cl)] = (ks ++ [(r.1, q', cl)]).map entK := by simp [entK]
    simp only [e1]
    refine fin _ _ cl (fun e he => ?_) (fun e he _ => by simp [he]) (by simp) ?_ ?_ ?_
    · rcases List.mem_append.1 he with he | he
      · exact .inr ⟨he, hn e he⟩
      · simp only [List.mem_singleton] at he; exact .inl he
    · rw [List.map_append, List.nodup_append]
      refine ⟨B.nod, by simp, fun a ha b hb e => ?_⟩
      simp only [List.map_cons, List.map_nil, List.mem_singleton] at hb
      obtain ⟨u, hu, rfl⟩ := List.mem_map.1 ha
      exact hn u hu (by rw [e, hb])
    · rw [List.map_append, List.nodup_append]
      refine ⟨B.brn, by simp, fun a ha b hb e => ?_⟩
      simp only [List.map_cons, List.map_nil, List.mem_singleton] at hb
      obtain ⟨u, hu, rfl⟩ := List.mem_map.1 ha
      have := B.brl u hu
      omega
    · intro e he
      rcases List.mem_append.1 he with he | he
      · exact Nat.lt_succ_of_lt (B.brl e he)
      · simp only [List.mem_singleton] at he; subst he; exact Nat.lt_succ_self _
  · simp only [Nat.zero_add]
    have e1 : (ks.map entK).set j (AV.int .i64 r.1, AV.sl q', e.2.2) = (ks.set j (r.1, q', e.2.2)).map entK := by rw [List.map_set]; rfl
    rw [e1]
    have hjl := lt_of_get he
    have nodk : ∀ (i : Nat) (u : KE), ks[i]? = some u → u.1 = r.1 → i = j := by
      intro i u hu hur
      have h1 : (ks.map (·.1))[i]? = some r.1 := by rw [List.getElem?_map, hu, ← hur]; rfl
      have h2 : (ks.map (·.1))[j]? = some r.1 := by rw [List.getElem?_map, he, ← hk]; rfl
      exact (List.getElem?_inj (lt_of_get h1) B.nod).1 (by rw [h1, h2])
    refine fin _ _ e.2.2 (fun u hu => ?_) (fun u hu hne => ?_) ?_ ?_ ?_ ?_
    · obtain ⟨i, hi⟩ := List.mem_iff_getElem?.1 hu
      rw [List.getElem?_set] at hi
      split at hi
      · rename_i hij
        subst hij
        exact .inl (Option.some.inj hi).symm
      · rename_i hij
        refine .inr ⟨List.mem_of_getElem? hi, fun hur => hij (nodk i u hi hur).symm⟩
    · obtain ⟨i, hi⟩ := List.mem_iff_getElem?.1 hu
      refine List.mem_iff_getElem?.2 ⟨i, ?_⟩
      rw [List.getElem?_set, if_neg]
      · exact hi
      · intro hij
        subst hij
        rw [he] at hi; cases hi
        exact hne hk
    · exact List.mem_iff_getElem?.2 ⟨j, List.getElem?_set_self hjl⟩
    · have : (ks.set j (r.1, q', e.2.2)).map (·.1) = ks.map (·.1) := by
        rw [List.map_set]
        apply List.ext_getElem?
        intro i
        rw [List.getElem?_set]
        split
        · rename_i hij
          subst hij
          rw [if_pos (by simpa using hjl), List.getElem?_map, he]
          simp [hk]
        · rfl
      rw [this]; exact B.nod
    · have : (ks.set j (r.1, q', e.2.2)).map (·.2.2) = ks.map (·.2.2) := by
        rw [List.map_set]
        apply List.ext_getElem?
        intro i
        rw [List.getElem?_set]
        split
        · rename_i hij
          subst hij
          rw [if_pos (by simpa using hjl), List.getElem?_map, he]
          rfl
        · rfl
      rw [this]; exact B.brn
    · intro u hu
      obtain ⟨i, hi⟩ := List.mem_iff_getElem?.1 hu
      rw [List.getElem?_set] at hi
      split at hi
      · cases hi; exact B.brl e (List.mem_of_getElem? he)
      · exact B.brl u (List.mem_of_getElem? hi)
end

section
variable {h : Heap} {Q : AV → Heap → Prop} {q : Option SL} {l : List Rec}
set_option maxRecDepth 20000 in
/-- byKey -/
theorem c34 (H : HasL recE h q l) (hl : l.length ≤ 1000000) (hQ : ∀ h' mb ks cl, Ext h h' → BK (fun b => h.length ≤ b ∧ b < h'.length) h' mb l ks cl → Q (.map (some mb)) h') : AC Try.prog 34 [.sl q] h Q := ac34 (by
  unfold vc34
  have x0 := Ext.app h [Blk.mp [] 0]
  have B0 : BK (fun b => h.length ≤ b) (h ++ [Blk.mp [] 0]) h.length [] [] 0 := ⟨by simp, Nat.le_refl _, by simp, by simp, by simp, by simp, by simp, by simp, by simp⟩
  refine ⟨fun xs h5 => ∃ (i : Nat) (ks : List KE) (cl : Nat), xs = [.int .i64 i] ∧ i ≤ l.length ∧ Ext h h5 ∧ BK (fun b => h.length ≤ b) h5 h.length (l.take i) ks cl, left l.length, ⟨0, [], 0, rfl, by omega, x0, B0⟩, ?_⟩
  rintro n2 h5 ⟨i, ks, cl, hx, hi, x5, B5⟩
  simp only [List.cons.injEq, AV.int.injEq, true_and, and_true] at hx
  subst hx
  rw [H.len]
  refine vif_mk (fun g => ?_) (fun g => ?_)
  · replace g := of_decide_eq_true g
    refine (H.mono x5).idx (E := recE) (by omega) (by omega) fun p r hr hc => ⟨_, _, hc, ?_⟩
    simp only [Int.toNat_natCast] at hr
    refine B5.look fun q10 A10 _ hq10 => ⟨q10, rfl, pnew_mk ?_⟩
    have x12 := Ext.app h5 [Blk.cells [.int .i64 r.1, .int .i64 r.2] true]
    have Hn : HasL recE (h5 ++ [Blk.cells [.int .i64 r.1, .int .i64 r.2] true]) (some ⟨h5.length, 0, 1, 1, 0⟩) [r] := HasL.new (n := 1) rfl rfl
    have l12 : (h5 ++ [Blk.cells [AV.int .i64 r.1, .int .i64 r.2] true]).length = h5.length + 1 := by simp
    generalize h5 ++ [Blk.cells [.int .i64 r.1, .int .i64 r.2] true] = h12 at *
    have l5 := x5.len
    refine ⟨(B5.mono x12).look fun q A _ hq => ⟨q, rfl, ?_⟩, rfl, rfl, ?_⟩
    · -- the same one
      have : q = q10 := by
        rcases hq with ⟨rfl, hn⟩ | ⟨e, he, hk, rfl⟩ <;> rcases hq10 with ⟨rfl, hn'⟩ | ⟨e', he', hk', rfl⟩
        · rfl
        · exact absurd hk' (hn e' he')
        · exact absurd hk (hn' e he)
        · obtain ⟨i1, h1⟩ := List.mem_iff_getElem?.1 he
          obtain ⟨i2, h2⟩ := List.mem_iff_getElem?.1 he'
          have g1 : (ks.map (·.1))[i1]? = some r.1 := by rw [List.getElem?_map, h1, ← hk]; rfl
          have g2 : (ks.map (·.1))[i2]? = some r.1 := by rw [List.getElem?_map, h2, ← hk']; rfl
          have : i1 = i2 := (List.getElem?_inj (lt_of_get g1) B5.nod).1 (by rw [g1, g2])
          subst this
          rw [h1] at h2; cases h2; rfl
      rw [this]
    have hfl : ((l.take i).filter fun y => y.1 == r.1).length ≤ l.length := Nat.le_trans (List.length_filter_le _ _) (by rw [List.length_take]; omega)
    refine AppJ.append (E := recE) (A10.ext x12) Hn (Nat.le_trans (Nat.mul_le_mul_right 16 (Nat.add_le_add hfl (Nat.le_refl 1))) (by omega)) fun q13 h14 A14 K14 l14 hq13 => ⟨rfl, ?_⟩
    refine B5.put x12 hq10 A14 K14 hq13 (fun b hb => by omega) l14 fun h15 ks' cl' B15 K15 l15 => ?_
    rw [wrapK_i64 ⟨by omega, by omega⟩]
    refine ⟨trivial, ⟨i + 1, ks', cl', by simp, by omega, ?_, ?_⟩, by simp only [left]; omega⟩
    · intro b C hC
      have := lt_of_get hC
      exact K15 b C (by omega) (x12 _ _ (x5 _ _ hC))
    · rw [List.take_add_one, hr]; exact B15
  · replace g := of_decide_eq_false g
    have e : l.take i = l := List.take_of_length_le (by omega)
    rw [e] at B5
    obtain ⟨c, m, n, ea, ms, ap, br, bl, hs⟩ := B5
    exact hQ h5 _ ks cl x5 ⟨c, ⟨m, lt_of_get c⟩, n, fun e he => by
      obtain ⟨h1, s, h2, h3, h4⟩ := ea e he
      exact ⟨h1, s, h2, ⟨h3, h1.live s h2⟩, h4⟩, ms, ap, br, bl, hs⟩)

def pairAll (k : Int) (a b : List Rec) : List Rec := a.flatMap fun x => (b.filter fun y => y.1 == x.1).map fun y => pairV k x y
end

section
variable {h : Heap} {Q : AV → Heap → Prop} {q4 q5 : Option SL} {la lb : List Rec} {p : Nat} {own : Nat → Prop}
set_option maxRecDepth 20000 in
/-- pair -/
theorem c58 {k a : Int} (M : MK h p own []) (Ha : HasL recE h q4 la) (Hb : HasL recE h q5 lb) (hla : la.length ≤ 1000000) (hlb : lb.length ≤ 1000000) (hna : ∀ s, q4 = some s → ¬ own s.b) (hf : fam k a = 5) (hoka : la.all okR = true) (hokb : lb.all okR = true)
    (hQ : ∀ h' own' out, MK h' p own' out → MStep own h own' h' → (out.length ≤ 4096 → out = pairAll k la lb) → (out.length > 4096 → (pairAll k la lb).length > 4096) → Q (.tup []) h') : AC Try.prog 58 [.ptr (some ⟨p, 0⟩), .agg [.int .i64 k, .int .i64 a], .sl q4, .sl q5] h Q := ac58 (by
  unfold vc58
  refine c34 Hb hlb fun h7 mb ks cl x7 B7 => ⟨_, rfl, ?_⟩
  have l7 := x7.len
  -- what has been made so far is the first of all
  let J : Heap → List Rec → Prop := fun h12 out => ∃ own1, MK h12 p own1 out ∧ MStep own h own1 h12 ∧ h7.length ≤ h12.length ∧ (∀ b, own1 b → own b ∨ h7.length ≤ b) ∧ HasL recE h12 q4 la ∧ (∀ s, q4 = some s → ¬ own1 s.b) ∧ BK (fun b => h.length ≤ b ∧ b < h7.length) h12 mb lb ks cl
  have J0 : J h7 [] := ⟨own, M.grow x7, MStep.ext x7, Nat.le_refl _, fun b hb => .inl hb, Ha.mono x7, hna, B7⟩
  have full : ∀ {h' : Heap} {out more : List Rec}, J h' out → out.length > 4096 → out ++ more = pairAll k la lb → Q (.tup []) h' := by
    rintro h' out more ⟨own1, M1, S1, _, _, _, _, _⟩ hg he
    refine hQ h' own1 out M1 S1 (fun hn => by omega) (fun _ => ?_)
    rw [← he, List.length_append]; omega
  have hall : ∀ i x, la[i]? = some x → pairAll k la lb = pairAll k (la.take i) lb ++ (((lb.filter fun y => y.1 == x.1).map fun y => pairV k x y) ++ pairAll k (la.drop (i + 1)) lb) := by
    intro i x hx
    have hlt := lt_of_get hx
    have e : la = la.take i ++ x :: la.drop (i + 1) := by
      conv => lhs; rw [← List.take_append_drop i la, List.drop_eq_getElem_cons hlt]
      rw [List.getElem?_eq_getElem hlt] at hx
      cases hx; rfl
    conv => lhs; rw [e]
    simp [pairAll]
  refine ⟨fun xs h12 => ∃ (i : Nat), xs = [.int .i64 i] ∧ i ≤ la.length ∧ J h12 (pairAll k (la.take i) lb) ∧ (pairAll k (la.take i) lb).length ≤ 4097, left la.length, ⟨0, rfl, by omega, by simpa [pairAll] using J0, by simp [pairAll]⟩, ?_⟩
  rintro n9 h12 ⟨i, hx, hi, J12, hlen12⟩
  simp only [List.cons.injEq, AV.int.injEq, true_and, and_true] at hx
  subst hx
  rw [Ha.len]
  refine vif_mk (fun g => ?_) (fun g => ?_)
  · replace g := of_decide_eq_true g
    have J12' := J12
    obtain ⟨own1, M1, S1, l12, o1, H1, n1, B1⟩ := J12
    refine H1.idx (E := recE) (by omega) (by omega) fun pp x hx hc => ⟨_, _, hc, ?_⟩
    simp only [Int.toNat_natCast] at hx
    have hcat := hall i x hx
    refine B1.look fun q17 A17 f17 _ => ⟨q17, rfl, ?_⟩
    have hxok : okR x = true := by rw [List.all_eq_true] at hoka; exact hoka x (List.mem_of_getElem? hx)
    generalize hfl : (lb.filter fun y => y.1 == x.1) = fl at *
    have hfll : fl.length ≤ lb.length := by rw [← hfl]; exact List.length_filter_le _ _
    refine ⟨fun xs h21 => ∃ (j : Nat), xs = [.int .i64 j] ∧ j ≤ fl.length ∧ J h21 (pairAll k (la.take i) lb ++ (fl.take j).map fun y => pairV k x y) ∧ (pairAll k (la.take i) lb ++ (fl.take j).map fun y => pairV k x y).length ≤ 4097 ∧ HasL recE h21 q17 fl, left fl.length, ⟨0, rfl, by omega, by simpa using J12', by simpa using hlen12, A17.hasL⟩, ?_⟩
    rintro n18 h21 ⟨j, hx2, hj, J21, hlen21, H17⟩
    simp only [List.cons.injEq, AV.int.injEq, true_and, and_true] at hx2
    subst hx2
    rw [H17.len]
    refine vif_mk (fun g1 => ?_) (fun g1 => ?_)
    · replace g1 := of_decide_eq_true g1
      refine H17.idx (E := recE) (by omega) (by omega) fun p22 y hy hcy => ⟨_, _, hcy, ?_⟩
      simp only [Int.toNat_natCast] at hy
      have hym : y ∈ fl := List.mem_of_getElem? hy
      have hylb : y ∈ lb ∧ y.1 = x.1 := by rw [← hfl] at hym; simpa using hym
      have hyok : okR y = true := by rw [List.all_eq_true] at hokb; exact hokb y hylb.1
      have J21' := J21
      obtain ⟨own2, M2, S2, l21, o2, H2, n2, B2⟩ := J21
      obtain ⟨qm, m1, m2, m3⟩ := M2.cells
      refine ⟨_, by rw [cells6 m1 (by simp)]; rfl, vif_mk (fun g2 => ?_) (fun g2 => ?_)⟩
      · have g2 := of_decide_eq_true g2
        refine full (more := ((fl.drop j).map fun y => pairV k x y) ++ pairAll k (la.drop (i + 1)) lb) J21' g2 ?_
        rw [hcat, List.append_assoc]
        congr 1
        rw [← List.append_assoc, ← List.map_append, List.take_append_drop]
      · have g2 := of_decide_eq_false g2
        refine o79 fun h28 x28 => ?_
        have hE : pairE k a (x.1, x.2) (y.1, y.2) = 0 := by
          unfold pairE
          rw [if_neg (by omega), if_pos (by rw [Bool.and_eq_true]; exact ⟨hxok, hyok⟩), if_pos hylb.2.symm]
        rw [hE, if_pos rfl]
        refine ⟨_, _, _, rfl, c60one (M2.grow x28) (by omega) fun h' own' M' S' => ⟨rfl, ⟨rfl, rfl, trivial⟩, ⟨j + 1, ?_, by omega, ⟨own', ?_, S2.trans ((MStep.ext x28).trans S'), ?_, fun b hb => ?_, ?_, ?_, ?_⟩, ?_, ?_⟩, ?_⟩⟩
        · rw [wrapK_i64 ⟨by omega, by omega⟩]; rfl
        · have e : (fl.take (j + 1)).map (fun y => pairV k x y) = (fl.take j).map (fun y => pairV k x y) ++ [((pairV k (x.1, x.2) (y.1, y.2)).1, (pairV k (x.1, x.2) (y.1, y.2)).2)] := by rw [List.take_add_one, hy]; simp
          rw [e, ← List.append_assoc]; exact M'
        · have := S'.len; have := x28.len; omega
        · rcases S'.grow b hb with hb | hb
          · exact o2 b hb
          · have := x28.len; exact .inr (by omega)
        · exact (((MStep.ext x28).trans S').hasL H2 n2).1
        · exact (((MStep.ext x28).trans S').hasL H2 n2).2
        · refine (B2.mono x28).keeps S'.keeps fun b hb ho => ?_
          rcases o2 b ho with ho | ho
          · have := M.live b ho; omega
          · omega
        · have e : (fl.take (j + 1)).map (fun y => pairV k x y) = (fl.take j).map (fun y => pairV k x y) ++ [pairV k x y] := by rw [List.take_add_one, hy]; simp
          rw [e, ← List.append_assoc, List.length_append]; show _ + 1 ≤ 4097; omega
        · refine (((MStep.ext x28).trans S').hasL H17 fun s hs ho => ?_).1
          have := f17 s hs
          rcases o2 _ ho with ho | ho
          · have := M.live _ ho; omega
          · omega
        · rw [wrapK_i64 ⟨by omega, by omega⟩]; simp only [left]; omega
    · replace g1 := of_decide_eq_false g1
      have e : fl.take j = fl := List.take_of_length_le (by omega)
      rw [e] at J21 hlen21
      have e2 : pairAll k (la.take (i + 1)) lb = pairAll k (la.take i) lb ++ fl.map fun y => pairV k x y := by
        rw [List.take_add_one, hx]
        simp [pairAll, hfl]
      rw [wrapK_i64 ⟨by omega, by omega⟩]
      exact ⟨⟨rfl, trivial⟩, ⟨i + 1, by simp, by omega, by rw [e2]; exact J21, by rw [e2]; exact hlen21⟩, by simp only [left]; omega⟩
  · replace g := of_decide_eq_false g
    have e : la.take i = la := List.take_of_length_le (by omega)
    rw [e] at J12
    obtain ⟨own1, M1, S1, _⟩ := J12
    exact hQ h12 own1 _ M1 S1 (fun _ => rfl) (fun h => h))
end
end Go.Proofs.Ytfafgnmlnhklaaa

/- An operator: what it makes of bags. -/
namespace Go.Proofs.Ytfafgnmlnhklaaa
open Go.Ab
set_option linter.unusedVariables false
set_option linter.unusedSimpArgs false

theorem mapV_ok {k a : Int} {r : Int × Int} (hf : fam k a ≠ 0) (hr : okR r = true) : okR (mapV k a r) = true := by
  obtain ⟨x, y⟩ := r
  have ha := fam_range hf
  have hm : (k = 4 ∨ k = 5 ∨ k = 6) → 1 ≤ a := fam_mod hf
  rw [okR_iff] at hr
  obtain ⟨⟨x0, x1⟩, y0, y1⟩ := hr
  simp only at x0 x1 y0 y1
  rw [okR_iff]
  unfold mapV
  split
  · simp only; omega
  split
  · simp only; omega
  split
  · simp only; omega
  split
  · have := hm (by omega)
    simp only
    have h1 := Int.emod_nonneg x (show a ≠ 0 by omega)
    have h2 := Int.emod_lt_of_pos x (show 0 < a by omega)
    omega
  split
  · have := hm (by omega)
    simp only
    have h1 := Int.emod_nonneg y (show a ≠ 0 by omega)
    have h2 := Int.emod_lt_of_pos y (show 0 < a by omega)
    omega
  split
  · have := hm (by omega)
    simp only
    have hd : 0 ≤ y / a ∧ y / a ≤ y := ⟨Int.ediv_nonneg y0 (by omega), Int.ediv_le_self a y0⟩
    omega
  split
  · simp only; split <;> omega
  split
  · simp only; split <;> omega
  · simp only; omega

theorem pairV_ok {k : Int} {r s : Int × Int} (hr : okR r = true) (hs : okR s = true) : okR (pairV k r s) = true := by
  have hr' := hr; have hs' := hs
  rw [okR_iff] at hr' hs'
  unfold pairV
  repeat' split
  · exact hr
  · exact hs
  · rw [okR_iff]; simp only; omega
  · rw [okR_iff]; simp only; omega


def arityV (op : Int) : Nat := if op = 6 ∨ op = 8 then 2 else if op = 2 ∨ op = 3 ∨ op = 4 ∨ op = 5 ∨ op = 7 ∨ op = 9 then 1 else 0
/-- Is it an operator? -/
def isOp (op : Int) (nIn : Nat) (k a A : Int) (nB : Nat) : Bool :=
  decide (2 ≤ op) && decide (op ≤ 8) && decide (nIn = arityV op) && decide (nB = 0) && decide (A = 0) && (if op = 7 ∨ op = 8 then decide (k = 0) && decide (a = 0) else decide (fam k a = op - 1))
/-- What is made of bags that may be. -/
def madeV (op k a : Int) (ins : List (List Rec)) : List Rec :=
  if op = 5 then (grp (sortR (ins.getD 0 []))).map (foldV k) else if op = 6 then pairAll k (ins.getD 0 []) (ins.getD 1 []) else if op = 7 then dd (sortR (ins.getD 0 [])) else
  if op = 8 then ins.getD 0 [] ++ ins.getD 1 [] else (ins.getD 0 []).flatMap (oneV op k a)
/-- What is wrong with the first bag that may not be. -/
def insE : List (List Rec) → Int
  | [] => 0
  | l :: ls => if mayC l ≠ 0 then mayC l else insE ls
def applyE (op : Int) (nIn : Nat) (k a A : Int) (nB : Nat) (ins : List (List Rec)) : Int :=
  if isOp op nIn k a A nB = false ∨ ins.length ≠ nIn then 1 else if insE ins ≠ 0 then insE ins else if (madeV op k a ins).length > 4096 then 31 else 0
theorem mayC0 {l : List Rec} (h : mayC l = 0) : l.all okR = true ∧ l.length ≤ 4096 := by
  unfold mayC at h
  cases ha : l.all okR with
  | false => rw [ha] at h; simp at h
  | true =>
    rw [ha, if_pos rfl] at h
    split at h
    · omega
    · exact ⟨rfl, by omega⟩
theorem insE0 : ∀ {ins : List (List Rec)}, insE ins = 0 → ∀ l ∈ ins, mayC l = 0
  | [], _, l, hl => by cases hl
  | x :: ls, h, l, hl => by
    unfold insE at h
    split at h
    · rename_i hx; exact absurd h hx
    · rename_i hx
      rcases List.mem_cons.1 hl with rfl | hl
      · exact Classical.not_not.1 hx
      · exact insE0 h l hl
theorem oneV_len {op k a : Int} {r : Rec} (hop : op = 2 ∨ op = 3 ∨ op = 4) (hf : fam k a = op - 1) : (oneV op k a r).length ≤ 8 := by
  unfold oneV
  rcases hop with rfl | rfl | rfl
  · simp
  · simp only [show ¬ (3 : Int) = 2 by decide, if_false, if_true]; split <;> simp
  · simp only [show ¬ (4 : Int) = 2 by decide, show ¬ (4 : Int) = 3 by decide, if_false]; exact spreadV_len (by omega)
theorem oneV_ok {op k a : Int} {r : Rec} (hop : op = 2 ∨ op = 3 ∨ op = 4) (hf : fam k a = op - 1) (hr : okR r = true) : (oneV op k a r).all okR = true := by
  unfold oneV
  rcases hop with rfl | rfl | rfl
  · simp [mapV_ok (k := k) (a := a) (by omega) hr]
  · simp only [show ¬ (3 : Int) = 2 by decide, if_false, if_true]; split <;> simp [hr]
  · simp only [show ¬ (4 : Int) = 2 by decide, show ¬ (4 : Int) = 3 by decide, if_false]; exact spreadV_ok hr
theorem ddf_sub {p : Rec} : ∀ {l : List Rec}, (ddf p l).Sublist l
  | [] => .slnil
  | x :: l => by
    unfold ddf
    split
    · exact (ddf_sub).cons _
    · exact (ddf_sub).cons_cons _
theorem dd_sub {l : List Rec} : (dd l).Sublist l := by
  cases l with
  | nil => exact .slnil
  | cons x l => exact (ddf_sub).cons_cons _
theorem all_sub {l m : List Rec} (s : l.Sublist m) (h : m.all okR = true) : l.all okR = true := by
  rw [List.all_eq_true] at *
  exact fun x hx => h x (s.subset hx)
theorem isOp_cases {op : Int} {nIn nB : Nat} {k a A : Int} (h : isOp op nIn k a A nB = true) : 2 ≤ op ∧ op ≤ 8 ∧ nIn = arityV op ∧ nB = 0 ∧ A = 0 ∧ (op = 7 ∨ op = 8 ∨ fam k a = op - 1) := by
  unfold isOp at h
  simp only [Bool.and_eq_true, decide_eq_true_eq] at h
  obtain ⟨⟨⟨⟨⟨h1, h2⟩, h3⟩, h4⟩, h5⟩, h6⟩ := h
  refine ⟨h1, h2, h3, h4, h5, ?_⟩
  split at h6
  · rename_i g; rcases g with g | g
    · exact .inl g
    · exact .inr (.inl g)
  · exact .inr (.inr (by simpa using h6))
theorem getD_mem {ins : List (List Rec)} {i : Nat} {P : List Rec → Prop} (h : ∀ l ∈ ins, P l) (h0 : P []) : P (ins.getD i []) := by
  rw [List.getD_eq_getElem?_getD]
  cases hi : ins[i]? with
  | none => exact h0
  | some l => exact h l (List.mem_of_getElem? hi)
theorem made_ok {op k a A : Int} {nIn nB : Nat} {ins : List (List Rec)} (h : isOp op nIn k a A nB = true) (hi : insE ins = 0) : (madeV op k a ins).all okR = true := by
  obtain ⟨h1, h2, _, _, _, h6⟩ := isOp_cases h
  have ok : ∀ i, (ins.getD i []).all okR = true := fun i => getD_mem (P := fun l => l.all okR = true) (fun l hl => (mayC0 (insE0 hi l hl)).1) rfl
  unfold madeV
  split
  · rename_i g
    have hf : fam k a = 4 := by omega
    rw [List.all_eq_true]
    intro r hr
    obtain ⟨gl, hg, rfl⟩ := List.mem_map.1 hr
    have hS : (sortR (ins.getD 0 [])).all okR = true := by rw [all_perm (sortR_perm _)]; exact ok 0
    exact foldV_ok (grp_ok hS hg) (grp_each _ _ (Nat.le_refl _) gl hg).1
  split
  · rw [List.all_eq_true]
    intro r hr
    simp only [pairAll, List.mem_flatMap, List.mem_map, List.mem_filter] at hr
    obtain ⟨x, hx, y, ⟨hy, _⟩, rfl⟩ := hr
    have o0 := ok 0
    have o1 := ok 1
    rw [List.all_eq_true] at o0 o1
    exact pairV_ok (o0 x hx) (o1 y hy)
  split
  · exact all_sub dd_sub (by rw [all_perm (sortR_perm _)]; exact ok 0)
  split
  · rw [List.all_append, ok 0, ok 1]; rfl
  · rw [List.all_eq_true]
    intro r hr
    obtain ⟨x, hx, hr⟩ := List.mem_flatMap.1 hr
    have o0 := ok 0
    rw [List.all_eq_true] at o0
    have := oneV_ok (op := op) (k := k) (a := a) (by omega) (by omega) (o0 x hx)
    rw [List.all_eq_true] at this
    exact this r hr

section
variable {h : Heap} {Q : AV → Heap → Prop} {p : Nat} {own F : Nat → Prop} {q2 q6 q8 : Option SL} {ins : List (List Rec)} {op k a A : Int}
/-- graph.Arity -/
theorem c48 (hQ : Q (.int .i64 (arityV op : Nat)) h) : AC Try.prog 48 [.int .i64 op] h Q := ac48 (by
  unfold vc48
  have hq : ∀ {n : Int} {x : Int} {b : Bool}, n = (arityV op : Nat) → (∃ n4 n5 b6, AV.tup [.agg [.int .i64 n, .int .i64 x], .bool b] = .tup [.agg [.int .i64 n4, .int .i64 n5], .bool b6] ∧ Q (.int .i64 n4) h) := by
    intro n x b hn
    exact ⟨_, _, _, rfl, by rw [hn]; exact hQ⟩
  refine ac70 ?_
  unfold vc70
  unfold arityV at hq
  repeat' (first | refine vif_mk (fun g => ?_) (fun g => ?_))
  all_goals (refine hq ?_; simp only [beq_iff_eq, beq_eq_false_iff_ne] at *)
  all_goals (try subst op)
  all_goals (try decide)
  all_goals (rw [if_neg (by omega), if_neg (by omega)]; rfl))
theorem c31 (hQ : Q (.bool (isOp op (slLen q2) k a A (slLen q6))) h) : AC Try.prog 31 [.agg [.int .i64 op, .sl q2, .int .i64 k, .int .i64 a, .int .i64 A, .sl q6]] h Q := ac31 (by
  unfold vc31
  have hq : ∀ b, b = isOp op (slLen q2) k a A (slLen q6) → Q (.bool b) h := by rintro b rfl; exact hQ
  unfold isOp at hq
  refine vif_mk (fun g => ⟨rfl, hq _ ?_⟩) (fun g => ?_)
  · replace g := of_decide_eq_true g
    rw [show decide (2 ≤ op) = false from decide_eq_false (by omega)]; rfl
  replace g := of_decide_eq_false g
  refine vif_mk (fun g1 => ⟨rfl, hq _ ?_⟩) (fun g1 => ?_)
  · replace g1 := of_decide_eq_true g1
    rw [show decide (op ≤ 8) = false from decide_eq_false (by omega)]; simp
  replace g1 := of_decide_eq_false g1
  have d1 : decide (2 ≤ op) = true := decide_eq_true (by omega)
  have d2 : decide (op ≤ 8) = true := decide_eq_true (by omega)
  rw [d1, d2] at hq
  refine c48 ⟨_, rfl, rfl, vif_mk (fun g2 => hq _ ?_) (fun g2 => ?_)⟩
  · have g2 : slLen q2 ≠ arityV op := by intro e; rw [e] at g2; simp at g2
    rw [decide_eq_false g2]; simp
  have g2 : slLen q2 = arityV op := by have : ((slLen q2 : Nat) : Int) = (arityV op : Nat) := by simpa using g2
                                       omega
  rw [decide_eq_true g2] at hq
  refine vif_mk (fun g3 => hq _ ?_) (fun g3 => ?_)
  · have g3 := of_decide_eq_true g3
    rw [show decide (slLen q6 = 0) = false from decide_eq_false (by omega)]; simp
  have g3 := of_decide_eq_false g3
  rw [show decide (slLen q6 = 0) = true from decide_eq_true (by omega)] at hq
  refine vif_mk (fun g4 => hq _ ?_) (fun g4 => ?_)
  · have g4 : A ≠ 0 := by simpa using g4
    rw [decide_eq_false g4]; simp
  have g4 : A = 0 := by simpa using g4
  rw [decide_eq_true g4] at hq
  simp only [Bool.and_self, Bool.true_and] at hq
  refine vif_mk (fun g5 => hq _ ?_) (fun g5 => vif_mk (fun g6 => hq _ ?_) (fun g6 => ?_))
  · have g5 : op = 7 := by simpa using g5
    rw [if_pos (.inl g5)]; simp; rw [Bool.eq_iff_iff]; simp
  · have g6 : op = 8 := by simpa using g6
    rw [if_pos (.inr g6)]; simp; rw [Bool.eq_iff_iff]; simp
  · have g5 : op ≠ 7 := by simpa using g5
    have g6 : op ≠ 8 := by simpa using g6
    rw [if_neg (by omega)] at hq
    refine o49 ⟨_, rfl, rfl, hq _ ?_⟩
    rw [wrapK_i64 (n := op - 2) ⟨by omega, by omega⟩, wrapK_i64 ⟨by omega, by omega⟩, Bool.eq_iff_iff]
    simp only [beq_iff_eq, decide_eq_true_eq]
    omega)
end
end Go.Proofs.Ytfafgnmlnhklaaa

/- An operator applied. -/
namespace Go.Proofs.Ytfafgnmlnhklaaa
open Go.Ab
set_option linter.unusedVariables false
set_option linter.unusedSimpArgs false

theorem getD_of {ins : List (List Rec)} {i : Nat} {l : List Rec} (h : ins[i]? = some l) : ins.getD i [] = l := by
  rw [List.getD_eq_getElem?_getD, h]; rfl
section
variable {h : Heap} {Q : AV → Heap → Prop} {p : Nat} {own F : Nat → Prop} {q2 q6 q8 : Option SL} {ins : List (List Rec)} {op k a A : Int} {nB : Nat}
set_option maxRecDepth 20000 in
/-- apply -/
theorem c39 (M : MK h p own []) (G : InGG F h q8 ins) (hFo : ∀ b, F b → ¬ own b) (hop : isOp op ins.length k a A nB = true) (hi : insE ins = 0)
    (hQ : ∀ h' own' out, MK h' p own' out → MStep own h own' h' → (out.length ≤ 4096 → out = madeV op k a ins) → (out.length > 4096 → (madeV op k a ins).length > 4096) → Q (.tup []) h') :
    AC Try.prog 39 [.ptr (some ⟨p, 0⟩), .agg [.int .i64 op, .sl q2, .int .i64 k, .int .i64 a, .int .i64 A, .sl q6], .sl q8] h Q := ac39 (by
  unfold vc39
  obtain ⟨h1, h2, hn, _, _, h6⟩ := isOp_cases hop
  have may : ∀ i l, ins[i]? = some l → mayC l = 0 ∧ l.all okR = true ∧ l.length ≤ 4096 := fun i l hl => by
    have := insE0 hi l (List.mem_of_getElem? hl)
    exact ⟨this, mayC0 this⟩
  have fin : ∀ {h' : Heap} {own' : Nat → Prop} {out : List Rec}, MK h' p own' out → MStep own h own' h' → out = madeV op k a ins → Q (.tup []) h' := by
    intro h' own' out M' S' e
    exact hQ h' own' out M' S' (fun _ => e) (fun hg => by rw [← e]; exact hg)
  refine vif_mk (fun g => ?_) (fun g5 => vif_mk (fun g => ?_) (fun g6 => vif_mk (fun g => ?_) (fun g7 => vif_mk (fun g => ?_) (fun g8 => ?_))))
  · have g : op = 5 := by simpa using g
    have hl1 : ins.length = 1 := by rw [hn, g]; rfl
    refine G.idx (i := 0) (by omega) rfl fun pp s l hl hc Hl f => ⟨s, hc, ?_⟩
    obtain ⟨m1, m2, m3⟩ := may 0 l hl
    refine c57 M (by simp) Hl (by omega) m1 (by omega) m2 fun h' own' M' S' => ⟨rfl, fin M' S' ?_⟩
    rw [madeV, if_pos g, getD_of hl]; rfl
  · have g : op = 6 := by simpa using g
    have hl1 : ins.length = 2 := by rw [hn, g]; rfl
    refine G.idx (i := 0) (by omega) rfl fun pp s l hl hc Hl f => ⟨s, hc, ?_⟩
    refine G.idx (i := 1) (by omega) rfl fun pp2 s2 l2 hl2 hc2 Hl2 f2 => ⟨s2, hc2, ?_⟩
    obtain ⟨m1, m2, m3⟩ := may 0 l hl
    obtain ⟨n1, n2, n3⟩ := may 1 l2 hl2
    refine c58 M Hl Hl2 (by omega) (by omega) (fun u hu => hFo _ (f u hu)) (by omega) m2 n2 fun h' own' out M' S' e1 e2 => ⟨rfl, ?_⟩
    have e : madeV op k a ins = pairAll k l l2 := by rw [madeV, if_neg (by omega), if_pos g, getD_of hl, getD_of hl2]
    exact hQ h' own' out M' S' (by rw [e]; exact e1) (by rw [e]; exact e2)
  · have g : op = 7 := by simpa using g
    have hl1 : ins.length = 1 := by rw [hn, g]; rfl
    refine G.idx (i := 0) (by omega) rfl fun pp s l hl hc Hl f => ⟨s, hc, ?_⟩
    obtain ⟨m1, m2, m3⟩ := may 0 l hl
    refine c59 Hl (by omega) (fun hn => absurd m1 hn) fun _ q23 h22 N => ⟨q23, 0, rfl, ?_⟩
    have hdl : (dd (sortR l)).length ≤ l.length := by have := dd_len (l := sortR l); rw [sortR_len] at this; exact this
    refine c60 (M.grow N.1) N.hasL (by simp) (by omega) fun h' own' M' S' => ⟨rfl, fin M' ((MStep.ext N.1).trans S') ?_⟩
    rw [madeV, if_neg (by omega), if_neg (by omega), if_pos g, getD_of hl]; rfl
  · have g : op = 8 := by simpa using g
    have hl1 : ins.length = 2 := by rw [hn, g]; rfl
    refine G.idx (i := 0) (by omega) rfl fun pp s l hl hc Hl f => ⟨s, hc, ?_⟩
    obtain ⟨m1, m2, m3⟩ := may 0 l hl
    refine c60 M Hl (by simp) (by omega) fun h30 own30 M30 S30 => ⟨rfl, ?_⟩
    refine (G.keeps S30.keeps hFo).idx (i := 1) (by omega) rfl fun pp2 s2 l2 hl2 hc2 Hl2 f2 => ⟨s2, hc2, ?_⟩
    obtain ⟨n1, n2, n3⟩ := may 1 l2 hl2
    refine c60 M30 Hl2 (by simp; omega) (by omega) fun h' own' M' S' => ⟨rfl, fin M' (S30.trans S') ?_⟩
    rw [madeV, if_neg (by omega), if_neg (by omega), if_neg (by omega), if_pos g, getD_of hl, getD_of hl2]; rfl
  · have g5 : op ≠ 5 := by simpa using g5
    have g6 : op ≠ 6 := by simpa using g6
    have g7 : op ≠ 7 := by simpa using g7
    have g8 : op ≠ 8 := by simpa using g8
    have hop3 : op = 2 ∨ op = 3 ∨ op = 4 := by omega
    have hf : fam k a = op - 1 := by omega
    have hl1 : ins.length = 1 := by rw [hn]; rcases hop3 with rfl | rfl | rfl <;> rfl
    refine G.idx (i := 0) (by omega) rfl fun pp s l hl hc Hl f => ⟨s, hc, ?_⟩
    obtain ⟨m1, m2, m3⟩ := may 0 l hl
    have hmade : madeV op k a ins = l.flatMap (oneV op k a) := by rw [madeV, if_neg g5, if_neg g6, if_neg g7, if_neg g8, getD_of hl]
    have ns : ∀ u, s = some u → ¬ own u.b := fun u hu => hFo _ (f u hu)
    refine ⟨fun xs h40 => ∃ (i : Nat) (own1 : Nat → Prop), xs = [.int .i64 i] ∧ i ≤ l.length ∧ MK h40 p own1 ((l.take i).flatMap (oneV op k a)) ∧ ((l.take i).flatMap (oneV op k a)).length ≤ 8 * i ∧ MStep own h own1 h40 ∧ HasL recE h40 s l ∧ (∀ u, s = some u → ¬ own1 u.b), left l.length, ⟨0, own, rfl, by omega, M, by simp, .refl _ _, Hl, ns⟩, ?_⟩
    rintro n37 h40 ⟨i, own1, hx, hi2, M1, hb1, S1, H1, o1⟩
    simp only [List.cons.injEq, AV.int.injEq, true_and, and_true] at hx
    subst hx
    rw [H1.len]
    refine vif_mk (fun g => ?_) (fun g => ?_)
    · replace g := of_decide_eq_true g
      refine H1.idx (E := recE) (by omega) (by omega) fun p41 x hx hcx => ⟨_, _, hcx, ?_⟩
      simp only [Int.toNat_natCast] at hx
      have hxok : okR x = true := by rw [List.all_eq_true] at m2; exact m2 x (List.mem_of_getElem? hx)
      refine c61 M1 (by omega) hop3 hf hxok fun h' own' M' S' => ⟨rfl, ⟨rfl, trivial⟩, ⟨i + 1, own', ?_, by omega, ?_, ?_, S1.trans S', (S'.hasL H1 o1).1, (S'.hasL H1 o1).2⟩, ?_⟩
      · rw [wrapK_i64 ⟨by omega, by omega⟩]; rfl
      · have e : (l.take (i + 1)).flatMap (oneV op k a) = (l.take i).flatMap (oneV op k a) ++ oneV op k a x := by rw [List.take_add_one, hx]; simp
        rw [e]; exact M'
      · have e : (l.take (i + 1)).flatMap (oneV op k a) = (l.take i).flatMap (oneV op k a) ++ oneV op k a x := by rw [List.take_add_one, hx]; simp
        have := oneV_len (r := x) hop3 hf
        rw [e, List.length_append]; omega
      · rw [wrapK_i64 ⟨by omega, by omega⟩]; simp only [left]; omega
    · replace g := of_decide_eq_false g
      have e : l.take i = l := List.take_of_length_le (by omega)
      rw [e] at M1
      exact fin M1 S1 hmade.symm)

theorem insE_app {l : List Rec} : ∀ {ls : List (List Rec)}, insE ls = 0 → insE (ls ++ [l]) = mayC l
  | [], _ => by
    simp only [List.nil_append, insE]
    split
    · rfl
    · rename_i g; exact (Classical.not_not.1 g).symm
  | x :: ls, h => by
    simp only [List.cons_append, insE] at h ⊢
    split at h
    · rename_i hx; exact absurd h hx
    · rename_i hx
      rw [if_neg hx]; exact insE_app h
theorem insE_pre {ls : List (List Rec)} : ∀ {l : List (List Rec)}, insE l ≠ 0 → insE (l ++ ls) = insE l
  | [], h => absurd rfl h
  | x :: l, h => by
    simp only [List.cons_append, insE] at h ⊢
    split
    · rfl
    · rename_i hx; rw [if_neg hx] at h; exact insE_pre h

set_option maxRecDepth 20000 in
/-- oper.Apply -/
theorem c21 (G : InGG F h q8 ins) (hF : ∀ b, F b → b < h.length) (hlen : ins.length ≤ 1000000) (hil : ∀ l ∈ ins, l.length ≤ 1000000)
    (h1 : applyE op (slLen q2) k a A (slLen q6) ins ≠ 0 → ∀ h', Ext h h' → Q (.tup [.sl none, .int .i64 (applyE op (slLen q2) k a A (slLen q6) ins)]) h')
    (h0 : applyE op (slLen q2) k a A (slLen q6) ins = 0 → ∀ q' h', NewJ recE h h' q' (sortR (madeV op k a ins)) → Q (.tup [.sl q', .int .i64 0]) h') :
    AC Try.prog 21 [.agg [.int .i64 op, .sl q2, .int .i64 k, .int .i64 a, .int .i64 A, .sl q6], .sl q8] h Q := ac21 (by
  unfold vc21
  unfold applyE at h1 h0
  refine c31 ⟨_, rfl, vif_mk (fun g => ?_) (fun g => vif_mk (fun g2 => ?_) (fun g2 => ?_))⟩
  · have g : isOp op (slLen q2) k a A (slLen q6) = false := by simpa using g
    rw [if_pos (.inl g)] at h1
    exact h1 (by decide) h (.refl _)
  · have g2 : ins.length ≠ slLen q2 := by rw [G.len] at g2; intro e; rw [e] at g2; simp at g2
    rw [if_pos (.inr g2)] at h1
    exact h1 (by decide) h (.refl _)
  have g : isOp op (slLen q2) k a A (slLen q6) = true := by simpa using g
  have g2 : ins.length = slLen q2 := by
    have : ((slLen q8 : Nat) : Int) = (slLen q2 : Nat) := by simpa using g2
    rw [G.len] at this; omega
  rw [if_neg (by rw [g]; simp [g2])] at h1 h0
  refine ⟨fun xs h14 => h14 = h ∧ ∃ i : Nat, xs = [.int .i64 i] ∧ i ≤ ins.length ∧ insE (ins.take i) = 0, fun xs _ => match xs with | [.int _ i] => (ins.length - i).toNat | _ => 0, ⟨rfl, 0, rfl, by omega, rfl⟩, ?_⟩
  rintro n11 h14 ⟨rfl, i, hx, hi, he⟩
  simp only [List.cons.injEq, AV.int.injEq, true_and, and_true] at hx
  subst hx
  rw [G.len]
  refine vif_mk (fun g3 => ?_) (fun g3 => ?_)
  · replace g3 := of_decide_eq_true g3
    refine G.idx (i := i) (by omega) rfl fun pp s l hl hc Hl f => ⟨s, hc, ?_⟩
    have hlm := hil l (List.mem_of_getElem? hl)
    have happ := insE_app (l := l) he
    have e : ins.take (i + 1) = ins.take i ++ [l] := by rw [List.take_add_one, hl]; rfl
    refine c38 Hl (by omega) ⟨_, rfl, vif_mk (fun g4 => ?_) (fun g4 => ?_)⟩
    · have g4 : mayC l ≠ 0 := by simpa using g4
      have hE : insE ins = mayC l := by
        rw [← happ, ← e]
        conv => lhs; rw [← List.take_append_drop (i + 1) ins]
        exact insE_pre (by rw [e, happ]; exact g4)
      rw [hE, if_pos g4] at h1
      exact h1 g4 h14 (.refl _)
    · have g4 : mayC l = 0 := by simpa using g4
      rw [wrapK_i64 ⟨by omega, by omega⟩]
      exact ⟨⟨rfl, trivial⟩, ⟨rfl, i + 1, by simp, by omega, by rw [e, happ]; exact g4⟩, by simp only; omega⟩
  · replace g3 := of_decide_eq_false g3
    have e : ins.take i = ins := List.take_of_length_le (by omega)
    rw [e] at he
    rw [if_neg (by rw [he]; simp)] at h1 h0
    refine pnew_mk ?_
    have x21 := Ext.app h14 [Blk.cells [.sl none, .bool false] true]
    have M21 : MK (h14 ++ [Blk.cells [.sl none, .bool false] true]) h14.length (fun b => b = h14.length) [] := ⟨⟨none, by simp, .inl ⟨rfl, rfl⟩, fun s hs => by cases hs⟩, rfl, fun b hb => by simp [hb]⟩
    have l21 : (h14 ++ [Blk.cells [AV.sl none, .bool false] true]).length = h14.length + 1 := by simp
    generalize h14 ++ [Blk.cells [.sl none, .bool false] true] = h21 at *
    rw [← g2] at g
    refine c39 M21 (G.mono x21) (fun b hb ho => by have := hF b hb; omega) g he fun h23 own23 out M23 S23 e1 e2 => ⟨rfl, ?_⟩
    obtain ⟨qm, m1, m2, m3⟩ := M23.cells
    have x23 : Ext h14 h23 := by
      intro b B hB
      have := lt_of_get hB
      exact S23.keeps b B (by omega) (x21 b B hB)
    have cm : cellsAt h23 ⟨h14.length, 1⟩ 1 = some [.bool (decide (out.length > 4096))] := by rw [cellsAt_mk (p := ⟨h14.length, 1⟩) m1 (by simp)]; rfl
    refine ⟨_, cm, vif_mk (fun g5 => ?_) (fun g5 => ?_)⟩
    · have g5 := e2 (of_decide_eq_true g5)
      rw [if_pos g5] at h1
      exact h1 (by decide) h23 x23
    · have g5 := of_decide_eq_false g5
      have eo := e1 (by omega)
      rw [← eo, if_neg (by omega)] at h0
      have hok := made_ok g he
      rw [← eo] at hok
      have hm : mayC out = 0 := by unfold mayC; rw [if_pos hok, if_neg (by omega)]
      refine ⟨qm, by rw [cellsAt_mk (p := ⟨h14.length, 0⟩) m1 (by simp)]; rfl, ?_⟩
      refine c40 m2.hasL (by omega) (fun hn => absurd hm hn) fun _ q' h27 N => ⟨q', 0, rfl, ?_⟩
      exact h0 rfl q' h27 (N.back x23))
end
end Go.Proofs.Ytfafgnmlnhklaaa

/- OperOrder: what comes of it does not hang on the order of records. -/
namespace Go.Proofs.Ytfafgnmlnhklaaa
open Go.Ab
set_option linter.unusedVariables false
set_option linter.unusedSimpArgs false

/-- Lists of bags that are alike, but for the order in each. -/
def PermLs : List (List Rec) → List (List Rec) → Prop
  | [], [] => True
  | a :: xs, b :: ys => a.Perm b ∧ PermLs xs ys
  | _, _ => False
theorem PermLs.len : ∀ {a b : List (List Rec)}, PermLs a b → a.length = b.length
  | [], [], _ => rfl
  | _ :: _, _ :: _, h => by simp [PermLs.len h.2]
  | [], _ :: _, h => h.elim
  | _ :: _, [], h => h.elim
theorem PermLs.insE : ∀ {a b : List (List Rec)}, PermLs a b → Ytfafgnmlnhklaaa.insE a = Ytfafgnmlnhklaaa.insE b
  | [], [], _ => rfl
  | x :: xs, y :: ys, h => by
    simp only [Ytfafgnmlnhklaaa.insE]
    rw [mayC_perm h.1, PermLs.insE h.2]
  | [], _ :: _, h => h.elim
  | _ :: _, [], h => h.elim
theorem PermLs.getD : ∀ {a b : List (List Rec)} {i : Nat}, PermLs a b → (a.getD i []).Perm (b.getD i [])
  | [], [], _, _ => .refl _
  | x :: xs, y :: ys, 0, h => h.1
  | x :: xs, y :: ys, i + 1, h => by simpa using PermLs.getD (i := i) h.2
  | [], _ :: _, _, h => h.elim
  | _ :: _, [], _, h => h.elim
theorem PermLs.snoc : ∀ {a b : List (List Rec)} {x y : List Rec}, PermLs a b → x.Perm y → PermLs (a ++ [x]) (b ++ [y])
  | [], [], _, _, _, hp => ⟨hp, trivial⟩
  | _ :: _, _ :: _, _, _, h, hp => ⟨h.1, PermLs.snoc h.2 hp⟩
  | [], _ :: _, _, _, h, _ => h.elim
  | _ :: _, [], _, _, h, _ => h.elim
theorem flatMap_perm {f g : Rec → List Rec} : ∀ {l : List Rec}, (∀ x, (f x).Perm (g x)) → (l.flatMap f).Perm (l.flatMap g)
  | [], _ => .refl _
  | x :: l, h => by
    simp only [List.flatMap_cons]
    exact (h x).append (flatMap_perm h)
theorem pairAll_perm {k : Int} {a a' b b' : List Rec} (ha : a.Perm a') (hb : b.Perm b') : (pairAll k a b).Perm (pairAll k a' b') := by
  unfold pairAll
  refine (List.Perm.flatMap_right _ ha).trans ?_
  exact flatMap_perm fun x => (hb.filter _).map _
theorem made_perm {op k a : Int} {ins ins' : List (List Rec)} (h : PermLs ins ins') : (madeV op k a ins).Perm (madeV op k a ins') := by
  have g := fun i => h.getD (i := i)
  unfold madeV
  split
  · rw [sortR_perm_eq (g 0)]
  split
  · exact pairAll_perm (g 0) (g 1)
  split
  · rw [sortR_perm_eq (g 0)]
  split
  · exact (g 0).append (g 1)
  · exact List.Perm.flatMap_right _ (g 0)
theorem apply_perm {op k a A : Int} {nIn nB : Nat} {ins ins' : List (List Rec)} (h : PermLs ins ins') : applyE op nIn k a A nB ins = applyE op nIn k a A nB ins' := by
  unfold applyE
  rw [h.len, h.insE, (made_perm h).length_eq]

section
variable {F : Nat → Prop} {h h' : Heap} {Q : AV → Heap → Prop} {q : Option SL} {ins : List (List Rec)}
/-- large -/
theorem c20 (G : InGG F h q ins) (hQ : ∀ b, (b = false → ins.length ≤ 10 ∧ ∀ l ∈ ins, l.length ≤ 5000) → Q (.bool b) h) : AC Try.prog 20 [.sl q] h Q := ac20 (by
  unfold vc20
  rw [G.len]
  refine vif_mk (fun g => hQ true (by simp)) (fun g => ?_)
  have g := of_decide_eq_false g
  refine ⟨fun xs h5 => h5 = h ∧ ∃ i : Nat, xs = [.int .i64 i] ∧ i ≤ ins.length ∧ ∀ l ∈ ins.take i, l.length ≤ 5000, fun xs _ => match xs with | [.int _ i] => (ins.length - i).toNat | _ => 0, ⟨rfl, 0, rfl, by omega, by simp⟩, ?_⟩
  rintro n2 h5 ⟨rfl, i, hx, hi, hl⟩
  simp only [List.cons.injEq, AV.int.injEq, true_and, and_true] at hx
  subst hx
  refine vif_mk (fun g1 => ?_) (fun g1 => ?_)
  · replace g1 := of_decide_eq_true g1
    refine G.idx (i := i) (by omega) rfl fun pp s l hl2 hc Hl f => ⟨s, hc, ?_⟩
    rw [Hl.len]
    refine vif_mk (fun g2 => hQ true (by simp)) (fun g2 => ?_)
    have g2 := of_decide_eq_false g2
    rw [wrapK_i64 ⟨by omega, by omega⟩]
    refine ⟨trivial, ⟨rfl, i + 1, by simp, by omega, fun x hx => ?_⟩, by simp only; omega⟩
    rw [List.take_add_one, hl2] at hx
    rcases List.mem_append.1 hx with hx | hx
    · exact hl x hx
    · simp only [Option.toList_some, List.mem_singleton] at hx; rw [hx]; omega
  · replace g1 := of_decide_eq_false g1
    have e : ins.take i = ins := List.take_of_length_le (by omega)
    rw [e] at hl
    exact hQ false fun _ => ⟨by omega, hl⟩)

/-- What is made so far, of slices that are made: each in a block of its own. -/
def Made (n0 : Nat) (h : Heap) (q : Option SL) (ls : List (List Rec)) : Prop :=
  ∃ qs : List (Option SL), Apd slE h q qs ∧ qs.length = ls.length ∧ (∀ s, q = some s → n0 ≤ s.b) ∧ ∀ (i : Nat) (s : Option SL) (g : List Rec), qs[i]? = some s → ls[i]? = some g → HasL recE h s g ∧ ∀ u t, s = some u → q = some t → t.b ≠ u.b
theorem Made.nil {n0 : Nat} : Made n0 h none [] := ⟨[], .inl ⟨rfl, rfl⟩, rfl, (fun s hs => by cases hs), by simp⟩
theorem Made.inGG {n0 : Nat} (M : Made n0 h q ins) : InGG (fun b => b < h.length) h q ins := by
  obtain ⟨qs, A, hl, hn, he⟩ := M
  exact ⟨qs, A.hasL, hl, fun s hs => A.hasL.live s hs, fun i s g hs hg => ⟨(he i s g hs hg).1, fun u hu => (he i s g hs hg).1.live u hu⟩⟩
theorem Made.live {n0 : Nat} (M : Made n0 h q ins) : ∀ t, q = some t → t.b < h.length := by
  obtain ⟨qs, A, _⟩ := M
  exact A.hasL.live
/-- One more. -/
theorem Made.put {n0 : Nat} {h1 : Heap} {q2 : Option SL} {l : List Rec} {K : Option SL → Heap → Prop} (M : Made n0 h q ins) (hn0 : n0 ≤ h.length) (x : Ext h h1) (H : HasL recE h1 q2 l) (hq2 : ∀ u t, q2 = some u → q = some t → t.b ≠ u.b) (hl : ins.length ≤ 1000000)
    (hK : ∀ q' h', Made n0 h' q' (ins ++ [l]) → (∀ b B, b < n0 → h1[b]? = some B → h'[b]? = some B) → h1.length ≤ h'.length → K q' h') :
    PNew [.sl q2] true h1 fun a h2 => PAppendS 1 24 q (some ⟨a, 0, 1, 1, 0⟩) h2 K := by
  refine pnew_mk ?_
  obtain ⟨qs, A, hlq, hn, he⟩ := M
  have x2 := Ext.app h1 [Blk.cells [.sl q2] true]
  have Hn : HasL slE (h1 ++ [Blk.cells [.sl q2] true]) (some ⟨h1.length, 0, 1, 1, 0⟩) [q2] := HasL.new (n := 1) rfl rfl
  have l2 : (h1 ++ [Blk.cells [AV.sl q2] true]).length = h1.length + 1 := by simp
  generalize h1 ++ [Blk.cells [.sl q2] true] = h2 at *
  have xx := x.trans x2
  have lx := x.len
  refine Apd.append (E := slE) (A.ext xx) Hn (by simp; omega) fun q' h3 A3 K3 l3 hq' => ?_
  have live := A.hasL.live
  refine hK q' h3 ⟨qs ++ [q2], A3, by simp [hlq], fun s hs => ?_, fun i s g hs hg => ?_⟩ (fun b B hb hB => K3 b B (fun ⟨s, a1, a2⟩ => by have := hn s a1; omega) (x2 _ _ hB)) (by omega)
  · rcases hq' s hs with a | ⟨t, a1, a2⟩
    · omega
    · have := hn t a1; omega
  · rw [List.getElem?_append] at hs hg
    split at hs
    · rename_i hi
      rw [if_pos (by omega)] at hg
      obtain ⟨r1, r2⟩ := he i s g hs hg
      refine ⟨K3.hasL (fun u hu ⟨t, a1, a2⟩ => r2 u t hu a1 a2) (r1.mono xx), fun u t hu ht => ?_⟩
      have := r1.live u hu
      rcases hq' t ht with a | ⟨t2, a1, a2⟩
      · omega
      · rw [← a2]; exact r2 u t2 hu a1
    · rename_i hi
      rw [if_neg (by omega)] at hg
      have i0 : i - qs.length = 0 := by have := lt_of_get hs; simp at this; omega
      have i1 : i - ins.length = 0 := by omega
      rw [i0] at hs
      rw [i1] at hg
      simp at hs hg
      subst hs hg
      refine ⟨K3.hasL (fun u hu ⟨t, a1, a2⟩ => hq2 u t hu a1 a2) (H.mono x2), fun u t hu ht => ?_⟩
      have := H.live u hu
      rcases hq' t ht with a | ⟨t2, a1, a2⟩
      · omega
      · rw [← a2]; exact hq2 u t2 hu a1

end
end Go.Proofs.Ytfafgnmlnhklaaa
