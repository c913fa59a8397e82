/- The reference's groups of records, each record once, pairs. -/
import Derived.Test.YtfafgnmlnhklaaaGreatAG16
namespace Go.Proofs.YtfafgnmlnhklaaaGreat
open Go.Ab
set_option linter.unusedVariables false
set_option linter.unusedSimpArgs false

/-- One more record behind some that are grouped. -/
theorem grp_snoc {x : Rec} : ∀ (n : Nat) (m : List Rec), m.length ≤ n → m ≠ [] → ∃ (G : List (List Rec)) (y : Rec) (t : List Rec), grp m = G ++ [y :: t] ∧ grp (m ++ [x]) = if y.1 = x.1 then G ++ [y :: t ++ [x]] else G ++ [y :: t, [x]]
  | _, [], _, h => absurd rfl h
  | 0, _ :: _, h, _ => by simp at h
  | n + 1, y :: l, h, _ => by
    have hdl := (List.dropWhile_sublist (fun r : Rec => r.1 == y.1) (l := l)).length_le
    have htw : ∀ z ∈ l.takeWhile fun r => r.1 == y.1, (z.1 == y.1) = true := fun z hz => List.all_eq_true.1 List.all_takeWhile z hz
    have hdw : (l.dropWhile fun r => r.1 == y.1) = [] ∨ ∃ e r, (l.dropWhile fun r => r.1 == y.1) = e :: r ∧ (e.1 == y.1) = false := by
      cases e : l.dropWhile fun r => r.1 == y.1 with
      | nil => exact .inl rfl
      | cons z t =>
        have := List.head?_dropWhile_not (fun r : Rec => r.1 == y.1) l
        rw [e] at this
        exact .inr ⟨z, t, rfl, by simpa using this⟩
    have el : l = (l.takeWhile fun r => r.1 == y.1) ++ l.dropWhile fun r => r.1 == y.1 := List.takeWhile_append_dropWhile.symm
    have eg : grp (y :: l) = (y :: l.takeWhile fun r => r.1 == y.1) :: grp (l.dropWhile fun r => r.1 == y.1) := by rw [grp]
    have eg2 : grp (y :: l ++ [x]) = (y :: (l ++ [x]).takeWhile fun r => r.1 == y.1) :: grp ((l ++ [x]).dropWhile fun r => r.1 == y.1) := by rw [List.cons_append, grp]
    rw [eg, eg2]
    generalize (l.takeWhile fun r => r.1 == y.1) = tw at *
    generalize (l.dropWhile fun r => r.1 == y.1) = dw at *
    subst el
    rcases hdw with rfl | ⟨e, r, rfl, he⟩
    · refine ⟨[], y, tw, by rw [grp_nil]; rfl, ?_⟩
      rw [List.append_nil]
      by_cases hx : y.1 = x.1
      · rw [if_pos hx]
        obtain ⟨e1, e2⟩ := @twR (fun r => r.1 == y.1) (tw ++ [x]) [] (fun z hz => by
          rcases List.mem_append.1 hz with hz | hz
          · exact htw z hz
          · simp only [List.mem_singleton] at hz; subst hz; simpa using hx.symm) (.inl rfl)
        rw [List.append_nil] at e1 e2
        rw [e1, e2, grp_nil]; rfl
      · rw [if_neg hx]
        obtain ⟨e1, e2⟩ := @twR (fun r => r.1 == y.1) tw [x] htw (.inr ⟨x, [], rfl, by simpa using fun e => hx e.symm⟩)
        rw [e1, e2]
        have : grp [x] = [[x]] := by rw [grp]; simp [grp_nil]
        rw [this]; rfl
    · obtain ⟨G, z, t, h1, h2⟩ := grp_snoc (x := x) n (e :: r) (by simp only [List.length_cons] at h hdl ⊢; omega) (by simp)
      refine ⟨(y :: tw) :: G, z, t, by rw [h1]; rfl, ?_⟩
      obtain ⟨e1, e2⟩ := @twR (fun r => r.1 == y.1) tw (e :: r ++ [x]) htw (.inr ⟨e, r ++ [x], rfl, he⟩)
      rw [List.append_assoc, e1, e2, h2]
      split <;> rfl

section
variable {h : Heap} {Q : AV → Heap → Prop} {q : Option SL} {l : List Rec}
/-- Sort, of the reference. -/
theorem c19 (H : HasL recE h q l) (hl : l.length ≤ 1099511627776) (hQ : ∀ q' h', Ext h h' → HasL recE h' q' (sortR l) → (∀ s, q' = some s → h.length ≤ s.b) → Q (.sl q') h') : AC Tryz.prog 19 [.sl q] h Q :=
  o19 l.length (Nat.le_refl _) H hl fun h' q' l' x H' f p s => by
    have e : l' = sortR l := (sortR_eq s p).symm
    subst e
    exact hQ q' h' x H' f

/-- Groups that are being made, each in a block of its own. -/
def GRS (n0 : Nat) (h : Heap) (q : Option SL) (gs : List (List Rec)) : Prop :=
  ∃ qs : List (Option SL), AppJ slE h q qs ∧ qs.length = gs.length ∧ (∀ s, q = some s → n0 ≤ s.b) ∧
    (∀ (i : Nat) (u : Option SL) (g : List Rec), qs[i]? = some u → gs[i]? = some g → AppJ recE h u g ∧ ∃ s, u = some s ∧ n0 ≤ s.b ∧ ∀ t, q = some t → t.b ≠ s.b) ∧
    ∀ (i j : Nat) (s t : SL), i ≠ j → qs[i]? = some (some s) → qs[j]? = some (some t) → s.b ≠ t.b
theorem GRS.nil {n0 : Nat} : GRS n0 h none [] := ⟨[], .inl ⟨rfl, rfl⟩, rfl, (fun s hs => by cases hs), by simp, by simp⟩
theorem GRS.inGG {n0 : Nat} {gs : List (List Rec)} (G : GRS n0 h q gs) : InGG (fun b => n0 ≤ b ∧ b < h.length) h q gs := by
  obtain ⟨qs, A, hl, hn, he, _⟩ := G
  refine ⟨qs, A.hasL, hl, fun s hs => ⟨hn s hs, A.hasL.live s hs⟩, fun i u g hu hg => ?_⟩
  obtain ⟨A1, s, rfl, a1, _⟩ := he i u g hu hg
  exact ⟨A1.hasL, fun t ht => by cases ht; exact ⟨a1, A1.hasL.live s rfl⟩⟩
theorem GRS.len {n0 : Nat} {gs : List (List Rec)} (G : GRS n0 h q gs) : slLen q = gs.length := by
  obtain ⟨qs, A, hl, _⟩ := G
  rw [A.hasL.len, hl]
/-- Another group. -/
theorem GRS.more {n0 : Nat} {gs : List (List Rec)} {x : Rec} {K : Option SL → Heap → Prop} (G : GRS n0 h q gs) (hn0 : n0 ≤ h.length) (hl : gs.length ≤ 1000000)
    (hK : ∀ q' h', GRS n0 h' q' (gs ++ [[x]]) → (∀ b B, b < n0 → h[b]? = some B → h'[b]? = some B) → h.length ≤ h'.length → K q' h') :
    PNew [.int .i64 x.1, .int .i64 x.2] true h fun a31 h32 => PNew [.sl (some ⟨a31, 0, 1, 1, 0⟩)] true h32 fun a33 h34 => PAppendS 1 24 q (some ⟨a33, 0, 1, 1, 0⟩) h34 K := by
  refine pnew_mk (pnew_mk ?_)
  obtain ⟨qs, A, hlq, hn, he, ha⟩ := G
  have x1 := Ext.app h [Blk.cells [.int .i64 x.1, .int .i64 x.2] true]
  have A1 : AppJ recE (h ++ [Blk.cells [.int .i64 x.1, .int .i64 x.2] true]) (some ⟨h.length, 0, 1, 1, 0⟩) [x] := .of (Apd.mk rfl (.inl rfl) (by simp; rfl))
  have l1 : (h ++ [Blk.cells [AV.int .i64 x.1, .int .i64 x.2] true]).length = h.length + 1 := by simp
  generalize h ++ [Blk.cells [.int .i64 x.1, .int .i64 x.2] true] = h1 at *
  have x2 := Ext.app h1 [Blk.cells [.sl (some ⟨h.length, 0, 1, 1, 0⟩)] true]
  have Hn : HasL slE (h1 ++ [Blk.cells [.sl (some ⟨h.length, 0, 1, 1, 0⟩)] true]) (some ⟨h1.length, 0, 1, 1, 0⟩) [some ⟨h.length, 0, 1, 1, 0⟩] := HasL.new (n := 1) rfl rfl
  have l2 : (h1 ++ [Blk.cells [AV.sl (some ⟨h.length, 0, 1, 1, 0⟩)] true]).length = h1.length + 1 := by simp
  generalize h1 ++ [Blk.cells [.sl (some ⟨h.length, 0, 1, 1, 0⟩)] true] = h2 at *
  have xx := x1.trans x2
  have live := A.hasL.live
  refine AppJ.append (E := slE) (A.ext xx) Hn (by simp only [List.length_cons, List.length_nil]; omega) fun q' h3 A3 K3 l3 hq' => ?_
  have lv : ∀ (i : Nat) (s : SL), qs[i]? = some (some s) → s.b < h.length := fun i s hs => by
    have hi := lt_of_get hs
    have hi2 : i < gs.length := by omega
    have hg : gs[i]? = some (gs[i]'hi2) := List.getElem?_eq_getElem hi2
    exact (he i _ _ hs hg).1.hasL.live s rfl
  refine hK q' h3 ⟨qs ++ [some ⟨h.length, 0, 1, 1, 0⟩], A3, by simp [hlq], fun s hs => ?_, fun i u g hu hg => ?_, fun i j s t hij hs ht => ?_⟩ (fun b B hb hB => K3 b B (fun ⟨s, a1, a2⟩ => by have := hn s a1; omega) (xx _ _ hB)) (by omega)
  · rcases hq' s hs with a | ⟨t, a1, a2⟩
    · omega
    · have := hn t a1; omega
  · rw [List.getElem?_append] at hu hg
    split at hu
    · rename_i hi
      rw [if_pos (by omega)] at hg
      obtain ⟨r1, s, rfl, r2, r3⟩ := he i u g hu hg
      have := lv i s hu
      refine ⟨(r1.ext xx).keeps K3 (fun u hu ⟨t, a1, a2⟩ => by cases hu; exact r3 t a1 a2), s, rfl, r2, fun t ht => ?_⟩
      rcases hq' t ht with a | ⟨t2, a1, a2⟩
      · omega
      · rw [← a2]; exact r3 t2 a1
    · rename_i hi
      rw [if_neg (by omega)] at hg
      have i0 : i - qs.length = 0 := by have := lt_of_get hu; simp at this; omega
      have i1 : i - gs.length = 0 := by omega
      rw [i0] at hu; rw [i1] at hg
      simp only [List.getElem?_cons_zero, Option.some.injEq] at hu hg
      subst hu; subst hg
      refine ⟨(A1.ext x2).keeps K3 (fun u hu ⟨t, a1, a2⟩ => by cases hu; have := live t a1; simp only at a2; omega), _, rfl, hn0, fun t ht => ?_⟩
      rcases hq' t ht with a | ⟨t2, a1, a2⟩
      · simp only; omega
      · have := live t2 a1; simp only; omega
  · rw [List.getElem?_append] at hs ht
    split at hs <;> split at ht
    · exact ha i j s t hij hs ht
    · have := lv i s hs
      rename_i hj
      have j0 : j - qs.length = 0 := by have := lt_of_get ht; simp at this; omega
      rw [j0] at ht; simp only [List.getElem?_cons_zero, Option.some.injEq] at ht
      subst ht; simp only; omega
    · have := lv j t ht
      rename_i hi _
      have j0 : i - qs.length = 0 := by have := lt_of_get hs; simp at this; omega
      rw [j0] at hs; simp only [List.getElem?_cons_zero, Option.some.injEq] at hs
      subst hs; simp only; omega
    · rename_i h1 h2
      have := lt_of_get hs; have := lt_of_get ht
      simp at *; omega
/-- The last group. -/
theorem GRS.last {n0 : Nat} {gs : List (List Rec)} {g : List Rec} {ix : Int} (G : GRS n0 h q (gs ++ [g])) (hix : ix = gs.length) {K : PA → Prop} (hK : ∀ p u, cellsAt h p 1 = some [.sl u] → AppJ recE h u g → K p) : vIdx q ix 1 K := by
  obtain ⟨qs, A, hl, _, he, _⟩ := G
  rw [List.length_append] at hl
  simp only [List.length_cons, List.length_nil] at hl
  refine A.hasL.idx (E := slE) (by omega) (by omega) fun p u hu hc => hK p u hc ?_
  have : ix.toNat = gs.length := by omega
  rw [this] at hu
  exact (he _ u g hu (by simp)).1
/-- .. one record more. -/
theorem GRS.grow {n0 : Nat} {gs : List (List Rec)} {g : List Rec} {x : Rec} {ix n6 : Int} {q4 : Option SL} {K : Heap → Prop} (G : GRS n0 h q (gs ++ [g])) (hix : ix = gs.length) (hn0 : n0 ≤ h.length) (hl : g.length ≤ 1000000)
    (at1 : ∀ {K : PA → Prop}, (∀ p, cellsAt h p 2 = some [.int .i64 x.1, .int .i64 x.2] → K p) → vIdx q4 n6 2 K)
    (hK : ∀ h', GRS n0 h' q (gs ++ [g ++ [x]]) → (∀ b B, b < n0 → h[b]? = some B → h'[b]? = some B) → h.length ≤ h'.length → K h') :
    vIdx q ix 1 fun p16 => ∃ q17 : Option SL, cellsAt h p16 1 = some [.sl q17] ∧ vIdx q4 n6 2 fun p18 => ∃ n19 : Int, ∃ n20 : Int, cellsAt h p18 2 = some [.int .i64 n19, .int .i64 n20] ∧ PNew [.int .i64 n19, .int .i64 n20] true h fun a21 h22 => (∃ q27 : Option SL, cellsAt h22 p16 1 = some [.sl q27] ∧ LV.val (.sl q27) = LV.val (.sl q17)) ∧
      PAppendS 2 16 q17 (some ⟨a21, 0, 1, 1, 0⟩) h22 fun q23 h24 => vIdx q ix 1 fun p25 => PStore h24 p25 [.sl q23] K := by
  obtain ⟨qs, A, hlq, hn, he, ha⟩ := G
  rw [List.length_append] at hlq
  simp only [List.length_cons, List.length_nil] at hlq
  have hixn : ix.toNat = gs.length := by omega
  have hlast : qs[gs.length]? = some qs[gs.length] := List.getElem?_eq_getElem (by omega)
  obtain ⟨A0, s0, e0, b0, b1⟩ := he gs.length _ g hlast (by simp)
  rw [e0] at hlast
  refine A.hasL.idx (E := slE) (by omega) (by omega) fun p u hu hc => ⟨u, hc, at1 fun p18 hc18 => ⟨x.1, x.2, hc18, pnew_mk ?_⟩⟩
  rw [hixn, hlast] at hu
  cases hu
  rw [e0] at A0
  have x1 := Ext.app h [Blk.cells [.int .i64 x.1, .int .i64 x.2] true]
  have Hn : HasL recE (h ++ [Blk.cells [.int .i64 x.1, .int .i64 x.2] true]) (some ⟨h.length, 0, 1, 1, 0⟩) [x] := HasL.new (n := 1) rfl rfl
  have l1 : (h ++ [Blk.cells [AV.int .i64 x.1, .int .i64 x.2] true]).length = h.length + 1 := by simp
  generalize h ++ [Blk.cells [.int .i64 x.1, .int .i64 x.2] true] = h1 at *
  refine ⟨⟨_, x1.cells hc, rfl⟩, ?_⟩
  have live := A.hasL.live
  have lv : ∀ (i : Nat) (s : SL), qs[i]? = some (some s) → s.b < h.length := fun i s hs => by
    have hi := lt_of_get hs
    have hi2 : i < (gs ++ [g]).length := by rw [List.length_append, List.length_cons, List.length_nil]; omega
    have hg : (gs ++ [g])[i]? = some ((gs ++ [g])[i]'hi2) := List.getElem?_eq_getElem hi2
    exact (he i _ _ hs hg).1.hasL.live s rfl
  refine AppJ.append (E := recE) (A0.ext x1) Hn (by simp only [List.length_cons, List.length_nil]; omega) fun q23 h24 A24 K24 l24 hq23 => ?_
  have hs23 : ∃ s3, q23 = some s3 := by
    rcases A24 with ⟨_, e⟩ | ⟨a, c, o, j, e, _⟩
    · simp at e
    · exact ⟨_, e⟩
  obtain ⟨s3, rfl⟩ := hs23
  have h3 : h.length + 1 ≤ s3.b ∨ s0.b = s3.b := by
    rcases hq23 s3 rfl with a | ⟨s, a1, a2⟩
    · exact .inl (by omega)
    · cases a1; exact .inr a2
  have hqs : ∃ sq, q = some sq := by
    rcases A with ⟨_, e⟩ | ⟨a, c, o, j, e, _⟩
    · rw [e] at hlq; simp at hlq
    · exact ⟨_, e⟩
  obtain ⟨sq, rfl⟩ := hqs
  have hsq := b1 sq rfl
  have lsq := live sq rfl
  have ls0 := lv _ _ hlast
  have A24' : AppJ slE h24 (some sq) qs := (A.ext x1).keeps K24 (fun s hs ⟨t, a1, a2⟩ => by cases hs; cases a1; exact hsq a2.symm)
  refine A24'.idx (E := slE) (by omega) (by omega) fun p25 u hu hc25 hp25 => ?_
  refine AppJ.store (E := slE) (i := gs.length) (k := 0) (r := some s0) (r' := some s3) (xs := [.sl (some s3)]) A24' hlast (by show 0 + 1 ≤ 1; omega) rfl (fun s hs => by rw [hp25 s hs, hixn]; rfl) fun h26 A26 K26 l26 => ?_
  have ns3 : s3.b ≠ sq.b := by rcases h3 with a | a <;> omega
  refine hK h26 ⟨qs.set gs.length (some s3), A26, by simp [hlq], hn, fun i u g' hu hg => ?_, fun i j s t hij hs ht => ?_⟩ (fun b B hb hB => ?_) (by omega)
  · rw [List.getElem?_set] at hu
    split at hu
    · rename_i hi
      subst hi
      rw [if_pos (by omega)] at hu
      cases hu
      simp only [List.getElem?_append_right (Nat.le_refl _), Nat.sub_self, List.getElem?_cons_zero, Option.some.injEq] at hg
      subst hg
      refine ⟨A24.keeps K26 (fun s hs ⟨t, a1, a2⟩ => by cases hs; cases a1; exact ns3 a2.symm), s3, rfl, by rcases h3 with a | a <;> omega, fun t ht => by cases ht; exact fun e => ns3 e.symm⟩
    · rename_i hi
      have hg' : (gs ++ [g])[i]? = some g' := by
        rw [List.getElem?_append] at hg ⊢
        split at hg
        · rename_i h1; rw [if_pos h1]; exact hg
        · have := lt_of_get hg; simp at this; omega
      obtain ⟨r1, s, rfl, r2, r3⟩ := he i u g' hu hg'
      have n0s : s0.b ≠ s.b := ha gs.length i s0 s hi hlast hu
      exact ⟨((r1.ext x1).keeps K24 (fun u hu ⟨t, a1, a2⟩ => by cases hu; cases a1; exact n0s a2)).keeps K26 (fun u hu ⟨t, a1, a2⟩ => by cases hu; exact r3 t a1 a2), s, rfl, r2, r3⟩
  · have key : ∀ (i : Nat) (s : SL), gs.length ≠ i → qs[i]? = some (some s) → s.b ≠ s3.b := fun i s hi hs => by
      have := ha gs.length i s0 s hi hlast hs
      have := lv i s hs
      rcases h3 with a | a <;> omega
    rw [List.getElem?_set] at hs ht
    split at hs <;> split at ht
    · omega
    · rename_i h1 h2
      rw [if_pos (by omega)] at hs; cases hs
      exact fun e => key j t h2 ht e.symm
    · rename_i h1 h2
      rw [if_pos (by omega)] at ht; cases ht
      exact key i s h1 hs
    · exact ha i j s t hij hs ht
  · have := hn sq rfl
    exact K26 b B (fun ⟨t, a1, a2⟩ => by cases a1; omega) (K24 b B (fun ⟨t, a1, a2⟩ => by cases a1; omega) (x1 _ _ hB))

set_option maxRecDepth 20000 in
/-- Groups, of the reference. -/
theorem c76 (H : HasL recE h q l) (hl : l.length ≤ 1000000) (hQ : ∀ q' h', Ext h h' → InGG (fun b => h.length ≤ b ∧ b < h'.length) h' q' (grp (sortR l)) → Q (.sl q') h') : AC Tryz.prog 76 [.sl q] h Q := ac76 (by
  unfold vc76
  refine c19 H (by omega) fun q4 h3 x3 H4 f4 => ⟨q4, rfl, ?_⟩
  have hsl : (sortR l).length = l.length := sortR_len
  generalize sortR l = S at *
  have l3 := x3.len
  refine ⟨fun xs h9 => ∃ (q5 : Option SL) (i : Nat), xs = [.sl q5, .int .i64 i] ∧ i ≤ S.length ∧ Ext h3 h9 ∧ GRS h3.length h9 q5 (grp (S.take i)), fun xs _ => match xs with | [_, .int _ i] => (S.length - i).toNat | _ => 0, ⟨none, 0, rfl, by omega, .refl _, by rw [List.take_zero, grp_nil]; exact .nil⟩, ?_⟩
  rintro q5 n6 h9 ⟨q5', i, hx, hi, x9, G9⟩
  simp only [List.cons.injEq, AV.int.injEq, AV.sl.injEq, true_and, and_true] at hx
  obtain ⟨rfl, rfl⟩ := hx
  rw [H4.len]
  refine vif_mk (fun g => ?_) (fun g => ?_)
  · replace g := of_decide_eq_true g
    have w : wrapK .i64 ((i : Int) + 1) = ((i + 1 : Nat) : Int) := by rw [wrapK_i64 ⟨by omega, by omega⟩]; omega
    rw [w]
    have hx : S[i]? = some S[i] := List.getElem?_eq_getElem (by omega)
    have et : S.take (i + 1) = S.take i ++ [S[i]] := by rw [List.take_add_one, hx]; rfl
    generalize S[i] = x at *
    have H9 := H4.mono x9
    have at1 : ∀ {K : PA → Prop}, (∀ p, cellsAt h9 p 2 = some [.int .i64 x.1, .int .i64 x.2] → K p) → vIdx q4 (i : Int) 2 K := fun hK => H9.idx (E := recE) (by omega) (by omega) fun p y hy hc => by
      have : y = x := by rw [Int.toNat_natCast, hx] at hy; exact (Option.some.inj hy).symm
      subst this; exact hK p hc
    have l9 := x9.len
    have glen : (grp (S.take i)).length ≤ 1000000 := by
      have := grp_len (S.take i).length (S.take i) (Nat.le_refl _)
      rw [List.length_take] at this; omega
    have fin : ∀ {q' : Option SL} {h' : Heap}, GRS h3.length h' q' (grp (S.take (i + 1))) → (∀ b B, b < h3.length → h9[b]? = some B → h'[b]? = some B) →
        (True) ∧ (∃ (q5 : Option SL) (j : Nat), [AV.sl q', .int .i64 ((i + 1 : Nat) : Int)] = [.sl q5, .int .i64 j] ∧ j ≤ S.length ∧ Ext h3 h' ∧ GRS h3.length h' q5 (grp (S.take j))) ∧ (S.length - ((i + 1 : Nat) : Int)).toNat < (S.length - (i : Int)).toNat :=
      fun G' K' => ⟨trivial, ⟨_, i + 1, rfl, by omega, fun b B hB => K' b B (lt_of_get hB) (x9 _ _ hB), G'⟩, by omega⟩
    rw [G9.len]
    refine vif_mk (fun g1 => ?_) (fun g1 => ?_)
    · replace g1 := of_decide_eq_true g1
      have hne : S.take i ≠ [] := by
        intro e; rw [e, grp_nil] at g1; simp at g1
      obtain ⟨G, y, t, e1, e2⟩ := grp_snoc (x := x) (S.take i).length (S.take i) (Nat.le_refl _) hne
      rw [et] at fin
      rw [e2] at fin
      rw [e1] at G9 glen ⊢
      have e3 : wrapK .i64 (((G ++ [y :: t]).length : Int) - 1) = (G.length : Int) := by
        rw [List.length_append] at glen ⊢
        simp only [List.length_cons, List.length_nil] at glen ⊢
        rw [wrapK_i64 ⟨by omega, by omega⟩]; omega
      rw [e3]
      have tl : (y :: t).length ≤ 1000000 := by
        have := grp_glen (l := S.take i) (g := y :: t) (by rw [e1]; simp)
        rw [List.length_take] at this; omega
      refine G9.last rfl fun p10 u hc10 A10 => ⟨u, hc10, A10.hasL.idx (E := recE) (by omega) (by simp) fun p12 y' hy' hc12 => ?_⟩
      have : y' = y := by simpa using hy'.symm
      subst this
      refine ⟨y'.1, cellsAt_sub (k := 0) (m := 1) hc12 (by show 0 + 1 ≤ 2; omega), at1 fun p14 hc14 => ⟨x.1, cellsAt_sub (k := 0) (m := 1) hc14 (by omega), vif_mk (fun g2 => ?_) (fun g2 => ?_)⟩⟩
      · have g2 : y'.1 = x.1 := by simpa using g2
        rw [if_pos g2] at fin
        exact G9.grow (x := x) rfl l9 tl at1 fun h26 G26 K26 l26 => fin G26 K26
      · have g2 : ¬ y'.1 = x.1 := by simpa using g2
        rw [if_neg g2] at fin
        refine at1 fun p hp => ⟨x.1, x.2, hp, G9.more l9 glen fun q' h' G' K' _ => ?_⟩
        rw [List.append_assoc] at G'
        exact fin G' K'
    · replace g1 := of_decide_eq_false g1
      have e0 : grp (S.take i) = [] := List.eq_nil_of_length_eq_zero (by omega)
      have e1 : S.take i = [] := by
        have := grp_flat (S.take i).length (S.take i) (Nat.le_refl _)
        rw [e0] at this; exact this.symm
      have e2 : grp (S.take (i + 1)) = [[x]] := by
        rw [et, e1]
        show grp [x] = _
        rw [grp]; simp [grp_nil]
      refine at1 fun p hp => ⟨x.1, x.2, hp, G9.more l9 glen fun q' h' G' K' _ => fin ?_ K'⟩
      rw [e0] at G'
      rw [e2]; exact G'
  · replace g := of_decide_eq_false g
    have e : S.take i = S := List.take_of_length_le (by omega)
    rw [e] at G9
    refine hQ q5 h9 (x3.trans x9) ?_
    obtain ⟨qs, a1, a2, a3, a4⟩ := G9.inGG
    exact ⟨qs, a1, a2, fun s hs => by have := a3 s hs; omega, fun i u g hu hg => ⟨(a4 i u g hu hg).1, fun s hs => by have := (a4 i u g hu hg).2 s hs; omega⟩⟩)
end
end Go.Proofs.YtfafgnmlnhklaaaGreat

/- The reference's operators. -/
namespace Go.Proofs.YtfafgnmlnhklaaaGreat
open Go.Ab
set_option linter.unusedVariables false
set_option linter.unusedSimpArgs false

section
variable {h : Heap} {Q : AV → Heap → Prop} {q q2 q6 q7 : Option SL} {l : List Rec} {op k a A : Int} {ins : List (List Rec)} {F : Nat → Prop}
set_option maxRecDepth 20000 in
/-- Distinct, of the reference. -/
theorem c79 (H : HasL recE h q l) (hl : l.length ≤ 1000000) (hQ : ∀ q' h', Ext h h' → HasL recE h' q' (dd (sortR l)) → Q (.sl q') h') : AC Tryz.prog 79 [.sl q] h Q := ac79 (by
  unfold vc79
  refine c19 H (by omega) fun q4 h3 x3 H4 f4 => ⟨q4, rfl, ?_⟩
  have hsl : (sortR l).length = l.length := sortR_len
  generalize sortR l = S at *
  refine ⟨fun xs h9 => ∃ (q5 : Option SL) (i : Nat), xs = [.sl q5, .int .i64 i] ∧ i ≤ S.length ∧ New recE h3 h9 q5 (dd (S.take i)), fun xs _ => match xs with | [_, .int _ i] => (S.length - i).toNat | _ => 0, ⟨none, 0, rfl, by omega, by simpa [dd] using New.none⟩, ?_⟩
  rintro q5 n6 h9 ⟨q5', i, hx, hi, N9⟩
  simp only [List.cons.injEq, AV.int.injEq, AV.sl.injEq, true_and, and_true] at hx
  obtain ⟨rfl, rfl⟩ := hx
  rw [H4.len]
  refine vif_mk (fun g => ?_) (fun g => ?_)
  · replace g := of_decide_eq_true g
    have w : wrapK .i64 ((i : Int) + 1) = ((i + 1 : Nat) : Int) := by rw [wrapK_i64 ⟨by omega, by omega⟩]; omega
    rw [w]
    have hx : S[i]? = some S[i] := List.getElem?_eq_getElem (by omega)
    generalize S[i] = x at *
    have H9 := H4.mono N9.1
    have at1 : ∀ {K : PA → Prop}, (∀ p, cellsAt h9 p 2 = some [.int .i64 x.1, .int .i64 x.2] → K p) → vIdx q4 (i : Int) 2 K := fun hK => H9.idx (E := recE) (by omega) (by omega) fun p y hy hc => by
      have : y = x := by rw [Int.toNat_natCast, hx] at hy; exact (Option.some.inj hy).symm
      subst this; exact hK p hc
    have dlen : (dd (S.take i)).length ≤ 1000000 := by
      have := dd_len (l := S.take i)
      rw [List.length_take] at this; omega
    have add : ∀ {K : Option SL → Heap → Prop}, (∀ q' h', New recE h3 h' q' (dd (S.take i) ++ [x]) → K q' h') → PNew [.int .i64 x.1, .int .i64 x.2] true h9 fun a13 h14 => PAppendS 2 16 q5 (some ⟨a13, 0, 1, 1, 0⟩) h14 K := by
      intro K hK
      refine pnew_mk ?_
      have Hn : HasL recE (h9 ++ [Blk.cells [.int .i64 x.1, .int .i64 x.2] true]) (some ⟨h9.length, 0, 1, 1, 0⟩) [x] := HasL.new (n := 1) rfl rfl
      exact (N9.ext (Ext.app _ _)).append (E := recE) Hn (by simp only [List.length_cons, List.length_nil]; omega) hK
    refine vif_mk (fun g1 => ?_) (fun g1 => ?_)
    · have g1 : i = 0 := by simpa using g1
      subst g1
      refine at1 fun p hp => ⟨x.1, x.2, hp, add fun q' h' N' => ⟨trivial, ⟨q', 1, rfl, by omega, ?_⟩, by simp only; omega⟩⟩
      have e : S.take 1 = [x] := by rw [List.take_add_one, hx]; rfl
      rw [e]
      simpa [dd, ddf] using N'
    · have g1 : i ≠ 0 := by simpa using g1
      obtain ⟨j, rfl⟩ : ∃ j, i = j + 1 := ⟨i - 1, by omega⟩
      have hy : S[j]? = some S[j] := List.getElem?_eq_getElem (by omega)
      generalize S[j] = y at *
      have dsn := dd_snoc hx hy
      refine at1 fun p hp => ⟨x.1, x.2, hp, ?_⟩
      rw [wrapK_i64 (n := ((j + 1 : Nat) : Int) - 1) ⟨by omega, by omega⟩]
      refine H9.idx (E := recE) (by omega) (by omega) fun p20 y' hy' hc20 => ?_
      have : y' = y := by
        have e : (((j + 1 : Nat) : Int) - 1).toNat = j := by omega
        rw [e, hy] at hy'; exact (Option.some.inj hy').symm
      subst this
      refine ⟨y'.1, y'.2, hc20, vif_mk (fun g2 => ?_) (fun g2 => ?_)⟩
      · have g2 : x ≠ y' := by rintro rfl; simp at g2
        rw [if_neg g2] at dsn
        exact at1 fun p hp => ⟨x.1, x.2, hp, add fun q' h' N' => ⟨trivial, ⟨q', j + 2, rfl, by omega, by rw [dsn]; exact N'⟩, by simp only; omega⟩⟩
      · have g2 : x = y' := by
          simp only [Bool.and_true, Bool.not_eq_false', Bool.and_eq_true, beq_iff_eq] at g2
          exact Prod.ext g2.1 g2.2
        rw [if_pos g2] at dsn
        exact ⟨trivial, ⟨q5, j + 2, rfl, by omega, by rw [dsn]; exact N9⟩, by simp only; omega⟩
  · replace g := of_decide_eq_false g
    have e : S.take i = S := List.take_of_length_le (by omega)
    rw [e] at N9
    exact hQ q5 h9 (x3.trans N9.1) N9.hasL)

/-- What is made of one record. -/
theorem c80 {x : Rec} (hop : op = 2 ∨ op = 3 ∨ op = 4) (hf : fam k a = op - 1) (hr : okR x = true) (hQ : ∀ q' h', Ext h h' → HasL recE h' q' (oneV op k a x) → Q (.sl q') h') :
    AC Tryz.prog 80 [.agg [.int .i64 op, .sl q2, .int .i64 k, .int .i64 a, .int .i64 A, .sl q6], .agg [.int .i64 x.1, .int .i64 x.2]] h Q := ac80 (by
  unfold vc80
  rcases hop with rfl | rfl | rfl
  · refine vif_mk (fun _ => ?_) (fun g => by simp at g)
    exact o105 (by omega) hr ⟨_, _, rfl, pnew_mk (hQ _ _ (Ext.app _ _) (HasL.new (n := 1) rfl rfl))⟩
  · refine vif_mk (fun g => by simp at g) (fun _ => vif_mk (fun _ => ?_) (fun g => by simp at g))
    refine o106 hr ⟨_, rfl, vif_mk (fun g => ?_) (fun g => ?_)⟩
    · refine pnew_mk (hQ _ _ (Ext.app _ _) ?_)
      have e : oneV 3 k a x = [x] := by simp [oneV, g]
      rw [e]
      exact HasL.new (n := 1) rfl rfl
    · have e : oneV 3 k a x = [] := by simp [oneV, g]
      refine hQ none h (.refl _) ?_
      rw [e]; rfl
  · refine vif_mk (fun g => by simp at g) (fun _ => vif_mk (fun g => by simp at g) (fun _ => ?_))
    exact o107 (by omega) hr fun h' q' x' H' => ⟨q', rfl, hQ q' h' x' H'⟩)

theorem pairAll_cons {k : Int} {x : Rec} {la lb : List Rec} : pairAll k (x :: la) lb = ((lb.filter fun y => y.1 == x.1).map fun y => pairV k x y) ++ pairAll k la lb := by
  unfold pairAll; rw [List.flatMap_cons]
theorem pairAll_app {k : Int} {la la' lb : List Rec} : pairAll k (la ++ la') lb = pairAll k la lb ++ pairAll k la' lb := by
  unfold pairAll; rw [List.flatMap_append]
def rowP (k : Int) (x : Rec) (lb : List Rec) : List Rec := (lb.filter fun y => y.1 == x.1).map fun y => pairV k x y
set_option maxRecDepth 20000 in
/-- pairs: all, or so many that they are too many. -/
theorem c78 {la lb : List Rec} {q3 q4 : Option SL} (Ha : HasL recE h q3 la) (Hb : HasL recE h q4 lb) (hla : la.length ≤ 1000000) (hlb : lb.length ≤ 1000000) (hoka : la.all okR = true) (hokb : lb.all okR = true)
    (hQ : ∀ q' h' out, Ext h h' → HasL recE h' q' out → (out.length ≤ 4096 → out = pairAll k la lb) → (out.length > 4096 → (pairAll k la lb).length > 4096) → out.length ≤ 4097 → Q (.sl q') h') : AC Tryz.prog 78 [.agg [.int .i64 k, .int .i64 a], .sl q3, .sl q4] h Q := ac78 (by
  unfold vc78
  refine ⟨fun xs h9 => ∃ (q5 : Option SL) (i : Nat), xs = [.sl q5, .int .i64 i] ∧ i ≤ la.length ∧ New recE h h9 q5 (pairAll k (la.take i) lb) ∧ (pairAll k (la.take i) lb).length ≤ 4096, fun xs _ => match xs with | [_, .int _ i] => (la.length - i).toNat | _ => 0, ⟨none, 0, rfl, by omega, by simpa [pairAll] using New.none, by simp [pairAll]⟩, ?_⟩
  rintro q5 n6 h9 ⟨q5', i, hx, hi, N9, b9⟩
  simp only [List.cons.injEq, AV.int.injEq, AV.sl.injEq, true_and, and_true] at hx
  obtain ⟨rfl, rfl⟩ := hx
  rw [Ha.len, Hb.len]
  refine vif_mk (fun g => ?_) (fun g => ?_)
  · replace g := of_decide_eq_true g
    have w : wrapK .i64 ((i : Int) + 1) = ((i + 1 : Nat) : Int) := by rw [wrapK_i64 ⟨by omega, by omega⟩]; omega
    rw [w]
    have hx : la[i]? = some la[i] := List.getElem?_eq_getElem (by omega)
    have hlt : i < la.length := by omega
    have et : la.take (i + 1) = la.take i ++ [la[i]] := by rw [List.take_add_one, hx]; rfl
    have ed : la = la.take i ++ la[i] :: la.drop (i + 1) := by
      conv => lhs; rw [← List.take_append_drop i la, List.drop_eq_getElem_cons hlt]
    have okx : okR la[i] = true := List.all_eq_true.1 hoka _ (List.getElem_mem hlt)
    generalize la[i] = x at *
    have one : pairAll k [x] lb = rowP k x lb := by rw [pairAll_cons]; simp [pairAll, rowP]
    refine ⟨fun xs h14 => ∃ (q10 : Option SL) (j : Nat), xs = [.sl q10, .int .i64 j] ∧ j ≤ lb.length ∧ New recE h h14 q10 (pairAll k (la.take i) lb ++ rowP k x (lb.take j)) ∧ (pairAll k (la.take i) lb ++ rowP k x (lb.take j)).length ≤ 4096, fun xs _ => match xs with | [_, .int _ j] => (lb.length - j).toNat | _ => 0, ⟨q5, 0, rfl, by omega, by simpa [rowP] using N9, by simpa [rowP] using b9⟩, ?_⟩
    rintro q10 n11 h14 ⟨q10', j, hx2, hj, N14, b14⟩
    simp only [List.cons.injEq, AV.int.injEq, AV.sl.injEq, true_and, and_true] at hx2
    obtain ⟨rfl, rfl⟩ := hx2
    refine vif_mk (fun g1 => ?_) (fun g1 => ?_)
    · replace g1 := of_decide_eq_true g1
      have w2 : wrapK .i64 ((j : Int) + 1) = ((j + 1 : Nat) : Int) := by rw [wrapK_i64 ⟨by omega, by omega⟩]; omega
      rw [w2]
      have hy : lb[j]? = some lb[j] := List.getElem?_eq_getElem (by omega)
      have hlt2 : j < lb.length := by omega
      have et2 : lb.take (j + 1) = lb.take j ++ [lb[j]] := by rw [List.take_add_one, hy]; rfl
      have ed2 : lb = lb.take j ++ lb[j] :: lb.drop (j + 1) := by
        conv => lhs; rw [← List.take_append_drop j lb, List.drop_eq_getElem_cons hlt2]
      have oky : okR lb[j] = true := List.all_eq_true.1 hokb _ (List.getElem_mem hlt2)
      generalize lb[j] = y at *
      have ata : ∀ {K : PA → Prop}, (∀ p, cellsAt h14 p 2 = some [.int .i64 x.1, .int .i64 x.2] → K p) → vIdx q3 (i : Int) 2 K := fun hK => (Ha.mono N14.1).idx (E := recE) (by omega) (by omega) fun p z hz hc => by
        have : z = x := by rw [Int.toNat_natCast, hx] at hz; exact (Option.some.inj hz).symm
        subst this; exact hK p hc
      have atb : ∀ {K : PA → Prop}, (∀ p, cellsAt h14 p 2 = some [.int .i64 y.1, .int .i64 y.2] → K p) → vIdx q4 (j : Int) 2 K := fun hK => (Hb.mono N14.1).idx (E := recE) (by omega) (by omega) fun p z hz hc => by
        have : z = y := by rw [Int.toNat_natCast, hy] at hz; exact (Option.some.inj hz).symm
        subst this; exact hK p hc
      refine ata fun p15 hc15 => ⟨x.1, cellsAt_sub (k := 0) (m := 1) hc15 (by omega), atb fun p17 hc17 => ⟨y.1, cellsAt_sub (k := 0) (m := 1) hc17 (by omega), vif_mk (fun g2 => ?_) (fun g2 => ?_)⟩⟩
      · have g2 : x.1 = y.1 := by simpa using g2
        have er : rowP k x (lb.take (j + 1)) = rowP k x (lb.take j) ++ [pairV k x y] := by
          unfold rowP
          rw [et2, List.filter_append, List.filter_cons_of_pos (by simpa using g2.symm), List.map_append]; rfl
        refine ata fun p19 hc19 => ⟨x.1, x.2, hc19, atb fun p22 hc22 => ⟨y.1, y.2, hc22, o104 okx oky ⟨_, _, rfl, pnew_mk ?_⟩⟩⟩
        have Hn : HasL recE (h14 ++ [Blk.cells [.int .i64 (pairV k (x.1, x.2) (y.1, y.2)).1, .int .i64 (pairV k (x.1, x.2) (y.1, y.2)).2] true]) (some ⟨h14.length, 0, 1, 1, 0⟩) [pairV k x y] := HasL.new (n := 1) rfl rfl
        refine (N14.ext (Ext.app _ _)).append (E := recE) Hn (by simp only [List.length_cons, List.length_nil]; omega) fun q31 h32 N32 => ?_
        rw [List.append_assoc, ← er] at N32
        rw [N32.hasL.len]
        refine vif_mk (fun g3 => ?_) (fun g3 => ?_)
        · replace g3 := of_decide_eq_true g3
          have g4 : (pairAll k (la.take i) lb ++ rowP k x (lb.take (j + 1))).length > 4096 := by omega
          refine hQ q31 h32 _ N32.1 N32.hasL (fun hn => by omega) (fun _ => ?_) ?_
          have e1 : pairAll k la lb = pairAll k (la.take i) lb ++ (rowP k x lb ++ pairAll k (la.drop (i + 1)) lb) := by
            conv => lhs; rw [ed]
            rw [pairAll_app, pairAll_cons]; rfl
          have e2 : rowP k x lb = rowP k x (lb.take (j + 1)) ++ rowP k x (lb.drop (j + 1)) := by
            unfold rowP
            rw [← List.map_append, ← List.filter_append, List.take_append_drop]
          · rw [e1, e2]
            simp only [List.length_append] at g4 ⊢
            omega
          rw [er, ← List.append_assoc, List.length_append, List.length_cons, List.length_nil]
          omega
        · replace g3 := of_decide_eq_false g3
          exact ⟨⟨rfl, trivial⟩, ⟨q31, j + 1, rfl, by omega, N32, by omega⟩, by simp only; omega⟩
      · have g2 : ¬ x.1 = y.1 := by simpa using g2
        have er : rowP k x (lb.take (j + 1)) = rowP k x (lb.take j) := by
          unfold rowP
          rw [et2, List.filter_append, List.filter_cons_of_neg (by simpa using fun e => g2 e.symm)]
          simp
        exact ⟨⟨rfl, trivial⟩, ⟨q10, j + 1, rfl, by omega, by rw [er]; exact N14, by rw [er]; exact b14⟩, by simp only; omega⟩
    · replace g1 := of_decide_eq_false g1
      have e : lb.take j = lb := List.take_of_length_le (by omega)
      rw [e] at N14 b14
      have ep : pairAll k (la.take (i + 1)) lb = pairAll k (la.take i) lb ++ rowP k x lb := by rw [et, pairAll_app, one]
      exact ⟨⟨rfl, trivial⟩, ⟨q10, i + 1, rfl, by omega, by rw [ep]; exact N14, by rw [ep]; exact b14⟩, by simp only; omega⟩
  · replace g := of_decide_eq_false g
    have e : la.take i = la := List.take_of_length_le (by omega)
    rw [e] at N9 b9
    exact hQ q5 h9 _ N9.1 N9.hasL (fun _ => rfl) (fun hn => by omega) (by omega))
end
end Go.Proofs.YtfafgnmlnhklaaaGreat

/- The reference's operator applied. -/
namespace Go.Proofs.YtfafgnmlnhklaaaGreat
open Go.Ab
set_option linter.unusedVariables false
set_option linter.unusedSimpArgs false

section
variable {h : Heap} {Q : AV → Heap → Prop} {q q2 q6 q7 : Option SL} {l : List Rec} {op k a A : Int} {ins : List (List Rec)} {F : Nat → Prop} {nB : Nat}
set_option maxRecDepth 20000 in
/-- made -/
theorem c46 (G : InGG F h q7 ins) (hop : isOp op ins.length k a A nB = true) (hi : insE ins = 0)
    (hQ : ∀ q' h' out, Ext h h' → HasL recE h' q' out → (out.length ≤ 4096 → out = madeV op k a ins) → (out.length > 4096 → (madeV op k a ins).length > 4096) → out.length ≤ 1000000 → Q (.sl q') h') :
    AC Tryz.prog 46 [.agg [.int .i64 op, .sl q2, .int .i64 k, .int .i64 a, .int .i64 A, .sl q6], .sl q7] h Q := ac46 (by
  unfold vc46
  obtain ⟨h1, h2, hn, _, _, h6⟩ := isOp_cases hop
  have may : ∀ i l, ins[i]? = some l → mayC l = 0 ∧ l.all okR = true ∧ l.length ≤ 4096 := fun i l hl => by
    have := insE0 hi l (List.mem_of_getElem? hl)
    exact ⟨this, mayC0 this⟩
  have fin : ∀ {h' : Heap} {q' : Option SL} {out : List Rec}, Ext h h' → HasL recE h' q' out → out = madeV op k a ins → out.length ≤ 1000000 → Q (.sl q') h' := by
    intro h' q' out x H e hl
    exact hQ q' h' out x H (fun _ => e) (fun hg => by rw [← e]; exact hg) hl
  refine vif_mk (fun g => ?_) (fun g5 => vif_mk (fun g => ?_) (fun g6 => vif_mk (fun g => ?_) (fun g7 => vif_mk (fun g => ?_) (fun g8 => ?_))))
  · have g : op = 5 := by simpa using g
    have hl1 : ins.length = 1 := by rw [hn, g]; rfl
    refine G.idx (i := 0) (by omega) rfl fun pp s l hl hc Hl f => ⟨s, hc, ?_⟩
    obtain ⟨m1, m2, m3⟩ := may 0 l hl
    have hf : fam k a = 4 := by omega
    have hmade : madeV op k a ins = (grp (sortR l)).map (foldV k) := by rw [madeV, if_pos g, getD_of hl]
    refine c76 Hl (by omega) fun q12 h11 x11 G11 => ⟨q12, rfl, ?_⟩
    have hSok : (sortR l).all okR = true := by rw [all_perm (sortR_perm _)]; exact m2
    have hgl := grp_len (sortR l).length (sortR l) (Nat.le_refl _)
    rw [sortR_len] at hgl
    refine ⟨fun xs h17 => ∃ (q13 : Option SL) (i : Nat), xs = [.sl q13, .int .i64 i] ∧ i ≤ (grp (sortR l)).length ∧ New recE h11 h17 q13 (((grp (sortR l)).take i).map (foldV k)), fun xs _ => match xs with | [_, .int _ i] => ((grp (sortR l)).length - i).toNat | _ => 0, ⟨none, 0, rfl, by omega, by simpa using New.none⟩, ?_⟩
    rintro q13 n14 h17 ⟨q13', i, hx, hi2, N17⟩
    simp only [List.cons.injEq, AV.int.injEq, AV.sl.injEq, true_and, and_true] at hx
    obtain ⟨rfl, rfl⟩ := hx
    rw [G11.len]
    refine vif_mk (fun g1 => ?_) (fun g1 => ?_)
    · replace g1 := of_decide_eq_true g1
      have w : wrapK .i64 ((i : Int) + 1) = ((i + 1 : Nat) : Int) := by rw [wrapK_i64 ⟨by omega, by omega⟩]; omega
      rw [w]
      refine (G11.mono N17.1).idx (i := i) (by omega) rfl fun p18 s18 g18 hg18 hc18 H18 f18 => ⟨s18, hc18, ?_⟩
      have hm := List.mem_of_getElem? hg18
      have hgg := grp_glen hm
      rw [sortR_len] at hgg
      refine o77 H18 (by omega) hf (grp_ok hSok hm) (grp_each _ _ (Nat.le_refl _) g18 hm).1 ⟨_, _, rfl, pnew_mk ?_⟩
      have Hn : HasL recE (h17 ++ [Blk.cells [.int .i64 (foldV k g18).1, .int .i64 (foldV k g18).2] true]) (some ⟨h17.length, 0, 1, 1, 0⟩) [foldV k g18] := HasL.new (n := 1) rfl rfl
      refine (N17.ext (Ext.app _ _)).append (E := recE) Hn (by rw [List.length_map, List.length_take]; simp only [List.length_cons, List.length_nil]; omega) fun q26 h27 N27 => ⟨⟨rfl, trivial⟩, ⟨q26, i + 1, rfl, by omega, ?_⟩, by simp only; omega⟩
      rw [List.take_add_one, hg18, List.map_append]
      exact N27
    · replace g1 := of_decide_eq_false g1
      have e : (grp (sortR l)).take i = grp (sortR l) := List.take_of_length_le (by omega)
      rw [e] at N17
      exact fin (x11.trans N17.1) N17.hasL hmade.symm (by rw [List.length_map]; omega)
  · have g : op = 6 := by simpa using g
    have hl1 : ins.length = 2 := by rw [hn, g]; rfl
    refine G.idx (i := 0) (by omega) rfl fun pp s l hl hc Hl f => ⟨s, hc, ?_⟩
    refine G.idx (i := 1) (by omega) rfl fun pp2 s2 l2 hl2 hc2 Hl2 f2 => ⟨s2, hc2, ?_⟩
    obtain ⟨m1, m2, m3⟩ := may 0 l hl
    obtain ⟨n1, n2, n3⟩ := may 1 l2 hl2
    have e : madeV op k a ins = pairAll k l l2 := by rw [madeV, if_neg (by omega), if_pos g, getD_of hl, getD_of hl2]
    refine c78 Hl Hl2 (by omega) (by omega) m2 n2 fun q' h' out x' H' e1 e2 e3 => ⟨q', rfl, ?_⟩
    exact hQ q' h' out x' H' (by rw [e]; exact e1) (by rw [e]; exact e2) (by omega)
  · have g : op = 7 := by simpa using g
    have hl1 : ins.length = 1 := by rw [hn, g]; rfl
    refine G.idx (i := 0) (by omega) rfl fun pp s l hl hc Hl f => ⟨s, hc, ?_⟩
    obtain ⟨m1, m2, m3⟩ := may 0 l hl
    refine c79 Hl (by omega) fun q' h' x' H' => ⟨q', rfl, ?_⟩
    have hdl : (dd (sortR l)).length ≤ l.length := by have := dd_len (l := sortR l); rw [sortR_len] at this; exact this
    refine fin x' H' ?_ (by omega)
    rw [madeV, if_neg (by omega), if_neg (by omega), if_pos g, getD_of hl]
  · have g : op = 8 := by simpa using g
    have hl1 : ins.length = 2 := by rw [hn, g]; rfl
    refine G.idx (i := 0) (by omega) rfl fun pp s l hl hc Hl f => ⟨s, hc, ?_⟩
    refine G.idx (i := 1) (by omega) rfl fun pp2 s2 l2 hl2 hc2 Hl2 f2 => ⟨s2, hc2, pnew_mk ?_⟩
    obtain ⟨m1, m2, m3⟩ := may 0 l hl
    obtain ⟨n1, n2, n3⟩ := may 1 l2 hl2
    have x45 := Ext.app h [Blk.cells [] true]
    have N45 : New recE h (h ++ [Blk.cells [] true]) (some ⟨h.length, 0, 0, 0, 0⟩) [] := New.mk1 (l := []) (n := 0) rfl rfl
    generalize h ++ [Blk.cells [] true] = h45 at *
    refine ⟨⟨s2, x45.cells hc2, rfl⟩, ⟨s, x45.cells hc, rfl⟩, N45.append (E := recE) (Hl.mono x45) (by simp; omega) fun q46 h47 N47 => ⟨⟨s2, N47.1.cells hc2, rfl⟩, N47.append (E := recE) (Hl2.mono N47.1) (by simp; omega) fun q48 h49 N49 => ?_⟩⟩
    refine fin N49.1 N49.hasL ?_ (by simp; omega)
    rw [madeV, if_neg (by omega), if_neg (by omega), if_neg (by omega), if_pos g, getD_of hl, getD_of hl2]; rfl
  · have g5 : op ≠ 5 := by simpa using g5
    have g6 : op ≠ 6 := by simpa using g6
    have g7 : op ≠ 7 := by simpa using g7
    have g8 : op ≠ 8 := by simpa using g8
    have hop3 : op = 2 ∨ op = 3 ∨ op = 4 := by omega
    have hf : fam k a = op - 1 := by omega
    have hl1 : ins.length = 1 := by rw [hn]; rcases hop3 with rfl | rfl | rfl <;> rfl
    have hl : ins[0]? = some ins[0] := List.getElem?_eq_getElem (by omega)
    generalize ins[0] = l at *
    obtain ⟨m1, m2, m3⟩ := may 0 l hl
    have hmade : madeV op k a ins = l.flatMap (oneV op k a) := by rw [madeV, if_neg g5, if_neg g6, if_neg g7, if_neg g8, getD_of hl]
    refine ⟨fun xs h57 => ∃ (q53 : Option SL) (i : Nat), xs = [.sl q53, .int .i64 i] ∧ i ≤ l.length ∧ New recE h h57 q53 ((l.take i).flatMap (oneV op k a)) ∧ ((l.take i).flatMap (oneV op k a)).length ≤ 8 * i, fun xs _ => match xs with | [_, .int _ i] => (l.length - i).toNat | _ => 0, ⟨none, 0, rfl, by omega, by simpa using New.none, by simp⟩, ?_⟩
    rintro q53 n54 h57 ⟨q53', i, hx, hi2, N57, hb⟩
    simp only [List.cons.injEq, AV.int.injEq, AV.sl.injEq, true_and, and_true] at hx
    obtain ⟨rfl, rfl⟩ := hx
    refine (G.mono N57.1).idx (i := 0) (by omega) rfl fun pp s l' hl' hc Hl f => ⟨s, hc, ?_⟩
    rw [hl] at hl'; cases hl'
    rw [Hl.len]
    refine vif_mk (fun g => ?_) (fun g => ?_)
    · replace g := of_decide_eq_true g
      have w : wrapK .i64 ((i : Int) + 1) = ((i + 1 : Nat) : Int) := by rw [wrapK_i64 ⟨by omega, by omega⟩]; omega
      rw [w]
      refine (G.mono N57.1).idx (i := 0) (by omega) rfl fun pp s2 l' hl' hc2 Hl2 f2 => ⟨s2, hc2, ?_⟩
      rw [hl] at hl'; cases hl'
      refine Hl2.idx (E := recE) (by omega) (by omega) fun p62 x hx hcx => ⟨_, _, hcx, ?_⟩
      simp only [Int.toNat_natCast] at hx
      have hxok : okR x = true := by rw [List.all_eq_true] at m2; exact m2 x (List.mem_of_getElem? hx)
      refine c80 hop3 hf hxok fun q67 h66 x66 H66 => ⟨q67, rfl, ?_⟩
      have := oneV_len (r := x) hop3 hf
      have e : (l.take (i + 1)).flatMap (oneV op k a) = (l.take i).flatMap (oneV op k a) ++ oneV op k a x := by rw [List.take_add_one, hx]; simp
      refine (N57.ext x66).append (E := recE) H66 (by omega) fun q68 h69 N69 => ⟨⟨rfl, trivial⟩, ⟨q68, i + 1, rfl, by omega, by rw [e]; exact N69, by rw [e, List.length_append]; omega⟩, by simp only; omega⟩
    · replace g := of_decide_eq_false g
      have e : l.take i = l := List.take_of_length_le (by omega)
      rw [e] at N57 hb
      exact fin N57.1 N57.hasL hmade.symm (by omega))

/-- Arity, of the reference. -/
theorem c49 (hQ : Q (.int .i64 (arityV op : Nat)) h) : AC Tryz.prog 49 [.int .i64 op] h Q := ac49 (by
  unfold vc49
  have hq : ∀ {n : Int}, n = (arityV op : Nat) → Q (.int .i64 n) h := by rintro n rfl; exact hQ
  unfold arityV at hq
  repeat' (first | refine vif_mk (fun g => ?_) (fun g => ?_))
  all_goals (refine hq ?_; simp only [beq_iff_eq, beq_eq_false_iff_ne] at *)
  all_goals (try subst op)
  all_goals (try decide)
  all_goals (rw [if_neg (by omega), if_neg (by omega)]; rfl))
/-- Is, of the reference. -/
theorem c25 (hQ : Q (.bool (isOp op (slLen q2) k a A (slLen q6))) h) : AC Tryz.prog 25 [.agg [.int .i64 op, .sl q2, .int .i64 k, .int .i64 a, .int .i64 A, .sl q6]] h Q := ac25 (by
  unfold vc25
  have hq : ∀ b, b = isOp op (slLen q2) k a A (slLen q6) → Q (.bool b) h := by rintro b rfl; exact hQ
  unfold isOp at hq
  refine vif_mk (fun g => ⟨rfl, hq _ ?_⟩) (fun g => ?_)
  · replace g := of_decide_eq_true g
    rw [show decide (2 ≤ op) = false from decide_eq_false (by omega)]; rfl
  replace g := of_decide_eq_false g
  refine vif_mk (fun g1 => ⟨rfl, hq _ ?_⟩) (fun g1 => ?_)
  · replace g1 := of_decide_eq_true g1
    rw [show decide (op ≤ 8) = false from decide_eq_false (by omega)]; simp
  replace g1 := of_decide_eq_false g1
  have d1 : decide (2 ≤ op) = true := decide_eq_true (by omega)
  have d2 : decide (op ≤ 8) = true := decide_eq_true (by omega)
  rw [d1, d2] at hq
  refine c49 ⟨_, rfl, rfl, vif_mk (fun g2 => hq _ ?_) (fun g2 => ?_)⟩
  · have g2 : slLen q2 ≠ arityV op := by intro e; rw [e] at g2; simp at g2
    rw [decide_eq_false g2]; simp
  have g2 : slLen q2 = arityV op := by have : ((slLen q2 : Nat) : Int) = (arityV op : Nat) := by simpa using g2
                                       omega
  rw [decide_eq_true g2] at hq
  refine vif_mk (fun g3 => hq _ ?_) (fun g3 => ?_)
  · have g3 := of_decide_eq_true g3
    rw [show decide (slLen q6 = 0) = false from decide_eq_false (by omega)]; simp
  have g3 := of_decide_eq_false g3
  rw [show decide (slLen q6 = 0) = true from decide_eq_true (by omega)] at hq
  refine vif_mk (fun g4 => hq _ ?_) (fun g4 => ?_)
  · have g4 : A ≠ 0 := by simpa using g4
    rw [decide_eq_false g4]; simp
  have g4 : A = 0 := by simpa using g4
  rw [decide_eq_true g4] at hq
  simp only [Bool.and_self, Bool.true_and] at hq
  refine vif_mk (fun g5 => hq _ ?_) (fun g5 => vif_mk (fun g6 => hq _ ?_) (fun g6 => ?_))
  · have g5 : op = 7 := by simpa using g5
    rw [if_pos (.inl g5)]; simp; rw [Bool.eq_iff_iff]; simp
  · have g6 : op = 8 := by simpa using g6
    rw [if_pos (.inr g6)]; simp; rw [Bool.eq_iff_iff]; simp
  · have g5 : op ≠ 7 := by simpa using g5
    have g6 : op ≠ 8 := by simpa using g6
    rw [if_neg (by omega)] at hq
    refine o50 ⟨_, rfl, rfl, hq _ ?_⟩
    rw [wrapK_i64 (n := op - 2) ⟨by omega, by omega⟩, wrapK_i64 ⟨by omega, by omega⟩, Bool.eq_iff_iff]
    simp only [beq_iff_eq, decide_eq_true_eq]
    omega)

set_option maxRecDepth 20000 in
/-- Apply, of the reference. -/
theorem c23 (G : InGG F h q7 ins) (hlen : ins.length ≤ 1000000) (hil : ∀ l ∈ ins, l.length ≤ 1000000)
    (h1 : applyE op (slLen q2) k a A (slLen q6) ins ≠ 0 → ∀ h', Ext h h' → Q (.tup [.sl none, .int .i64 (applyE op (slLen q2) k a A (slLen q6) ins)]) h')
    (h0 : applyE op (slLen q2) k a A (slLen q6) ins = 0 → ∀ q' h', Ext h h' → HasL recE h' q' (sortR (madeV op k a ins)) → (∀ s, q' = some s → h.length ≤ s.b) → Q (.tup [.sl q', .int .i64 0]) h') :
    AC Tryz.prog 23 [.agg [.int .i64 op, .sl q2, .int .i64 k, .int .i64 a, .int .i64 A, .sl q6], .sl q7] h Q := ac23 (by
  unfold vc23
  unfold applyE at h1 h0
  refine c25 ⟨_, rfl, vif_mk (fun g => ?_) (fun g => vif_mk (fun g2 => ?_) (fun g2 => ?_))⟩
  · have g : isOp op (slLen q2) k a A (slLen q6) = false := by simpa using g
    rw [if_pos (.inl g)] at h1
    exact h1 (by decide) h (.refl _)
  · have g2 : ins.length ≠ slLen q2 := by rw [G.len] at g2; intro e; rw [e] at g2; simp at g2
    rw [if_pos (.inr g2)] at h1
    exact h1 (by decide) h (.refl _)
  have g : isOp op (slLen q2) k a A (slLen q6) = true := by simpa using g
  have g2 : ins.length = slLen q2 := by
    have : ((slLen q7 : Nat) : Int) = (slLen q2 : Nat) := by simpa using g2
    rw [G.len] at this; omega
  rw [if_neg (by rw [g]; simp [g2])] at h1 h0
  refine ⟨fun xs h14 => h14 = h ∧ ∃ i : Nat, xs = [.int .i64 i] ∧ i ≤ ins.length ∧ insE (ins.take i) = 0, fun xs _ => match xs with | [.int _ i] => (ins.length - i).toNat | _ => 0, ⟨rfl, 0, rfl, by omega, rfl⟩, ?_⟩
  rintro n11 h14 ⟨rfl, i, hx, hi, he⟩
  simp only [List.cons.injEq, AV.int.injEq, true_and, and_true] at hx
  subst hx
  rw [G.len]
  refine vif_mk (fun g3 => ?_) (fun g3 => ?_)
  · replace g3 := of_decide_eq_true g3
    refine G.idx (i := i) (by omega) rfl fun pp s l hl hc Hl f => ⟨s, hc, ?_⟩
    have hlm := hil l (List.mem_of_getElem? hl)
    have happ := insE_app (l := l) he
    have e : ins.take (i + 1) = ins.take i ++ [l] := by rw [List.take_add_one, hl]; rfl
    refine o45 Hl (by omega) ⟨_, rfl, vif_mk (fun g4 => ?_) (fun g4 => ?_)⟩
    · have g4 : mayC l ≠ 0 := by simpa using g4
      have hE : insE ins = mayC l := by
        rw [← happ, ← e]
        conv => lhs; rw [← List.take_append_drop (i + 1) ins]
        exact insE_pre (by rw [e, happ]; exact g4)
      rw [hE, if_pos g4] at h1
      exact h1 g4 h14 (.refl _)
    · have g4 : mayC l = 0 := by simpa using g4
      rw [wrapK_i64 ⟨by omega, by omega⟩]
      exact ⟨⟨rfl, trivial⟩, ⟨rfl, i + 1, by simp, by omega, by rw [e, happ]; exact g4⟩, by simp only; omega⟩
  · replace g3 := of_decide_eq_false g3
    have e : ins.take i = ins := List.take_of_length_le (by omega)
    rw [e] at he
    rw [if_neg (by rw [he]; simp)] at h1 h0
    rw [← g2] at g
    refine c46 G g he fun q22 h21 out x21 H21 e1 e2 hb => ⟨q22, rfl, ?_⟩
    rw [H21.len]
    refine vif_mk (fun g5 => ?_) (fun g5 => ?_)
    · have g5 := e2 (by have := of_decide_eq_true g5; omega)
      rw [if_pos g5] at h1
      exact h1 (by decide) h21 x21
    · have g5 := of_decide_eq_false g5
      have eo := e1 (by omega)
      rw [← eo, if_neg (by omega)] at h0
      refine c19 H21 (by omega) fun q25 h24 x24 H24 f24 => ⟨q25, rfl, ?_⟩
      exact h0 rfl q25 h24 (x21.trans x24) H24 (fun s hs => by have := f24 s hs; have := x21.len; omega))

set_option maxRecDepth 20000 in
/-- OperApplies -/
theorem s6 (s21 : ∀ {h : Heap} {Q : AV → Heap → Prop}, Q (.bool true) h → AC Tryz.prog 21 [] h Q) (G : InGG (fun b => b < h.length) h q7 ins) (hQ : ∀ h', Q (.bool true) h') : AC Tryz.prog 6 [.agg [.int .i64 op, .sl q2, .int .i64 k, .int .i64 a, .int .i64 A, .sl q6], .sl q7] h Q := ac6 (by
  unfold vc6
  refine c20 G fun b hb => ⟨b, rfl, vif_mk (fun _ => s21 ⟨_, rfl, hQ _⟩) (fun g => vif_mk (fun _ => s21 ⟨_, rfl, hQ _⟩) (fun g1 => ?_))⟩
  obtain ⟨hl10, hl5⟩ := hb g
  have hb1 : ∀ l ∈ ins, l.length ≤ 1000000 := fun l hl => by have := hl5 l hl; omega
  have fin : ∀ {q19 q23 : Option SL} {h22 : Heap} {out : List Rec} {n : Int}, HasL recE h22 q19 out → HasL recE h22 q23 out → out.length ≤ 4611686018427387904 → AC Tryz.prog 21 [] h22 fun v25 h26 => ∃ b27 : Bool, v25 = .bool b27 ∧
      vif b27 (vif (n == n) (AC Tryz.prog 17 [.sl q19, .sl q23] h26 fun v28 h29 => ∃ b30 : Bool, v28 = .bool b30 ∧
        vif b30 (AC Tryz.prog 24 [.agg [.int .i64 op, .sl q2, .int .i64 k, .int .i64 a, .int .i64 A, .sl q6]] h29 fun v31 h32 => ∃ b33 : Bool, v31 = .bool b33 ∧
          (LV.val (.agg [.int .i64 op, .sl q2, .int .i64 k, .int .i64 a, .int .i64 A, .sl q6]) = LV.val (.agg [.int .i64 op, .sl q2, .int .i64 k, .int .i64 a, .int .i64 A, .sl q6])) ∧
          AC Tryz.prog 25 [.agg [.int .i64 op, .sl q2, .int .i64 k, .int .i64 a, .int .i64 A, .sl q6]] h32 fun v34 h35 => ∃ b36 : Bool, v34 = .bool b36 ∧ Q (.bool (b33 == b36)) h35)
        ((LV.val (.tup []) = LV.val (.tup [])) ∧ Q (.bool false) h29))
      ((LV.val (.tup []) = LV.val (.tup [])) ∧ Q (.bool false) h26)) ((LV.val (.tup []) = LV.val (.tup [])) ∧ Q (.bool false) h26) := by
    intro q19 q23 h22 out n H1 H2 hl
    refine s21 ⟨true, rfl, vif_mk (fun _ => vif_mk (fun _ => ?_) (fun g => by simp at g)) (fun g => by simp at g)⟩
    refine o17 H1 H2 hl ⟨_, rfl, vif_mk (fun _ => ?_) (fun g => by simp at g)⟩
    refine c24 ⟨_, rfl, rfl, c25 ⟨_, rfl, ?_⟩⟩
    rw [beq_self_eq_true]
    exact hQ _
  by_cases h0 : applyE op (slLen q2) k a A (slLen q6) ins = 0
  · have hml : (sortR (madeV op k a ins)).length ≤ 4611686018427387904 := by
      rw [sortR_len]
      unfold applyE at h0
      split at h0
      · cases h0
      split at h0
      · rename_i g _; exact absurd h0 (by assumption)
      split at h0
      · cases h0
      · omega
    refine c22 G (fun b hb => hb) (by omega) hb1 (fun hn => absurd h0 hn) fun _ q19 h18 N18 => ⟨q19, 0, rfl, ?_⟩
    refine c23 (G.mono N18.1) (by omega) hb1 (fun hn => absurd h0 hn) fun _ q23 h22 x22 H22 _ => ⟨q23, 0, rfl, ?_⟩
    exact fin (N18.hasL.mono x22) H22 hml
  · refine c22 G (fun b hb => hb) (by omega) hb1 (fun _ h18 x18 => ⟨none, _, rfl, ?_⟩) (fun hn => absurd hn h0)
    refine c23 (G.mono x18) (by omega) hb1 (fun _ h22 x22 => ⟨none, _, rfl, ?_⟩) (fun hn => absurd hn h0)
    exact fin (out := []) rfl rfl (by simp))
end
end Go.Proofs.YtfafgnmlnhklaaaGreat
