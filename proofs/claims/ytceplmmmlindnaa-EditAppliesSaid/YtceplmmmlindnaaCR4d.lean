/- The document's Apply and Edits. -/
import Derived.Test.YtceplmmmlindnaaCR4c
namespace Go.Proofs.Ytceplmmmlindnaa
open Go.Ab
set_option linter.unusedVariables false
set_option linter.unusedSimpArgs false

/-- A list just copied into nothing. -/
def Own {α : Type} (E : Enc α) (h : Heap) (q : Option SL) (l : List α) : Prop := (l = [] ∧ ∃ a, q = some ⟨a, 0, 0, 0, 0⟩ ∧ h[a]? = some (.cells [] true)) ∨ (l ≠ [] ∧ ∃ a, q = some ⟨a, 0, l.length, l.length, E.sz⟩ ∧ h[a]? = some (.cells (E.all l) true))
theorem Own.ext {α : Type} {E : Enc α} {h h' : Heap} {q : Option SL} {l : List α} (O : Own E h q l) (K : Ext h h') : Own E h' q l := by
  rcases O with ⟨a, b, c, d⟩ | ⟨a, b, c, d⟩
  · exact .inl ⟨a, b, c, K _ _ d⟩
  · exact .inr ⟨a, b, c, K _ _ d⟩
theorem Own.hasL {α : Type} {E : Enc α} {h : Heap} {q : Option SL} {l : List α} (O : Own E h q l) : HasL E h q l := by
  rcases O with ⟨rfl, a, rfl, hb⟩ | ⟨hne, a, rfl, hb⟩
  · refine ⟨rfl, Nat.le_refl _, .inl rfl, ?_⟩
    simp [cellsAt, hb, Enc.all]
  · refine ⟨rfl, Nat.le_refl _, .inr rfl, ?_⟩
    rw [cellsAt_mk (p := ⟨a, 0⟩) hb (by simp [Enc.all_length])]
    simp [← Enc.all_length]

theorem copy0 {α : Type} {E : Enc α} {h : Heap} {a : Nat} {q : Option SL} {l : List α} {by' : Nat} {K : Option SL → Heap → Prop} (ha : h[a]? = some (.cells [] true)) (H : HasL E h q l) (hb : l.length * by' ≤ 140737488355328)
    (hK : ∀ q' h', Ext h h' → Own E h' q' l → (∀ s, q' = some s → s.b = a ∨ h.length ≤ s.b) → K q' h') : PAppendS E.sz by' (some ⟨a, 0, 0, 0, 0⟩) q h K := by
  refine ⟨E.all l, H.cells, by rw [Enc.all_length, H.len], ?_⟩
  rw [H.len]
  simp only [Nat.zero_add, Nat.zero_mul]
  split
  · rename_i h0
    have : l = [] := List.eq_nil_of_length_eq_zero (by omega)
    subst this
    rw [ha]
    have e0 : E.all ([] : List α) = [] := rfl
    simp only [e0, splice_nil, List.length_nil]
    have hs : h.set a (.cells [] true) = h := set_same ha
    rw [hs]
    exact ⟨by simp, hK _ _ (.refl _) (.inl ⟨rfl, a, rfl, ha⟩) (fun s hs => by cases hs; exact .inl rfl)⟩
  · rename_i h0
    refine ⟨hb, E.pos, ?_⟩
    have hc : cellsAt h ⟨a, 0⟩ 0 = some [] := by simp [cellsAt, ha]
    rw [hc, ha]
    simp only [if_true, List.nil_append]
    refine hK _ _ (.app _ _) (.inr ⟨fun h => h0 (by rw [h]; simp), h.length, rfl, by simp⟩) (fun s hs => by cases hs; exact .inr (Nat.le_refl _))

theorem appendOne {α : Type} {E : Enc α} {h : Heap} {q src : Option SL} {l : List α} {x : α} {by' : Nat} {K : Option SL → Heap → Prop} (O : Own E h q l) (H : HasL E h src [x]) (hb : (l.length + 1) * by' ≤ 140737488355328)
    (hK : ∀ q' h', Own E h' q' (l ++ [x]) → Keeps (fun b => ∃ s, q = some s ∧ s.b = b) h h' → h.length ≤ h'.length → (∀ s', q' = some s' → h.length ≤ s'.b) → K q' h') : PAppendS E.sz by' q src h K := by
  refine ⟨E.all [x], H.cells, by rw [Enc.all_length, H.len], ?_⟩
  rw [H.len]
  rcases O with ⟨rfl, a, rfl, ha⟩ | ⟨hne, a, rfl, ha⟩
  · simp only [List.length_cons, List.length_nil]
    rw [if_neg (by omega)]
    have hc : cellsAt h ⟨a, 0⟩ (0 * E.sz) = some [] := by simp [cellsAt, ha]
    simp only [List.length_nil] at hb
    refine ⟨hb, E.pos, ?_⟩
    rw [hc, ha]
    simp only [if_true, List.nil_append]
    exact hK _ _ (.inr ⟨by simp, h.length, rfl, by simp⟩) (keeps_of_ext (Ext.app _ _)) (by simp) (fun s hs => by cases hs; exact Nat.le_refl _)
  · simp only [List.length_cons, List.length_nil]
    rw [if_neg (by omega)]
    have hc : cellsAt h ⟨a, 0⟩ (l.length * E.sz) = some (E.all l) := by
      rw [cellsAt_mk (p := ⟨a, 0⟩) ha (by simp [Enc.all_length])]
      simp [← Enc.all_length]
    refine ⟨hb, E.pos, ?_⟩
    rw [hc, ha]
    simp only
    rw [if_neg (by have := E.pos; omega)]
    refine ⟨trivial, trivial, hK _ _ (.inr ⟨by simp, h.length, by simp, ?_⟩) ?_ (by simp) (fun s hs => by cases hs; exact Nat.le_refl _)⟩
    · rw [List.getElem?_append_right (by simp)]
      simp [Enc.all_append]
    · refine Keeps.trans ?_ (keeps_of_ext (Ext.app _ _))
      intro b B hb hB
      rw [List.getElem?_set, if_neg]
      · exact hB
      · intro he; exact hb ⟨_, rfl, he⟩

section
variable {h : Heap} {Q : AV → Heap → Prop} {p : Nat} {has : Bool} {done : List ED} {mark : ED}

/-- The document's Apply. -/
theorem u24 {D : Nat → Prop} (S : RefS h D p has done mark) (hD : ∀ b, D b → b < h.length) {e : EV} {d : ED} (hR : EdR h e d) (hp : ∀ s, e.2.2.2 = some s → ¬ D s.b ∧ s.b ≠ p) (hd : done.length ≤ 100)
    (hno : (chk d && goes has done mark d) = false → Q (.int .i64 (resV has done mark d)) h)
    (hgo : ∀ h', (chk d && goes has done mark d) = true → RefS h' D p (nHas d) (nDone done d) (nMark d) → Keeps (fun b => b = p) h h' → h.length ≤ h'.length → Q (.int .i64 0) h') : AC Try.prog 24 [.ptr (some ⟨p, 0⟩), evV e] h Q := ac24 (by
  have S0 := S.view
  obtain ⟨qd, m, L, h1, h2, h3, h4, h5, h6, h7, h8, h9, h10⟩ := S
  have r1 : e.1 = d.1 := hR.1
  unfold vc24
  refine u17 (e := e) hR ⟨_, rfl, ?_⟩
  cases hc : chk d with
  | false =>
    simp only [hc, Bool.false_eq_true, if_false, resV, Bool.false_and] at hno
    simp only [Bool.not_false, vif]
    exact hno trivial
  | true =>
  simp only [Bool.not_true, vif]
  refine u81 S0 (e := e) hR ⟨_, rfl, vif_mk (fun g2 => ?_) fun g2 => ?_⟩
  · simp only [Bool.not_eq_true'] at g2
    simp only [hc, g2, resV, if_true, Bool.false_eq_true, if_false, Bool.and_false] at hno
    exact hno trivial
  have hg : goes has done mark d = true := by simpa using g2
  have hyes : (chk d && goes has done mark d) = true := by rw [hc, hg]; rfl
  have hrefs : d.2.2.2.length ≤ 256 := by
    simp only [chk, Bool.and_eq_true, decide_eq_true_eq] at hc
    exact hc.1.2
  have hpl := lt_of_get h1
  have live4 := HasL.live h4
  have hrl := HasL.live hR.2.2.2
  rw [r1]
  refine vif_mk (fun g3 => ?_) (fun g3 => ?_)
  · have g3' : (d.1 == 2) = true := g3
    have e1 : nHas d = false := by simp [nHas, g3']
    have e2 : nDone done d = done ++ [d] := by simp [nDone, g3']
    have e3 : nMark d = zeroD := by simp [nMark, g3']
    have tail : ∀ (q20 : Option SL) (h21 : Heap), Ext h h21 → Own edE h21 q20 (L ++ [e]) → (∀ s, q20 = some s → h.length ≤ s.b) →
        vPtr (some (⟨p, 0⟩ : PA)) fun p22 => PStore h21 ⟨p22.b, p22.o + 0⟩ [.sl q20] fun h23 => vPtr (some (⟨p, 0⟩ : PA)) fun p24 => PStore h23 ⟨p24.b, p24.o + 1⟩ [.int .i64 0, .int .i64 0, .int .i64 0, .sl none] fun h25 => vPtr (some (⟨p, 0⟩ : PA)) fun p26 => PStore h25 ⟨p26.b, p26.o + 5⟩ [.bool false] fun h27 => Q (.int .i64 0) h27 := by
      intro q20 h21 hx O hq
      have p21 := hx _ _ h1
      have hpl21 := lt_of_get p21
      have hl21 := hx.len
      refine store6v p21 (o := 0) ?_ ?_
      · simp
      have p23 : (h21.set p (.cells (splice [.sl qd, .int .i64 m.1, .int .i64 m.2.1, .int .i64 m.2.2.1, .sl m.2.2.2, .bool has] 0 [.sl q20]) true))[p]? = some (.cells [.sl q20, .int .i64 m.1, .int .i64 m.2.1, .int .i64 m.2.2.1, .sl m.2.2.2, .bool has] true) := by
        rw [List.getElem?_set_self hpl21]; rfl
      refine store6v p23 (o := 1) ?_ ?_
      · simp
      rw [List.set_set]
      have p25 : (h21.set p (.cells (splice [.sl q20, .int .i64 m.1, .int .i64 m.2.1, .int .i64 m.2.2.1, .sl m.2.2.2, .bool has] 1 [.int .i64 0, .int .i64 0, .int .i64 0, .sl none]) true))[p]? = some (.cells [.sl q20, .int .i64 0, .int .i64 0, .int .i64 0, .sl none, .bool has] true) := by
        rw [List.getElem?_set_self hpl21]; rfl
      refine store6v p25 (o := 5) ?_ ?_
      · simp
      rw [List.set_set]
      have Kset : Keeps (fun b => b = p) h21 (h21.set p (.cells (splice [.sl q20, .int .i64 0, .int .i64 0, .int .i64 0, .sl none, .bool has] 5 [.bool false]) true)) := keeps_set rfl
      have Kall : Keeps (fun b => b = p) h (h21.set p (.cells (splice [.sl q20, .int .i64 0, .int .i64 0, .int .i64 0, .sl none, .bool has] 5 [.bool false]) true)) := (keeps_of_ext hx).trans Kset
      refine hgo _ hyes ?_ Kall (by simp; omega)
      rw [e1, e2, e3]
      refine ⟨q20, zeroV, L ++ [e], ?_, h2, fun s hs => ⟨fun hd => by have := hD _ hd; have := hq s hs; omega, by have := hq s hs; omega⟩, Kset.hasL (fun s hs => by have := hq s hs; omega) O.hasL, by simp [h5], ?_, ⟨rfl, rfl, rfl, rfl⟩, fun s hs => (by cases hs), ?_, by simp⟩
      · rw [List.getElem?_set_self hpl21]; rfl
      · intro j x y hj hy
        rw [List.getElem?_append] at hj hy
        split at hj
        · rw [if_pos (by omega)] at hy
          obtain ⟨r, c⟩ := h6 j x y hj hy
          exact ⟨Kall.edR (fun s hs => (c s hs).2) r, c⟩
        · rw [if_neg (by omega)] at hy
          have j0 : j - L.length = 0 := by have := lt_of_get hj; simp at this; omega
          have y0 : j - done.length = 0 := by omega
          rw [j0] at hj
          rw [y0] at hy
          simp at hj hy
          subst hj hy
          exact ⟨Kall.edR (fun s hs => (hp s hs).2) hR, hp⟩
      · intro x hx'
        rcases List.mem_append.1 hx' with hx' | hx'
        · exact h9 x hx'
        · simp at hx'; subst hx'; exact hrefs
    have ecells : [AV.int .i64 d.1, .int .i64 e.2.1, .int .i64 e.2.2.1, .sl e.2.2.2] = edE.all [e] := by rw [← r1]; simp [Enc.all, edE]
    have rd : ∀ h' : Heap, Ext h h' → ∃ q, cellsAt h' ⟨p, 0 + 0⟩ 1 = some [.sl q] ∧ LV.val (.sl q) = LV.val (.sl qd) := fun h' hx => ⟨qd, cells6 (hx _ _ h1) (o := 0) (k := 1) (by simp), rfl⟩
    have fin : ∀ (h19 : Heap) (q16 : Option SL) (a18 : Nat), Ext h h19 → Own edE h19 q16 L → (∀ s, q16 = some s → h.length ≤ s.b) → h19[a18]? = some (.cells (edE.all [e]) true) → PAppendS 4 48 q16 (some ⟨a18, 0, 1, 1, 0⟩) h19 fun q20 h21 => vPtr (some (⟨p, 0⟩ : PA)) fun p22 => PStore h21 ⟨p22.b, p22.o + 0⟩ [.sl q20] fun h23 => vPtr (some (⟨p, 0⟩ : PA)) fun p24 => PStore h23 ⟨p24.b, p24.o + 1⟩ [.int .i64 0, .int .i64 0, .int .i64 0, .sl none] fun h25 => vPtr (some (⟨p, 0⟩ : PA)) fun p26 => PStore h25 ⟨p26.b, p26.o + 5⟩ [.bool false] fun h27 => Q (.int .i64 0) h27 := by
      intro h19 q16 a18 hx O hq ha
      have hsrc : HasL edE h19 (some ⟨a18, 0, 1, 1, 0⟩) [e] := by
        refine ⟨rfl, Nat.le_refl _, .inl rfl, ?_⟩
        rw [cellsAt_mk (p := ⟨a18, 0⟩) ha (by simp [Enc.all_length])]
        simp [Enc.all, edE]
      refine appendOne (E := edE) O hsrc (by omega) fun q20 h21 O2 K2 hl2 hq2 => tail q20 h21 ?_ O2 (fun s hs => by have := hq2 s hs; have := hx.len; omega)
      intro b B hB
      exact K2 b B (fun ⟨s, a1, a2⟩ => by have := hq s a1; have := lt_of_get hB; omega) (hx _ _ hB)
    refine ⟨qd, cells6 h1 (o := 0) (k := 1) (by simp), ?_⟩
    unfold PNew
    rw [ecells]
    refine ⟨⟨trivial, rd _ (.app _ _), ?_, ?_⟩, ?_⟩
    · refine copy0 (E := edE) (a := h.length) (by simp) (h4.mono (Ext.app _ _)) (by omega) fun q16 h17 hx O hq => ⟨trivial, rd _ (((Ext.app _ _).trans hx).trans (Ext.app _ _)), ?_⟩
      refine fin _ q16 _ (((Ext.app _ _).trans hx).trans (Ext.app _ _)) (O.ext (Ext.app _ _)) (fun s hs => ?_) (by simp)
      rcases hq s hs with a | a
      · omega
      · simp at a; omega
    · refine ⟨rd _ ((Ext.app _ _).trans (Ext.app _ _)), ?_⟩
      refine copy0 (E := edE) (a := h.length) (by rw [List.getElem?_append_left (by simp)]; simp) ((h4.mono (Ext.app _ _)).mono (Ext.app _ _)) (by omega) fun q16 h17 hx O hq => ⟨trivial, ?_⟩
      refine fin _ q16 _ (((Ext.app _ _).trans (Ext.app _ _)).trans hx) O (fun s hs => ?_) (hx _ _ (by simp))
      rcases hq s hs with a | a
      · omega
      · simp at a; omega
    · refine ⟨rd _ (.app _ _), trivial, rd _ ((Ext.app _ _).trans (Ext.app _ _)), ?_⟩
      refine copy0 (E := edE) (a := (h ++ [Blk.cells (edE.all [e]) true]).length) (by simp) ((h4.mono (Ext.app _ _)).mono (Ext.app _ _)) (by omega) fun q16 h17 hx O hq => ⟨trivial, ?_⟩
      refine fin _ q16 _ (((Ext.app _ _).trans (Ext.app _ _)).trans hx) O (fun s hs => ?_) (hx _ _ (by rw [List.getElem?_append_left (by simp)]; simp))
      rcases hq s hs with a | a
      · simp at a; omega
      · simp at a; omega
  · have g3' : (d.1 == 2) = false := g3
    have e1 : nHas d = true := by simp [nHas, g3']
    have e2 : nDone done d = done := by simp [nDone, g3']
    have e3 : nMark d = d := by simp [nMark, g3']
    refine store6v h1 (o := 1) ?_ ?_
    · simp
    have p60 : (h.set p (.cells (splice [.sl qd, .int .i64 m.1, .int .i64 m.2.1, .int .i64 m.2.2.1, .sl m.2.2.2, .bool has] 1 [.int .i64 d.1, .int .i64 e.2.1, .int .i64 e.2.2.1, .sl e.2.2.2]) true))[p]? = some (.cells [.sl qd, .int .i64 e.1, .int .i64 e.2.1, .int .i64 e.2.2.1, .sl e.2.2.2, .bool has] true) := by
      rw [List.getElem?_set_self hpl, r1]; rfl
    refine store6v p60 (o := 5) ?_ ?_
    · simp
    rw [List.set_set]
    have Kset : Keeps (fun b => b = p) h (h.set p (.cells (splice [.sl qd, .int .i64 e.1, .int .i64 e.2.1, .int .i64 e.2.2.1, .sl e.2.2.2, .bool has] 5 [.bool true]) true)) := keeps_set rfl
    refine hgo _ hyes ?_ Kset (by simp)
    rw [e1, e2, e3]
    refine ⟨qd, e, L, ?_, h2, h3, Kset.hasL (fun s hs => (h3 s hs).2) h4, h5, ?_, Kset.edR (fun s hs => (hp s hs).2) hR, hp, h9, hrefs⟩
    · rw [List.getElem?_set_self hpl]; rfl
    · intro j x y hj hy
      obtain ⟨r, c⟩ := h6 j x y hj hy
      exact ⟨Kset.edR (fun s hs => (c s hs).2) r, c⟩)

/-- The document's Edits. -/
theorem u82 (S : StV h p has done mark) (hd : done.length ≤ 100) (hQ : ∀ q h', Ext h h' → InL h' q (edits has done mark) → Q (.sl q) h') : AC Try.prog 82 [.ptr (some ⟨p, 0⟩)] h Q := ac82 (by
  obtain ⟨qd, m, h1, ⟨L, g, hL, he⟩, h3, h7, h8⟩ := S
  unfold vc82 PNew
  have hx0 : Ext h (h ++ [.cells [] true]) := .app _ _
  refine ⟨qd, cells6 (hx0 _ _ h1) (o := 0) (k := 1) (by simp), ?_⟩
  refine copy0 (E := edE) (a := h.length) (by simp) (g.mono hx0) (by omega) fun q6 h7' hx O hq => ?_
  have hx1 := hx0.trans hx
  refine ⟨has, cells6 (hx1 _ _ h1) (o := 5) (k := 1) (by simp), ?_⟩
  have old : ∀ h', Ext h h' → ∀ (j : Nat) (e : EV) (d : ED), L[j]? = some e → done[j]? = some d → EdR h' e d := fun h' hx j e d a b => by
    have r := he j e d a b
    exact ⟨r.1, r.2.1, r.2.2.1, r.2.2.2.mono hx⟩
  have hown : ∀ s, q6 = some s → h.length ≤ s.b := fun s hs => by
    rcases hq s hs with a | a
    · omega
    · simp at a; omega
  cases has with
  | true =>
    simp only [vif]
    refine ⟨m.1, m.2.1, m.2.2.1, m.2.2.2, cells6 (hx1 _ _ h1) (o := 1) (k := 4) (by simp), ?_⟩
    have hx2 : Ext h7' (h7' ++ [.cells [.int .i64 m.1, .int .i64 m.2.1, .int .i64 m.2.2.1, .sl m.2.2.2] true]) := .app _ _
    have hsrc : HasL edE (h7' ++ [.cells [.int .i64 m.1, .int .i64 m.2.1, .int .i64 m.2.2.1, .sl m.2.2.2] true]) (some ⟨h7'.length, 0, 1, 1, 0⟩) [m] := HasL.new (E := edE) (l := [m]) rfl (by simp [Enc.all, edE])
    refine appendOne (E := edE) (O.ext hx2) hsrc (by omega) fun q2 h18 O2 K2 hl2 hq2 => hQ q2 h18 ?_ ?_
    · intro b B hB
      exact K2 b B (fun ⟨s, a1, a2⟩ => by have := hown s a1; have := lt_of_get hB; omega) (hx2 _ _ (hx1 _ _ hB))
    · have hxx : Ext h h18 := fun b B hB => K2 b B (fun ⟨s, a1, a2⟩ => by have := hown s a1; have := lt_of_get hB; omega) (hx2 _ _ (hx1 _ _ hB))
      refine ⟨L ++ [m], O2.hasL, by simp [edits, hL], fun j e d a b => ?_⟩
      simp only [edits, if_true] at b
      rw [List.getElem?_append] at a b
      split at a
      · rw [if_pos (by omega)] at b; exact old h18 hxx j e d a b
      · rw [if_neg (by omega)] at b
        have j0 : j - L.length = 0 := by have := lt_of_get a; simp at this; omega
        have y0 : j - done.length = 0 := by omega
        rw [j0] at a
        rw [y0] at b
        simp at a b
        subst a b
        exact ⟨h3.1, h3.2.1, h3.2.2.1, h3.2.2.2.mono hxx⟩
  | false =>
    simp only [vif]
    refine hQ q6 h7' hx1 ⟨L, O.hasL, by simp [edits, hL], fun j e d a b => ?_⟩
    simp only [edits, Bool.false_eq_true, if_false, List.append_nil] at b
    exact old h7' hx1 j e d a b)
end
end Go.Proofs.Ytceplmmmlindnaa
