/- States with an exact frame: the engine's Apply, the document's. -/
import Derived.Test.YtceplmmmlindnaaCR4b
namespace Go.Proofs.Ytceplmmmlindnaa
open Go.Ab
set_option linter.unusedVariables false
set_option linter.unusedSimpArgs false

section
variable {h : Heap} {Q : AV → Heap → Prop}
/-- Check. -/
theorem u18 {e : EV} {d : ED} (hR : EdR h e d) (hQ1 : Q (.int .i64 (if chk d then 0 else 140)) h) : AC Try.prog 18 [evV e] h Q := ac18 (by
  have hQ : ∀ n : Int, (n = 0 ∨ n = 140) → (n = 0 ↔ chk d = true) → Q (.int .i64 n) h := by
    intro n h1 h2
    cases hc : chk d with
    | true => rw [hc] at hQ1; have := h2.2 hc; subst this; exact hQ1
    | false =>
      rw [hc] at hQ1
      have : n = 140 := h1.resolve_left (fun h0 => by have := h2.1 h0; rw [hc] at this; cases this)
      subst this; exact hQ1
  obtain ⟨r1, r2, r3, hL⟩ := hR
  have hlen := hL.len
  unfold vc18
  rw [r1, r2, r3]
  have rest : (d.1 == 1 || (d.1 == 2 && d.2.2.1 == 0)) = true → ∀ n : Int, (n = 0 ↔ atOk d.2.1 d.2.2.1 = true) → vif (n != 0) (Q (.int .i64 140) h) (vif (decide ((slLen e.2.2.2 : Int) > 256)) (Q (.int .i64 140) h)
      (AC Try.prog 68 [.sl e.2.2.2, .func (.func 65) [] []] h fun v8 h9 => ∃ b10 : Bool, v8 = .bool b10 ∧ vif b10 (Q (.int .i64 140) h9) (Q (.int .i64 0) h9))) := by
    intro hk n hn
    refine vif_mk (fun h1 => hQ _ (by simp) ?_) fun h1 => vif_mk (fun h2 => hQ _ (by simp) ?_) fun h2 => ?_
    · have : atOk d.2.1 d.2.2.1 = false := by
        cases ha : atOk d.2.1 d.2.2.1
        · rfl
        · have := hn.2 ha; subst this; simp at h1
      simp [chk, this]
    · simp only [decide_eq_true_eq] at h2
      have : decide (d.2.2.2.length ≤ 256) = false := by simp; omega
      simp [chk, this]
    · simp only [decide_eq_false_iff_not] at h2
      refine t68 hL (by omega) ⟨_, rfl, ?_⟩
      have ha : atOk d.2.1 d.2.2.1 = true := hn.1 (by simpa using h1)
      have hl : decide (d.2.2.2.length ≤ 256) = true := by simp; omega
      cases hall : d.2.2.2.all refOk
      · exact hQ _ (by simp) (by simp [chk, hall])
      · exact hQ _ (by simp) (by unfold chk; rw [hk, ha, hl, hall]; simp)
  refine vif_mk (fun h1 => ?_) fun h1 => vif_mk (fun h2 => vif_mk (fun h3 => hQ _ (by simp) ?_) fun h3 => ?_) fun h2 => hQ _ (by simp) ?_
  · refine t67 fun n hn => ⟨n, rfl, rest ?_ n hn⟩
    rw [h1]; rfl
  · have e3 : (d.2.2.1 == 0) = false := by simpa using h3
    unfold chk
    rw [h1, e3]; simp
  · refine t67 fun n hn => ⟨n, rfl, rest ?_ n hn⟩
    have e3 : (d.2.2.1 == 0) = true := by simpa using h3
    rw [h2, e3]; simp
  · unfold chk
    rw [h1, h2]; simp)
end

/-- A state whose blocks are those of D. -/
def St2 (h : Heap) (D : Nat → Prop) (p : Nat) (has : Bool) (done : List ED) (mark : ED) : Prop :=
  ∃ (qd : Option SL) (m : EV) (L : List EV), h[p]? = some (.cells [.sl qd, .int .i64 m.1, .int .i64 m.2.1, .int .i64 m.2.2.1, .sl m.2.2.2, .bool has] true) ∧ D p ∧ (∀ s, qd = some s → D s.b ∧ s.b ≠ p) ∧ Grow edE h qd L ∧ L.length = done.length ∧
    (∀ (j : Nat) (e : EV) (d : ED), L[j]? = some e → done[j]? = some d → EdR h e d ∧ ∀ s, e.2.2.2 = some s → D s.b ∧ s.b ≠ p ∧ ∀ s', qd = some s' → s.b ≠ s'.b) ∧
    EdR h m mark ∧ (∀ s, m.2.2.2 = some s → D s.b ∧ s.b ≠ p ∧ ∀ s', qd = some s' → s.b ≠ s'.b) ∧ (∀ d ∈ done, d.2.2.2.length ≤ 256) ∧ mark.2.2.2.length ≤ 256 ∧ ∀ b, D b → b < h.length
/-- A state that has no block of D. -/
def RefS (h : Heap) (D : Nat → Prop) (p : Nat) (has : Bool) (done : List ED) (mark : ED) : Prop :=
  ∃ (qd : Option SL) (m : EV) (L : List EV), h[p]? = some (.cells [.sl qd, .int .i64 m.1, .int .i64 m.2.1, .int .i64 m.2.2.1, .sl m.2.2.2, .bool has] true) ∧ ¬ D p ∧ (∀ s, qd = some s → ¬ D s.b ∧ s.b ≠ p) ∧ HasL edE h qd L ∧ L.length = done.length ∧
    (∀ (j : Nat) (e : EV) (d : ED), L[j]? = some e → done[j]? = some d → EdR h e d ∧ ∀ s, e.2.2.2 = some s → ¬ D s.b ∧ s.b ≠ p) ∧
    EdR h m mark ∧ (∀ s, m.2.2.2 = some s → ¬ D s.b ∧ s.b ≠ p) ∧ (∀ d ∈ done, d.2.2.2.length ≤ 256) ∧ mark.2.2.2.length ≤ 256

section
variable {h h' : Heap} {D D' : Nat → Prop} {p : Nat} {has : Bool} {done : List ED} {mark : ED}
theorem St2.view (S : St2 h D p has done mark) : StV h p has done mark := by
  obtain ⟨qd, m, L, h1, h2, h3, h4, h5, h6, h7, h8, h9, h10, h11⟩ := S
  exact ⟨qd, m, h1, ⟨L, Acc.hasL h4, h5, fun j e d a b => (h6 j e d a b).1⟩, h7, h9, h10⟩
theorem RefS.view (S : RefS h D p has done mark) : StV h p has done mark := by
  obtain ⟨qd, m, L, h1, h2, h3, h4, h5, h6, h7, h8, h9, h10⟩ := S
  exact ⟨qd, m, h1, ⟨L, h4, h5, fun j e d a b => (h6 j e d a b).1⟩, h7, h9, h10⟩
theorem St2.keeps {X : Nat → Prop} (S : St2 h D p has done mark) (K : Keeps X h h') (hX : ∀ b, D b → ¬ X b) (hl : h.length ≤ h'.length) : St2 h' D p has done mark := by
  obtain ⟨qd, m, L, h1, h2, h3, h4, h5, h6, h7, h8, h9, h10, h11⟩ := S
  refine ⟨qd, m, L, K _ _ (hX _ h2) h1, h2, h3, h4.keeps K (fun s hs => hX _ (h3 s hs).1), h5, fun j e d a b => ?_, K.edR (fun s hs => hX _ (h8 s hs).1) h7, h8, h9, h10, fun b hb => by have := h11 b hb; omega⟩
  obtain ⟨r, c⟩ := h6 j e d a b
  exact ⟨K.edR (fun s hs => hX _ (c s hs).1) r, c⟩
/-- Behind a deed of the other state: its blocks are D' now. -/
theorem RefS.keeps (S : RefS h D p has done mark) (K : Keeps D h h') (hD : ∀ b, D' b → D b ∨ h.length ≤ b) : RefS h' D' p has done mark := by
  obtain ⟨qd, m, L, h1, h2, h3, h4, h5, h6, h7, h8, h9, h10⟩ := S
  have no : ∀ b, b < h.length → ¬ D b → ¬ D' b := fun b hb hn hd => by rcases hD b hd with h | h; exact hn h; omega
  have l4 := HasL.live h4
  refine ⟨qd, m, L, K _ _ h2 h1, no _ (lt_of_get h1) h2, fun s hs => ⟨no _ (l4 s hs) (h3 s hs).1, (h3 s hs).2⟩, K.hasL (fun s hs => (h3 s hs).1) h4, h5, fun j e d a b => ?_, K.edR (fun s hs => (h8 s hs).1) h7, fun s hs => ⟨no _ (HasL.live h7.2.2.2 s hs) (h8 s hs).1, (h8 s hs).2⟩, h9, h10⟩
  obtain ⟨r, c⟩ := h6 j e d a b
  exact ⟨K.edR (fun s hs => (c s hs).1) r, fun s hs => ⟨no _ (HasL.live r.2.2.2 s hs) (c s hs).1, (c s hs).2⟩⟩
theorem RefS.ext (S : RefS h D p has done mark) (K : Ext h h') : RefS h' D p has done mark := by
  obtain ⟨qd, m, L, h1, h2, h3, h4, h5, h6, h7, h8, h9, h10⟩ := S
  refine ⟨qd, m, L, K _ _ h1, h2, h3, h4.mono K, h5, fun j e d a b => ?_, ⟨h7.1, h7.2.1, h7.2.2.1, h7.2.2.2.mono K⟩, h8, h9, h10⟩
  obtain ⟨r, c⟩ := h6 j e d a b
  exact ⟨⟨r.1, r.2.1, r.2.2.1, r.2.2.2.mono K⟩, c⟩

variable {Q : AV → Heap → Prop}
theorem v79 (S : StV h p has done mark) {e : EV} {d : ED} (hR : EdR h e d) (hQ : Q (.bool (goes has done mark d)) h) : AC Try.prog 79 [.ptr (some ⟨p, 0⟩), evV e] h Q := ac79 (by
  obtain ⟨qd, m, h1, h2, h3, h7, h8⟩ := S
  obtain ⟨r1, r2, r3, hL⟩ := hR
  have key : ∀ b : Bool, b = goes has done mark d → Q (.bool b) h := fun b hb => hb ▸ hQ
  have hlen := h2.len
  unfold vc79
  refine ⟨qd, cells6 h1 (o := 0) (k := 1) (by simp), ?_⟩
  rw [r1, r2, r3, hlen]
  refine vif_mk (fun g1 => key _ ?_) fun g1 => vif_mk (fun g2 => key _ ?_) fun g2 => ?_
  · have : (d.2.1 == (done.length : Int)) = false := by simpa using g1
    simp [goes, this]
  · have : (d.2.1 == (done.length : Int)) = true := by simpa using g1
    simp [goes, this, g2]
  · have e1 : (d.2.1 == (done.length : Int)) = true := by simpa using g1
    refine ⟨has, cells6 h1 (o := 5) (k := 1) (by simp), ?_⟩
    refine vif_mk (fun g3 => key _ ?_) fun g3 => ?_
    · simp [goes, e1, g3]
    · refine ⟨m.2.2.1, ?_, key _ ?_⟩
      · have := cells6 h1 (o := 3) (k := 1) (by simp)
        simpa using this
      · have h3' : m.2.2.1 = mark.2.2.1 := h3.2.2.1
        simp [goes, e1, g2, g3, h3'])

/-- What Apply answers. -/
def resV (has : Bool) (done : List ED) (mark : ED) (d : ED) : Int := if chk d then (if goes has done mark d then 0 else 1) else 140

/-- The engine's Apply. -/
theorem v23 (S : St2 h D p has done mark) {e : EV} {d : ED} (hR : EdR h e d) (hp : ∀ s, e.2.2.2 = some s → ¬ D s.b) (hd : done.length ≤ 100)
    (hno : (chk d && goes has done mark d) = false → Q (.int .i64 (resV has done mark d)) h)
    (hgo : ∀ h' D', (chk d && goes has done mark d) = true → St2 h' D' p (nHas d) (nDone done d) (nMark d) → (∀ b, D' b → D b ∨ h.length ≤ b) → Keeps D h h' → h.length ≤ h'.length → Q (.int .i64 0) h') : AC Try.prog 23 [.ptr (some ⟨p, 0⟩), evV e] h Q := ac23 (by
  have S0 := S.view
  obtain ⟨qd, m, L, h1, h2, h3, h4, h5, h6, h7, h8, h9, h10, h11⟩ := S
  have r1 : e.1 = d.1 := hR.1
  unfold vc23
  refine u18 (e := e) hR ⟨_, rfl, ?_⟩
  cases hc : chk d with
  | false =>
    simp only [hc, Bool.false_eq_true, if_false, resV, Bool.false_and] at hno ⊢
    exact hno trivial
  | true =>
  simp only [if_true]
  refine v79 S0 (e := e) hR ⟨_, rfl, vif_mk (fun g2 => ?_) fun g2 => ?_⟩
  · simp only [Bool.not_eq_true'] at g2
    simp only [hc, g2, resV, if_true, Bool.false_eq_true, if_false, Bool.and_false] at hno
    exact hno trivial
  have hg : goes has done mark d = true := by simpa using g2
  have hyes : (chk d && goes has done mark d) = true := by rw [hc, hg]; rfl
  have hrefs : d.2.2.2.length ≤ 256 := by
    simp only [chk, Bool.and_eq_true, decide_eq_true_eq] at hc
    exact hc.1.2
  have hep : ∀ s, e.2.2.2 = some s → s.b ≠ p := fun s hs he => hp s hs (he ▸ h2)
  have hpl := lt_of_get h1
  refine store6v h1 (o := 1) ?_ ?_
  · simp
  have b1 : (h.set p (.cells (splice [.sl qd, .int .i64 m.1, .int .i64 m.2.1, .int .i64 m.2.2.1, .sl m.2.2.2, .bool has] 1 [.int .i64 0, .int .i64 0, .int .i64 0, .sl none]) true))[p]? = some (.cells [.sl qd, .int .i64 0, .int .i64 0, .int .i64 0, .sl none, .bool has] true) := by
    rw [List.getElem?_set_self hpl]; rfl
  refine store6v b1 (o := 5) ?_ ?_
  · simp
  rw [List.set_set]
  have e15 : splice [AV.sl qd, .int .i64 0, .int .i64 0, .int .i64 0, .sl none, .bool has] 5 [.bool false] = [.sl qd, .int .i64 0, .int .i64 0, .int .i64 0, .sl none, .bool false] := rfl
  rw [e15]
  generalize hh15 : h.set p (.cells [.sl qd, .int .i64 0, .int .i64 0, .int .i64 0, .sl none, .bool false] true) = h15
  have K15 : Keeps (fun b => b = p) h h15 := by rw [← hh15]; exact keeps_set rfl
  have l15 : h15.length = h.length := by rw [← hh15]; simp
  have p15 : h15[p]? = some (.cells [.sl qd, .int .i64 0, .int .i64 0, .int .i64 0, .sl none, .bool false] true) := by rw [← hh15, List.getElem?_set_self hpl]
  have R15 : EdR h15 e d := K15.edR (fun s hs => hep s hs) hR
  have G15 : Grow edE h15 qd L := h4.keeps K15 (fun s hs => (h3 s hs).2)
  have F15 : Keeps D h h15 := fun b B hb hB => K15 b B (fun he => hb (he ▸ h2)) hB
  have each15 : ∀ (j : Nat) (x : EV) (y : ED), L[j]? = some x → done[j]? = some y → EdR h15 x y ∧ ∀ s, x.2.2.2 = some s → D s.b ∧ s.b ≠ p ∧ ∀ s', qd = some s' → s.b ≠ s'.b := by
    intro j x y a b
    obtain ⟨r, c⟩ := h6 j x y a b
    exact ⟨K15.edR (fun s hs => (c s hs).2.1) r, c⟩
  have hz : evV e = .agg [.int .i64 d.1, .int .i64 e.2.1, .int .i64 e.2.2.1, .sl e.2.2.2] := by rw [← r1]
  rw [r1]
  refine vif_mk (fun g3 => ?_) (fun g3 => ?_)
  · refine ⟨qd, cells6 p15 (o := 0) (k := 1) (by simp), ?_⟩
    rw [← hz]
    refine t80 (e := e) R15 hrefs fun e' h19 hx hR2 hs q1 q2 q3 => ⟨e'.1, e'.2.1, e'.2.2.1, e'.2.2.2, rfl, ⟨qd, cells6 (hx _ _ p15) (o := 0) (k := 1) (by simp), rfl⟩, ?_⟩
    have hl19 := hx.len
    unfold PNew
    have hx2 : Ext h19 (h19 ++ [.cells [.int .i64 e'.1, .int .i64 e'.2.1, .int .i64 e'.2.2.1, .sl e'.2.2.2] true]) := .app _ _
    refine ⟨⟨qd, cells6 (hx2 _ _ (hx _ _ p15)) (o := 0) (k := 1) (by simp), rfl⟩, ?_⟩
    have G25 : Grow edE (h19 ++ [.cells [.int .i64 e'.1, .int .i64 e'.2.1, .int .i64 e'.2.2.1, .sl e'.2.2.2] true]) qd L := Acc.mono (Acc.mono G15 hx) hx2
    have hsrc : HasL edE (h19 ++ [.cells [.int .i64 e'.1, .int .i64 e'.2.1, .int .i64 e'.2.2.1, .sl e'.2.2.2] true]) (some ⟨h19.length, 0, 1, 1, 0⟩) [e'] := HasL.new (E := edE) (l := [e']) rfl (by simp [Enc.all, edE])
    refine Grow.append (E := edE) G25 hsrc (by simp; omega) fun q2 h27 G27 K27 hl27 hq27 => ?_
    have live0 := HasL.live (Acc.hasL h4)
    have hl25 : (h19 ++ [Blk.cells [.int .i64 e'.1, .int .i64 e'.2.1, .int .i64 e'.2.2.1, .sl e'.2.2.2] true]).length = h19.length + 1 := by simp
    have hpq : ¬ ∃ s, qd = some s ∧ s.b = p := fun ⟨s, hs, he⟩ => (h3 s hs).2 he
    have p27 : h27[p]? = some (.cells [.sl qd, .int .i64 0, .int .i64 0, .int .i64 0, .sl none, .bool false] true) := K27 _ _ hpq (hx2 _ _ (hx _ _ p15))
    have hpl27 := lt_of_get p27
    have hq2 : ∀ s', q2 = some s' → h19.length < s'.b + 1 ∧ h.length ≤ s'.b ∨ (∃ s, qd = some s ∧ s.b = s'.b) := by
      intro s' hs'
      rcases hq27 s' hs' with a | a
      · rw [hl25] at a; left; omega
      · exact .inr a
    have hne2 : ∀ b, b < h19.length → (∀ s', qd = some s' → b ≠ s'.b) → ∀ s', q2 = some s' → b ≠ s'.b := by
      intro b hb hn s' hs' he
      rcases hq27 s' hs' with a | ⟨s, a1, a2⟩
      · rw [hl25] at a; omega
      · exact hn s a1 (he.trans a2.symm)
    have K1527 : Keeps (fun b => ∃ s, qd = some s ∧ s.b = b) h15 h27 := (keeps_of_ext (hx.trans hx2)).trans K27
    refine store6v p27 (o := 0) ?_ ?_
    · simp
    have Kset : Keeps (fun b => b = p) h27 (h27.set p (.cells (splice [.sl qd, .int .i64 0, .int .i64 0, .int .i64 0, .sl none, .bool false] 0 [.sl q2]) true)) := keeps_set rfl
    have g3' : (d.1 == 2) = true := g3
    have e1 : nHas d = false := by simp [nHas, g3']
    have e2 : nDone done d = done ++ [d] := by simp [nDone, g3']
    have e3 : nMark d = zeroD := by simp [nMark, g3']
    have fin : ∀ (x : EV) (y : ED), EdR h27 x y → (∀ s, x.2.2.2 = some s → s.b ≠ p) → EdR (h27.set p (.cells (splice [.sl qd, .int .i64 0, .int .i64 0, .int .i64 0, .sl none, .bool false] 0 [.sl q2]) true)) x y := fun x y r c => Kset.edR (fun s hs => c s hs) r
    refine hgo _ (fun b => D b ∨ (h.length ≤ b ∧ b < h27.length)) hyes ?_ (fun b hb => hb.imp id And.left) ?_ (by simp; omega)
    · rw [e1, e2, e3]
      refine ⟨q2, zeroV, L ++ [e'], ?_, .inl h2, ?_, G27.keeps Kset ?_, by simp [h5], ?_, ⟨rfl, rfl, rfl, rfl⟩, fun s hs => (by cases hs), ?_, by simp, ?_⟩
      · rw [List.getElem?_set_self hpl27]; rfl
      · intro s hs
        have hlv := HasL.live (Acc.hasL G27) s hs
        rcases hq2 s hs with a | ⟨s0, a1, a2⟩
        · exact ⟨.inr ⟨a.2, hlv⟩, by omega⟩
        · rw [← a2]; exact ⟨.inl (h3 s0 a1).1, (h3 s0 a1).2⟩
      · intro s hs he
        rcases hq2 s hs with a | ⟨s0, a1, a2⟩
        · omega
        · exact (h3 s0 a1).2 (a2.trans he)
      · intro j x y hj hy
        rw [List.getElem?_append] at hj hy
        split at hj
        · rw [if_pos (by omega)] at hy
          obtain ⟨r, c⟩ := each15 j x y hj hy
          have rl := HasL.live r.2.2.2
          refine ⟨fin x y (K1527.edR (fun s hs ⟨s', a1, a2⟩ => (c s hs).2.2 s' a1 a2.symm) r) (fun s hs => (c s hs).2.1), fun s hs => ⟨.inl (c s hs).1, (c s hs).2.1, hne2 _ (by have := rl s hs; omega) (c s hs).2.2⟩⟩
        · rw [if_neg (by omega)] at hy
          have j0 : j - L.length = 0 := by have := lt_of_get hj; simp at this; omega
          have y0 : j - done.length = 0 := by omega
          rw [j0] at hj
          rw [y0] at hy
          simp at hj hy
          subst hj hy
          have rl := HasL.live hR2.2.2.2
          have hfr : ∀ s, e'.2.2.2 = some s → ∀ s', qd = some s' → s.b ≠ s'.b := fun s hs' s' hs2 => by have := hs s hs'; have := live0 s' hs2; omega
          refine ⟨fin _ _ (((keeps_of_ext hx2).trans K27).edR (fun s hs' ⟨s', a1, a2⟩ => hfr s hs' s' a1 a2.symm) hR2) (fun s hs' => by have := hs s hs'; omega), fun s hs' => ⟨.inr ⟨by have := hs s hs'; omega, by have := rl s hs'; omega⟩, by have := hs s hs'; omega, hne2 _ (rl s hs') (hfr s hs')⟩⟩
      · intro x hx'
        rcases List.mem_append.1 hx' with hx' | hx'
        · exact h9 x hx'
        · simp at hx'; subst hx'; exact hrefs
      · intro b hb
        rcases hb with hb | hb
        · have := h11 b hb; simp; omega
        · simp; omega
    · intro b B hb hB
      have hbp : b ≠ p := fun he => hb (he ▸ h2)
      rw [List.getElem?_set, if_neg (Ne.symm hbp)]
      exact K1527 b B (fun ⟨s, a1, a2⟩ => hb (a2 ▸ (h3 s a1).1)) (F15 b B hb hB)
  · rw [← hz]
    refine t80 (e := e) R15 hrefs fun e' h33 hx hR2 hs q1 q2 q3 => ⟨e'.1, e'.2.1, e'.2.2.1, e'.2.2.2, rfl, ?_⟩
    have p33 := hx _ _ p15
    have hpl33 := lt_of_get p33
    have hl33 := hx.len
    refine store6v p33 (o := 1) ?_ ?_
    · simp
    have b39 : (h33.set p (.cells (splice [.sl qd, .int .i64 0, .int .i64 0, .int .i64 0, .sl none, .bool false] 1 [.int .i64 e'.1, .int .i64 e'.2.1, .int .i64 e'.2.2.1, .sl e'.2.2.2]) true))[p]? = some (.cells [.sl qd, .int .i64 e'.1, .int .i64 e'.2.1, .int .i64 e'.2.2.1, .sl e'.2.2.2, .bool false] true) := by
      rw [List.getElem?_set_self hpl33]; rfl
    refine store6v b39 (o := 5) ?_ ?_
    · simp
    rw [List.set_set]
    have hsub : Keeps (fun b => b = p) h33 (h33.set p (.cells (splice [.sl qd, .int .i64 e'.1, .int .i64 e'.2.1, .int .i64 e'.2.2.1, .sl e'.2.2.2, .bool false] 5 [.bool true]) true)) := keeps_set rfl
    have g3' : (d.1 == 2) = false := g3
    have e1 : nHas d = true := by simp [nHas, g3']
    have e2 : nDone done d = done := by simp [nDone, g3']
    have e3 : nMark d = d := by simp [nMark, g3']
    have live0 := HasL.live (Acc.hasL h4)
    have rl := HasL.live hR2.2.2.2
    refine hgo _ (fun b => D b ∨ (h.length ≤ b ∧ b < h33.length)) hyes ?_ (fun b hb => hb.imp id And.left) ?_ (by simp; omega)
    · rw [e1, e2, e3]
      refine ⟨qd, e', L, ?_, .inl h2, fun s hs => ⟨.inl (h3 s hs).1, (h3 s hs).2⟩, Grow.keeps (h := h33) (Acc.mono G15 hx) hsub (fun s hs => (h3 s hs).2), h5, ?_, hsub.edR (fun s hs' => by have := hs s hs'; omega) hR2, ?_, h9, hrefs, ?_⟩
      · rw [List.getElem?_set_self hpl33]; rfl
      · intro j x y hj hy
        obtain ⟨r, c⟩ := each15 j x y hj hy
        exact ⟨hsub.edR (fun s hs => (c s hs).2.1) ⟨r.1, r.2.1, r.2.2.1, r.2.2.2.mono hx⟩, fun s hs => ⟨.inl (c s hs).1, (c s hs).2⟩⟩
      · intro s hs'
        have a1 := hs s hs'
        exact ⟨.inr ⟨by omega, rl s hs'⟩, by omega, fun s' hs2 => by have := live0 s' hs2; omega⟩
      · intro b hb
        rcases hb with hb | hb
        · have := h11 b hb; simp; omega
        · simp; omega
    · intro b B hb hB
      have hbp : b ≠ p := fun he => hb (he ▸ h2)
      rw [List.getElem?_set, if_neg (Ne.symm hbp)]
      exact hx _ _ (F15 b B hb hB))
end
end Go.Proofs.Ytceplmmmlindnaa
