/- The document's Check; what goes on in a state, with an exact frame. -/
import Derived.Test.YtceplmmmlindnaaDG15
namespace Go.Proofs.Ytceplmmmlindnaa
open Go.Ab
set_option linter.unusedVariables false
set_option linter.unusedSimpArgs false

section
variable {h : Heap} {Q : AV → Heap → Prop} {p : Nat} {has : Bool} {done : List ED} {mark : ED}

theorem loop17 {q : Option SL} {l : List Rf} (hL : HasL refE h q l) (hl : l.length ≤ 256) {kp : Prop} (hkp : kp) (hQ : Q (.bool (l.all refOk)) h) :
 ∃ (I9 : List AV → Heap → Prop) (m10 : List AV → Heap → Nat), I9 [.int .i64 0] h ∧
 ∀ n8 : Int, ∀ h11 : Heap, I9 [.int .i64 n8] h11 →
 vif (decide (n8 < (slLen q : Int)))
 (vIdx q n8 3 fun p12 =>
 ∃ s13 : List UInt8, ∃ n14 : Int, ∃ n15 : Int, cellsAt h11 p12 3 = some [.str s13, .int .i64 n14, .int .i64 n15] ∧
 vif (decide ((s13.length : Int) < 1))
 (Q (.bool false) h11)
 (vif (decide ((s13.length : Int) > 24))
 (Q (.bool false) h11)
 (vif (decide (n14 < 1))
 (Q (.bool false) h11)
 (vif (decide (n14 > 2305843009213693952))
 (Q (.bool false) h11)
 (vif (decide (n15 < 0))
 (Q (.bool false) h11)
 (vif (decide (n15 > 16384))
 (Q (.bool false) h11)
 (kp ∧ I9 [.int .i64 (wrapK .i64 (n8 + 1))] h11 ∧ m10 [.int .i64 (wrapK .i64 (n8 + 1))] h11 < m10 [.int .i64 n8] h11)))))))
 (Q (.bool true) h11) := by
  have hlen := hL.len
  refine ⟨fun xs h9 => h9 = h ∧ ∃ i : Nat, xs = [.int .i64 i] ∧ i ≤ l.length ∧ (l.take i).all refOk = true, fun xs _ => match xs with | [.int _ i] => (l.length - i).toNat | _ => 0, ⟨rfl, 0, rfl, by omega, by simp⟩, ?_⟩
  rintro i h9 ⟨rfl, i', hx, h0, hall⟩
  simp only [List.cons.injEq, AV.int.injEq, true_and, and_true] at hx
  subst hx
  refine vif_mk (fun h1 => ?_) (fun h1 => ?_)
  · simp only [decide_eq_true_eq] at h1
    refine hL.idx (by omega) (by omega) fun pp x hx hc => ?_
    have hx' : l[i']? = some x := by simpa using hx
    refine ⟨x.1, x.2.1, x.2.2, hc, ?_⟩
    have bad : refOk x = false → Q (.bool false) h9 := by
      intro hb
      have : l.all refOk = false := by rw [List.all_eq_false]; exact ⟨x, List.mem_of_getElem? hx', by simpa using hb⟩
      rw [this] at hQ; exact hQ
    refine vif_mk (fun g1 => bad ?_) fun g1 => vif_mk (fun g2 => bad ?_) fun g2 => vif_mk (fun g3 => bad ?_) fun g3 => vif_mk (fun g4 => bad ?_) fun g4 => vif_mk (fun g5 => bad ?_) fun g5 => vif_mk (fun g6 => bad ?_) fun g6 => ?_
    all_goals simp only [decide_eq_true_eq, decide_eq_false_iff_not] at g1
    rotate_right
    · simp only [decide_eq_false_iff_not] at g2 g3 g4 g5 g6
      have hok : refOk x = true := by
        unfold refOk
        have e1 : decide (1 ≤ x.1.length) = true := by simp; omega
        have e2 : decide (x.1.length ≤ 24) = true := by simp; omega
        have e3 : decide (1 ≤ x.2.1) = true := by simp; omega
        have e4 : decide (x.2.1 ≤ 2305843009213693952) = true := by simp; omega
        have e5 : decide (0 ≤ x.2.2) = true := by simp; omega
        have e6 : decide (x.2.2 ≤ 16384) = true := by simp; omega
        rw [e1, e2, e3, e4, e5, e6]; rfl
      rw [wrapK_i64 ⟨by omega, by omega⟩]
      refine ⟨hkp, ⟨rfl, i' + 1, by simp, by omega, take_succ_all hx' hall hok⟩, ?_⟩
      simp only; omega
    all_goals
      unfold refOk
      simp only [decide_eq_true_eq, decide_eq_false_iff_not, Bool.and_eq_false_iff] at *
      omega
  · simp only [decide_eq_false_iff_not] at h1
    have : i' = l.length := by omega
    subst this
    rw [List.take_length] at hall
    rw [hall] at hQ; exact hQ

/-- The document's Check. -/
theorem u17 {e : EV} {d : ED} (hR : EdR h e d) (hQ : Q (.bool (chk d)) h) : AC Try.prog 17 [evV e] h Q := ac17 (by
  obtain ⟨r1, r2, r3, hL⟩ := hR
  have hlen := hL.len
  have key : ∀ x : Bool, x = chk d → Q (.bool x) h := fun x hx => hx ▸ hQ
  unfold vc17
  rw [r1, r2, r3]
  have fin : (d.1 == 1 || (d.1 == 2 && d.2.2.1 == 0)) = true → atOk d.2.1 d.2.2.1 = true → decide ((slLen e.2.2.2 : Int) > 256) = false → Q (.bool (d.2.2.2.all refOk)) h := by
    intro g1 g2 g3
    refine key _ ?_
    simp only [decide_eq_false_iff_not] at g3
    have e3 : decide (d.2.2.2.length ≤ 256) = true := by simp; omega
    unfold chk
    rw [g1, g2, e3]; simp
  have h256 : decide ((slLen e.2.2.2 : Int) > 256) = true → chk d = false := by
    intro g
    simp only [decide_eq_true_eq] at g
    have e3 : decide (d.2.2.2.length ≤ 256) = false := by simp; omega
    simp [chk, e3]
  have hl' : decide ((slLen e.2.2.2 : Int) > 256) = false → d.2.2.2.length ≤ 256 := by
    intro g; simp only [decide_eq_false_iff_not] at g; omega
  refine vif_mk (fun g1 => vif_mk (fun g2 => key _ ?_) fun g2 => u64 ⟨_, rfl, ?_⟩) fun g1 => u64 ⟨_, rfl, ?_⟩
  · have e1 : (d.1 == 1) = false := by simpa using g1
    have e2 : (d.1 == 2) = false := by simpa using g2
    unfold chk; rw [e1, e2]; simp
  · have e2 : (d.1 == 2) = true := by simpa using g2
    refine vif_mk (fun g3 => key _ ?_) fun g3 => ?_
    · simp only [Bool.not_eq_true'] at g3; simp [chk, g3]
    have e3 : atOk d.2.1 d.2.2.1 = true := by simpa using g3
    refine vif_mk (fun _ => ?_) fun g4 => (by rw [e2] at g4; cases g4)
    refine vif_mk (fun g5 => key _ ?_) fun g5 => ?_
    · have e1 : (d.1 == 1) = false := by simpa using g1
      have e5 : (d.2.2.1 == 0) = false := by simpa using g5
      unfold chk; rw [e1, e5]; simp
    have e5 : (d.2.2.1 == 0) = true := by simpa using g5
    refine vif_mk (fun g6 => key _ (h256 g6).symm) fun g6 => ?_
    exact loop17 hL (hl' g6) ⟨rfl, trivial⟩ (fin (by rw [e2, e5]; simp) e3 g6)
  · have e1 : (d.1 == 1) = true := by simpa using g1
    have e2 : (d.1 == 2) = false := by
      have : d.1 = 1 := by simpa using e1
      rw [this]; rfl
    refine vif_mk (fun g3 => key _ ?_) fun g3 => ?_
    · simp only [Bool.not_eq_true'] at g3; simp [chk, g3]
    have e3 : atOk d.2.1 d.2.2.1 = true := by simpa using g3
    refine vif_mk (fun g4 => (by rw [e2] at g4; cases g4)) fun _ => ?_
    refine vif_mk (fun g6 => key _ (h256 g6).symm) fun g6 => ?_
    exact loop17 hL (hl' g6) ⟨rfl, trivial⟩ (fin (by rw [e1]; rfl) e3 g6))
end
end Go.Proofs.Ytceplmmmlindnaa

/- States with an exact frame: the engine's Apply, the document's. -/
namespace Go.Proofs.Ytceplmmmlindnaa
open Go.Ab
set_option linter.unusedVariables false
set_option linter.unusedSimpArgs false

section
variable {h : Heap} {Q : AV → Heap → Prop}
/-- Check. -/
theorem u18 {e : EV} {d : ED} (hR : EdR h e d) (hQ1 : Q (.int .i64 (if chk d then 0 else 140)) h) : AC Try.prog 18 [evV e] h Q := ac18 (by
  have hQ : ∀ n : Int, (n = 0 ∨ n = 140) → (n = 0 ↔ chk d = true) → Q (.int .i64 n) h := by
    intro n h1 h2
    cases hc : chk d with
    | true => rw [hc] at hQ1; have := h2.2 hc; subst this; exact hQ1
    | false =>
      rw [hc] at hQ1
      have : n = 140 := h1.resolve_left (fun h0 => by have := h2.1 h0; rw [hc] at this; cases this)
      subst this; exact hQ1
  obtain ⟨r1, r2, r3, hL⟩ := hR
  have hlen := hL.len
  unfold vc18
  rw [r1, r2, r3]
  have rest : (d.1 == 1 || (d.1 == 2 && d.2.2.1 == 0)) = true → ∀ n : Int, (n = 0 ↔ atOk d.2.1 d.2.2.1 = true) → vif (n != 0) (Q (.int .i64 140) h) (vif (decide ((slLen e.2.2.2 : Int) > 256)) (Q (.int .i64 140) h)
      (AC Try.prog 68 [.sl e.2.2.2, .func (.func 65) [] []] h fun v8 h9 => ∃ b10 : Bool, v8 = .bool b10 ∧ vif b10 (Q (.int .i64 140) h9) (Q (.int .i64 0) h9))) := by
    intro hk n hn
    refine vif_mk (fun h1 => hQ _ (by simp) ?_) fun h1 => vif_mk (fun h2 => hQ _ (by simp) ?_) fun h2 => ?_
    · have : atOk d.2.1 d.2.2.1 = false := by
        cases ha : atOk d.2.1 d.2.2.1
        · rfl
        · have := hn.2 ha; subst this; simp at h1
      simp [chk, this]
    · simp only [decide_eq_true_eq] at h2
      have : decide (d.2.2.2.length ≤ 256) = false := by simp; omega
      simp [chk, this]
    · simp only [decide_eq_false_iff_not] at h2
      refine t68 hL (by omega) ⟨_, rfl, ?_⟩
      have ha : atOk d.2.1 d.2.2.1 = true := hn.1 (by simpa using h1)
      have hl : decide (d.2.2.2.length ≤ 256) = true := by simp; omega
      cases hall : d.2.2.2.all refOk
      · exact hQ _ (by simp) (by simp [chk, hall])
      · exact hQ _ (by simp) (by unfold chk; rw [hk, ha, hl, hall]; simp)
  refine vif_mk (fun h1 => ?_) fun h1 => vif_mk (fun h2 => vif_mk (fun h3 => hQ _ (by simp) ?_) fun h3 => ?_) fun h2 => hQ _ (by simp) ?_
  · refine t67 fun n hn => ⟨n, rfl, rest ?_ n hn⟩
    rw [h1]; rfl
  · have e3 : (d.2.2.1 == 0) = false := by simpa using h3
    unfold chk
    rw [h1, e3]; simp
  · refine t67 fun n hn => ⟨n, rfl, rest ?_ n hn⟩
    have e3 : (d.2.2.1 == 0) = true := by simpa using h3
    rw [h2, e3]; simp
  · unfold chk
    rw [h1, h2]; simp)
end

/-- A state whose blocks are those of D. -/
def St2 (h : Heap) (D : Nat → Prop) (p : Nat) (has : Bool) (done : List ED) (mark : ED) : Prop :=
  ∃ (qd : Option SL) (m : EV) (L : List EV), h[p]? = some (.cells [.sl qd, .int .i64 m.1, .int .i64 m.2.1, .int .i64 m.2.2.1, .sl m.2.2.2, .bool has] true) ∧ D p ∧ (∀ s, qd = some s → D s.b ∧ s.b ≠ p) ∧ Grow edE h qd L ∧ L.length = done.length ∧
    (∀ (j : Nat) (e : EV) (d : ED), L[j]? = some e → done[j]? = some d → EdR h e d ∧ ∀ s, e.2.2.2 = some s → D s.b ∧ s.b ≠ p ∧ ∀ s', qd = some s' → s.b ≠ s'.b) ∧
    EdR h m mark ∧ (∀ s, m.2.2.2 = some s → D s.b ∧ s.b ≠ p ∧ ∀ s', qd = some s' → s.b ≠ s'.b) ∧ (∀ d ∈ done, d.2.2.2.length ≤ 256) ∧ mark.2.2.2.length ≤ 256 ∧ ∀ b, D b → b < h.length
/-- A state that has no block of D. -/
def RefS (h : Heap) (D : Nat → Prop) (p : Nat) (has : Bool) (done : List ED) (mark : ED) : Prop :=
  ∃ (qd : Option SL) (m : EV) (L : List EV), h[p]? = some (.cells [.sl qd, .int .i64 m.1, .int .i64 m.2.1, .int .i64 m.2.2.1, .sl m.2.2.2, .bool has] true) ∧ ¬ D p ∧ (∀ s, qd = some s → ¬ D s.b ∧ s.b ≠ p) ∧ HasL edE h qd L ∧ L.length = done.length ∧
    (∀ (j : Nat) (e : EV) (d : ED), L[j]? = some e → done[j]? = some d → EdR h e d ∧ ∀ s, e.2.2.2 = some s → ¬ D s.b ∧ s.b ≠ p) ∧
    EdR h m mark ∧ (∀ s, m.2.2.2 = some s → ¬ D s.b ∧ s.b ≠ p) ∧ (∀ d ∈ done, d.2.2.2.length ≤ 256) ∧ mark.2.2.2.length ≤ 256

section
variable {h h' : Heap} {D D' : Nat → Prop} {p : Nat} {has : Bool} {done : List ED} {mark : ED}
theorem St2.view (S : St2 h D p has done mark) : StV h p has done mark := by
  obtain ⟨qd, m, L, h1, h2, h3, h4, h5, h6, h7, h8, h9, h10, h11⟩ := S
  exact ⟨qd, m, h1, ⟨L, Acc.hasL h4, h5, fun j e d a b => (h6 j e d a b).1⟩, h7, h9, h10⟩
theorem RefS.view (S : RefS h D p has done mark) : StV h p has done mark := by
  obtain ⟨qd, m, L, h1, h2, h3, h4, h5, h6, h7, h8, h9, h10⟩ := S
  exact ⟨qd, m, h1, ⟨L, h4, h5, fun j e d a b => (h6 j e d a b).1⟩, h7, h9, h10⟩
theorem St2.keeps {X : Nat → Prop} (S : St2 h D p has done mark) (K : Keeps X h h') (hX : ∀ b, D b → ¬ X b) (hl : h.length ≤ h'.length) : St2 h' D p has done mark := by
  obtain ⟨qd, m, L, h1, h2, h3, h4, h5, h6, h7, h8, h9, h10, h11⟩ := S
  refine ⟨qd, m, L, K _ _ (hX _ h2) h1, h2, h3, h4.keeps K (fun s hs => hX _ (h3 s hs).1), h5, fun j e d a b => ?_, K.edR (fun s hs => hX _ (h8 s hs).1) h7, h8, h9, h10, fun b hb => by have := h11 b hb; omega⟩
  obtain ⟨r, c⟩ := h6 j e d a b
  exact ⟨K.edR (fun s hs => hX _ (c s hs).1) r, c⟩
/-- Behind a deed of the other state: its blocks are D' now. -/
theorem RefS.keeps (S : RefS h D p has done mark) (K : Keeps D h h') (hD : ∀ b, D' b → D b ∨ h.length ≤ b) : RefS h' D' p has done mark := by
  obtain ⟨qd, m, L, h1, h2, h3, h4, h5, h6, h7, h8, h9, h10⟩ := S
  have no : ∀ b, b < h.length → ¬ D b → ¬ D' b := fun b hb hn hd => by rcases hD b hd with h | h; exact hn h; omega
  have l4 := HasL.live h4
  refine ⟨qd, m, L, K _ _ h2 h1, no _ (lt_of_get h1) h2, fun s hs => ⟨no _ (l4 s hs) (h3 s hs).1, (h3 s hs).2⟩, K.hasL (fun s hs => (h3 s hs).1) h4, h5, fun j e d a b => ?_, K.edR (fun s hs => (h8 s hs).1) h7, fun s hs => ⟨no _ (HasL.live h7.2.2.2 s hs) (h8 s hs).1, (h8 s hs).2⟩, h9, h10⟩
  obtain ⟨r, c⟩ := h6 j e d a b
  exact ⟨K.edR (fun s hs => (c s hs).1) r, fun s hs => ⟨no _ (HasL.live r.2.2.2 s hs) (c s hs).1, (c s hs).2⟩⟩
theorem RefS.ext (S : RefS h D p has done mark) (K : Ext h h') : RefS h' D p has done mark := by
  obtain ⟨qd, m, L, h1, h2, h3, h4, h5, h6, h7, h8, h9, h10⟩ := S
  refine ⟨qd, m, L, K _ _ h1, h2, h3, h4.mono K, h5, fun j e d a b => ?_, ⟨h7.1, h7.2.1, h7.2.2.1, h7.2.2.2.mono K⟩, h8, h9, h10⟩
  obtain ⟨r, c⟩ := h6 j e d a b
  exact ⟨⟨r.1, r.2.1, r.2.2.1, r.2.2.2.mono K⟩, c⟩

variable {Q : AV → Heap → Prop}
theorem v79 (S : StV h p has done mark) {e : EV} {d : ED} (hR : EdR h e d) (hQ : Q (.bool (goes has done mark d)) h) : AC Try.prog 79 [.ptr (some ⟨p, 0⟩), evV e] h Q := ac79 (by
  obtain ⟨qd, m, h1, h2, h3, h7, h8⟩ := S
  obtain ⟨r1, r2, r3, hL⟩ := hR
  have key : ∀ b : Bool, b = goes has done mark d → Q (.bool b) h := fun b hb => hb ▸ hQ
  have hlen := h2.len
  unfold vc79
  refine ⟨qd, cells6 h1 (o := 0) (k := 1) (by simp), ?_⟩
  rw [r1, r2, r3, hlen]
  refine vif_mk (fun g1 => key _ ?_) fun g1 => vif_mk (fun g2 => key _ ?_) fun g2 => ?_
  · have : (d.2.1 == (done.length : Int)) = false := by simpa using g1
    simp [goes, this]
  · have : (d.2.1 == (done.length : Int)) = true := by simpa using g1
    simp [goes, this, g2]
  · have e1 : (d.2.1 == (done.length : Int)) = true := by simpa using g1
    refine ⟨has, cells6 h1 (o := 5) (k := 1) (by simp), ?_⟩
    refine vif_mk (fun g3 => key _ ?_) fun g3 => ?_
    · simp [goes, e1, g3]
    · refine ⟨m.2.2.1, ?_, key _ ?_⟩
      · have := cells6 h1 (o := 3) (k := 1) (by simp)
        simpa using this
      · have h3' : m.2.2.1 = mark.2.2.1 := h3.2.2.1
        simp [goes, e1, g2, g3, h3'])

/-- What Apply answers. -/
def resV (has : Bool) (done : List ED) (mark : ED) (d : ED) : Int := if chk d then (if goes has done mark d then 0 else 1) else 140

/-- The engine's Apply. -/
theorem v23 (S : St2 h D p has done mark) {e : EV} {d : ED} (hR : EdR h e d) (hp : ∀ s, e.2.2.2 = some s → ¬ D s.b) (hd : done.length ≤ 100)
    (hno : (chk d && goes has done mark d) = false → Q (.int .i64 (resV has done mark d)) h)
    (hgo : ∀ h' D', (chk d && goes has done mark d) = true → St2 h' D' p (nHas d) (nDone done d) (nMark d) → (∀ b, D' b → D b ∨ h.length ≤ b) → Keeps D h h' → h.length ≤ h'.length → Q (.int .i64 0) h') : AC Try.prog 23 [.ptr (some ⟨p, 0⟩), evV e] h Q := ac23 (by
  have S0 := S.view
  obtain ⟨qd, m, L, h1, h2, h3, h4, h5, h6, h7, h8, h9, h10, h11⟩ := S
  have r1 : e.1 = d.1 := hR.1
  unfold vc23
  refine u18 (e := e) hR ⟨_, rfl, ?_⟩
  cases hc : chk d with
  | false =>
    simp only [hc, Bool.false_eq_true, if_false, resV, Bool.false_and] at hno ⊢
    exact hno trivial
  | true =>
  simp only [if_true]
  refine v79 S0 (e := e) hR ⟨_, rfl, vif_mk (fun g2 => ?_) fun g2 => ?_⟩
  · simp only [Bool.not_eq_true'] at g2
    simp only [hc, g2, resV, if_true, Bool.false_eq_true, if_false, Bool.and_false] at hno
    exact hno trivial
  have hg : goes has done mark d = true := by simpa using g2
  have hyes : (chk d && goes has done mark d) = true := by rw [hc, hg]; rfl
  have hrefs : d.2.2.2.length ≤ 256 := by
    simp only [chk, Bool.and_eq_true, decide_eq_true_eq] at hc
    exact hc.1.2
  have hep : ∀ s, e.2.2.2 = some s → s.b ≠ p := fun s hs he => hp s hs (he ▸ h2)
  have hpl := lt_of_get h1
  refine store6v h1 (o := 1) ?_ ?_
  · simp
  have b1 : (h.set p (.cells (splice [.sl qd, .int .i64 m.1, .int .i64 m.2.1, .int .i64 m.2.2.1, .sl m.2.2.2, .bool has] 1 [.int .i64 0, .int .i64 0, .int .i64 0, .sl none]) true))[p]? = some (.cells [.sl qd, .int .i64 0, .int .i64 0, .int .i64 0, .sl none, .bool has] true) := by
    rw [List.getElem?_set_self hpl]; rfl
  refine store6v b1 (o := 5) ?_ ?_
  · simp
  rw [List.set_set]
  have e15 : splice [AV.sl qd, .int .i64 0, .int .i64 0, .int .i64 0, .sl none, .bool has] 5 [.bool false] = [.sl qd, .int .i64 0, .int .i64 0, .int .i64 0, .sl none, .bool false] := rfl
  rw [e15]
  generalize hh15 : h.set p (.cells [.sl qd, .int .i64 0, .int .i64 0, .int .i64 0, .sl none, .bool false] true) = h15
  have K15 : Keeps (fun b => b = p) h h15 := by rw [← hh15]; exact keeps_set rfl
  have l15 : h15.length = h.length := by rw [← hh15]; simp
  have p15 : h15[p]? = some (.cells [.sl qd, .int .i64 0, .int .i64 0, .int .i64 0, .sl none, .bool false] true) := by rw [← hh15, List.getElem?_set_self hpl]
  have R15 : EdR h15 e d := K15.edR (fun s hs => hep s hs) hR
  have G15 : Grow edE h15 qd L := h4.keeps K15 (fun s hs => (h3 s hs).2)
  have F15 : Keeps D h h15 := fun b B hb hB => K15 b B (fun he => hb (he ▸ h2)) hB
  have each15 : ∀ (j : Nat) (x : EV) (y : ED), L[j]? = some x → done[j]? = some y → EdR h15 x y ∧ ∀ s, x.2.2.2 = some s → D s.b ∧ s.b ≠ p ∧ ∀ s', qd = some s' → s.b ≠ s'.b := by
    intro j x y a b
    obtain ⟨r, c⟩ := h6 j x y a b
    exact ⟨K15.edR (fun s hs => (c s hs).2.1) r, c⟩
  have hz : evV e = .agg [.int .i64 d.1, .int .i64 e.2.1, .int .i64 e.2.2.1, .sl e.2.2.2] := by rw [← r1]
  rw [r1]
  refine vif_mk (fun g3 => ?_) (fun g3 => ?_)
  · refine ⟨qd, cells6 p15 (o := 0) (k := 1) (by simp), ?_⟩
    rw [← hz]
    refine t80 (e := e) R15 hrefs fun e' h19 hx hR2 hs q1 q2 q3 => ⟨e'.1, e'.2.1, e'.2.2.1, e'.2.2.2, rfl, ⟨qd, cells6 (hx _ _ p15) (o := 0) (k := 1) (by simp), rfl⟩, ?_⟩
    have hl19 := hx.len
    unfold PNew
    have hx2 : Ext h19 (h19 ++ [.cells [.int .i64 e'.1, .int .i64 e'.2.1, .int .i64 e'.2.2.1, .sl e'.2.2.2] true]) := .app _ _
    refine ⟨⟨qd, cells6 (hx2 _ _ (hx _ _ p15)) (o := 0) (k := 1) (by simp), rfl⟩, ?_⟩
    have G25 : Grow edE (h19 ++ [.cells [.int .i64 e'.1, .int .i64 e'.2.1, .int .i64 e'.2.2.1, .sl e'.2.2.2] true]) qd L := Acc.mono (Acc.mono G15 hx) hx2
    have hsrc : HasL edE (h19 ++ [.cells [.int .i64 e'.1, .int .i64 e'.2.1, .int .i64 e'.2.2.1, .sl e'.2.2.2] true]) (some ⟨h19.length, 0, 1, 1, 0⟩) [e'] := HasL.new (E := edE) (l := [e']) rfl (by simp [Enc.all, edE])
    refine Grow.append (E := edE) G25 hsrc (by simp; omega) fun q2 h27 G27 K27 hl27 hq27 => ?_
    have live0 := HasL.live (Acc.hasL h4)
    have hl25 : (h19 ++ [Blk.cells [.int .i64 e'.1, .int .i64 e'.2.1, .int .i64 e'.2.2.1, .sl e'.2.2.2] true]).length = h19.length + 1 := by simp
    have hpq : ¬ ∃ s, qd = some s ∧ s.b = p := fun ⟨s, hs, he⟩ => (h3 s hs).2 he
    have p27 : h27[p]? = some (.cells [.sl qd, .int .i64 0, .int .i64 0, .int .i64 0, .sl none, .bool false] true) := K27 _ _ hpq (hx2 _ _ (hx _ _ p15))
    have hpl27 := lt_of_get p27
    have hq2 : ∀ s', q2 = some s' → h19.length < s'.b + 1 ∧ h.length ≤ s'.b ∨ (∃ s, qd = some s ∧ s.b = s'.b) := by
      intro s' hs'
      rcases hq27 s' hs' with a | a
      · rw [hl25] at a; left; omega
      · exact .inr a
    have hne2 : ∀ b, b < h19.length → (∀ s', qd = some s' → b ≠ s'.b) → ∀ s', q2 = some s' → b ≠ s'.b := by
      intro b hb hn s' hs' he
      rcases hq27 s' hs' with a | ⟨s, a1, a2⟩
      · rw [hl25] at a; omega
      · exact hn s a1 (he.trans a2.symm)
    have K1527 : Keeps (fun b => ∃ s, qd = some s ∧ s.b = b) h15 h27 := (keeps_of_ext (hx.trans hx2)).trans K27
    refine store6v p27 (o := 0) ?_ ?_
    · simp
    have Kset : Keeps (fun b => b = p) h27 (h27.set p (.cells (splice [.sl qd, .int .i64 0, .int .i64 0, .int .i64 0, .sl none, .bool false] 0 [.sl q2]) true)) := keeps_set rfl
    have g3' : (d.1 == 2) = true := g3
    have e1 : nHas d = false := by simp [nHas, g3']
    have e2 : nDone done d = done ++ [d] := by simp [nDone, g3']
    have e3 : nMark d = zeroD := by simp [nMark, g3']
    have fin : ∀ (x : EV) (y : ED), EdR h27 x y → (∀ s, x.2.2.2 = some s → s.b ≠ p) → EdR (h27.set p (.cells (splice [.sl qd, .int .i64 0, .int .i64 0, .int .i64 0, .sl none, .bool false] 0 [.sl q2]) true)) x y := fun x y r c => Kset.edR (fun s hs => c s hs) r
    refine hgo _ (fun b => D b ∨ (h.length ≤ b ∧ b < h27.length)) hyes ?_ (fun b hb => hb.imp id And.left) ?_ (by simp; omega)
    · rw [e1, e2, e3]
      refine ⟨q2, zeroV, L ++ [e'], ?_, .inl h2, ?_, G27.keeps Kset ?_, by simp [h5], ?_, ⟨rfl, rfl, rfl, rfl⟩, fun s hs => (by cases hs), ?_, by simp, ?_⟩
      · rw [List.getElem?_set_self hpl27]; rfl
      · intro s hs
        have hlv := HasL.live (Acc.hasL G27) s hs
        rcases hq2 s hs with a | ⟨s0, a1, a2⟩
        · exact ⟨.inr ⟨a.2, hlv⟩, by omega⟩
        · rw [← a2]; exact ⟨.inl (h3 s0 a1).1, (h3 s0 a1).2⟩
      · intro s hs he
        rcases hq2 s hs with a | ⟨s0, a1, a2⟩
        · omega
        · exact (h3 s0 a1).2 (a2.trans he)
      · intro j x y hj hy
        rw [List.getElem?_append] at hj hy
        split at hj
        · rw [if_pos (by omega)] at hy
          obtain ⟨r, c⟩ := each15 j x y hj hy
          have rl := HasL.live r.2.2.2
          refine ⟨fin x y (K1527.edR (fun s hs ⟨s', a1, a2⟩ => (c s hs).2.2 s' a1 a2.symm) r) (fun s hs => (c s hs).2.1), fun s hs => ⟨.inl (c s hs).1, (c s hs).2.1, hne2 _ (by have := rl s hs; omega) (c s hs).2.2⟩⟩
        · rw [if_neg (by omega)] at hy
          have j0 : j - L.length = 0 := by have := lt_of_get hj; simp at this; omega
          have y0 : j - done.length = 0 := by omega
          rw [j0] at hj
          rw [y0] at hy
          simp at hj hy
          subst hj hy
          have rl := HasL.live hR2.2.2.2
          have hfr : ∀ s, e'.2.2.2 = some s → ∀ s', qd = some s' → s.b ≠ s'.b := fun s hs' s' hs2 => by have := hs s hs'; have := live0 s' hs2; omega
          refine ⟨fin _ _ (((keeps_of_ext hx2).trans K27).edR (fun s hs' ⟨s', a1, a2⟩ => hfr s hs' s' a1 a2.symm) hR2) (fun s hs' => by have := hs s hs'; omega), fun s hs' => ⟨.inr ⟨by have := hs s hs'; omega, by have := rl s hs'; omega⟩, by have := hs s hs'; omega, hne2 _ (rl s hs') (hfr s hs')⟩⟩
      · intro x hx'
        rcases List.mem_append.1 hx' with hx' | hx'
        · exact h9 x hx'
        · simp at hx'; subst hx'; exact hrefs
      · intro b hb
        rcases hb with hb | hb
        · have := h11 b hb; simp; omega
        · simp; omega
    · intro b B hb hB
      have hbp : b ≠ p := fun he => hb (he ▸ h2)
      rw [List.getElem?_set, if_neg (Ne.symm hbp)]
      exact K1527 b B (fun ⟨s, a1, a2⟩ => hb (a2 ▸ (h3 s a1).1)) (F15 b B hb hB)
  · rw [← hz]
    refine t80 (e := e) R15 hrefs fun e' h33 hx hR2 hs q1 q2 q3 => ⟨e'.1, e'.2.1, e'.2.2.1, e'.2.2.2, rfl, ?_⟩
    have p33 := hx _ _ p15
    have hpl33 := lt_of_get p33
    have hl33 := hx.len
    refine store6v p33 (o := 1) ?_ ?_
    · simp
    have b39 : (h33.set p (.cells (splice [.sl qd, .int .i64 0, .int .i64 0, .int .i64 0, .sl none, .bool false] 1 [.int .i64 e'.1, .int .i64 e'.2.1, .int .i64 e'.2.2.1, .sl e'.2.2.2]) true))[p]? = some (.cells [.sl qd, .int .i64 e'.1, .int .i64 e'.2.1, .int .i64 e'.2.2.1, .sl e'.2.2.2, .bool false] true) := by
      rw [List.getElem?_set_self hpl33]; rfl
    refine store6v b39 (o := 5) ?_ ?_
    · simp
    rw [List.set_set]
    have hsub : Keeps (fun b => b = p) h33 (h33.set p (.cells (splice [.sl qd, .int .i64 e'.1, .int .i64 e'.2.1, .int .i64 e'.2.2.1, .sl e'.2.2.2, .bool false] 5 [.bool true]) true)) := keeps_set rfl
    have g3' : (d.1 == 2) = false := g3
    have e1 : nHas d = true := by simp [nHas, g3']
    have e2 : nDone done d = done := by simp [nDone, g3']
    have e3 : nMark d = d := by simp [nMark, g3']
    have live0 := HasL.live (Acc.hasL h4)
    have rl := HasL.live hR2.2.2.2
    refine hgo _ (fun b => D b ∨ (h.length ≤ b ∧ b < h33.length)) hyes ?_ (fun b hb => hb.imp id And.left) ?_ (by simp; omega)
    · rw [e1, e2, e3]
      refine ⟨qd, e', L, ?_, .inl h2, fun s hs => ⟨.inl (h3 s hs).1, (h3 s hs).2⟩, Grow.keeps (h := h33) (Acc.mono G15 hx) hsub (fun s hs => (h3 s hs).2), h5, ?_, hsub.edR (fun s hs' => by have := hs s hs'; omega) hR2, ?_, h9, hrefs, ?_⟩
      · rw [List.getElem?_set_self hpl33]; rfl
      · intro j x y hj hy
        obtain ⟨r, c⟩ := each15 j x y hj hy
        exact ⟨hsub.edR (fun s hs => (c s hs).2.1) ⟨r.1, r.2.1, r.2.2.1, r.2.2.2.mono hx⟩, fun s hs => ⟨.inl (c s hs).1, (c s hs).2⟩⟩
      · intro s hs'
        have a1 := hs s hs'
        exact ⟨.inr ⟨by omega, rl s hs'⟩, by omega, fun s' hs2 => by have := live0 s' hs2; omega⟩
      · intro b hb
        rcases hb with hb | hb
        · have := h11 b hb; simp; omega
        · simp; omega
    · intro b B hb hB
      have hbp : b ≠ p := fun he => hb (he ▸ h2)
      rw [List.getElem?_set, if_neg (Ne.symm hbp)]
      exact hx _ _ (F15 b B hb hB))
end
end Go.Proofs.Ytceplmmmlindnaa

/- Numbers and edits as bytes: what is put. -/
namespace Go.Proofs.Ytceplmmmlindnaa
open Go.Ab
set_option linter.unusedVariables false
set_option linter.unusedSimpArgs false

def encR (r : Rf) : Bs := numB r.1.length ++ r.1 ++ (numB r.2.1.toNat ++ numB r.2.2.toNat)
def encRs (l : List Rf) : Bs := l.flatMap encR
def encD (d : ED) : Bs := numB d.1.toNat ++ numB d.2.1.toNat ++ numB d.2.2.1.toNat ++ numB d.2.2.2.length ++ encRs d.2.2.2
abbrev M63 : Nat := 9223372036854775808

theorem wid_le {n : Nat} (h : n < M63) : wid n ≤ 8 := (wid_lt 8 n (by omega)).2 (by simp only [M63] at h; omega)
theorem numB_len {n : Nat} (h : n < M63) : (numB n).length ≤ 9 := by
  have := wid_le h
  unfold numB
  split
  · simp
  · split
    · simp
    · simp [beL_len]; omega
theorem encR_len {r : Rf} (h : refOk r = true) : (encR r).length ≤ 51 := by
  simp only [refOk, Bool.and_eq_true, decide_eq_true_eq] at h
  have h1 := numB_len (n := r.1.length) (by simp only [M63]; omega)
  have h2 := numB_len (n := r.2.1.toNat) (by simp only [M63]; omega)
  have h3 := numB_len (n := r.2.2.toNat) (by simp only [M63]; omega)
  simp only [encR, List.length_append]; omega
theorem encRs_len : ∀ {l : List Rf}, l.all refOk = true → (encRs l).length ≤ l.length * 51
  | [], _ => by simp [encRs]
  | r :: l, h => by
    rw [List.all_cons, Bool.and_eq_true] at h
    have h1 := encR_len h.1
    have h2 := encRs_len h.2
    simp only [encRs, List.flatMap_cons, List.length_append, List.length_cons] at *; omega
theorem encRs_take {l : List Rf} {i : Nat} {x : Rf} (h : l[i]? = some x) : encRs (l.take (i + 1)) = encRs (l.take i) ++ encR x := by
  rw [List.take_add_one, h]; simp [encRs]
theorem all_take {α : Type} {p : α → Bool} {l : List α} (i : Nat) (h : l.all p = true) : (l.take i).all p = true := by
  rw [List.all_eq_true] at *
  exact fun x hx => h x (List.mem_of_mem_take hx)

section
variable {h : Heap} {Q : AV → Heap → Prop}

theorem by1 {n : Nat} (hn : n < 256) : [AV.int .u8 (wrapK .u8 (n : Int))] = byE.all [UInt8.ofNat n] := by
  rw [u8c, Nat.mod_eq_of_lt hn]; rfl
theorem numB_lo {n : Nat} (hn : n < 240) : numB n = [UInt8.ofNat n] := by unfold numB; rw [if_pos hn]
theorem numB_mid {n : Nat} (h0 : ¬ n < 240) (hn : n < 2288) : numB n = [UInt8.ofNat (240 + (n - 240) / 256), UInt8.ofNat ((n - 240) % 256)] := by unfold numB; rw [if_neg h0, if_pos hn]
theorem numB_hi {n : Nat} (hn : ¬ n < 2288) : numB n = UInt8.ofNat (246 + wid n) :: beL n (wid n) := by unfold numB; rw [if_neg (by omega), if_neg hn]
theorem byMid {n : Nat} (h0 : ¬ n < 240) (hn : n < 2288) {x y : Int} (hx : x = ((240 + (n - 240) / 256 : Nat) : Int)) (hy : y = ((n - 240 : Nat) : Int)) : [AV.int .u8 (wrapK .u8 x), .int .u8 (wrapK .u8 y)] = byE.all (numB n) := by
  subst hx hy
  rw [numB_mid h0 hn, u8c, u8c, Nat.mod_eq_of_lt (by omega : 240 + (n - 240) / 256 < 256)]; rfl

set_option maxRecDepth 20000 in
/-- num.Put. -/
theorem t107 {n : Nat} (hn : n < M63) (hQ : ∀ q h', New byE h h' q (numB n) → Q (.tup [.sl q, .int .i64 0]) h') : AC Try.prog 107 [.int .i64 n] h Q := ac107 (by
  simp only [M63] at hn
  unfold vc107 PNew

  refine vif_mk (fun g => ?_) (fun _ => ?_)
  · replace g := of_decide_eq_true g
    omega
  refine vif_mk (fun g => ?_) (fun g => ?_)
  · replace g := of_decide_eq_true g
    exact hQ _ _ (New.mk1 (E := byE) (by rw [numB_lo (by omega)]; rfl) (by rw [numB_lo (by omega), by1 (by omega)]))
  refine vif_mk (fun g2 => ?_) (fun g2 => ?_)
  · replace g := of_decide_eq_false g
    replace g2 := of_decide_eq_true g2
    refine hQ _ _ (New.mk1 (E := byE) (by rw [numB_mid (by omega) (by omega)]; rfl) ?_)
    rw [wrapK_i64 (n := (n : Int) - 240) ⟨by omega, by omega⟩]
    have e : ((n : Int) - 240) = ((n - 240 : Nat) : Int) := by omega
    rw [e, shr8]
    exact byMid (by omega) (by omega) (wrapK_i64 ⟨by omega, by omega⟩) rfl
  · replace g := of_decide_eq_false g
    replace g2 := of_decide_eq_false g2
    have hw := wid_le (n := n) hn
    refine t131 hn ⟨_, rfl, ?_⟩
    refine t132 ⟨wid_pos, hw⟩ fun q13 h12 N => ⟨q13, rfl, ?_⟩
    rw [wrapK_i64 (n := 246 + ((wid n : Nat) : Int)) ⟨by omega, by omega⟩] at N
    have e : (246 + ((wid n : Nat) : Int)) = ((246 + wid n : Nat) : Int) := by omega
    rw [e, by1 (by omega)] at N
    have N1 : New byE h h12 (some ⟨h.length, 0, 1, 1, 0⟩) [UInt8.ofNat (246 + wid n)] := (New.mk1 (E := byE) rfl rfl).ext N.1
    refine New.append (E := byE) N1 N.hasL (by simp [beL_len]; omega) fun q14 h15 N2 => hQ _ _ ?_
    rw [numB_hi (by omega)]
    exact N2)

/-- num.Text. -/
theorem t62 {s : Bs} (hs : s.length ≤ 100000) (hQ : ∀ q h', New byE h h' q (numB s.length ++ s) → Q (.sl q) h') : AC Try.prog 62 [.str s] h Q := ac62 (by
  unfold vc62
  refine t107 (by simp only [M63]; omega) fun q4 h3 N => ⟨q4, _, rfl, ?_⟩
  have hl := numB_len (n := s.length) (by simp only [M63]; omega)
  rw [← byE_all]
  exact New.append0 (E := byE) N (by omega) fun q' h2 N2 => hQ _ _ N2)

/-- numbers. -/
theorem t60 {q : Option SL} {l : List Nat} (H : HasL intE h q (l.map fun (n : Nat) => (n : Int))) (hl : l.length ≤ 10) (hn : ∀ n ∈ l, n < M63) (hQ : ∀ q h', New byE h h' q (l.flatMap numB) → Q (.sl q) h') : AC Try.prog 60 [.sl q] h Q := ac60 (by
  unfold vc60
  have hlen := H.len
  rw [List.length_map] at hlen
  have bnd : ∀ i, ((l.take i).flatMap numB).length ≤ i * 9 := by
    intro i
    induction i with
    | zero => simp
    | succ i ih =>
      rw [List.take_add_one]
      cases hx : l[i]? with
      | none => simp at ih ⊢; omega
      | some x =>
        have := numB_len (hn x (List.mem_of_getElem? hx))
        rw [List.flatMap_append, List.length_append]
        simp only [Option.toList_some, List.flatMap_cons, List.flatMap_nil, List.append_nil]
        omega
  refine ⟨fun xs h6 => ∃ (q2 : Option SL) (i : Nat), xs = [.sl q2, .int .i64 i] ∧ i ≤ l.length ∧ New byE h h6 q2 ((l.take i).flatMap numB), fun xs _ => match xs with | [_, .int _ i] => (l.length - i).toNat | _ => 0, ⟨_, 0, rfl, by omega, by simpa using New.none⟩, ?_⟩
  rintro q2 i h6 ⟨q2', i', hx, hi, N⟩
  simp only [List.cons.injEq, AV.int.injEq, AV.sl.injEq, true_and, and_true] at hx
  obtain ⟨rfl, rfl⟩ := hx
  refine vif_mk (fun g => ?_) (fun g => ?_)
  · replace g := of_decide_eq_true g
    refine HasL.idx (E := intE) (H.mono N.1) (by omega) (by simp; omega) fun pp x hx hc => ?_
    have hx' : (l.map fun (n : Nat) => (n : Int))[i']? = some x := by simpa using hx
    rw [List.getElem?_map] at hx'
    cases hy : l[i']? with
    | none => rw [hy] at hx'; cases hx'
    | some y =>
      rw [hy] at hx'
      obtain rfl : ((y : Int)) = x := by simpa using hx'
      refine ⟨_, hc, t107 (hn y (List.mem_of_getElem? hy)) fun q11 h10 N1 => ⟨q11, _, rfl, ?_⟩⟩
      have hl1 := numB_len (hn y (List.mem_of_getElem? hy))
      have hl2 := bnd i'
      refine New.append (E := byE) (N.ext N1.1) N1.hasL (by omega) fun q13 h14 N2 => ?_
      rw [wrapK_i64 ⟨by omega, by omega⟩]
      refine ⟨trivial, ⟨q13, i' + 1, by simp, by omega, ?_⟩, by simp only; omega⟩
      rw [List.take_add_one, hy, List.flatMap_append]
      simpa using N2
  · replace g := of_decide_eq_false g
    have : i' = l.length := by omega
    subst this
    rw [List.take_length] at N
    exact hQ _ _ N)
end
end Go.Proofs.Ytceplmmmlindnaa

/- slices.Concat of bytes; the engine's Put of an edit. -/
namespace Go.Proofs.Ytceplmmmlindnaa
open Go.Ab
set_option linter.unusedVariables false
set_option linter.unusedSimpArgs false

theorem splice_bytes {C m : Bs} {o : Nat} : splice (byteAVs C) o (byteAVs m) = byteAVs (splice C o m) := by
  unfold splice byteAVs
  simp

section
variable {h : Heap} {Q : AV → Heap → Prop}
set_option maxRecDepth 20000 in
theorem t108 {n : Nat} (hn : n ≤ 100000) (hQ0 : n = 0 → Q (.sl none) h) (hQ1 : n ≠ 0 → Q (.sl (some ⟨h.length, 0, 0, n, 1⟩)) (h ++ [.cells (byteAVs (List.replicate n 0)) true])) : AC Try.prog 108 [.sl none, .int .i64 n] h Q := ac108 (by
  unfold vc108
  have e : wrapK .i64 ((n : Int) - 0) = n := by rw [wrapK_i64 ⟨by omega, by omega⟩]; omega
  rw [e]
  refine vif_mk (fun g => ?_) (fun _ => ?_)
  · replace g := of_decide_eq_true g
    omega
  refine vif_mk (fun g => ?_) (fun g => ?_)
  · replace g := of_decide_eq_true g
    refine ⟨rfl, rfl, rfl, by omega, by simp only [maxI]; omega, by omega, ?_⟩
    simp only [Int.toNat_natCast]
    rw [zeros_flat]
    refine ⟨by simp [byAV_len], ?_⟩
    simp only
    rw [if_neg (by omega)]
    refine ⟨by omega, by omega, ?_⟩
    refine ⟨.inr rfl, by omega, by simp, by simp, by simp, ?_⟩
    have := hQ1 (by omega)
    simpa using this
  · replace g := of_decide_eq_false g
    exact hQ0 (by omega))

/-- slices.Concat. -/
theorem t61 {q : Option SL} {qs : List (Option SL)} {ls : List Bs} (H : HasL slE h q qs) (hl : qs.length = ls.length) (hq : ∀ (i : Nat) (s : Option SL) (l : Bs), qs[i]? = some s → ls[i]? = some l → HasL byE h s l) (hT : ls.flatten.length ≤ 100000) (hn : ls.length ≤ 10)
    (hQ : ∀ q h', New byE h h' q ls.flatten → Q (.sl q) h') : AC Try.prog 61 [.sl q] h Q := ac61 (by
  unfold vc61
  have hlen := H.len
  have nxt : ∀ (i : Nat) (l : Bs), ls[i]? = some l → (ls.take (i + 1)).flatten = (ls.take i).flatten ++ l := fun i l hi => by
    rw [List.take_add_one, hi]; simp
  have pre : ∀ i, (ls.take i).flatten.length ≤ ls.flatten.length := fun i => by
    have : ls.flatten = (ls.take i).flatten ++ (ls.drop i).flatten := by rw [← List.flatten_append, List.take_append_drop]
    rw [this, List.length_append]; omega
  refine ⟨fun xs h6 => h6 = h ∧ ∃ i : Nat, xs = [.int .i64 ((ls.take i).flatten.length : Nat), .int .i64 i] ∧ i ≤ ls.length, fun xs _ => match xs with | [_, .int _ i] => (ls.length - i).toNat | _ => 0, ⟨rfl, 0, by simp, by omega⟩, ?_⟩
  rintro n i h6 ⟨rfl, i', hx, hi⟩
  simp only [List.cons.injEq, AV.int.injEq, true_and, and_true] at hx
  obtain ⟨rfl, rfl⟩ := hx
  refine vif_mk (fun g => ?_) (fun g => ?_)
  · replace g := of_decide_eq_true g
    refine HasL.idx (E := slE) H (by omega) (by omega) fun pp x hx hc => ⟨x, hc, ?_⟩
    have hx' : qs[i']? = some x := by simpa using hx
    have hli : ls[i']? = some (ls[i']'(by omega)) := List.getElem?_eq_getElem _
    have hxl := (hq i' x _ hx' hli).len
    have h1 := nxt i' _ hli
    have h2 := pre (i' + 1)
    have h3 : (ls.take (i' + 1)).flatten.length = (ls.take i').flatten.length + (ls[i']'(by omega)).length := by rw [h1, List.length_append]
    have e : wrapK .i64 ((((ls.take i').flatten.length : Nat) : Int) + (slLen x : Int)) = (((ls.take (i' + 1)).flatten.length : Nat) : Int) := by
      rw [wrapK_i64 ⟨by omega, by omega⟩, hxl, h3]; omega
    rw [e]
    refine vif_mk (fun g => ?_) (fun _ => ?_)
    · replace g := of_decide_eq_true g
      omega
    rw [wrapK_i64 ⟨by omega, by omega⟩]
    exact ⟨trivial, ⟨rfl, i' + 1, by simp, by omega⟩, by simp only; omega⟩
  · replace g := of_decide_eq_false g
    have : i' = ls.length := by omega
    subst this
    rw [List.take_length]
    have body : ∀ (q11 : Option SL) (h10 : Heap), Ext h6 h10 → (ls.flatten.length = 0 ∧ q11 = none ∨ ∃ a, h6.length ≤ a ∧ q11 = some ⟨a, 0, 0, ls.flatten.length, 1⟩ ∧ h10[a]? = some (.cells (byteAVs (List.replicate ls.flatten.length 0)) true)) →
        ∃ (I14 : List AV → Heap → Prop) (m15 : List AV → Heap → Nat), I14 [.sl q11, .int .i64 0] h10 ∧
        ∀ q12 : Option SL, ∀ n13 : Int, ∀ h16 : Heap, I14 [.sl q12, .int .i64 n13] h16 →
        vif (decide (n13 < (slLen q : Int)))
        (vIdx q n13 1 fun p17 =>
        ∃ q18 : Option SL, cellsAt h16 p17 1 = some [.sl q18] ∧
        PAppendS 1 1 q12 q18 h16 fun q19 h20 =>
        (True) ∧ I14 [.sl q19, .int .i64 (wrapK .i64 (n13 + 1))] h20 ∧ m15 [.sl q19, .int .i64 (wrapK .i64 (n13 + 1))] h20 < m15 [.sl q12, .int .i64 n13] h16)
        (Q (.sl q12) h16) := by
      intro q11 h10 hx10 hB
      refine ⟨fun xs h16 => ∃ (q12 : Option SL) (i : Nat), xs = [.sl q12, .int .i64 i] ∧ i ≤ ls.length ∧ Ext h6 h16 ∧ (ls.flatten.length = 0 ∧ q12 = none ∨ ∃ a C, h6.length ≤ a ∧ q12 = some ⟨a, 0, (ls.take i).flatten.length, ls.flatten.length, 1⟩ ∧ h16[a]? = some (.cells (byteAVs C) true) ∧ C.length = ls.flatten.length ∧ C.take (ls.take i).flatten.length = (ls.take i).flatten),
        fun xs _ => match xs with | [_, .int _ i] => (ls.length - i).toNat | _ => 0, ⟨q11, 0, rfl, by omega, hx10, ?_⟩, ?_⟩
      · rcases hB with hB | ⟨a, b1, b2, b3⟩
        · exact .inl hB
        · exact .inr ⟨a, _, b1, by simpa using b2, b3, by simp, by simp⟩
      · rintro q12 i h16 ⟨q12', i', hx, hi, hx16, hB⟩
        simp only [List.cons.injEq, AV.int.injEq, AV.sl.injEq, true_and, and_true] at hx
        obtain ⟨rfl, rfl⟩ := hx
        refine vif_mk (fun g => ?_) (fun g => ?_)
        · replace g := of_decide_eq_true g
          refine HasL.idx (E := slE) (H.mono hx16) (by omega) (by omega) fun pp x hx hc => ⟨x, hc, ?_⟩
          have hx' : qs[i']? = some x := by simpa using hx
          have hli : ls[i']? = some (ls[i']'(by omega)) := List.getElem?_eq_getElem _
          have hX := (hq i' x _ hx' hli).mono hx16
          have hxl := hX.len
          have h1 := nxt i' _ hli
          have h2 := pre (i' + 1)
          have h3 : (ls.take (i' + 1)).flatten.length = (ls.take i').flatten.length + (ls[i']'(by omega)).length := by rw [h1, List.length_append]
          generalize hml : ls[i']'(by omega) = m at *
          refine ⟨byE.all m, hX.cells, by rw [Enc.all_length, hxl]; rfl, ?_⟩
          rw [hxl, wrapK_i64 (n := (i' : Int) + 1) ⟨by omega, by omega⟩]
          rcases hB with ⟨hz, rfl⟩ | ⟨a, C, b1, rfl, b3, b4, b5⟩
          · simp only
            rw [if_pos (by omega)]
            exact ⟨trivial, ⟨none, i' + 1, by simp, by omega, hx16, .inl ⟨hz, rfl⟩⟩, by omega⟩
          · simp only
            rw [if_pos (by omega), b3]
            simp only [Nat.zero_add, Nat.mul_one]
            have hlt := lt_of_get b3
            rw [byE_all, splice_bytes]
            refine ⟨by rw [byAV_len, byAV_len]; omega, trivial, ⟨_, i' + 1, rfl, by omega, hx16.set b1, .inr ⟨a, splice C (ls.take i').flatten.length m, b1, by rw [h3], by rw [List.getElem?_set_self hlt], by rw [splice_length (by omega)]; exact b4, ?_⟩⟩, by omega⟩
            rw [h1, List.length_append]
            unfold splice
            rw [b5, List.append_assoc, List.take_append, List.take_of_length_le (by omega)]
            simp
        · replace g := of_decide_eq_false g
          have : i' = ls.length := by omega
          subst this
          refine hQ _ _ ⟨hx16, ?_, ?_⟩
          · rcases hB with ⟨hz, rfl⟩ | ⟨a, C, b1, rfl, b3, b4, b5⟩
            · exact .inl ⟨rfl, List.eq_nil_of_length_eq_zero hz⟩
            · rw [List.take_length] at b5 ⊢
              rw [← b4, List.take_length] at b5
              subst b5
              exact App.mk rfl (.inr rfl) (by rw [byE_all]; exact b3)
          · intro s hs
            rcases hB with ⟨hz, rfl⟩ | ⟨a, C, b1, rfl, b3, b4, b5⟩
            · cases hs
            · cases hs; exact b1
    refine t108 hT (fun h0 => ⟨_, rfl, body _ _ (.refl _) (.inl ⟨h0, rfl⟩)⟩) (fun h0 => ⟨_, rfl, body _ _ (.app _ _) (.inr ⟨h6.length, Nat.le_refl _, rfl, by simp⟩)⟩))
end
end Go.Proofs.Ytceplmmmlindnaa

/- The engine's Put of an edit. -/
namespace Go.Proofs.Ytceplmmmlindnaa
open Go.Ab
set_option linter.unusedVariables false
set_option linter.unusedSimpArgs false

section
variable {h : Heap} {Q : AV → Heap → Prop}
theorem EdR.ext {h h' : Heap} {e : EV} {d : ED} (R : EdR h e d) (K : Ext h h') : EdR h' e d := ⟨R.1, R.2.1, R.2.2.1, R.2.2.2.mono K⟩

/-- What a checked edit's numbers are. -/
theorem chk_nums {d : ED} (h : chk d = true) : (d.1 = ((d.1.toNat : Nat) : Int) ∧ d.1.toNat < M63) ∧ (d.2.1 = ((d.2.1.toNat : Nat) : Int) ∧ d.2.1.toNat < M63) ∧ (d.2.2.1 = ((d.2.2.1.toNat : Nat) : Int) ∧ d.2.2.1.toNat < M63) ∧ d.2.2.2.length ≤ 256 ∧ d.2.2.2.all refOk = true := by
  simp only [chk, atOk, Bool.and_eq_true, Bool.or_eq_true, decide_eq_true_eq, beq_iff_eq] at h
  obtain ⟨⟨⟨h1, ⟨⟨h2, h3⟩, h4⟩, h5⟩, h6⟩, h7⟩ := h
  simp only [M63]
  refine ⟨⟨by omega, by omega⟩, ⟨by omega, by omega⟩, ⟨by omega, by omega⟩, h6, h7⟩
theorem ref_nums {r : Rf} (h : refOk r = true) : r.1.length ≤ 24 ∧ (r.2.1 = ((r.2.1.toNat : Nat) : Int) ∧ r.2.1.toNat < M63) ∧ (r.2.2 = ((r.2.2.toNat : Nat) : Int) ∧ r.2.2.toNat < M63) := by
  simp only [refOk, Bool.and_eq_true, decide_eq_true_eq] at h
  simp only [M63]
  omega
theorem encD_take {d : ED} : encD d = (numB d.1.toNat ++ numB d.2.1.toNat ++ numB d.2.2.1.toNat ++ numB d.2.2.2.length) ++ encRs (d.2.2.2.take d.2.2.2.length) := by
  rw [List.take_length]; rfl
theorem bnd_enc {l : List Rf} (hl : l.length ≤ 256) (h : l.all refOk = true) (i : Nat) : (encRs (l.take i)).length ≤ 13056 := by
  have := encRs_len (all_take i h)
  have h2 : (l.take i).length ≤ l.length := List.length_take_le' _ _
  omega

/-- One ref behind some bytes, by Concat. -/
theorem cat3 {h0 : Heap} {q13 q24 q29 : Option SL} {a b c : Bs} {K : AV → Heap → Prop} {h28 : Heap} (A : New byE h0 h28 q13 a) (B : HasL byE h28 q24 b) (C : HasL byE h28 q29 c) (hT : a.length + b.length + c.length ≤ 100000)
    (hK : ∀ q34 h33, New byE h0 h33 q34 (a ++ b ++ c) → K (.sl q34) h33) : PNew [.sl q13, .sl q24, .sl q29] true h28 fun a30 h31 => AC Try.prog 61 [.sl (some ⟨a30, 0, 3, 3, 0⟩)] h31 K := by
  unfold PNew
  have hx : Ext h28 (h28 ++ [.cells [.sl q13, .sl q24, .sl q29] true]) := .app _ _
  refine t61 (qs := [q13, q24, q29]) (ls := [a, b, c]) (HasL.new (E := slE) (l := [q13, q24, q29]) rfl rfl) rfl ?_ (by simp; omega) (by simp) fun q' h' N => hK q' h' ?_
  · intro i s l hs hl
    match i with
    | 0 => simp at hs hl; subst hs hl; exact A.hasL.mono hx
    | 1 => simp at hs hl; subst hs hl; exact B.mono hx
    | 2 => simp at hs hl; subst hs hl; exact C.mono hx
    | n + 3 => simp at hs
  · have := N.of ((A.1.trans hx))
    simpa using this

set_option maxRecDepth 20000 in
/-- edit.Put. -/
theorem t14 {e : EV} {d : ED} (hR : EdR h e d) (hQ0 : chk d = false → Q (.tup [.sl none, .int .i64 140]) h) (hQ1 : ∀ q h', chk d = true → New byE h h' q (encD d) → Q (.tup [.sl q, .int .i64 0]) h') : AC Try.prog 14 [evV e] h Q := ac14 (by
  have hR0 := hR
  obtain ⟨r1, r2, r3, hL⟩ := hR
  have hlen := hL.len
  unfold vc14
  refine u18 (e := e) hR0 ⟨_, rfl, ?_⟩
  cases hc : chk d with
  | false =>
    rw [hc] at hQ0
    simp only [Bool.false_eq_true, if_false]
    exact hQ0 rfl
  | true =>
  rw [if_pos rfl]
  refine vif_mk (fun g => by simp at g) fun _ => ?_
  obtain ⟨⟨c1, c1'⟩, ⟨c2, c2'⟩, ⟨c3, c3'⟩, c4, c5⟩ := chk_nums hc
  show PNew _ true h _
  unfold PNew
  rw [r1, r2, r3, hlen]
  have hx1 : Ext h (h ++ [.cells [.int .i64 d.1, .int .i64 d.2.1, .int .i64 d.2.2.1, .int .i64 ((d.2.2.2.length : Nat) : Int)] true]) := .app _ _
  have len63 : d.2.2.2.length < M63 := by simp only [M63]; omega
  refine t60 (l := [d.1.toNat, d.2.1.toNat, d.2.2.1.toNat, d.2.2.2.length]) (HasL.new (E := intE) (l := [d.1.toNat, d.2.1.toNat, d.2.2.1.toNat, d.2.2.2.length].map fun (n : Nat) => (n : Int)) rfl ?_) (by simp) ?_ fun q12 h11 N0 => ⟨q12, rfl, ?_⟩
  · show [AV.int .i64 d.1, .int .i64 d.2.1, .int .i64 d.2.2.1, .int .i64 ((d.2.2.2.length : Nat) : Int)] = [AV.int .i64 ((d.1.toNat : Nat) : Int), .int .i64 ((d.2.1.toNat : Nat) : Int), .int .i64 ((d.2.2.1.toNat : Nat) : Int), .int .i64 ((d.2.2.2.length : Nat) : Int)]
    rw [← c1, ← c2, ← c3]
  · intro n hn
    simp only [List.mem_cons, List.not_mem_nil, or_false] at hn
    rcases hn with rfl | rfl | rfl | rfl <;> assumption
  have N0 := N0.of hx1
  generalize hhd : [d.1.toNat, d.2.1.toNat, d.2.2.1.toNat, d.2.2.2.length].flatMap numB = hd at N0
  have hhd' : hd = numB d.1.toNat ++ numB d.2.1.toNat ++ numB d.2.2.1.toNat ++ numB d.2.2.2.length := by rw [← hhd]; simp
  have hhl : hd.length ≤ 36 := by
    have h1 := numB_len c1'
    have h2 := numB_len c2'
    have h3 := numB_len c3'
    have h4 := numB_len len63
    rw [hhd']; simp only [List.length_append]; omega
  refine ⟨fun xs h6 => ∃ (q2 : Option SL) (i : Nat), xs = [.sl q2, .int .i64 i] ∧ i ≤ d.2.2.2.length ∧ New byE h h6 q2 (hd ++ encRs (d.2.2.2.take i)), fun xs _ => match xs with | [_, .int _ i] => (d.2.2.2.length - i).toNat | _ => 0, ⟨_, 0, rfl, by omega, by simpa [encRs] using N0⟩, ?_⟩
  rintro q2 i h17 ⟨q2', i', hx, hi, N⟩
  simp only [List.cons.injEq, AV.int.injEq, AV.sl.injEq, true_and, and_true] at hx
  obtain ⟨rfl, rfl⟩ := hx
  refine vif_mk (fun g => ?_) (fun g => ?_)
  · replace g := of_decide_eq_true g
    refine HasL.idx (E := refE) (hL.mono N.1) (by omega) (by omega) fun pp y hy hcy => ⟨y.1, y.2.1, y.2.2, hcy, ?_⟩
    have hy' : d.2.2.2[i']? = some y := by simpa using hy
    have hok : refOk y = true := by rw [List.all_eq_true] at c5; exact c5 y (List.mem_of_getElem? hy')
    obtain ⟨y1, ⟨y2, y2'⟩, ⟨y3, y3'⟩⟩ := ref_nums hok
    have bl := bnd_enc c4 c5 i'
    have rl := encR_len hok
    have hin : ∀ {h26 : Heap} {a : Nat}, h26[a]? = some (.cells [.int .i64 y.2.1, .int .i64 y.2.2] true) → HasL intE h26 (some ⟨a, 0, 2, 2, 0⟩) ([y.2.1.toNat, y.2.2.toNat].map fun (n : Nat) => (n : Int)) := by
      intro h26 a hb
      refine ⟨rfl, Nat.le_refl _, .inl rfl, ?_⟩
      have e : intE.all ([y.2.1.toNat, y.2.2.toNat].map fun (n : Nat) => (n : Int)) = [.int .i64 y.2.1, .int .i64 y.2.2] := by
        show [AV.int .i64 ((y.2.1.toNat : Nat) : Int), .int .i64 ((y.2.2.toNat : Nat) : Int)] = _
        rw [← y2, ← y3]
      rw [e, cellsAt_mk (p := ⟨a, 0⟩) hb (by simp [intE])]
      simp [intE]
    have hn2 : ∀ n ∈ [y.2.1.toNat, y.2.2.toNat], n < M63 := by
      intro n hn
      simp only [List.mem_cons, List.not_mem_nil, or_false] at hn
      rcases hn with rfl | rfl <;> assumption
    have el : ([y.2.1.toNat, y.2.2.toNat] : List Nat).flatMap numB = numB y.2.1.toNat ++ numB y.2.2.toNat := by simp
    have eT : (hd ++ encRs (d.2.2.2.take i')) ++ (numB y.1.length ++ y.1) ++ (numB y.2.1.toNat ++ numB y.2.2.toNat) = hd ++ encRs (d.2.2.2.take (i' + 1)) := by
      rw [encRs_take hy']; simp [encR]
    have hTot : (hd ++ encRs (d.2.2.2.take i')).length + (numB y.1.length ++ y.1).length + (numB y.2.1.toNat ++ numB y.2.2.toNat).length ≤ 100000 := by
      simp only [encR, List.length_append] at rl ⊢; omega
    have step : ∀ (q34 : Option SL) (h33 : Heap), New byE h h33 q34 ((hd ++ encRs (d.2.2.2.take i')) ++ (numB y.1.length ++ y.1) ++ (numB y.2.1.toNat ++ numB y.2.2.toNat)) → _ := fun q34 h33 N3 =>
      (⟨⟨rfl, trivial⟩, ⟨q34, i' + 1, by rw [wrapK_i64 ⟨by omega, by omega⟩]; simp, by omega, by rw [← eT]; exact N3⟩, by rw [wrapK_i64 ⟨by omega, by omega⟩]; omega⟩ :
        ((some [.int .i64 d.1, .int .i64 d.2.1, .int .i64 d.2.2.1, .sl e.2.2.2] : Option (List AV)) = some [.int .i64 d.1, .int .i64 d.2.1, .int .i64 d.2.2.1, .sl e.2.2.2] ∧ True) ∧ (∃ (q2 : Option SL) (i : Nat), [AV.sl q34, .int .i64 (wrapK .i64 ((i' : Int) + 1))] = [.sl q2, .int .i64 i] ∧ i ≤ d.2.2.2.length ∧ New byE h h33 q2 (hd ++ encRs (d.2.2.2.take i))) ∧ ((d.2.2.2.length : Int) - wrapK .i64 ((i' : Int) + 1)).toNat < ((d.2.2.2.length : Int) - (i' : Int)).toNat)
    refine ⟨?_, ?_⟩
    · refine t62 (s := y.1) (by omega) fun q24 h23 N1 => ⟨q24, rfl, rfl, rfl, rfl, ?_⟩
      have hx26 : Ext h23 (h23 ++ [.cells [.int .i64 y.2.1, .int .i64 y.2.2] true]) := .app _ _
      refine t60 (hin (by simp)) (by simp) hn2 fun q29 h28 N2 => ⟨q29, rfl, ?_⟩
      rw [el] at N2
      have hx28 := hx26.trans N2.1
      exact cat3 (N.ext (N1.1.trans hx28)) (N1.hasL.mono hx28) N2.hasL hTot fun q34 h33 N3 => ⟨q34, rfl, step q34 h33 N3⟩
    · have hx36 : Ext h17 (h17 ++ [.cells [.int .i64 y.2.1, .int .i64 y.2.2] true]) := .app _ _
      refine ⟨rfl, t62 (s := y.1) (by omega) fun q24 h23 N1 => ⟨q24, rfl, rfl, rfl, ?_⟩⟩
      refine t60 (hin (N1.1 _ _ (by simp))) (by simp) hn2 fun q29 h28 N2 => ⟨q29, rfl, ?_⟩
      rw [el] at N2
      exact cat3 (N.ext ((hx36.trans N1.1).trans N2.1)) (N1.hasL.mono N2.1) N2.hasL hTot fun q34 h33 N3 => ⟨q34, rfl, step q34 h33 N3⟩
  · replace g := of_decide_eq_false g
    have : i' = d.2.2.2.length := by omega
    subst this
    refine hQ1 _ _ hc ?_
    rw [encD_take, ← hhd']
    exact N)
end
end Go.Proofs.Ytceplmmmlindnaa

/- The document's Put. -/
namespace Go.Proofs.Ytceplmmmlindnaa
open Go.Ab
set_option linter.unusedVariables false
set_option linter.unusedSimpArgs false

section
variable {h : Heap} {Q : AV → Heap → Prop}
set_option maxRecDepth 20000 in
/-- Fix. -/
theorem t115 {n k : Nat} (hn : n < M63) (hk : 1 ≤ k ∧ k ≤ 8) (hQ : ∀ q h', New byE h h' q (beL n k) → Q (.tup [.sl q, .bool (decide (n < 256 ^ k))]) h') : AC Try.prog 115 [.int .i64 n, .int .i64 k] h Q := ac115 (by
  simp only [M63] at hn
  unfold vc115
  refine vif_mk (fun g => ?_) (fun _ => ?_)
  · replace g := of_decide_eq_true g
    omega
  refine vif_mk (fun g => ?_) (fun _ => ?_)
  · replace g := of_decide_eq_true g
    omega
  refine vif_mk (fun g => ?_) (fun _ => ?_)
  · replace g := of_decide_eq_true g
    omega
  refine ⟨by omega, by omega, by simp; omega, by simp only [maxI]; omega, ?_⟩
  simp only [Int.toNat_natCast]
  rw [zeros_flat, wrapK_i64 (n := (k : Int) - 1) ⟨by omega, by omega⟩]
  have fin : ∀ (cur : Bs) (b : Bool), cur.length = k → (∀ j, j < k → cur[j]? = (beL n k)[j]?) → b = decide (n < 256 ^ k) → Q (.tup [.sl (some ⟨h.length, 0, k, k, 0⟩), .bool b]) (h ++ [.cells (byteAVs cur) true]) := by
    intro cur b hl hc hb
    have : cur = beL n k := by
      refine List.ext_getElem? fun j => ?_
      rcases Nat.lt_or_ge j k with hj | hj
      · exact hc j hj
      · rw [List.getElem?_eq_none (by omega), List.getElem?_eq_none (by rw [beL_len]; omega)]
    subst this hb
    exact hQ _ _ (New.mk1 (E := byE) (beL_len _ _).symm byE_all.symm)
  -- i bytes are to be written still
  refine ⟨fun xs h8 => ∃ (i : Nat) (cur : Bs), xs = [.int .i64 ((n / 256 ^ (k - i) : Nat) : Int), .int .i64 ((i : Int) - 1)] ∧ i ≤ k ∧ h8 = h ++ [.cells (byteAVs cur) true] ∧ cur.length = k ∧ ∀ j, i ≤ j → j < k → cur[j]? = (beL n k)[j]?, fun xs _ => match xs with | [_, .int _ i] => (i + 1).toNat | _ => 0, ⟨k, _, by simp, by omega, rfl, by simp, fun j hj => by omega⟩, ?_⟩
  rintro n5 n6 h8 ⟨i', cur, hx, hi, rfl, hl, hc⟩
  simp only [List.cons.injEq, AV.int.injEq, true_and, and_true] at hx
  obtain ⟨rfl, rfl⟩ := hx
  refine vif_mk (fun h1 => ?_) (fun h1 => ?_)
  · replace h1 := of_decide_eq_true h1
    obtain ⟨i, rfl⟩ : ∃ i, i' = i + 1 := ⟨i' - 1, by omega⟩
    have e0 : (((i + 1 : Nat) : Int) - 1) = (i : Int) := by omega
    rw [e0]
    have hv : n / 256 ^ (k - (i + 1)) ≤ n := Nat.div_le_self _ _
    have e1 : (((n / 256 ^ (k - (i + 1)) : Nat) : Int).tmod 256) = ((n / 256 ^ (k - 1 - i) % 256 : Nat) : Int) := by
      rw [tmod_pos (Int.natCast_nonneg _)]
      have : k - (i + 1) = k - 1 - i := by omega
      rw [this]; generalize n / 256 ^ (k - 1 - i) = v; omega
    have e2 : (((n / 256 ^ (k - (i + 1)) : Nat) : Int).tdiv 256) = ((n / 256 ^ (k - i) : Nat) : Int) := by
      rw [tdiv_pos (Int.natCast_nonneg _)]
      have : 256 ^ (k - i) = 256 ^ (k - (i + 1)) * 256 := by rw [← Nat.pow_succ]; congr 1; omega
      rw [this, ← Nat.div_div_eq_div_mul]; generalize n / 256 ^ (k - (i + 1)) = v; omega
    have hv2 : n / 256 ^ (k - i) ≤ n := Nat.div_le_self _ _
    have e3 : (wrapK .u8 ((n / 256 ^ (k - 1 - i) % 256 : Nat) : Int)) = ((UInt8.ofNat (n / 256 ^ (k - 1 - i) % 256)).toNat : Int) := by
      rw [u8c]; simp
    rw [e1, e2, e3, wrapK_i64 (n := ((n / 256 ^ (k - i) : Nat) : Int)) ⟨by generalize n / 256 ^ (k - i) = v at *; omega, by generalize n / 256 ^ (k - i) = v at *; omega⟩, wrapK_i64 (n := (i : Int) - 1) ⟨by omega, by omega⟩]
    refine ⟨by omega, by simp only; omega, ?_⟩
    unfold PStore
    simp only [Int.toNat_natCast, Nat.mul_one, Nat.zero_add]
    rw [List.getElem?_append_right (by omega)]
    simp only [Nat.sub_self, List.getElem?_cons_zero]
    refine ⟨by rw [byAV_len, hl]; simp; omega, trivial, ⟨i, cur.set i (UInt8.ofNat (n / 256 ^ (k - 1 - i) % 256)), rfl, by omega, ?_, by simp [hl], fun j hj hj2 => ?_⟩, by omega⟩
    · rw [splice_set (by omega)]
      simp
    · rw [List.getElem?_set]
      split
      · rename_i he; subst he
        rw [if_pos (by omega), beL_get k n i (by omega)]
      · exact hc j (by omega) hj2
  · replace h1 := of_decide_eq_false h1
    have : i' = 0 := by omega
    subst this
    refine fin cur _ hl (fun j hj => hc j (by omega) hj) ?_
    rw [Nat.sub_zero]
    have : (((n / 256 ^ k : Nat) : Int) == 0) = decide (n / 256 ^ k = 0) := by
      generalize n / 256 ^ k = v
      rw [Bool.eq_iff_iff]; simp
    rw [this]
    congr 1
    rw [Nat.div_eq_zero_iff_lt (Nat.pow_pos (by omega))])

set_option maxRecDepth 20000 in
/-- The document's Put of a number. -/
theorem t74 {n : Nat} (hn : n < M63) (hQ : ∀ q h', New byE h h' q (numB n) → Q (.sl q) h') : AC Try.prog 74 [.int .i64 n] h Q := ac74 (by
  have hn0 := hn
  simp only [M63] at hn
  unfold vc74 PNew
  refine vif_mk (fun g => ?_) (fun g => ?_)
  · replace g := of_decide_eq_true g
    exact hQ _ _ (New.mk1 (E := byE) (by rw [numB_lo (by omega)]; rfl) (by rw [numB_lo (by omega), by1 (by omega)]))
  refine vif_mk (fun g2 => ?_) (fun g2 => ?_)
  · replace g := of_decide_eq_false g
    replace g2 := of_decide_eq_true g2
    refine hQ _ _ (New.mk1 (E := byE) (by rw [numB_mid (by omega) (by omega)]; rfl) ?_)
    rw [wrapK_i64 (n := (n : Int) - 240) ⟨by omega, by omega⟩, tmod_pos (by omega), tdiv_pos (by omega)]
    have e1 : ((n : Int) - 240) / 256 = (((n - 240) / 256 : Nat) : Int) := by omega
    have e2 : wrapK .u8 (((n : Int) - 240) % 256) = wrapK .u8 (((n - 240 : Nat) : Int)) := by rw [wrapK_u8, wrapK_u8]; omega
    rw [e1, e2, wrapK_i64 (n := (((n - 240) / 256 : Nat) : Int)) ⟨by omega, by omega⟩, wrapK_i64 ⟨by omega, by omega⟩]
    exact byMid (by omega) (by omega) (by omega) rfl
  · replace g := of_decide_eq_false g
    replace g2 := of_decide_eq_false g2
    have hw := wid_le (n := n) hn0
    have fin : ∀ (k : Nat) (q : Option SL) (hA hB : Heap), k = wid n → Ext h hA → New byE hA hB q (beL n k) → ∀ b : Nat, b = 246 + k → PAppendS 1 1 (some ⟨hB.length, 0, 1, 1, 0⟩) q (hB ++ [.cells [.int .u8 (wrapK .u8 (b : Int))] true]) fun q16 h17 => Q (.sl q16) h17 := by
      intro k q hA hB hk hxA N b hb
      subst hk hb
      have N1 : New byE h (hB ++ [.cells [.int .u8 (wrapK .u8 ((246 + wid n : Nat) : Int))] true]) (some ⟨hB.length, 0, 1, 1, 0⟩) [UInt8.ofNat (246 + wid n)] := (New.mk1 (E := byE) rfl (by1 (by omega))).of (hxA.trans N.1)
      refine New.append (E := byE) N1 (N.hasL.mono (Ext.app _ _)) (by simp [beL_len]; omega) fun q14 h15 N2 => hQ _ _ ?_
      rw [numB_hi (by omega)]
      exact N2
    refine ⟨fun xs h6 => ∃ i : Nat, xs = [.int .i64 i] ∧ 2 ≤ i ∧ i ≤ 8 ∧ Ext h h6 ∧ i ≤ wid n, fun xs _ => match xs with | [.int _ i] => (8 - i).toNat | _ => 0, ⟨2, rfl, by omega, by omega, .refl _, ?_⟩, ?_⟩
    · rcases Nat.lt_or_ge (wid n) 2 with h | h
      · have := (wid_lt 1 n (by omega)).1 (by omega)
        simp at this; omega
      · exact h
    rintro i h9 ⟨i', hx, hi, hi8, hx9, hw2⟩
    simp only [List.cons.injEq, AV.int.injEq, true_and, and_true] at hx
    subst hx
    refine vif_mk (fun h1 => ?_) (fun h1 => ?_)
    · replace h1 := of_decide_eq_true h1
      refine t115 hn0 ⟨by omega, by omega⟩ fun q12 h11 N => ⟨q12, _, rfl, ?_⟩
      have hiff := wid_lt i' n (by omega)
      refine vif_mk (fun h2 => ?_) (fun h2 => ?_)
      · replace h2 := of_decide_eq_true h2
        rw [wrapK_i64 (n := 246 + (i' : Int)) ⟨by omega, by omega⟩]
        have e : (246 + (i' : Int)) = ((246 + i' : Nat) : Int) := by omega
        rw [e]
        exact fin i' q12 h9 h11 (by have := hiff.2 h2; omega) hx9 N _ rfl
      · replace h2 := of_decide_eq_false h2
        rw [wrapK_i64 ⟨by omega, by omega⟩]
        refine ⟨trivial, ⟨i' + 1, by simp, by omega, by omega, hx9.trans N.1, ?_⟩, by simp only; omega⟩
        have : ¬ wid n ≤ i' := fun hh => h2 (hiff.1 hh)
        omega
    · replace h1 := of_decide_eq_false h1
      have : i' = 8 := by omega
      subst this
      refine t115 (k := 8) hn0 ⟨by omega, by omega⟩ fun q12 h11 N => ⟨q12, _, rfl, ?_⟩
      have := fin 8 q12 h9 h11 (by omega) hx9 N 254 rfl
      exact this)

theorem t75 {a b : Nat} (ha : a < M63) (hb : b < M63) (hQ : ∀ q h', New byE h h' q (numB a ++ numB b) → Q (.sl q) h') : AC Try.prog 75 [.agg [.int .i64 a, .int .i64 b]] h Q := ac75 (by
  unfold vc75
  refine t74 ha fun q5 h4 N => ⟨q5, rfl, rfl, ?_⟩
  refine t74 hb fun q8 h7 N2 => ⟨q8, rfl, ?_⟩
  have h1 := numB_len ha
  have h2 := numB_len hb
  exact New.append (E := byE) (N.ext N2.1) N2.hasL (by omega) fun q9 h10 N3 => hQ _ _ N3)

theorem t76 {s : Bs} (hs : s.length ≤ 100000) (hQ : ∀ q h', New byE h h' q (numB s.length ++ s) → Q (.sl q) h') : AC Try.prog 76 [.str s] h Q := ac76 (by
  unfold vc76
  refine t74 (by simp only [M63]; omega) fun q4 h3 N => ⟨q4, rfl, ?_⟩
  have hl := numB_len (n := s.length) (by simp only [M63]; omega)
  rw [← byE_all]
  exact New.append0 (E := byE) N (by omega) fun q' h2 N2 => hQ _ _ N2)

set_option maxRecDepth 20000 in
/-- The document's Put of an edit. -/
theorem t20 {e : EV} {d : ED} (hR : EdR h e d) (hc : chk d = true) (hQ : ∀ q h', New byE h h' q (encD d) → Q (.sl q) h') : AC Try.prog 20 [evV e] h Q := ac20 (by
  obtain ⟨r1, r2, r3, hL⟩ := hR
  have hlen := hL.len
  obtain ⟨⟨c1, c1'⟩, ⟨c2, c2'⟩, ⟨c3, c3'⟩, c4, c5⟩ := chk_nums hc
  have len63 : d.2.2.2.length < M63 := by simp only [M63]; omega
  unfold vc20
  rw [r1, r2, r3, hlen, c1, c2, c3]
  have b1 := numB_len c1'
  have b2 := numB_len c2'
  have b3 := numB_len c3'
  have b4 := numB_len len63
  refine t74 c1' fun q7 h6 N1 => ⟨q7, rfl, rfl, ?_⟩
  refine t75 c2' c3' fun q10 h9 N2 => ⟨q10, rfl, ?_⟩
  refine New.append (E := byE) (N1.ext N2.1) N2.hasL (by simp only [List.length_append]; omega) fun q11 h12 N3 => ?_
  refine t74 len63 fun q15 h14 N4 => ⟨q15, rfl, ?_⟩
  refine New.append (E := byE) (N3.ext N4.1) N4.hasL (by simp only [List.length_append]; omega) fun q16 h17 N5 => ?_
  generalize hhd : numB d.1.toNat ++ (numB d.2.1.toNat ++ numB d.2.2.1.toNat) ++ numB d.2.2.2.length = hd at N5
  have hhd' : hd = numB d.1.toNat ++ numB d.2.1.toNat ++ numB d.2.2.1.toNat ++ numB d.2.2.2.length := by rw [← hhd]; simp
  have hhl : hd.length ≤ 36 := by rw [hhd']; simp only [List.length_append]; omega
  refine ⟨fun xs h6 => ∃ (q2 : Option SL) (i : Nat), xs = [.sl q2, .int .i64 i] ∧ i ≤ d.2.2.2.length ∧ New byE h h6 q2 (hd ++ encRs (d.2.2.2.take i)), fun xs _ => match xs with | [_, .int _ i] => (d.2.2.2.length - i).toNat | _ => 0, ⟨_, 0, rfl, by omega, by simpa [encRs] using N5⟩, ?_⟩
  rintro q2 i h22 ⟨q2', i', hx, hi, N⟩
  simp only [List.cons.injEq, AV.int.injEq, AV.sl.injEq, true_and, and_true] at hx
  obtain ⟨rfl, rfl⟩ := hx
  refine vif_mk (fun g => ?_) (fun g => ?_)
  · replace g := of_decide_eq_true g
    have atR : ∀ {h' : Heap} {K : PA → Prop}, Ext h h' → (∀ pp y, d.2.2.2[i']? = some y → cellsAt h' pp 3 = some (refE.f y) → K pp) → vIdx e.2.2.2 (i' : Int) 3 K := by
      intro h' K hx hK
      refine HasL.idx (E := refE) (hL.mono hx) (by omega) (by omega) fun pp y hy hcy => hK pp y (by simpa using hy) hcy
    refine atR N.1 fun pp y hy' hcy => ⟨y.1, by have := cellsAt_sub (k := 0) (m := 1) hcy (by omega); simpa [refE] using this, ?_⟩
    have hok : refOk y = true := by rw [List.all_eq_true] at c5; exact c5 y (List.mem_of_getElem? hy')
    obtain ⟨y1, ⟨y2, y2'⟩, ⟨y3, y3'⟩⟩ := ref_nums hok
    have bl := bnd_enc c4 c5 i'
    have d1 := numB_len (n := y.1.length) (by simp only [M63]; omega)
    have d2 := numB_len y2'
    have d3 := numB_len y3'
    refine t76 (s := y.1) (by omega) fun q27 h26 M1 => ⟨q27, rfl, ?_⟩
    refine New.append (E := byE) (N.ext M1.1) M1.hasL (by simp only [List.length_append]; omega) fun q28 h29 O1 => ?_
    refine atR O1.1 fun pp2 z hz hcz => ?_
    rw [hy'] at hz; cases hz
    refine ⟨y.2.1, by have := cellsAt_sub (k := 1) (m := 1) hcz (by omega); simpa [refE] using this, ?_⟩
    rw [y2]
    refine t74 y2' fun q34 h33 M2 => ⟨q34, rfl, ?_⟩
    refine New.append (E := byE) (O1.ext M2.1) M2.hasL (by simp only [List.length_append]; omega) fun q35 h36 O2 => ?_
    refine atR O2.1 fun pp3 z hz hcz => ?_
    rw [hy'] at hz; cases hz
    refine ⟨y.2.2, by have := cellsAt_sub (k := 2) (m := 1) hcz (by omega); simpa [refE] using this, ?_⟩
    rw [y3]
    refine t74 y3' fun q41 h40 M3 => ⟨q41, rfl, ?_⟩
    refine New.append (E := byE) (O2.ext M3.1) M3.hasL (by simp only [List.length_append]; omega) fun q42 h43 O3 => ?_
    rw [wrapK_i64 ⟨by omega, by omega⟩]
    refine ⟨⟨rfl, trivial⟩, ⟨q42, i' + 1, by simp, by omega, ?_⟩, by simp only; omega⟩
    rw [encRs_take hy']
    simpa [encR] using O3
  · replace g := of_decide_eq_false g
    have : i' = d.2.2.2.length := by omega
    subst this
    refine hQ _ _ ?_
    rw [encD_take, ← hhd']
    exact N)
end
end Go.Proofs.Ytceplmmmlindnaa

/- The document's Apply and Edits. -/
namespace Go.Proofs.Ytceplmmmlindnaa
open Go.Ab
set_option linter.unusedVariables false
set_option linter.unusedSimpArgs false

/-- A list just copied into nothing. -/
def Own {α : Type} (E : Enc α) (h : Heap) (q : Option SL) (l : List α) : Prop := (l = [] ∧ ∃ a, q = some ⟨a, 0, 0, 0, 0⟩ ∧ h[a]? = some (.cells [] true)) ∨ (l ≠ [] ∧ ∃ a, q = some ⟨a, 0, l.length, l.length, E.sz⟩ ∧ h[a]? = some (.cells (E.all l) true))
theorem Own.ext {α : Type} {E : Enc α} {h h' : Heap} {q : Option SL} {l : List α} (O : Own E h q l) (K : Ext h h') : Own E h' q l := by
  rcases O with ⟨a, b, c, d⟩ | ⟨a, b, c, d⟩
  · exact .inl ⟨a, b, c, K _ _ d⟩
  · exact .inr ⟨a, b, c, K _ _ d⟩
theorem Own.hasL {α : Type} {E : Enc α} {h : Heap} {q : Option SL} {l : List α} (O : Own E h q l) : HasL E h q l := by
  rcases O with ⟨rfl, a, rfl, hb⟩ | ⟨hne, a, rfl, hb⟩
  · refine ⟨rfl, Nat.le_refl _, .inl rfl, ?_⟩
    simp [cellsAt, hb, Enc.all]
  · refine ⟨rfl, Nat.le_refl _, .inr rfl, ?_⟩
    rw [cellsAt_mk (p := ⟨a, 0⟩) hb (by simp [Enc.all_length])]
    simp [← Enc.all_length]

theorem copy0 {α : Type} {E : Enc α} {h : Heap} {a : Nat} {q : Option SL} {l : List α} {by' : Nat} {K : Option SL → Heap → Prop} (ha : h[a]? = some (.cells [] true)) (H : HasL E h q l) (hb : l.length * by' ≤ 140737488355328)
    (hK : ∀ q' h', Ext h h' → Own E h' q' l → (∀ s, q' = some s → s.b = a ∨ h.length ≤ s.b) → K q' h') : PAppendS E.sz by' (some ⟨a, 0, 0, 0, 0⟩) q h K := by
  refine ⟨E.all l, H.cells, by rw [Enc.all_length, H.len], ?_⟩
  rw [H.len]
  simp only [Nat.zero_add, Nat.zero_mul]
  split
  · rename_i h0
    have : l = [] := List.eq_nil_of_length_eq_zero (by omega)
    subst this
    rw [ha]
    have e0 : E.all ([] : List α) = [] := rfl
    simp only [e0, splice_nil, List.length_nil]
    have hs : h.set a (.cells [] true) = h := set_same ha
    rw [hs]
    exact ⟨by simp, hK _ _ (.refl _) (.inl ⟨rfl, a, rfl, ha⟩) (fun s hs => by cases hs; exact .inl rfl)⟩
  · rename_i h0
    refine ⟨hb, E.pos, ?_⟩
    have hc : cellsAt h ⟨a, 0⟩ 0 = some [] := by simp [cellsAt, ha]
    rw [hc, ha]
    simp only [if_true, List.nil_append]
    refine hK _ _ (.app _ _) (.inr ⟨fun h => h0 (by rw [h]; simp), h.length, rfl, by simp⟩) (fun s hs => by cases hs; exact .inr (Nat.le_refl _))

theorem appendOne {α : Type} {E : Enc α} {h : Heap} {q src : Option SL} {l : List α} {x : α} {by' : Nat} {K : Option SL → Heap → Prop} (O : Own E h q l) (H : HasL E h src [x]) (hb : (l.length + 1) * by' ≤ 140737488355328)
    (hK : ∀ q' h', Own E h' q' (l ++ [x]) → Keeps (fun b => ∃ s, q = some s ∧ s.b = b) h h' → h.length ≤ h'.length → (∀ s', q' = some s' → h.length ≤ s'.b) → K q' h') : PAppendS E.sz by' q src h K := by
  refine ⟨E.all [x], H.cells, by rw [Enc.all_length, H.len], ?_⟩
  rw [H.len]
  rcases O with ⟨rfl, a, rfl, ha⟩ | ⟨hne, a, rfl, ha⟩
  · simp only [List.length_cons, List.length_nil]
    rw [if_neg (by omega)]
    have hc : cellsAt h ⟨a, 0⟩ (0 * E.sz) = some [] := by simp [cellsAt, ha]
    simp only [List.length_nil] at hb
    refine ⟨hb, E.pos, ?_⟩
    rw [hc, ha]
    simp only [if_true, List.nil_append]
    exact hK _ _ (.inr ⟨by simp, h.length, rfl, by simp⟩) (keeps_of_ext (Ext.app _ _)) (by simp) (fun s hs => by cases hs; exact Nat.le_refl _)
  · simp only [List.length_cons, List.length_nil]
    rw [if_neg (by omega)]
    have hc : cellsAt h ⟨a, 0⟩ (l.length * E.sz) = some (E.all l) := by
      rw [cellsAt_mk (p := ⟨a, 0⟩) ha (by simp [Enc.all_length])]
      simp [← Enc.all_length]
    refine ⟨hb, E.pos, ?_⟩
    rw [hc, ha]
    simp only
    rw [if_neg (by have := E.pos; omega)]
    refine ⟨trivial, trivial, hK _ _ (.inr ⟨by simp, h.length, by simp, ?_⟩) ?_ (by simp) (fun s hs => by cases hs; exact Nat.le_refl _)⟩
    · rw [List.getElem?_append_right (by simp)]
      simp [Enc.all_append]
    · refine Keeps.trans ?_ (keeps_of_ext (Ext.app _ _))
      intro b B hb hB
      rw [List.getElem?_set, if_neg]
      · exact hB
      · intro he; exact hb ⟨_, rfl, he⟩

section
variable {h : Heap} {Q : AV → Heap → Prop} {p : Nat} {has : Bool} {done : List ED} {mark : ED}

/-- The document's Apply. -/
theorem u24 {D : Nat → Prop} (S : RefS h D p has done mark) (hD : ∀ b, D b → b < h.length) {e : EV} {d : ED} (hR : EdR h e d) (hp : ∀ s, e.2.2.2 = some s → ¬ D s.b ∧ s.b ≠ p) (hd : done.length ≤ 100)
    (hno : (chk d && goes has done mark d) = false → Q (.int .i64 (resV has done mark d)) h)
    (hgo : ∀ h', (chk d && goes has done mark d) = true → RefS h' D p (nHas d) (nDone done d) (nMark d) → Keeps (fun b => b = p) h h' → h.length ≤ h'.length → Q (.int .i64 0) h') : AC Try.prog 24 [.ptr (some ⟨p, 0⟩), evV e] h Q := ac24 (by
  have S0 := S.view
  obtain ⟨qd, m, L, h1, h2, h3, h4, h5, h6, h7, h8, h9, h10⟩ := S
  have r1 : e.1 = d.1 := hR.1
  unfold vc24
  refine u17 (e := e) hR ⟨_, rfl, ?_⟩
  cases hc : chk d with
  | false =>
    simp only [hc, Bool.false_eq_true, if_false, resV, Bool.false_and] at hno
    simp only [Bool.not_false, vif]
    exact hno trivial
  | true =>
  simp only [Bool.not_true, vif]
  refine u81 S0 (e := e) hR ⟨_, rfl, vif_mk (fun g2 => ?_) fun g2 => ?_⟩
  · simp only [Bool.not_eq_true'] at g2
    simp only [hc, g2, resV, if_true, Bool.false_eq_true, if_false, Bool.and_false] at hno
    exact hno trivial
  have hg : goes has done mark d = true := by simpa using g2
  have hyes : (chk d && goes has done mark d) = true := by rw [hc, hg]; rfl
  have hrefs : d.2.2.2.length ≤ 256 := by
    simp only [chk, Bool.and_eq_true, decide_eq_true_eq] at hc
    exact hc.1.2
  have hpl := lt_of_get h1
  have live4 := HasL.live h4
  have hrl := HasL.live hR.2.2.2
  rw [r1]
  refine vif_mk (fun g3 => ?_) (fun g3 => ?_)
  · have g3' : (d.1 == 2) = true := g3
    have e1 : nHas d = false := by simp [nHas, g3']
    have e2 : nDone done d = done ++ [d] := by simp [nDone, g3']
    have e3 : nMark d = zeroD := by simp [nMark, g3']
    have tail : ∀ (q20 : Option SL) (h21 : Heap), Ext h h21 → Own edE h21 q20 (L ++ [e]) → (∀ s, q20 = some s → h.length ≤ s.b) →
        vPtr (some (⟨p, 0⟩ : PA)) fun p22 => PStore h21 ⟨p22.b, p22.o + 0⟩ [.sl q20] fun h23 => vPtr (some (⟨p, 0⟩ : PA)) fun p24 => PStore h23 ⟨p24.b, p24.o + 1⟩ [.int .i64 0, .int .i64 0, .int .i64 0, .sl none] fun h25 => vPtr (some (⟨p, 0⟩ : PA)) fun p26 => PStore h25 ⟨p26.b, p26.o + 5⟩ [.bool false] fun h27 => Q (.int .i64 0) h27 := by
      intro q20 h21 hx O hq
      have p21 := hx _ _ h1
      have hpl21 := lt_of_get p21
      have hl21 := hx.len
      refine store6v p21 (o := 0) ?_ ?_
      · simp
      have p23 : (h21.set p (.cells (splice [.sl qd, .int .i64 m.1, .int .i64 m.2.1, .int .i64 m.2.2.1, .sl m.2.2.2, .bool has] 0 [.sl q20]) true))[p]? = some (.cells [.sl q20, .int .i64 m.1, .int .i64 m.2.1, .int .i64 m.2.2.1, .sl m.2.2.2, .bool has] true) := by
        rw [List.getElem?_set_self hpl21]; rfl
      refine store6v p23 (o := 1) ?_ ?_
      · simp
      rw [List.set_set]
      have p25 : (h21.set p (.cells (splice [.sl q20, .int .i64 m.1, .int .i64 m.2.1, .int .i64 m.2.2.1, .sl m.2.2.2, .bool has] 1 [.int .i64 0, .int .i64 0, .int .i64 0, .sl none]) true))[p]? = some (.cells [.sl q20, .int .i64 0, .int .i64 0, .int .i64 0, .sl none, .bool has] true) := by
        rw [List.getElem?_set_self hpl21]; rfl
      refine store6v p25 (o := 5) ?_ ?_
      · simp
      rw [List.set_set]
      have Kset : Keeps (fun b => b = p) h21 (h21.set p (.cells (splice [.sl q20, .int .i64 0, .int .i64 0, .int .i64 0, .sl none, .bool has] 5 [.bool false]) true)) := keeps_set rfl
      have Kall : Keeps (fun b => b = p) h (h21.set p (.cells (splice [.sl q20, .int .i64 0, .int .i64 0, .int .i64 0, .sl none, .bool has] 5 [.bool false]) true)) := (keeps_of_ext hx).trans Kset
      refine hgo _ hyes ?_ Kall (by simp; omega)
      rw [e1, e2, e3]
      refine ⟨q20, zeroV, L ++ [e], ?_, h2, fun s hs => ⟨fun hd => by have := hD _ hd; have := hq s hs; omega, by have := hq s hs; omega⟩, Kset.hasL (fun s hs => by have := hq s hs; omega) O.hasL, by simp [h5], ?_, ⟨rfl, rfl, rfl, rfl⟩, fun s hs => (by cases hs), ?_, by simp⟩
      · rw [List.getElem?_set_self hpl21]; rfl
      · intro j x y hj hy
        rw [List.getElem?_append] at hj hy
        split at hj
        · rw [if_pos (by omega)] at hy
          obtain ⟨r, c⟩ := h6 j x y hj hy
          exact ⟨Kall.edR (fun s hs => (c s hs).2) r, c⟩
        · rw [if_neg (by omega)] at hy
          have j0 : j - L.length = 0 := by have := lt_of_get hj; simp at this; omega
          have y0 : j - done.length = 0 := by omega
          rw [j0] at hj
          rw [y0] at hy
          simp at hj hy
          subst hj hy
          exact ⟨Kall.edR (fun s hs => (hp s hs).2) hR, hp⟩
      · intro x hx'
        rcases List.mem_append.1 hx' with hx' | hx'
        · exact h9 x hx'
        · simp at hx'; subst hx'; exact hrefs
    have ecells : [AV.int .i64 d.1, .int .i64 e.2.1, .int .i64 e.2.2.1, .sl e.2.2.2] = edE.all [e] := by rw [← r1]; simp [Enc.all, edE]
    have rd : ∀ h' : Heap, Ext h h' → ∃ q, cellsAt h' ⟨p, 0 + 0⟩ 1 = some [.sl q] ∧ LV.val (.sl q) = LV.val (.sl qd) := fun h' hx => ⟨qd, cells6 (hx _ _ h1) (o := 0) (k := 1) (by simp), rfl⟩
    have fin : ∀ (h19 : Heap) (q16 : Option SL) (a18 : Nat), Ext h h19 → Own edE h19 q16 L → (∀ s, q16 = some s → h.length ≤ s.b) → h19[a18]? = some (.cells (edE.all [e]) true) → PAppendS 4 48 q16 (some ⟨a18, 0, 1, 1, 0⟩) h19 fun q20 h21 => vPtr (some (⟨p, 0⟩ : PA)) fun p22 => PStore h21 ⟨p22.b, p22.o + 0⟩ [.sl q20] fun h23 => vPtr (some (⟨p, 0⟩ : PA)) fun p24 => PStore h23 ⟨p24.b, p24.o + 1⟩ [.int .i64 0, .int .i64 0, .int .i64 0, .sl none] fun h25 => vPtr (some (⟨p, 0⟩ : PA)) fun p26 => PStore h25 ⟨p26.b, p26.o + 5⟩ [.bool false] fun h27 => Q (.int .i64 0) h27 := by
      intro h19 q16 a18 hx O hq ha
      have hsrc : HasL edE h19 (some ⟨a18, 0, 1, 1, 0⟩) [e] := by
        refine ⟨rfl, Nat.le_refl _, .inl rfl, ?_⟩
        rw [cellsAt_mk (p := ⟨a18, 0⟩) ha (by simp [Enc.all_length])]
        simp [Enc.all, edE]
      refine appendOne (E := edE) O hsrc (by omega) fun q20 h21 O2 K2 hl2 hq2 => tail q20 h21 ?_ O2 (fun s hs => by have := hq2 s hs; have := hx.len; omega)
      intro b B hB
      exact K2 b B (fun ⟨s, a1, a2⟩ => by have := hq s a1; have := lt_of_get hB; omega) (hx _ _ hB)
    refine ⟨qd, cells6 h1 (o := 0) (k := 1) (by simp), ?_⟩
    unfold PNew
    rw [ecells]
    refine ⟨⟨trivial, rd _ (.app _ _), ?_, ?_⟩, ?_⟩
    · refine copy0 (E := edE) (a := h.length) (by simp) (h4.mono (Ext.app _ _)) (by omega) fun q16 h17 hx O hq => ⟨trivial, rd _ (((Ext.app _ _).trans hx).trans (Ext.app _ _)), ?_⟩
      refine fin _ q16 _ (((Ext.app _ _).trans hx).trans (Ext.app _ _)) (O.ext (Ext.app _ _)) (fun s hs => ?_) (by simp)
      rcases hq s hs with a | a
      · omega
      · simp at a; omega
    · refine ⟨rd _ ((Ext.app _ _).trans (Ext.app _ _)), ?_⟩
      refine copy0 (E := edE) (a := h.length) (by rw [List.getElem?_append_left (by simp)]; simp) ((h4.mono (Ext.app _ _)).mono (Ext.app _ _)) (by omega) fun q16 h17 hx O hq => ⟨trivial, ?_⟩
      refine fin _ q16 _ (((Ext.app _ _).trans (Ext.app _ _)).trans hx) O (fun s hs => ?_) (hx _ _ (by simp))
      rcases hq s hs with a | a
      · omega
      · simp at a; omega
    · refine ⟨rd _ (.app _ _), trivial, rd _ ((Ext.app _ _).trans (Ext.app _ _)), ?_⟩
      refine copy0 (E := edE) (a := (h ++ [Blk.cells (edE.all [e]) true]).length) (by simp) ((h4.mono (Ext.app _ _)).mono (Ext.app _ _)) (by omega) fun q16 h17 hx O hq => ⟨trivial, ?_⟩
      refine fin _ q16 _ (((Ext.app _ _).trans (Ext.app _ _)).trans hx) O (fun s hs => ?_) (hx _ _ (by rw [List.getElem?_append_left (by simp)]; simp))
      rcases hq s hs with a | a
      · simp at a; omega
      · simp at a; omega
  · have g3' : (d.1 == 2) = false := g3
    have e1 : nHas d = true := by simp [nHas, g3']
    have e2 : nDone done d = done := by simp [nDone, g3']
    have e3 : nMark d = d := by simp [nMark, g3']
    refine store6v h1 (o := 1) ?_ ?_
    · simp
    have p60 : (h.set p (.cells (splice [.sl qd, .int .i64 m.1, .int .i64 m.2.1, .int .i64 m.2.2.1, .sl m.2.2.2, .bool has] 1 [.int .i64 d.1, .int .i64 e.2.1, .int .i64 e.2.2.1, .sl e.2.2.2]) true))[p]? = some (.cells [.sl qd, .int .i64 e.1, .int .i64 e.2.1, .int .i64 e.2.2.1, .sl e.2.2.2, .bool has] true) := by
      rw [List.getElem?_set_self hpl, r1]; rfl
    refine store6v p60 (o := 5) ?_ ?_
    · simp
    rw [List.set_set]
    have Kset : Keeps (fun b => b = p) h (h.set p (.cells (splice [.sl qd, .int .i64 e.1, .int .i64 e.2.1, .int .i64 e.2.2.1, .sl e.2.2.2, .bool has] 5 [.bool true]) true)) := keeps_set rfl
    refine hgo _ hyes ?_ Kset (by simp)
    rw [e1, e2, e3]
    refine ⟨qd, e, L, ?_, h2, h3, Kset.hasL (fun s hs => (h3 s hs).2) h4, h5, ?_, Kset.edR (fun s hs => (hp s hs).2) hR, hp, h9, hrefs⟩
    · rw [List.getElem?_set_self hpl]; rfl
    · intro j x y hj hy
      obtain ⟨r, c⟩ := h6 j x y hj hy
      exact ⟨Kset.edR (fun s hs => (c s hs).2) r, c⟩)

/-- The document's Edits. -/
theorem u82 (S : StV h p has done mark) (hd : done.length ≤ 100) (hQ : ∀ q h', Ext h h' → InL h' q (edits has done mark) → Q (.sl q) h') : AC Try.prog 82 [.ptr (some ⟨p, 0⟩)] h Q := ac82 (by
  obtain ⟨qd, m, h1, ⟨L, g, hL, he⟩, h3, h7, h8⟩ := S
  unfold vc82 PNew
  have hx0 : Ext h (h ++ [.cells [] true]) := .app _ _
  refine ⟨qd, cells6 (hx0 _ _ h1) (o := 0) (k := 1) (by simp), ?_⟩
  refine copy0 (E := edE) (a := h.length) (by simp) (g.mono hx0) (by omega) fun q6 h7' hx O hq => ?_
  have hx1 := hx0.trans hx
  refine ⟨has, cells6 (hx1 _ _ h1) (o := 5) (k := 1) (by simp), ?_⟩
  have old : ∀ h', Ext h h' → ∀ (j : Nat) (e : EV) (d : ED), L[j]? = some e → done[j]? = some d → EdR h' e d := fun h' hx j e d a b => by
    have r := he j e d a b
    exact ⟨r.1, r.2.1, r.2.2.1, r.2.2.2.mono hx⟩
  have hown : ∀ s, q6 = some s → h.length ≤ s.b := fun s hs => by
    rcases hq s hs with a | a
    · omega
    · simp at a; omega
  cases has with
  | true =>
    simp only [vif]
    refine ⟨m.1, m.2.1, m.2.2.1, m.2.2.2, cells6 (hx1 _ _ h1) (o := 1) (k := 4) (by simp), ?_⟩
    have hx2 : Ext h7' (h7' ++ [.cells [.int .i64 m.1, .int .i64 m.2.1, .int .i64 m.2.2.1, .sl m.2.2.2] true]) := .app _ _
    have hsrc : HasL edE (h7' ++ [.cells [.int .i64 m.1, .int .i64 m.2.1, .int .i64 m.2.2.1, .sl m.2.2.2] true]) (some ⟨h7'.length, 0, 1, 1, 0⟩) [m] := HasL.new (E := edE) (l := [m]) rfl (by simp [Enc.all, edE])
    refine appendOne (E := edE) (O.ext hx2) hsrc (by omega) fun q2 h18 O2 K2 hl2 hq2 => hQ q2 h18 ?_ ?_
    · intro b B hB
      exact K2 b B (fun ⟨s, a1, a2⟩ => by have := hown s a1; have := lt_of_get hB; omega) (hx2 _ _ (hx1 _ _ hB))
    · have hxx : Ext h h18 := fun b B hB => K2 b B (fun ⟨s, a1, a2⟩ => by have := hown s a1; have := lt_of_get hB; omega) (hx2 _ _ (hx1 _ _ hB))
      refine ⟨L ++ [m], O2.hasL, by simp [edits, hL], fun j e d a b => ?_⟩
      simp only [edits, if_true] at b
      rw [List.getElem?_append] at a b
      split at a
      · rw [if_pos (by omega)] at b; exact old h18 hxx j e d a b
      · rw [if_neg (by omega)] at b
        have j0 : j - L.length = 0 := by have := lt_of_get a; simp at this; omega
        have y0 : j - done.length = 0 := by omega
        rw [j0] at a
        rw [y0] at b
        simp at a b
        subst a b
        exact ⟨h3.1, h3.2.1, h3.2.2.1, h3.2.2.2.mono hxx⟩
  | false =>
    simp only [vif]
    refine hQ q6 h7' hx1 ⟨L, O.hasL, by simp [edits, hL], fun j e d a b => ?_⟩
    simp only [edits, Bool.false_eq_true, if_false, List.append_nil] at b
    exact old h7' hx1 j e d a b)
end
end Go.Proofs.Ytceplmmmlindnaa
