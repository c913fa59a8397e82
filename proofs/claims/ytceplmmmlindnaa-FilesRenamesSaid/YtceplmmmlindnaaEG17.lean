/- The document's Check; what goes on in a state, with an exact frame. -/
import Derived.Test.YtceplmmmlindnaaEG8
import Derived.Test.YtceplmmmlindnaaEG15
import Derived.Test.YtceplmmmlindnaaEG16
namespace Go.Proofs.Ytceplmmmlindnaa
open Go.Ab
set_option linter.unusedVariables false
set_option linter.unusedSimpArgs false

section
variable {h : Heap} {Q : AV → Heap → Prop} {p : Nat} {has : Bool} {done : List ED} {mark : ED}

theorem loop17 {q : Option SL} {l : List Rf} (hL : HasL refE h q l) (hl : l.length ≤ 256) {kp : Prop} (hkp : kp) (hQ : Q (.bool (l.all refOk)) h) :
 ∃ (I9 : List AV → Heap → Prop) (m10 : List AV → Heap → Nat), I9 [.int .i64 0] h ∧
 ∀ n8 : Int, ∀ h11 : Heap, I9 [.int .i64 n8] h11 →
 vif (decide (n8 < (slLen q : Int)))
 (vIdx q n8 3 fun p12 =>
 ∃ s13 : List UInt8, ∃ n14 : Int, ∃ n15 : Int, cellsAt h11 p12 3 = some [.str s13, .int .i64 n14, .int .i64 n15] ∧
 vif (decide ((s13.length : Int) < 1))
 (Q (.bool false) h11)
 (vif (decide ((s13.length : Int) > 24))
 (Q (.bool false) h11)
 (vif (decide (n14 < 1))
 (Q (.bool false) h11)
 (vif (decide (n14 > 2305843009213693952))
 (Q (.bool false) h11)
 (vif (decide (n15 < 0))
 (Q (.bool false) h11)
 (vif (decide (n15 > 16384))
 (Q (.bool false) h11)
 (kp ∧ I9 [.int .i64 (wrapK .i64 (n8 + 1))] h11 ∧ m10 [.int .i64 (wrapK .i64 (n8 + 1))] h11 < m10 [.int .i64 n8] h11)))))))
 (Q (.bool true) h11) := by
  have hlen := hL.len
  refine ⟨fun xs h9 => h9 = h ∧ ∃ i : Nat, xs = [.int .i64 i] ∧ i ≤ l.length ∧ (l.take i).all refOk = true, fun xs _ => match xs with | [.int _ i] => (l.length - i).toNat | _ => 0, ⟨rfl, 0, rfl, by omega, by simp⟩, ?_⟩
  rintro i h9 ⟨rfl, i', hx, h0, hall⟩
  simp only [List.cons.injEq, AV.int.injEq, true_and, and_true] at hx
  subst hx
  refine vif_mk (fun h1 => ?_) (fun h1 => ?_)
  · simp only [decide_eq_true_eq] at h1
    refine hL.idx (by omega) (by omega) fun pp x hx hc => ?_
    have hx' : l[i']? = some x := by simpa using hx
    refine ⟨x.1, x.2.1, x.2.2, hc, ?_⟩
    have bad : refOk x = false → Q (.bool false) h9 := by
      intro hb
      have : l.all refOk = false := by rw [List.all_eq_false]; exact ⟨x, List.mem_of_getElem? hx', by simpa using hb⟩
      rw [this] at hQ; exact hQ
    refine vif_mk (fun g1 => bad ?_) fun g1 => vif_mk (fun g2 => bad ?_) fun g2 => vif_mk (fun g3 => bad ?_) fun g3 => vif_mk (fun g4 => bad ?_) fun g4 => vif_mk (fun g5 => bad ?_) fun g5 => vif_mk (fun g6 => bad ?_) fun g6 => ?_
    all_goals simp only [decide_eq_true_eq, decide_eq_false_iff_not] at g1
    rotate_right
    · simp only [decide_eq_false_iff_not] at g2 g3 g4 g5 g6
      have hok : refOk x = true := by
        unfold refOk
        have e1 : decide (1 ≤ x.1.length) = true := by simp; omega
        have e2 : decide (x.1.length ≤ 24) = true := by simp; omega
        have e3 : decide (1 ≤ x.2.1) = true := by simp; omega
        have e4 : decide (x.2.1 ≤ 2305843009213693952) = true := by simp; omega
        have e5 : decide (0 ≤ x.2.2) = true := by simp; omega
        have e6 : decide (x.2.2 ≤ 16384) = true := by simp; omega
        rw [e1, e2, e3, e4, e5, e6]; rfl
      rw [wrapK_i64 ⟨by omega, by omega⟩]
      refine ⟨hkp, ⟨rfl, i' + 1, by simp, by omega, take_succ_all hx' hall hok⟩, ?_⟩
      simp only; omega
    all_goals
      unfold refOk
      simp only [decide_eq_true_eq, decide_eq_false_iff_not, Bool.and_eq_false_iff] at *
      omega
  · simp only [decide_eq_false_iff_not] at h1
    have : i' = l.length := by omega
    subst this
    rw [List.take_length] at hall
    rw [hall] at hQ; exact hQ

/-- The document's Check. -/
theorem u17 {e : EV} {d : ED} (hR : EdR h e d) (hQ : Q (.bool (chk d)) h) : AC Try.prog 17 [evV e] h Q := ac17 (by
  obtain ⟨r1, r2, r3, hL⟩ := hR
  have hlen := hL.len
  have key : ∀ x : Bool, x = chk d → Q (.bool x) h := fun x hx => hx ▸ hQ
  unfold vc17
  rw [r1, r2, r3]
  have fin : (d.1 == 1 || (d.1 == 2 && d.2.2.1 == 0)) = true → atOk d.2.1 d.2.2.1 = true → decide ((slLen e.2.2.2 : Int) > 256) = false → Q (.bool (d.2.2.2.all refOk)) h := by
    intro g1 g2 g3
    refine key _ ?_
    simp only [decide_eq_false_iff_not] at g3
    have e3 : decide (d.2.2.2.length ≤ 256) = true := by simp; omega
    unfold chk
    rw [g1, g2, e3]; simp
  have h256 : decide ((slLen e.2.2.2 : Int) > 256) = true → chk d = false := by
    intro g
    simp only [decide_eq_true_eq] at g
    have e3 : decide (d.2.2.2.length ≤ 256) = false := by simp; omega
    simp [chk, e3]
  have hl' : decide ((slLen e.2.2.2 : Int) > 256) = false → d.2.2.2.length ≤ 256 := by
    intro g; simp only [decide_eq_false_iff_not] at g; omega
  refine vif_mk (fun g1 => vif_mk (fun g2 => key _ ?_) fun g2 => u64 ⟨_, rfl, ?_⟩) fun g1 => u64 ⟨_, rfl, ?_⟩
  · have e1 : (d.1 == 1) = false := by simpa using g1
    have e2 : (d.1 == 2) = false := by simpa using g2
    unfold chk; rw [e1, e2]; simp
  · have e2 : (d.1 == 2) = true := by simpa using g2
    refine vif_mk (fun g3 => key _ ?_) fun g3 => ?_
    · simp only [Bool.not_eq_true'] at g3; simp [chk, g3]
    have e3 : atOk d.2.1 d.2.2.1 = true := by simpa using g3
    refine vif_mk (fun _ => ?_) fun g4 => (by rw [e2] at g4; cases g4)
    refine vif_mk (fun g5 => key _ ?_) fun g5 => ?_
    · have e1 : (d.1 == 1) = false := by simpa using g1
      have e5 : (d.2.2.1 == 0) = false := by simpa using g5
      unfold chk; rw [e1, e5]; simp
    have e5 : (d.2.2.1 == 0) = true := by simpa using g5
    refine vif_mk (fun g6 => key _ (h256 g6).symm) fun g6 => ?_
    exact loop17 hL (hl' g6) ⟨rfl, trivial⟩ (fin (by rw [e2, e5]; simp) e3 g6)
  · have e1 : (d.1 == 1) = true := by simpa using g1
    have e2 : (d.1 == 2) = false := by
      have : d.1 = 1 := by simpa using e1
      rw [this]; rfl
    refine vif_mk (fun g3 => key _ ?_) fun g3 => ?_
    · simp only [Bool.not_eq_true'] at g3; simp [chk, g3]
    have e3 : atOk d.2.1 d.2.2.1 = true := by simpa using g3
    refine vif_mk (fun g4 => (by rw [e2] at g4; cases g4)) fun _ => ?_
    refine vif_mk (fun g6 => key _ (h256 g6).symm) fun g6 => ?_
    exact loop17 hL (hl' g6) ⟨rfl, trivial⟩ (fin (by rw [e1]; rfl) e3 g6))
end
end Go.Proofs.Ytceplmmmlindnaa

/- States with an exact frame: the engine's Apply, the document's. -/
namespace Go.Proofs.Ytceplmmmlindnaa
open Go.Ab
set_option linter.unusedVariables false
set_option linter.unusedSimpArgs false

section
variable {h : Heap} {Q : AV → Heap → Prop}
/-- Check. -/
theorem u18 {e : EV} {d : ED} (hR : EdR h e d) (hQ1 : Q (.int .i64 (if chk d then 0 else 140)) h) : AC Try.prog 18 [evV e] h Q := ac18 (by
  have hQ : ∀ n : Int, (n = 0 ∨ n = 140) → (n = 0 ↔ chk d = true) → Q (.int .i64 n) h := by
    intro n h1 h2
    cases hc : chk d with
    | true => rw [hc] at hQ1; have := h2.2 hc; subst this; exact hQ1
    | false =>
      rw [hc] at hQ1
      have : n = 140 := h1.resolve_left (fun h0 => by have := h2.1 h0; rw [hc] at this; cases this)
      subst this; exact hQ1
  obtain ⟨r1, r2, r3, hL⟩ := hR
  have hlen := hL.len
  unfold vc18
  rw [r1, r2, r3]
  have rest : (d.1 == 1 || (d.1 == 2 && d.2.2.1 == 0)) = true → ∀ n : Int, (n = 0 ↔ atOk d.2.1 d.2.2.1 = true) → vif (n != 0) (Q (.int .i64 140) h) (vif (decide ((slLen e.2.2.2 : Int) > 256)) (Q (.int .i64 140) h)
      (AC Try.prog 68 [.sl e.2.2.2, .func (.func 65) [] []] h fun v8 h9 => ∃ b10 : Bool, v8 = .bool b10 ∧ vif b10 (Q (.int .i64 140) h9) (Q (.int .i64 0) h9))) := by
    intro hk n hn
    refine vif_mk (fun h1 => hQ _ (by simp) ?_) fun h1 => vif_mk (fun h2 => hQ _ (by simp) ?_) fun h2 => ?_
    · have : atOk d.2.1 d.2.2.1 = false := by
        cases ha : atOk d.2.1 d.2.2.1
        · rfl
        · have := hn.2 ha; subst this; simp at h1
      simp [chk, this]
    · simp only [decide_eq_true_eq] at h2
      have : decide (d.2.2.2.length ≤ 256) = false := by simp; omega
      simp [chk, this]
    · simp only [decide_eq_false_iff_not] at h2
      refine t68 hL (by omega) ⟨_, rfl, ?_⟩
      have ha : atOk d.2.1 d.2.2.1 = true := hn.1 (by simpa using h1)
      have hl : decide (d.2.2.2.length ≤ 256) = true := by simp; omega
      cases hall : d.2.2.2.all refOk
      · exact hQ _ (by simp) (by simp [chk, hall])
      · exact hQ _ (by simp) (by unfold chk; rw [hk, ha, hl, hall]; simp)
  refine vif_mk (fun h1 => ?_) fun h1 => vif_mk (fun h2 => vif_mk (fun h3 => hQ _ (by simp) ?_) fun h3 => ?_) fun h2 => hQ _ (by simp) ?_
  · refine t67 fun n hn => ⟨n, rfl, rest ?_ n hn⟩
    rw [h1]; rfl
  · have e3 : (d.2.2.1 == 0) = false := by simpa using h3
    unfold chk
    rw [h1, e3]; simp
  · refine t67 fun n hn => ⟨n, rfl, rest ?_ n hn⟩
    have e3 : (d.2.2.1 == 0) = true := by simpa using h3
    rw [h2, e3]; simp
  · unfold chk
    rw [h1, h2]; simp)
end

/-- A state whose blocks are those of D. -/
def St2 (h : Heap) (D : Nat → Prop) (p : Nat) (has : Bool) (done : List ED) (mark : ED) : Prop :=
  ∃ (qd : Option SL) (m : EV) (L : List EV), h[p]? = some (.cells [.sl qd, .int .i64 m.1, .int .i64 m.2.1, .int .i64 m.2.2.1, .sl m.2.2.2, .bool has] true) ∧ D p ∧ (∀ s, qd = some s → D s.b ∧ s.b ≠ p) ∧ Grow edE h qd L ∧ L.length = done.length ∧
    (∀ (j : Nat) (e : EV) (d : ED), L[j]? = some e → done[j]? = some d → EdR h e d ∧ ∀ s, e.2.2.2 = some s → D s.b ∧ s.b ≠ p ∧ ∀ s', qd = some s' → s.b ≠ s'.b) ∧
    EdR h m mark ∧ (∀ s, m.2.2.2 = some s → D s.b ∧ s.b ≠ p ∧ ∀ s', qd = some s' → s.b ≠ s'.b) ∧ (∀ d ∈ done, d.2.2.2.length ≤ 256) ∧ mark.2.2.2.length ≤ 256 ∧ ∀ b, D b → b < h.length
/-- A state that has no block of D. -/
def RefS (h : Heap) (D : Nat → Prop) (p : Nat) (has : Bool) (done : List ED) (mark : ED) : Prop :=
  ∃ (qd : Option SL) (m : EV) (L : List EV), h[p]? = some (.cells [.sl qd, .int .i64 m.1, .int .i64 m.2.1, .int .i64 m.2.2.1, .sl m.2.2.2, .bool has] true) ∧ ¬ D p ∧ (∀ s, qd = some s → ¬ D s.b ∧ s.b ≠ p) ∧ HasL edE h qd L ∧ L.length = done.length ∧
    (∀ (j : Nat) (e : EV) (d : ED), L[j]? = some e → done[j]? = some d → EdR h e d ∧ ∀ s, e.2.2.2 = some s → ¬ D s.b ∧ s.b ≠ p) ∧
    EdR h m mark ∧ (∀ s, m.2.2.2 = some s → ¬ D s.b ∧ s.b ≠ p) ∧ (∀ d ∈ done, d.2.2.2.length ≤ 256) ∧ mark.2.2.2.length ≤ 256

section
variable {h h' : Heap} {D D' : Nat → Prop} {p : Nat} {has : Bool} {done : List ED} {mark : ED}
theorem St2.view (S : St2 h D p has done mark) : StV h p has done mark := by
  obtain ⟨qd, m, L, h1, h2, h3, h4, h5, h6, h7, h8, h9, h10, h11⟩ := S
  exact ⟨qd, m, h1, ⟨L, Acc.hasL h4, h5, fun j e d a b => (h6 j e d a b).1⟩, h7, h9, h10⟩
theorem RefS.view (S : RefS h D p has done mark) : StV h p has done mark := by
  obtain ⟨qd, m, L, h1, h2, h3, h4, h5, h6, h7, h8, h9, h10⟩ := S
  exact ⟨qd, m, h1, ⟨L, h4, h5, fun j e d a b => (h6 j e d a b).1⟩, h7, h9, h10⟩
theorem St2.keeps {X : Nat → Prop} (S : St2 h D p has done mark) (K : Keeps X h h') (hX : ∀ b, D b → ¬ X b) (hl : h.length ≤ h'.length) : St2 h' D p has done mark := by
  obtain ⟨qd, m, L, h1, h2, h3, h4, h5, h6, h7, h8, h9, h10, h11⟩ := S
  refine ⟨qd, m, L, K _ _ (hX _ h2) h1, h2, h3, h4.keeps K (fun s hs => hX _ (h3 s hs).1), h5, fun j e d a b => ?_, K.edR (fun s hs => hX _ (h8 s hs).1) h7, h8, h9, h10, fun b hb => by have := h11 b hb; omega⟩
  obtain ⟨r, c⟩ := h6 j e d a b
  exact ⟨K.edR (fun s hs => hX _ (c s hs).1) r, c⟩
/-- Behind a deed of the other state: its blocks are D' now. -/
theorem RefS.keeps (S : RefS h D p has done mark) (K : Keeps D h h') (hD : ∀ b, D' b → D b ∨ h.length ≤ b) : RefS h' D' p has done mark := by
  obtain ⟨qd, m, L, h1, h2, h3, h4, h5, h6, h7, h8, h9, h10⟩ := S
  have no : ∀ b, b < h.length → ¬ D b → ¬ D' b := fun b hb hn hd => by rcases hD b hd with h | h; exact hn h; omega
  have l4 := HasL.live h4
  refine ⟨qd, m, L, K _ _ h2 h1, no _ (lt_of_get h1) h2, fun s hs => ⟨no _ (l4 s hs) (h3 s hs).1, (h3 s hs).2⟩, K.hasL (fun s hs => (h3 s hs).1) h4, h5, fun j e d a b => ?_, K.edR (fun s hs => (h8 s hs).1) h7, fun s hs => ⟨no _ (HasL.live h7.2.2.2 s hs) (h8 s hs).1, (h8 s hs).2⟩, h9, h10⟩
  obtain ⟨r, c⟩ := h6 j e d a b
  exact ⟨K.edR (fun s hs => (c s hs).1) r, fun s hs => ⟨no _ (HasL.live r.2.2.2 s hs) (c s hs).1, (c s hs).2⟩⟩
theorem RefS.ext (S : RefS h D p has done mark) (K : Ext h h') : RefS h' D p has done mark := by
  obtain ⟨qd, m, L, h1, h2, h3, h4, h5, h6, h7, h8, h9, h10⟩ := S
  refine ⟨qd, m, L, K _ _ h1, h2, h3, h4.mono K, h5, fun j e d a b => ?_, ⟨h7.1, h7.2.1, h7.2.2.1, h7.2.2.2.mono K⟩, h8, h9, h10⟩
  obtain ⟨r, c⟩ := h6 j e d a b
  exact ⟨⟨r.1, r.2.1, r.2.2.1, r.2.2.2.mono K⟩, c⟩

variable {Q : AV → Heap → Prop}
theorem v79 (S : StV h p has done mark) {e : EV} {d : ED} (hR : EdR h e d) (hQ : Q (.bool (goes has done mark d)) h) : AC Try.prog 79 [.ptr (some ⟨p, 0⟩), evV e] h Q := ac79 (by
  obtain ⟨qd, m, h1, h2, h3, h7, h8⟩ := S
  obtain ⟨r1, r2, r3, hL⟩ := hR
  have key : ∀ b : Bool, b = goes has done mark d → Q (.bool b) h := fun b hb => hb ▸ hQ
  have hlen := h2.len
  unfold vc79
  refine ⟨qd, cells6 h1 (o := 0) (k := 1) (by simp), ?_⟩
  rw [r1, r2, r3, hlen]
  refine vif_mk (fun g1 => key _ ?_) fun g1 => vif_mk (fun g2 => key _ ?_) fun g2 => ?_
  · have : (d.2.1 == (done.length : Int)) = false := by simpa using g1
    simp [goes, this]
  · have : (d.2.1 == (done.length : Int)) = true := by simpa using g1
    simp [goes, this, g2]
  · have e1 : (d.2.1 == (done.length : Int)) = true := by simpa using g1
    refine ⟨has, cells6 h1 (o := 5) (k := 1) (by simp), ?_⟩
    refine vif_mk (fun g3 => key _ ?_) fun g3 => ?_
    · simp [goes, e1, g3]
    · refine ⟨m.2.2.1, ?_, key _ ?_⟩
      · have := cells6 h1 (o := 3) (k := 1) (by simp)
        simpa using this
      · have h3' : m.2.2.1 = mark.2.2.1 := h3.2.2.1
        simp [goes, e1, g2, g3, h3'])

/-- What Apply answers. -/
def resV (has : Bool) (done : List ED) (mark : ED) (d : ED) : Int := if chk d then (if goes has done mark d then 0 else 1) else 140

/-- The engine's Apply. -/
theorem v23 (S : St2 h D p has done mark) {e : EV} {d : ED} (hR : EdR h e d) (hp : ∀ s, e.2.2.2 = some s → ¬ D s.b) (hd : done.length ≤ 100)
    (hno : (chk d && goes has done mark d) = false → Q (.int .i64 (resV has done mark d)) h)
    (hgo : ∀ h' D', (chk d && goes has done mark d) = true → St2 h' D' p (nHas d) (nDone done d) (nMark d) → (∀ b, D' b → D b ∨ h.length ≤ b) → Keeps D h h' → h.length ≤ h'.length → Q (.int .i64 0) h') : AC Try.prog 23 [.ptr (some ⟨p, 0⟩), evV e] h Q := ac23 (by
  have S0 := S.view
  obtain ⟨qd, m, L, h1, h2, h3, h4, h5, h6, h7, h8, h9, h10, h11⟩ := S
  have r1 : e.1 = d.1 := hR.1
  unfold vc23
  refine u18 (e := e) hR ⟨_, rfl, ?_⟩
  cases hc : chk d with
  | false =>
    simp only [hc, Bool.false_eq_true, if_false, resV, Bool.false_and] at hno ⊢
    exact hno trivial
  | true =>
  simp only [if_true]
  refine v79 S0 (e := e) hR ⟨_, rfl, vif_mk (fun g2 => ?_) fun g2 => ?_⟩
  · simp only [Bool.not_eq_true'] at g2
    simp only [hc, g2, resV, if_true, Bool.false_eq_true, if_false, Bool.and_false] at hno
    exact hno trivial
  have hg : goes has done mark d = true := by simpa using g2
  have hyes : (chk d && goes has done mark d) = true := by rw [hc, hg]; rfl
  have hrefs : d.2.2.2.length ≤ 256 := by
    simp only [chk, Bool.and_eq_true, decide_eq_true_eq] at hc
    exact hc.1.2
  have hep : ∀ s, e.2.2.2 = some s → s.b ≠ p := fun s hs he => hp s hs (he ▸ h2)
  have hpl := lt_of_get h1
  refine store6v h1 (o := 1) ?_ ?_
  · simp
  have b1 : (h.set p (.cells (splice [.sl qd, .int .i64 m.1, .int .i64 m.2.1, .int .i64 m.2.2.1, .sl m.2.2.2, .bool has] 1 [.int .i64 0, .int .i64 0, .int .i64 0, .sl none]) true))[p]? = some (.cells [.sl qd, .int .i64 0, .int .i64 0, .int .i64 0, .sl none, .bool has] true) := by
    rw [List.getElem?_set_self hpl]; rfl
  refine store6v b1 (o := 5) ?_ ?_
  · simp
  rw [List.set_set]
  have e15 : splice [AV.sl qd, .int .i64 0, .int .i64 0, .int .i64 0, .sl none, .bool has] 5 [.bool false] = [.sl qd, .int .i64 0, .int .i64 0, .int .i64 0, .sl none, .bool false] := rfl
  rw [e15]
  generalize hh15 : h.set p (.cells [.sl qd, .int .i64 0, .int .i64 0, .int .i64 0, .sl none, .bool false] true) = h15
  have K15 : Keeps (fun b => b = p) h h15 := by rw [← hh15]; exact keeps_set rfl
  have l15 : h15.length = h.length := by rw [← hh15]; simp
  have p15 : h15[p]? = some (.cells [.sl qd, .int .i64 0, .int .i64 0, .int .i64 0, .sl none, .bool false] true) := by rw [← hh15, List.getElem?_set_self hpl]
  have R15 : EdR h15 e d := K15.edR (fun s hs => hep s hs) hR
  have G15 : Grow edE h15 qd L := h4.keeps K15 (fun s hs => (h3 s hs).2)
  have F15 : Keeps D h h15 := fun b B hb hB => K15 b B (fun he => hb (he ▸ h2)) hB
  have each15 : ∀ (j : Nat) (x : EV) (y : ED), L[j]? = some x → done[j]? = some y → EdR h15 x y ∧ ∀ s, x.2.2.2 = some s → D s.b ∧ s.b ≠ p ∧ ∀ s', qd = some s' → s.b ≠ s'.b := by
    intro j x y a b
    obtain ⟨r, c⟩ := h6 j x y a b
    exact ⟨K15.edR (fun s hs => (c s hs).2.1) r, c⟩
  have hz : evV e = .agg [.int .i64 d.1, .int .i64 e.2.1, .int .i64 e.2.2.1, .sl e.2.2.2] := by rw [← r1]
  rw [r1]
  refine vif_mk (fun g3 => ?_) (fun g3 => ?_)
  · refine ⟨qd, cells6 p15 (o := 0) (k := 1) (by simp), ?_⟩
    rw [← hz]
    refine t80 (e := e) R15 hrefs fun e' h19 hx hR2 hs q1 q2 q3 => ⟨e'.1, e'.2.1, e'.2.2.1, e'.2.2.2, rfl, ⟨qd, cells6 (hx _ _ p15) (o := 0) (k := 1) (by simp), rfl⟩, ?_⟩
    have hl19 := hx.len
    unfold PNew
    have hx2 : Ext h19 (h19 ++ [.cells [.int .i64 e'.1, .int .i64 e'.2.1, .int .i64 e'.2.2.1, .sl e'.2.2.2] true]) := .app _ _
    refine ⟨⟨qd, cells6 (hx2 _ _ (hx _ _ p15)) (o := 0) (k := 1) (by simp), rfl⟩, ?_⟩
    have G25 : Grow edE (h19 ++ [.cells [.int .i64 e'.1, .int .i64 e'.2.1, .int .i64 e'.2.2.1, .sl e'.2.2.2] true]) qd L := Acc.mono (Acc.mono G15 hx) hx2
    have hsrc : HasL edE (h19 ++ [.cells [.int .i64 e'.1, .int .i64 e'.2.1, .int .i64 e'.2.2.1, .sl e'.2.2.2] true]) (some ⟨h19.length, 0, 1, 1, 0⟩) [e'] := HasL.new (E := edE) (l := [e']) rfl (by simp [Enc.all, edE])
    refine Grow.append (E := edE) G25 hsrc (by simp; omega) fun q2 h27 G27 K27 hl27 hq27 => ?_
    have live0 := HasL.live (Acc.hasL h4)
    have hl25 : (h19 ++ [Blk.cells [.int .i64 e'.1, .int .i64 e'.2.1, .int .i64 e'.2.2.1, .sl e'.2.2.2] true]).length = h19.length + 1 := by simp
    have hpq : ¬ ∃ s, qd = some s ∧ s.b = p := fun ⟨s, hs, he⟩ => (h3 s hs).2 he
    have p27 : h27[p]? = some (.cells [.sl qd, .int .i64 0, .int .i64 0, .int .i64 0, .sl none, .bool false] true) := K27 _ _ hpq (hx2 _ _ (hx _ _ p15))
    have hpl27 := lt_of_get p27
    have hq2 : ∀ s', q2 = some s' → h19.length < s'.b + 1 ∧ h.length ≤ s'.b ∨ (∃ s, qd = some s ∧ s.b = s'.b) := by
      intro s' hs'
      rcases hq27 s' hs' with a | a
      · rw [hl25] at a; left; omega
      · exact .inr a
    have hne2 : ∀ b, b < h19.length → (∀ s', qd = some s' → b ≠ s'.b) → ∀ s', q2 = some s' → b ≠ s'.b := by
      intro b hb hn s' hs' he
      rcases hq27 s' hs' with a | ⟨s, a1, a2⟩
      · rw [hl25] at a; omega
      · exact hn s a1 (he.trans a2.symm)
    have K1527 : Keeps (fun b => ∃ s, qd = some s ∧ s.b = b) h15 h27 := (keeps_of_ext (hx.trans hx2)).trans K27
    refine store6v p27 (o := 0) ?_ ?_
    · simp
    have Kset : Keeps (fun b => b = p) h27 (h27.set p (.cells (splice [.sl qd, .int .i64 0, .int .i64 0, .int .i64 0, .sl none, .bool false] 0 [.sl q2]) true)) := keeps_set rfl
    have g3' : (d.1 == 2) = true := g3
    have e1 : nHas d = false := by simp [nHas, g3']
    have e2 : nDone done d = done ++ [d] := by simp [nDone, g3']
    have e3 : nMark d = zeroD := by simp [nMark, g3']
    have fin : ∀ (x : EV) (y : ED), EdR h27 x y → (∀ s, x.2.2.2 = some s → s.b ≠ p) → EdR (h27.set p (.cells (splice [.sl qd, .int .i64 0, .int .i64 0, .int .i64 0, .sl none, .bool false] 0 [.sl q2]) true)) x y := fun x y r c => Kset.edR (fun s hs => c s hs) r
    refine hgo _ (fun b => D b ∨ (h.length ≤ b ∧ b < h27.length)) hyes ?_ (fun b hb => hb.imp id And.left) ?_ (by simp; omega)
    · rw [e1, e2, e3]
      refine ⟨q2, zeroV, L ++ [e'], ?_, .inl h2, ?_, G27.keeps Kset ?_, by simp [h5], ?_, ⟨rfl, rfl, rfl, rfl⟩, fun s hs => (by cases hs), ?_, by simp, ?_⟩
      · rw [List.getElem?_set_self hpl27]; rfl
      · intro s hs
        have hlv := HasL.live (Acc.hasL G27) s hs
        rcases hq2 s hs with a | ⟨s0, a1, a2⟩
        · exact ⟨.inr ⟨a.2, hlv⟩, by omega⟩
        · rw [← a2]; exact ⟨.inl (h3 s0 a1).1, (h3 s0 a1).2⟩
      · intro s hs he
        rcases hq2 s hs with a | ⟨s0, a1, a2⟩
        · omega
        · exact (h3 s0 a1).2 (a2.trans he)
      · intro j x y hj hy
        rw [List.getElem?_append] at hj hy
        split at hj
        · rw [if_pos (by omega)] at hy
          obtain ⟨r, c⟩ := each15 j x y hj hy
          have rl := HasL.live r.2.2.2
          refine ⟨fin x y (K1527.edR (fun s hs ⟨s', a1, a2⟩ => (c s hs).2.2 s' a1 a2.symm) r) (fun s hs => (c s hs).2.1), fun s hs => ⟨.inl (c s hs).1, (c s hs).2.1, hne2 _ (by have := rl s hs; omega) (c s hs).2.2⟩⟩
        · rw [if_neg (by omega)] at hy
          have j0 : j - L.length = 0 := by have := lt_of_get hj; simp at this; omega
          have y0 : j - done.length = 0 := by omega
          rw [j0] at hj
          rw [y0] at hy
          simp at hj hy
          subst hj hy
          have rl := HasL.live hR2.2.2.2
          have hfr : ∀ s, e'.2.2.2 = some s → ∀ s', qd = some s' → s.b ≠ s'.b := fun s hs' s' hs2 => by have := hs s hs'; have := live0 s' hs2; omega
          refine ⟨fin _ _ (((keeps_of_ext hx2).trans K27).edR (fun s hs' ⟨s', a1, a2⟩ => hfr s hs' s' a1 a2.symm) hR2) (fun s hs' => by have := hs s hs'; omega), fun s hs' => ⟨.inr ⟨by have := hs s hs'; omega, by have := rl s hs'; omega⟩, by have := hs s hs'; omega, hne2 _ (rl s hs') (hfr s hs')⟩⟩
      · intro x hx'
        rcases List.mem_append.1 hx' with hx' | hx'
        · exact h9 x hx'
        · simp at hx'; subst hx'; exact hrefs
      · intro b hb
        rcases hb with hb | hb
        · have := h11 b hb; simp; omega
        · simp; omega
    · intro b B hb hB
      have hbp : b ≠ p := fun he => hb (he ▸ h2)
      rw [List.getElem?_set, if_neg (Ne.symm hbp)]
      exact K1527 b B (fun ⟨s, a1, a2⟩ => hb (a2 ▸ (h3 s a1).1)) (F15 b B hb hB)
  · rw [← hz]
    refine t80 (e := e) R15 hrefs fun e' h33 hx hR2 hs q1 q2 q3 => ⟨e'.1, e'.2.1, e'.2.2.1, e'.2.2.2, rfl, ?_⟩
    have p33 := hx _ _ p15
    have hpl33 := lt_of_get p33
    have hl33 := hx.len
    refine store6v p33 (o := 1) ?_ ?_
    · simp
    have b39 : (h33.set p (.cells (splice [.sl qd, .int .i64 0, .int .i64 0, .int .i64 0, .sl none, .bool false] 1 [.int .i64 e'.1, .int .i64 e'.2.1, .int .i64 e'.2.2.1, .sl e'.2.2.2]) true))[p]? = some (.cells [.sl qd, .int .i64 e'.1, .int .i64 e'.2.1, .int .i64 e'.2.2.1, .sl e'.2.2.2, .bool false] true) := by
      rw [List.getElem?_set_self hpl33]; rfl
    refine store6v b39 (o := 5) ?_ ?_
    · simp
    rw [List.set_set]
    have hsub : Keeps (fun b => b = p) h33 (h33.set p (.cells (splice [.sl qd, .int .i64 e'.1, .int .i64 e'.2.1, .int .i64 e'.2.2.1, .sl e'.2.2.2, .bool false] 5 [.bool true]) true)) := keeps_set rfl
    have g3' : (d.1 == 2) = false := g3
    have e1 : nHas d = true := by simp [nHas, g3']
    have e2 : nDone done d = done := by simp [nDone, g3']
    have e3 : nMark d = d := by simp [nMark, g3']
    have live0 := HasL.live (Acc.hasL h4)
    have rl := HasL.live hR2.2.2.2
    refine hgo _ (fun b => D b ∨ (h.length ≤ b ∧ b < h33.length)) hyes ?_ (fun b hb => hb.imp id And.left) ?_ (by simp; omega)
    · rw [e1, e2, e3]
      refine ⟨qd, e', L, ?_, .inl h2, fun s hs => ⟨.inl (h3 s hs).1, (h3 s hs).2⟩, Grow.keeps (h := h33) (Acc.mono G15 hx) hsub (fun s hs => (h3 s hs).2), h5, ?_, hsub.edR (fun s hs' => by have := hs s hs'; omega) hR2, ?_, h9, hrefs, ?_⟩
      · rw [List.getElem?_set_self hpl33]; rfl
      · intro j x y hj hy
        obtain ⟨r, c⟩ := each15 j x y hj hy
        exact ⟨hsub.edR (fun s hs => (c s hs).2.1) ⟨r.1, r.2.1, r.2.2.1, r.2.2.2.mono hx⟩, fun s hs => ⟨.inl (c s hs).1, (c s hs).2⟩⟩
      · intro s hs'
        have a1 := hs s hs'
        exact ⟨.inr ⟨by omega, rl s hs'⟩, by omega, fun s' hs2 => by have := live0 s' hs2; omega⟩
      · intro b hb
        rcases hb with hb | hb
        · have := h11 b hb; simp; omega
        · simp; omega
    · intro b B hb hB
      have hbp : b ≠ p := fun he => hb (he ▸ h2)
      rw [List.getElem?_set, if_neg (Ne.symm hbp)]
      exact hx _ _ (F15 b B hb hB))
end
end Go.Proofs.Ytceplmmmlindnaa

/- The document's Apply and Edits. -/
namespace Go.Proofs.Ytceplmmmlindnaa
open Go.Ab
set_option linter.unusedVariables false
set_option linter.unusedSimpArgs false

/-- A list just copied into nothing. -/
def Own {α : Type} (E : Enc α) (h : Heap) (q : Option SL) (l : List α) : Prop := (l = [] ∧ ∃ a, q = some ⟨a, 0, 0, 0, 0⟩ ∧ h[a]? = some (.cells [] true)) ∨ (l ≠ [] ∧ ∃ a, q = some ⟨a, 0, l.length, l.length, E.sz⟩ ∧ h[a]? = some (.cells (E.all l) true))
theorem Own.ext {α : Type} {E : Enc α} {h h' : Heap} {q : Option SL} {l : List α} (O : Own E h q l) (K : Ext h h') : Own E h' q l := by
  rcases O with ⟨a, b, c, d⟩ | ⟨a, b, c, d⟩
  · exact .inl ⟨a, b, c, K _ _ d⟩
  · exact .inr ⟨a, b, c, K _ _ d⟩
theorem Own.hasL {α : Type} {E : Enc α} {h : Heap} {q : Option SL} {l : List α} (O : Own E h q l) : HasL E h q l := by
  rcases O with ⟨rfl, a, rfl, hb⟩ | ⟨hne, a, rfl, hb⟩
  · refine ⟨rfl, Nat.le_refl _, .inl rfl, ?_⟩
    simp [cellsAt, hb, Enc.all]
  · refine ⟨rfl, Nat.le_refl _, .inr rfl, ?_⟩
    rw [cellsAt_mk (p := ⟨a, 0⟩) hb (by simp [Enc.all_length])]
    simp [← Enc.all_length]

theorem copy0 {α : Type} {E : Enc α} {h : Heap} {a : Nat} {q : Option SL} {l : List α} {by' : Nat} {K : Option SL → Heap → Prop} (ha : h[a]? = some (.cells [] true)) (H : HasL E h q l) (hb : l.length * by' ≤ 140737488355328)
    (hK : ∀ q' h', Ext h h' → Own E h' q' l → (∀ s, q' = some s → s.b = a ∨ h.length ≤ s.b) → K q' h') : PAppendS E.sz by' (some ⟨a, 0, 0, 0, 0⟩) q h K := by
  refine ⟨E.all l, H.cells, by rw [Enc.all_length, H.len], ?_⟩
  rw [H.len]
  simp only [Nat.zero_add, Nat.zero_mul]
  split
  · rename_i h0
    have : l = [] := List.eq_nil_of_length_eq_zero (by omega)
    subst this
    rw [ha]
    have e0 : E.all ([] : List α) = [] := rfl
    simp only [e0, splice_nil, List.length_nil]
    have hs : h.set a (.cells [] true) = h := set_same ha
    rw [hs]
    exact ⟨by simp, hK _ _ (.refl _) (.inl ⟨rfl, a, rfl, ha⟩) (fun s hs => by cases hs; exact .inl rfl)⟩
  · rename_i h0
    refine ⟨hb, E.pos, ?_⟩
    have hc : cellsAt h ⟨a, 0⟩ 0 = some [] := by simp [cellsAt, ha]
    rw [hc, ha]
    simp only [if_true, List.nil_append]
    refine hK _ _ (.app _ _) (.inr ⟨fun h => h0 (by rw [h]; simp), h.length, rfl, by simp⟩) (fun s hs => by cases hs; exact .inr (Nat.le_refl _))

theorem appendOne {α : Type} {E : Enc α} {h : Heap} {q src : Option SL} {l : List α} {x : α} {by' : Nat} {K : Option SL → Heap → Prop} (O : Own E h q l) (H : HasL E h src [x]) (hb : (l.length + 1) * by' ≤ 140737488355328)
    (hK : ∀ q' h', Own E h' q' (l ++ [x]) → Keeps (fun b => ∃ s, q = some s ∧ s.b = b) h h' → h.length ≤ h'.length → (∀ s', q' = some s' → h.length ≤ s'.b) → K q' h') : PAppendS E.sz by' q src h K := by
  refine ⟨E.all [x], H.cells, by rw [Enc.all_length, H.len], ?_⟩
  rw [H.len]
  rcases O with ⟨rfl, a, rfl, ha⟩ | ⟨hne, a, rfl, ha⟩
  · simp only [List.length_cons, List.length_nil]
    rw [if_neg (by omega)]
    have hc : cellsAt h ⟨a, 0⟩ (0 * E.sz) = some [] := by simp [cellsAt, ha]
    simp only [List.length_nil] at hb
    refine ⟨hb, E.pos, ?_⟩
    rw [hc, ha]
    simp only [if_true, List.nil_append]
    exact hK _ _ (.inr ⟨by simp, h.length, rfl, by simp⟩) (keeps_of_ext (Ext.app _ _)) (by simp) (fun s hs => by cases hs; exact Nat.le_refl _)
  · simp only [List.length_cons, List.length_nil]
    rw [if_neg (by omega)]
    have hc : cellsAt h ⟨a, 0⟩ (l.length * E.sz) = some (E.all l) := by
      rw [cellsAt_mk (p := ⟨a, 0⟩) ha (by simp [Enc.all_length])]
      simp [← Enc.all_length]
    refine ⟨hb, E.pos, ?_⟩
    rw [hc, ha]
    simp only
    rw [if_neg (by have := E.pos; omega)]
    refine ⟨trivial, trivial, hK _ _ (.inr ⟨by simp, h.length, by simp, ?_⟩) ?_ (by simp) (fun s hs => by cases hs; exact Nat.le_refl _)⟩
    · rw [List.getElem?_append_right (by simp)]
      simp [Enc.all_append]
    · refine Keeps.trans ?_ (keeps_of_ext (Ext.app _ _))
      intro b B hb hB
      rw [List.getElem?_set, if_neg]
      · exact hB
      · intro he; exact hb ⟨_, rfl, he⟩

section
variable {h : Heap} {Q : AV → Heap → Prop} {p : Nat} {has : Bool} {done : List ED} {mark : ED}

/-- The document's Apply. -/
theorem u24 {D : Nat → Prop} (S : RefS h D p has done mark) (hD : ∀ b, D b → b < h.length) {e : EV} {d : ED} (hR : EdR h e d) (hp : ∀ s, e.2.2.2 = some s → ¬ D s.b ∧ s.b ≠ p) (hd : done.length ≤ 100)
    (hno : (chk d && goes has done mark d) = false → Q (.int .i64 (resV has done mark d)) h)
    (hgo : ∀ h', (chk d && goes has done mark d) = true → RefS h' D p (nHas d) (nDone done d) (nMark d) → Keeps (fun b => b = p) h h' → h.length ≤ h'.length → Q (.int .i64 0) h') : AC Try.prog 24 [.ptr (some ⟨p, 0⟩), evV e] h Q := ac24 (by
  have S0 := S.view
  obtain ⟨qd, m, L, h1, h2, h3, h4, h5, h6, h7, h8, h9, h10⟩ := S
  have r1 : e.1 = d.1 := hR.1
  unfold vc24
  refine u17 (e := e) hR ⟨_, rfl, ?_⟩
  cases hc : chk d with
  | false =>
    simp only [hc, Bool.false_eq_true, if_false, resV, Bool.false_and] at hno
    simp only [Bool.not_false, vif]
    exact hno trivial
  | true =>
  simp only [Bool.not_true, vif]
  refine u81 S0 (e := e) hR ⟨_, rfl, vif_mk (fun g2 => ?_) fun g2 => ?_⟩
  · simp only [Bool.not_eq_true'] at g2
    simp only [hc, g2, resV, if_true, Bool.false_eq_true, if_false, Bool.and_false] at hno
    exact hno trivial
  have hg : goes has done mark d = true := by simpa using g2
  have hyes : (chk d && goes has done mark d) = true := by rw [hc, hg]; rfl
  have hrefs : d.2.2.2.length ≤ 256 := by
    simp only [chk, Bool.and_eq_true, decide_eq_true_eq] at hc
    exact hc.1.2
  have hpl := lt_of_get h1
  have live4 := HasL.live h4
  have hrl := HasL.live hR.2.2.2
  rw [r1]
  refine vif_mk (fun g3 => ?_) (fun g3 => ?_)
  · have g3' : (d.1 == 2) = true := g3
    have e1 : nHas d = false := by simp [nHas, g3']
    have e2 : nDone done d = done ++ [d] := by simp [nDone, g3']
    have e3 : nMark d = zeroD := by simp [nMark, g3']
    have tail : ∀ (q20 : Option SL) (h21 : Heap), Ext h h21 → Own edE h21 q20 (L ++ [e]) → (∀ s, q20 = some s → h.length ≤ s.b) →
        vPtr (some (⟨p, 0⟩ : PA)) fun p22 => PStore h21 ⟨p22.b, p22.o + 0⟩ [.sl q20] fun h23 => vPtr (some (⟨p, 0⟩ : PA)) fun p24 => PStore h23 ⟨p24.b, p24.o + 1⟩ [.int .i64 0, .int .i64 0, .int .i64 0, .sl none] fun h25 => vPtr (some (⟨p, 0⟩ : PA)) fun p26 => PStore h25 ⟨p26.b, p26.o + 5⟩ [.bool false] fun h27 => Q (.int .i64 0) h27 := by
      intro q20 h21 hx O hq
      have p21 := hx _ _ h1
      have hpl21 := lt_of_get p21
      have hl21 := hx.len
      refine store6v p21 (o := 0) ?_ ?_
      · simp
      have p23 : (h21.set p (.cells (splice [.sl qd, .int .i64 m.1, .int .i64 m.2.1, .int .i64 m.2.2.1, .sl m.2.2.2, .bool has] 0 [.sl q20]) true))[p]? = some (.cells [.sl q20, .int .i64 m.1, .int .i64 m.2.1, .int .i64 m.2.2.1, .sl m.2.2.2, .bool has] true) := by
        rw [List.getElem?_set_self hpl21]; rfl
      refine store6v p23 (o := 1) ?_ ?_
      · simp
      rw [List.set_set]
      have p25 : (h21.set p (.cells (splice [.sl q20, .int .i64 m.1, .int .i64 m.2.1, .int .i64 m.2.2.1, .sl m.2.2.2, .bool has] 1 [.int .i64 0, .int .i64 0, .int .i64 0, .sl none]) true))[p]? = some (.cells [.sl q20, .int .i64 0, .int .i64 0, .int .i64 0, .sl none, .bool has] true) := by
        rw [List.getElem?_set_self hpl21]; rfl
      refine store6v p25 (o := 5) ?_ ?_
      · simp
      rw [List.set_set]
      have Kset : Keeps (fun b => b = p) h21 (h21.set p (.cells (splice [.sl q20, .int .i64 0, .int .i64 0, .int .i64 0, .sl none, .bool has] 5 [.bool false]) true)) := keeps_set rfl
      have Kall : Keeps (fun b => b = p) h (h21.set p (.cells (splice [.sl q20, .int .i64 0, .int .i64 0, .int .i64 0, .sl none, .bool has] 5 [.bool false]) true)) := (keeps_of_ext hx).trans Kset
      refine hgo _ hyes ?_ Kall (by simp; omega)
      rw [e1, e2, e3]
      refine ⟨q20, zeroV, L ++ [e], ?_, h2, fun s hs => ⟨fun hd => by have := hD _ hd; have := hq s hs; omega, by have := hq s hs; omega⟩, Kset.hasL (fun s hs => by have := hq s hs; omega) O.hasL, by simp [h5], ?_, ⟨rfl, rfl, rfl, rfl⟩, fun s hs => (by cases hs), ?_, by simp⟩
      · rw [List.getElem?_set_self hpl21]; rfl
      · intro j x y hj hy
        rw [List.getElem?_append] at hj hy
        split at hj
        · rw [if_pos (by omega)] at hy
          obtain ⟨r, c⟩ := h6 j x y hj hy
          exact ⟨Kall.edR (fun s hs => (c s hs).2) r, c⟩
        · rw [if_neg (by omega)] at hy
          have j0 : j - L.length = 0 := by have := lt_of_get hj; simp at this; omega
          have y0 : j - done.length = 0 := by omega
          rw [j0] at hj
          rw [y0] at hy
          simp at hj hy
          subst hj hy
          exact ⟨Kall.edR (fun s hs => (hp s hs).2) hR, hp⟩
      · intro x hx'
        rcases List.mem_append.1 hx' with hx' | hx'
        · exact h9 x hx'
        · simp at hx'; subst hx'; exact hrefs
    have ecells : [AV.int .i64 d.1, .int .i64 e.2.1, .int .i64 e.2.2.1, .sl e.2.2.2] = edE.all [e] := by rw [← r1]; simp [Enc.all, edE]
    have rd : ∀ h' : Heap, Ext h h' → ∃ q, cellsAt h' ⟨p, 0 + 0⟩ 1 = some [.sl q] ∧ LV.val (.sl q) = LV.val (.sl qd) := fun h' hx => ⟨qd, cells6 (hx _ _ h1) (o := 0) (k := 1) (by simp), rfl⟩
    have fin : ∀ (h19 : Heap) (q16 : Option SL) (a18 : Nat), Ext h h19 → Own edE h19 q16 L → (∀ s, q16 = some s → h.length ≤ s.b) → h19[a18]? = some (.cells (edE.all [e]) true) → PAppendS 4 48 q16 (some ⟨a18, 0, 1, 1, 0⟩) h19 fun q20 h21 => vPtr (some (⟨p, 0⟩ : PA)) fun p22 => PStore h21 ⟨p22.b, p22.o + 0⟩ [.sl q20] fun h23 => vPtr (some (⟨p, 0⟩ : PA)) fun p24 => PStore h23 ⟨p24.b, p24.o + 1⟩ [.int .i64 0, .int .i64 0, .int .i64 0, .sl none] fun h25 => vPtr (some (⟨p, 0⟩ : PA)) fun p26 => PStore h25 ⟨p26.b, p26.o + 5⟩ [.bool false] fun h27 => Q (.int .i64 0) h27 := by
      intro h19 q16 a18 hx O hq ha
      have hsrc : HasL edE h19 (some ⟨a18, 0, 1, 1, 0⟩) [e] := by
        refine ⟨rfl, Nat.le_refl _, .inl rfl, ?_⟩
        rw [cellsAt_mk (p := ⟨a18, 0⟩) ha (by simp [Enc.all_length])]
        simp [Enc.all, edE]
      refine appendOne (E := edE) O hsrc (by omega) fun q20 h21 O2 K2 hl2 hq2 => tail q20 h21 ?_ O2 (fun s hs => by have := hq2 s hs; have := hx.len; omega)
      intro b B hB
      exact K2 b B (fun ⟨s, a1, a2⟩ => by have := hq s a1; have := lt_of_get hB; omega) (hx _ _ hB)
    refine ⟨qd, cells6 h1 (o := 0) (k := 1) (by simp), ?_⟩
    unfold PNew
    rw [ecells]
    refine ⟨⟨trivial, rd _ (.app _ _), ?_, ?_⟩, ?_⟩
    · refine copy0 (E := edE) (a := h.length) (by simp) (h4.mono (Ext.app _ _)) (by omega) fun q16 h17 hx O hq => ⟨trivial, rd _ (((Ext.app _ _).trans hx).trans (Ext.app _ _)), ?_⟩
      refine fin _ q16 _ (((Ext.app _ _).trans hx).trans (Ext.app _ _)) (O.ext (Ext.app _ _)) (fun s hs => ?_) (by simp)
      rcases hq s hs with a | a
      · omega
      · simp at a; omega
    · refine ⟨rd _ ((Ext.app _ _).trans (Ext.app _ _)), ?_⟩
      refine copy0 (E := edE) (a := h.length) (by rw [List.getElem?_append_left (by simp)]; simp) ((h4.mono (Ext.app _ _)).mono (Ext.app _ _)) (by omega) fun q16 h17 hx O hq => ⟨trivial, ?_⟩
      refine fin _ q16 _ (((Ext.app _ _).trans (Ext.app _ _)).trans hx) O (fun s hs => ?_) (hx _ _ (by simp))
      rcases hq s hs with a | a
      · omega
      · simp at a; omega
    · refine ⟨rd _ (.app _ _), trivial, rd _ ((Ext.app _ _).trans (Ext.app _ _)), ?_⟩
      refine copy0 (E := edE) (a := (h ++ [Blk.cells (edE.all [e]) true]).length) (by simp) ((h4.mono (Ext.app _ _)).mono (Ext.app _ _)) (by omega) fun q16 h17 hx O hq => ⟨trivial, ?_⟩
      refine fin _ q16 _ (((Ext.app _ _).trans (Ext.app _ _)).trans hx) O (fun s hs => ?_) (hx _ _ (by rw [List.getElem?_append_left (by simp)]; simp))
      rcases hq s hs with a | a
      · simp at a; omega
      · simp at a; omega
  · have g3' : (d.1 == 2) = false := g3
    have e1 : nHas d = true := by simp [nHas, g3']
    have e2 : nDone done d = done := by simp [nDone, g3']
    have e3 : nMark d = d := by simp [nMark, g3']
    refine store6v h1 (o := 1) ?_ ?_
    · simp
    have p60 : (h.set p (.cells (splice [.sl qd, .int .i64 m.1, .int .i64 m.2.1, .int .i64 m.2.2.1, .sl m.2.2.2, .bool has] 1 [.int .i64 d.1, .int .i64 e.2.1, .int .i64 e.2.2.1, .sl e.2.2.2]) true))[p]? = some (.cells [.sl qd, .int .i64 e.1, .int .i64 e.2.1, .int .i64 e.2.2.1, .sl e.2.2.2, .bool has] true) := by
      rw [List.getElem?_set_self hpl, r1]; rfl
    refine store6v p60 (o := 5) ?_ ?_
    · simp
    rw [List.set_set]
    have Kset : Keeps (fun b => b = p) h (h.set p (.cells (splice [.sl qd, .int .i64 e.1, .int .i64 e.2.1, .int .i64 e.2.2.1, .sl e.2.2.2, .bool has] 5 [.bool true]) true)) := keeps_set rfl
    refine hgo _ hyes ?_ Kset (by simp)
    rw [e1, e2, e3]
    refine ⟨qd, e, L, ?_, h2, h3, Kset.hasL (fun s hs => (h3 s hs).2) h4, h5, ?_, Kset.edR (fun s hs => (hp s hs).2) hR, hp, h9, hrefs⟩
    · rw [List.getElem?_set_self hpl]; rfl
    · intro j x y hj hy
      obtain ⟨r, c⟩ := h6 j x y hj hy
      exact ⟨Kset.edR (fun s hs => (c s hs).2) r, c⟩)

/-- The document's Edits. -/
theorem u82 (S : StV h p has done mark) (hd : done.length ≤ 100) (hQ : ∀ q h', Ext h h' → InL h' q (edits has done mark) → Q (.sl q) h') : AC Try.prog 82 [.ptr (some ⟨p, 0⟩)] h Q := ac82 (by
  obtain ⟨qd, m, h1, ⟨L, g, hL, he⟩, h3, h7, h8⟩ := S
  unfold vc82 PNew
  have hx0 : Ext h (h ++ [.cells [] true]) := .app _ _
  refine ⟨qd, cells6 (hx0 _ _ h1) (o := 0) (k := 1) (by simp), ?_⟩
  refine copy0 (E := edE) (a := h.length) (by simp) (g.mono hx0) (by omega) fun q6 h7' hx O hq => ?_
  have hx1 := hx0.trans hx
  refine ⟨has, cells6 (hx1 _ _ h1) (o := 5) (k := 1) (by simp), ?_⟩
  have old : ∀ h', Ext h h' → ∀ (j : Nat) (e : EV) (d : ED), L[j]? = some e → done[j]? = some d → EdR h' e d := fun h' hx j e d a b => by
    have r := he j e d a b
    exact ⟨r.1, r.2.1, r.2.2.1, r.2.2.2.mono hx⟩
  have hown : ∀ s, q6 = some s → h.length ≤ s.b := fun s hs => by
    rcases hq s hs with a | a
    · omega
    · simp at a; omega
  cases has with
  | true =>
    simp only [vif]
    refine ⟨m.1, m.2.1, m.2.2.1, m.2.2.2, cells6 (hx1 _ _ h1) (o := 1) (k := 4) (by simp), ?_⟩
    have hx2 : Ext h7' (h7' ++ [.cells [.int .i64 m.1, .int .i64 m.2.1, .int .i64 m.2.2.1, .sl m.2.2.2] true]) := .app _ _
    have hsrc : HasL edE (h7' ++ [.cells [.int .i64 m.1, .int .i64 m.2.1, .int .i64 m.2.2.1, .sl m.2.2.2] true]) (some ⟨h7'.length, 0, 1, 1, 0⟩) [m] := HasL.new (E := edE) (l := [m]) rfl (by simp [Enc.all, edE])
    refine appendOne (E := edE) (O.ext hx2) hsrc (by omega) fun q2 h18 O2 K2 hl2 hq2 => hQ q2 h18 ?_ ?_
    · intro b B hB
      exact K2 b B (fun ⟨s, a1, a2⟩ => by have := hown s a1; have := lt_of_get hB; omega) (hx2 _ _ (hx1 _ _ hB))
    · have hxx : Ext h h18 := fun b B hB => K2 b B (fun ⟨s, a1, a2⟩ => by have := hown s a1; have := lt_of_get hB; omega) (hx2 _ _ (hx1 _ _ hB))
      refine ⟨L ++ [m], O2.hasL, by simp [edits, hL], fun j e d a b => ?_⟩
      simp only [edits, if_true] at b
      rw [List.getElem?_append] at a b
      split at a
      · rw [if_pos (by omega)] at b; exact old h18 hxx j e d a b
      · rw [if_neg (by omega)] at b
        have j0 : j - L.length = 0 := by have := lt_of_get a; simp at this; omega
        have y0 : j - done.length = 0 := by omega
        rw [j0] at a
        rw [y0] at b
        simp at a b
        subst a b
        exact ⟨h3.1, h3.2.1, h3.2.2.1, h3.2.2.2.mono hxx⟩
  | false =>
    simp only [vif]
    refine hQ q6 h7' hx1 ⟨L, O.hasL, by simp [edits, hL], fun j e d a b => ?_⟩
    simp only [edits, Bool.false_eq_true, if_false, List.append_nil] at b
    exact old h7' hx1 j e d a b)
end
end Go.Proofs.Ytceplmmmlindnaa

/- Names: the law of lists; the engine's, by a map whose keys are sorted. -/
namespace Go.Proofs.Ytceplmmmlindnaa
open Go.Ab
set_option linter.unusedVariables false
set_option linter.unusedSimpArgs false

abbrev Str := List UInt8
def strE : Enc Str := ⟨1, fun s => [.str s], fun _ => rfl, by omega, fun _ => rfl⟩
def refNames (l : List Rf) : List Str := l.map (·.1)
def namesOf (l : List ED) : List Str := l.flatMap fun d => refNames d.2.2.2
/-- n put into names, in order. -/
def insR (n : Str) : List Str → List Str
  | [] => [n]
  | x :: l => if bytesLess x n then x :: insR n l else if x = n then x :: l else n :: x :: l
def docNames (l : List Str) : List Str := l.foldl (fun o n => insR n o) []

theorem bl_lt {a b : Str} : bytesLess a b = true ↔ a < b := by
  unfold bytesLess; rw [bytesLess_eq]; simp
theorem bl_nlt {a b : Str} : bytesLess a b = false ↔ b ≤ a := by
  have : bytesLess a b = decide (a < b) := bytesLess_eq a b
  rw [this, decide_eq_false_iff_not, List.not_lt]

theorem insR_mem {n x : Str} : ∀ {l : List Str}, x ∈ insR n l ↔ x = n ∨ x ∈ l
  | [] => by simp [insR]
  | y :: l => by
    unfold insR
    split
    · rw [List.mem_cons, insR_mem (l := l), List.mem_cons]
      constructor
      · rintro (h | h | h)
        · exact .inr (.inl h)
        · exact .inl h
        · exact .inr (.inr h)
      · rintro (h | h | h)
        · exact .inr (.inl h)
        · exact .inl h
        · exact .inr (.inr h)
    · split
      · rename_i h; subst h; simp
      · simp

theorem insR_sorted {n : Str} : ∀ {l : List Str}, l.Pairwise (· < ·) → (insR n l).Pairwise (· < ·)
  | [], _ => by simp [insR]
  | y :: l, h => by
    rw [List.pairwise_cons] at h
    unfold insR
    split
    · rename_i hl
      rw [List.pairwise_cons]
      refine ⟨fun x hx => ?_, insR_sorted h.2⟩
      rcases insR_mem.1 hx with rfl | hx
      · exact bl_lt.1 hl
      · exact h.1 x hx
    · rename_i hl
      split
      · rw [List.pairwise_cons]; exact h
      · rename_i hne
        have hle : n ≤ y := bl_nlt.1 (by simpa using hl)
        have hlt : n < y := by
          rcases (inferInstance : Decidable (n < y)) with h1 | h1
          · exact (hne (List.le_antisymm (List.not_lt.1 h1) hle)).elim
          · exact h1
        rw [List.pairwise_cons, List.pairwise_cons]
        refine ⟨fun x hx => ?_, h⟩
        rcases List.mem_cons.1 hx with rfl | hx
        · exact hlt
        · exact List.lt_trans hlt (h.1 x hx)

/-- Where it is put. -/
theorem insR_at {n : Str} : ∀ {l : List Str} {k : Nat}, (∀ j x, j < k → l[j]? = some x → bytesLess x n = true) → k ≤ l.length → (∀ x, l[k]? = some x → bytesLess x n = false) → insR n l = if l[k]? = some n then l else l.take k ++ (n :: l.drop k)
  | [], k, _, hk, _ => by
    have : k = 0 := by simpa using hk
    subst this; simp [insR]
  | y :: l, 0, _, _, h2 => by
    have := h2 y rfl
    unfold insR
    rw [this]
    simp
  | y :: l, k + 1, h1, hk, h2 => by
    have hy := h1 0 y (by omega) rfl
    unfold insR
    rw [hy, if_pos rfl, insR_at (l := l) (k := k) (fun j x hj hx => h1 (j + 1) x (by omega) (by simpa using hx)) (by simpa using hk) (fun x hx => h2 x (by simpa using hx))]
    simp only [List.getElem?_cons_succ]
    split <;> simp

theorem doc_inv : ∀ {l : List Str} {o : List Str}, o.Pairwise (· < ·) → (l.foldl (fun o n => insR n o) o).Pairwise (· < ·) ∧ ∀ x, x ∈ l.foldl (fun o n => insR n o) o ↔ x ∈ l ∨ x ∈ o
  | [], o, h => ⟨h, by simp⟩
  | n :: l, o, h => by
    have := doc_inv (l := l) (insR_sorted (n := n) h)
    refine ⟨this.1, fun x => ?_⟩
    rw [List.foldl_cons, this.2 x, insR_mem, List.mem_cons]
    constructor
    · rintro (h | h | h)
      · exact .inl (.inr h)
      · exact .inl (.inl h)
      · exact .inr h
    · rintro ((h | h) | h)
      · exact .inr (.inl h)
      · exact .inl h
      · exact .inr (.inr h)
theorem docNames_sorted {l : List Str} : (docNames l).Pairwise (· < ·) := (doc_inv (l := l) List.Pairwise.nil).1
theorem docNames_mem {l : List Str} {x : Str} : x ∈ docNames l ↔ x ∈ l := by
  unfold docNames
  rw [(doc_inv (l := l) List.Pairwise.nil).2 x]; simp
theorem docNames_nodup {l : List Str} : (docNames l).Nodup := docNames_sorted.imp fun h e => by subst e; exact List.lt_irrefl _ h
theorem insR_len {n : Str} : ∀ {l : List Str}, (insR n l).length ≤ l.length + 1
  | [] => by simp [insR]
  | y :: l => by
    unfold insR
    split
    · have := insR_len (n := n) (l := l); simp; omega
    · split <;> simp
theorem fold_len : ∀ {l o : List Str}, (l.foldl (fun o n => insR n o) o).length ≤ l.length + o.length
  | [], o => by simp
  | n :: l, o => by
    have h1 := fold_len (l := l) (o := insR n o)
    have h2 := insR_len (n := n) (l := o)
    simp only [List.foldl_cons, List.length_cons]; omega
theorem docNames_len {l : List Str} : (docNames l).length ≤ l.length := by
  have := fold_len (l := l) (o := []); simpa [docNames] using this
theorem docNames_snoc {l : List Str} {n : Str} : docNames (l ++ [n]) = insR n (docNames l) := by simp [docNames]

theorem namesOf_len {l : List ED} (h : ∀ d ∈ l, d.2.2.2.length ≤ 256) : (namesOf l).length ≤ l.length * 256 := by
  induction l with
  | nil => simp [namesOf]
  | cons d l ih =>
    have h1 := ih fun d hd => h d (List.mem_cons_of_mem _ hd)
    have h2 := h d List.mem_cons_self
    simp only [namesOf, List.flatMap_cons, List.length_append, refNames, List.length_map, List.length_cons] at *
    omega
theorem namesOf_snoc {l : List ED} {d : ED} : namesOf (l ++ [d]) = namesOf l ++ refNames d.2.2.2 := by simp [namesOf]

/-- A map's entries, as far as its keys go. -/
def MapInv (es : List (AV × AV × Nat)) (cl : Nat) (N : List Str) : Prop :=
  ∃ ss, keyStrs es = some ss ∧ ss.Nodup ∧ (∀ s, s ∈ ss ↔ s ∈ N) ∧ (es.map (·.2.2)).Nodup ∧ (∀ e ∈ es, e.2.2 < cl) ∧ ss.length ≤ N.length

theorem keyStrs_cons {k v : AV} {n : Nat} {es : List (AV × AV × Nat)} {ss : List Str} (h : keyStrs ((k, v, n) :: es) = some ss) : ∃ s l, k = .str s ∧ keyStrs es = some l ∧ ss = s :: l := by
  unfold keyStrs at h
  split at h
  · rename_i heq; cases heq
  · rename_i s _ _ es' heq
    cases heq
    split at h
    · rename_i l hl; cases h; exact ⟨s, l, rfl, hl, rfl⟩
    · cases h
  · cases h

theorem findP_str {P : Program} {kt : TypeId} (hkt : P.underlying kt = some .string) {s : Str} {K : Option (Nat × AV × Nat) → Prop} : ∀ {es : List (AV × AV × Nat)} {ss : List Str} {i : Nat}, keyStrs es = some ss → (s ∉ ss → K none) → (∀ j v n, es[j]? = some (.str s, v, n) → s ∈ ss → K (some (i + j, v, n))) → findP P kt (.str s) es i K
  | [], ss, i, h, h1, _ => by
    simp only [keyStrs, Option.some.injEq] at h
    subst h
    exact h1 (by simp)
  | (k, v, n) :: es, ss, i, h, h1, h2 => by
    obtain ⟨t, l, rfl, hl, rfl⟩ := keyStrs_cons h
    unfold findP keyIs
    rw [hkt]
    refine vif_mk (fun g => ?_) fun g => ?_
    · have : s = t := by simpa using g
      subst this
      exact h2 0 v n rfl (by simp)
    · have hne : s ≠ t := by simpa using g
      refine findP_str hkt hl (fun hn => h1 (by simp [hne, hn])) fun j v' n' hj hm => ?_
      have := h2 (j + 1) v' n' (by simpa using hj) (by simp [hm])
      rw [show i + 1 + j = i + (j + 1) by omega]; exact this

theorem keyStrs_set {s : Str} {v v' : AV} {n : Nat} : ∀ {es : List (AV × AV × Nat)} {j : Nat}, es[j]? = some (.str s, v, n) → keyStrs (es.set j (.str s, v', n)) = keyStrs es
  | [], j, h => by simp at h
  | x :: es, 0, h => by
    simp at h
    subst h
    rfl
  | (k, w, m) :: es, j + 1, h => by
    have := keyStrs_set (v' := v') (es := es) (j := j) (by simpa using h)
    simp only [List.set_cons_succ]
    cases k <;> simp only [keyStrs, this]
theorem keyStrs_snoc {s : Str} {v : AV} {n : Nat} : ∀ {es : List (AV × AV × Nat)} {ss : List Str}, keyStrs es = some ss → keyStrs (es ++ [(.str s, v, n)]) = some (ss ++ [s])
  | [], ss, h => by
    simp only [keyStrs, Option.some.injEq] at h
    subst h; rfl
  | (k, w, m) :: es, ss, h => by
    obtain ⟨t, l, rfl, hl, rfl⟩ := keyStrs_cons h
    simp only [List.cons_append, keyStrs, keyStrs_snoc hl]

/-- m[s] = true -/
theorem update_str {P : Program} {kt : TypeId} (hkt : P.underlying kt = some .string) {b : Nat} {s : Str} {h : Heap} {es : List (AV × AV × Nat)} {cl : Nat} {N : List Str} {K : Heap → Prop} (hb : h[b]? = some (.mp es cl)) (I : MapInv es cl N)
    (hK : ∀ es' cl', MapInv es' cl' (N ++ [s]) → K (h.set b (.mp es' cl'))) : PUpdate P kt b (.str s) (.bool true) h K := by
  obtain ⟨ss, h1, h2, h3, h4, h5, h6⟩ := I
  unfold PUpdate
  rw [hb]
  simp only [keyOk, hkt, isTup, Bool.not_false, Bool.and_true]
  show findP _ _ _ _ _ _
  refine findP_str hkt h1 (fun hn => ?_) fun j v n hj hm => ?_
  · refine hK _ _ ⟨ss ++ [s], keyStrs_snoc h1, ?_, ?_, ?_, ?_, by simp; omega⟩
    · rw [List.nodup_append]
      exact ⟨h2, by simp, fun a ha b hb => by simp at hb; subst hb; intro he; subst he; exact hn ha⟩
    · intro x; simp [h3 x]
    · rw [List.map_append, List.nodup_append]
      refine ⟨h4, by simp, fun a ha b hb => ?_⟩
      obtain ⟨e, he, rfl⟩ := List.mem_map.1 ha
      have := h5 e he
      simp at hb; omega
    · intro e he
      rcases List.mem_append.1 he with he | he
      · have := h5 e he; omega
      · simp at he; subst he; simp
  · have hmap : (es.set j (AV.str s, AV.bool true, n)).map (·.2.2) = es.map (·.2.2) := by
      rw [List.map_set]
      refine List.ext_getElem? fun i => ?_
      rw [List.getElem?_set]
      split
      · rename_i he; subst he
        split
        · simp [hj]
        · rename_i hl; simp at hl; rw [List.getElem?_eq_none (by simp; omega)]
      · rfl
    refine hK _ _ ⟨ss, by rw [Nat.zero_add, keyStrs_set hj]; exact h1, h2, fun x => ?_, by rw [Nat.zero_add, hmap]; exact h4, ?_, by simp; omega⟩
    · rw [List.mem_append, ← h3 x]
      constructor
      · exact .inl
      · rintro (h | h)
        · exact h
        · simp at h; subst h; exact hm
    · intro e he
      rw [Nat.zero_add] at he
      have : e.2.2 ∈ (es.set j (AV.str s, AV.bool true, n)).map (·.2.2) := List.mem_map_of_mem he
      rw [hmap] at this
      obtain ⟨e', he', h'⟩ := List.mem_map.1 this
      rw [← h']; exact h5 e' he'

theorem take_succ_names {l : List Rf} {i : Nat} {x : Rf} (h : l[i]? = some x) : refNames (l.take (i + 1)) = refNames (l.take i) ++ [x.1] := by
  rw [List.take_add_one, h]; simp [refNames]
theorem take_succ_namesOf {l : List ED} {i : Nat} {d : ED} (h : l[i]? = some d) : namesOf (l.take (i + 1)) = namesOf (l.take i) ++ refNames d.2.2.2 := by
  rw [List.take_add_one, h]; simp [namesOf]
theorem sortedH_ext {h : Heap} {l : List Str} : Ext h (sortedH h l) := by
  cases l with
  | nil => exact .refl _
  | cons s l => exact .app _ _
theorem sortedV_has {h : Heap} {l : List Str} : ∃ q, sortedV h.length l = .sl q ∧ HasL strE (sortedH h l) q l := by
  cases l with
  | nil => exact ⟨none, rfl, rfl⟩
  | cons s l =>
    refine ⟨_, rfl, rfl, Nat.le_refl _, .inr rfl, ?_⟩
    have e : strE.all (s :: l) = (s :: l).map .str := by
      have : ∀ m : List Str, strE.all m = m.map .str := by
        intro m
        induction m with
        | nil => rfl
        | cons x m ih => rw [Enc.all_cons, ih]; rfl
      exact this _
    rw [cellsAt_mk (C := (s :: l).map .str) (rw' := true) (by simp [sortedH]) (by simp [strE]), e, List.drop_zero, List.take_of_length_le (by simp [strE])]

section
variable {h : Heap} {Q : AV → Heap → Prop} {p : Nat} {has : Bool} {done : List ED} {mark : ED}

/-- The engine's Names. -/
theorem v31 (S : StV h p has done mark) (V : Vld has done mark) (hd : done.length ≤ 100) (hQ : ∀ q h', Ext h h' → HasL strE h' q (docNames (namesOf (edits has done mark))) → Q (.sl q) h') : AC Try.prog 31 [.ptr (some ⟨p, 0⟩)] h Q := ac31 (by
  have hok : ∀ d ∈ edits has done mark, chk d = true := by
    intro d hm
    unfold edits at hm
    rcases List.mem_append.1 hm with hm | hm
    · obtain ⟨i, hi⟩ := List.getElem?_of_mem hm
      exact (V.1 i d hi).1
    · cases has with
      | true => simp at hm; subst hm; exact (V.2.1 rfl).1
      | false => simp at hm
  have hlen : (edits has done mark).length ≤ 101 := by
    unfold edits; cases has <;> simp <;> omega
  have hv26 := fun (Q : AV → Heap → Prop) hQ => v26 (Q := Q) (S.ext (Ext.app h [.mp [] 0])) hd hQ
  generalize edits has done mark = l at *
  have hrl : ∀ d ∈ l, d.2.2.2.length ≤ 256 := by
    intro d hm
    have := hok d hm
    simp only [chk, Bool.and_eq_true, decide_eq_true_eq] at this
    exact this.1.2
  unfold vc31
  have hx0 : Ext h (h ++ [.mp [] 0]) := .app _ _
  refine hv26 _ fun q4 h3 hx3 hE => ⟨q4, rfl, ?_⟩
  have hl3 := hx3.len
  simp only [List.length_append, List.length_cons, List.length_nil] at hE hl3
  have hmb : h.length < h3.length := by omega
  have b3 : h3[h.length]? = some (.mp [] 0) := hx3 _ _ (by simp)
  obtain ⟨L, gL, hL, he, hc⟩ := hE
  have gl := HasL.len (Acc.hasL gL)
  have Kmp : ∀ (es : List (AV × AV × Nat)) (cl : Nat), Keeps (fun b => b = h.length) h3 (h3.set h.length (.mp es cl)) := fun es cl => keeps_set rfl
  refine ⟨fun xs h8 => ∃ (i : Nat) (es : List (AV × AV × Nat)) (cl : Nat), xs = [.int .i64 i] ∧ i ≤ l.length ∧ h8 = h3.set h.length (.mp es cl) ∧ MapInv es cl (namesOf (l.take i)), fun xs _ => match xs with | [.int _ i] => (l.length - i).toNat | _ => 0, ⟨0, [], 0, rfl, by omega, (set_same b3).symm, [], rfl, by simp, by simp [namesOf], by simp, by simp, by simp⟩, ?_⟩
  rintro i h8 ⟨i', es, cl, hx, hi, rfl, I⟩
  simp only [List.cons.injEq, AV.int.injEq, true_and, and_true] at hx
  subst hx
  have hq4 : ∀ s, q4 = some s → s.b ≠ h.length := fun s hs => by have := hc s hs; omega
  have hres : ∀ s, s ∈ namesOf l → s.length ≤ 24 := by
    intro s hs
    obtain ⟨d, hd1, hd2⟩ := List.mem_flatMap.1 hs
    obtain ⟨r, hr, rfl⟩ := List.mem_map.1 hd2
    have := hok d hd1
    simp only [chk, Bool.and_eq_true, List.all_eq_true] at this
    have := this.2 r hr
    simp only [refOk, Bool.and_eq_true, decide_eq_true_eq] at this
    exact this.1.1.1.1.2
  refine vif_mk (fun h1 => ?_) (fun h1 => ?_)
  · simp only [decide_eq_true_eq] at h1
    refine HasL.idx (E := edE) ((Kmp es cl).hasL hq4 (Acc.hasL gL)) (by omega) (by omega) fun pp x hx hc' => ?_
    refine ⟨x.1, x.2.1, x.2.2.1, x.2.2.2, hc', ?_⟩
    have hx' : L[i']? = some x := by simpa using hx
    have hdl : i' < l.length := by omega
    have hd' : l[i']? = some l[i'] := List.getElem?_eq_getElem hdl
    obtain ⟨hR, cold⟩ := he i' x _ hx' hd'
    have hrn : ∀ s, x.2.2.2 = some s → s.b ≠ h.length := fun s hs => by have := (cold s hs).1; omega
    generalize hdd : l[i'] = d at *
    have hRL := hR.2.2.2
    have rl := hRL.len
    have hr256 := hrl d (List.mem_of_getElem? hd')
    refine ⟨fun xs h17 => ∃ (k : Nat) (es : List (AV × AV × Nat)) (cl : Nat), xs = [.int .i64 k] ∧ k ≤ d.2.2.2.length ∧ h17 = h3.set h.length (.mp es cl) ∧ MapInv es cl (namesOf (l.take i') ++ refNames (d.2.2.2.take k)), fun xs _ => match xs with | [.int _ i] => (d.2.2.2.length - i).toNat | _ => 0, ⟨0, es, cl, rfl, by omega, rfl, by simpa [refNames] using I⟩, ?_⟩
    rintro k h17 ⟨k', es', cl', hxk, hk, rfl, I'⟩
    simp only [List.cons.injEq, AV.int.injEq, true_and, and_true] at hxk
    subst hxk
    refine vif_mk (fun g1 => ?_) (fun g1 => ?_)
    · simp only [decide_eq_true_eq] at g1
      refine HasL.idx (E := refE) ((Kmp es' cl').hasL hrn hRL) (by omega) (by omega) fun pp2 y hy hcy => ?_
      have hy' : d.2.2.2[k']? = some y := by simpa using hy
      refine ⟨y.1, y.2.1, y.2.2, hcy, ?_⟩
      refine update_str (kt := 9) Try.underlying9 (es := es') (cl := cl') (by rw [List.getElem?_set_self hmb]) I' fun es2 cl2 I2 => ?_
      rw [wrapK_i64 ⟨by omega, by omega⟩, List.set_set]
      refine ⟨⟨rfl, trivial⟩, ⟨k' + 1, es2, cl2, by simp, by omega, rfl, ?_⟩, ?_⟩
      · rw [take_succ_names hy', ← List.append_assoc]; exact I2
      · simp only; omega
    · simp only [decide_eq_false_iff_not] at g1
      have hk' : k' = d.2.2.2.length := by omega
      subst hk'
      rw [List.take_length] at I'
      rw [wrapK_i64 ⟨by omega, by omega⟩]
      refine ⟨trivial, ⟨i' + 1, es', cl', by simp, by omega, rfl, ?_⟩, ?_⟩
      · rw [take_succ_namesOf hd']; exact I'
      · simp only; omega
  · simp only [decide_eq_false_iff_not] at h1
    have hi' : i' = l.length := by omega
    subst hi'
    rw [List.take_length] at I
    refine keys_ac (g := 122) (by kernel_rfl) Try.keysLaw85 ⟨_, rfl, rfl, ?_⟩
    obtain ⟨ss, m1, m2, m3, m4, m5, m6⟩ := I
    have hnl := namesOf_len hrl
    generalize hh8 : h3.set h.length (.mp es cl) = h8 at *
    have b8 : h8[h.length]? = some (.mp es cl) := by rw [← hh8, List.getElem?_set_self hmb]
    have l8 : h8.length = h3.length := by rw [← hh8]; simp
    have hx8 : Ext h h8 := by
      intro b B hB
      have := lt_of_get hB
      rw [← hh8, List.getElem?_set, if_neg (by omega)]
      exact hx3 _ _ (hx0 _ _ hB)
    have hx24 : Ext h8 (h8 ++ [.bx (.map (some h.length))]) := .app _ _
    obtain ⟨q, e1, e2⟩ := sortedV_has (h := h8 ++ [.bx (.map (some h.length))]) (l := docNames (namesOf l))
    refine sorted_ac (kt := 9) (m := h.length) (cl := cl) (es := es) (ss := ss) (ss' := docNames (namesOf l)) (by kernel_rfl) Try.underlying9 Try.sortedLaw122 (by simp) (hx24 _ _ b8) m1 ?_ ?_ m2 m4 m5 (by omega) (fun s hs => ?_) ?_
    · refine (List.perm_ext_iff_of_nodup docNames_nodup m2).2 fun s => ?_
      rw [docNames_mem, m3]
    · refine docNames_sorted.imp fun hab => ?_
      simp only [leB, decide_eq_true_eq]
      exact List.le_of_lt hab
    · have := hres s ((m3 s).1 hs); omega
    · rw [e1]
      exact ⟨q, rfl, hQ q _ ((hx8.trans hx24).trans sortedH_ext) e2⟩)
end
end Go.Proofs.Ytceplmmmlindnaa

/- Sectors, and slices that have room. -/
namespace Go.Proofs.Ytceplmmmlindnaa
open Go.Ab
set_option linter.unusedVariables false
set_option linter.unusedSimpArgs false

/-! Rows of numbers. -/
def isCel (k : IntKind) (n : Nat) (l : List AV) : Prop := ∃ b : Nat → Int, l = cel k n b
theorem cel_succ {k : IntKind} {n : Nat} {b : Nat → Int} : cel k (n + 1) b = .int k (b 0) :: cel k n (fun i => b (i + 1)) := by
  simp only [cel, List.range_succ_eq_map, List.map_cons, List.map_map]
  rfl
theorem cel_len {k : IntKind} {n : Nat} {b : Nat → Int} : (cel k n b).length = n := by simp [cel]
theorem exC_mk {k : IntKind} : ∀ {n : Nat} {b : Nat → Int} {K : List AV → Prop}, K (cel k n b) → exC k n K
  | 0, b, K, h => h
  | n + 1, b, K, h => ⟨b 0, exC_mk (b := fun i => b (i + 1)) (by rw [cel_succ] at h; exact h)⟩
theorem cel_one {k : IntKind} {n : Nat} {b : Nat → Int} : oneAll (cel k n b) = true := by
  simp [oneAll, cel, AV.one]

/-- A sector's cells. -/
abbrev secB (s : Bs) : Nat → Int := fun i => ((s.getD i 0).toNat : Int)
abbrev secA (s : Bs) : List AV := cel .u8 64 (secB s)
def secE : Enc Bs := ⟨64, secA, fun _ => cel_len, by omega, fun _ => cel_one⟩
theorem secA_bytes {s : Bs} (h : s.length = 64) : secA s = byteAVs s := by
  refine List.ext_getElem? fun i => ?_
  simp only [secA, cel, byteAVs, List.getElem?_map]
  rcases Nat.lt_or_ge i 64 with hi | hi
  · rw [List.getElem?_range hi, List.getElem?_eq_getElem (by omega)]
    simp [secB, List.getD_eq_getElem?_getD, List.getElem?_eq_getElem (by omega : i < s.length)]
  · rw [List.getElem?_eq_none (by simp; omega), List.getElem?_eq_none (by omega)]; rfl
theorem secA_zero : secA [] = List.replicate 64 (AV.int .u8 0) := by
  refine List.ext_getElem? fun i => ?_
  simp only [secA, cel, List.getElem?_map]
  rcases Nat.lt_or_ge i 64 with hi | hi
  · rw [List.getElem?_range hi, List.getElem?_replicate, if_pos hi]; simp [secB]
  · rw [List.getElem?_eq_none (by simp; omega), List.getElem?_replicate, if_neg (by omega)]; rfl
/-- A pending write: the file's place, which sector, what. -/
abbrev PD := Nat × Nat × Bs
def pendE : Enc PD := ⟨66, fun x => [.ptr (some ⟨x.1, 0⟩), .int .i64 (x.2.1 : Nat)] ++ secA x.2.2, fun _ => by simp [cel_len], by omega, fun _ => by
  have := @cel_one .u8 64
  simp [oneAll, AV.one] at this ⊢
  exact fun x hx => this x hx⟩

/-! Slices that have room. -/
section
variable {α : Type} {E : Enc α} {h h' : Heap} {q : Option SL} {l m : List α}
/-- A slice of a list that may be appended to, and may have room. -/
def AppJ (E : Enc α) (h : Heap) (q : Option SL) (l : List α) : Prop :=
  (q = none ∧ l = []) ∨ ∃ (a c o : Nat) (j : List AV), q = some ⟨a, 0, l.length, c, o⟩ ∧ (o = 0 ∨ o = E.sz) ∧ h[a]? = some (.cells (E.all l ++ j) true) ∧ j.length = (c - l.length) * E.sz ∧ l.length ≤ c
theorem AppJ.hasL (A : AppJ E h q l) : HasL E h q l := by
  rcases A with ⟨rfl, rfl⟩ | ⟨a, c, o, j, rfl, ho, hb, hj, hc⟩
  · rfl
  · refine ⟨rfl, hc, ho, ?_⟩
    rw [cellsAt_mk (p := ⟨a, 0⟩) hb (by simp [Enc.all_length])]
    simp [← Enc.all_length]
theorem AppJ.keeps {X : Nat → Prop} (A : AppJ E h q l) (K : Keeps X h h') (hq : ∀ s, q = some s → ¬ X s.b) : AppJ E h' q l := by
  rcases A with ⟨rfl, rfl⟩ | ⟨a, c, o, j, rfl, ho, hb, hj, hc⟩
  · exact .inl ⟨rfl, rfl⟩
  · exact .inr ⟨a, c, o, j, rfl, ho, K _ _ (hq _ rfl) hb, hj, hc⟩
theorem AppJ.ext (A : AppJ E h q l) (K : Ext h h') : AppJ E h' q l := A.keeps (X := fun _ => False) (keeps_of_ext K) (fun _ _ h => h)
theorem AppJ.of (A : App E h q l) : AppJ E h q l := by
  rcases A with ⟨rfl, rfl⟩ | ⟨a, o, rfl, ho, hb⟩
  · exact .inl ⟨rfl, rfl⟩
  · exact .inr ⟨a, l.length, o, [], rfl, ho, by simpa using hb, by simp, Nat.le_refl _⟩
theorem AppJ.live (A : AppJ E h q l) : ∀ s, q = some s → s.b < h.length := by
  intro s hs
  rcases A with ⟨rfl, rfl⟩ | ⟨a, c, o, j, rfl, ho, hb, hj, hc⟩
  · cases hs
  · cases hs; exact lt_of_get hb

/-- append. -/
theorem AppJ.append0 {by' : Nat} {K : Option SL → Heap → Prop} (A : AppJ E h q l) (hb : (l.length + m.length) * by' ≤ 140737488355328)
    (hK : ∀ q' h', AppJ E h' q' (l ++ m) → Keeps (fun b => ∃ s, q = some s ∧ s.b = b) h h' → h.length ≤ h'.length → (∀ s', q' = some s' → h.length ≤ s'.b ∨ ∃ s, q = some s ∧ s.b = s'.b) → K q' h') : PAppend E.sz by' q m.length (E.all m) h K := by
  refine ⟨by rw [Enc.all_length], ?_⟩
  rcases A with ⟨rfl, rfl⟩ | ⟨a, c, o, j, rfl, ho, hb5, hj, hc⟩
  · simp only
    split
    · rename_i hm
      have : m = [] := List.eq_nil_of_length_eq_zero hm
      subst this
      exact hK _ _ (.inl ⟨rfl, rfl⟩) (.refl _ _) (Nat.le_refl _) (fun s' h => by cases h)
    · refine ⟨by simpa using hb, E.pos, hK _ _ (.of (App.mk (by simp) (.inr rfl) (by simp))) (keeps_of_ext (Ext.app _ _)) (by simp) (fun s' h => by cases h; exact .inl (Nat.le_refl _))⟩
  · simp only
    have hset : ∀ B : Blk, Keeps (fun b => ∃ s' : SL, some (⟨a, 0, l.length, c, o⟩ : SL) = some s' ∧ s'.b = b) h (h.set a B) := by
      intro B b C hb hC
      rw [List.getElem?_set, if_neg]
      · exact hC
      · intro he; exact hb ⟨_, rfl, he⟩
    split
    · rename_i hle
      rw [hb5]
      simp only
      have hl1 : (E.all l).length = l.length * E.sz := Enc.all_length
      have hm1 : (E.all m).length = m.length * E.sz := Enc.all_length
      have hmul : m.length * E.sz ≤ (c - l.length) * E.sz := Nat.mul_le_mul_right _ (by omega)
      have hsub : (c - (l.length + m.length)) * E.sz = (c - l.length) * E.sz - m.length * E.sz := by rw [← Nat.sub_mul]; congr 1; omega
      refine ⟨by rw [List.length_append, hl1, hm1, hj]; omega, hK _ _ (.inr ⟨a, c, o, j.drop (m.length * E.sz), by simp, ho, ?_, ?_, by simp; omega⟩) (hset _) (by simp) (fun s' h => by cases h; exact .inr ⟨_, rfl, rfl⟩)⟩
      · rw [List.getElem?_set_self (lt_of_get hb5)]
        congr 2
        rw [splice, Nat.zero_add, ← hl1, List.take_left' rfl, Enc.all_append, ← List.drop_drop, List.drop_left' rfl, hm1]
      · rw [List.length_drop, hj, List.length_append, hsub]
    · have hold : cellsAt h ⟨a, 0⟩ (l.length * E.sz) = some (E.all l) := by
        rw [cellsAt_mk (p := ⟨a, 0⟩) hb5 (by simp [Enc.all_length])]
        simp [← Enc.all_length]
      refine ⟨hb, E.pos, ?_⟩
      rw [hold, hb5]
      simp only
      rcases ho with rfl | rfl
      · rw [if_pos rfl]
        exact hK _ _ (.of (App.mk (by simp) (.inr rfl) (by simp [Enc.all_append]))) (keeps_of_ext (Ext.app _ _)) (by simp) (fun s' h => by cases h; exact .inl (Nat.le_refl _))
      · have h0' : ¬ E.sz = 0 := by have := E.pos; omega
        rw [if_neg h0']
        refine ⟨trivial, rfl, hK _ _ (.of (App.mk (by simp) (.inr rfl) ?_)) ((hset _).trans (keeps_of_ext (Ext.app _ _))) (by simp) (fun s' h => by cases h; exact .inl (Nat.le_refl _))⟩
        rw [List.getElem?_append_right (by simp)]
        simp [Enc.all_append]
theorem AppJ.append {src : Option SL} {by' : Nat} {K : Option SL → Heap → Prop} (A : AppJ E h q l) (H : HasL E h src m) (hb : (l.length + m.length) * by' ≤ 140737488355328)
    (hK : ∀ q' h', AppJ E h' q' (l ++ m) → Keeps (fun b => ∃ s, q = some s ∧ s.b = b) h h' → h.length ≤ h'.length → (∀ s', q' = some s' → h.length ≤ s'.b ∨ ∃ s, q = some s ∧ s.b = s'.b) → K q' h') : PAppendS E.sz by' q src h K := by
  refine ⟨E.all m, H.cells, ?_⟩
  rw [H.len]
  exact A.append0 hb hK

/-- An element stored. -/
theorem AppJ.store {i k : Nat} {r r' : α} {xs : List AV} {K : Heap → Prop} (A : AppJ E h q l) (hi : l[i]? = some r) (hk : k + xs.length ≤ E.sz) (hr : E.f r' = splice (E.f r) k xs) {p : PA} (hp : ∀ s, q = some s → p = ⟨s.b, i * E.sz + k⟩)
    (hK : ∀ h', AppJ E h' q (l.set i r') → Keeps (fun b => ∃ s, q = some s ∧ s.b = b) h h' → h'.length = h.length → K h') : PStore h p xs K := by
  rcases A with ⟨rfl, rfl⟩ | ⟨a, c, o, j, rfl, ho, hb5, hj, hc⟩
  · simp at hi
  · have hp := hp _ rfl
    subst hp
    have hlt := lt_of_get hi
    have hl1 : (E.all l).length = l.length * E.sz := Enc.all_length
    have hmul : (i + 1) * E.sz ≤ l.length * E.sz := Nat.mul_le_mul_right _ hlt
    rw [Nat.add_mul, Nat.one_mul] at hmul
    unfold PStore
    simp only [hb5]
    refine ⟨by rw [List.length_append, hl1]; omega, hK _ (.inr ⟨a, c, o, j, by simp, ho, ?_, by simpa using hj, by simpa using hc⟩) ?_ (by simp)⟩
    · rw [List.getElem?_set_self (lt_of_get hb5)]
      congr 2
      have := splice_app (A := []) (B := E.all l) (C := j) (xs := xs) (k := i * E.sz + k) (by rw [hl1]; omega)
      simp only [List.nil_append, List.length_nil, Nat.zero_add] at this
      rw [this, Go.Ab.splice_set hi hk hr]
    · intro b C hb hC
      rw [List.getElem?_set, if_neg]
      · exact hC
      · intro he; exact hb ⟨_, rfl, he⟩
theorem AppJ.idx (A : AppJ E h q l) {i : Int} {K : PA → Prop} (h0 : 0 ≤ i) (h1 : i < l.length)
    (hK : ∀ p x, l[i.toNat]? = some x → cellsAt h p E.sz = some (E.f x) → (∀ s, q = some s → p = ⟨s.b, i.toNat * E.sz⟩) → K p) : vIdx q i E.sz K := by
  rcases A with ⟨rfl, rfl⟩ | ⟨a, c, o, j, rfl, ho, hb5, hj, hc⟩
  · simp at h1; omega
  · have A' : AppJ E h (some ⟨a, 0, l.length, c, o⟩) l := .inr ⟨a, c, o, j, rfl, ho, hb5, hj, hc⟩
    have hi : i.toNat < l.length := by omega
    refine ⟨h0, h1, hK _ _ (List.getElem?_eq_getElem hi) ?_ (fun s hs => by cases hs; simp)⟩
    have h2 : i.toNat * E.sz + E.sz ≤ l.length * E.sz := by
      have : (i.toNat + 1) * E.sz ≤ l.length * E.sz := Nat.mul_le_mul_right _ hi
      rw [Nat.add_mul, Nat.one_mul] at this; exact this
    have hc2 := A'.hasL.2.2.2
    rw [cellsAt_sub hc2 h2, Enc.all_at (List.getElem?_eq_getElem hi)]
end
end Go.Proofs.Ytceplmmmlindnaa

/- The disk of the engine over the abstract heap: what lies where. -/
namespace Go.Proofs.Ytceplmmmlindnaa
open Go.Ab
set_option linter.unusedVariables false
set_option linter.unusedSimpArgs false

/-- A file: where it lies, its name, its sectors as written last, and as kept. -/
structure FA where
  b : Nat
  name : Bs
  now : List Bs
  safe : List Bs
/-- A disk. -/
structure DS where
  files : List FA
  pends : List PD
  limit : Int
  left : Int
  off : Bool

inductive Role where
  | disk | map | pends | file | now (b : Nat) | safe (b : Nat)
deriving DecidableEq

abbrev Roles := Nat → Option Role
abbrev dsk (ow : Roles) : Nat → Prop := fun b => ow b ≠ none

structure FileR (h : Heap) (ow : Roles) (f : FA) : Prop where
  role : ow f.b = some .file
  cells : ∃ qn qs, h[f.b]? = some (.cells [.str f.name, .sl qn, .sl qs] true) ∧ AppJ secE h qn f.now ∧ AppJ secE h qs f.safe ∧
    (∀ s, qn = some s → ow s.b = some (.now f.b)) ∧ (∀ s, qs = some s → ow s.b = some (.safe f.b))

abbrev Ents := List (AV × AV × Nat)
def entOf (f : FA) : AV × AV := (.str f.name, .ptr (some ⟨f.b, 0⟩))

structure DiskC (h : Heap) (ow : Roles) (p m : Nat) (qp : Option SL) (es : Ents) (cl : Nat) (D : DS) : Prop where
  live : ∀ b, ow b ≠ none → b < h.length
  pr : ow p = some .disk
  mr : ow m = some .map
  pb : h[p]? = some (.cells [.map (some m), .sl qp, .int .i64 D.limit, .int .i64 D.left, .bool D.off] true)
  mb : h[m]? = some (.mp es cl)
  ents : es.map (fun e => (e.1, e.2.1)) = D.files.map entOf
  born : (es.map (·.2.2)).Nodup
  clk : ∀ e ∈ es, e.2.2 < cl
  pnd : AppJ pendE h qp D.pends
  pndr : ∀ s, qp = some s → ow s.b = some .pends
  file : ∀ f ∈ D.files, FileR h ow f
  names : (D.files.map (·.name)).Nodup
  blocks : (D.files.map (·.b)).Nodup
  pfile : ∀ x ∈ D.pends, ∃ f ∈ D.files, f.b = x.1 ∧ x.2.1 < f.now.length
  safe : ∀ f ∈ D.files, f.safe.length ≤ f.now.length
  nlen : ∀ f ∈ D.files, f.name.length ≤ 24
  many : D.files.length ≤ 256
  used : (D.files.map (·.now.length)).sum ≤ 16384
  lim : D.limit ≤ 16384
  lft : -1 ≤ D.left ∧ D.left ≤ 1000000000000

def DiskR (h : Heap) (ow : Roles) (p : Nat) (D : DS) : Prop := ∃ m qp es cl, DiskC h ow p m qp es cl D

/-- What a call may do to all else. -/
structure DStep (ow : Roles) (h : Heap) (ow' : Roles) (h' : Heap) : Prop where
  keeps : Keeps (dsk ow) h h'
  len : h.length ≤ h'.length
  own : ∀ b, ow' b ≠ none → ow b ≠ none ∨ h.length ≤ b
theorem DStep.refl (ow : Roles) (h : Heap) : DStep ow h ow h := ⟨.refl _ _, Nat.le_refl _, fun b hb => .inl hb⟩
theorem DStep.trans {ow0 ow1 ow2 : Roles} {h0 h1 h2 : Heap} (a : DStep ow0 h0 ow1 h1) (b : DStep ow1 h1 ow2 h2) : DStep ow0 h0 ow2 h2 := by
  refine ⟨fun k B hk hB => ?_, Nat.le_trans a.len b.len, fun k hk => ?_⟩
  · refine b.keeps k B (fun hn => ?_) (a.keeps k B hk hB)
    rcases a.own k hn with h | h
    · exact hk h
    · have := lt_of_get hB; omega
  · rcases b.own k hk with h | h
    · exact a.own k h
    · exact .inr (Nat.le_trans a.len h)
theorem DStep.ext {ow : Roles} {h h' : Heap} (e : Ext h h') : DStep ow h ow h' := ⟨keeps_of_ext e, e.len, fun b hb => .inl hb⟩

section
variable {h h' : Heap} {ow ow' : Roles} {p m : Nat} {qp : Option SL} {es : Ents} {cl : Nat} {D : DS} {f : FA}

theorem FileR.keeps (F : FileR h ow f) {X : Nat → Prop} (K : Keeps X h h') (hX : ∀ b, (ow b = some .file ∧ b = f.b) ∨ ow b = some (.now f.b) ∨ ow b = some (.safe f.b) → ¬ X b)
    (ho : ∀ b r, ow b = some r → ow' b = some r) : FileR h' ow' f := by
  obtain ⟨r, qn, qs, c, a1, a2, r1, r2⟩ := F
  exact ⟨ho _ _ r, qn, qs, K _ _ (hX _ (.inl ⟨r, rfl⟩)) c, a1.keeps K (fun s hs => hX _ (.inr (.inl (r1 s hs)))), a2.keeps K (fun s hs => hX _ (.inr (.inr (r2 s hs)))), fun s hs => ho _ _ (r1 s hs), fun s hs => ho _ _ (r2 s hs)⟩

/-- All lies where it lay. -/
theorem DiskC.ext (C : DiskC h ow p m qp es cl D) (K : Keeps (fun b => ow b = none) h h') (hl : h.length ≤ h'.length) : DiskC h' ow p m qp es cl D :=
  { C with
    live := fun b hb => Nat.lt_of_lt_of_le (C.live b hb) hl
    pb := K _ _ (by simp [C.pr]) C.pb
    mb := K _ _ (by simp [C.mr]) C.mb
    pnd := C.pnd.keeps K (fun s hs => by simp [C.pndr s hs])
    file := fun f hf => (C.file f hf).keeps K (fun b hb => by rcases hb with ⟨hb, _⟩ | hb | hb <;> simp [hb]) (fun _ _ h => h) }
theorem DiskR.ext (R : DiskR h ow p D) (K : Keeps (fun b => ow b = none) h h') (hl : h.length ≤ h'.length) : DiskR h' ow p D := by
  obtain ⟨m, qp, es, cl, C⟩ := R; exact ⟨m, qp, es, cl, C.ext K hl⟩
theorem DiskR.grow (R : DiskR h ow p D) (e : Ext h h') : DiskR h' ow p D := R.ext (keeps_of_ext e) e.len
theorem DiskR.live (R : DiskR h ow p D) : ∀ b, ow b ≠ none → b < h.length := by obtain ⟨m, qp, es, cl, C⟩ := R; exact C.live

/-- The disk's own cells. -/
theorem DiskC.at (C : DiskC h ow p m qp es cl D) {k : Nat} {x : AV} (hx : [AV.map (some m), .sl qp, .int .i64 D.limit, .int .i64 D.left, .bool D.off][k]? = some x) : cellsAt h ⟨p, 0 + k⟩ 1 = some [x] := by
  have hk : k < 5 := by simpa using lt_of_get hx
  rw [cellsAt_mk (p := ⟨p, 0 + k⟩) C.pb (by show 0 + k + 1 ≤ 5; omega)]
  simp only [Nat.zero_add]
  rw [List.take_one, List.head?_drop, hx]
  rfl

/-- A field of the disk's own is written. -/
theorem DiskC.put (C : DiskC h ow p m qp es cl D) {D' : DS} {B : Blk} (hB : B = .cells [.map (some m), .sl qp, .int .i64 D'.limit, .int .i64 D'.left, .bool D'.off] true)
    (hf : D'.files = D.files) (hp : D'.pends = D.pends) (hl : D'.limit = D.limit) (hlf : -1 ≤ D'.left ∧ D'.left ≤ 1000000000000) : DiskC (h.set p B) ow p m qp es cl D' ∧ DStep ow h ow (h.set p B) := by
  have K : Keeps (fun b => b = p) h (h.set p B) := keeps_set rfl
  have ne : ∀ b r, ow b = some r → r ≠ .disk → ¬ b = p := fun b r hr hn he => by subst he; rw [C.pr] at hr; exact hn (Option.some.inj hr).symm
  refine ⟨⟨fun b hb => by rw [List.length_set]; exact C.live b hb, C.pr, C.mr, ?_, ?_, by rw [hf]; exact C.ents, C.born, C.clk, ?_, C.pndr, ?_, by rw [hf]; exact C.names, by rw [hf]; exact C.blocks, by rw [hp, hf]; exact C.pfile, by rw [hf]; exact C.safe, by rw [hf]; exact C.nlen, by rw [hf]; exact C.many, by rw [hf]; exact C.used, by rw [hl]; exact C.lim, hlf⟩, ⟨fun b B' hb hB' => ?_, by simp, fun b hb => .inl hb⟩⟩
  · rw [List.getElem?_set_self (lt_of_get C.pb), hB]
  · exact K _ _ (ne _ _ C.mr (by simp)) C.mb
  · rw [hp]; exact C.pnd.keeps K (fun s hs => ne _ _ (C.pndr s hs) (by simp))
  · rw [hf]
    intro f hf
    exact (C.file f hf).keeps K (fun b hb => by rcases hb with ⟨hb, _⟩ | hb | hb <;> exact ne _ _ hb (by simp)) (fun _ _ h => h)
  · exact K _ _ (fun he => by subst he; exact hb (by show ow _ ≠ none; rw [C.pr]; simp)) hB'

/-- A slice's new place gets its role. -/
def setOw (ow : Roles) (q : Option SL) (r : Role) : Roles := fun b => match q with
  | some s => if b = s.b then some r else ow b
  | none => ow b
theorem setOw_keep {n : Nat} {q : Option SL} {r : Role} (hl : ∀ b, ow b ≠ none → b < n) (hq : ∀ s, q = some s → n ≤ s.b ∨ ow s.b = some r) : ∀ b r', ow b = some r' → setOw ow q r b = some r' := by
  intro b r' hb
  unfold setOw
  cases q with
  | none => exact hb
  | some s =>
    simp only
    split
    · rename_i he
      subst he
      rcases hq s rfl with h | h
      · have := hl s.b (by simp [hb]); omega
      · rw [h] at hb; exact hb
    · exact hb
theorem setOw_self {q : Option SL} {r : Role} : ∀ s, q = some s → setOw ow q r s.b = some r := by
  intro s hs; subst hs; simp [setOw]
theorem setOw_some {n : Nat} {q : Option SL} {r : Role} (hq : ∀ s, q = some s → n ≤ s.b ∨ ow s.b = some r) : ∀ b, setOw ow q r b ≠ none → ow b ≠ none ∨ n ≤ b := by
  intro b hb
  unfold setOw at hb
  cases q with
  | none => exact .inl hb
  | some s =>
    simp only at hb
    split at hb
    · rename_i he; subst he
      rcases hq s rfl with h | h
      · exact .inr h
      · exact .inl (by simp [h])
    · exact .inl hb

/-! Files by names. -/
def DS.find (D : DS) (s : Bs) : Option FA := D.files.find? (fun f => f.name == s)
theorem keyStrs_of : ∀ {es : Ents} {fs : List FA}, es.map (fun e => (e.1, e.2.1)) = fs.map entOf → keyStrs es = some (fs.map (·.name))
  | [], [], _ => rfl
  | [], f :: fs, h => by simp at h
  | e :: es, [], h => by simp at h
  | (k, v, n) :: es, f :: fs, h => by
    simp only [List.map_cons, List.cons.injEq, entOf, Prod.mk.injEq] at h
    obtain ⟨⟨rfl, rfl⟩, h⟩ := h
    simp only [keyStrs, keyStrs_of h, List.map_cons]

theorem findP_file {P : Program} {kt : TypeId} (hkt : P.underlying kt = some .string) {s : Bs} {K : Option (Nat × AV × Nat) → Prop} : ∀ {es : Ents} {fs : List FA} {i : Nat}, es.map (fun e => (e.1, e.2.1)) = fs.map entOf →
    (fs.find? (fun f => f.name == s) = none → K none) → (∀ j f n, fs.find? (fun f => f.name == s) = some f → fs[j]? = some f → es[j]? = some (.str s, .ptr (some ⟨f.b, 0⟩), n) → K (some (i + j, .ptr (some ⟨f.b, 0⟩), n))) → findP P kt (.str s) es i K
  | [], [], i, _, h1, _ => h1 rfl
  | [], f :: fs, i, h, _, _ => by simp at h
  | e :: es, [], i, h, _, _ => by simp at h
  | (k, v, n) :: es, f :: fs, i, h, h1, h2 => by
    simp only [List.map_cons, List.cons.injEq, entOf, Prod.mk.injEq] at h
    obtain ⟨⟨rfl, rfl⟩, h⟩ := h
    unfold findP keyIs
    rw [hkt]
    refine vif_mk (fun g => ?_) fun g => ?_
    · have hs : s = f.name := by simpa using g
      subst hs
      exact h2 0 f n (by simp) rfl rfl
    · have hne : ¬ f.name = s := fun he => by subst he; simp at g
      have hf : (f :: fs).find? (fun f => f.name == s) = fs.find? (fun f => f.name == s) := by
        have hb : (f.name == s) = false := by simpa using hne
        simp only [List.find?_cons, hb]
      refine findP_file hkt h (fun hn => h1 (by rw [hf]; exact hn)) fun j g' n' e1 e2 e3 => ?_
      have := h2 (j + 1) g' n' (by rw [hf]; exact e1) (by simpa using e2) (by simpa using e3)
      rw [show i + 1 + j = i + (j + 1) by omega]; exact this

/-- files[name] -/
theorem DiskC.look (C : DiskC h ow p m qp es cl D) {s : Bs} {K : AV → Prop} (h0 : D.find s = none → K (.ptr none)) (h1 : ∀ f, D.find s = some f → f ∈ D.files → f.name = s → K (.ptr (some ⟨f.b, 0⟩))) : PLookup Try.prog 9 136 (some m) (.str s) false h K := by
  have hm : mapEs h (some m) = some es := by simp only [mapEs, C.mb]
  unfold PLookup
  rw [hm]
  have hz : tz Try.prog 136 = some (.ptr none) := by kernel_rfl
  have hk : keyOk Try.prog 9 (.str s) = true := by simp only [keyOk, Try.underlying9]
  simp only [hz, hk, need]
  refine findP_file Try.underlying9 C.ents (fun hn => h0 hn) fun j f n e1 e2 e3 => ?_
  exact h1 f e1 (List.mem_of_getElem? e2) (by have := List.find?_some e1; simpa using this)
end
end Go.Proofs.Ytceplmmmlindnaa

/- The disk: its small calls. -/
namespace Go.Proofs.Ytceplmmmlindnaa
open Go.Ab
set_option linter.unusedVariables false
set_option linter.unusedSimpArgs false

section
variable {h h' : Heap} {ow ow' : Roles} {p m : Nat} {qp : Option SL} {es : Ents} {cl : Nat} {D : DS} {f : FA} {Q : AV → Heap → Prop}

/-- made -/
theorem d86 (R : DiskR h ow p D) (hQ : Q (.bool true) h) : AC Try.prog 86 [.ptr (some ⟨p, 0⟩)] h Q := ac86 (by
  obtain ⟨m, qp, es, cl, C⟩ := R
  unfold vc86
  exact ⟨some m, C.at (k := 0) rfl, hQ⟩)
/-- ready -/
theorem d88 (R : DiskR h ow p D) (hQ : Q (.int .i64 (if D.off then 50 else 0)) h) : AC Try.prog 88 [.ptr (some ⟨p, 0⟩)] h Q := ac88 (by
  unfold vc88
  refine d86 R ⟨_, rfl, ?_⟩
  obtain ⟨m, qp, es, cl, C⟩ := R
  refine ⟨_, C.at (k := 4) rfl, vif_mk (fun g => ?_) (fun g => ?_)⟩
  · rw [g] at hQ; exact hQ
  · rw [g] at hQ; exact hQ)
/-- may -/
def mayN (s : Bs) : Bool := decide (1 ≤ s.length) && decide (s.length ≤ 24)
theorem d87 {s : Bs} (hQ : Q (.bool (mayN s)) h) : AC Try.prog 87 [.str s] h Q := ac87 (by
  unfold vc87
  unfold mayN at hQ
  refine vif_mk (fun g => ?_) (fun g => ?_)
  · replace g := of_decide_eq_true g
    rw [decide_eq_true (by omega), Bool.true_and] at hQ
    have : decide ((s.length : Int) ≤ 24) = decide (s.length ≤ 24) := by congr 1; simp; omega
    rw [this]; exact hQ
  · replace g := of_decide_eq_false g
    rw [decide_eq_false (by omega), Bool.false_and] at hQ
    exact hQ)
/-- find -/
theorem d90 (R : DiskR h ow p D) {s : Bs} (h0 : D.off = true → Q (.tup [.ptr none, .int .i64 50]) h) (h1 : D.off = false → D.find s = none → Q (.tup [.ptr none, .int .i64 4]) h)
    (h2 : ∀ f, D.off = false → D.find s = some f → f ∈ D.files → f.name = s → Q (.tup [.ptr (some ⟨f.b, 0⟩), .int .i64 0]) h) : AC Try.prog 90 [.ptr (some ⟨p, 0⟩), .str s] h Q := ac90 (by
  unfold vc90
  refine d88 R ⟨_, rfl, ?_⟩
  cases ho : D.off with
  | true => exact h0 ho
  | false =>
    obtain ⟨m, qp, es, cl, C⟩ := R
    refine ⟨_, C.at (k := 0) rfl, C.look (fun hn => ⟨_, rfl, h1 ho hn⟩) fun f hf hm hs => ⟨_, rfl, h2 f ho hf hm hs⟩⟩)

/-- What a deed does to the power. -/
def DS.deed (D : DS) : Int × DS := if D.left = 0 then (50, { D with off := true }) else if D.left > 0 then (0, { D with left := D.left - 1 }) else (0, D)
theorem d89 (R : DiskR h ow p D) (hQ : ∀ h', DiskR h' ow p D.deed.2 → DStep ow h ow h' → Q (.int .i64 D.deed.1) h') : AC Try.prog 89 [.ptr (some ⟨p, 0⟩)] h Q := ac89 (by
  obtain ⟨m, qp, es, cl, C⟩ := R
  have hlf := C.lft
  unfold vc89
  unfold DS.deed at hQ
  refine ⟨D.left, C.at (k := 3) rfl, vif_mk (fun g => ?_) (fun g => ?_)⟩
  · have g : D.left = 0 := by simpa using g
    rw [if_pos g] at hQ
    refine store6 C.pb (by simp) ?_
    obtain ⟨C', S⟩ := C.put (D' := { D with off := true }) (B := .cells (splice [.map (some m), .sl qp, .int .i64 D.limit, .int .i64 D.left, .bool D.off] (0 + 4) [.bool true]) true) rfl rfl rfl rfl hlf
    exact hQ _ ⟨_, _, _, _, C'⟩ S
  · have g : ¬ D.left = 0 := by simpa using g
    rw [if_neg g] at hQ
    refine ⟨D.left, C.at (k := 3) rfl, vif_mk (fun g => ?_) (fun g => ?_)⟩
    · replace g := of_decide_eq_true g
      rw [if_pos g] at hQ
      refine ⟨D.left, C.at (k := 3) rfl, ?_⟩
      rw [wrapK_i64 ⟨by omega, by omega⟩]
      refine store6 C.pb (by simp) ?_
      obtain ⟨C', S⟩ := C.put (D' := { D with left := D.left - 1 }) (B := .cells (splice [.map (some m), .sl qp, .int .i64 D.limit, .int .i64 D.left, .bool D.off] (0 + 3) [.int .i64 (D.left - 1)]) true) rfl rfl rfl rfl (by simp only; omega)
      exact hQ _ ⟨_, _, _, _, C'⟩ S
    · replace g := of_decide_eq_false g
      rw [if_neg g] at hQ
      exact hQ _ ⟨_, _, _, _, C⟩ (.refl _ _))

/-- Stop -/
theorem d35 (R : DiskR h ow p D) {n : Int} (h0 : 0 ≤ n) (h1 : n ≤ 1000000000000) (hQ : ∀ h', DiskR h' ow p { D with left := n } → DStep ow h ow h' → Q (.int .i64 0) h') : AC Try.prog 35 [.ptr (some ⟨p, 0⟩), .int .i64 n] h Q := ac35 (by
  unfold vc35
  refine d86 R ⟨_, rfl, vif_mk (fun g => by cases g) (fun _ => vif_mk (fun g => ?_) (fun _ => ?_))⟩
  · replace g := of_decide_eq_true g; omega
  obtain ⟨m, qp, es, cl, C⟩ := R
  refine store6 C.pb (by simp) ?_
  obtain ⟨C', S⟩ := C.put (D' := { D with left := n }) (B := .cells (splice [.map (some m), .sl qp, .int .i64 D.limit, .int .i64 D.left, .bool D.off] (0 + 3) [.int .i64 n]) true) rfl rfl rfl rfl (by simp only; omega)
  exact hQ _ ⟨_, _, _, _, C'⟩ S)
/-- Off -/
theorem d38 (R : DiskR h ow p D) (hQ : Q (.bool D.off) h) : AC Try.prog 38 [.ptr (some ⟨p, 0⟩)] h Q := ac38 (by
  unfold vc38
  refine d86 R ⟨_, rfl, ?_⟩
  obtain ⟨m, qp, es, cl, C⟩ := R
  exact ⟨_, C.at (k := 4) rfl, hQ⟩)

/-- Fields of a file. -/
theorem FileR.at (F : FileR h ow f) : ∃ qn qs, cellsAt h ⟨f.b, 0 + 0⟩ 1 = some [.str f.name] ∧ cellsAt h ⟨f.b, 0 + 1⟩ 1 = some [.sl qn] ∧ cellsAt h ⟨f.b, 0 + 2⟩ 1 = some [.sl qs] ∧ h[f.b]? = some (.cells [.str f.name, .sl qn, .sl qs] true) ∧ AppJ secE h qn f.now ∧ AppJ secE h qs f.safe ∧
    (∀ s, qn = some s → ow s.b = some (.now f.b)) ∧ (∀ s, qs = some s → ow s.b = some (.safe f.b)) := by
  obtain ⟨r, qn, qs, c, a⟩ := F
  exact ⟨qn, qs, by rw [cells6 c (by simp)]; rfl, by rw [cells6 c (by simp)]; rfl, by rw [cells6 c (by simp)]; rfl, c, a⟩

/-- Size -/
theorem d40 (R : DiskR h ow p D) {s : Bs} (h0 : D.find s = none → Q (.tup [.int .i64 0, .int .i64 4]) h) (h1 : ∀ f, D.find s = some f → Q (.tup [.int .i64 (f.now.length : Nat), .int .i64 0]) h) : AC Try.prog 40 [.ptr (some ⟨p, 0⟩), .str s] h Q := ac40 (by
  unfold vc40
  refine d86 R ⟨_, rfl, ?_⟩
  obtain ⟨m, qp, es, cl, C⟩ := R
  refine ⟨_, C.at (k := 0) rfl, C.look (fun hn => ⟨_, rfl, h0 hn⟩) fun f hf hm hs => ⟨_, rfl, ?_⟩⟩
  obtain ⟨qn, qs, c0, c1, c2, c, a1, a2, r1, r2⟩ := (C.file f hm).at
  refine ⟨qn, c1, ?_⟩
  rw [a1.hasL.len]
  exact h1 f hf)

/-- New -/
def emptyD (n : Int) : DS := ⟨[], [], n, -1, false⟩
theorem d32 {n : Int} (h0 : 0 ≤ n) (h1 : n ≤ 16384) (hQ : ∀ ow, DiskR ((h ++ [.mp [] 0]) ++ [.cells [.map (some h.length), .sl none, .int .i64 n, .int .i64 (-1), .bool false] true]) ow (h.length + 1) (emptyD n) → (∀ b, ow b ≠ none → h.length ≤ b) → Q (.tup [.ptr (some ⟨h.length + 1, 0⟩), .int .i64 0]) ((h ++ [.mp [] 0]) ++ [.cells [.map (some h.length), .sl none, .int .i64 n, .int .i64 (-1), .bool false] true])) : AC Try.prog 32 [.int .i64 n] h Q := ac32 (by
  unfold vc32 PNew
  refine vif_mk (fun g => ?_) (fun _ => ?_)
  · replace g := of_decide_eq_true g; omega
  refine vif_mk (fun g => ?_) (fun _ => ?_)
  · replace g := of_decide_eq_true g; omega
  have e : (h ++ [Blk.mp [] 0]).length = h.length + 1 := by simp
  rw [e]
  refine hQ (fun b => if b = h.length then some .map else if b = h.length + 1 then some .disk else none) ⟨h.length, none, [], 0, ?_⟩ fun b hb => ?_
  · refine ⟨fun b hb => ?_, by simp, by simp, ?_, ?_, rfl, by simp, by simp, .inl ⟨rfl, rfl⟩, by simp, by simp [emptyD], by simp [emptyD], by simp [emptyD], by simp [emptyD], by simp [emptyD], by simp [emptyD], by simp [emptyD], by simp [emptyD], h1, by simp [emptyD]⟩
    · simp only [ne_eq] at hb
      split at hb
      · simp; omega
      · split at hb
        · simp; omega
        · exact (hb rfl).elim
    · rw [List.getElem?_append_right (by simp)]; simp [emptyD]
    · rw [List.getElem?_append_left (by simp)]; simp
  · simp only [ne_eq] at hb
    split at hb
    · omega
    · split at hb
      · omega
      · exact (hb rfl).elim)
end
end Go.Proofs.Ytceplmmmlindnaa
