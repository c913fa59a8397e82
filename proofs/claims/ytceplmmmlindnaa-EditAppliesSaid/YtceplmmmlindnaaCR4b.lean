/- The document's Check; what goes on in a state, with an exact frame. -/
import Derived.Test.YtceplmmmlindnaaCR4a
namespace Go.Proofs.Ytceplmmmlindnaa
open Go.Ab
set_option linter.unusedVariables false
set_option linter.unusedSimpArgs false

section
variable {h : Heap} {Q : AV → Heap → Prop} {p : Nat} {has : Bool} {done : List ED} {mark : ED}

theorem loop17 {q : Option SL} {l : List Rf} (hL : HasL refE h q l) (hl : l.length ≤ 256) {kp : Prop} (hkp : kp) (hQ : Q (.bool (l.all refOk)) h) :
 ∃ (I9 : List AV → Heap → Prop) (m10 : List AV → Heap → Nat), I9 [.int .i64 0] h ∧
 ∀ n8 : Int, ∀ h11 : Heap, I9 [.int .i64 n8] h11 →
 vif (decide (n8 < (slLen q : Int)))
 (vIdx q n8 3 fun p12 =>
 ∃ s13 : List UInt8, ∃ n14 : Int, ∃ n15 : Int, cellsAt h11 p12 3 = some [.str s13, .int .i64 n14, .int .i64 n15] ∧
 vif (decide ((s13.length : Int) < 1))
 (Q (.bool false) h11)
 (vif (decide ((s13.length : Int) > 24))
 (Q (.bool false) h11)
 (vif (decide (n14 < 1))
 (Q (.bool false) h11)
 (vif (decide (n14 > 2305843009213693952))
 (Q (.bool false) h11)
 (vif (decide (n15 < 0))
 (Q (.bool false) h11)
 (vif (decide (n15 > 16384))
 (Q (.bool false) h11)
 (kp ∧ I9 [.int .i64 (wrapK .i64 (n8 + 1))] h11 ∧ m10 [.int .i64 (wrapK .i64 (n8 + 1))] h11 < m10 [.int .i64 n8] h11)))))))
 (Q (.bool true) h11) := by
  have hlen := hL.len
  refine ⟨fun xs h9 => h9 = h ∧ ∃ i : Nat, xs = [.int .i64 i] ∧ i ≤ l.length ∧ (l.take i).all refOk = true, fun xs _ => match xs with | [.int _ i] => (l.length - i).toNat | _ => 0, ⟨rfl, 0, rfl, by omega, by simp⟩, ?_⟩
  rintro i h9 ⟨rfl, i', hx, h0, hall⟩
  simp only [List.cons.injEq, AV.int.injEq, true_and, and_true] at hx
  subst hx
  refine vif_mk (fun h1 => ?_) (fun h1 => ?_)
  · simp only [decide_eq_true_eq] at h1
    refine hL.idx (by omega) (by omega) fun pp x hx hc => ?_
    have hx' : l[i']? = some x := by simpa using hx
    refine ⟨x.1, x.2.1, x.2.2, hc, ?_⟩
    have bad : refOk x = false → Q (.bool false) h9 := by
      intro hb
      have : l.all refOk = false := by rw [List.all_eq_false]; exact ⟨x, List.mem_of_getElem? hx', by simpa using hb⟩
      rw [this] at hQ; exact hQ
    refine vif_mk (fun g1 => bad ?_) fun g1 => vif_mk (fun g2 => bad ?_) fun g2 => vif_mk (fun g3 => bad ?_) fun g3 => vif_mk (fun g4 => bad ?_) fun g4 => vif_mk (fun g5 => bad ?_) fun g5 => vif_mk (fun g6 => bad ?_) fun g6 => ?_
    all_goals simp only [decide_eq_true_eq, decide_eq_false_iff_not] at g1
    rotate_right
    · simp only [decide_eq_false_iff_not] at g2 g3 g4 g5 g6
      have hok : refOk x = true := by
        unfold refOk
        have e1 : decide (1 ≤ x.1.length) = true := by simp; omega
        have e2 : decide (x.1.length ≤ 24) = true := by simp; omega
        have e3 : decide (1 ≤ x.2.1) = true := by simp; omega
        have e4 : decide (x.2.1 ≤ 2305843009213693952) = true := by simp; omega
        have e5 : decide (0 ≤ x.2.2) = true := by simp; omega
        have e6 : decide (x.2.2 ≤ 16384) = true := by simp; omega
        rw [e1, e2, e3, e4, e5, e6]; rfl
      rw [wrapK_i64 ⟨by omega, by omega⟩]
      refine ⟨hkp, ⟨rfl, i' + 1, by simp, by omega, take_succ_all hx' hall hok⟩, ?_⟩
      simp only; omega
    all_goals
      unfold refOk
      simp only [decide_eq_true_eq, decide_eq_false_iff_not, Bool.and_eq_false_iff] at *
      omega
  · simp only [decide_eq_false_iff_not] at h1
    have : i' = l.length := by omega
    subst this
    rw [List.take_length] at hall
    rw [hall] at hQ; exact hQ

/-- The document's Check. -/
theorem u17 {e : EV} {d : ED} (hR : EdR h e d) (hQ : Q (.bool (chk d)) h) : AC Try.prog 17 [evV e] h Q := ac17 (by
  obtain ⟨r1, r2, r3, hL⟩ := hR
  have hlen := hL.len
  have key : ∀ x : Bool, x = chk d → Q (.bool x) h := fun x hx => hx ▸ hQ
  unfold vc17
  rw [r1, r2, r3]
  have fin : (d.1 == 1 || (d.1 == 2 && d.2.2.1 == 0)) = true → atOk d.2.1 d.2.2.1 = true → decide ((slLen e.2.2.2 : Int) > 256) = false → Q (.bool (d.2.2.2.all refOk)) h := by
    intro g1 g2 g3
    refine key _ ?_
    simp only [decide_eq_false_iff_not] at g3
    have e3 : decide (d.2.2.2.length ≤ 256) = true := by simp; omega
    unfold chk
    rw [g1, g2, e3]; simp
  have h256 : decide ((slLen e.2.2.2 : Int) > 256) = true → chk d = false := by
    intro g
    simp only [decide_eq_true_eq] at g
    have e3 : decide (d.2.2.2.length ≤ 256) = false := by simp; omega
    simp [chk, e3]
  have hl' : decide ((slLen e.2.2.2 : Int) > 256) = false → d.2.2.2.length ≤ 256 := by
    intro g; simp only [decide_eq_false_iff_not] at g; omega
  refine vif_mk (fun g1 => vif_mk (fun g2 => key _ ?_) fun g2 => u64 ⟨_, rfl, ?_⟩) fun g1 => u64 ⟨_, rfl, ?_⟩
  · have e1 : (d.1 == 1) = false := by simpa using g1
    have e2 : (d.1 == 2) = false := by simpa using g2
    unfold chk; rw [e1, e2]; simp
  · have e2 : (d.1 == 2) = true := by simpa using g2
    refine vif_mk (fun g3 => key _ ?_) fun g3 => ?_
    · simp only [Bool.not_eq_true'] at g3; simp [chk, g3]
    have e3 : atOk d.2.1 d.2.2.1 = true := by simpa using g3
    refine vif_mk (fun _ => ?_) fun g4 => (by rw [e2] at g4; cases g4)
    refine vif_mk (fun g5 => key _ ?_) fun g5 => ?_
    · have e1 : (d.1 == 1) = false := by simpa using g1
      have e5 : (d.2.2.1 == 0) = false := by simpa using g5
      unfold chk; rw [e1, e5]; simp
    have e5 : (d.2.2.1 == 0) = true := by simpa using g5
    refine vif_mk (fun g6 => key _ (h256 g6).symm) fun g6 => ?_
    exact loop17 hL (hl' g6) ⟨rfl, trivial⟩ (fin (by rw [e2, e5]; simp) e3 g6)
  · have e1 : (d.1 == 1) = true := by simpa using g1
    have e2 : (d.1 == 2) = false := by
      have : d.1 = 1 := by simpa using e1
      rw [this]; rfl
    refine vif_mk (fun g3 => key _ ?_) fun g3 => ?_
    · simp only [Bool.not_eq_true'] at g3; simp [chk, g3]
    have e3 : atOk d.2.1 d.2.2.1 = true := by simpa using g3
    refine vif_mk (fun g4 => (by rw [e2] at g4; cases g4)) fun _ => ?_
    refine vif_mk (fun g6 => key _ (h256 g6).symm) fun g6 => ?_
    exact loop17 hL (hl' g6) ⟨rfl, trivial⟩ (fin (by rw [e1]; rfl) e3 g6))
end
end Go.Proofs.Ytceplmmmlindnaa
