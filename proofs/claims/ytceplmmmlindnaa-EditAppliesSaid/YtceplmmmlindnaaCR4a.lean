/- States of either kind (the engine's, the document's), looked at; Check, Goes, Done, Edits. -/
import Derived.Test.YtceplmmmlindnaaCR4v
import Derived.Test.YtceplmmmlindnaaCR3e
namespace Go.Proofs.Ytceplmmmlindnaa
open Go.Ab
set_option linter.unusedVariables false
set_option linter.unusedSimpArgs false

/-- What a state at p says. -/
def StV (h : Heap) (p : Nat) (has : Bool) (done : List ED) (mark : ED) : Prop :=
  ∃ (qd : Option SL) (m : EV), h[p]? = some (.cells [.sl qd, .int .i64 m.1, .int .i64 m.2.1, .int .i64 m.2.2.1, .sl m.2.2.2, .bool has] true) ∧ InL h qd done ∧ EdR h m mark ∧ (∀ d ∈ done, d.2.2.2.length ≤ 256) ∧ mark.2.2.2.length ≤ 256
theorem InL.ext {h h' : Heap} {q : Option SL} {l : List ED} (E : InL h q l) (K : Ext h h') : InL h' q l := E.keeps (X := fun _ => False) (keeps_of_ext K) (fun _ _ h => h)
theorem InL.len {h : Heap} {q : Option SL} {l : List ED} (E : InL h q l) : slLen q = l.length := by obtain ⟨L, g, k, _⟩ := E; rw [g.len, k]
theorem EdL.inL {h : Heap} {n : Nat} {q : Option SL} {l : List ED} (E : EdL h n q l) : InL h q l := by
  obtain ⟨L, g, hl, he, _⟩ := E
  exact ⟨L, Acc.hasL g, hl, fun j e d h1 h2 => (he j e d h1 h2).1⟩
theorem StV.ext {h h' : Heap} {p : Nat} {has : Bool} {done : List ED} {mark : ED} (S : StV h p has done mark) (K : Ext h h') : StV h' p has done mark := by
  obtain ⟨qd, m, h1, h2, h3, h4, h5⟩ := S
  exact ⟨qd, m, K _ _ h1, h2.ext K, ⟨h3.1, h3.2.1, h3.2.2.1, h3.2.2.2.mono K⟩, h4, h5⟩

section
variable {h : Heap} {Q : AV → Heap → Prop} {p : Nat} {has : Bool} {done : List ED} {mark : ED}

theorem v29 (S : StV h p has done mark) (hQ : Q (.int .i64 done.length) h) : AC Try.prog 29 [.ptr (some ⟨p, 0⟩)] h Q := ac29 (by
  obtain ⟨qd, m, h1, h2, _⟩ := S
  unfold vc29
  refine ⟨qd, cells6 h1 (o := 0) (k := 1) (by simp), ?_⟩
  rw [h2.len]; exact hQ)

theorem v27 (S : StV h p has done mark) (hQ : ∀ (e : EV) h', Ext h h' → EdR h' e mark → (∀ s, e.2.2.2 = some s → h.length ≤ s.b) → Q (.tup [evV e, .bool has]) h') : AC Try.prog 27 [.ptr (some ⟨p, 0⟩)] h Q := ac27 (by
  obtain ⟨qd, m, h1, h2, h3, h7, h8⟩ := S
  unfold vc27
  refine ⟨m.1, m.2.1, m.2.2.1, m.2.2.2, cells6 h1 (o := 1) (k := 4) (by simp), ?_⟩
  refine ⟨has, cells6 h1 (o := 5) (k := 1) (by simp), ?_⟩
  refine t80 (e := m) h3 h8 fun e' h' hx hR hs g1 g2 g3 => ?_
  refine ⟨e'.1, e'.2.1, e'.2.2.1, e'.2.2.2, rfl, ⟨has, cells6 (hx _ _ h1) (o := 5) (k := 1) (by simp), rfl⟩, ⟨has, cells6 (hx _ _ h1) (o := 5) (k := 1) (by simp), rfl⟩, ?_⟩
  exact hQ e' h' hx hR hs)

theorem v26 (S : StV h p has done mark) (hd : done.length ≤ 100) (hQ : ∀ q h', Ext h h' → EdL h' h.length q (edits has done mark) → Q (.sl q) h') : AC Try.prog 26 [.ptr (some ⟨p, 0⟩)] h Q := ac26 (by
  unfold vc26
  refine v29 S ⟨_, rfl, ?_⟩
  refine ⟨fun xs h9 => ∃ (q : Option SL) (i : Nat), xs = [.sl q, .int .i64 i] ∧ i ≤ done.length ∧ Ext h h9 ∧ EdL h9 h.length q (done.take i), fun xs _ => match xs with | [_, .int _ i] => (done.length - i).toNat | _ => 0,
    ⟨none, 0, rfl, by omega, .refl _, by simpa using EdL.nil⟩, ?_⟩
  rintro q i h9 ⟨q', i', hx, hi, hext, hE⟩
  simp only [List.cons.injEq, AV.int.injEq, AV.sl.injEq, true_and, and_true] at hx
  obtain ⟨rfl, rfl⟩ := hx
  have S9 := S.ext hext
  refine vif_mk (fun h1 => ?_) (fun h1 => ?_)
  · simp only [decide_eq_true_eq] at h1
    obtain ⟨qd, m, b1, ⟨L, g, hL, he⟩, b3, b7, b8⟩ := S9
    refine ⟨qd, cells6 b1 (o := 0) (k := 1) (by simp), ?_⟩
    refine HasL.idx (E := edE) g (by omega) (by omega) fun pp x hx hc => ?_
    have hx' : L[i']? = some x := by simpa using hx
    have hdl : i' < done.length := by omega
    have hd' : done[i']? = some done[i'] := List.getElem?_eq_getElem hdl
    have hR := he i' x _ hx' hd'
    refine ⟨x.1, x.2.1, x.2.2.1, x.2.2.2, hc, ?_⟩
    refine t80 (e := x) hR (b7 _ (List.getElem_mem _)) fun e' h18 hx2 hR2 hs g1 g2 g3 => ?_
    refine ⟨e'.1, e'.2.1, e'.2.2.1, e'.2.2.2, rfl, ?_⟩
    have hlen9 := hext.len
    refine EdL.push (hE.ext hx2) (by have := hx2.len; omega) hR2 ?_ (by simp; omega) fun q2 h26 hE2 K2 hl2 => ?_
    · intro s hs'
      have := hs s hs'
      refine ⟨by omega, fun s' hs2 => ?_⟩
      have := hE.live s' hs2
      omega
    · rw [wrapK_i64 ⟨by omega, by omega⟩]
      refine ⟨trivial, ⟨q2, i' + 1, by simp, by omega, ?_, ?_⟩, ?_⟩
      · intro b B hB
        have hlt := lt_of_get hB
        exact K2 b B (by omega) (hx2 _ _ (hext _ _ hB))
      · rw [List.take_add_one, hd']; exact hE2
      · simp only; omega
  · simp only [decide_eq_false_iff_not] at h1
    have hi' : i' = done.length := by omega
    subst hi'
    rw [List.take_length] at hE
    refine v27 S9 fun e' h28 hx2 hR2 hs => ⟨e'.1, e'.2.1, e'.2.2.1, e'.2.2.2, has, rfl, ?_⟩
    have hlen9 := hext.len
    cases has with
    | true =>
      simp only [vif]
      refine EdL.push (hE.ext hx2) (by have := hx2.len; omega) hR2 ?_ (by omega) fun q2 h26 hE2 K2 hl2 => ?_
      · intro s hs'
        have := hs s hs'
        refine ⟨by omega, fun s' hs2 => ?_⟩
        have := hE.live s' hs2
        omega
      · refine hQ q2 h26 ?_ (by simpa [edits] using hE2)
        intro b B hB
        have hlt := lt_of_get hB
        exact K2 b B (by omega) (hx2 _ _ (hext _ _ hB))
    | false =>
      simp only [vif]
      exact hQ _ _ (hext.trans hx2) (by simpa [edits] using hE.ext hx2))

/-- Done. -/
def doneAt (done : List ED) (n : Int) : ED := if 0 ≤ n then (done[n.toNat]?).getD zeroD else zeroD
def isDone (done : List ED) (n : Int) : Bool := decide (0 ≤ n) && decide (n < done.length)
theorem v30 (S : StV h p has done mark) {n : Int} (hQ : ∀ (e : EV) h', Ext h h' → EdR h' e (doneAt done n) → Q (.tup [evV e, .bool (isDone done n)]) h') : AC Try.prog 30 [.ptr (some ⟨p, 0⟩), .int .i64 n] h Q := ac30 (by
  have S0 := S
  obtain ⟨qd, m, b1, b2, b3, b7, b8⟩ := S
  have hlen := b2.len
  obtain ⟨L, g, hL, he⟩ := b2
  have hno : isDone done n = false → Q (.tup [.agg [.int .i64 0, .int .i64 0, .int .i64 0, .sl none], .bool false]) h := by
    intro hf
    have := hQ zeroV h (.refl _) (by
      have : doneAt done n = zeroD := by
        unfold doneAt
        split
        · rename_i h0
          have : done.length ≤ n.toNat := by
            simp only [isDone, Bool.and_eq_false_iff, decide_eq_false_iff_not] at hf
            omega
          rw [List.getElem?_eq_none this]; rfl
        · rfl
      rw [this]; exact ⟨rfl, rfl, rfl, rfl⟩)
    rw [hf] at this; exact this
  unfold vc30
  refine vif_mk (fun h1 => hno (by simp only [decide_eq_true_eq] at h1; simp [isDone]; omega)) fun h1 => ?_
  refine v29 S0 ⟨_, rfl, vif_mk (fun h2 => hno (by simp only [decide_eq_true_eq] at h2; simp [isDone]; omega)) fun h2 => ?_⟩
  simp only [decide_eq_false_iff_not] at h1 h2
  refine ⟨qd, cells6 b1 (o := 0) (k := 1) (by simp), ?_⟩
  refine HasL.idx (E := edE) g (by omega) (by omega) fun pp x hx hc => ?_
  have hdl : n.toNat < done.length := by omega
  have hd' : done[n.toNat]? = some done[n.toNat] := List.getElem?_eq_getElem hdl
  have hR := he _ x _ hx hd'
  refine ⟨x.1, x.2.1, x.2.2.1, x.2.2.2, hc, t80 (e := x) hR (b7 _ (List.getElem_mem _)) fun e' h' hx2 hR2 hs g1 g2 g3 => ⟨e'.1, e'.2.1, e'.2.2.1, e'.2.2.2, rfl, ?_⟩⟩
  have e1 : isDone done n = true := by simp [isDone]; omega
  have e2 : doneAt done n = done[n.toNat] := by
    unfold doneAt
    rw [if_pos (by omega), hd']; rfl
  have := hQ e' h' hx2 (by rw [e2]; exact hR2)
  rw [e1] at this; exact this)

theorem u64 {a b : Int} (hQ : Q (.bool (atOk a b)) h) : AC Try.prog 64 [.agg [.int .i64 a, .int .i64 b]] h Q := ac64 (by
  unfold vc64
  have key : ∀ x : Bool, x = atOk a b → Q (.bool x) h := fun x hx => hx ▸ hQ
  refine vif_mk (fun h1 => vif_mk (fun h2 => vif_mk (fun h3 => key _ ?_) fun h3 => key _ ?_) fun h2 => key _ ?_) fun h1 => key _ ?_
  all_goals simp only [decide_eq_true_eq, decide_eq_false_iff_not] at *
  all_goals unfold atOk
  · have e1 : decide (0 ≤ a) = true := by simp; omega
    have e2 : decide (a < 65536) = true := by simp; omega
    have e3 : decide (0 ≤ b) = true := by simp; omega
    rw [e1, e2, e3]; simp
  all_goals
    symm
    simp only [Bool.and_eq_false_iff, decide_eq_false_iff_not]
    omega)

theorem u81 (S : StV h p has done mark) {e : EV} {d : ED} (hR : EdR h e d) (hQ : Q (.bool (goes has done mark d)) h) : AC Try.prog 81 [.ptr (some ⟨p, 0⟩), evV e] h Q := ac81 (by
  obtain ⟨qd, m, h1, h2, h3, h7, h8⟩ := S
  obtain ⟨r1, r2, r3, hL⟩ := hR
  have key : ∀ b : Bool, b = goes has done mark d → Q (.bool b) h := fun b hb => hb ▸ hQ
  have hlen := h2.len
  unfold vc81
  refine ⟨qd, cells6 h1 (o := 0) (k := 1) (by simp), ?_⟩
  rw [r1, r2, r3, hlen]
  refine vif_mk (fun g1 => vif_mk (fun g2 => key _ ?_) fun g2 => ?_) fun g1 => key _ ?_
  · simp [goes, g1, g2]
  · refine ⟨has, cells6 h1 (o := 5) (k := 1) (by simp), ?_⟩
    refine vif_mk (fun g3 => key _ ?_) fun g3 => ?_
    · simp [goes, g1, g3]
    · refine ⟨m.2.2.1, ?_, key _ ?_⟩
      · have := cells6 h1 (o := 3) (k := 1) (by simp)
        simpa using this
      · have h3' : m.2.2.1 = mark.2.2.1 := h3.2.2.1
        simp [goes, g1, g2, g3, h3']
  · simp [goes, g1])
end
end Go.Proofs.Ytceplmmmlindnaa
