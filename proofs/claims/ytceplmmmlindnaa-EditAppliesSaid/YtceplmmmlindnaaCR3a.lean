/- What the functions of an edit and of a state do, over the abstract heap. -/
import Derived.Test.YtceplmmmlindnaaCR3v
import Derived.Test.YtceplmmmlindnaaCR2e
namespace Go.Proofs.Ytceplmmmlindnaa
open Go.Ab
set_option linter.unusedVariables false
set_option linter.unusedSimpArgs false

abbrev Rf := List UInt8 × Int × Int
abbrev ED := Int × Int × Int × List Rf
abbrev EV := Int × Int × Int × Option SL
def edE : Enc EV := ⟨4, fun e => [.int .i64 e.1, .int .i64 e.2.1, .int .i64 e.2.2.1, .sl e.2.2.2], fun _ => rfl, by omega, fun _ => rfl⟩
abbrev evV (e : EV) : AV := .agg [.int .i64 e.1, .int .i64 e.2.1, .int .i64 e.2.2.1, .sl e.2.2.2]
abbrev zeroV : EV := (0, 0, 0, none)
abbrev zeroD : ED := (0, 0, 0, [])

/-- An edit's value stands for an edit. -/
def EdR (h : Heap) (e : EV) (d : ED) : Prop := e.1 = d.1 ∧ e.2.1 = d.2.1 ∧ e.2.2.1 = d.2.2.1 ∧ HasL refE h e.2.2.2 d.2.2.2
def refOk (r : Rf) : Bool := decide (1 ≤ r.1.length) && decide (r.1.length ≤ 24) && decide (1 ≤ r.2.1) && decide (r.2.1 ≤ 2305843009213693952) && decide (0 ≤ r.2.2) && decide (r.2.2 ≤ 16384)
def atOk (a b : Int) : Bool := decide (0 ≤ a) && decide (a < 65536) && decide (0 ≤ b) && decide (b < 65536)
def chk (d : ED) : Bool := (d.1 == 1 || (d.1 == 2 && d.2.2.1 == 0)) && atOk d.2.1 d.2.2.1 && decide (d.2.2.2.length ≤ 256) && d.2.2.2.all refOk

theorem take_succ_all {α : Type} {p : α → Bool} {l : List α} {i : Nat} {x : α} (hx : l[i]? = some x) (h : (l.take i).all p = true) (hp : p x = true) : (l.take (i + 1)).all p = true := by
  rw [List.take_add_one, hx, List.all_append, h]
  simp [hp]

section
variable {h : Heap} {Q : AV → Heap → Prop}

theorem t67 {a b : Int} (hQ : ∀ n : Int, (n = 0 ↔ atOk a b = true) → Q (.int .i64 n) h) : AC Try.prog 67 [.agg [.int .i64 a, .int .i64 b]] h Q := ac67 (by
  unfold vc67
  refine vif_mk (fun h1 => hQ _ ?_) fun h1 => vif_mk (fun h2 => hQ _ ?_) fun h2 => vif_mk (fun h3 => hQ _ ?_) fun h3 => vif_mk (fun h4 => hQ _ ?_) fun h4 => hQ _ ?_
  all_goals simp [atOk] at *
  all_goals omega)

theorem t66 {r : Rf} (hQ : Q (.bool (refOk r)) h) : AC Try.prog 66 [.agg [.str r.1, .int .i64 r.2.1, .int .i64 r.2.2]] h Q := ac66 (by
  unfold vc66
  have key : ∀ b : Bool, b = refOk r → Q (.bool b) h := fun b hb => hb ▸ hQ
  refine vif_mk (fun h1 => vif_mk (fun h2 => vif_mk (fun h3 => vif_mk (fun h4 => vif_mk (fun h5 => key _ ?_) fun h5 => key _ ?_) fun h4 => key _ ?_) fun h3 => key _ ?_) fun h2 => key _ ?_) fun h1 => key _ ?_
  all_goals simp only [decide_eq_true_eq, decide_eq_false_iff_not] at *
  all_goals unfold refOk
  · have e1 : decide (1 ≤ r.1.length) = true := by simp; omega
    have e2 : decide (r.1.length ≤ 24) = true := by simp; omega
    have e3 : decide (1 ≤ r.2.1) = true := by simp; omega
    have e4 : decide (r.2.1 ≤ 2305843009213693952) = true := by simp; omega
    have e5 : decide (0 ≤ r.2.2) = true := by simp; omega
    rw [e1, e2, e3, e4, e5]; simp
  all_goals
    symm
    simp only [Bool.and_eq_false_iff, decide_eq_false_iff_not]
    omega)

theorem t65 {r : Rf} (hQ : Q (.bool (!refOk r)) h) : AC Try.prog 65 [.agg [.str r.1, .int .i64 r.2.1, .int .i64 r.2.2]] h Q := ac65 (by
  unfold vc65
  exact t66 ⟨_, rfl, hQ⟩)

theorem t109 {q : Option SL} {l : List Rf} (hL : HasL refE h q l) (hl : l.length ≤ 256) (hQ : ∀ n : Int, (0 ≤ n ↔ l.all refOk = false) → Q (.int .i64 n) h) : AC Try.prog 109 [.sl q, .func (.func 65) [] []] h Q := ac109 (by
  unfold vc109
  have hlen := hL.len
  refine ⟨fun xs h9 => h9 = h ∧ ∃ i : Nat, xs = [.int .i64 i] ∧ i ≤ l.length ∧ (l.take i).all refOk = true, fun xs _ => match xs with | [.int _ i] => (l.length - i).toNat | _ => 0, ⟨rfl, 0, rfl, by omega, by simp⟩, ?_⟩
  rintro i h9 ⟨rfl, i', hx, h0, hall⟩
  simp only [List.cons.injEq, AV.int.injEq, true_and, and_true] at hx
  subst hx
  refine vif_mk (fun h1 => ?_) (fun h1 => hQ _ ?_)
  · simp only [decide_eq_true_eq] at h1
    refine hL.idx (by omega) (by omega) fun p x hx hc => ?_
    refine ⟨x.1, x.2.1, x.2.2, hc, t65 ⟨_, rfl, ?_⟩⟩
    have hx' : l[i']? = some x := by simpa using hx
    refine vif_mk (fun h2 => hQ _ ?_) (fun h2 => ?_)
    · refine ⟨fun _ => ?_, fun _ => by omega⟩
      have : x ∈ l := List.mem_of_getElem? hx'
      rw [List.all_eq_false]
      exact ⟨x, this, by simpa using h2⟩
    · rw [wrapK_i64 ⟨by omega, by omega⟩]
      refine ⟨trivial, ⟨rfl, i' + 1, by simp, by omega, take_succ_all hx' hall (by simpa using h2)⟩, ?_⟩
      simp only; omega
  · simp only [decide_eq_false_iff_not] at h1
    have : i' = l.length := by omega
    subst this
    rw [List.take_length] at hall
    simp [hall])

theorem t68 {q : Option SL} {l : List Rf} (hL : HasL refE h q l) (hl : l.length ≤ 256) (hQ : Q (.bool (!l.all refOk)) h) : AC Try.prog 68 [.sl q, .func (.func 65) [] []] h Q := ac68 (by
  unfold vc68
  refine t109 hL hl fun n hn => ⟨n, rfl, ?_⟩
  have : decide (n ≥ 0) = !l.all refOk := by
    cases ha : l.all refOk with
    | false =>
      have : 0 ≤ n := hn.2 ha
      simpa using this
    | true =>
      have : ¬ 0 ≤ n := fun h => by have := hn.1 h; rw [ha] at this; cases this
      simpa using this
  rw [this]; exact hQ)

/-- Check. -/
theorem t18 {e : EV} {d : ED} (hR : EdR h e d) (hQ : ∀ n : Int, (n = 0 ↔ chk d = true) → Q (.int .i64 n) h) : AC Try.prog 18 [evV e] h Q := ac18 (by
  obtain ⟨r1, r2, r3, hL⟩ := hR
  have hlen := hL.len
  unfold vc18
  rw [r1, r2, r3]
  have rest : (d.1 == 1 || (d.1 == 2 && d.2.2.1 == 0)) = true → ∀ n : Int, (n = 0 ↔ atOk d.2.1 d.2.2.1 = true) → vif (n != 0) (Q (.int .i64 140) h) (vif (decide ((slLen e.2.2.2 : Int) > 256)) (Q (.int .i64 140) h)
      (AC Try.prog 68 [.sl e.2.2.2, .func (.func 65) [] []] h fun v8 h9 => ∃ b10 : Bool, v8 = .bool b10 ∧ vif b10 (Q (.int .i64 140) h9) (Q (.int .i64 0) h9))) := by
    intro hk n hn
    refine vif_mk (fun h1 => hQ _ ?_) fun h1 => vif_mk (fun h2 => hQ _ ?_) fun h2 => ?_
    · have : atOk d.2.1 d.2.2.1 = false := by
        cases ha : atOk d.2.1 d.2.2.1
        · rfl
        · have := hn.2 ha; subst this; simp at h1
      simp [chk, this]
    · simp only [decide_eq_true_eq] at h2
      have : decide (d.2.2.2.length ≤ 256) = false := by simp; omega
      simp [chk, this]
    · simp only [decide_eq_false_iff_not] at h2
      refine t68 hL (by omega) ⟨_, rfl, ?_⟩
      have ha : atOk d.2.1 d.2.2.1 = true := hn.1 (by simpa using h1)
      have hl : decide (d.2.2.2.length ≤ 256) = true := by simp; omega
      cases hall : d.2.2.2.all refOk
      · exact hQ _ (by simp [chk, hall])
      · exact hQ _ (by unfold chk; rw [hk, ha, hl, hall]; simp)
  refine vif_mk (fun h1 => ?_) fun h1 => vif_mk (fun h2 => vif_mk (fun h3 => hQ _ ?_) fun h3 => ?_) fun h2 => hQ _ ?_
  · refine t67 fun n hn => ⟨n, rfl, rest ?_ n hn⟩
    rw [h1]; rfl
  · have e3 : (d.2.2.1 == 0) = false := by simpa using h3
    unfold chk
    rw [h1, e3]; simp
  · refine t67 fun n hn => ⟨n, rfl, rest ?_ n hn⟩
    have e3 : (d.2.2.1 == 0) = true := by simpa using h3
    rw [h2, e3]; simp
  · unfold chk
    rw [h1, h2]; simp)
end
end Go.Proofs.Ytceplmmmlindnaa
