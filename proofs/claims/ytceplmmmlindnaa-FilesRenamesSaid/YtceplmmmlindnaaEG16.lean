/- EditNobody answers yes for every edit (any numbers, any list of refs) and every epoch. -/
import Derived.Test.YtceplmmmlindnaaEG9
import Derived.Test.YtceplmmmlindnaaEG10
import Derived.Test.YtceplmmmlindnaaEG12
import Derived.Test.YtceplmmmlindnaaEG13
import Derived.Test.YtceplmmmlindnaaEG15
namespace Go.Proofs.Ytceplmmmlindnaa
open Go.Ab
open Go.ChangeShapes Go.WideShapes Go.ChangeAt Go.RowKit
set_option linter.unusedVariables false
set_option linter.unusedSimpArgs false

abbrev ovF : Ovr := ovKS [(85, 122), (96, 125)] 84
def refE : Enc (List UInt8 × Int × Int) := ⟨3, fun r => [.str r.1, .int .i64 r.2.1, .int .i64 r.2.2], fun _ => rfl, by omega, fun _ => rfl⟩

/-- large: says something, and turns nothing. -/
theorem s12 {n1 n2 n3 : Int} {q : Option SL} {h : Heap} {Q : AV → Heap → Prop} {l : List (List UInt8 × Int × Int)} (hL : HasL refE h q l) (hQ : ∀ b, (b = false → l.length ≤ 300) → Q (.bool b) h) : AC Try.prog 12 [.agg [.int .i64 n1, .int .i64 n2, .int .i64 n3, .sl q]] h Q := ac12 (by
  unfold vc12
  refine ⟨fun xs h9 => h9 = h ∧ ∃ a i : Int, xs = [.int .i64 a, .int .i64 i] ∧ 0 ≤ i, fun xs _ => match xs with | [_, .int _ i] => (l.length - i).toNat | _ => 0, ⟨rfl, 0, 0, rfl, by omega⟩, ?_⟩
  rintro a i h9 ⟨rfl, a', i', hx, h0⟩
  simp only [List.cons.injEq, AV.int.injEq, true_and, and_true] at hx
  obtain ⟨rfl, rfl⟩ := hx
  have hlen := hL.len
  have hend : Q (.bool (decide ((slLen q : Int) > 300))) h9 := hQ _ (by intro hb; simp at hb; omega)
  refine vif_mk (fun h1 => ?_) (fun _ => hend)
  refine vif_mk (fun h2 => ?_) (fun _ => hend)
  simp only [decide_eq_true_eq] at h1 h2
  refine hL.idx h0 (by omega) fun p x hx hc => ?_
  refine ⟨x.1, ?_, ?_⟩
  · have := cellsAt_sub (k := 0) (m := 1) hc (by show 0 + 1 ≤ 3; omega)
    simpa [refE] using this
  · refine vif_mk (fun _ => hQ _ (by simp)) (fun _ => ?_)
    refine ⟨⟨rfl, trivial⟩, ⟨rfl, _, _, rfl, ?_⟩, ?_⟩
    · rw [wrapK_i64 ⟨by omega, by omega⟩]; omega
    · simp only
      rw [wrapK_i64 ⟨by omega, by omega⟩]
      omega)

def isNilSl (v : AV) (_ : EH) : Bool := match v with | .sl none => true | _ => false
def isZero (v : AV) (_ : EH) : Bool := match v with | .int .i64 (.ofNat 0) => true | _ => false
theorem isNilSl_ok {v : AV} {e : EH} (h : isNilSl v e = true) : v = .sl none := by
  unfold isNilSl at h
  split at h <;> simp_all
set_option maxRecDepth 100000 in
theorem run13 : erun Try.prog slotsOf ovF 60 13 [] ⟨.e, 0⟩ isTrue = true := by kernel_rfl
set_option maxRecDepth 100000 in
theorem run31 : erun Try.prog slotsOf ovF 60 31 [.ptr none] ⟨.e, 0⟩ isNilSl = true := by kernel_rfl
set_option maxRecDepth 100000 in
theorem run26 : erun Try.prog slotsOf ovF 60 26 [.ptr none] ⟨.e, 0⟩ isNilSl = true := by kernel_rfl
abbrev noMark : AV := .tup [.agg [.int .i64 0, .int .i64 0, .int .i64 0, .sl none], .bool false]
set_option maxRecDepth 100000 in
theorem run27 : erun Try.prog slotsOf ovF 60 27 [.ptr none] ⟨.e, 0⟩ (fun v _ => avEq v noMark) = true := by kernel_rfl

section
variable {h : Heap} {Q : AV → Heap → Prop}
/-- What lives in every program lives in this one. -/
theorem s13 (hQ : Q (.bool true) h) : AC Try.prog 13 [] h Q :=
  AC_frame (v := .bool true) (erun_ok Try.ovOk 60 13 _ _ _ _ _ HFor_nil (fun v e' h' _ hv => isTrue_ok hv) run13) (fun _ _ h => h) (fun _ _ _ h => h) hQ
theorem n31 (hQ : Q (.sl none) h) : AC Try.prog 31 [.ptr none] h Q :=
  AC_frame (v := .sl none) (erun_ok Try.ovOk 60 31 _ _ _ _ _ HFor_nil (fun v e' h' _ hv => isNilSl_ok hv) run31) (fun _ _ h => h) (fun _ _ _ h => h) hQ
theorem n26 (hQ : Q (.sl none) h) : AC Try.prog 26 [.ptr none] h Q :=
  AC_frame (v := .sl none) (erun_ok Try.ovOk 60 26 _ _ _ _ _ HFor_nil (fun v e' h' _ hv => isNilSl_ok hv) run26) (fun _ _ h => h) (fun _ _ _ h => h) hQ
theorem n27 (hQ : Q noMark h) : AC Try.prog 27 [.ptr none] h Q :=
  AC_frame (v := noMark) (erun_ok Try.ovOk 60 27 _ _ _ _ _ HFor_nil (fun v e' h' _ hv => avEq_ok _ _ hv) run27) (fun _ _ h => h) (fun _ _ _ h => h) hQ
theorem n29 (hQ : Q (.int .i64 0) h) : AC Try.prog 29 [.ptr none] h Q := ac29 (by unfold vc29; exact hQ)
theorem n30 {n : Int} (hQ : Q noMark h) : AC Try.prog 30 [.ptr none, .int .i64 n] h Q := ac30 (by
  unfold vc30
  refine vif_mk (fun _ => hQ) (fun h1 => n29 ⟨_, rfl, ?_⟩)
  refine vif_mk (fun _ => hQ) (fun h2 => ?_)
  simp at h1 h2; omega)
theorem n23 {a b c : Int} {q : Option SL} (hQ : Q (.int .i64 6) h) : AC Try.prog 23 [.ptr none, .agg [.int .i64 a, .int .i64 b, .int .i64 c, .sl q]] h Q := ac23 (by unfold vc23; exact hQ)

theorem s7 {a b c n : Int} {q : Option SL} {l : List (List UInt8 × Int × Int)} (hL : HasL refE h q l) : AC Try.prog 7 [.agg [.int .i64 a, .int .i64 b, .int .i64 c, .sl q], .int .i64 n] h fun v _ => v = .bool true := ac7 (by
  unfold vc7
  refine s12 hL fun b8 _ => ⟨b8, rfl, ?_⟩
  refine vif_mk (fun _ => s13 ⟨_, rfl, rfl⟩) (fun _ => ?_)
  refine n27 ⟨_, _, _, _, _, rfl, ?_⟩
  refine n30 ⟨_, _, _, _, _, rfl, ?_⟩
  refine s13 ⟨_, rfl, ?_⟩
  refine n23 ⟨_, rfl, ?_⟩
  refine n29 ⟨_, rfl, ?_⟩
  refine n26 ⟨_, rfl, ?_⟩
  refine n31 ⟨_, rfl, ?_⟩
  rfl)
end
end Go.Proofs.Ytceplmmmlindnaa

/- What the functions of an edit and of a state do, over the abstract heap. -/
namespace Go.Proofs.Ytceplmmmlindnaa
open Go.Ab
set_option linter.unusedVariables false
set_option linter.unusedSimpArgs false

abbrev Rf := List UInt8 × Int × Int
abbrev ED := Int × Int × Int × List Rf
abbrev EV := Int × Int × Int × Option SL
def edE : Enc EV := ⟨4, fun e => [.int .i64 e.1, .int .i64 e.2.1, .int .i64 e.2.2.1, .sl e.2.2.2], fun _ => rfl, by omega, fun _ => rfl⟩
abbrev evV (e : EV) : AV := .agg [.int .i64 e.1, .int .i64 e.2.1, .int .i64 e.2.2.1, .sl e.2.2.2]
abbrev zeroV : EV := (0, 0, 0, none)
abbrev zeroD : ED := (0, 0, 0, [])

/-- An edit's value stands for an edit. -/
def EdR (h : Heap) (e : EV) (d : ED) : Prop := e.1 = d.1 ∧ e.2.1 = d.2.1 ∧ e.2.2.1 = d.2.2.1 ∧ HasL refE h e.2.2.2 d.2.2.2
def refOk (r : Rf) : Bool := decide (1 ≤ r.1.length) && decide (r.1.length ≤ 24) && decide (1 ≤ r.2.1) && decide (r.2.1 ≤ 2305843009213693952) && decide (0 ≤ r.2.2) && decide (r.2.2 ≤ 16384)
def atOk (a b : Int) : Bool := decide (0 ≤ a) && decide (a < 65536) && decide (0 ≤ b) && decide (b < 65536)
def chk (d : ED) : Bool := (d.1 == 1 || (d.1 == 2 && d.2.2.1 == 0)) && atOk d.2.1 d.2.2.1 && decide (d.2.2.2.length ≤ 256) && d.2.2.2.all refOk

theorem take_succ_all {α : Type} {p : α → Bool} {l : List α} {i : Nat} {x : α} (hx : l[i]? = some x) (h : (l.take i).all p = true) (hp : p x = true) : (l.take (i + 1)).all p = true := by
  rw [List.take_add_one, hx, List.all_append, h]
  simp [hp]

section
variable {h : Heap} {Q : AV → Heap → Prop}

theorem t67 {a b : Int} (hQ : ∀ n : Int, (n = 0 ↔ atOk a b = true) → Q (.int .i64 n) h) : AC Try.prog 67 [.agg [.int .i64 a, .int .i64 b]] h Q := ac67 (by
  unfold vc67
  refine vif_mk (fun h1 => hQ _ ?_) fun h1 => vif_mk (fun h2 => hQ _ ?_) fun h2 => vif_mk (fun h3 => hQ _ ?_) fun h3 => vif_mk (fun h4 => hQ _ ?_) fun h4 => hQ _ ?_
  all_goals simp [atOk] at *
  all_goals omega)

theorem t66 {r : Rf} (hQ : Q (.bool (refOk r)) h) : AC Try.prog 66 [.agg [.str r.1, .int .i64 r.2.1, .int .i64 r.2.2]] h Q := ac66 (by
  unfold vc66
  have key : ∀ b : Bool, b = refOk r → Q (.bool b) h := fun b hb => hb ▸ hQ
  refine vif_mk (fun h1 => vif_mk (fun h2 => vif_mk (fun h3 => vif_mk (fun h4 => vif_mk (fun h5 => key _ ?_) fun h5 => key _ ?_) fun h4 => key _ ?_) fun h3 => key _ ?_) fun h2 => key _ ?_) fun h1 => key _ ?_
  all_goals simp only [decide_eq_true_eq, decide_eq_false_iff_not] at *
  all_goals unfold refOk
  · have e1 : decide (1 ≤ r.1.length) = true := by simp; omega
    have e2 : decide (r.1.length ≤ 24) = true := by simp; omega
    have e3 : decide (1 ≤ r.2.1) = true := by simp; omega
    have e4 : decide (r.2.1 ≤ 2305843009213693952) = true := by simp; omega
    have e5 : decide (0 ≤ r.2.2) = true := by simp; omega
    rw [e1, e2, e3, e4, e5]; simp
  all_goals
    symm
    simp only [Bool.and_eq_false_iff, decide_eq_false_iff_not]
    omega)

theorem t65 {r : Rf} (hQ : Q (.bool (!refOk r)) h) : AC Try.prog 65 [.agg [.str r.1, .int .i64 r.2.1, .int .i64 r.2.2]] h Q := ac65 (by
  unfold vc65
  exact t66 ⟨_, rfl, hQ⟩)

theorem t109 {q : Option SL} {l : List Rf} (hL : HasL refE h q l) (hl : l.length ≤ 256) (hQ : ∀ n : Int, (0 ≤ n ↔ l.all refOk = false) → Q (.int .i64 n) h) : AC Try.prog 109 [.sl q, .func (.func 65) [] []] h Q := ac109 (by
  unfold vc109
  have hlen := hL.len
  refine ⟨fun xs h9 => h9 = h ∧ ∃ i : Nat, xs = [.int .i64 i] ∧ i ≤ l.length ∧ (l.take i).all refOk = true, fun xs _ => match xs with | [.int _ i] => (l.length - i).toNat | _ => 0, ⟨rfl, 0, rfl, by omega, by simp⟩, ?_⟩
  rintro i h9 ⟨rfl, i', hx, h0, hall⟩
  simp only [List.cons.injEq, AV.int.injEq, true_and, and_true] at hx
  subst hx
  refine vif_mk (fun h1 => ?_) (fun h1 => hQ _ ?_)
  · simp only [decide_eq_true_eq] at h1
    refine hL.idx (by omega) (by omega) fun p x hx hc => ?_
    refine ⟨x.1, x.2.1, x.2.2, hc, t65 ⟨_, rfl, ?_⟩⟩
    have hx' : l[i']? = some x := by simpa using hx
    refine vif_mk (fun h2 => hQ _ ?_) (fun h2 => ?_)
    · refine ⟨fun _ => ?_, fun _ => by omega⟩
      have : x ∈ l := List.mem_of_getElem? hx'
      rw [List.all_eq_false]
      exact ⟨x, this, by simpa using h2⟩
    · rw [wrapK_i64 ⟨by omega, by omega⟩]
      refine ⟨trivial, ⟨rfl, i' + 1, by simp, by omega, take_succ_all hx' hall (by simpa using h2)⟩, ?_⟩
      simp only; omega
  · simp only [decide_eq_false_iff_not] at h1
    have : i' = l.length := by omega
    subst this
    rw [List.take_length] at hall
    simp [hall])

theorem t68 {q : Option SL} {l : List Rf} (hL : HasL refE h q l) (hl : l.length ≤ 256) (hQ : Q (.bool (!l.all refOk)) h) : AC Try.prog 68 [.sl q, .func (.func 65) [] []] h Q := ac68 (by
  unfold vc68
  refine t109 hL hl fun n hn => ⟨n, rfl, ?_⟩
  have : decide (n ≥ 0) = !l.all refOk := by
    cases ha : l.all refOk with
    | false =>
      have : 0 ≤ n := hn.2 ha
      simpa using this
    | true =>
      have : ¬ 0 ≤ n := fun h => by have := hn.1 h; rw [ha] at this; cases this
      simpa using this
  rw [this]; exact hQ)

/-- Check. -/
theorem t18 {e : EV} {d : ED} (hR : EdR h e d) (hQ : ∀ n : Int, (n = 0 ↔ chk d = true) → Q (.int .i64 n) h) : AC Try.prog 18 [evV e] h Q := ac18 (by
  obtain ⟨r1, r2, r3, hL⟩ := hR
  have hlen := hL.len
  unfold vc18
  rw [r1, r2, r3]
  have rest : (d.1 == 1 || (d.1 == 2 && d.2.2.1 == 0)) = true → ∀ n : Int, (n = 0 ↔ atOk d.2.1 d.2.2.1 = true) → vif (n != 0) (Q (.int .i64 140) h) (vif (decide ((slLen e.2.2.2 : Int) > 256)) (Q (.int .i64 140) h)
      (AC Try.prog 68 [.sl e.2.2.2, .func (.func 65) [] []] h fun v8 h9 => ∃ b10 : Bool, v8 = .bool b10 ∧ vif b10 (Q (.int .i64 140) h9) (Q (.int .i64 0) h9))) := by
    intro hk n hn
    refine vif_mk (fun h1 => hQ _ ?_) fun h1 => vif_mk (fun h2 => hQ _ ?_) fun h2 => ?_
    · have : atOk d.2.1 d.2.2.1 = false := by
        cases ha : atOk d.2.1 d.2.2.1
        · rfl
        · have := hn.2 ha; subst this; simp at h1
      simp [chk, this]
    · simp only [decide_eq_true_eq] at h2
      have : decide (d.2.2.2.length ≤ 256) = false := by simp; omega
      simp [chk, this]
    · simp only [decide_eq_false_iff_not] at h2
      refine t68 hL (by omega) ⟨_, rfl, ?_⟩
      have ha : atOk d.2.1 d.2.2.1 = true := hn.1 (by simpa using h1)
      have hl : decide (d.2.2.2.length ≤ 256) = true := by simp; omega
      cases hall : d.2.2.2.all refOk
      · exact hQ _ (by simp [chk, hall])
      · exact hQ _ (by unfold chk; rw [hk, ha, hl, hall]; simp)
  refine vif_mk (fun h1 => ?_) fun h1 => vif_mk (fun h2 => vif_mk (fun h3 => hQ _ ?_) fun h3 => ?_) fun h2 => hQ _ ?_
  · refine t67 fun n hn => ⟨n, rfl, rest ?_ n hn⟩
    rw [h1]; rfl
  · have e3 : (d.2.2.1 == 0) = false := by simpa using h3
    unfold chk
    rw [h1, e3]; simp
  · refine t67 fun n hn => ⟨n, rfl, rest ?_ n hn⟩
    have e3 : (d.2.2.1 == 0) = true := by simpa using h3
    rw [h2, e3]; simp
  · unfold chk
    rw [h1, h2]; simp)
end
end Go.Proofs.Ytceplmmmlindnaa

/- Numbers as bytes: the plain law. -/
namespace Go.Proofs.Ytceplmmmlindnaa
open Go.Ab
set_option linter.unusedVariables false
set_option linter.unusedSimpArgs false

abbrev Bs := List UInt8
def wid (n : Nat) : Nat := if h : n < 256 then 1 else 1 + wid (n / 256)
termination_by n
decreasing_by omega

theorem wid_pos {n : Nat} : 1 ≤ wid n := by
  unfold wid; split <;> omega
theorem wid_lt : ∀ (k n : Nat), 1 ≤ k → (wid n ≤ k ↔ n < 256 ^ k)
  | 0, n, h => by omega
  | 1, n, _ => by
    unfold wid
    split
    · simp; omega
    · have := wid_pos (n := n / 256)
      constructor
      · intro h; omega
      · intro h; simp at h; omega
  | k + 2, n, _ => by
    unfold wid
    have ih := wid_lt (k + 1) (n / 256) (by omega)
    split
    · rename_i h
      have : 256 ^ 1 ≤ 256 ^ (k + 2) := Nat.pow_le_pow_right (by omega) (by omega)
      constructor
      · intro _; omega
      · intro _; omega
    · have h1 : 256 ^ (k + 2) = 256 * 256 ^ (k + 1) := by rw [Nat.pow_succ]; omega
      have h2 : 1 + wid (n / 256) ≤ k + 2 ↔ wid (n / 256) ≤ k + 1 := by omega
      rw [h2, ih, h1]
      exact Nat.div_lt_iff_lt_mul (by omega) |>.trans (by rw [Nat.mul_comm])

/-- The lowest k bytes of a number, the highest first. -/
def beL (n : Nat) : Nat → Bs
  | 0 => []
  | k + 1 => beL (n / 256) k ++ [UInt8.ofNat (n % 256)]
def beV (l : Bs) : Nat := l.foldl (fun a b => a * 256 + b.toNat) 0
theorem beL_len : ∀ (k n : Nat), (beL n k).length = k
  | 0, n => rfl
  | k + 1, n => by simp [beL, beL_len k]
theorem beV_snoc {l : Bs} {x : UInt8} : beV (l ++ [x]) = beV l * 256 + x.toNat := by simp [beV]
theorem beV_beL : ∀ (k n : Nat), beV (beL n k) = n % 256 ^ k
  | 0, n => by simp [beL, beV, Nat.mod_one]
  | k + 1, n => by
    rw [beL, beV_snoc, beV_beL k]
    have h1 : (UInt8.ofNat (n % 256)).toNat = n % 256 := by simp
    rw [h1, Nat.pow_succ, Nat.mul_comm (256 ^ k) 256, Nat.mod_mul]
    omega
theorem snoc_ind {α : Type} {P : List α → Prop} (h0 : P []) (h1 : ∀ l x, P l → P (l ++ [x])) (l : List α) : P l := by
  have : ∀ m : List α, P m.reverse := by
    intro m
    induction m with
    | nil => exact h0
    | cons x m ih => rw [List.reverse_cons]; exact h1 _ _ ih
  simpa using this l.reverse
theorem beV_lt : ∀ (l : Bs), beV l < 256 ^ l.length := by
  intro l
  induction l using snoc_ind with
  | h0 => simp [beV]
  | h1 l x ih =>
    rw [beV_snoc, List.length_append, List.length_cons, List.length_nil, Nat.pow_succ]
    have := x.toNat_lt
    omega
theorem beL_beV : ∀ (l : Bs), beL (beV l) l.length = l := by
  intro l
  induction l using snoc_ind with
  | h0 => rfl
  | h1 l x ih =>
    have hx := x.toNat_lt
    rw [beV_snoc, List.length_append, List.length_cons, List.length_nil, beL]
    have h1 : (beV l * 256 + x.toNat) / 256 = beV l := by omega
    have h2 : (beV l * 256 + x.toNat) % 256 = x.toNat := by omega
    rw [h1, h2, ih]
    simp
theorem beL_get : ∀ (k n i : Nat), i < k → (beL n k)[i]? = some (UInt8.ofNat (n / 256 ^ (k - 1 - i) % 256))
  | 0, n, i, h => by omega
  | k + 1, n, i, h => by
    rw [beL, List.getElem?_append, beL_len]
    split
    · rename_i hi
      rw [beL_get k (n / 256) i hi, Nat.div_div_eq_div_mul]
      have : 256 * 256 ^ (k - 1 - i) = 256 ^ (k + 1 - 1 - i) := by
        rw [Nat.mul_comm, ← Nat.pow_succ]; congr 1; omega
      rw [this]
    · have : i = k := by omega
      subst this
      simp

/-- A number's bytes. -/
def numB (n : Nat) : Bs := if n < 240 then [UInt8.ofNat n] else if n < 2288 then [UInt8.ofNat (240 + (n - 240) / 256), UInt8.ofNat ((n - 240) % 256)] else UInt8.ofNat (246 + wid n) :: beL n (wid n)
/-- The next number. -/
def rdN : Bs → Option (Nat × Bs)
  | [] => none
  | c :: l =>
    if c.toNat < 240 then some (c.toNat, l)
    else if c.toNat < 248 then (match l with | [] => none | x :: l' => some (240 + (c.toNat - 240) * 256 + x.toNat, l'))
    else if c.toNat ≤ 254 then
      (if c.toNat - 246 ≤ l.length ∧ beV (l.take (c.toNat - 246)) < 9223372036854775808 ∧ 2288 ≤ beV (l.take (c.toNat - 246)) ∧ wid (beV (l.take (c.toNat - 246))) = c.toNat - 246
       then some (beV (l.take (c.toNat - 246)), l.drop (c.toNat - 246)) else none)
    else none

theorem u8_of {n : Nat} (h : n < 256) : (UInt8.ofNat n).toNat = n := by simp; omega
theorem of_u8 {c : UInt8} : UInt8.ofNat c.toNat = c := by simp

theorem rdN_numB {n : Nat} (hn : n < 9223372036854775808) {l : Bs} : rdN (numB n ++ l) = some (n, l) := by
  unfold numB
  split
  · simp only [List.cons_append, List.nil_append, rdN]
    rw [u8_of (by omega), if_pos (by omega)]
  · split
    · simp only [List.cons_append, List.nil_append, rdN]
      rw [u8_of (by omega), u8_of (by omega), if_neg (by omega), if_pos (by omega)]
      have : 240 + (240 + (n - 240) / 256 - 240) * 256 + (n - 240) % 256 = n := by omega
      rw [this]
    · have hw : wid n ≤ 8 := (wid_lt 8 n (by omega)).2 (by omega)
      have hw2 : 2 ≤ wid n := by
        rcases Nat.lt_or_ge (wid n) 2 with h | h
        · have := (wid_lt 1 n (by omega)).1 (by omega)
          simp at this; omega
        · exact h
      simp only [List.cons_append, rdN]
      rw [u8_of (by omega), if_neg (by omega), if_neg (by omega), if_pos (by omega)]
      have e : 246 + wid n - 246 = wid n := by omega
      have hv : beV ((beL n (wid n) ++ l).take (wid n)) = n := by
        rw [List.take_left' (beL_len _ _), beV_beL]
        exact Nat.mod_eq_of_lt ((wid_lt _ n wid_pos).1 (Nat.le_refl _))
      rw [e, hv, if_pos ⟨by simp [beL_len], hn, by omega, rfl⟩, List.drop_left' (beL_len _ _)]

theorem numB_rdN {b l : Bs} {n : Nat} (h : rdN b = some (n, l)) : b = numB n ++ l ∧ n < 9223372036854775808 := by
  cases b with
  | nil => cases h
  | cons c t =>
    have hc := c.toNat_lt
    simp only [rdN] at h
    split at h
    · rename_i h1
      cases h
      refine ⟨?_, by omega⟩
      unfold numB
      rw [if_pos h1, of_u8]; rfl
    · split at h
      · rename_i h1 h2
        cases t with
        | nil => cases h
        | cons x t =>
          have hx := x.toNat_lt
          cases h
          refine ⟨?_, by omega⟩
          unfold numB
          rw [if_neg (by omega), if_pos (by omega)]
          have e1 : 240 + (240 + (c.toNat - 240) * 256 + x.toNat - 240) / 256 = c.toNat := by omega
          have e2 : (240 + (c.toNat - 240) * 256 + x.toNat - 240) % 256 = x.toNat := by omega
          rw [e1, e2, of_u8, of_u8]; rfl
      · split at h
        · split at h
          · rename_i h1 h2 h3 h4
            obtain ⟨g1, g2, g3, g4⟩ := h4
            simp only [Option.some.injEq, Prod.mk.injEq] at h
            obtain ⟨rfl, rfl⟩ := h
            refine ⟨?_, g2⟩
            unfold numB
            rw [if_neg (by omega), if_neg (by omega), g4]
            have e1 : 246 + (c.toNat - 246) = c.toNat := by omega
            have e2 : beL (beV (t.take (c.toNat - 246))) (c.toNat - 246) = t.take (c.toNat - 246) := by
              have := beL_beV (t.take (c.toNat - 246))
              rwa [List.length_take, Nat.min_eq_left g1] at this
            rw [e1, e2, of_u8]; simp
          · cases h
        · cases h
end Go.Proofs.Ytceplmmmlindnaa

/- What the functions of a state do, over the abstract heap: clones, marks, lists of edits. -/
namespace Go.Proofs.Ytceplmmmlindnaa
open Go.Ab
set_option linter.unusedVariables false
set_option linter.unusedSimpArgs false

/-- From one heap to a later one: all blocks but some are as they were. -/
def Keeps (X : Nat → Prop) (h h' : Heap) : Prop := ∀ (b : Nat) (B : Blk), ¬ X b → h[b]? = some B → h'[b]? = some B
theorem Keeps.refl (X : Nat → Prop) (h : Heap) : Keeps X h h := fun _ _ _ e => e
theorem Keeps.trans {X : Nat → Prop} {a b c : Heap} (h : Keeps X a b) (h' : Keeps X b c) : Keeps X a c := fun k B hk e => h' k B hk (h k B hk e)
theorem keeps_of_ext {X : Nat → Prop} {h h' : Heap} (e : Ext h h') : Keeps X h h' := fun b B _ hb => e b B hb
theorem Keeps.cells {X : Nat → Prop} {h h' : Heap} (K : Keeps X h h') {p : PA} {n : Nat} {c : List AV} (hp : ¬ X p.b) (hc : cellsAt h p n = some c) : cellsAt h' p n = some c := by
  unfold cellsAt at hc ⊢
  split at hc
  · rename_i c' rw' hb
    rw [K _ _ hp hb]; exact hc
  · cases hc
theorem Keeps.hasL {α : Type} {E : Enc α} {X : Nat → Prop} {h h' : Heap} (K : Keeps X h h') {q : Option SL} {l : List α} (hq : ∀ s, q = some s → ¬ X s.b) (H : HasL E h q l) : HasL E h' q l := by
  cases q with
  | none => exact H
  | some s => exact ⟨H.1, H.2.1, H.2.2.1, K.cells (hq s rfl) H.2.2.2⟩
theorem Keeps.edR {X : Nat → Prop} {h h' : Heap} (K : Keeps X h h') {e : EV} {d : ED} (hq : ∀ s, e.2.2.2 = some s → ¬ X s.b) (H : EdR h e d) : EdR h' e d := ⟨H.1, H.2.1, H.2.2.1, K.hasL hq H.2.2.2⟩
theorem HasL.live {α : Type} {E : Enc α} {h : Heap} {q : Option SL} {l : List α} (H : HasL E h q l) : ∀ s, q = some s → s.b < h.length := by
  intro s hs
  subst hs
  obtain ⟨c, rw, hb, _⟩ := cellsAt_some H.2.2.2
  exact lt_of_get hb

/-- A list that has a block of its own. -/
def Grow {α : Type} (E : Enc α) (h : Heap) (q : Option SL) (l : List α) : Prop := Acc E [] h q l
theorem Grow.start {α : Type} {E : Enc α} (h : Heap) : Grow E h none ([] : List α) := ⟨fun b B hb => by simp at hb, rfl⟩
theorem Grow.keeps {α : Type} {E : Enc α} {h h' : Heap} {q : Option SL} {l : List α} {X : Nat → Prop} (G : Grow E h q l) (K : Keeps X h h') (hq : ∀ s, q = some s → ¬ X s.b) : Grow E h' q l := by
  refine ⟨fun b B hb => by simp at hb, ?_⟩
  have := G.2
  cases q with
  | none => exact this
  | some s => obtain ⟨b0, b1, b2, b3, b4, b5⟩ := this; exact ⟨b0, b1, b2, b3, b4, K _ _ (hq s rfl) b5⟩

theorem Grow.append {α : Type} {E : Enc α} {h : Heap} {q src : Option SL} {l m : List α} {by' : Nat} {K : Option SL → Heap → Prop} (A : Grow E h q l) (H : HasL E h src m) (hb : (l.length + m.length) * by' ≤ 140737488355328)
    (hK : ∀ q' h', Grow E h' q' (l ++ m) → Keeps (fun b => ∃ s, q = some s ∧ s.b = b) h h' → h.length ≤ h'.length → (∀ s', q' = some s' → h.length ≤ s'.b ∨ ∃ s, q = some s ∧ s.b = s'.b) → K q' h') : PAppendS E.sz by' q src h K := by
  refine ⟨E.all m, H.cells, by rw [Enc.all_length, H.len], ?_⟩
  rw [H.len]
  have hnil : ∀ h' : Heap, Ext [] h' := fun h' b B hb => by simp at hb
  obtain ⟨hx, A⟩ := A
  cases q with
  | none =>
    simp only at A
    subst A
    simp only
    split
    · rename_i hm
      have : m = [] := List.eq_nil_of_length_eq_zero hm
      subst this
      exact hK _ _ ⟨hx, rfl⟩ (.refl _ _) (Nat.le_refl _) (fun s' h => by cases h)
    · refine ⟨by simpa using hb, E.pos, hK _ _ ⟨hnil _, ?_⟩ (keeps_of_ext (Ext.app _ _)) (by simp) (fun s' h => by cases h; exact .inl (Nat.le_refl _))⟩
      exact ⟨Nat.zero_le _, rfl, by simp, by simp, rfl, by simp⟩
  | some s =>
    simp only at A ⊢
    obtain ⟨b0, b1, b2, b3, b4, b5⟩ := A
    have hset : ∀ B : Blk, Keeps (fun b => ∃ s', some s = some s' ∧ s'.b = b) h (h.set s.b B) := by
      intro B b C hb hC
      rw [List.getElem?_set, if_neg]
      · exact hC
      · intro he; exact hb ⟨s, rfl, he⟩
    split
    · rename_i hle
      have hm : m.length = 0 := by omega
      have : m = [] := List.eq_nil_of_length_eq_zero hm
      subst this
      rw [b5]
      simp only
      have e0 : E.all ([] : List α) = [] := rfl
      refine ⟨by simp [b1, b2, Enc.all_length, e0], hK _ _ ⟨hnil _, ?_⟩ (hset _) (by simp) (fun s' h => by cases h; exact .inr ⟨s, rfl, rfl⟩)⟩
      refine ⟨b0, b1, by simp [b2], by simp [b3], b4, ?_⟩
      have hlt := lt_of_get b5
      rw [List.getElem?_set_self hlt]
      simp [Enc.all, splice, List.take_append_drop]
    · have hold : cellsAt h ⟨s.b, s.o⟩ (s.len * E.sz) = some (E.all l) := by
        rw [cellsAt_mk (p := ⟨s.b, s.o⟩) b5 (by simp [b1, b2, Enc.all_length])]
        simp [b1, b2, ← Enc.all_length]
      refine ⟨by rw [b2]; exact hb, E.pos, ?_⟩
      rw [hold, b5]
      simp only
      have h0' : ¬ s.opn = 0 := by rw [b4]; have := E.pos; omega
      rw [if_neg h0']
      refine ⟨trivial, b4, hK _ _ ⟨hnil _, ?_⟩ ((hset _).trans (keeps_of_ext (Ext.app _ _))) (by simp) (fun s' h => by cases h; exact .inl (Nat.le_refl _))⟩
      refine ⟨Nat.zero_le _, rfl, by simp [b2], by simp [b2], rfl, ?_⟩
      rw [List.getElem?_append_right (by simp)]
      simp [Enc.all_append]

section
variable {h : Heap} {Q : AV → Heap → Prop}

/-- slices.Clone of refs. -/
theorem t119 {q : Option SL} {l : List Rf} (hL : HasL refE h q l) (hl : l.length ≤ 256) (hQ : ∀ q' h', Ext h h' → HasL refE h' q' l → (∀ s, q' = some s → h.length ≤ s.b) → Q (.sl q') h') : AC Try.prog 119 [.sl q] h Q := ac119 (by
  unfold vc119
  refine vif_mk (fun h1 => ?_) (fun h1 => ?_)
  · cases q with
    | none => exact hQ _ _ (.refl _) hL (fun s hs => by cases hs)
    | some s => simp at h1
  · unfold PNew
    have hL' := hL.mono (Ext.app h [.cells [] true])
    refine ⟨refE.all l, hL'.cells, by rw [Enc.all_length, hL.len]; rfl, ?_⟩
    rw [hL.len]
    simp only
    split
    · rename_i h0
      have hl0 : l = [] := List.eq_nil_of_length_eq_zero (by omega)
      subst hl0
      simp only [List.getElem?_append_right (Nat.le_refl _), Nat.sub_self, List.getElem?_cons_zero]
      refine ⟨by simp [Enc.all], hQ _ _ ?_ ?_ (fun s hs => by cases hs; exact Nat.le_refl _)⟩
      · exact (Ext.app _ _).set (Nat.le_refl _)
      · refine ⟨by simp, by simp, .inl rfl, ?_⟩
        simp [cellsAt, Enc.all]
    · refine ⟨by omega, by omega, ?_⟩
      have hc : cellsAt (h ++ [.cells [] true]) ⟨h.length, 0⟩ (0 * 3) = some [] := by simp [cellsAt]
      rw [hc]
      simp only [List.getElem?_append_right (Nat.le_refl _), Nat.sub_self, List.getElem?_cons_zero, if_true, List.nil_append]
      refine hQ _ _ ((Ext.app _ _).trans (Ext.app _ _)) ?_ (fun s hs => by cases hs; simp)
      refine ⟨by simp, by simp, .inr rfl, ?_⟩
      rw [cellsAt_mk (C := refE.all l) (rw' := true) (by simp) (by simp [Enc.all_length])]
      simp [← Enc.all_length])

/-- clone: another edit that is the same. -/
theorem t80 {e : EV} {d : ED} (hR : EdR h e d) (hl : d.2.2.2.length ≤ 256) (hQ : ∀ (e' : EV) h', Ext h h' → EdR h' e' d → (∀ s, e'.2.2.2 = some s → h.length ≤ s.b) → e'.1 = e.1 → e'.2.1 = e.2.1 → e'.2.2.1 = e.2.2.1 → Q (evV e') h') : AC Try.prog 80 [evV e] h Q := ac80 (by
  unfold vc80
  refine t119 hR.2.2.2 hl fun q' h' hx hL hs => ⟨q', rfl, hQ (e.1, e.2.1, e.2.2.1, q') h' hx ⟨hR.1, hR.2.1, hR.2.2.1, hL⟩ hs rfl rfl rfl⟩)
end
end Go.Proofs.Ytceplmmmlindnaa

/- What the functions of a state do, over the abstract heap: its lists, its marks, what goes on. -/
namespace Go.Proofs.Ytceplmmmlindnaa
open Go.Ab
set_option linter.unusedVariables false
set_option linter.unusedSimpArgs false

/-- An edit's refs lie from n on, and not where the list lies. -/
def Cold (n : Nat) (q : Option SL) (e : EV) : Prop := ∀ s, e.2.2.2 = some s → n ≤ s.b ∧ ∀ s', q = some s' → s.b ≠ s'.b
/-- A list of edits that lies from n on, and has a block of its own. -/
def EdL (h : Heap) (n : Nat) (q : Option SL) (l : List ED) : Prop :=
  ∃ L : List EV, Grow edE h q L ∧ L.length = l.length ∧ (∀ (j : Nat) (e : EV) (d : ED), L[j]? = some e → l[j]? = some d → EdR h e d ∧ Cold n q e) ∧ ∀ s, q = some s → n ≤ s.b
/-- A frame: what lies below n, but for p, is as it was. -/
abbrev Frm (p n : Nat) : Nat → Prop := fun b => b = p ∨ n ≤ b
theorem EdL.nil {h : Heap} {n : Nat} : EdL h n none [] := ⟨[], .start h, rfl, by simp, by simp⟩
theorem EdL.len {h : Heap} {n : Nat} {q : Option SL} {l : List ED} (E : EdL h n q l) : slLen q = l.length := by
  obtain ⟨L, g, hl, _⟩ := E
  rw [(Acc.hasL g).len, hl]
theorem EdL.keeps {h h' : Heap} {n : Nat} {q : Option SL} {l : List ED} {X : Nat → Prop} (E : EdL h n q l) (K : Keeps X h h') (hX : ∀ b, n ≤ b → ¬ X b) : EdL h' n q l := by
  obtain ⟨L, g, hl, he, hq⟩ := E
  refine ⟨L, g.keeps K (fun s hs => hX _ (hq s hs)), hl, fun j e d h1 h2 => ?_, hq⟩
  obtain ⟨r, c⟩ := he j e d h1 h2
  exact ⟨K.edR (fun s hs => hX _ (c s hs).1) r, c⟩
theorem EdL.ext {h h' : Heap} {n : Nat} {q : Option SL} {l : List ED} (E : EdL h n q l) (K : Ext h h') : EdL h' n q l := E.keeps (X := fun _ => False) (keeps_of_ext K) (fun _ _ h => h)
theorem EdL.live {h : Heap} {n : Nat} {q : Option SL} {l : List ED} (E : EdL h n q l) : ∀ s, q = some s → s.b < h.length := by
  obtain ⟨L, g, _⟩ := E
  exact HasL.live (Acc.hasL g)

/-- One more edit behind a list. -/
theorem EdL.push {h : Heap} {n : Nat} {q : Option SL} {l : List ED} {e : EV} {d : ED} {K : Option SL → Heap → Prop} (E : EdL h n q l) (hn : n ≤ h.length) (hR : EdR h e d) (hc : Cold n q e) (hl : l.length ≤ 1000)
    (hK : ∀ q' h', EdL h' n q' (l ++ [d]) → Keeps (fun b => n ≤ b) h h' → h.length ≤ h'.length → K q' h') : PNew [.int .i64 e.1, .int .i64 e.2.1, .int .i64 e.2.2.1, .sl e.2.2.2] true h fun a h1 => PAppendS 4 48 q (some ⟨a, 0, 1, 1, 0⟩) h1 K := by
  obtain ⟨L, g, hL, he, hq⟩ := E
  unfold PNew
  have hx : Ext h (h ++ [.cells [.int .i64 e.1, .int .i64 e.2.1, .int .i64 e.2.2.1, .sl e.2.2.2] true]) := .app _ _
  have hsrc : HasL edE (h ++ [.cells [.int .i64 e.1, .int .i64 e.2.1, .int .i64 e.2.2.1, .sl e.2.2.2] true]) (some ⟨h.length, 0, 1, 1, 0⟩) [e] := HasL.new (E := edE) (l := [e]) rfl (by simp [Enc.all, edE])
  have g1 : Grow edE (h ++ [.cells [.int .i64 e.1, .int .i64 e.2.1, .int .i64 e.2.2.1, .sl e.2.2.2] true]) q L := Acc.mono g hx
  have hlive := HasL.live (Acc.hasL g)
  refine Grow.append (E := edE) g1 hsrc (by simp; omega) fun q' h' G K1 hlen hq' => hK q' h' ?_ ?_ ?_
  · have K2 : Keeps (fun b => ∃ s, q = some s ∧ s.b = b) h h' := (keeps_of_ext hx).trans K1
    have hnew : ∀ s, q' = some s → ∀ b, b < h.length → (∀ s', q = some s' → b ≠ s'.b) → b ≠ s.b := by
      intro s hs b hb hne heq
      rcases hq' s hs with h1 | ⟨s1, h1, h2⟩
      · simp at h1; omega
      · exact hne s1 h1 (heq.trans h2.symm)
    refine ⟨L ++ [e], G, by simp [hL], ?_, ?_⟩
    · intro j x y h1 h2
      rw [List.getElem?_append] at h1 h2
      have fin : EdR h x y → Cold n q x → EdR h' x y ∧ Cold n q' x := by
        intro r c
        refine ⟨K2.edR (fun s hs ⟨s', g1, g2⟩ => (c s hs).2 s' g1 g2.symm) r, fun s hs => ⟨(c s hs).1, fun s' hs' => ?_⟩⟩
        exact hnew s' hs' s.b (HasL.live r.2.2.2 s hs) (c s hs).2
      split at h1
      · rename_i hj
        rw [if_pos (by omega)] at h2
        obtain ⟨r, c⟩ := he j x y h1 h2
        exact fin r c
      · rename_i hj
        rw [if_neg (by omega)] at h2
        have h3 : j - L.length = 0 := by have := lt_of_get h1; simp at this; omega
        have h4 : j - l.length = 0 := by omega
        rw [h3] at h1
        rw [h4] at h2
        simp at h1 h2
        subst h1 h2
        exact fin hR hc
    · intro s hs
      rcases hq' s hs with h1 | ⟨s1, h1, h2⟩
      · simp at h1; omega
      · rw [← h2]; exact hq s1 h1
  · refine (keeps_of_ext hx).trans fun b B hb hB => K1 b B (fun ⟨s, h1, h2⟩ => hb ?_) hB
    rw [← h2]; exact hq s h1
  · simp at hlen; omega

/-- A state: its block p; whatever else it has lies from n on. -/
def StR (h : Heap) (p n : Nat) (has : Bool) (done : List ED) (mark : ED) : Prop :=
  ∃ (qd : Option SL) (m : EV), h[p]? = some (.cells [.sl qd, .int .i64 m.1, .int .i64 m.2.1, .int .i64 m.2.2.1, .sl m.2.2.2, .bool has] true) ∧ EdL h n qd done ∧ EdR h m mark ∧ Cold n qd m ∧ p < n ∧ n ≤ h.length ∧
    (∀ d ∈ done, d.2.2.2.length ≤ 256) ∧ mark.2.2.2.length ≤ 256
theorem StR.keeps {h h' : Heap} {p n : Nat} {has : Bool} {done : List ED} {mark : ED} {X : Nat → Prop} (S : StR h p n has done mark) (K : Keeps X h h') (hp : ¬ X p) (hX : ∀ b, n ≤ b → ¬ X b) (hl : h.length ≤ h'.length) : StR h' p n has done mark := by
  obtain ⟨qd, m, h1, h2, h3, h4, h5, h6, h7, h8⟩ := S
  exact ⟨qd, m, K _ _ hp h1, h2.keeps K hX, K.edR (fun s hs => hX _ (h4 s hs).1) h3, h4, h5, by omega, h7, h8⟩
theorem StR.ext {h h' : Heap} {p n : Nat} {has : Bool} {done : List ED} {mark : ED} (S : StR h p n has done mark) (K : Ext h h') : StR h' p n has done mark :=
  S.keeps (X := fun _ => False) (keeps_of_ext K) (fun h => h) (fun _ _ h => h) K.len

theorem cells6 {h : Heap} {p o k : Nat} {c : List AV} {rw' : Bool} (hb : h[p]? = some (.cells c rw')) (ho : o + k ≤ c.length) : cellsAt h ⟨p, 0 + o⟩ k = some ((c.drop o).take k) := by
  rw [Nat.zero_add]; exact cellsAt_mk (p := ⟨p, o⟩) hb ho

section
variable {h : Heap} {Q : AV → Heap → Prop} {p n : Nat} {has : Bool} {done : List ED} {mark : ED}

theorem t22 (hQ : Q (.ptr (some ⟨h.length, 0⟩)) (h ++ [.cells [.sl none, .int .i64 0, .int .i64 0, .int .i64 0, .sl none, .bool false] true])) : AC Try.prog 22 [] h Q := ac22 (by
  unfold vc22 PNew; exact hQ)

theorem t29 (S : StR h p n has done mark) (hQ : Q (.int .i64 done.length) h) : AC Try.prog 29 [.ptr (some ⟨p, 0⟩)] h Q := ac29 (by
  obtain ⟨qd, m, h1, h2, _⟩ := S
  unfold vc29
  refine ⟨qd, cells6 h1 (o := 0) (k := 1) (by simp), ?_⟩
  rw [h2.len]; exact hQ)

theorem t27 (S : StR h p n has done mark) (hQ : ∀ (e : EV) h', Ext h h' → EdR h' e mark → (∀ s, e.2.2.2 = some s → h.length ≤ s.b) → Q (.tup [evV e, .bool has]) h') : AC Try.prog 27 [.ptr (some ⟨p, 0⟩)] h Q := ac27 (by
  obtain ⟨qd, m, h1, h2, h3, h4, h5, h6, h7, h8⟩ := S
  unfold vc27
  refine ⟨m.1, m.2.1, m.2.2.1, m.2.2.2, cells6 h1 (o := 1) (k := 4) (by simp), ?_⟩
  refine ⟨has, cells6 h1 (o := 5) (k := 1) (by simp), ?_⟩
  refine t80 (e := m) h3 h8 fun e' h' hx hR hs g1 g2 g3 => ?_
  refine ⟨e'.1, e'.2.1, e'.2.2.1, e'.2.2.2, rfl, ⟨has, cells6 (hx _ _ h1) (o := 5) (k := 1) (by simp), rfl⟩, ⟨has, cells6 (hx _ _ h1) (o := 5) (k := 1) (by simp), rfl⟩, ?_⟩
  exact hQ e' h' hx hR hs)

def edits (has : Bool) (done : List ED) (mark : ED) : List ED := done ++ (if has then [mark] else [])

theorem t26 (S : StR h p n has done mark) (hd : done.length ≤ 100) (hQ : ∀ q h', Ext h h' → EdL h' h.length q (edits has done mark) → Q (.sl q) h') : AC Try.prog 26 [.ptr (some ⟨p, 0⟩)] h Q := ac26 (by
  have S0 := S
  unfold vc26
  refine t29 S ⟨_, rfl, ?_⟩
  refine ⟨fun xs h9 => ∃ (q : Option SL) (i : Nat), xs = [.sl q, .int .i64 i] ∧ i ≤ done.length ∧ Ext h h9 ∧ EdL h9 h.length q (done.take i), fun xs _ => match xs with | [_, .int _ i] => (done.length - i).toNat | _ => 0,
    ⟨none, 0, rfl, by omega, .refl _, by simpa using EdL.nil⟩, ?_⟩
  rintro q i h9 ⟨q', i', hx, hi, hext, hE⟩
  simp only [List.cons.injEq, AV.int.injEq, AV.sl.injEq, true_and, and_true] at hx
  obtain ⟨rfl, rfl⟩ := hx
  have S9 := S.ext hext
  refine vif_mk (fun h1 => ?_) (fun h1 => ?_)
  · simp only [decide_eq_true_eq] at h1
    obtain ⟨qd, m, b1, b2, b3, b4, b5, b6, b7, b8⟩ := S9
    refine ⟨qd, cells6 b1 (o := 0) (k := 1) (by simp), ?_⟩
    obtain ⟨L, g, hL, he, hq⟩ := b2
    refine HasL.idx (E := edE) (Acc.hasL g) (by omega) (by omega) fun pp x hx hc => ?_
    have hx' : L[i']? = some x := by simpa using hx
    have hdl : i' < done.length := by omega
    have hd' : done[i']? = some done[i'] := List.getElem?_eq_getElem hdl
    obtain ⟨hR, _⟩ := he i' x _ hx' hd'
    refine ⟨x.1, x.2.1, x.2.2.1, x.2.2.2, hc, ?_⟩
    refine t80 (e := x) hR (b7 _ (List.getElem_mem _)) fun e' h18 hx2 hR2 hs g1 g2 g3 => ?_
    refine ⟨e'.1, e'.2.1, e'.2.2.1, e'.2.2.2, rfl, ?_⟩
    have hlen9 := hext.len
    refine EdL.push (hE.ext hx2) (by have := hx2.len; omega) hR2 ?_ (by simp; omega) fun q2 h26 hE2 K2 hl2 => ?_
    · intro s hs'
      have := hs s hs'
      refine ⟨by omega, fun s' hs2 => ?_⟩
      have := hE.live s' hs2
      omega
    · rw [wrapK_i64 ⟨by omega, by omega⟩]
      refine ⟨trivial, ⟨q2, i' + 1, by simp, by omega, ?_, ?_⟩, ?_⟩
      · intro b B hB
        have hlt := lt_of_get hB
        exact K2 b B (by omega) (hx2 _ _ (hext _ _ hB))
      · rw [List.take_add_one, hd']; exact hE2
      · simp only; omega
  · simp only [decide_eq_false_iff_not] at h1
    have hi' : i' = done.length := by omega
    subst hi'
    rw [List.take_length] at hE
    refine t27 S9 fun e' h28 hx2 hR2 hs => ⟨e'.1, e'.2.1, e'.2.2.1, e'.2.2.2, has, rfl, ?_⟩
    have hlen9 := hext.len
    cases has with
    | true =>
      simp only [vif]
      refine EdL.push (hE.ext hx2) (by have := hx2.len; omega) hR2 ?_ (by omega) fun q2 h26 hE2 K2 hl2 => ?_
      · intro s hs'
        have := hs s hs'
        refine ⟨by omega, fun s' hs2 => ?_⟩
        have := hE.live s' hs2
        omega
      · refine hQ q2 h26 ?_ (by simpa [edits] using hE2)
        intro b B hB
        have hlt := lt_of_get hB
        exact K2 b B (by omega) (hx2 _ _ (hext _ _ hB))
    | false =>
      simp only [vif]
      exact hQ _ _ (hext.trans hx2) (by simpa [edits] using hE.ext hx2))
end
end Go.Proofs.Ytceplmmmlindnaa

/- What a state's Apply does; that equal edits are told the same. -/
namespace Go.Proofs.Ytceplmmmlindnaa
open Go.Ab
set_option linter.unusedVariables false
set_option linter.unusedSimpArgs false

def goes (has : Bool) (done : List ED) (mark : ED) (d : ED) : Bool := d.2.1 == (done.length : Int) && (d.1 == 2 || !has || decide (d.2.2.1 > mark.2.2.1))
def nHas (d : ED) : Bool := !(d.1 == 2)
def nDone (done : List ED) (d : ED) : List ED := if d.1 == 2 then done ++ [d] else done
def nMark (d : ED) : ED := if d.1 == 2 then zeroD else d

section
variable {h : Heap} {Q : AV → Heap → Prop} {p n : Nat} {has : Bool} {done : List ED} {mark : ED}

theorem t79 (S : StR h p n has done mark) {e : EV} {d : ED} (hR : EdR h e d) (hQ : Q (.bool (goes has done mark d)) h) : AC Try.prog 79 [.ptr (some ⟨p, 0⟩), evV e] h Q := ac79 (by
  obtain ⟨qd, m, h1, h2, h3, h4, h5, h6, h7, h8⟩ := S
  obtain ⟨r1, r2, r3, hL⟩ := hR
  have key : ∀ b : Bool, b = goes has done mark d → Q (.bool b) h := fun b hb => hb ▸ hQ
  have hlen := h2.len
  unfold vc79
  refine ⟨qd, cells6 h1 (o := 0) (k := 1) (by simp), ?_⟩
  rw [r1, r2, r3, hlen]
  refine vif_mk (fun g1 => key _ ?_) fun g1 => vif_mk (fun g2 => key _ ?_) fun g2 => ?_
  · have : (d.2.1 == (done.length : Int)) = false := by simpa using g1
    simp [goes, this]
  · have : (d.2.1 == (done.length : Int)) = true := by simpa using g1
    simp [goes, this, g2]
  · have e1 : (d.2.1 == (done.length : Int)) = true := by simpa using g1
    refine ⟨has, cells6 h1 (o := 5) (k := 1) (by simp), ?_⟩
    refine vif_mk (fun g3 => key _ ?_) fun g3 => ?_
    · simp [goes, e1, g3]
    · refine ⟨m.2.2.1, ?_, key _ ?_⟩
      · have := cells6 h1 (o := 3) (k := 1) (by simp)
        simpa using this
      · have h3' : m.2.2.1 = mark.2.2.1 := h3.2.2.1
        simp [goes, e1, g2, g3, h3'])

theorem store6 {h : Heap} {p o : Nat} {c xs : List AV} {K : Heap → Prop} (hb : h[p]? = some (.cells c true)) (ho : o + xs.length ≤ c.length) (hK : K (h.set p (.cells (splice c o xs) true))) : PStore h ⟨p, 0 + o⟩ xs K := by
  unfold PStore
  simp only [hb, Nat.zero_add]
  exact ⟨ho, hK⟩

theorem store6v {h : Heap} {p o : Nat} {c xs : List AV} {K : Heap → Prop} (hb : h[p]? = some (.cells c true)) (ho : o + xs.length ≤ c.length) (hK : K (h.set p (.cells (splice c o xs) true))) : vPtr (some ⟨p, 0⟩) fun q => PStore h ⟨q.b, q.o + o⟩ xs K := store6 hb ho hK

theorem keeps_set {h : Heap} {p : Nat} {B : Blk} {X : Nat → Prop} (hp : X p) : Keeps X h (h.set p B) := by
  intro b C hb hC
  rw [List.getElem?_set, if_neg]
  · exact hC
  · intro he; subst he; exact hb hp

/-- Apply: what goes on goes on; what does not turns nothing. -/
theorem t23 (S : StR h p n has done mark) {e : EV} {d : ED} (hR : EdR h e d) (hp : ∀ s, e.2.2.2 = some s → s.b ≠ p) (hd : done.length ≤ 100)
    (hno : ∀ v : Int, (chk d && goes has done mark d) = false → v ≠ 0 → Q (.int .i64 v) h)
    (hgo : ∀ h', (chk d && goes has done mark d) = true → StR h' p n (nHas d) (nDone done d) (nMark d) → Keeps (Frm p n) h h' → h.length ≤ h'.length → Q (.int .i64 0) h') : AC Try.prog 23 [.ptr (some ⟨p, 0⟩), evV e] h Q := ac23 (by
  have S0 := S
  obtain ⟨qd, m, h1, h2, h3, h4, h5, h6, h7, h8⟩ := S
  have r1 : e.1 = d.1 := hR.1
  unfold vc23
  refine t18 (e := e) hR fun v hv => ⟨v, rfl, vif_mk (fun g1 => hno v ?_ (by simpa using g1)) fun g1 => ?_⟩
  · cases hc : chk d
    · rfl
    · have := hv.2 hc; subst this; simp at g1
  have hc : chk d = true := hv.1 (by simpa using g1)
  refine t79 (e := e) S0 hR ⟨_, rfl, vif_mk (fun g2 => hno 1 ?_ (by omega)) fun g2 => ?_⟩
  · simp only [Bool.not_eq_true'] at g2
    rw [hc, g2]; rfl
  have hg : goes has done mark d = true := by simpa using g2
  have hyes : (chk d && goes has done mark d) = true := by rw [hc, hg]; rfl
  have hrefs : d.2.2.2.length ≤ 256 := by
    simp only [chk, Bool.and_eq_true, decide_eq_true_eq] at hc
    exact hc.1.2
  have hpl := lt_of_get h1
  refine store6v h1 (o := 1) ?_ ?_
  · simp
  have b1 : (h.set p (.cells (splice [.sl qd, .int .i64 m.1, .int .i64 m.2.1, .int .i64 m.2.2.1, .sl m.2.2.2, .bool has] 1 [.int .i64 0, .int .i64 0, .int .i64 0, .sl none]) true))[p]? = some (.cells [.sl qd, .int .i64 0, .int .i64 0, .int .i64 0, .sl none, .bool has] true) := by
    rw [List.getElem?_set_self hpl]; rfl
  refine store6v b1 (o := 5) ?_ ?_
  · simp
  rw [List.set_set]
  have e15 : splice [AV.sl qd, .int .i64 0, .int .i64 0, .int .i64 0, .sl none, .bool has] 5 [.bool false] = [.sl qd, .int .i64 0, .int .i64 0, .int .i64 0, .sl none, .bool false] := rfl
  rw [e15]
  generalize hh15 : h.set p (.cells [.sl qd, .int .i64 0, .int .i64 0, .int .i64 0, .sl none, .bool false] true) = h15
  have K15 : Keeps (fun b => b = p) h h15 := by rw [← hh15]; exact keeps_set rfl
  have l15 : h15.length = h.length := by rw [← hh15]; simp
  have p15 : h15[p]? = some (.cells [.sl qd, .int .i64 0, .int .i64 0, .int .i64 0, .sl none, .bool false] true) := by rw [← hh15, List.getElem?_set_self hpl]
  have R15 : EdR h15 e d := K15.edR (fun s hs => hp s hs) hR
  have E15 : EdL h15 n qd done := h2.keeps K15 (fun b hb => by omega)
  have F15 : Keeps (Frm p n) h h15 := fun b B hb hB => K15 b B (fun he => hb (.inl he)) hB
  rw [r1]
  refine vif_mk (fun g3 => ?_) (fun g3 => ?_)
  · -- an epoch is done
    refine ⟨qd, cells6 p15 (o := 0) (k := 1) (by simp), ?_⟩
    have hz : evV e = .agg [.int .i64 d.1, .int .i64 e.2.1, .int .i64 e.2.2.1, .sl e.2.2.2] := by rw [← r1]
    rw [← hz]
    refine t80 (e := e) R15 hrefs fun e' h19 hx hR2 hs q1 q2 q3 => ⟨e'.1, e'.2.1, e'.2.2.1, e'.2.2.2, rfl, ⟨qd, cells6 (hx _ _ p15) (o := 0) (k := 1) (by simp), rfl⟩, ?_⟩
    have E19 := E15.ext hx
    have hl19 := hx.len
    have hcold : Cold n qd e' := by
      intro s hs'
      have := hs s hs'
      refine ⟨by omega, fun s' hs2 => ?_⟩
      have := E15.live s' hs2
      omega
    have hpush := EdL.push (K := fun q26 h27 => vPtr (some (⟨p, 0⟩ : PA)) fun p28 => PStore h27 ⟨p28.b, p28.o + 0⟩ [.sl q26] fun h29 => Q (.int .i64 0) h29) E19 (by omega) hR2 hcold (by omega) fun q2 h27 hE2 K2 hl2 => ?_
    · unfold PNew at hpush ⊢
      refine ⟨⟨qd, ?_, rfl⟩, hpush⟩
      exact cells6 (Ext.app h19 _ _ _ (hx _ _ p15)) (o := 0) (k := 1) (by simp)
    · have p27 : h27[p]? = some (.cells [.sl qd, .int .i64 0, .int .i64 0, .int .i64 0, .sl none, .bool false] true) := K2 _ _ (by omega) (hx _ _ p15)
      refine store6v p27 (o := 0) ?_ ?_
      · simp
      have hpl27 := lt_of_get p27
      refine hgo _ hyes ?_ ?_ (by simp; omega)
      · have g3' : (d.1 == 2) = true := g3
        have e1 : nHas d = false := by simp [nHas, g3']
        have e2 : nDone done d = done ++ [d] := by simp [nDone, g3']
        have e3 : nMark d = zeroD := by simp [nMark, g3']
        rw [e1, e2, e3]
        refine ⟨q2, zeroV, ?_, hE2.keeps (X := fun b => b = p) (keeps_set rfl) (fun b hb => by omega), ⟨rfl, rfl, rfl, rfl⟩, ?_, h5, ?_, ?_, ?_⟩
        · rw [List.getElem?_set_self hpl27]; rfl
        · intro s hs; cases hs
        · simp; omega
        · intro x hx'
          rcases List.mem_append.1 hx' with hx' | hx'
          · exact h7 x hx'
          · simp at hx'; subst hx'; exact hrefs
        · simp
      · intro b B hb hB
        have hbp : b ≠ p := fun he => hb (.inl he)
        have hbn : ¬ n ≤ b := fun he => hb (.inr he)
        rw [List.getElem?_set, if_neg (Ne.symm hbp)]
        exact K2 b B hbn (hx _ _ (F15 b B hb hB))
  · have hz : evV e = .agg [.int .i64 d.1, .int .i64 e.2.1, .int .i64 e.2.2.1, .sl e.2.2.2] := by rw [← r1]
    rw [← hz]
    refine t80 (e := e) R15 hrefs fun e' h33 hx hR2 hs q1 q2 q3 => ⟨e'.1, e'.2.1, e'.2.2.1, e'.2.2.2, rfl, ?_⟩
    have p33 := hx _ _ p15
    have hpl33 := lt_of_get p33
    have hl33 := hx.len
    refine store6v p33 (o := 1) ?_ ?_
    · simp
    have b39 : (h33.set p (.cells (splice [.sl qd, .int .i64 0, .int .i64 0, .int .i64 0, .sl none, .bool false] 1 [.int .i64 e'.1, .int .i64 e'.2.1, .int .i64 e'.2.2.1, .sl e'.2.2.2]) true))[p]? = some (.cells [.sl qd, .int .i64 e'.1, .int .i64 e'.2.1, .int .i64 e'.2.2.1, .sl e'.2.2.2, .bool false] true) := by
      rw [List.getElem?_set_self hpl33]; rfl
    refine store6v b39 (o := 5) ?_ ?_
    · simp
    rw [List.set_set]
    have hsub : Keeps (fun b => b = p) h33 (h33.set p (.cells (splice [.sl qd, .int .i64 e'.1, .int .i64 e'.2.1, .int .i64 e'.2.2.1, .sl e'.2.2.2, .bool false] 5 [.bool true]) true)) := keeps_set rfl
    refine hgo _ hyes ?_ ?_ (by simp; omega)
    · have g3' : (d.1 == 2) = false := g3
      have e1 : nHas d = true := by simp [nHas, g3']
      have e2 : nDone done d = done := by simp [nDone, g3']
      have e3 : nMark d = d := by simp [nMark, g3']
      rw [e1, e2, e3]
      refine ⟨qd, e', ?_, (E15.ext hx).keeps hsub (fun b hb => by omega), hsub.edR (fun s hs' => ?_) hR2, ?_, h5, by simp; omega, h7, hrefs⟩
      · rw [List.getElem?_set_self hpl33]; rfl
      · have := hs s hs'; omega
      · intro s hs'
        have := hs s hs'
        refine ⟨by omega, fun s' hs2 => ?_⟩
        have := E15.live s' hs2
        omega
    · intro b B hb hB
      have hbp : b ≠ p := fun he => hb (.inl he)
      rw [List.getElem?_set, if_neg (Ne.symm hbp)]
      exact hx _ _ (F15 b B hb hB))

/-- Equal edits are the same. -/
theorem t16 {e e2 : EV} {d : ED} (hR : EdR h e d) (hR2 : EdR h e2 d) (hl : d.2.2.2.length ≤ 256) (hQ : Q (.bool true) h) : AC Try.prog 16 [evV e, evV e2] h Q := ac16 (by
  obtain ⟨r1, r2, r3, hL⟩ := hR
  obtain ⟨s1, s2, s3, hL2⟩ := hR2
  have hlen := hL.len
  have hlen2 := hL2.len
  unfold vc16
  rw [r1, r2, r3, s1, s2, s3]
  refine vif_mk (fun g => by simp at g) fun _ => vif_mk (fun g => by simp at g) fun _ => vif_mk (fun g => ?_) fun _ => ?_
  · rw [hlen, hlen2] at g; simp at g
  refine ⟨fun xs h9 => h9 = h ∧ ∃ i : Nat, xs = [.int .i64 i], fun xs _ => match xs with | [.int _ i] => (d.2.2.2.length - i).toNat | _ => 0, ⟨rfl, 0, rfl⟩, ?_⟩
  rintro i h9 ⟨rfl, i', hx⟩
  simp only [List.cons.injEq, AV.int.injEq, true_and, and_true] at hx
  subst hx
  refine vif_mk (fun g1 => ?_) (fun _ => hQ)
  simp only [decide_eq_true_eq] at g1
  refine hL.idx (by omega) (by omega) fun pp x hx hc => ?_
  refine ⟨x.1, x.2.1, x.2.2, hc, ?_⟩
  refine hL2.idx (by omega) (by omega) fun pp2 y hy hc2 => ?_
  rw [hx] at hy
  cases hy
  refine ⟨x.1, x.2.1, x.2.2, hc2, vif_mk (fun g => by simp at g) fun _ => ?_⟩
  rw [wrapK_i64 ⟨by omega, by omega⟩]
  refine ⟨⟨rfl, rfl, trivial⟩, ⟨rfl, i' + 1, by simp⟩, ?_⟩
  simp only; omega)

/-- Equal lists are the same. -/
theorem t28 {n1 n2 : Nat} {q1 q2 : Option SL} {l : List ED} (E1 : EdL h n1 q1 l) (E2 : EdL h n2 q2 l) (hl : l.length ≤ 1000) (hs : ∀ d ∈ l, d.2.2.2.length ≤ 256) (hQ : Q (.bool true) h) : AC Try.prog 28 [.sl q1, .sl q2] h Q := ac28 (by
  have hlen := E1.len
  have hlen2 := E2.len
  obtain ⟨L1, g1, k1, f1, _⟩ := E1
  obtain ⟨L2, g2, k2, f2, _⟩ := E2
  unfold vc28
  refine vif_mk (fun g => ?_) fun _ => ?_
  · rw [hlen, hlen2] at g; simp at g
  refine ⟨fun xs h9 => h9 = h ∧ ∃ i : Nat, xs = [.int .i64 i], fun xs _ => match xs with | [.int _ i] => (l.length - i).toNat | _ => 0, ⟨rfl, 0, rfl⟩, ?_⟩
  rintro i h9 ⟨rfl, i', hx⟩
  simp only [List.cons.injEq, AV.int.injEq, true_and, and_true] at hx
  subst hx
  refine vif_mk (fun h1 => ?_) (fun _ => hQ)
  simp only [decide_eq_true_eq] at h1
  refine HasL.idx (E := edE) (Acc.hasL g1) (by omega) (by omega) fun pp x hx hc => ?_
  refine ⟨x.1, x.2.1, x.2.2.1, x.2.2.2, hc, ?_⟩
  refine HasL.idx (E := edE) (Acc.hasL g2) (by omega) (by omega) fun pp2 y hy hc2 => ?_
  refine ⟨y.1, y.2.1, y.2.2.1, y.2.2.2, hc2, ?_⟩
  have hd : i' < l.length := by omega
  have hx' : L1[i']? = some x := by simpa using hx
  have hy' : L2[i']? = some y := by simpa using hy
  have hdd : l[i']? = some l[i'] := List.getElem?_eq_getElem hd
  refine t16 (e := x) (e2 := y) (f1 _ _ _ hx' hdd).1 (f2 _ _ _ hy' hdd).1 (hs _ (List.getElem_mem _)) ⟨true, rfl, vif_mk (fun g => by simp at g) fun _ => ?_⟩
  rw [wrapK_i64 ⟨by omega, by omega⟩]
  refine ⟨trivial, ⟨rfl, i' + 1, by simp⟩, ?_⟩
  simp only; omega)
end
end Go.Proofs.Ytceplmmmlindnaa

/- EditMakes over the abstract heap: it answers yes. -/
namespace Go.Proofs.Ytceplmmmlindnaa
open Go.Ab
set_option linter.unusedVariables false
set_option linter.unusedSimpArgs false

theorem EdL.keeps2 {h h' : Heap} {n : Nat} {q : Option SL} {l : List ED} {X : Nat → Prop} (E : EdL h n q l) (K : Keeps X h h') (hX : ∀ b, n ≤ b → b < h.length → ¬ X b) : EdL h' n q l := by
  obtain ⟨L, g, hl, he, hq⟩ := E
  have hlive := HasL.live (Acc.hasL g)
  refine ⟨L, g.keeps K (fun s hs => hX _ (hq s hs) (hlive s hs)), hl, fun j e d h1 h2 => ?_, hq⟩
  obtain ⟨r, c⟩ := he j e d h1 h2
  exact ⟨K.edR (fun s hs => hX _ (c s hs).1 (HasL.live r.2.2.2 s hs)) r, c⟩
theorem StR.keeps2 {h h' : Heap} {p n : Nat} {has : Bool} {done : List ED} {mark : ED} {X : Nat → Prop} (S : StR h p n has done mark) (K : Keeps X h h') (hp : ¬ X p) (hX : ∀ b, n ≤ b → b < h.length → ¬ X b) (hl : h.length ≤ h'.length) : StR h' p n has done mark := by
  obtain ⟨qd, m, h1, h2, h3, h4, h5, h6, h7, h8⟩ := S
  exact ⟨qd, m, K _ _ hp h1, h2.keeps2 K hX, K.edR (fun s hs => hX _ (h4 s hs).1 (HasL.live h3.2.2.2 s hs)) h3, h4, h5, by omega, h7, h8⟩

/-- A list of edits that came in. -/
def InL (h : Heap) (q : Option SL) (l : List ED) : Prop :=
  ∃ L : List EV, HasL edE h q L ∧ L.length = l.length ∧ ∀ (j : Nat) (e : EV) (d : ED), L[j]? = some e → l[j]? = some d → EdR h e d
theorem InL.keeps {h h' : Heap} {q : Option SL} {l : List ED} {X : Nat → Prop} (E : InL h q l) (K : Keeps X h h') (hX : ∀ b, b < h.length → ¬ X b) : InL h' q l := by
  obtain ⟨L, g, hl, he⟩ := E
  refine ⟨L, K.hasL (fun s hs => hX _ (HasL.live g s hs)) g, hl, fun j e d h1 h2 => ?_⟩
  have r := he j e d h1 h2
  exact K.edR (fun s hs => hX _ (HasL.live r.2.2.2 s hs)) r

/-- What may be in a state. -/
def Vld (has : Bool) (done : List ED) (mark : ED) : Prop :=
  (∀ (i : Nat) (d : ED), done[i]? = some d → chk d = true ∧ (d.1 == 2) = true ∧ d.2.1 = i) ∧ (has = true → chk mark = true ∧ (mark.1 == 2) = false ∧ mark.2.1 = done.length) ∧ (has = false → mark = zeroD)
theorem Vld.step {has : Bool} {done : List ED} {mark d : ED} (V : Vld has done mark) (h : (chk d && goes has done mark d) = true) : Vld (nHas d) (nDone done d) (nMark d) := by
  rw [Bool.and_eq_true] at h
  obtain ⟨hc, hg⟩ := h
  simp only [goes, Bool.and_eq_true] at hg
  have h1 : d.2.1 = done.length := by simpa using hg.1
  unfold nHas nDone nMark
  cases hk : (d.1 == 2) with
  | true =>
    simp only [Bool.not_true, if_true]
    refine ⟨fun i x hx => ?_, (fun h => by cases h), (fun _ => rfl)⟩
    rw [List.getElem?_append] at hx
    split at hx
    · exact V.1 i x hx
    · rename_i hi
      have : i - done.length = 0 := by have := lt_of_get hx; simp at this; omega
      rw [this] at hx
      simp at hx
      subst hx
      exact ⟨hc, hk, by rw [h1]; omega⟩
  | false =>
    simp only [Bool.not_false, Bool.false_eq_true, if_false]
    exact ⟨V.1, (fun _ => ⟨hc, hk, h1⟩), (fun h => by cases h)⟩

def tDone (done : List ED) (i : Nat) : List ED := done.take i
def tHas (done : List ED) (i : Nat) : Bool := decide (done.length < i)
def tMark (done : List ED) (mark : ED) (i : Nat) : ED := if done.length < i then mark else zeroD

theorem t_step {has : Bool} {done : List ED} {mark d : ED} {i : Nat} (V : Vld has done mark) (hd : (edits has done mark)[i]? = some d) :
    (chk d && goes (tHas done i) (tDone done i) (tMark done mark i) d) = true ∧ nHas d = tHas done (i + 1) ∧ nDone (tDone done i) d = tDone done (i + 1) ∧ nMark d = tMark done mark (i + 1) := by
  unfold edits at hd
  rw [List.getElem?_append] at hd
  split at hd
  · rename_i hi
    obtain ⟨v1, v2, v3⟩ := V.1 i d hd
    have e1 : tHas done i = false := by simp [tHas]; omega
    have e2 : tMark done mark i = zeroD := by simp [tMark]; omega
    have hl : (done.take i).length = i := by rw [List.length_take]; omega
    refine ⟨?_, ?_, ?_, ?_⟩
    · rw [e1, e2, v1]
      simp [goes, tDone, hl, v3, v2]
    · simp [nHas, v2, tHas]; omega
    · simp only [nDone, v2, if_true, tDone]
      rw [List.take_add_one, hd]; rfl
    · simp [nMark, v2, tMark]; omega
  · rename_i hi
    have hh : has = true := by
      cases has with
      | true => rfl
      | false => simp at hd
    subst hh
    simp only [if_true] at hd
    have hi0 : i - done.length = 0 := by have := lt_of_get hd; simp at this; omega
    rw [hi0] at hd
    simp at hd
    subst hd
    have hil : i = done.length := by omega
    subst hil
    obtain ⟨v1, v2, v3⟩ := V.2.1 rfl
    have e1 : tHas done done.length = false := by simp [tHas]
    refine ⟨?_, ?_, ?_, ?_⟩
    · rw [e1, v1]
      simp [goes, tDone, v3]
    · simp [nHas, v2, tHas]
    · have v2' : ¬ mark.1 = 2 := by simpa using v2
      simp only [nDone, v2, Bool.false_eq_true, if_false, tDone, List.take_length]
      rw [List.take_of_length_le (by omega)]
    · have v2' : ¬ mark.1 = 2 := by simpa using v2
      simp [nMark, tMark, v2']
theorem t_end {has : Bool} {done : List ED} {mark : ED} (V : Vld has done mark) : tHas done (edits has done mark).length = has ∧ tDone done (edits has done mark).length = done ∧ tMark done mark (edits has done mark).length = mark := by
  cases has with
  | true =>
    refine ⟨by simp [edits, tHas], ?_, by simp [edits, tMark]⟩
    simp only [edits, if_true, tDone]
    exact List.take_of_length_le (by simp)
  | false =>
    have := V.2.2 rfl
    subst this
    simp [edits, tHas, tDone, tMark]

abbrev zeroB : Blk := .cells [.sl none, .int .i64 0, .int .i64 0, .int .i64 0, .sl none, .bool false] true
theorem fresh_st {h : Heap} {p n : Nat} (hb : h[p]? = some zeroB) (hp : p < n) (hn : n ≤ h.length) : StR h p n false [] zeroD :=
  ⟨none, zeroV, hb, EdL.nil, ⟨rfl, rfl, rfl, rfl⟩, fun s hs => (by cases hs), hp, hn, by simp, by simp⟩

section
variable {h : Heap} {Q : AV → Heap → Prop}

/-- Behind the first loop: the state's edits make it again. -/
theorem makes_tail {ps pt n : Nat} {h14 : Heap} {has : Bool} {done : List ED} {mark : ED} (S : StR h14 ps n has done mark) (V : Vld has done mark) (hd : done.length ≤ 60) (hps : ps < n) (hpt : pt < n) (hne : pt ≠ ps) (T : h14[pt]? = some zeroB) (hQ : ∀ h', Q (.bool true) h') :
    AC Try.prog 26 [.ptr (some ⟨ps, 0⟩)] h14 fun v31 h32 => ∃ q33 : Option SL, v31 = .sl q33 ∧
 ∃ (I35 : List AV → Heap → Prop) (m36 : List AV → Heap → Nat), I35 [.int .i64 0] h32 ∧
 ∀ n34 : Int, ∀ h37 : Heap, I35 [.int .i64 n34] h37 →
 vif (decide (n34 < (slLen q33 : Int)))
 (vIdx q33 n34 4 fun p38 =>
 ∃ n39 : Int, ∃ n40 : Int, ∃ n41 : Int, ∃ q42 : Option SL, cellsAt h37 p38 4 = some [.int .i64 n39, .int .i64 n40, .int .i64 n41, .sl q42] ∧
 AC Try.prog 23 [.ptr (some ⟨pt, 0⟩), .agg [.int .i64 n39, .int .i64 n40, .int .i64 n41, .sl q42]] h37 fun v43 h44 => ∃ n45 : Int, v43 = .int .i64 n45 ∧
 vif (n45 != 0)
 (Q (.bool false) h44)
 ((True) ∧ I35 [.int .i64 (wrapK .i64 (n34 + 1))] h44 ∧ m36 [.int .i64 (wrapK .i64 (n34 + 1))] h44 < m36 [.int .i64 n34] h37))
 (AC Try.prog 27 [.ptr (some ⟨ps, 0⟩)] h37 fun v46 h47 => ∃ n48 : Int, ∃ n49 : Int, ∃ n50 : Int, ∃ q51 : Option SL, ∃ b52 : Bool, v46 = .tup [.agg [.int .i64 n48, .int .i64 n49, .int .i64 n50, .sl q51], .bool b52] ∧
 AC Try.prog 27 [.ptr (some ⟨pt, 0⟩)] h47 fun v53 h54 => ∃ n55 : Int, ∃ n56 : Int, ∃ n57 : Int, ∃ q58 : Option SL, ∃ b59 : Bool, v53 = .tup [.agg [.int .i64 n55, .int .i64 n56, .int .i64 n57, .sl q58], .bool b59] ∧
 AC Try.prog 26 [.ptr (some ⟨pt, 0⟩)] h54 fun v60 h61 => ∃ q62 : Option SL, v60 = .sl q62 ∧
 AC Try.prog 28 [.sl q33, .sl q62] h61 fun v63 h64 => ∃ b65 : Bool, v63 = .bool b65 ∧
 vif b65
 (AC Try.prog 29 [.ptr (some ⟨ps, 0⟩)] h64 fun v66 h67 => ∃ n68 : Int, v66 = .int .i64 n68 ∧
 AC Try.prog 29 [.ptr (some ⟨pt, 0⟩)] h67 fun v69 h70 => ∃ n71 : Int, v69 = .int .i64 n71 ∧
 vif (n68 == n71)
 (vif (b52 == b59)
 (AC Try.prog 16 [.agg [.int .i64 n48, .int .i64 n49, .int .i64 n50, .sl q51], .agg [.int .i64 n55, .int .i64 n56, .int .i64 n57, .sl q58]] h70 fun v72 h73 => ∃ b74 : Bool, v72 = .bool b74 ∧
 Q (.bool b74) h73)
 (Q (.bool false) h70))
 (Q (.bool false) h70))
 (Q (.bool false) h64)) := by
  have hsm : ∀ d ∈ edits has done mark, d.2.2.2.length ≤ 256 := by
    obtain ⟨qd, m, _, _, _, _, _, _, h7, h8⟩ := S
    intro d hd
    unfold edits at hd
    rcases List.mem_append.1 hd with h1 | h1
    · exact h7 d h1
    · cases has <;> simp at h1
      subst h1; exact h8
  have hN : (edits has done mark).length ≤ 61 := by unfold edits; cases has <;> simp <;> omega
  have hlenS : n ≤ h14.length := by obtain ⟨qd, m, _, _, _, _, _, h6, _⟩ := S; exact h6
  refine t26 S (by omega) fun q33 h32 hx32 E32 => ⟨q33, rfl, ?_⟩
  have l32 := hx32.len
  have T32 : StR h32 pt h32.length false [] zeroD := fresh_st (hx32 _ _ T) (by omega) (Nat.le_refl _)
  refine ⟨fun xs h37 => ∃ i : Nat, xs = [.int .i64 i] ∧ i ≤ (edits has done mark).length ∧ StR h37 pt h32.length (tHas done i) (tDone done i) (tMark done mark i) ∧ Keeps (Frm pt h32.length) h32 h37 ∧ h32.length ≤ h37.length,
    fun xs _ => match xs with | [.int _ i] => ((edits has done mark).length - i).toNat | _ => 0, ⟨0, rfl, by omega, by simpa [tHas, tDone, tMark] using T32, .refl _ _, Nat.le_refl _⟩, ?_⟩
  rintro i h37 ⟨i', hx, hi, T37, K37, l37⟩
  simp only [List.cons.injEq, AV.int.injEq, true_and, and_true] at hx
  subst hx
  have hcold : ∀ b, h14.length ≤ b → b < h32.length → ¬ Frm pt h32.length b := fun b h1 h2 h3 => by rcases h3 with h3 | h3 <;> omega
  have E37 : EdL h37 h14.length q33 (edits has done mark) := E32.keeps2 K37 hcold
  have S37 : StR h37 ps n has done mark := (S.ext hx32).keeps2 K37 (fun h3 => by rcases h3 with h3 | h3 <;> omega) (fun b h1 h2 h3 => by rcases h3 with h3 | h3 <;> omega) l37
  have hlenE := E37.len
  refine vif_mk (fun g1 => ?_) (fun g1 => ?_)
  · simp only [decide_eq_true_eq] at g1
    obtain ⟨L, g, hL, he, hq⟩ := E37
    refine HasL.idx (E := edE) (Acc.hasL g) (by omega) (by omega) fun pp x hx hc => ?_
    have hx' : L[i']? = some x := by simpa using hx
    have hil : i' < (edits has done mark).length := by omega
    have hdd : (edits has done mark)[i']? = some (edits has done mark)[i'] := List.getElem?_eq_getElem hil
    obtain ⟨hR, hcd⟩ := he i' x _ hx' hdd
    obtain ⟨k1, k2, k3, k4⟩ := t_step V hdd
    refine ⟨x.1, x.2.1, x.2.2.1, x.2.2.2, hc, ?_⟩
    refine t23 (e := x) T37 hR (fun s hs => by have := (hcd s hs).1; omega) (by unfold tDone; rw [List.length_take]; omega) (fun v hno hv => ?_) (fun h44 hyes T44 K44 l44 => ?_)
    · rw [k1] at hno; cases hno
    · refine ⟨0, rfl, vif_mk (fun g => by simp at g) fun _ => ?_⟩
      rw [wrapK_i64 ⟨by omega, by omega⟩]
      refine ⟨trivial, ⟨i' + 1, by simp, by omega, ?_, K37.trans K44, by omega⟩, ?_⟩
      · rw [← k2, ← k3, ← k4]; exact T44
      · simp only; omega
  · simp only [decide_eq_false_iff_not] at g1
    have hi' : i' = (edits has done mark).length := by omega
    subst hi'
    obtain ⟨z1, z2, z3⟩ := t_end V
    rw [z1, z2, z3] at T37
    refine t27 S37 fun e1 h47 hx47 R47 _ => ⟨e1.1, e1.2.1, e1.2.2.1, e1.2.2.2, has, rfl, ?_⟩
    refine t27 (T37.ext hx47) fun e2 h54 hx54 R54 _ => ⟨e2.1, e2.2.1, e2.2.2.1, e2.2.2.2, has, rfl, ?_⟩
    refine t26 ((T37.ext hx47).ext hx54) (by omega) fun q62 h61 hx61 E61 => ⟨q62, rfl, ?_⟩
    have E37' : EdL h61 h14.length q33 (edits has done mark) := ((E37.ext hx47).ext hx54).ext hx61
    refine t28 E37' E61 (by omega) hsm ⟨true, rfl, ?_⟩
    simp only [vif]
    refine t29 (((S37.ext hx47).ext hx54).ext hx61) ⟨_, rfl, ?_⟩
    refine t29 (((T37.ext hx47).ext hx54).ext hx61) ⟨_, rfl, ?_⟩
    refine vif_mk (fun _ => ?_) (fun g => by simp at g)
    refine vif_mk (fun _ => ?_) (fun g => by simp at g)
    have hm : mark.2.2.2.length ≤ 256 := by obtain ⟨qd, m, _, _, _, _, _, _, _, h8⟩ := S; exact h8
    refine t16 (e := e1) (e2 := e2) (d := mark) ⟨R47.1, R47.2.1, R47.2.2.1, (R47.2.2.2.mono hx54).mono hx61⟩ ⟨R54.1, R54.2.1, R54.2.2.1, R54.2.2.2.mono hx61⟩ hm ⟨true, rfl, hQ _⟩

theorem s6 {q : Option SL} {l : List ED} (hL : InL h q l) : AC Try.prog 6 [.sl q] h fun v _ => v = .bool true := ac6 (by
  have hlen : slLen q = l.length := by obtain ⟨L, g, k, _⟩ := hL; rw [g.len, k]
  unfold vc6
  refine t22 ⟨_, rfl, t22 ⟨_, rfl, s13 ⟨true, rfl, ?_⟩⟩⟩
  refine vif_mk (fun g => by simp at g) fun _ => vif_mk (fun g => by simp at g) fun _ => vif_mk (fun g => by simp at g) fun _ => ?_
  generalize hh9 : h ++ [zeroB] ++ [zeroB] = h9
  have hl3 : (h ++ [zeroB]).length = h.length + 1 := by simp
  have hl9 : h9.length = h.length + 2 := by rw [← hh9]; simp
  have hx9 : Ext h h9 := by rw [← hh9]; exact (Ext.app _ _).trans (Ext.app _ _)
  have hs9 : h9[h.length]? = some zeroB := by rw [← hh9]; simp
  have ht9 : h9[h.length + 1]? = some zeroB := by
    rw [← hh9, List.getElem?_append_right (by simp)]; simp
  rw [hl3]
  have fin : ∀ (h14 : Heap) (i : Nat), i ≤ 60 → (∃ has done mark, StR h14 h.length h9.length has done mark ∧ Vld has done mark ∧ done.length ≤ i ∧ Keeps (Frm h.length h9.length) h9 h14) → _ :=
    fun h14 i hi ⟨has, done, mark, S, V, hd, K⟩ => makes_tail (Q := fun v _ => v = AV.bool true) S V (by omega) (by omega) (pt := h.length + 1) (by omega) (by omega) (K _ _ (fun h3 => by rcases h3 with h3 | h3 <;> omega) ht9) (fun _ => rfl)
  refine ⟨fun xs h14 => ∃ i : Nat, xs = [.int .i64 i] ∧ i ≤ 60 ∧ h9.length ≤ h14.length ∧ ∃ has done mark, StR h14 h.length h9.length has done mark ∧ Vld has done mark ∧ done.length ≤ i ∧ Keeps (Frm h.length h9.length) h9 h14,
    fun xs _ => match xs with | [.int _ i] => (l.length - i).toNat | _ => 0,
    ⟨0, rfl, by omega, Nat.le_refl _, false, [], zeroD, fresh_st hs9 (by omega) (Nat.le_refl _), ⟨by simp, by simp, fun _ => rfl⟩, by simp, .refl _ _⟩, ?_⟩
  rintro i h14 ⟨i', hx, hi, l14, hst⟩
  simp only [List.cons.injEq, AV.int.injEq, true_and, and_true] at hx
  subst hx
  refine vif_mk (fun g1 => ?_) (fun _ => fin h14 i' hi hst)
  refine vif_mk (fun g2 => ?_) (fun _ => fin h14 i' hi hst)
  simp only [decide_eq_true_eq] at g1 g2
  obtain ⟨has, done, mark, S, V, hd, K⟩ := hst
  have kin : Keeps (Frm h.length h9.length) h h14 := fun b B hb hB => K b B hb (hx9 _ _ hB)
  have hcold : ∀ b, b < h.length → ¬ Frm h.length h9.length b := fun b hb h3 => by rcases h3 with h3 | h3 <;> omega
  obtain ⟨L, g0, hLl, he0⟩ := hL
  have g : HasL edE h14 q L := kin.hasL (fun s hs => hcold _ (HasL.live g0 s hs)) g0
  refine HasL.idx (E := edE) g (by omega) (by omega) fun pp x hx hc => ?_
  have hx' : L[i']? = some x := by simpa using hx
  have hil : i' < l.length := by omega
  have hdd : l[i']? = some l[i'] := List.getElem?_eq_getElem hil
  have hR0 := he0 i' x _ hx' hdd
  have hR : EdR h14 x l[i'] := kin.edR (fun s hs => hcold _ (HasL.live hR0.2.2.2 s hs)) hR0
  refine ⟨x.1, x.2.1, x.2.2.1, x.2.2.2, hc, ?_⟩
  refine s12 (l := l[i'].2.2.2) hR.2.2.2 fun b _ => ⟨b, rfl, ?_⟩
  have next : ∀ (h29 : Heap), h9.length ≤ h29.length → (∃ has done mark, StR h29 h.length h9.length has done mark ∧ Vld has done mark ∧ done.length ≤ i' + 1 ∧ Keeps (Frm h.length h9.length) h9 h29) → _ := fun h29 hl29 hst2 =>
    (⟨trivial, ⟨i' + 1, by rw [wrapK_i64 ⟨by omega, by omega⟩]; simp, by omega, hl29, hst2⟩, by rw [wrapK_i64 ⟨by omega, by omega⟩]; omega⟩ :
      (True) ∧ (∃ i : Nat, [AV.int .i64 (wrapK .i64 ((i' : Int) + 1))] = [.int .i64 i] ∧ i ≤ 60 ∧ h9.length ≤ h29.length ∧ ∃ has done mark, StR h29 h.length h9.length has done mark ∧ Vld has done mark ∧ done.length ≤ i ∧ Keeps (Frm h.length h9.length) h9 h29) ∧ ((l.length : Int) - wrapK .i64 ((i' : Int) + 1)).toNat < ((l.length : Int) - (i' : Int)).toNat)
  refine vif_mk (fun g3 => ?_) (fun _ => next h14 l14 ⟨has, done, mark, S, V, by omega, K⟩)
  refine HasL.idx (E := edE) g (by omega) (by omega) fun pp2 y hy hc2 => ?_
  rw [hx] at hy
  cases hy
  refine ⟨x.1, x.2.1, x.2.2.1, x.2.2.2, hc2, ?_⟩
  have hnp : ∀ s, x.2.2.2 = some s → s.b ≠ h.length := by
    intro s hs heq
    have := HasL.live hR0.2.2.2 s hs
    omega
  refine t23 (e := x) S hR hnp (by omega) (fun v _ _ => ⟨v, rfl, next h14 l14 ⟨has, done, mark, S, V, by omega, K⟩⟩) (fun h29 hyes S29 K29 l29 => ⟨0, rfl, next h29 (by omega) ⟨_, _, _, S29, V.step hyes, ?_, K.trans K29⟩⟩)
  unfold nDone
  split
  · simp; omega
  · omega)
end
end Go.Proofs.Ytceplmmmlindnaa

/- Numbers as bytes: what the functions make; slices that are appended to. -/
namespace Go.Proofs.Ytceplmmmlindnaa
open Go.Ab
set_option linter.unusedVariables false
set_option linter.unusedSimpArgs false

def byE : Enc UInt8 := ⟨1, fun b => [.int .u8 b.toNat], fun _ => rfl, by omega, fun _ => rfl⟩
def intE : Enc Int := ⟨1, fun n => [.int .i64 n], fun _ => rfl, by omega, fun _ => rfl⟩
def slE : Enc (Option SL) := ⟨1, fun q => [.sl q], fun _ => rfl, by omega, fun _ => rfl⟩
theorem byE_all {l : Bs} : byE.all l = byteAVs l := by
  induction l with
  | nil => rfl
  | cons x l ih => rw [Enc.all_cons, ih]; rfl
theorem byAV_len {l : Bs} : (byteAVs l).length = l.length := by simp [byteAVs]

/-- A slice of a list that may be appended to. -/
def App {α : Type} (E : Enc α) (h : Heap) (q : Option SL) (l : List α) : Prop :=
  (q = none ∧ l = []) ∨ ∃ a o, q = some ⟨a, 0, l.length, l.length, o⟩ ∧ (o = 0 ∨ o = E.sz) ∧ h[a]? = some (.cells (E.all l) true)
/-- .. that was not there. -/
def New {α : Type} (E : Enc α) (h h' : Heap) (q : Option SL) (l : List α) : Prop := Ext h h' ∧ App E h' q l ∧ ∀ s, q = some s → h.length ≤ s.b

section
variable {α : Type} {E : Enc α} {h h' : Heap} {q : Option SL} {l m : List α}
theorem App.hasL (A : App E h q l) : HasL E h q l := by
  rcases A with ⟨rfl, rfl⟩ | ⟨a, o, rfl, ho, hb⟩
  · rfl
  · refine ⟨rfl, Nat.le_refl _, ho, ?_⟩
    rw [cellsAt_mk (p := ⟨a, 0⟩) hb (by simp [Enc.all_length])]
    simp [← Enc.all_length]
theorem App.keeps {X : Nat → Prop} (A : App E h q l) (K : Keeps X h h') (hq : ∀ s, q = some s → ¬ X s.b) : App E h' q l := by
  rcases A with ⟨rfl, rfl⟩ | ⟨a, o, rfl, ho, hb⟩
  · exact .inl ⟨rfl, rfl⟩
  · exact .inr ⟨a, o, rfl, ho, K _ _ (hq _ rfl) hb⟩
theorem App.ext (A : App E h q l) (K : Ext h h') : App E h' q l := A.keeps (X := fun _ => False) (keeps_of_ext K) (fun _ _ h => h)
theorem App.mk {a o : Nat} {n : Nat} (hn : n = l.length) (ho : o = 0 ∨ o = E.sz) (hb : h[a]? = some (.cells (E.all l) true)) : App E h (some ⟨a, 0, n, n, o⟩) l := by
  subst hn; exact .inr ⟨a, o, rfl, ho, hb⟩

theorem App.append0 {by' : Nat} {K : Option SL → Heap → Prop} (A : App E h q l) (hb : (l.length + m.length) * by' ≤ 140737488355328)
    (hK : ∀ q' h', App E h' q' (l ++ m) → Keeps (fun b => ∃ s, q = some s ∧ s.b = b) h h' → h.length ≤ h'.length → (∀ s', q' = some s' → h.length ≤ s'.b ∨ ∃ s, q = some s ∧ s.b = s'.b) → K q' h') : PAppend E.sz by' q m.length (E.all m) h K := by
  refine ⟨by rw [Enc.all_length], ?_⟩
  rcases A with ⟨rfl, rfl⟩ | ⟨a, o, rfl, ho, hb5⟩
  · simp only
    split
    · rename_i hm
      have : m = [] := List.eq_nil_of_length_eq_zero hm
      subst this
      exact hK _ _ (.inl ⟨rfl, rfl⟩) (.refl _ _) (Nat.le_refl _) (fun s' h => by cases h)
    · refine ⟨by simpa using hb, E.pos, hK _ _ (App.mk (by simp) (.inr rfl) (by simp)) (keeps_of_ext (Ext.app _ _)) (by simp) (fun s' h => by cases h; exact .inl (Nat.le_refl _))⟩
  · simp only
    have hset : ∀ B : Blk, Keeps (fun b => ∃ s' : SL, some (⟨a, 0, l.length, l.length, o⟩ : SL) = some s' ∧ s'.b = b) h (h.set a B) := by
      intro B b C hb hC
      rw [List.getElem?_set, if_neg]
      · exact hC
      · intro he; exact hb ⟨_, rfl, he⟩
    split
    · rename_i hle
      have hm : m.length = 0 := by omega
      have : m = [] := List.eq_nil_of_length_eq_zero hm
      subst this
      rw [hb5]
      simp only
      have e0 : E.all ([] : List α) = [] := rfl
      refine ⟨by simp [Enc.all_length, e0], hK _ _ (App.mk (by simp) ho ?_) (hset _) (by simp) (fun s' h => by cases h; exact .inr ⟨_, rfl, rfl⟩)⟩
      have hlt := lt_of_get hb5
      rw [List.getElem?_set_self hlt]
      simp [Enc.all, splice, List.take_append_drop]
    · have hold : cellsAt h ⟨a, 0⟩ (l.length * E.sz) = some (E.all l) := by
        rw [cellsAt_mk (p := ⟨a, 0⟩) hb5 (by simp [Enc.all_length])]
        simp [← Enc.all_length]
      refine ⟨hb, E.pos, ?_⟩
      rw [hold, hb5]
      simp only
      rcases ho with rfl | rfl
      · rw [if_pos rfl]
        exact hK _ _ (App.mk (by simp) (.inr rfl) (by simp [Enc.all_append])) (keeps_of_ext (Ext.app _ _)) (by simp) (fun s' h => by cases h; exact .inl (Nat.le_refl _))
      · have h0' : ¬ E.sz = 0 := by have := E.pos; omega
        rw [if_neg h0']
        refine ⟨trivial, rfl, hK _ _ (App.mk (by simp) (.inr rfl) ?_) ((hset _).trans (keeps_of_ext (Ext.app _ _))) (by simp) (fun s' h => by cases h; exact .inl (Nat.le_refl _))⟩
        rw [List.getElem?_append_right (by simp)]
        simp [Enc.all_append]
theorem App.append {src : Option SL} {by' : Nat} {K : Option SL → Heap → Prop} (A : App E h q l) (H : HasL E h src m) (hb : (l.length + m.length) * by' ≤ 140737488355328)
    (hK : ∀ q' h', App E h' q' (l ++ m) → Keeps (fun b => ∃ s, q = some s ∧ s.b = b) h h' → h.length ≤ h'.length → (∀ s', q' = some s' → h.length ≤ s'.b ∨ ∃ s, q = some s ∧ s.b = s'.b) → K q' h') : PAppendS E.sz by' q src h K := by
  refine ⟨E.all m, H.cells, ?_⟩
  rw [H.len]
  exact A.append0 hb hK

theorem New.hasL (N : New E h h' q l) : HasL E h' q l := N.2.1.hasL
theorem New.ext {h2 : Heap} (N : New E h h' q l) (K : Ext h' h2) : New E h h2 q l := ⟨N.1.trans K, N.2.1.ext K, N.2.2⟩
theorem New.of {h0 : Heap} (N : New E h h' q l) (K : Ext h0 h) : New E h0 h' q l := ⟨K.trans N.1, N.2.1, fun s hs => by have := N.2.2 s hs; have := K.len; omega⟩
/-- One more piece behind what was made. -/
theorem New.append0 {by' : Nat} {K : Option SL → Heap → Prop} (N : New E h h' q l) (hb : (l.length + m.length) * by' ≤ 140737488355328)
    (hK : ∀ q' h2, New E h h2 q' (l ++ m) → K q' h2) : PAppend E.sz by' q m.length (E.all m) h' K := by
  refine N.2.1.append0 hb fun q' h2 A2 K2 hl hq => hK q' h2 ⟨?_, A2, ?_⟩
  · intro b B hB
    exact K2 b B (fun ⟨s, a1, a2⟩ => by have := N.2.2 s a1; have := lt_of_get hB; omega) (N.1 _ _ hB)
  · intro s hs
    have := N.1.len
    rcases hq s hs with a | ⟨s', a1, a2⟩
    · omega
    · have := N.2.2 s' a1; omega
theorem New.append {src : Option SL} {by' : Nat} {K : Option SL → Heap → Prop} (N : New E h h' q l) (H : HasL E h' src m) (hb : (l.length + m.length) * by' ≤ 140737488355328)
    (hK : ∀ q' h2, New E h h2 q' (l ++ m) → K q' h2) : PAppendS E.sz by' q src h' K := by
  refine ⟨E.all m, H.cells, ?_⟩
  rw [H.len]
  exact N.append0 hb hK
theorem New.mk1 {c : List AV} {n : Nat} (hn : n = l.length) (hc : c = E.all l) : New E h (h ++ [.cells c true]) (some ⟨h.length, 0, n, n, 0⟩) l :=
  ⟨.app _ _, App.mk hn (.inl rfl) (by rw [← hc]; simp), fun s hs => by cases hs; exact Nat.le_refl _⟩
theorem New.none : New E h h none ([] : List α) := ⟨.refl _, .inl ⟨rfl, rfl⟩, fun s hs => by cases hs⟩
end

/-- A byte put into some. -/
theorem splice_set {l : Bs} {i : Nat} {b : UInt8} (hi : i < l.length) : splice (byteAVs l) i [.int .u8 b.toNat] = byteAVs (l.set i b) := by
  unfold splice byteAVs
  rw [List.set_eq_take_append_cons_drop, if_pos hi]
  simp
theorem shr8 {n : Nat} : shrK .i64 (n : Int) 8 = ((n / 256 : Nat) : Int) := by
  have e : min ((8 : Int).toNat) IntKind.i64.bits = 8 := by decide
  simp only [shrK, e]
  rw [Int.fdiv_eq_ediv_of_nonneg _ (by decide)]
  simp
theorem shrB {n k : Nat} (hk : k ≤ 7) : shrK .i64 (n : Int) ((8 * k : Nat) : Int) = ((n / 256 ^ k : Nat) : Int) := by
  have e : min (((8 * k : Nat) : Int).toNat) IntKind.i64.bits = 8 * k := by
    have : IntKind.i64.bits = 64 := rfl
    rw [this]; omega
  simp only [shrK, e]
  rw [Int.fdiv_eq_ediv_of_nonneg _ (Int.pow_nonneg (by decide))]
  have : (256 : Nat) ^ k = 2 ^ (8 * k) := by rw [Nat.pow_mul]
  rw [this]
  simp
theorem u8c {n : Nat} : wrapK .u8 (n : Int) = ((UInt8.ofNat (n % 256)).toNat : Int) := by
  rw [wrapK_u8]; simp

section
variable {h : Heap} {Q : AV → Heap → Prop}
theorem t131 {n : Nat} (hn : n < 9223372036854775808) (hQ : Q (.int .i64 (wid n : Nat)) h) : AC Try.prog 131 [.int .i64 n] h Q := ac131 (by
  have hw : wid n ≤ 8 := (wid_lt 8 n (by omega)).2 (by omega)
  unfold vc131
  rw [shr8]
  refine ⟨fun xs h6 => h6 = h ∧ ∃ m s : Nat, xs = [.int .i64 m, .int .i64 s] ∧ wid n = s + (if m = 0 then 0 else wid m), fun xs _ => match xs with | [.int _ m, _] => m.toNat | _ => 0, ⟨rfl, n / 256, 1, rfl, ?_⟩, ?_⟩
  · rw [wid]
    split
    · rename_i h; rw [Nat.div_eq_of_lt h]; rfl
    · rename_i h; rw [if_neg (by omega)]
  rintro m s h6 ⟨rfl, m', s', hx, hw2⟩
  simp only [List.cons.injEq, AV.int.injEq, true_and, and_true] at hx
  obtain ⟨rfl, rfl⟩ := hx
  refine vif_mk (fun h1 => ?_) (fun h1 => ?_)
  · simp only [decide_eq_true_eq] at h1
    rw [if_neg (by omega)] at hw2
    have := wid_pos (n := m')
    rw [shr8, wrapK_i64 ⟨by omega, by omega⟩]
    refine ⟨trivial, ⟨rfl, m' / 256, s' + 1, by simp, ?_⟩, by simp only; omega⟩
    rw [hw2, wid]
    split
    · rename_i h; rw [Nat.div_eq_of_lt h]; rfl
    · rename_i h; rw [if_neg (by omega)]; omega
  · simp only [decide_eq_false_iff_not] at h1
    have : m' = 0 := by omega
    subst this
    rw [if_pos rfl] at hw2
    rw [hw2] at hQ; exact hQ)

theorem zeros_flat {k : Nat} : (List.replicate k [AV.int .u8 0]).flatten = byteAVs (List.replicate k 0) := by
  induction k with
  | zero => rfl
  | succ k ih => rw [List.replicate_succ, List.flatten_cons, ih]; rfl

/-- The block that is being filled, from below. -/
theorem t132 {n k : Nat} (hk : 1 ≤ k ∧ k ≤ 8) (hQ : ∀ q h', New byE h h' q (beL n k) → Q (.sl q) h') : AC Try.prog 132 [.int .i64 n, .int .i64 k] h Q := ac132 (by
  unfold vc132
  refine ⟨by omega, by omega, by simp; omega, by simp only [maxI]; omega, ?_⟩
  simp only [Int.toNat_natCast]
  rw [zeros_flat]
  have fin : ∀ cur : Bs, cur.length = k → (∀ j, j < k → cur[j]? = (beL n k)[j]?) → Q (.sl (some ⟨h.length, 0, k, k, 0⟩)) (h ++ [.cells (byteAVs cur) true]) := by
    intro cur hl hc
    have : cur = beL n k := by
      refine List.ext_getElem? fun j => ?_
      rcases Nat.lt_or_ge j k with hj | hj
      · exact hc j hj
      · rw [List.getElem?_eq_none (by omega), List.getElem?_eq_none (by rw [beL_len]; omega)]
    subst this
    exact hQ _ _ (New.mk1 (E := byE) (beL_len _ _).symm byE_all.symm)
  refine ⟨fun xs h8 => ∃ (i : Nat) (cur : Bs), xs = [.int .i64 i] ∧ i ≤ k ∧ h8 = h ++ [.cells (byteAVs cur) true] ∧ cur.length = k ∧ ∀ j, j < i → cur[j]? = (beL n k)[j]?, fun xs _ => match xs with | [.int _ i] => (k - i).toNat | _ => 0, ⟨0, _, rfl, by omega, rfl, by simp, fun j hj => by omega⟩, ?_⟩
  rintro i h8 ⟨i', cur, hx, hi, rfl, hl, hc⟩
  simp only [List.cons.injEq, AV.int.injEq, true_and, and_true] at hx
  subst hx
  refine vif_mk (fun h1 => ?_) (fun h1 => ?_)
  · replace h1 := of_decide_eq_true h1
    simp only [slLen] at h1
    have hik : i' < k := by omega
    rw [wrapK_i64 (n := (k : Int) - 1) ⟨by omega, by omega⟩, wrapK_i64 (n := (k : Int) - 1 - i') ⟨by omega, by omega⟩, wrapK_i64 (n := 8 * ((k : Int) - 1 - i')) ⟨by omega, by omega⟩]
    have e8 : (8 * ((k : Int) - 1 - i')) = ((8 * (k - 1 - i') : Nat) : Int) := by omega
    rw [e8, shrB (by omega), u8c, wrapK_i64 ⟨by omega, by omega⟩]
    refine need_mk (by simp; omega) ⟨by omega, by omega, ?_⟩
    unfold PStore
    simp only [Int.toNat_natCast, Nat.mul_one, Nat.zero_add]
    rw [List.getElem?_append_right (by omega)]
    simp only [Nat.sub_self, List.getElem?_cons_zero]
    refine ⟨by rw [byAV_len, hl]; simp; omega, trivial, ⟨i' + 1, cur.set i' (UInt8.ofNat (n / 256 ^ (k - 1 - i') % 256)), by simp, by omega, ?_, by simp [hl], fun j hj => ?_⟩, by omega⟩
    · rw [splice_set (by omega)]
      simp
    · rw [List.getElem?_set]
      split
      · rename_i he; subst he
        rw [if_pos (by omega), beL_get k n i' hik]
      · exact hc j (by omega)
  · replace h1 := of_decide_eq_false h1
    simp only [slLen] at h1
    have : i' = k := by omega
    subst this
    exact fin cur hl hc)
end
end Go.Proofs.Ytceplmmmlindnaa

/- States of either kind (the engine's, the document's), looked at; Check, Goes, Done, Edits. -/
namespace Go.Proofs.Ytceplmmmlindnaa
open Go.Ab
set_option linter.unusedVariables false
set_option linter.unusedSimpArgs false

/-- What a state at p says. -/
def StV (h : Heap) (p : Nat) (has : Bool) (done : List ED) (mark : ED) : Prop :=
  ∃ (qd : Option SL) (m : EV), h[p]? = some (.cells [.sl qd, .int .i64 m.1, .int .i64 m.2.1, .int .i64 m.2.2.1, .sl m.2.2.2, .bool has] true) ∧ InL h qd done ∧ EdR h m mark ∧ (∀ d ∈ done, d.2.2.2.length ≤ 256) ∧ mark.2.2.2.length ≤ 256
theorem InL.ext {h h' : Heap} {q : Option SL} {l : List ED} (E : InL h q l) (K : Ext h h') : InL h' q l := E.keeps (X := fun _ => False) (keeps_of_ext K) (fun _ _ h => h)
theorem InL.len {h : Heap} {q : Option SL} {l : List ED} (E : InL h q l) : slLen q = l.length := by obtain ⟨L, g, k, _⟩ := E; rw [g.len, k]
theorem EdL.inL {h : Heap} {n : Nat} {q : Option SL} {l : List ED} (E : EdL h n q l) : InL h q l := by
  obtain ⟨L, g, hl, he, _⟩ := E
  exact ⟨L, Acc.hasL g, hl, fun j e d h1 h2 => (he j e d h1 h2).1⟩
theorem StV.ext {h h' : Heap} {p : Nat} {has : Bool} {done : List ED} {mark : ED} (S : StV h p has done mark) (K : Ext h h') : StV h' p has done mark := by
  obtain ⟨qd, m, h1, h2, h3, h4, h5⟩ := S
  exact ⟨qd, m, K _ _ h1, h2.ext K, ⟨h3.1, h3.2.1, h3.2.2.1, h3.2.2.2.mono K⟩, h4, h5⟩

section
variable {h : Heap} {Q : AV → Heap → Prop} {p : Nat} {has : Bool} {done : List ED} {mark : ED}

theorem v29 (S : StV h p has done mark) (hQ : Q (.int .i64 done.length) h) : AC Try.prog 29 [.ptr (some ⟨p, 0⟩)] h Q := ac29 (by
  obtain ⟨qd, m, h1, h2, _⟩ := S
  unfold vc29
  refine ⟨qd, cells6 h1 (o := 0) (k := 1) (by simp), ?_⟩
  rw [h2.len]; exact hQ)

theorem v27 (S : StV h p has done mark) (hQ : ∀ (e : EV) h', Ext h h' → EdR h' e mark → (∀ s, e.2.2.2 = some s → h.length ≤ s.b) → Q (.tup [evV e, .bool has]) h') : AC Try.prog 27 [.ptr (some ⟨p, 0⟩)] h Q := ac27 (by
  obtain ⟨qd, m, h1, h2, h3, h7, h8⟩ := S
  unfold vc27
  refine ⟨m.1, m.2.1, m.2.2.1, m.2.2.2, cells6 h1 (o := 1) (k := 4) (by simp), ?_⟩
  refine ⟨has, cells6 h1 (o := 5) (k := 1) (by simp), ?_⟩
  refine t80 (e := m) h3 h8 fun e' h' hx hR hs g1 g2 g3 => ?_
  refine ⟨e'.1, e'.2.1, e'.2.2.1, e'.2.2.2, rfl, ⟨has, cells6 (hx _ _ h1) (o := 5) (k := 1) (by simp), rfl⟩, ⟨has, cells6 (hx _ _ h1) (o := 5) (k := 1) (by simp), rfl⟩, ?_⟩
  exact hQ e' h' hx hR hs)

theorem v26 (S : StV h p has done mark) (hd : done.length ≤ 100) (hQ : ∀ q h', Ext h h' → EdL h' h.length q (edits has done mark) → Q (.sl q) h') : AC Try.prog 26 [.ptr (some ⟨p, 0⟩)] h Q := ac26 (by
  unfold vc26
  refine v29 S ⟨_, rfl, ?_⟩
  refine ⟨fun xs h9 => ∃ (q : Option SL) (i : Nat), xs = [.sl q, .int .i64 i] ∧ i ≤ done.length ∧ Ext h h9 ∧ EdL h9 h.length q (done.take i), fun xs _ => match xs with | [_, .int _ i] => (done.length - i).toNat | _ => 0,
    ⟨none, 0, rfl, by omega, .refl _, by simpa using EdL.nil⟩, ?_⟩
  rintro q i h9 ⟨q', i', hx, hi, hext, hE⟩
  simp only [List.cons.injEq, AV.int.injEq, AV.sl.injEq, true_and, and_true] at hx
  obtain ⟨rfl, rfl⟩ := hx
  have S9 := S.ext hext
  refine vif_mk (fun h1 => ?_) (fun h1 => ?_)
  · simp only [decide_eq_true_eq] at h1
    obtain ⟨qd, m, b1, ⟨L, g, hL, he⟩, b3, b7, b8⟩ := S9
    refine ⟨qd, cells6 b1 (o := 0) (k := 1) (by simp), ?_⟩
    refine HasL.idx (E := edE) g (by omega) (by omega) fun pp x hx hc => ?_
    have hx' : L[i']? = some x := by simpa using hx
    have hdl : i' < done.length := by omega
    have hd' : done[i']? = some done[i'] := List.getElem?_eq_getElem hdl
    have hR := he i' x _ hx' hd'
    refine ⟨x.1, x.2.1, x.2.2.1, x.2.2.2, hc, ?_⟩
    refine t80 (e := x) hR (b7 _ (List.getElem_mem _)) fun e' h18 hx2 hR2 hs g1 g2 g3 => ?_
    refine ⟨e'.1, e'.2.1, e'.2.2.1, e'.2.2.2, rfl, ?_⟩
    have hlen9 := hext.len
    refine EdL.push (hE.ext hx2) (by have := hx2.len; omega) hR2 ?_ (by simp; omega) fun q2 h26 hE2 K2 hl2 => ?_
    · intro s hs'
      have := hs s hs'
      refine ⟨by omega, fun s' hs2 => ?_⟩
      have := hE.live s' hs2
      omega
    · rw [wrapK_i64 ⟨by omega, by omega⟩]
      refine ⟨trivial, ⟨q2, i' + 1, by simp, by omega, ?_, ?_⟩, ?_⟩
      · intro b B hB
        have hlt := lt_of_get hB
        exact K2 b B (by omega) (hx2 _ _ (hext _ _ hB))
      · rw [List.take_add_one, hd']; exact hE2
      · simp only; omega
  · simp only [decide_eq_false_iff_not] at h1
    have hi' : i' = done.length := by omega
    subst hi'
    rw [List.take_length] at hE
    refine v27 S9 fun e' h28 hx2 hR2 hs => ⟨e'.1, e'.2.1, e'.2.2.1, e'.2.2.2, has, rfl, ?_⟩
    have hlen9 := hext.len
    cases has with
    | true =>
      simp only [vif]
      refine EdL.push (hE.ext hx2) (by have := hx2.len; omega) hR2 ?_ (by omega) fun q2 h26 hE2 K2 hl2 => ?_
      · intro s hs'
        have := hs s hs'
        refine ⟨by omega, fun s' hs2 => ?_⟩
        have := hE.live s' hs2
        omega
      · refine hQ q2 h26 ?_ (by simpa [edits] using hE2)
        intro b B hB
        have hlt := lt_of_get hB
        exact K2 b B (by omega) (hx2 _ _ (hext _ _ hB))
    | false =>
      simp only [vif]
      exact hQ _ _ (hext.trans hx2) (by simpa [edits] using hE.ext hx2))

/-- Done. -/
def doneAt (done : List ED) (n : Int) : ED := if 0 ≤ n then (done[n.toNat]?).getD zeroD else zeroD
def isDone (done : List ED) (n : Int) : Bool := decide (0 ≤ n) && decide (n < done.length)
theorem v30 (S : StV h p has done mark) {n : Int} (hQ : ∀ (e : EV) h', Ext h h' → EdR h' e (doneAt done n) → Q (.tup [evV e, .bool (isDone done n)]) h') : AC Try.prog 30 [.ptr (some ⟨p, 0⟩), .int .i64 n] h Q := ac30 (by
  have S0 := S
  obtain ⟨qd, m, b1, b2, b3, b7, b8⟩ := S
  have hlen := b2.len
  obtain ⟨L, g, hL, he⟩ := b2
  have hno : isDone done n = false → Q (.tup [.agg [.int .i64 0, .int .i64 0, .int .i64 0, .sl none], .bool false]) h := by
    intro hf
    have := hQ zeroV h (.refl _) (by
      have : doneAt done n = zeroD := by
        unfold doneAt
        split
        · rename_i h0
          have : done.length ≤ n.toNat := by
            simp only [isDone, Bool.and_eq_false_iff, decide_eq_false_iff_not] at hf
            omega
          rw [List.getElem?_eq_none this]; rfl
        · rfl
      rw [this]; exact ⟨rfl, rfl, rfl, rfl⟩)
    rw [hf] at this; exact this
  unfold vc30
  refine vif_mk (fun h1 => hno (by simp only [decide_eq_true_eq] at h1; simp [isDone]; omega)) fun h1 => ?_
  refine v29 S0 ⟨_, rfl, vif_mk (fun h2 => hno (by simp only [decide_eq_true_eq] at h2; simp [isDone]; omega)) fun h2 => ?_⟩
  simp only [decide_eq_false_iff_not] at h1 h2
  refine ⟨qd, cells6 b1 (o := 0) (k := 1) (by simp), ?_⟩
  refine HasL.idx (E := edE) g (by omega) (by omega) fun pp x hx hc => ?_
  have hdl : n.toNat < done.length := by omega
  have hd' : done[n.toNat]? = some done[n.toNat] := List.getElem?_eq_getElem hdl
  have hR := he _ x _ hx hd'
  refine ⟨x.1, x.2.1, x.2.2.1, x.2.2.2, hc, t80 (e := x) hR (b7 _ (List.getElem_mem _)) fun e' h' hx2 hR2 hs g1 g2 g3 => ⟨e'.1, e'.2.1, e'.2.2.1, e'.2.2.2, rfl, ?_⟩⟩
  have e1 : isDone done n = true := by simp [isDone]; omega
  have e2 : doneAt done n = done[n.toNat] := by
    unfold doneAt
    rw [if_pos (by omega), hd']; rfl
  have := hQ e' h' hx2 (by rw [e2]; exact hR2)
  rw [e1] at this; exact this)

theorem u64 {a b : Int} (hQ : Q (.bool (atOk a b)) h) : AC Try.prog 64 [.agg [.int .i64 a, .int .i64 b]] h Q := ac64 (by
  unfold vc64
  have key : ∀ x : Bool, x = atOk a b → Q (.bool x) h := fun x hx => hx ▸ hQ
  refine vif_mk (fun h1 => vif_mk (fun h2 => vif_mk (fun h3 => key _ ?_) fun h3 => key _ ?_) fun h2 => key _ ?_) fun h1 => key _ ?_
  all_goals simp only [decide_eq_true_eq, decide_eq_false_iff_not] at *
  all_goals unfold atOk
  · have e1 : decide (0 ≤ a) = true := by simp; omega
    have e2 : decide (a < 65536) = true := by simp; omega
    have e3 : decide (0 ≤ b) = true := by simp; omega
    rw [e1, e2, e3]; simp
  all_goals
    symm
    simp only [Bool.and_eq_false_iff, decide_eq_false_iff_not]
    omega)

theorem u81 (S : StV h p has done mark) {e : EV} {d : ED} (hR : EdR h e d) (hQ : Q (.bool (goes has done mark d)) h) : AC Try.prog 81 [.ptr (some ⟨p, 0⟩), evV e] h Q := ac81 (by
  obtain ⟨qd, m, h1, h2, h3, h7, h8⟩ := S
  obtain ⟨r1, r2, r3, hL⟩ := hR
  have key : ∀ b : Bool, b = goes has done mark d → Q (.bool b) h := fun b hb => hb ▸ hQ
  have hlen := h2.len
  unfold vc81
  refine ⟨qd, cells6 h1 (o := 0) (k := 1) (by simp), ?_⟩
  rw [r1, r2, r3, hlen]
  refine vif_mk (fun g1 => vif_mk (fun g2 => key _ ?_) fun g2 => ?_) fun g1 => key _ ?_
  · simp [goes, g1, g2]
  · refine ⟨has, cells6 h1 (o := 5) (k := 1) (by simp), ?_⟩
    refine vif_mk (fun g3 => key _ ?_) fun g3 => ?_
    · simp [goes, g1, g3]
    · refine ⟨m.2.2.1, ?_, key _ ?_⟩
      · have := cells6 h1 (o := 3) (k := 1) (by simp)
        simpa using this
      · have h3' : m.2.2.1 = mark.2.2.1 := h3.2.2.1
        simp [goes, g1, g2, g3, h3']
  · simp [goes, g1])
end
end Go.Proofs.Ytceplmmmlindnaa
