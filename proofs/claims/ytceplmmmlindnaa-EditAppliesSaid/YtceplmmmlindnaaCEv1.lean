/- Running the abstract machine by the kernel: tries, lists, forced numbers. -/
import Derived.Test.YtceplmmmlindnaaCAb22
namespace Go.Ab
set_option linter.unusedSimpArgs false
set_option linter.unusedVariables false

/-- A list by its places. -/
inductive T (α : Type) where
  | e
  | n (v : α) (l r : T α)

namespace T
variable {α : Type}
def get : T α → Nat → Option α
  | .e, _ => none
  | .n v l r, i => match i with
    | 0 => some v
    | i + 1 => match Nat.beq (i % 2) 0 with
      | true => l.get (i / 2)
      | false => r.get (i / 2)
def put : T α → Nat → α → (T α → Bool) → Bool
  | .e, _, _, _ => false
  | .n v l r, i, x, k => match i with
    | 0 => k (.n x l r)
    | i + 1 => match Nat.beq (i % 2) 0 with
      | true => l.put (i / 2) x fun l' => k (.n v l' r)
      | false => r.put (i / 2) x fun r' => k (.n v l r')
def add : T α → Nat → α → (T α → Bool) → Bool
  | .e, i, x, k => match i with
    | 0 => k (.n x .e .e)
    | _ + 1 => false
  | .n v l r, i, x, k => match i with
    | 0 => false
    | i + 1 => match Nat.beq (i % 2) 0 with
      | true => l.add (i / 2) x fun l' => k (.n v l' r)
      | false => r.add (i / 2) x fun r' => k (.n v l r')

theorem beq_true {i : Nat} (h : Nat.beq i 0 = true) : i = 0 := Nat.eq_of_beq_eq_true h
theorem beq_false {i : Nat} (h : Nat.beq i 0 = false) : i ≠ 0 := Nat.ne_of_beq_eq_false h

theorem put_ok : ∀ {t : T α} {i : Nat} {x : α} {k : T α → Bool}, t.put i x k = true → ∃ t', k t' = true ∧ (t.get i).isSome = true ∧ ∀ j, t'.get j = if j = i then some x else t.get j
  | .e, i, x, k, h => by simp [put] at h
  | .n v l r, 0, x, k, h => ⟨_, h, rfl, fun j => by cases j <;> simp [get]⟩
  | .n v l r, i + 1, x, k, h => by
    simp only [put] at h
    cases hb : Nat.beq (i % 2) 0 <;> rw [hb] at h <;> simp only at h
    · have hb' := beq_false hb
      obtain ⟨t', h1, h2, h3⟩ := put_ok h
      refine ⟨_, h1, by simp only [get, hb]; exact h2, fun j => ?_⟩
      cases j with
      | zero => simp [get]
      | succ j =>
        simp only [get]
        cases hj : Nat.beq (j % 2) 0 with
        | true => have := beq_true hj; simp only; rw [if_neg (by omega)]
        | false =>
          have := beq_false hj
          simp only [h3]
          by_cases hji : j = i
          · subst hji; simp
          · rw [if_neg (by omega), if_neg (by omega)]
    · have hb' := beq_true hb
      obtain ⟨t', h1, h2, h3⟩ := put_ok h
      refine ⟨_, h1, by simp only [get, hb]; exact h2, fun j => ?_⟩
      cases j with
      | zero => simp [get]
      | succ j =>
        simp only [get]
        cases hj : Nat.beq (j % 2) 0 with
        | true =>
          have := beq_true hj
          simp only [h3]
          by_cases hji : j = i
          · subst hji; simp
          · rw [if_neg (by omega), if_neg (by omega)]
        | false => have := beq_false hj; simp only; rw [if_neg (by omega)]

theorem add_ok : ∀ {t : T α} {i : Nat} {x : α} {k : T α → Bool}, t.add i x k = true → ∃ t', k t' = true ∧ ∀ j, t'.get j = if j = i then some x else t.get j
  | .e, 0, x, k, h => ⟨_, h, fun j => by cases j with
      | zero => simp [get]
      | succ j => simp only [get]; cases Nat.beq (j % 2) 0 <;> simp [get]⟩
  | .e, i + 1, x, k, h => by simp [add] at h
  | .n v l r, 0, x, k, h => by simp [add] at h
  | .n v l r, i + 1, x, k, h => by
    simp only [add] at h
    cases hb : Nat.beq (i % 2) 0 <;> rw [hb] at h <;> simp only at h
    · have hb' := beq_false hb
      obtain ⟨t', h1, h3⟩ := add_ok h
      refine ⟨_, h1, fun j => ?_⟩
      cases j with
      | zero => simp [get]
      | succ j =>
        simp only [get]
        cases hj : Nat.beq (j % 2) 0 with
        | true => have := beq_true hj; simp only; rw [if_neg (by omega)]
        | false =>
          have := beq_false hj
          simp only [h3]
          by_cases hji : j = i
          · subst hji; simp
          · rw [if_neg (by omega), if_neg (by omega)]
    · have hb' := beq_true hb
      obtain ⟨t', h1, h3⟩ := add_ok h
      refine ⟨_, h1, fun j => ?_⟩
      cases j with
      | zero => simp [get]
      | succ j =>
        simp only [get]
        cases hj : Nat.beq (j % 2) 0 with
        | true =>
          have := beq_true hj
          simp only [h3]
          by_cases hji : j = i
          · subst hji; simp
          · rw [if_neg (by omega), if_neg (by omega)]
        | false => have := beq_false hj; simp only; rw [if_neg (by omega)]

/-- The tree stands for the list. -/
def For (t : T α) (l : List α) : Prop := ∀ i, t.get i = l[i]?

theorem For.put {t : T α} {l : List α} (H : t.For l) {i : Nat} {x : α} {k : T α → Bool} (h : t.put i x k = true) : ∃ t', k t' = true ∧ t'.For (l.set i x) := by
  obtain ⟨t', h1, h2, h3⟩ := put_ok h
  refine ⟨t', h1, fun j => ?_⟩
  rw [h3, List.getElem?_set]
  rw [H] at h2
  have hl : i < l.length := by
    rcases Nat.lt_or_ge i l.length with h' | h'
    · exact h'
    · simp [List.getElem?_eq_none h'] at h2
  by_cases hj : j = i
  · subst hj; simp [hl]
  · rw [if_neg hj, if_neg (Ne.symm hj), H]

theorem For.add {t : T α} {l : List α} (H : t.For l) {x : α} {k : T α → Bool} (h : t.add l.length x k = true) : ∃ t', k t' = true ∧ t'.For (l ++ [x]) := by
  obtain ⟨t', h1, h3⟩ := add_ok h
  refine ⟨t', h1, fun j => ?_⟩
  rw [h3, List.getElem?_append]
  by_cases hj : j = l.length
  · subst hj; simp
  · rw [if_neg hj, H]
    split
    · rfl
    · rename_i hge
      rw [List.getElem?_eq_none (by omega), List.getElem?_eq_none (by simp; omega)]
end T

/-- Numbers worked out. -/
def fN (n : Nat) (k : Nat → Bool) : Bool := match n with | 0 => k 0 | m + 1 => k (Nat.succ m)
theorem fN_eq (n : Nat) (k : Nat → Bool) : fN n k = k n := by cases n <;> rfl
def fI (n : Int) (k : Int → Bool) : Bool := match n with | .ofNat m => fN m fun m => k (.ofNat m) | .negSucc m => fN m fun m => k (.negSucc m)
theorem fI_eq (n : Int) (k : Int → Bool) : fI n k = k n := by cases n <;> simp only [fI, fN_eq]
def fB (b : Bool) (k : Bool → Bool) : Bool := match b with | true => k true | false => k false
theorem fB_eq (b : Bool) (k : Bool → Bool) : fB b k = k b := by cases b <;> rfl

/-- n from o on. -/
def tk {α : Type} : List α → Nat → Nat → (List α → Bool) → Bool
  | [], o, n, k => match o with | 0 => (match n with | 0 => k [] | _ + 1 => false) | _ + 1 => false
  | x :: c, o, n, k => match o with
    | o + 1 => tk c o n k
    | 0 => match n with | 0 => k [] | n + 1 => tk c 0 n fun l => k (x :: l)
theorem tk_ok {α : Type} : ∀ {c : List α} {o n : Nat} {k : List α → Bool}, tk c o n k = true → o + n ≤ c.length ∧ k ((c.drop o).take n) = true
  | [], 0, 0, k, h => ⟨by simp, h⟩
  | [], 0, n + 1, k, h => by simp [tk] at h
  | [], o + 1, n, k, h => by simp [tk] at h
  | x :: c, o + 1, n, k, h => by
    obtain ⟨h1, h2⟩ := tk_ok (c := c) (o := o) (n := n) (k := k) h
    exact ⟨by simp; omega, by simpa using h2⟩
  | x :: c, 0, 0, k, h => ⟨by simp, h⟩
  | x :: c, 0, n + 1, k, h => by
    obtain ⟨h1, h2⟩ := tk_ok (c := c) (o := 0) (n := n) (k := fun l => k (x :: l)) h
    exact ⟨by simp; omega, by simpa using h2⟩

/-- The one at o. -/
def at1 {α : Type} : List α → Nat → (α → Bool) → Bool
  | [], _, _ => false
  | x :: c, o, k => match o with | 0 => k x | o + 1 => at1 c o k
theorem at1_ok {α : Type} : ∀ {c : List α} {o : Nat} {k : α → Bool}, at1 c o k = true → ∃ x, c[o]? = some x ∧ k x = true
  | [], o, k, h => by simp [at1] at h
  | x :: c, 0, k, h => ⟨x, rfl, h⟩
  | x :: c, o + 1, k, h => at1_ok (c := c) h

/-- Some laid over those from o on. -/
def spl {α : Type} : List α → Nat → List α → (List α → Bool) → Bool
  | [], o, xs, k => match o, xs with | 0, [] => k [] | _, _ => false
  | x :: c, o, xs, k => match o with
    | o + 1 => spl c o xs fun l => k (x :: l)
    | 0 => match xs with | [] => k (x :: c) | y :: ys => spl c 0 ys fun l => k (y :: l)
theorem spl_ok {α : Type} : ∀ {c : List α} {o : Nat} {xs : List α} {k : List α → Bool}, spl c o xs k = true → o + xs.length ≤ c.length ∧ k (splice c o xs) = true
  | [], 0, [], k, h => ⟨by simp, h⟩
  | [], 0, y :: ys, k, h => by simp [spl] at h
  | [], o + 1, [], k, h => by simp [spl] at h
  | [], o + 1, y :: ys, k, h => by simp [spl] at h
  | x :: c, o + 1, xs, k, h => by
    obtain ⟨h1, h2⟩ := spl_ok (c := c) (o := o) (xs := xs) (k := fun l => k (x :: l)) h
    refine ⟨by simp; omega, ?_⟩
    have : splice (x :: c) (o + 1) xs = x :: splice c o xs := by simp [splice, Nat.add_right_comm]
    rw [this]; exact h2
  | x :: c, 0, [], k, h => ⟨by simp, by rw [splice_nil]; exact h⟩
  | x :: c, 0, y :: ys, k, h => by
    obtain ⟨h1, h2⟩ := spl_ok (c := c) (o := 0) (xs := ys) (k := fun l => k (y :: l)) h
    refine ⟨by simp at *; omega, ?_⟩
    have : splice (x :: c) 0 (y :: ys) = y :: splice c 0 ys := by simp [splice]
    rw [this]; exact h2

/-- One list behind the other, worked out. -/
def ap {α : Type} : List α → List α → (List α → Bool) → Bool
  | [], l, k => k l
  | x :: c, l, k => ap c l fun r => k (x :: r)
theorem ap_eq {α : Type} : ∀ (c l : List α) (k : List α → Bool), ap c l k = k (c ++ l)
  | [], l, k => rfl
  | x :: c, l, k => by simp only [ap, ap_eq c l]; rfl
/-- A list worked out. -/
def fL {α : Type} : List α → (List α → Bool) → Bool
  | [], k => k []
  | x :: c, k => fL c fun l => k (x :: l)
theorem fL_eq {α : Type} : ∀ (c : List α) (k : List α → Bool), fL c k = k c
  | [], k => rfl
  | x :: c, k => by simp only [fL, fL_eq c]
/-- A text worked out. -/
def fS : List UInt8 → (List UInt8 → Bool) → Bool
  | [], k => k []
  | x :: c, k => fN x.toNat fun n => fS c fun l => k (UInt8.ofNat n :: l)
theorem fS_eq : ∀ (c : List UInt8) (k : List UInt8 → Bool), fS c k = k c
  | [], k => rfl
  | x :: c, k => by simp only [fS, fS_eq c, fN_eq]; simp
end Go.Ab
