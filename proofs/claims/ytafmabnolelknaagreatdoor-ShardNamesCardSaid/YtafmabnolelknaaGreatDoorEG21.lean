namespace Go.Crc
set_option linter.unusedVariables false
set_option linter.unusedSimpArgs false
abbrev W := BitVec 32
abbrev poly : W := 0xedb88320#32
def step (c : W) : W := (c >>> 1) ^^^ (if c.getLsbD 0 then poly else 0#32)
def steps : Nat → W → W
 | 0, c => c
 | n + 1, c => step (steps n c)
def b1 (d : Bool) : W := if d then 1#32 else 0#32
abbrev Bs := List UInt8
def ofB (b : UInt8) : W := BitVec.ofNat 32 b.toNat
def byteStep (c : W) (b : UInt8) : W := steps 8 (c ^^^ ofB b)
def reg (c : W) (l : Bs) : W := l.foldl byteStep c
def more (s : W) (l : Bs) : W := ~~~ reg (~~~ s) l
def sum (l : Bs) : W := more 0#32 l
def tail (s : W) : Bs := [UInt8.ofNat s.toNat, UInt8.ofNat (s.toNat / 256), UInt8.ofNat (s.toNat / 65536), UInt8.ofNat (s.toNat / 16777216)]
def tbl : List Nat := [0x00000000, 0x1db71064, 0x3b6e20c8, 0x26d930ac, 0x76dc4190, 0x6b6b51f4, 0x4db26158, 0x5005713c, 0xedb88320, 0xf00f9344, 0xd6d6a3e8, 0xcb61b38c, 0x9b64c2b0, 0x86d3d2d4, 0xa00ae278, 0xbdbdf21c]
end Go.Crc
namespace Go.Num
set_option linter.unusedVariables false
set_option linter.unusedSimpArgs false
abbrev Bs := List UInt8
def wid (n : Nat) : Nat := if h : n < 256 then 1 else 1 + wid (n / 256)
termination_by n
decreasing_by omega
theorem wid_pos {n : Nat} : 1 ≤ wid n := by
  unfold wid; split <;> omega
theorem wid_lt : ∀ (k n : Nat), 1 ≤ k → (wid n ≤ k ↔ n < 256 ^ k)
  | 0, n, h => by omega
  | 1, n, _ => by
    unfold wid
    split
    · simp; omega
    · have := wid_pos (n := n / 256)
      constructor
      · intro h; omega
      · intro h; simp at h; omega
  | k + 2, n, _ => by
    unfold wid
    have ih := wid_lt (k + 1) (n / 256) (by omega)
    split
    · rename_i h
      have : 256 ^ 1 ≤ 256 ^ (k + 2) := Nat.pow_le_pow_right (by omega) (by omega)
      constructor
      · intro _; omega
      · intro _; omega
    · have h1 : 256 ^ (k + 2) = 256 * 256 ^ (k + 1) := by rw [Nat.pow_succ]; omega
      have h2 : 1 + wid (n / 256) ≤ k + 2 ↔ wid (n / 256) ≤ k + 1 := by omega
      rw [h2, ih, h1]
      exact Nat.div_lt_iff_lt_mul (by omega) |>.trans (by rw [Nat.mul_comm])
def beL (n : Nat) : Nat → Bs
  | 0 => []
  | k + 1 => beL (n / 256) k ++ [UInt8.ofNat (n % 256)]
def beV (l : Bs) : Nat := l.foldl (fun a b => a * 256 + b.toNat) 0
theorem beL_len : ∀ (k n : Nat), (beL n k).length = k
  | 0, n => rfl
  | k + 1, n => by simp [beL, beL_len k]
theorem beV_snoc {l : Bs} {x : UInt8} : beV (l ++ [x]) = beV l * 256 + x.toNat := by simp [beV]
theorem beV_beL : ∀ (k n : Nat), beV (beL n k) = n % 256 ^ k
  | 0, n => by simp [beL, beV, Nat.mod_one]
  | k + 1, n => by
    rw [beL, beV_snoc, beV_beL k]
    have h1 : (UInt8.ofNat (n % 256)).toNat = n % 256 := by simp
    rw [h1, Nat.pow_succ, Nat.mul_comm (256 ^ k) 256, Nat.mod_mul]
    omega
theorem snoc_ind {α : Type} {P : List α → Prop} (h0 : P []) (h1 : ∀ l x, P l → P (l ++ [x])) (l : List α) : P l := by
  have : ∀ m : List α, P m.reverse := by
    intro m
    induction m with
    | nil => exact h0
    | cons x m ih => rw [List.reverse_cons]; exact h1 _ _ ih
  simpa using this l.reverse
theorem beV_lt : ∀ (l : Bs), beV l < 256 ^ l.length := by
  intro l
  induction l using snoc_ind with
  | h0 => simp [beV]
  | h1 l x ih =>
    rw [beV_snoc, List.length_append, List.length_cons, List.length_nil, Nat.pow_succ]
    have := x.toNat_lt
    omega
theorem beL_get : ∀ (k n i : Nat), i < k → (beL n k)[i]? = some (UInt8.ofNat (n / 256 ^ (k - 1 - i) % 256))
  | 0, n, i, h => by omega
  | k + 1, n, i, h => by
    rw [beL, List.getElem?_append, beL_len]
    split
    · rename_i hi
      rw [beL_get k (n / 256) i hi, Nat.div_div_eq_div_mul]
      have : 256 * 256 ^ (k - 1 - i) = 256 ^ (k + 1 - 1 - i) := by
        rw [Nat.mul_comm, ← Nat.pow_succ]; congr 1; omega
      rw [this]
    · have : i = k := by omega
      subst this
      simp
def numB (n : Nat) : Bs := if n < 240 then [UInt8.ofNat n] else if n < 2288 then [UInt8.ofNat (240 + (n - 240) / 256), UInt8.ofNat ((n - 240) % 256)] else UInt8.ofNat (246 + wid n) :: beL n (wid n)
def rdN : Bs → Option (Nat × Bs)
  | [] => none
  | c :: l =>
    if c.toNat < 240 then some (c.toNat, l)
    else if c.toNat < 248 then (match l with | [] => none | x :: l' => some (240 + (c.toNat - 240) * 256 + x.toNat, l'))
    else if c.toNat ≤ 254 then
      (if c.toNat - 246 ≤ l.length ∧ beV (l.take (c.toNat - 246)) < 9223372036854775808 ∧ 2288 ≤ beV (l.take (c.toNat - 246)) ∧ wid (beV (l.take (c.toNat - 246))) = c.toNat - 246
       then some (beV (l.take (c.toNat - 246)), l.drop (c.toNat - 246)) else none)
    else none
theorem u8_of {n : Nat} (h : n < 256) : (UInt8.ofNat n).toNat = n := by simp; omega
theorem rdN_numB {n : Nat} (hn : n < 9223372036854775808) {l : Bs} : rdN (numB n ++ l) = some (n, l) := by
  unfold numB
  split
  · simp only [List.cons_append, List.nil_append, rdN]
    rw [u8_of (by omega), if_pos (by omega)]
  · split
    · simp only [List.cons_append, List.nil_append, rdN]
      rw [u8_of (by omega), u8_of (by omega), if_neg (by omega), if_pos (by omega)]
      have : 240 + (240 + (n - 240) / 256 - 240) * 256 + (n - 240) % 256 = n := by omega
      rw [this]
    · have hw : wid n ≤ 8 := (wid_lt 8 n (by omega)).2 (by omega)
      have hw2 : 2 ≤ wid n := by
        rcases Nat.lt_or_ge (wid n) 2 with h | h
        · have := (wid_lt 1 n (by omega)).1 (by omega)
          simp at this; omega
        · exact h
      simp only [List.cons_append, rdN]
      rw [u8_of (by omega), if_neg (by omega), if_neg (by omega), if_pos (by omega)]
      have e : 246 + wid n - 246 = wid n := by omega
      have hv : beV ((beL n (wid n) ++ l).take (wid n)) = n := by
        rw [List.take_left' (beL_len _ _), beV_beL]
        exact Nat.mod_eq_of_lt ((wid_lt _ n wid_pos).1 (Nat.le_refl _))
      rw [e, hv, if_pos ⟨by simp [beL_len], hn, by omega, rfl⟩, List.drop_left' (beL_len _ _)]
end Go.Num
namespace Go.Ent
set_option linter.unusedVariables false
set_option linter.unusedSimpArgs false
abbrev Ent := Int × Int × Int × Int
def ltE (a b : Ent) : Prop := a.1 < b.1 ∨ a.1 = b.1 ∧ (a.2.1 < b.2.1 ∨ a.2.1 = b.2.1 ∧ (a.2.2.1 < b.2.2.1 ∨ a.2.2.1 = b.2.2.1 ∧ a.2.2.2 < b.2.2.2))
instance (a b : Ent) : Decidable (ltE a b) := by unfold ltE; infer_instance
abbrev leE (a b : Ent) : Prop := ¬ ltE b a
abbrev SortedL (l : List Ent) : Prop := l.Pairwise leE
instance (l : List Ent) : Decidable (SortedL l) := by unfold SortedL; infer_instance
end Go.Ent
namespace Go.Ent
open Go.Num
set_option linter.unusedVariables false
set_option linter.unusedSimpArgs false
theorem snoc_ind {α : Type} {P : List α → Prop} (h0 : P []) (h1 : ∀ l x, P l → P (l ++ [x])) (l : List α) : P l := by
 have : ∀ m : List α, P m.reverse := by
  intro m
  induction m with
  | nil => exact h0
  | cons x m ih => rw [List.reverse_cons]; exact h1 _ _ ih
 simpa using this l.reverse
end Go.Ent
namespace Go.Pool
open Go.Ent
set_option linter.unusedVariables false
set_option linter.unusedSimpArgs false
abbrev Bs := List UInt8
structure Fr where
 name : Bs
 i : Int
 l : List Ent
 held : Nat
 mark : Bool
 is : Bool
def Fr.none : Fr := ⟨[], 0, [], 0, false, false⟩
structure PS where
 fr : List Fr
 hand : Nat
 reads : Nat
 hits : Nat
 losses : Nat
def newP (n : Nat) : PS := ⟨List.replicate n Fr.none, 0, 0, 0, 0⟩
structure PS.ok (P : PS) : Prop where
 one : ∀ (j k : Nat) (f g : Fr), P.fr[j]? = some f → P.fr[k]? = some g → f.is = true → g.is = true → f.name = g.name → f.i = g.i → j = k
 hand : P.hand < P.fr.length ∨ P.hand = 0
 few : P.fr.length ≤ 1024
end Go.Pool
namespace Go.Page
open Go.Num Go.Crc
abbrev Bs := List UInt8
set_option linter.unusedVariables false
set_option linter.unusedSimpArgs false
def body (tag : Nat) (b : Bs) : Bs := beL tag 8 ++ (UInt8.ofNat b.length :: (b ++ List.replicate (43 - b.length) 0))
def put (tag : Nat) (b : Bs) : Bs := body tag b ++ tail (sum (body tag b)) ++ beL tag 8
theorem put_size {tag : Nat} {b : Bs} : (put tag b)[8]? = some (UInt8.ofNat b.length) := by
 unfold put body
 rw [List.append_assoc, List.append_assoc, List.getElem?_append_right (by simp [beL_len])]
 simp [beL_len]
def get (s : Bs) (tag : Nat) : Option Bs :=
 let n := (s.getD 8 0).toNat
 if n ≤ 43 ∧ put tag ((s.drop 9).take n) = s then some ((s.drop 9).take n) else none
def row (tag : Nat) (b : Bs) : List Bs :=
 if h : b.length ≤ 42 then [put tag (0 :: b)] else put tag (1 :: b.take 42) :: row (tag + 1) (b.drop 42)
termination_by b.length
decreasing_by simp; omega
def unrow : List Bs → Nat → Option (Bs × Nat)
 | [], _ => none
 | s :: l, tag => match get s tag with
  | some (0 :: x) => some (x, 1)
  | some (1 :: x) => if x.length = 42 then (unrow l (tag + 1)).map fun r => (x ++ r.1, r.2 + 1) else none
  | _ => none
end Go.Page

namespace Go.Sto
open Go.Ent
set_option linter.unusedSimpArgs false
set_option linter.unusedVariables false
abbrev Mom := Int × Int
structure Part where
 nm : List UInt8
 base : Nat
 l : List Ent
 fs : List (List Mom)
structure SS where
 nm : List UInt8
 lim : Nat
 k : Nat
 run : List Ent
 ps : List Part
def decB : Nat → Nat → List UInt8
 | 0, _ => []
 | n + 1, k => if k < 10 then [UInt8.ofNat (48 + k)] else decB n (k / 10) ++ [UInt8.ofNat (48 + k % 10)]
variable {S : SS} {H : List Ent}
end Go.Sto



namespace Go.Cur
open Go.Ent
set_option linter.unusedVariables false
set_option linter.unusedSimpArgs false
def rest (gs : List (List Ent)) (i at' : Nat) : List Ent := (gs[i]?.getD []).drop at' ++ (gs.drop (i + 1)).flatten
end Go.Cur

