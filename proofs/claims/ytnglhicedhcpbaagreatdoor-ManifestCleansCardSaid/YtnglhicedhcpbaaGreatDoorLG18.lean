namespace Go.Num
set_option linter.unusedVariables false
set_option linter.unusedSimpArgs false
abbrev Bs := List UInt8
def wid (n : Nat) : Nat := if h : n < 256 then 1 else 1 + wid (n / 256)
termination_by n
decreasing_by omega
theorem zF3 {n : Nat} : 1 <= wid n := by
  unfold wid; split <;> omega
theorem zDC : ∀ (k n : Nat), 1 <= k -> (wid n <= k ↔ n < 256 ^ k)
  | 0, n, h => by omega
  | 1, n, _ => by
    unfold wid
    split
    · simp; omega
    · have := zF3 (n := n / 256)
      constructor
      · intro h; omega
      · intro h; simp at h; omega
  | k + 2, n, _ => by
    unfold wid
    have ih := zDC (k + 1) (n / 256) (by omega)
    split
    · rename_i h
      have : 256 ^ 1 <= 256 ^ (k + 2) := Nat.pow_le_pow_right (by omega) (by omega)
      constructor
      · intro _; omega
      · intro _; omega
    · have h1 : 256 ^ (k + 2) = 256 * 256 ^ (k + 1) := by rw [Nat.pow_succ]; omega
      have h2 : 1 + wid (n / 256) <= k + 2 ↔ wid (n / 256) <= k + 1 := by omega
      rw [h2, ih, h1]
      exact Nat.div_lt_iff_lt_mul (by omega) |>.trans (by rw [Nat.mul_comm])
def beL (n : Nat) : Nat -> Bs
  | 0 => []
  | k + 1 => beL (n / 256) k ++ [UInt8.ofNat (n % 256)]
def beV (l : Bs) : Nat := l.foldl (fun a b => a * 256 + b.toNat) 0
theorem yE : ∀ (k n : Nat), (beL n k).length = k
  | 0, n => rfl
  | k + 1, n => by simp [beL, yE k]
theorem zD4 {l : Bs} {x : UInt8} : beV (l ++ [x]) = beV l * 256 + x.toNat := by simp [beV]
theorem zJS : ∀ (k n : Nat), beV (beL n k) = n % 256 ^ k
  | 0, n => by simp [beL, beV, Nat.mod_one]
  | k + 1, n => by
    rw [beL, zD4, zJS k]
    have h1 : (UInt8.ofNat (n % 256)).toNat = n % 256 := by simp
    rw [h1, Nat.pow_succ, Nat.mul_comm (256 ^ k) 256, Nat.mod_mul]
    omega
theorem snoc_ind {α : Type} {P : List α -> Prop} (h0 : P []) (h1 : ∀ l x, P l -> P (l ++ [x])) (l : List α) : P l := by
  have : ∀ m : List α, P m.reverse := by
    intro m
    induction m with
    | nil => exact h0
    | cons x m ih => rw [List.reverse_cons]; exact h1 _ _ ih
  simpa using this l.reverse
theorem beV_lt : ∀ (l : Bs), beV l < 256 ^ l.length := by
  intro l
  induction l using snoc_ind with
  | h0 => simp [beV]
  | h1 l x ih =>
    rw [zD4, List.length_append, List.length_cons, List.length_nil, Nat.pow_succ]
    have := x.toNat_lt
    omega
theorem beL_beV : ∀ (l : Bs), beL (beV l) l.length = l := by
  intro l
  induction l using snoc_ind with
  | h0 => rfl
  | h1 l x ih =>
    have hx := x.toNat_lt
    rw [zD4, List.length_append, List.length_cons, List.length_nil, beL]
    have h1 : (beV l * 256 + x.toNat) / 256 = beV l := by omega
    have h2 : (beV l * 256 + x.toNat) % 256 = x.toNat := by omega
    rw [h1, h2, ih]
    simp
theorem zJT : ∀ (k n i : Nat), i < k -> (beL n k)[i]? = some (UInt8.ofNat (n / 256 ^ (k - 1 - i) % 256))
  | 0, n, i, h => by omega
  | k + 1, n, i, h => by
    rw [beL, List.getElem?_append, yE]
    split
    · rename_i hi
      rw [zJT k (n / 256) i hi, Nat.div_div_eq_div_mul]
      have : 256 * 256 ^ (k - 1 - i) = 256 ^ (k + 1 - 1 - i) := by
        rw [Nat.mul_comm, <- Nat.pow_succ]; congr 1; omega
      rw [this]
    · have : i = k := by omega
      subst this
      simp
def numB (n : Nat) : Bs := if n < 240 then [UInt8.ofNat n] else if n < 2288 then [UInt8.ofNat (240 + (n - 240) / 256), UInt8.ofNat ((n - 240) % 256)] else UInt8.ofNat (246 + wid n) :: beL n (wid n)
def rdN : Bs -> Option (Nat × Bs)
  | [] => none
  | c :: l =>
    if c.toNat < 240 then some (c.toNat, l)
    else if c.toNat < 248 then (match l with | [] => none | x :: l' => some (240 + (c.toNat - 240) * 256 + x.toNat, l'))
    else if c.toNat <= 254 then
      (if c.toNat - 246 <= l.length /\ beV (l.take (c.toNat - 246)) < 9223372036854775808 /\ 2288 <= beV (l.take (c.toNat - 246)) /\ wid (beV (l.take (c.toNat - 246))) = c.toNat - 246
       then some (beV (l.take (c.toNat - 246)), l.drop (c.toNat - 246)) else none)
    else none
theorem zPQ {n : Nat} (h : n < 256) : (UInt8.ofNat n).toNat = n := by simp; omega
theorem zQE {c : UInt8} : UInt8.ofNat c.toNat = c := by simp
theorem zKH {n : Nat} (hn : n < 9223372036854775808) {l : Bs} : rdN (numB n ++ l) = some (n, l) := by
  unfold numB
  split
  · simp only [List.cons_append, List.nil_append, rdN]
    rw [zPQ (by omega), if_pos (by omega)]
  · split
    · simp only [List.cons_append, List.nil_append, rdN]
      rw [zPQ (by omega), zPQ (by omega), if_neg (by omega), if_pos (by omega)]
      have : 240 + (240 + (n - 240) / 256 - 240) * 256 + (n - 240) % 256 = n := by omega
      rw [this]
    · have hw : wid n <= 8 := (zDC 8 n (by omega)).2 (by omega)
      have hw2 : 2 <= wid n := by
        rcases Nat.lt_or_ge (wid n) 2 with h | h
        · have := (zDC 1 n (by omega)).1 (by omega)
          simp at this; omega
        · exact h
      simp only [List.cons_append, rdN]
      rw [zPQ (by omega), if_neg (by omega), if_neg (by omega), if_pos (by omega)]
      have e : 246 + wid n - 246 = wid n := by omega
      have hv : beV ((beL n (wid n) ++ l).take (wid n)) = n := by
        rw [List.take_left' (yE _ _), zJS]
        exact Nat.mod_eq_of_lt ((zDC _ n zF3).1 (Nat.le_refl _))
      rw [e, hv, if_pos ⟨by simp [yE], hn, by omega, rfl⟩, List.drop_left' (yE _ _)]
theorem zQF {b l : Bs} {n : Nat} (h : rdN b = some (n, l)) : b = numB n ++ l /\ n < 9223372036854775808 := by
  cases b with
  | nil => cases h
  | cons c t =>
    have hc := c.toNat_lt
    simp only [rdN] at h
    split at h
    · rename_i h1
      cases h
      refine ⟨?_, by omega⟩
      unfold numB
      rw [if_pos h1, zQE]; rfl
    · split at h
      · rename_i h1 h2
        cases t with
        | nil => cases h
        | cons x t =>
          have hx := x.toNat_lt
          cases h
          refine ⟨?_, by omega⟩
          unfold numB
          rw [if_neg (by omega), if_pos (by omega)]
          have e1 : 240 + (240 + (c.toNat - 240) * 256 + x.toNat - 240) / 256 = c.toNat := by omega
          have e2 : (240 + (c.toNat - 240) * 256 + x.toNat - 240) % 256 = x.toNat := by omega
          rw [e1, e2, zQE, zQE]; rfl
      · split at h
        · split at h
          · rename_i h1 h2 h3 h4
            obtain ⟨g1, g2, g3, g4⟩ := h4
            simp only [Option.some.injEq, Prod.mk.injEq] at h
            obtain ⟨rfl, rfl⟩ := h
            refine ⟨?_, g2⟩
            unfold numB
            rw [if_neg (by omega), if_neg (by omega), g4]
            have e1 : 246 + (c.toNat - 246) = c.toNat := by omega
            have e2 : beL (beV (t.take (c.toNat - 246))) (c.toNat - 246) = t.take (c.toNat - 246) := by
              have := beL_beV (t.take (c.toNat - 246))
              rwa [List.length_take, Nat.min_eq_left g1] at this
            rw [e1, e2, zQE]; simp
          · cases h
        · cases h
end Go.Num
namespace Go.Crc
set_option linter.unusedVariables false
set_option linter.unusedSimpArgs false
abbrev W := BitVec 32
abbrev poly : W := 0xedb88320#32
def step (c : W) : W := (c >>> 1) ^^^ (if c.getLsbD 0 then poly else 0#32)
theorem zPU (a b : W) : step (a ^^^ b) = step a ^^^ step b := by
 unfold step
 rw [BitVec.ushiftRight_xor_distrib, BitVec.getLsbD_xor]
 cases a.getLsbD 0 <;> cases b.getLsbD 0 <;> simp only [Bool.xor_true, Bool.xor_false, Bool.false_eq_true, Bool.not_true, Bool.not_false, if_true, if_false, BitVec.xor_zero]
 ·rw [BitVec.xor_assoc]
 ·rw [BitVec.xor_assoc, BitVec.xor_assoc, BitVec.xor_comm poly]
 ·rw [BitVec.xor_assoc (a >>> 1) poly, <- BitVec.xor_assoc poly (b >>> 1) poly, BitVec.xor_comm poly (b >>> 1), BitVec.xor_assoc (b >>> 1), BitVec.xor_self, BitVec.xor_zero]
def zAD : Nat -> W -> W
 | 0, c => c
 | n + 1, c => step (zAD n c)
theorem zG8 : ∀ (n : Nat) (a b : W), zAD n (a ^^^ b) = zAD n a ^^^ zAD n b
 | 0, a, b => rfl
 | n + 1, a, b => by simp only [zAD, zG8 n, zPU]
theorem zG9 : ∀ (m n : Nat) (c : W), zAD (m + n) c = zAD m (zAD n c)
 | 0, n, c => by rw [Nat.zero_add]; rfl
 | m + 1, n, c => by rw [show m + 1 + n = (m + n) + 1 by omega, zAD, zG9 m n, zAD]
def b1 (d : Bool) : W := if d then 1#32 else 0#32
abbrev Bs := List UInt8
def ofB (b : UInt8) : W := BitVec.ofNat 32 b.toNat
def zCQ (c : W) (b : UInt8) : W := zAD 8 (c ^^^ ofB b)
def reg (c : W) (l : Bs) : W := l.foldl zCQ c
theorem zLK (c : W) (a b : Bs) : reg c (a ++ b) = reg (reg c a) b := by simp [reg]
def more (s : W) (l : Bs) : W := ~~~ reg (~~~ s) l
def sum (l : Bs) : W := more 0#32 l
def tail (s : W) : Bs := [UInt8.ofNat s.toNat, UInt8.ofNat (s.toNat / 256), UInt8.ofNat (s.toNat / 65536), UInt8.ofNat (s.toNat / 16777216)]
theorem zAC {s : W} : (tail s).length = 4 := rfl
def tbl : List Nat := [0x00000000, 0x1db71064, 0x3b6e20c8, 0x26d930ac, 0x76dc4190, 0x6b6b51f4, 0x4db26158, 0x5005713c, 0xedb88320, 0xf00f9344, 0xd6d6a3e8, 0xcb61b38c, 0x9b64c2b0, 0x86d3d2d4, 0xa00ae278, 0xbdbdf21c]
theorem tbl_ok : ∀ n, n < 16 -> zAD 4 (BitVec.ofNat 32 n) = BitVec.ofNat 32 (tbl.getD n 0) := by decide
theorem zCC {c : W} (h : c.getLsbD 0 = false) : step c = c >>> 1 := by
 unfold step; rw [h]; simp
theorem half (c : W) : zAD 4 c = BitVec.ofNat 32 (tbl.getD (c.toNat % 16) 0) ^^^ (c >>> 4) := by
 have e : c = BitVec.ofNat 32 (c.toNat % 16) ^^^ ((c >>> 4) <<< 4) := by
  apply BitVec.eq_of_getLsbD_eq
  intro i hi
  rw [BitVec.getLsbD_xor, BitVec.getLsbD_ofNat, BitVec.getLsbD_shiftLeft, BitVec.getLsbD_ushiftRight]
  rw [show (16 : Nat) = 2 ^ 4 by rfl, Nat.testBit_mod_two_pow]
  by_cases h : i < 4
  ·simp [h, hi]; rfl
  ·simp [h, hi, show 4 + (i - 4) = i by omega]
 have e2 : zAD 4 ((c >>> 4) <<< 4) = c >>> 4 := by
  have g : ∀ k i, k < 4 -> i < 4 - k -> (((c >>> 4) <<< 4) >>> k).getLsbD i = false := by
   intro k i hk hi
   rw [BitVec.getLsbD_ushiftRight, BitVec.getLsbD_shiftLeft]
   simp [show k + i < 4 by omega]
  have s1 : step ((c >>> 4) <<< 4) = ((c >>> 4) <<< 4) >>> 1 := zCC (by simp)
  have s2 : step (((c >>> 4) <<< 4) >>> 1) = ((c >>> 4) <<< 4) >>> 2 := by rw [zCC (g 1 0 (by omega) (by omega)), <- BitVec.shiftRight_add]
  have s3 : step (((c >>> 4) <<< 4) >>> 2) = ((c >>> 4) <<< 4) >>> 3 := by rw [zCC (g 2 0 (by omega) (by omega)), <- BitVec.shiftRight_add]
  have s4 : step (((c >>> 4) <<< 4) >>> 3) = ((c >>> 4) <<< 4) >>> 4 := by rw [zCC (g 3 0 (by omega) (by omega)), <- BitVec.shiftRight_add]
  show step (step (step (step ((c >>> 4) <<< 4)))) = _
  rw [s1, s2, s3, s4]
  apply BitVec.eq_of_getLsbD_eq
  intro i hi
  rw [BitVec.getLsbD_ushiftRight, BitVec.getLsbD_shiftLeft, BitVec.getLsbD_ushiftRight]
  by_cases h : 4 + i < 32
  ·simp [h, show ¬ 4 + i < 4 by omega, show 4 + i - 4 = i by omega]
  ·have : (c >>> 4).getLsbD i = false := by rw [BitVec.getLsbD_ushiftRight]; exact BitVec.getLsbD_of_ge c (4 + i) (by omega)
   rw [this]; simp [h]
 conv => lhs; rw [e]
 rw [zG8, e2, tbl_ok _ (Nat.mod_lt _ (by omega))]
end Go.Crc
namespace Go.Page
open Go.Num Go.Crc
abbrev Bs := List UInt8
set_option linter.unusedVariables false
set_option linter.unusedSimpArgs false
abbrev kC : Nat := 4611686018427387903
def body (tag : Nat) (b : Bs) : Bs := beL tag 8 ++ (UInt8.ofNat b.length :: (b ++ List.replicate (43 - b.length) 0))
def put (tag : Nat) (b : Bs) : Bs := body tag b ++ tail (sum (body tag b)) ++ beL tag 8
theorem zAO {tag : Nat} {b : Bs} (h : b.length <= 43) : (body tag b).length = 52 := by
 simp [body, yE]; omega
theorem zGJ {tag : Nat} {b : Bs} (h : b.length <= 43) : (put tag b).length = 64 := by
 simp [put, zAO h, yE, zAC]
theorem zKI {tag : Nat} {b : Bs} : (put tag b).take 8 = beL tag 8 := by
 unfold put body
 rw [List.append_assoc, List.append_assoc, List.take_append_of_le_length (by simp [yE]), List.take_of_length_le (by simp [yE])]
theorem zP3 {tag : Nat} {b : Bs} (h : b.length <= 43) : (put tag b).drop 56 = beL tag 8 := by
 unfold put
 rw [List.drop_append_of_le_length (by simp [zAO h, zAC]), List.drop_of_length_le (by simp [zAO h, zAC])]; rfl
theorem zCI {tag : Nat} {b : Bs} : (put tag b)[8]? = some (UInt8.ofNat b.length) := by
 unfold put body
 rw [List.append_assoc, List.append_assoc, List.getElem?_append_right (by simp [yE])]
 simp [yE]
theorem zP4 {tag : Nat} {b : Bs} : ((put tag b).drop 9).take b.length = b := by
 unfold put body
 rw [List.append_assoc, List.append_assoc, List.drop_append, List.drop_of_length_le (by simp [yE])]
 simp [yE, List.append_assoc]
def Is (s : Bs) (tag : Nat) (b : Bs) : Prop := b.length <= 43 /\ s = put tag b
def get (s : Bs) (tag : Nat) : Option Bs :=
 let n := (s.getD 8 0).toNat
 if n <= 43 /\ put tag ((s.drop 9).take n) = s then some ((s.drop 9).take n) else none
theorem zD0 {s : Bs} {tag : Nat} {b : Bs} : get s tag = some b ↔ Is s tag b := by
 unfold get
 constructor
 ·intro h
  simp only at h
  split at h
  ·rename_i hc
   cases h
   refine ⟨by rw [List.length_take]; omega, hc.2.symm⟩
  ·cases h
 ·rintro ⟨h1, rfl⟩
  have e : ((put tag b).getD 8 0).toNat = b.length := by
   rw [List.getD_eq_getElem?_getD, zCI]; simp; omega
  simp only [e]
  rw [zP4, if_pos ⟨h1, rfl⟩]
theorem zOJ {tag : Nat} {b : Bs} (h : b.length <= 43) : get (put tag b) tag = some b := zD0.2 ⟨h, rfl⟩
def row (tag : Nat) (b : Bs) : List Bs :=
 if h : b.length <= 42 then [put tag (0 :: b)] else put tag (1 :: b.take 42) :: row (tag + 1) (b.drop 42)
termination_by b.length
decreasing_by simp; omega
def vP : List Bs -> Nat -> Option (Bs × Nat)
 | [], _ => none
 | s :: l, tag => match get s tag with
  | some (0 :: x) => some (x, 1)
  | some (1 :: x) => if x.length = 42 then (vP l (tag + 1)).map fun r => (x ++ r.1, r.2 + 1) else none
  | _ => none
theorem unrow_row : ∀ (n tag : Nat) (b : Bs) (l : List Bs), b.length <= n -> vP (row tag b ++ l) tag = some (b, (row tag b).length)
 | n, tag, b, l, hn => by
  by_cases h : b.length <= 42
  ·rw [row, dif_pos h]
   show vP (put tag (0 :: b) :: l) tag = _
   rw [vP, zOJ (by simp; omega)]
   rfl
  ·rw [row, dif_neg h]
   have hl : (b.take 42).length = 42 := by simp; omega
   show vP (put tag (1 :: b.take 42) :: (row (tag + 1) (b.drop 42) ++ l)) tag = _
   rw [vP, zOJ (by simp; omega)]
   simp only
   rw [if_pos hl]
   match n, hn with
   | n + 1, hn =>
    rw [unrow_row n (tag + 1) (b.drop 42) l (by simp; omega)]
    simp
   | 0, hn => omega
theorem zBX : ∀ (n tag : Nat) (b : Bs), b.length <= n -> (row tag b).length = max 1 ((b.length + 41) / 42)
 | n, tag, b, hn => by
  rw [row]
  split
  ·simp; omega
  ·match n, hn with
   | n + 1, hn =>
    rw [List.length_cons, zBX n (tag + 1) (b.drop 42) (by simp; omega)]
    simp; omega
   | 0, hn => omega
theorem vR : ∀ (n tag : Nat) (b : Bs), b.length <= n -> ∀ i s, (row tag b)[i]? = some s -> s = put (tag + i) ((if i + 1 = (row tag b).length then 0 else 1) :: ((b.drop (42 * i)).take 42)) /\ s.length = 64
 | n, tag, b, hn, i, s, h => by
  have hlen := zBX n tag b hn
  rw [row] at h
  split at h
  ·rename_i hb
   have hi : i = 0 := by cases i with | zero => rfl | succ i => simp at h
   subst hi
   simp at h; subst h
   have : (row tag b).length = 1 := by rw [hlen]; omega
   rw [this]
   have e : b.take 42 = b := List.take_of_length_le (by omega)
   simp [e]
   exact zGJ (by simp; omega)
  ·rename_i hb
   have hge : 2 <= (row tag b).length := by rw [hlen]; omega
   cases i with
   | zero =>
    simp at h; subst h
    rw [if_neg (by omega)]
    refine ⟨by simp, zGJ (by simp; omega)⟩
   | succ i =>
    match n, hn with
    | n + 1, hn =>
     have h' : (row (tag + 1) (b.drop 42))[i]? = some s := by simpa using h
     obtain ⟨e1, e2⟩ := vR n (tag + 1) (b.drop 42) (by simp; omega) i s h'
     refine ⟨?_, e2⟩
     have el : (row tag b).length = (row (tag + 1) (b.drop 42)).length + 1 := by
      rw [row, dif_neg hb]; rfl
     rw [e1, el, List.drop_drop]
     rw [show tag + 1 + i = tag + (i + 1) by omega, show 42 + 42 * i = 42 * (i + 1) by omega]
     by_cases hc : i + 1 = (row (tag + 1) (b.drop 42)).length
     ·rw [if_pos hc, if_pos (by omega)]
     ·rw [if_neg hc, if_neg (by omega)]
    | 0, hn => omega
end Go.Page
namespace Go.Ent
set_option linter.unusedVariables false
set_option linter.unusedSimpArgs false
abbrev Ent := Int × Int × Int × Int
def ltE (a b : Ent) : Prop := a.1 < b.1 ∨ a.1 = b.1 /\ (a.2.1 < b.2.1 ∨ a.2.1 = b.2.1 /\ (a.2.2.1 < b.2.2.1 ∨ a.2.2.1 = b.2.2.1 /\ a.2.2.2 < b.2.2.2))
instance (a b : Ent) : Decidable (ltE a b) := by unfold ltE; infer_instance
abbrev leE (a b : Ent) : Prop := ¬ ltE b a
abbrev zPL (l : List Ent) : Prop := l.Pairwise leE
instance (l : List Ent) : Decidable (zPL l) := by unfold zPL; infer_instance
end Go.Ent
namespace Go.Ent
open Go.Num
set_option linter.unusedVariables false
set_option linter.unusedSimpArgs false
def entOk (e : Ent) : Bool := decide (0 <= e.1 /\ e.1 < 65536 /\ 0 <= e.2.1 /\ e.2.1 < 65536 /\ 0 <= e.2.2.1 /\ e.2.2.1 < 1048576 /\ 0 <= e.2.2.2 /\ e.2.2.2 < 1048576)
def entB (e : Ent) : Bs := numB e.1.toNat ++ numB e.2.1.toNat ++ (numB e.2.2.1.toNat ++ numB e.2.2.2.toNat)
def encL (l : List Ent) : Bs := l.flatMap entB
def rd4 (b : Bs) : Option (Ent × Bs) :=
 match rdN b with
 | none => none
 | some (x, b1) => match rdN b1 with
  | none => none
  | some (y, b2) => match rdN b2 with
   | none => none
   | some (z, b3) => match rdN b3 with
    | none => none
    | some (w, b4) => some (((x : Int), (y : Int), (z : Int), (w : Int)), b4)
def rdE (b : Bs) : Option (Ent × Bs) := match rd4 b with
 | some (e, b') => if entOk e then some (e, b') else none
 | none => none
abbrev Gs := List (List Ent)
def pStep (s : Gs × List Ent) (e : Ent) : Gs × List Ent := if (encL s.2).length + (entB e).length > 43 then (s.1 ++ [s.2], [e]) else (s.1, s.2 ++ [e])
def pRun (l : List Ent) : Gs × List Ent := l.foldl pStep ([], [])
def pFin (s : Gs × List Ent) : Gs := if s.2 = [] then s.1 else s.1 ++ [s.2]
def packG (l : List Ent) : Gs := pFin (pRun l)
theorem snoc_ind {α : Type} {P : List α -> Prop} (h0 : P []) (h1 : ∀ l x, P l -> P (l ++ [x])) (l : List α) : P l := by
 have : ∀ m : List α, P m.reverse := by
  intro m
  induction m with
  | nil => exact h0
  | cons x m ih => rw [List.reverse_cons]; exact h1 _ _ ih
 simpa using this l.reverse
end Go.Ent
namespace Go.Seg
open Go.Num hiding Bs
open Go.Ent Go.Page
set_option linter.unusedVariables false
set_option linter.unusedSimpArgs false
def headsG (gs : Gs) : List Ent := gs.filterMap List.head?
def idx (l : List Ent) : Gs := packG (headsG (packG l))
end Go.Seg
