/- Sums that find bursts: the plain law. -/
namespace Go.Crc
set_option linter.unusedVariables false
set_option linter.unusedSimpArgs false

abbrev W := BitVec 32
abbrev poly : W := 0xedb88320#32
/-- One bit. -/
def step (c : W) : W := (c >>> 1) ^^^ (if c.getLsbD 0 then poly else 0#32)
theorem step_xor (a b : W) : step (a ^^^ b) = step a ^^^ step b := by
  unfold step
  rw [BitVec.ushiftRight_xor_distrib, BitVec.getLsbD_xor]
  cases a.getLsbD 0 <;> cases b.getLsbD 0 <;> simp only [Bool.xor_true, Bool.xor_false, Bool.false_eq_true, Bool.not_true, Bool.not_false, if_true, if_false, BitVec.xor_zero]
  · rw [BitVec.xor_assoc]
  · rw [BitVec.xor_assoc, BitVec.xor_assoc, BitVec.xor_comm poly]
  · rw [BitVec.xor_assoc (a >>> 1) poly, ← BitVec.xor_assoc poly (b >>> 1) poly, BitVec.xor_comm poly (b >>> 1), BitVec.xor_assoc (b >>> 1), BitVec.xor_self, BitVec.xor_zero]
theorem step_zero : step 0#32 = 0#32 := by decide
theorem step_inj {c : W} (h : step c = 0#32) : c = 0#32 := by
  unfold step at h
  cases h0 : c.getLsbD 0
  · rw [h0] at h
    simp only [Bool.false_eq_true, if_false, BitVec.xor_zero] at h
    apply BitVec.eq_of_getLsbD_eq
    intro i hi
    cases i with
    | zero => rw [h0]; simp
    | succ i =>
      have := congrArg (fun x : W => x.getLsbD i) h
      simp only [BitVec.getLsbD_ushiftRight] at this
      rw [show i + 1 = 1 + i by omega]
      simpa using this
  · rw [h0] at h
    simp only [if_true] at h
    have := congrArg (fun x : W => x.getLsbD 31) h
    simp only [BitVec.getLsbD_xor, BitVec.getLsbD_ushiftRight] at this
    rw [show (1 + 31) = 32 by rfl, BitVec.getLsbD_of_ge c 32 (by omega)] at this
    exact absurd this (by decide)
def steps : Nat → W → W
  | 0, c => c
  | n + 1, c => step (steps n c)
theorem steps_xor : ∀ (n : Nat) (a b : W), steps n (a ^^^ b) = steps n a ^^^ steps n b
  | 0, a, b => rfl
  | n + 1, a, b => by simp only [steps, steps_xor n, step_xor]
theorem steps_zero : ∀ n, steps n 0#32 = 0#32
  | 0 => rfl
  | n + 1 => by rw [steps, steps_zero n, step_zero]
theorem steps_inj : ∀ {n : Nat} {c : W}, steps n c = 0#32 → c = 0#32
  | 0, c, h => h
  | n + 1, c, h => steps_inj (step_inj h)
theorem steps_add : ∀ (m n : Nat) (c : W), steps (m + n) c = steps m (steps n c)
  | 0, n, c => by rw [Nat.zero_add]; rfl
  | m + 1, n, c => by rw [show m + 1 + n = (m + n) + 1 by omega, steps, steps_add m n, steps]
theorem step_succ (n : Nat) (c : W) : steps (n + 1) c = steps n (step c) := by rw [steps_add n 1]; rfl

/-- The bits of a list go through the register. -/
def b1 (d : Bool) : W := if d then 1#32 else 0#32
def proc (c : W) (l : List Bool) : W := l.foldl (fun c d => step (c ^^^ b1 d)) c
theorem proc_append (c : W) (a b : List Bool) : proc c (a ++ b) = proc (proc c a) b := by simp [proc]
theorem proc_zeros (c : W) : ∀ n, proc c (List.replicate n false) = steps n c
  | 0 => rfl
  | n + 1 => by
    rw [List.replicate_succ', proc_append, proc_zeros c n]
    show step (steps n c ^^^ b1 false) = _
    rw [b1, if_neg (by simp), BitVec.xor_zero]; rfl
theorem proc_xor : ∀ (l m : List Bool) (a b : W), l.length = m.length → proc (a ^^^ b) (List.zipWith xor l m) = proc a l ^^^ proc b m
  | [], [], a, b, _ => rfl
  | x :: l, y :: m, a, b, h => by
    show proc (step (a ^^^ b ^^^ b1 (xor x y))) _ = proc (step (a ^^^ b1 x)) l ^^^ proc (step (b ^^^ b1 y)) m
    rw [← proc_xor l m _ _ (by simpa using h), ← step_xor]
    congr 2
    have : b1 (xor x y) = b1 x ^^^ b1 y := by cases x <;> cases y <;> decide
    rw [this, BitVec.xor_assoc, BitVec.xor_assoc, ← BitVec.xor_assoc b, BitVec.xor_comm b (b1 x), BitVec.xor_assoc]
theorem one_down : ∀ k, k < 32 → steps k (1#32 <<< k) = 1#32 := by decide
/-- A word's lowest bits, the lowest first. -/
def bitsOf (w : W) (k : Nat) : List Bool := (List.range k).map w.getLsbD
def lowW (w : W) (k : Nat) : W := w &&& (BitVec.allOnes 32 >>> (32 - k))
theorem lowW_get {w : W} {k i : Nat} (hk : k ≤ 32) : (lowW w k).getLsbD i = (decide (i < k) && w.getLsbD i) := by
  unfold lowW
  rw [BitVec.getLsbD_and, BitVec.getLsbD_ushiftRight, BitVec.getLsbD_allOnes, Bool.and_comm]
  congr 1
  exact decide_eq_decide.2 ⟨fun h => by omega, fun h => by omega⟩
theorem lowW_succ {w : W} {k : Nat} (hk : k < 32) : lowW w (k + 1) = lowW w k ^^^ (b1 (w.getLsbD k) <<< k) := by
  apply BitVec.eq_of_getLsbD_eq
  intro i hi
  rw [BitVec.getLsbD_xor, lowW_get (by omega), lowW_get (by omega), BitVec.getLsbD_shiftLeft]
  have hb : ∀ j, (b1 (w.getLsbD k)).getLsbD j = (decide (j = 0) && w.getLsbD k) := by
    intro j
    unfold b1
    cases w.getLsbD k
    · simp
    · simp [BitVec.getLsbD_one]
  rw [hb]
  by_cases h1 : i < k
  · simp [h1, show i < k + 1 by omega]
  · by_cases h2 : i = k
    · subst h2; simp [hi]
    · simp [h1, show ¬ i < k + 1 by omega, show ¬ i - k = 0 by omega]
theorem lowW_all {w : W} : lowW w 32 = w := by
  apply BitVec.eq_of_getLsbD_eq
  intro i hi
  rw [lowW_get (by omega)]; simp [hi]
theorem steps_b1 {d : Bool} {k : Nat} (hk : k < 32) : steps k (b1 d <<< k) = b1 d := by
  cases d
  · show steps k (0#32 <<< k) = 0#32
    rw [BitVec.zero_shiftLeft, steps_zero]
  · exact one_down k hk
theorem proc_word (c w : W) : ∀ k, k ≤ 32 → proc c (bitsOf w k) = steps k (c ^^^ lowW w k)
  | 0, _ => by
    have : lowW w 0 = 0#32 := by
      apply BitVec.eq_of_getLsbD_eq
      intro i hi; rw [lowW_get (by omega)]; simp
    rw [this, BitVec.xor_zero]; rfl
  | k + 1, hk => by
    unfold bitsOf
    rw [List.range_succ, List.map_append, proc_append]
    have ih := proc_word c w k (by omega)
    unfold bitsOf at ih
    rw [ih, lowW_succ (by omega), ← BitVec.xor_assoc, steps, steps_xor k _ (b1 (w.getLsbD k) <<< k), steps_b1 (by omega)]
    rfl
/-- A word of bits. -/
def wordOf (f : Nat → Bool) : Nat → W
  | 0 => 0#32
  | k + 1 => wordOf f k ^^^ (b1 (f k) <<< k)
theorem b1_get {d : Bool} {j : Nat} : (b1 d).getLsbD j = (decide (j = 0) && d) := by
  unfold b1
  cases d
  · simp
  · simp [BitVec.getLsbD_one]
theorem wordOf_get {f : Nat → Bool} : ∀ {k i : Nat}, k ≤ 32 → (wordOf f k).getLsbD i = (decide (i < k) && f i)
  | 0, i, _ => by simp [wordOf]
  | k + 1, i, h => by
    rw [wordOf, BitVec.getLsbD_xor, wordOf_get (by omega), BitVec.getLsbD_shiftLeft, b1_get]
    by_cases h1 : i < k
    · simp [h1, show i < k + 1 by omega]
    · by_cases h2 : i = k
      · subst h2; simp [show i < 32 by omega]
      · simp [h1, show ¬ i < k + 1 by omega, show ¬ i - k = 0 by omega]
/-- Bits within 32 in a row are found. -/
theorem burst {l : List Bool} {a : Nat} (h0 : ∀ i, i < a → l.getD i false = false) (h1 : ∀ i, a + 32 ≤ i → l.getD i false = false) (hp : proc 0#32 l = 0#32) : ∀ i, l.getD i false = false := by
  -- l = zeros ++ word ++ zeros
  let w : W := wordOf (fun i => l.getD (a + i) false) 32
  have hw : ∀ i, i < 32 → w.getLsbD i = l.getD (a + i) false := by
    intro i hi
    show (wordOf _ 32).getLsbD i = _
    rw [wordOf_get (by omega), decide_eq_true hi, Bool.true_and]
  have e : l ++ List.replicate (a + 32) false = List.replicate a false ++ bitsOf w 32 ++ List.replicate l.length false := by
    apply List.ext_getElem?
    intro i
    have hl : ∀ j, j < l.length → l[j]? = some (l.getD j false) := fun j hj => by rw [List.getD_eq_getElem?_getD, List.getElem?_eq_getElem hj]; rfl
    by_cases hi : i < a + 32 + l.length
    · have e1 : (l ++ List.replicate (a + 32) false)[i]? = some (l.getD i false) := by
        rw [List.getElem?_append]
        split
        · rename_i h; exact hl i h
        · rename_i h
          rw [List.getElem?_replicate, if_pos (by omega), List.getD_eq_getElem?_getD, List.getElem?_eq_none (by omega)]; rfl
      rw [e1, List.append_assoc, List.getElem?_append]
      split
      · rename_i h
        simp only [List.length_replicate] at h
        rw [List.getElem?_replicate, if_pos h, h0 i h]
      · rename_i h
        simp only [List.length_replicate] at h ⊢
        rw [List.getElem?_append]
        have hlen : (bitsOf w 32).length = 32 := by simp [bitsOf]
        split
        · rename_i h2
          rw [hlen] at h2
          unfold bitsOf
          rw [List.getElem?_map, List.getElem?_range h2]
          simp only [Option.map_some]
          rw [hw _ h2]; congr 2; omega
        · rename_i h2
          rw [hlen] at h2 ⊢
          rw [List.getElem?_replicate, if_pos (by omega), h1 i (by omega)]
    · rw [List.getElem?_eq_none (by simp; omega), List.getElem?_eq_none (by simp [bitsOf]; omega)]
  have e2 : proc 0#32 (l ++ List.replicate (a + 32) false) = 0#32 := by rw [proc_append, hp, proc_zeros, steps_zero]
  rw [e, proc_append, proc_append, proc_zeros, proc_zeros, steps_zero, proc_word _ _ 32 (by omega)] at e2
  have e3 := steps_inj (steps_inj e2)
  rw [lowW_all, BitVec.zero_xor] at e3
  intro i
  by_cases g1 : i < a
  · exact h0 i g1
  · by_cases g2 : a + 32 ≤ i
    · exact h1 i g2
    · have := hw (i - a) (by omega)
      rw [e3, show a + (i - a) = i by omega] at this
      simpa using this.symm

/-! Bytes. -/
abbrev Bs := List UInt8
def ofB (b : UInt8) : W := BitVec.ofNat 32 b.toNat
def byteStep (c : W) (b : UInt8) : W := steps 8 (c ^^^ ofB b)
def reg (c : W) (l : Bs) : W := l.foldl byteStep c
def bitsB (b : UInt8) : List Bool := bitsOf (ofB b) 8
def bitsL (l : Bs) : List Bool := l.flatMap bitsB
theorem ofB_low {b : UInt8} : lowW (ofB b) 8 = ofB b := by
  apply BitVec.eq_of_getLsbD_eq
  intro i hi
  rw [lowW_get (by omega)]
  by_cases h : i < 8
  · simp [h]
  · have : (ofB b).getLsbD i = false := by
      unfold ofB
      rw [BitVec.getLsbD_ofNat]
      have : b.toNat < 2 ^ i := Nat.lt_of_lt_of_le b.toNat_lt (Nat.pow_le_pow_right (by omega) (by omega : 8 ≤ i))
      simp [Nat.testBit_lt_two_pow this]
    simp [h, this]
theorem byteStep_proc (c : W) (b : UInt8) : byteStep c b = proc c (bitsB b) := by
  unfold byteStep bitsB
  rw [proc_word _ _ 8 (by omega), ofB_low]
theorem reg_proc (c : W) : ∀ l : Bs, reg c l = proc c (bitsL l)
  | [] => rfl
  | b :: l => by
    show reg (byteStep c b) l = _
    rw [reg_proc _ l, byteStep_proc]
    show _ = proc c (bitsB b ++ bitsL l)
    rw [proc_append]
theorem reg_append (c : W) (a b : Bs) : reg c (a ++ b) = reg (reg c a) b := by simp [reg]
theorem bitsL_len : ∀ l : Bs, (bitsL l).length = 8 * l.length
  | [] => rfl
  | b :: l => by
    show (bitsB b ++ bitsL l).length = _
    rw [List.length_append, bitsL_len l]; simp [bitsB, bitsOf]; omega
theorem bitsL_get : ∀ (l : Bs) (i : Nat), (bitsL l).getD i false = (l.getD (i / 8) 0).toNat.testBit (i % 8)
  | [], i => by simp [bitsL]
  | b :: l, i => by
    show (bitsB b ++ bitsL l).getD i false = _
    rw [List.getD_eq_getElem?_getD, List.getElem?_append]
    have hl : (bitsB b).length = 8 := by simp [bitsB, bitsOf]
    split
    · rename_i h
      rw [hl] at h
      unfold bitsB bitsOf
      rw [List.getElem?_map, List.getElem?_range h]
      rw [show i / 8 = 0 by omega, Nat.mod_eq_of_lt h]
      simp only [Option.map_some, Option.getD_some, List.getD_cons_zero]
      unfold ofB
      rw [BitVec.getLsbD_ofNat]
      simp [show i < 32 by omega]
    · rename_i h
      rw [hl] at h ⊢
      rw [← List.getD_eq_getElem?_getD, bitsL_get l]
      rw [show i / 8 = (i - 8) / 8 + 1 by omega, List.getD_cons_succ]
      congr 1; omega
/-- The sum. -/
def more (s : W) (l : Bs) : W := ~~~ reg (~~~ s) l
def sum (l : Bs) : W := more 0#32 l
def tail (s : W) : Bs := [UInt8.ofNat s.toNat, UInt8.ofNat (s.toNat / 256), UInt8.ofNat (s.toNat / 65536), UInt8.ofNat (s.toNat / 16777216)]
theorem tail_len {s : W} : (tail s).length = 4 := rfl
theorem tail_bits (s : W) : bitsL (tail s) = bitsOf s 32 := by
  apply List.ext_getElem?
  intro i
  by_cases hi : i < 32
  · have e1 : (bitsL (tail s))[i]? = some ((bitsL (tail s)).getD i false) := by
      rw [List.getD_eq_getElem?_getD, List.getElem?_eq_getElem (by rw [bitsL_len]; simp [tail]; omega)]; rfl
    rw [e1, bitsL_get]
    unfold bitsOf
    rw [List.getElem?_map, List.getElem?_range hi]
    simp only [Option.map_some, Option.some.injEq]
    have hk : i / 8 = 0 ∨ i / 8 = 1 ∨ i / 8 = 2 ∨ i / 8 = 3 := by omega
    have hm : i % 8 < 8 := by omega
    have hs : s.getLsbD i = s.toNat.testBit i := rfl
    rw [hs]
    have key : ∀ k, (UInt8.ofNat (s.toNat / 256 ^ k)).toNat.testBit (i % 8) = s.toNat.testBit (8 * k + i % 8) := by
      intro k
      rw [show (UInt8.ofNat (s.toNat / 256 ^ k)).toNat = s.toNat / 2 ^ (8 * k) % 2 ^ 8 by rw [Nat.pow_mul]; simp]
      rw [Nat.testBit_mod_two_pow, Nat.testBit_div_two_pow]
      simp [hm, Nat.add_comm]
    rcases hk with h | h | h | h <;> rw [h]
    · have := key 0
      rw [Nat.pow_zero, Nat.div_one] at this
      simp only [tail, List.getD_cons_zero]
      rw [this]; congr 1; omega
    · have := key 1
      simp only [tail, List.getD_cons_succ, List.getD_cons_zero]
      rw [show (256 : Nat) = 256 ^ 1 by rfl, this]; congr 1; omega
    · have := key 2
      simp only [tail, List.getD_cons_succ, List.getD_cons_zero]
      rw [show (65536 : Nat) = 256 ^ 2 by rfl, this]; congr 1; omega
    · have := key 3
      simp only [tail, List.getD_cons_succ, List.getD_cons_zero]
      rw [show (16777216 : Nat) = 256 ^ 3 by rfl, this]; congr 1; omega
  · rw [List.getElem?_eq_none (by rw [bitsL_len]; simp [tail]; omega), List.getElem?_eq_none (by simp [bitsOf]; omega)]
/-- What was sealed leaves the same in the register, whatever it is. -/
theorem sealed (l : Bs) : proc (BitVec.allOnes 32) (bitsL (l ++ tail (sum l))) = steps 32 (BitVec.allOnes 32) := by
  have e : bitsL (l ++ tail (sum l)) = bitsL l ++ bitsOf (sum l) 32 := by
    rw [← tail_bits]; simp [bitsL]
  rw [e, proc_append, proc_word _ _ 32 (by omega), lowW_all, ← reg_proc]
  unfold sum more
  have h0 : (~~~ (0#32 : W)) = BitVec.allOnes 32 := by decide
  rw [h0]
  congr 1
  apply BitVec.eq_of_getLsbD_eq
  intro i hi
  rw [BitVec.getLsbD_xor, BitVec.getLsbD_not, BitVec.getLsbD_allOnes]
  simp [hi]
/-- Of two sealed texts that differ within 32 bits in a row only, both are one. -/
theorem sealed_burst {l m : Bs} (hl : l.length = m.length) {a : Nat} (h : ∀ i, (i < a ∨ a + 32 ≤ i) → ((l ++ tail (sum l)).getD (i / 8) 0).toNat.testBit (i % 8) = ((m ++ tail (sum m)).getD (i / 8) 0).toNat.testBit (i % 8)) : l ++ tail (sum l) = m ++ tail (sum m) := by
  let L := l ++ tail (sum l)
  let M := m ++ tail (sum m)
  have hLM : L.length = M.length := by simp [L, M, tail_len, hl]
  have hb : (bitsL L).length = (bitsL M).length := by rw [bitsL_len, bitsL_len, hLM]
  have hz : proc 0#32 (List.zipWith xor (bitsL L) (bitsL M)) = 0#32 := by
    have := proc_xor (bitsL L) (bitsL M) (BitVec.allOnes 32) (BitVec.allOnes 32) hb
    rw [BitVec.xor_self] at this
    rw [this, sealed, sealed, BitVec.xor_self]
  have hg : ∀ i, (List.zipWith xor (bitsL L) (bitsL M)).getD i false = xor ((bitsL L).getD i false) ((bitsL M).getD i false) := by
    intro i
    rw [List.getD_eq_getElem?_getD, List.getElem?_zipWith, List.getD_eq_getElem?_getD, List.getD_eq_getElem?_getD]
    by_cases hi : i < (bitsL L).length
    · rw [List.getElem?_eq_getElem hi, List.getElem?_eq_getElem (by omega)]; rfl
    · rw [List.getElem?_eq_none (by omega), List.getElem?_eq_none (by omega)]; rfl
  have hall := burst (l := List.zipWith xor (bitsL L) (bitsL M)) (a := a) (fun i hi => by rw [hg, bitsL_get, bitsL_get, h i (.inl hi), Bool.xor_self]) (fun i hi => by rw [hg, bitsL_get, bitsL_get, h i (.inr hi), Bool.xor_self]) hz
  have same : ∀ j k, k < 8 → (L.getD j 0).toNat.testBit k = (M.getD j 0).toNat.testBit k := by
    intro j k hk
    have := hall (8 * j + k)
    rw [hg, bitsL_get, bitsL_get, show (8 * j + k) / 8 = j by omega, show (8 * j + k) % 8 = k by omega] at this
    simpa using this
  show L = M
  apply List.ext_getElem?
  intro j
  by_cases hj : j < L.length
  · have e : (L.getD j 0).toNat = (M.getD j 0).toNat := by
      apply Nat.eq_of_testBit_eq
      intro k
      by_cases hk : k < 8
      · exact same j k hk
      · have h1 : (L.getD j 0).toNat < 2 ^ k := Nat.lt_of_lt_of_le (UInt8.toNat_lt _) (Nat.pow_le_pow_right (by omega) (by omega : 8 ≤ k))
        have h2 : (M.getD j 0).toNat < 2 ^ k := Nat.lt_of_lt_of_le (UInt8.toNat_lt _) (Nat.pow_le_pow_right (by omega) (by omega : 8 ≤ k))
        rw [Nat.testBit_lt_two_pow h1, Nat.testBit_lt_two_pow h2]
    have e' := UInt8.toNat_inj.1 e
    rw [List.getD_eq_getElem?_getD, List.getD_eq_getElem?_getD, List.getElem?_eq_getElem hj, List.getElem?_eq_getElem (by omega)] at e'
    rw [List.getElem?_eq_getElem hj, List.getElem?_eq_getElem (by omega)]
    simpa using e'
  · rw [List.getElem?_eq_none (by omega), List.getElem?_eq_none (by omega)]

/-! Halves of bytes. -/
def tbl : List Nat := [0x00000000, 0x1db71064, 0x3b6e20c8, 0x26d930ac, 0x76dc4190, 0x6b6b51f4, 0x4db26158, 0x5005713c, 0xedb88320, 0xf00f9344, 0xd6d6a3e8, 0xcb61b38c, 0x9b64c2b0, 0x86d3d2d4, 0xa00ae278, 0xbdbdf21c]
theorem tbl_ok : ∀ n, n < 16 → steps 4 (BitVec.ofNat 32 n) = BitVec.ofNat 32 (tbl.getD n 0) := by decide
theorem step_even {c : W} (h : c.getLsbD 0 = false) : step c = c >>> 1 := by
  unfold step; rw [h]; simp
theorem half (c : W) : steps 4 c = BitVec.ofNat 32 (tbl.getD (c.toNat % 16) 0) ^^^ (c >>> 4) := by
  have e : c = BitVec.ofNat 32 (c.toNat % 16) ^^^ ((c >>> 4) <<< 4) := by
    apply BitVec.eq_of_getLsbD_eq
    intro i hi
    rw [BitVec.getLsbD_xor, BitVec.getLsbD_ofNat, BitVec.getLsbD_shiftLeft, BitVec.getLsbD_ushiftRight]
    rw [show (16 : Nat) = 2 ^ 4 by rfl, Nat.testBit_mod_two_pow]
    by_cases h : i < 4
    · simp [h, hi]; rfl
    · simp [h, hi, show 4 + (i - 4) = i by omega]
  have e2 : steps 4 ((c >>> 4) <<< 4) = c >>> 4 := by
    have g : ∀ k i, k < 4 → i < 4 - k → (((c >>> 4) <<< 4) >>> k).getLsbD i = false := by
      intro k i hk hi
      rw [BitVec.getLsbD_ushiftRight, BitVec.getLsbD_shiftLeft]
      simp [show k + i < 4 by omega]
    have s1 : step ((c >>> 4) <<< 4) = ((c >>> 4) <<< 4) >>> 1 := step_even (by simp)
    have s2 : step (((c >>> 4) <<< 4) >>> 1) = ((c >>> 4) <<< 4) >>> 2 := by rw [step_even (g 1 0 (by omega) (by omega)), ← BitVec.shiftRight_add]
    have s3 : step (((c >>> 4) <<< 4) >>> 2) = ((c >>> 4) <<< 4) >>> 3 := by rw [step_even (g 2 0 (by omega) (by omega)), ← BitVec.shiftRight_add]
    have s4 : step (((c >>> 4) <<< 4) >>> 3) = ((c >>> 4) <<< 4) >>> 4 := by rw [step_even (g 3 0 (by omega) (by omega)), ← BitVec.shiftRight_add]
    show step (step (step (step ((c >>> 4) <<< 4)))) = _
    rw [s1, s2, s3, s4]
    apply BitVec.eq_of_getLsbD_eq
    intro i hi
    rw [BitVec.getLsbD_ushiftRight, BitVec.getLsbD_shiftLeft, BitVec.getLsbD_ushiftRight]
    by_cases h : 4 + i < 32
    · simp [h, show ¬ 4 + i < 4 by omega, show 4 + i - 4 = i by omega]
    · have : (c >>> 4).getLsbD i = false := by rw [BitVec.getLsbD_ushiftRight]; exact BitVec.getLsbD_of_ge c (4 + i) (by omega)
      rw [this]; simp [h]
  conv => lhs; rw [e]
  rw [steps_xor, e2, tbl_ok _ (Nat.mod_lt _ (by omega))]
end Go.Crc
