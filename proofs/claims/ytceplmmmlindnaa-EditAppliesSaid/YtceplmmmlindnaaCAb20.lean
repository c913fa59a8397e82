/- Numbers of machine words. -/
import Derived.Test.YtceplmmmlindnaaCAb19
namespace Go.Ab
theorem wrapK_i64 {n : Int} (h : -9223372036854775808 ≤ n ∧ n ≤ 9223372036854775807) : wrapK .i64 n = n := by
  have e1 : (2 : Int) ^ 64 = 18446744073709551616 := by decide
  have e2 : (2 : Int) ^ 63 = 9223372036854775808 := by decide
  simp only [wrapK, IntKind.wrap, IntKind.bits, IntKind.signed, Bool.true_and, e1, e2]
  by_cases hn : n % 18446744073709551616 ≥ 9223372036854775808
  · rw [if_pos (by simpa using hn)]; omega
  · rw [if_neg (by simpa using hn)]; omega
theorem wrapK_u64 {n : Int} (h : 0 ≤ n ∧ n ≤ 18446744073709551615) : wrapK .u64 n = n := by
  simp only [wrapK, IntKind.wrap, IntKind.bits, IntKind.signed, Bool.false_and]
  simp only [Bool.false_eq_true, if_false]
  omega
theorem wrapK_u32 {n : Int} : wrapK .u32 n = n % 4294967296 := by
  simp [wrapK, IntKind.wrap, IntKind.bits, IntKind.signed]
theorem wrapK_u8 {n : Int} : wrapK .u8 n = n % 256 := by
  simp [wrapK, IntKind.wrap, IntKind.bits, IntKind.signed]

/-- The low bits of a number that is not below zero. -/
theorem bitsAnd_mask {n : Int} (m : Nat) (hm : m < 63) (h0 : 0 ≤ n) (h1 : n ≤ 9223372036854775807) : bitsAnd .i64 n ((2 : Int) ^ m - 1) = n % 2 ^ m := by
  obtain ⟨k, rfl⟩ := Int.eq_ofNat_of_zero_le h0
  have hk : k < 2 ^ 64 := by omega
  have hp : 2 ^ m ≤ 2 ^ 62 := Nat.pow_le_pow_right (by omega) (by omega)
  have hpos : 0 < 2 ^ m := Nat.two_pow_pos m
  have e2 : ((2 : Int) ^ m - 1) = ((2 ^ m - 1 : Nat) : Int) := by
    rw [Int.natCast_sub hpos]; simp
  unfold bitsAnd
  rw [e2]
  have e3 : (BitVec.ofInt IntKind.i64.bits ((k : Nat) : Int) &&& BitVec.ofInt IntKind.i64.bits ((2 ^ m - 1 : Nat) : Int)).toNat = k % 2 ^ m := by
    show (BitVec.ofInt 64 ((k : Nat) : Int) &&& BitVec.ofInt 64 ((2 ^ m - 1 : Nat) : Int)).toNat = k % 2 ^ m
    rw [BitVec.toNat_and, BitVec.ofInt_natCast, BitVec.ofInt_natCast, BitVec.toNat_ofNat, BitVec.toNat_ofNat, Nat.mod_eq_of_lt hk, Nat.mod_eq_of_lt (by omega : 2 ^ m - 1 < 2 ^ 64), Nat.and_two_pow_sub_one_eq_mod]
  rw [e3]
  have := wrapK_i64 (n := ((k % 2 ^ m : Nat) : Int)) (by have := Nat.mod_lt k hpos; omega)
  unfold wrapK at this
  rw [this]
  simp

theorem tmod_pos {a b : Int} (h : 0 ≤ a) : a.tmod b = a % b := Int.tmod_eq_emod_of_nonneg h
theorem tdiv_pos {a b : Int} (h : 0 ≤ a) : a.tdiv b = a / b := Int.tdiv_eq_ediv_of_nonneg h
end Go.Ab
