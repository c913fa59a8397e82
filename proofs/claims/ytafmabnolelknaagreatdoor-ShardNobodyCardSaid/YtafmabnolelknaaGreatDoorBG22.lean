import Derived.Test.YtafmabnolelknaaGreatDoorBG11
import Derived.Test.YtafmabnolelknaaGreatDoorBG12
import Derived.Test.YtafmabnolelknaaGreatDoorBG21
import Derived.Deep.Slices
import Derived.Deep.Strs
namespace Go.Ab
open Go.ChangeShapes Go.WideShapes Go.ChangeAt Go.RowKit
set_option linter.unusedSimpArgs false
set_option linter.unusedVariables false
def ReadOnly (hp : Heap) : Prop := ∀ (b : Nat) (B : Blk), hp[b]? = some B → B.rw = false
theorem ReadOnly.add {hp : Heap} (h : ReadOnly hp) {B : Blk} (hB : B.rw = false) : ReadOnly (hp ++ [B]) := by
 intro b B' hb
 rw [List.getElem?_append] at hb
 split at hb
 ·exact h b B' hb
 ·have : b - hp.length = 0 := by have := lt_of_get hb; simp at this; omega
  rw [this] at hb; simp at hb; subst hb; exact hB
theorem HRel.addRO {μ : Ren} {hp : Heap} {W : World} (H : HRel μ hp W) (ro : ReadOnly hp) {e : ME} {B : Blk} (hB : B.rw = false) (he : e.r < W.heap.size) (hb : BlkRel (μ ++ [e]) W e B) : HRel (μ ++ [e]) (hp ++ [B]) W := by
 have ro' := ro.add hB
 have split2 : ∀ {b : Nat} {B' : Blk}, (hp ++ [B])[b]? = some B' → (b < hp.length ∧ hp[b]? = some B') ∨ (b = hp.length ∧ B' = B) := by
  intro b B' hb
  rw [List.getElem?_append] at hb
  split at hb
  ·exact .inl ⟨by assumption, hb⟩
  ·have : b - hp.length = 0 := by have := lt_of_get hb; simp at this; omega
   rw [this] at hb; simp at hb
   exact .inr ⟨by omega, hb.symm⟩
 have splitm : ∀ {b : Nat} {e' : ME}, (μ ++ [e])[b]? = some e' → (b < μ.length ∧ μ[b]? = some e') ∨ (b = μ.length ∧ e' = e) := by
  intro b e' hb
  rw [List.getElem?_append] at hb
  split at hb
  ·exact .inl ⟨by assumption, hb⟩
  ·have : b - μ.length = 0 := by have := lt_of_get hb; simp at this; omega
   rw [this] at hb; simp at hb
   exact .inr ⟨by omega, hb.symm⟩
 have hlen := H.len
 refine ⟨by simp [hlen], ?_, ?_, ?_⟩
 ·intro b B' e' h1 h2
  rcases split2 h1 with ⟨g1, g2⟩ | ⟨g1, rfl⟩ <;> rcases splitm h2 with ⟨g3, g4⟩ | ⟨g3, rfl⟩
  ·exact (H.blk b B' e' g2 g4).mono (Ren.le_append _ _)
  ·omega
  ·omega
  ·exact hb
 ·intro b1 b2 B1 B2 e1 e2 hne h1 h2 hrw
  rw [ro' b1 B1 h1] at hrw; cases hrw
 ·intro b e' h2
  rcases splitm h2 with ⟨g3, g4⟩ | ⟨g3, rfl⟩
  ·exact H.bnd b e' g4
  ·exact he
end Go.Ab
namespace Go.Ab
set_option linter.unusedSimpArgs false
set_option linter.unusedVariables false
abbrev Bs := List UInt8
end Go.Ab


namespace Go.Ab
set_option linter.unusedVariables false
set_option linter.unusedSimpArgs false
open Go.Crc hiding Bs
abbrev u32 (c : W) : AV := .int .u32 ((c.toNat : Nat) : Int)
theorem wrap32 {n : Nat} (h : n < 4294967296) : IntKind.wrap .u32 (n : Int) = n := by
 have : IntKind.wrap .u32 (n : Int) = (n : Int) % 4294967296 := by rfl
 rw [this]; omega
theorem of32 (a : W) : BitVec.ofInt 32 ((a.toNat : Nat) : Int) = a := by
 rw [BitVec.ofInt_natCast, BitVec.ofNat_toNat]; simp
theorem x32 (a b : W) : bitsXor .u32 ((a.toNat : Nat) : Int) ((b.toNat : Nat) : Int) = (((a ^^^ b).toNat : Nat) : Int) := by
 unfold bitsXor
 show IntKind.wrap .u32 (((BitVec.ofInt 32 ((a.toNat : Nat) : Int) ^^^ BitVec.ofInt 32 ((b.toNat : Nat) : Int)).toNat : Nat) : Int) = _
 rw [of32, of32, wrap32 (BitVec.isLt _)]
theorem and32 (a b : W) : bitsAnd .u32 ((a.toNat : Nat) : Int) ((b.toNat : Nat) : Int) = (((a &&& b).toNat : Nat) : Int) := by
 unfold bitsAnd
 show IntKind.wrap .u32 (((BitVec.ofInt 32 ((a.toNat : Nat) : Int) &&& BitVec.ofInt 32 ((b.toNat : Nat) : Int)).toNat : Nat) : Int) = _
 rw [of32, of32, wrap32 (BitVec.isLt _)]
theorem not32 (a : W) : bitsXor .u32 4294967295 ((a.toNat : Nat) : Int) = (((~~~ a).toNat : Nat) : Int) := by
 have := x32 (BitVec.allOnes 32) a
 rw [BitVec.allOnes_xor] at this
 exact this
theorem shr32 (a : W) (k : Nat) (hk : k ≤ 32) : shrK .u32 ((a.toNat : Nat) : Int) ((k : Nat) : Int) = (((a >>> k).toNat : Nat) : Int) := by
 unfold shrK
 have e : min ((k : Nat) : Int).toNat (IntKind.bits .u32) = k := by
  show min ((k : Nat) : Int).toNat 32 = k
  simp; omega
 rw [e, BitVec.toNat_ushiftRight, Nat.shiftRight_eq_div_pow]
 have h2 : ((2 : Int) ^ k) = ((2 ^ k : Nat) : Int) := by simp
 rw [h2, Int.fdiv_eq_ediv_of_nonneg _ (Int.natCast_nonneg _)]
 rfl
theorem and15 (c : W) : bitsAnd .u32 ((c.toNat : Nat) : Int) 15 = ((c.toNat % 16 : Nat) : Int) := by
 have := and32 c 15#32
 have e : (c &&& 15#32).toNat = c.toNat % 16 := by
  rw [BitVec.toNat_and]
  exact Nat.and_two_pow_sub_one_eq_mod c.toNat 4
 rw [e] at this
 exact this
end Go.Ab
namespace Go.Ab
open Go.Crc (W tbl)
set_option linter.unusedVariables false
set_option linter.unusedSimpArgs false
def tE (i : Nat) : Nat := Nat.mod (Nat.shiftRight 9937593612760466100516450665319420528403982636753068485404800763335476026940182181175496972418787619281442302519629725716261212251300561153615832085954560 (Nat.mul 32 i)) 4294967296
def mst (r b : Nat) : Nat := Nat.xor (tE (Nat.mod (Nat.xor (tE (Nat.mod (Nat.xor r b) 16)) (Nat.div (Nat.xor r b) 16)) 16)) (Nat.div (Nat.xor (tE (Nat.mod (Nat.xor r b) 16)) (Nat.div (Nat.xor r b) 16)) 16)
theorem tE_eq : ∀ i, i < 16 → tE i = tbl.getD i 0 := by decide +kernel
theorem tbl_lt : ∀ i, i < 16 → tbl.getD i 0 < 4294967296 := by decide +kernel
abbrev tW (i : Nat) : W := BitVec.ofNat 32 (tbl.getD i 0)
def stepW (c x : W) : W := tW ((tW ((c ^^^ x).toNat % 16) ^^^ ((c ^^^ x) >>> 4)).toNat % 16) ^^^ ((tW ((c ^^^ x).toNat % 16) ^^^ ((c ^^^ x) >>> 4)) >>> 4)
theorem tW_nat {i : Nat} (h : i < 16) : (tW i).toNat = tE i := by
 rw [BitVec.toNat_ofNat, tE_eq i h, Nat.mod_eq_of_lt (tbl_lt i h)]
theorem half_nat (z : W) : (tW (z.toNat % 16) ^^^ (z >>> 4)).toNat = Nat.xor (tE (Nat.mod z.toNat 16)) (Nat.div z.toNat 16) := by
 rw [BitVec.toNat_xor, tW_nat (Nat.mod_lt _ (by omega)), BitVec.toNat_ushiftRight, Nat.shiftRight_eq_div_pow]
 rfl
theorem stepW_nat (c x : W) : (stepW c x).toNat = mst c.toNat x.toNat := by
 unfold stepW
 rw [half_nat, half_nat, BitVec.toNat_xor]
 rfl
theorem not_nat (c : W) : (~~~ c).toNat = Nat.xor 4294967295 c.toNat := by
 have := BitVec.allOnes_xor (x := c)
 rw [← this, BitVec.toNat_xor]
 rfl
def mgo : List AV → Nat → (Nat → Bool) → Bool
 | [], r, k => k r
 | .int .u8 (.ofNat b) :: l, r, k => Nat.blt b 256 && fN (mst r b) fun r' => mgo l r' k
 | _ :: _, _, _ => false
def foldW : List Nat → W → W
 | [], c => c
 | b :: l, c => foldW l (stepW c (BitVec.ofNat 32 b))
theorem mgo_ok {k : Nat → Bool} : ∀ {l : List AV} {c : W}, mgo l c.toNat k = true → ∃ bs : List Nat, l = bs.map (fun b => AV.int .u8 (b : Nat)) ∧ (∀ b ∈ bs, b < 256) ∧ k (foldW bs c).toNat = true
 | [], c, h => ⟨[], rfl, by simp, h⟩
 | .int .u8 (.ofNat b) :: l, c, h => by
  unfold mgo at h
  rw [Bool.and_eq_true, fN_eq] at h
  have hb : b < 256 := by simpa [Nat.blt_eq] using h.1
  have e : mst c.toNat b = (stepW c (BitVec.ofNat 32 b)).toNat := by
   rw [stepW_nat, BitVec.toNat_ofNat, Nat.mod_eq_of_lt (by omega)]
  rw [e] at h
  obtain ⟨bs, h1, h2, h3⟩ := mgo_ok h.2
  exact ⟨b :: bs, by rw [h1]; rfl, fun x hx => by
   rcases List.mem_cons.1 hx with rfl | hx
   ·exact hb
   ·exact h2 x hx, h3⟩
 | .int .u8 (.negSucc b) :: l, c, h => by simp [mgo] at h
 | .int .u16 _ :: l, c, h => by simp [mgo] at h
 | .int .u32 _ :: l, c, h => by simp [mgo] at h
 | .int .u64 _ :: l, c, h => by simp [mgo] at h
 | .int .i8 _ :: l, c, h => by simp [mgo] at h
 | .int .i16 _ :: l, c, h => by simp [mgo] at h
 | .int .i32 _ :: l, c, h => by simp [mgo] at h
 | .int .i64 _ :: l, c, h => by simp [mgo] at h
 | .bool _ :: l, c, h => by simp [mgo] at h
 | .str _ :: l, c, h => by simp [mgo] at h
 | .ptr _ :: l, c, h => by simp [mgo] at h
 | .sl _ :: l, c, h => by simp [mgo] at h
 | .map _ :: l, c, h => by simp [mgo] at h
 | .func _ _ _ :: l, c, h => by simp [mgo] at h
 | .nilfunc :: l, c, h => by simp [mgo] at h
 | .iface _ _ :: l, c, h => by simp [mgo] at h
 | .niliface :: l, c, h => by simp [mgo] at h
 | .agg _ :: l, c, h => by simp [mgo] at h
 | .tup _ :: l, c, h => by simp [mgo] at h
end Go.Ab
