import Derived.Test.YtafmabnolelknaaGreatDoorBG8
import Derived.Test.YtafmabnolelknaaGreatDoorProg
import Derived.KernelRfl
namespace Go.Proofs
open Go.Ab
set_option maxRecDepth 100000
set_option linter.unusedVariables false
def vc10 (n1 : Int) (n2 : Int) (n3 : Int) (n4 : Int) (n5 : Int) (n6 : Int) (q7 : Option SL) (q8 : Option SL) (h : Heap) (Q : AV → Heap → Prop) : Prop :=
 AC Tryz.prog 58 [.ptr none, .agg [.int .i64 n2, .int .i64 n3, .int .i64 n4], .agg [.int .i64 n5, .int .i64 n6]] h fun v9 h10 => ∃ q11 : Option SL, ∃ n12 : Int, v9 = .tup [.sl q11, .int .i64 n12] ∧
 AC Tryz.prog 45 [.ptr none, .agg [.int .i64 n2, .int .i64 n3], .agg [.int .i64 n5, .int .i64 n6]] h10 fun v13 h14 => ∃ q15 : Option SL, ∃ n16 : Int, v13 = .tup [.sl q15, .int .i64 n16] ∧
 AC Tryz.prog 49 [.ptr none, .agg [.int .i64 n2, .int .i64 n3], .sl q8] h14 fun v17 h18 => ∃ n19 n20 : Int, v17 = .tup [.int .i64 n19, .int .i64 n20] ∧
 AC Tryz.prog 56 [.ptr none, .agg [.int .i64 n2, .int .i64 n3, .int .i64 n4]] h18 fun v21 h22 => ∃ s23 : List UInt8, ∃ b24 : Bool, v21 = .tup [.str s23, .bool b24] ∧
 AC Tryz.prog 40 [] h22 fun v25 h26 => ∃ b27 : Bool, v25 = .bool b27 ∧
 vif b27
 (AC Tryz.prog 43 [.ptr none, .agg [.int .i64 n2, .int .i64 n3, .int .i64 n4], .agg [.int .i64 n5, .int .i64 n6], .sl q7] h26 fun v28 h29 => ∃ n30 : Int, v28 = .int .i64 n30 ∧
 vif (n30 == 6)
 (vif (n12 == 6)
 (vif (n16 == 6)
 (vif (n20 == 6)
 (AC Tryz.prog 51 [.ptr none] h29 fun v31 h32 => ∃ n33 : Int, v31 = .int .i64 n33 ∧
 vif (n33 == 6)
 (AC Tryz.prog 54 [.ptr none] h32 fun v34 h35 => ∃ n36 : Int, v34 = .int .i64 n36 ∧
 vif (n36 == 0)
 (AC Tryz.prog 52 [.ptr none] h35 fun v37 h38 => ∃ n39 : Int, v37 = .int .i64 n39 ∧
 vif (n39 == 0)
 (AC Tryz.prog 55 [.ptr none] h38 fun v40 h41 => ∃ n42 : Int, v40 = .int .i64 n42 ∧
 vif (n42 == 6)
 (vif (s23 == [])
 (Q (.bool (!b24)) h41)
 (Q (.bool false) h41))
 (Q (.bool false) h41))
 (Q (.bool false) h38))
 (Q (.bool false) h35))
 (Q (.bool false) h32))
 (Q (.bool false) h29))
 (Q (.bool false) h29))
 (Q (.bool false) h29))
 (Q (.bool false) h29))
 (Q (.bool false) h26)
theorem ac10 {n1 : Int} {n2 : Int} {n3 : Int} {n4 : Int} {n5 : Int} {n6 : Int} {q7 : Option SL} {q8 : Option SL} {h : Heap} {Q : AV → Heap → Prop} (hk : vc10 n1 n2 n3 n4 n5 n6 q7 q8 h Q) : AC Tryz.prog 10 [.agg [.int .i64 n1, .int .i64 n2, .int .i64 n3, .int .i64 n4, .int .i64 n5, .int .i64 n6, .sl q7, .sl q8]] h Q :=
 AC_by (H := hintsOf [1] []) (by kernel_rfl) (by kernel_rfl) hk
def vc112 (p1 : Option PA) (n2 : Int) (n3 : Int) (h : Heap) (Q : AV → Heap → Prop) : Prop :=
 vPtr p1 fun p4 =>
 ∃ q5 : Option SL, ∃ n6 : Int, cellsAt h ⟨p4.b, p4.o + 2⟩ 2 = some [.sl q5, .int .i64 n6] ∧
 (AC Tryz.prog 179 [.agg [.sl q5, .int .i64 n6], .agg [.int .i64 n2, .int .i64 n3]] h fun v7 h8 => ∃ n9 : Int, ∃ q10 : Option SL, ∃ n11 n12 n13 : Int, ∃ q14 : Option SL, ∃ b15 : Bool, v7 = .tup [.agg [.int .i64 n9, .sl q10, .int .i64 n11, .int .i64 n12, .int .i64 n13, .sl q14], .bool b15] ∧
 (LV.val (.agg [.int .i64 n2, .int .i64 n3]) = LV.val (.agg [.int .i64 n2, .int .i64 n3])) ∧
 (∃ q19 : Option SL, ∃ n20 : Int, cellsAt h8 ⟨p4.b, p4.o + 2⟩ 2 = some [.sl q19, .int .i64 n20] ∧
 LV.val (.agg [.sl q19, .int .i64 n20]) = LV.val (.agg [.sl q5, .int .i64 n6])) ∧
 vif (!b15)
 (Q (.int .i64 0) h8)
 (AC Tryz.prog 180 [.int .i64 n9] h8 fun v16 h17 => ∃ n18 : Int, v16 = .int .i64 n18 ∧
 Q (.int .i64 (maxI2 1 n18)) h17)) ∧
 ((LV.val (.agg [.int .i64 n2, .int .i64 n3]) = LV.val (.agg [.int .i64 n2, .int .i64 n3])) ∧
 (∃ q33 : Option SL, ∃ n34 : Int, cellsAt h ⟨p4.b, p4.o + 2⟩ 2 = some [.sl q33, .int .i64 n34] ∧
 LV.val (.agg [.sl q33, .int .i64 n34]) = LV.val (.agg [.sl q5, .int .i64 n6])) ∧
 AC Tryz.prog 179 [.agg [.sl q5, .int .i64 n6], .agg [.int .i64 n2, .int .i64 n3]] h fun v21 h22 => ∃ n23 : Int, ∃ q24 : Option SL, ∃ n25 n26 n27 : Int, ∃ q28 : Option SL, ∃ b29 : Bool, v21 = .tup [.agg [.int .i64 n23, .sl q24, .int .i64 n25, .int .i64 n26, .int .i64 n27, .sl q28], .bool b29] ∧
 vif (!b29)
 (Q (.int .i64 0) h22)
 (AC Tryz.prog 180 [.int .i64 n23] h22 fun v30 h31 => ∃ n32 : Int, v30 = .int .i64 n32 ∧
 Q (.int .i64 (maxI2 1 n32)) h31))
theorem ac112 {p1 : Option PA} {n2 : Int} {n3 : Int} {h : Heap} {Q : AV → Heap → Prop} (hk : vc112 p1 n2 n3 h Q) : AC Tryz.prog 112 [.ptr p1, .agg [.int .i64 n2, .int .i64 n3]] h Q :=
 AC_by (H := hintsOf [3, 5] []) (by kernel_rfl) (by kernel_rfl) hk
def vc396 (n1 : Int) (q2 : Option SL) (h : Heap) (Q : AV → Heap → Prop) : Prop :=
 ∃ (I5 : List AV → Heap → Prop) (m6 : List AV → Heap → Nat), I5 [.int .u32 (bitsXor .u32 4294967295 n1), .int .i64 0] h ∧
 ∀ n3 n4 : Int, ∀ h7 : Heap, I5 [.int .u32 n3, .int .i64 n4] h7 →
 vif (decide (n4 < (slLen q2 : Int)))
 (vIdx q2 n4 1 fun p8 =>
 ∃ n9 : Int, cellsAt h7 p8 1 = some [.int .u8 n9] ∧
 need (decide (0 ≤ (bitsAnd .u32 (bitsXor .u32 n3 (wrapK .u32 n9)) 15)) && decide ((bitsAnd .u32 (bitsXor .u32 n3 (wrapK .u32 n9)) 15) < 16))
 (∃ a10 j11 : Nat, h7[a10]? = some (.gm 1 j11) ∧
 ∃ n12 : Int, cellsAt h7 ⟨j11, (bitsAnd .u32 (bitsXor .u32 n3 (wrapK .u32 n9)) 15).toNat * 1⟩ 1 = some [.int .u32 n12] ∧
 need (decide (0 ≤ (bitsAnd .u32 (bitsXor .u32 n12 (shrK .u32 (bitsXor .u32 n3 (wrapK .u32 n9)) 4)) 15)) && decide ((bitsAnd .u32 (bitsXor .u32 n12 (shrK .u32 (bitsXor .u32 n3 (wrapK .u32 n9)) 4)) 15) < 16))
 (∃ a13 j14 : Nat, h7[a13]? = some (.gm 1 j14) ∧
 ∃ n15 : Int, cellsAt h7 ⟨j14, (bitsAnd .u32 (bitsXor .u32 n12 (shrK .u32 (bitsXor .u32 n3 (wrapK .u32 n9)) 4)) 15).toNat * 1⟩ 1 = some [.int .u32 n15] ∧
 (True) ∧ I5 [.int .u32 (bitsXor .u32 n15 (shrK .u32 (bitsXor .u32 n12 (shrK .u32 (bitsXor .u32 n3 (wrapK .u32 n9)) 4)) 4)), .int .i64 (wrapK .i64 (n4 + 1))] h7 ∧ m6 [.int .u32 (bitsXor .u32 n15 (shrK .u32 (bitsXor .u32 n12 (shrK .u32 (bitsXor .u32 n3 (wrapK .u32 n9)) 4)) 4)), .int .i64 (wrapK .i64 (n4 + 1))] h7 < m6 [.int .u32 n3, .int .i64 n4] h7)))
 (Q (.int .u32 (bitsXor .u32 4294967295 n3)) h7)
theorem ac396 {n1 : Int} {q2 : Option SL} {h : Heap} {Q : AV → Heap → Prop} (hk : vc396 n1 q2 h Q) : AC Tryz.prog 396 [.int .u32 n1, .sl q2] h Q :=
 AC_by (H := hintsOf [] [(0, [5, 12], [])]) (by kernel_rfl) (by kernel_rfl) hk
end Go.Proofs
