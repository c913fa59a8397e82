import Derived.Test.YtafmabnolelknaaGreatDoorEG8
import Derived.Test.YtafmabnolelknaaGreatDoorProg
import Derived.KernelRfl

namespace Go.Proofs
open Go.Ab
set_option maxRecDepth 100000
set_option linter.unusedVariables false
def vc112 (p1 : Option PA) (n2 : Int) (n3 : Int) (h : Heap) (Q : AV → Heap → Prop) : Prop :=
 vPtr p1 fun p4 =>
 ∃ q5 : Option SL, ∃ n6 : Int, cellsAt h ⟨p4.b, p4.o + 2⟩ 2 = some [.sl q5, .int .i64 n6] ∧
 (AC Tryz.prog 179 [.agg [.sl q5, .int .i64 n6], .agg [.int .i64 n2, .int .i64 n3]] h fun v7 h8 => ∃ n9 : Int, ∃ q10 : Option SL, ∃ n11 n12 n13 : Int, ∃ q14 : Option SL, ∃ b15 : Bool, v7 = .tup [.agg [.int .i64 n9, .sl q10, .int .i64 n11, .int .i64 n12, .int .i64 n13, .sl q14], .bool b15] ∧
 (LV.val (.agg [.int .i64 n2, .int .i64 n3]) = LV.val (.agg [.int .i64 n2, .int .i64 n3])) ∧
 (∃ q19 : Option SL, ∃ n20 : Int, cellsAt h8 ⟨p4.b, p4.o + 2⟩ 2 = some [.sl q19, .int .i64 n20] ∧
 LV.val (.agg [.sl q19, .int .i64 n20]) = LV.val (.agg [.sl q5, .int .i64 n6])) ∧
 vif (!b15)
 (Q (.int .i64 0) h8)
 (AC Tryz.prog 180 [.int .i64 n9] h8 fun v16 h17 => ∃ n18 : Int, v16 = .int .i64 n18 ∧
 Q (.int .i64 (maxI2 1 n18)) h17)) ∧
 ((LV.val (.agg [.int .i64 n2, .int .i64 n3]) = LV.val (.agg [.int .i64 n2, .int .i64 n3])) ∧
 (∃ q33 : Option SL, ∃ n34 : Int, cellsAt h ⟨p4.b, p4.o + 2⟩ 2 = some [.sl q33, .int .i64 n34] ∧
 LV.val (.agg [.sl q33, .int .i64 n34]) = LV.val (.agg [.sl q5, .int .i64 n6])) ∧
 AC Tryz.prog 179 [.agg [.sl q5, .int .i64 n6], .agg [.int .i64 n2, .int .i64 n3]] h fun v21 h22 => ∃ n23 : Int, ∃ q24 : Option SL, ∃ n25 n26 n27 : Int, ∃ q28 : Option SL, ∃ b29 : Bool, v21 = .tup [.agg [.int .i64 n23, .sl q24, .int .i64 n25, .int .i64 n26, .int .i64 n27, .sl q28], .bool b29] ∧
 vif (!b29)
 (Q (.int .i64 0) h22)
 (AC Tryz.prog 180 [.int .i64 n23] h22 fun v30 h31 => ∃ n32 : Int, v30 = .int .i64 n32 ∧
 Q (.int .i64 (maxI2 1 n32)) h31))
theorem ac112 {p1 : Option PA} {n2 : Int} {n3 : Int} {h : Heap} {Q : AV → Heap → Prop} (hk : vc112 p1 n2 n3 h Q) : AC Tryz.prog 112 [.ptr p1, .agg [.int .i64 n2, .int .i64 n3]] h Q :=
 AC_by (H := hintsOf [3, 5] []) (by kernel_rfl) (by kernel_rfl) hk
def vc63 (n1 : Int) (h : Heap) (Q : AV → Heap → Prop) : Prop :=
 vif (decide (n1 < 0))
 (Q (.tup [.ptr none, .int .i64 1]) h)
 (vif (decide (n1 > 16384))
 (Q (.tup [.ptr none, .int .i64 1]) h)
 (PNew [.map (some (List.length h)), .sl none, .int .i64 n1, .int .i64 (-1), .bool false] true (h ++ [.mp [] 0]) fun a2 h3 =>
 Q (.tup [.ptr (some ⟨a2, 0⟩), .int .i64 0]) h3))
theorem ac63 {n1 : Int} {h : Heap} {Q : AV → Heap → Prop} (hk : vc63 n1 h Q) : AC Tryz.prog 63 [.int .i64 n1] h Q :=
 AC_by (H := hintsOf [] []) (by kernel_rfl) (by kernel_rfl) hk
def vc235 (q1 : Option SL) (h : Heap) (Q : AV → Heap → Prop) : Prop :=
 vif (q1.isNone)
 (Q (.sl none) h)
 (PNew [] true h fun a2 h3 =>
 PAppendS 1 1 (some ⟨a2, 0, 0, 0, 0⟩) q1 h3 fun q4 h5 =>
 Q (.sl q4) h5)
theorem ac235 {q1 : Option SL} {h : Heap} {Q : AV → Heap → Prop} (hk : vc235 q1 h Q) : AC Tryz.prog 235 [.sl q1] h Q :=
 AC_by (H := hintsOf [] []) (by kernel_rfl) (by kernel_rfl) hk
def vc247 (q1 : Option SL) (h : Heap) (Q : AV → Heap → Prop) : Prop :=
 AC Tryz.prog 235 [.sl q1] h fun v2 h3 => ∃ q4 : Option SL, v2 = .sl q4 ∧
 PNew [.sl q4, .bool false] true h3 fun a5 h6 =>
 Q (.ptr (some ⟨a5, 0⟩)) h6
theorem ac247 {q1 : Option SL} {h : Heap} {Q : AV → Heap → Prop} (hk : vc247 q1 h Q) : AC Tryz.prog 247 [.sl q1] h Q :=
 AC_by (H := hintsOf [] []) (by kernel_rfl) (by kernel_rfl) hk
def vc249 (p1 : Option PA) (h : Heap) (Q : AV → Heap → Prop) : Prop :=
 AC Tryz.prog 317 [.ptr p1, .int .i64 1] h fun v2 h3 => ∃ n4 : Int, v2 = .int .i64 n4 ∧
 vif (decide (n4 < 240))
 (Q (.int .i64 n4) h3)
 (vif (decide (n4 < 248))
 (AC Tryz.prog 317 [.ptr p1, .int .i64 1] h3 fun v5 h6 => ∃ n7 : Int, v5 = .int .i64 n7 ∧
 AC Tryz.prog 318 [.ptr p1, .int .i64 (wrapK .i64 ((wrapK .i64 (240 + (shlK .i64 (wrapK .i64 (n4 - 240)) 8))) + n7)), .bool true] h6 fun v8 h9 => ∃ n10 : Int, v8 = .int .i64 n10 ∧
 Q (.int .i64 n10) h9)
 (vif (decide (n4 ≤ 254))
 (AC Tryz.prog 317 [.ptr p1, .int .i64 (wrapK .i64 (n4 - 246))] h3 fun v11 h12 => ∃ n13 : Int, v11 = .int .i64 n13 ∧
 vif (decide (n13 ≥ 2288))
 (AC Tryz.prog 319 [.int .i64 n13] h12 fun v14 h15 => ∃ n16 : Int, v14 = .int .i64 n16 ∧
 AC Tryz.prog 318 [.ptr p1, .int .i64 n13, .bool (n16 == (wrapK .i64 ((wrapK .i64 (n4 - 246)) + 1)))] h15 fun v17 h18 => ∃ n19 : Int, v17 = .int .i64 n19 ∧
 Q (.int .i64 n19) h18)
 (AC Tryz.prog 318 [.ptr p1, .int .i64 n13, .bool false] h12 fun v20 h21 => ∃ n22 : Int, v20 = .int .i64 n22 ∧
 Q (.int .i64 n22) h21))
 (AC Tryz.prog 320 [.ptr p1] h3 fun v23 h24 => ∃ n25 : Int, v23 = .int .i64 n25 ∧
 Q (.int .i64 n25) h24)))
theorem ac249 {p1 : Option PA} {h : Heap} {Q : AV → Heap → Prop} (hk : vc249 p1 h Q) : AC Tryz.prog 249 [.ptr p1] h Q :=
 AC_by (H := hintsOf [] []) (by kernel_rfl) (by kernel_rfl) hk
def vc250 (p1 : Option PA) (h : Heap) (Q : AV → Heap → Prop) : Prop :=
 AC Tryz.prog 315 [.ptr p1] h fun v2 h3 => ∃ b4 : Bool, v2 = .bool b4 ∧
 vif b4
 (Q (.int .i64 10) h3)
 (vPtr p1 fun p5 =>
 ∃ q6 : Option SL, cellsAt h3 ⟨p5.b, p5.o + 0⟩ 1 = some [.sl q6] ∧
 vif (decide ((slLen q6 : Int) > 0))
 (Q (.int .i64 10) h3)
 (Q (.int .i64 0) h3))
theorem ac250 {p1 : Option PA} {h : Heap} {Q : AV → Heap → Prop} (hk : vc250 p1 h Q) : AC Tryz.prog 250 [.ptr p1] h Q :=
 AC_by (H := hintsOf [] []) (by kernel_rfl) (by kernel_rfl) hk
def vc317 (p1 : Option PA) (n2 : Int) (h : Heap) (Q : AV → Heap → Prop) : Prop :=
 vif (decide (n2 < 1))
 (AC Tryz.prog 320 [.ptr p1] h fun v3 h4 => ∃ n5 : Int, v3 = .int .i64 n5 ∧
 Q (.int .i64 n5) h4)
 (vif (decide (n2 > 8))
 (AC Tryz.prog 320 [.ptr p1] h fun v6 h7 => ∃ n8 : Int, v6 = .int .i64 n8 ∧
 Q (.int .i64 n8) h7)
 (AC Tryz.prog 366 [.ptr p1, .int .i64 n2] h fun v9 h10 => ∃ q11 : Option SL, v9 = .sl q11 ∧
 ∃ (I14 : List AV → Heap → Prop) (m15 : List AV → Heap → Nat), I14 [.int .u64 0, .int .i64 0] h10 ∧
 ∀ n12 n13 : Int, ∀ h16 : Heap, I14 [.int .u64 n12, .int .i64 n13] h16 →
 vif (decide (n13 < (slLen q11 : Int)))
 (vIdx q11 n13 1 fun p17 =>
 ∃ n18 : Int, cellsAt h16 p17 1 = some [.int .u8 n18] ∧
 (True) ∧ I14 [.int .u64 (bitsOr .u64 (shlK .u64 n12 8) (wrapK .u64 n18)), .int .i64 (wrapK .i64 (n13 + 1))] h16 ∧ m15 [.int .u64 (bitsOr .u64 (shlK .u64 n12 8) (wrapK .u64 n18)), .int .i64 (wrapK .i64 (n13 + 1))] h16 < m15 [.int .u64 n12, .int .i64 n13] h16)
 (AC Tryz.prog 315 [.ptr p1] h16 fun v19 h20 => ∃ b21 : Bool, v19 = .bool b21 ∧
 vif b21
 (AC Tryz.prog 320 [.ptr p1] h20 fun v22 h23 => ∃ n24 : Int, v22 = .int .i64 n24 ∧
 Q (.int .i64 n24) h23)
 (vif (decide (n12 > 9223372036854775807))
 (AC Tryz.prog 320 [.ptr p1] h20 fun v25 h26 => ∃ n27 : Int, v25 = .int .i64 n27 ∧
 Q (.int .i64 n27) h26)
 (Q (.int .i64 (wrapK .i64 n12)) h20)))))
theorem ac317 {p1 : Option PA} {n2 : Int} {h : Heap} {Q : AV → Heap → Prop} (hk : vc317 p1 n2 h Q) : AC Tryz.prog 317 [.ptr p1, .int .i64 n2] h Q :=
 AC_by (H := hintsOf [] [(0, [5, 20], [])]) (by kernel_rfl) (by kernel_rfl) hk
def vc318 (p1 : Option PA) (n2 : Int) (b3 : Bool) (h : Heap) (Q : AV → Heap → Prop) : Prop :=
 AC Tryz.prog 315 [.ptr p1] h fun v4 h5 => ∃ b6 : Bool, v4 = .bool b6 ∧
 vif b6
 (AC Tryz.prog 320 [.ptr p1] h5 fun v7 h8 => ∃ n9 : Int, v7 = .int .i64 n9 ∧
 Q (.int .i64 n9) h8)
 (vif (!b3)
 (AC Tryz.prog 320 [.ptr p1] h5 fun v10 h11 => ∃ n12 : Int, v10 = .int .i64 n12 ∧
 Q (.int .i64 n12) h11)
 (Q (.int .i64 n2) h5))
theorem ac318 {p1 : Option PA} {n2 : Int} {b3 : Bool} {h : Heap} {Q : AV → Heap → Prop} (hk : vc318 p1 n2 b3 h Q) : AC Tryz.prog 318 [.ptr p1, .int .i64 n2, .bool b3] h Q :=
 AC_by (H := hintsOf [] []) (by kernel_rfl) (by kernel_rfl) hk
def vc319 (n1 : Int) (h : Heap) (Q : AV → Heap → Prop) : Prop :=
 vif (decide (n1 < 0))
 (Q (.int .i64 0) h)
 (vif (decide (n1 < 240))
 (Q (.int .i64 1) h)
 (vif (decide (n1 < 2288))
 (Q (.int .i64 2) h)
 (AC Tryz.prog 356 [.int .i64 n1] h fun v2 h3 => ∃ n4 : Int, v2 = .int .i64 n4 ∧
 Q (.int .i64 (wrapK .i64 (1 + n4))) h3)))
theorem ac319 {n1 : Int} {h : Heap} {Q : AV → Heap → Prop} (hk : vc319 n1 h Q) : AC Tryz.prog 319 [.int .i64 n1] h Q :=
 AC_by (H := hintsOf [] []) (by kernel_rfl) (by kernel_rfl) hk
def vc320 (p1 : Option PA) (h : Heap) (Q : AV → Heap → Prop) : Prop :=
 vif (!(p1.isNone))
 (vPtr p1 fun p2 =>
 PStore h ⟨p2.b, p2.o + 1⟩ [.bool true] fun h3 =>
 Q (.int .i64 0) h3)
 (Q (.int .i64 0) h)
theorem ac320 {p1 : Option PA} {h : Heap} {Q : AV → Heap → Prop} (hk : vc320 p1 h Q) : AC Tryz.prog 320 [.ptr p1] h Q :=
 AC_by (H := hintsOf [] []) (by kernel_rfl) (by kernel_rfl) hk
def vc315 (p1 : Option PA) (h : Heap) (Q : AV → Heap → Prop) : Prop :=
 vif (p1.isNone)
 (Q (.bool true) h)
 (vPtr p1 fun p2 =>
 ∃ b3 : Bool, cellsAt h ⟨p2.b, p2.o + 1⟩ 1 = some [.bool b3] ∧
 Q (.bool b3) h)
theorem ac315 {p1 : Option PA} {h : Heap} {Q : AV → Heap → Prop} (hk : vc315 p1 h Q) : AC Tryz.prog 315 [.ptr p1] h Q :=
 AC_by (H := hintsOf [] []) (by kernel_rfl) (by kernel_rfl) hk
def vc296 (n1 : Int) (h : Heap) (Q : AV → Heap → Prop) : Prop :=
 vif (decide (n1 < 0))
 (Q (.tup [.sl none, .int .i64 1]) h)
 (vif (decide (n1 < 240))
 (PNew [.int .u8 (wrapK .u8 n1)] true h fun a2 h3 =>
 Q (.tup [.sl (some ⟨a2, 0, 1, 1, 0⟩), .int .i64 0]) h3)
 (vif (decide (n1 < 2288))
 (PNew [.int .u8 (wrapK .u8 (wrapK .i64 (240 + (shrK .i64 (wrapK .i64 (n1 - 240)) 8)))), .int .u8 (wrapK .u8 (wrapK .i64 (n1 - 240)))] true h fun a4 h5 =>
 Q (.tup [.sl (some ⟨a4, 0, 2, 2, 0⟩), .int .i64 0]) h5)
 (AC Tryz.prog 356 [.int .i64 n1] h fun v6 h7 => ∃ n8 : Int, v6 = .int .i64 n8 ∧
 PNew [.int .u8 (wrapK .u8 (wrapK .i64 (246 + n8)))] true h7 fun a9 h10 =>
 AC Tryz.prog 357 [.int .i64 n1, .int .i64 n8] h10 fun v11 h12 => ∃ q13 : Option SL, v11 = .sl q13 ∧
 PAppendS 1 1 (some ⟨a9, 0, 1, 1, 0⟩) q13 h12 fun q14 h15 =>
 Q (.tup [.sl q14, .int .i64 0]) h15)))
theorem ac296 {n1 : Int} {h : Heap} {Q : AV → Heap → Prop} (hk : vc296 n1 h Q) : AC Tryz.prog 296 [.int .i64 n1] h Q :=
 AC_by (H := hintsOf [] []) (by kernel_rfl) (by kernel_rfl) hk
def vc366 (p1 : Option PA) (n2 : Int) (h : Heap) (Q : AV → Heap → Prop) : Prop :=
 AC Tryz.prog 315 [.ptr p1] h fun v3 h4 => ∃ b5 : Bool, v3 = .bool b5 ∧
 vif b5
 (AC Tryz.prog 320 [.ptr p1] h4 fun v6 h7 => ∃ n8 : Int, v6 = .int .i64 n8 ∧
 Q (.sl none) h7)
 (vif (decide (n2 < 0))
 (AC Tryz.prog 320 [.ptr p1] h4 fun v9 h10 => ∃ n11 : Int, v9 = .int .i64 n11 ∧
 Q (.sl none) h10)
 (vPtr p1 fun p12 =>
 ∃ q13 : Option SL, cellsAt h4 ⟨p12.b, p12.o + 0⟩ 1 = some [.sl q13] ∧
 vif (decide (n2 > (slLen q13 : Int)))
 (AC Tryz.prog 320 [.ptr p1] h4 fun v14 h15 => ∃ n16 : Int, v14 = .int .i64 n16 ∧
 Q (.sl none) h15)
 (vPtr p1 fun p17 =>
 ∃ q18 : Option SL, cellsAt h4 ⟨p17.b, p17.o + 0⟩ 1 = some [.sl q18] ∧
 PSlice 1 q18 0 (some n2) none fun q19 =>
 AC Tryz.prog 235 [.sl q19] h4 fun v20 h21 => ∃ q22 : Option SL, v20 = .sl q22 ∧
 vPtr p1 fun p23 =>
 ∃ q24 : Option SL, cellsAt h21 ⟨p23.b, p23.o + 0⟩ 1 = some [.sl q24] ∧
 PSlice 1 q24 n2 none none fun q25 =>
 vPtr p1 fun p26 =>
 PStore h21 ⟨p26.b, p26.o + 0⟩ [.sl q25] fun h27 =>
 Q (.sl q22) h27)))
theorem ac366 {p1 : Option PA} {n2 : Int} {h : Heap} {Q : AV → Heap → Prop} (hk : vc366 p1 n2 h Q) : AC Tryz.prog 366 [.ptr p1, .int .i64 n2] h Q :=
 AC_by (H := hintsOf [] []) (by kernel_rfl) (by kernel_rfl) hk
def vc356 (n1 : Int) (h : Heap) (Q : AV → Heap → Prop) : Prop :=
 ∃ (I4 : List AV → Heap → Prop) (m5 : List AV → Heap → Nat), I4 [.int .i64 (shrK .i64 n1 8), .int .i64 1] h ∧
 ∀ n2 n3 : Int, ∀ h6 : Heap, I4 [.int .i64 n2, .int .i64 n3] h6 →
 vif (decide (n2 > 0))
 ((True) ∧ I4 [.int .i64 (shrK .i64 n2 8), .int .i64 (wrapK .i64 (n3 + 1))] h6 ∧ m5 [.int .i64 (shrK .i64 n2 8), .int .i64 (wrapK .i64 (n3 + 1))] h6 < m5 [.int .i64 n2, .int .i64 n3] h6)
 (Q (.int .i64 n3) h6)
theorem ac356 {n1 : Int} {h : Heap} {Q : AV → Heap → Prop} (hk : vc356 n1 h Q) : AC Tryz.prog 356 [.int .i64 n1] h Q :=
 AC_by (H := hintsOf [] [(0, [0, 3], [])]) (by kernel_rfl) (by kernel_rfl) hk
def vc357 (n1 : Int) (n2 : Int) (h : Heap) (Q : AV → Heap → Prop) : Prop :=
 PMake [.int .u8 0] 1 n2 n2 h fun q3 h4 =>
 ∃ (I6 : List AV → Heap → Prop) (m7 : List AV → Heap → Nat), I6 [.int .i64 0] h4 ∧
 ∀ n5 : Int, ∀ h8 : Heap, I6 [.int .i64 n5] h8 →
 vif (decide (n5 < (slLen q3 : Int)))
 (need (decide (0 ≤ (wrapK .i64 (8 * (wrapK .i64 ((wrapK .i64 (n2 - 1)) - n5))))))
 (vIdx q3 n5 1 fun p9 =>
 PStore h8 p9 [.int .u8 (wrapK .u8 (shrK .i64 n1 (wrapK .i64 (8 * (wrapK .i64 ((wrapK .i64 (n2 - 1)) - n5))))))] fun h10 =>
 (True) ∧ I6 [.int .i64 (wrapK .i64 (n5 + 1))] h10 ∧ m7 [.int .i64 (wrapK .i64 (n5 + 1))] h10 < m7 [.int .i64 n5] h8))
 (Q (.sl q3) h8)
theorem ac357 {n1 : Int} {n2 : Int} {h : Heap} {Q : AV → Heap → Prop} (hk : vc357 n1 n2 h Q) : AC Tryz.prog 357 [.int .i64 n1, .int .i64 n2] h Q :=
 AC_by (H := hintsOf [] [(0, [11], [])]) (by kernel_rfl) (by kernel_rfl) hk
def vc396 (n1 : Int) (q2 : Option SL) (h : Heap) (Q : AV → Heap → Prop) : Prop :=
 ∃ (I5 : List AV → Heap → Prop) (m6 : List AV → Heap → Nat), I5 [.int .u32 (bitsXor .u32 4294967295 n1), .int .i64 0] h ∧
 ∀ n3 n4 : Int, ∀ h7 : Heap, I5 [.int .u32 n3, .int .i64 n4] h7 →
 vif (decide (n4 < (slLen q2 : Int)))
 (vIdx q2 n4 1 fun p8 =>
 ∃ n9 : Int, cellsAt h7 p8 1 = some [.int .u8 n9] ∧
 need (decide (0 ≤ (bitsAnd .u32 (bitsXor .u32 n3 (wrapK .u32 n9)) 15)) && decide ((bitsAnd .u32 (bitsXor .u32 n3 (wrapK .u32 n9)) 15) < 16))
 (∃ a10 j11 : Nat, h7[a10]? = some (.gm 1 j11) ∧
 ∃ n12 : Int, cellsAt h7 ⟨j11, (bitsAnd .u32 (bitsXor .u32 n3 (wrapK .u32 n9)) 15).toNat * 1⟩ 1 = some [.int .u32 n12] ∧
 need (decide (0 ≤ (bitsAnd .u32 (bitsXor .u32 n12 (shrK .u32 (bitsXor .u32 n3 (wrapK .u32 n9)) 4)) 15)) && decide ((bitsAnd .u32 (bitsXor .u32 n12 (shrK .u32 (bitsXor .u32 n3 (wrapK .u32 n9)) 4)) 15) < 16))
 (∃ a13 j14 : Nat, h7[a13]? = some (.gm 1 j14) ∧
 ∃ n15 : Int, cellsAt h7 ⟨j14, (bitsAnd .u32 (bitsXor .u32 n12 (shrK .u32 (bitsXor .u32 n3 (wrapK .u32 n9)) 4)) 15).toNat * 1⟩ 1 = some [.int .u32 n15] ∧
 (True) ∧ I5 [.int .u32 (bitsXor .u32 n15 (shrK .u32 (bitsXor .u32 n12 (shrK .u32 (bitsXor .u32 n3 (wrapK .u32 n9)) 4)) 4)), .int .i64 (wrapK .i64 (n4 + 1))] h7 ∧ m6 [.int .u32 (bitsXor .u32 n15 (shrK .u32 (bitsXor .u32 n12 (shrK .u32 (bitsXor .u32 n3 (wrapK .u32 n9)) 4)) 4)), .int .i64 (wrapK .i64 (n4 + 1))] h7 < m6 [.int .u32 n3, .int .i64 n4] h7)))
 (Q (.int .u32 (bitsXor .u32 4294967295 n3)) h7)
theorem ac396 {n1 : Int} {q2 : Option SL} {h : Heap} {Q : AV → Heap → Prop} (hk : vc396 n1 q2 h Q) : AC Tryz.prog 396 [.int .u32 n1, .sl q2] h Q :=
 AC_by (H := hintsOf [] [(0, [5, 12], [])]) (by kernel_rfl) (by kernel_rfl) hk
def vc64 (n1 : Int) (h : Heap) (Q : AV → Heap → Prop) : Prop :=
 vif (decide (n1 < 0))
 (Q (.tup [.ptr none, .int .i64 1]) h)
 (vif (decide (n1 > 1024))
 (Q (.tup [.ptr none, .int .i64 1]) h)
 (PMake [.str [], .int .i64 0, .sl none, .int .i64 0, .bool false, .bool false] 64 n1 n1 h fun q2 h3 =>
 PNew [.sl q2, .map (some (List.length h3)), .int .i64 0, .int .i64 0, .int .i64 0, .int .i64 0] true (h3 ++ [.mp [] 0]) fun a4 h5 =>
 Q (.tup [.ptr (some ⟨a4, 0⟩), .int .i64 0]) h5))
theorem ac64 {n1 : Int} {h : Heap} {Q : AV → Heap → Prop} (hk : vc64 n1 h Q) : AC Tryz.prog 64 [.int .i64 n1] h Q :=
 AC_by (H := hintsOf [] []) (by kernel_rfl) (by kernel_rfl) hk
def vc9 (q1 : Option SL) (n2 : Int) (n3 : Int) (n4 : Int) (n5 : Int) (n6 : Int) (n7 : Int) (n8 : Int) (n9 : Int) (n10 : Int) (h : Heap) (Q : AV → Heap → Prop) : Prop :=
 AC Tryz.prog 39 [.sl q1, .int .i64 0] h fun v11 h12 => ∃ b13 : Bool, v11 = .bool b13 ∧
 vif b13
 (AC Tryz.prog 40 [] h12 fun v14 h15 => ∃ b16 : Bool, v14 = .bool b16 ∧
 Q (.bool b16) h15)
 (AC Tryz.prog 41 [.agg [.sl q1, .int .i64 n2], .int .i64 n6, .int .i64 1] h12 fun v17 h18 => ∃ p19 p20 p21 : Option PA, v17 = .tup [.ptr p19, .ptr p20, .ptr p21] ∧
 AC Tryz.prog 41 [.agg [.sl q1, .int .i64 n2], .int .i64 n10, .int .i64 1] h18 fun v22 h23 => ∃ p24 p25 p26 : Option PA, v22 = .tup [.ptr p24, .ptr p25, .ptr p26] ∧
 AC Tryz.prog 40 [] h23 fun v27 h28 => ∃ b29 : Bool, v27 = .bool b29 ∧
 vif (!b29)
 (AC Tryz.prog 40 [] h28 fun v30 h31 => ∃ b32 : Bool, v30 = .bool b32 ∧
 Q (.bool b32) h31)
 (vif (p19.isNone)
 (AC Tryz.prog 40 [] h28 fun v33 h34 => ∃ b35 : Bool, v33 = .bool b35 ∧
 Q (.bool b35) h34)
 (vif (p24.isNone)
 (AC Tryz.prog 40 [] h28 fun v36 h37 => ∃ b38 : Bool, v36 = .bool b38 ∧
 Q (.bool b38) h37)
 (AC Tryz.prog 56 [.ptr p19, .agg [.int .i64 n3, .int .i64 n4, .int .i64 n5]] h28 fun v39 h40 => ∃ s41 : List UInt8, ∃ b42 : Bool, v39 = .tup [.str s41, .bool b42] ∧
 AC Tryz.prog 56 [.ptr p24, .agg [.int .i64 n7, .int .i64 n8, .int .i64 n9]] h40 fun v43 h44 => ∃ s45 : List UInt8, ∃ b46 : Bool, v43 = .tup [.str s45, .bool b46] ∧
 AC Tryz.prog 57 [.agg [.sl q1, .int .i64 n2], .int .i64 n6, .agg [.int .i64 n3, .int .i64 n4, .int .i64 n5]] h44 fun v47 h48 => ∃ s49 : List UInt8, ∃ b50 : Bool, v47 = .tup [.str s49, .bool b50] ∧
 vif (!(b42 == b50))
 (Q (.bool false) h48)
 (vif (!(s41 == s49))
 (Q (.bool false) h48)
 (vif (decide ((s41.length : Int) > 12))
 (Q (.bool false) h48)
 (vif (!b42)
 (Q (.bool true) h48)
 (vif (!b46)
 (Q (.bool true) h48)
 (vif (((n3 == n7) && ((n4 == n8) && true)) && ((n5 == n9) && true))
 (Q (.bool ((s41 == s45) == (n6 == n10))) h48)
 (Q (.bool ((s41 == s45) == false)) h48))))))))))
theorem ac9 {q1 : Option SL} {n2 : Int} {n3 : Int} {n4 : Int} {n5 : Int} {n6 : Int} {n7 : Int} {n8 : Int} {n9 : Int} {n10 : Int} {h : Heap} {Q : AV → Heap → Prop} (hk : vc9 q1 n2 n3 n4 n5 n6 n7 n8 n9 n10 h Q) : AC Tryz.prog 9 [.agg [.sl q1, .int .i64 n2], .agg [.int .i64 n3, .int .i64 n4, .int .i64 n5], .int .i64 n6, .agg [.int .i64 n7, .int .i64 n8, .int .i64 n9], .int .i64 n10] h Q :=
 AC_by (H := hintsOf [5, 6, 8] []) (by kernel_rfl) (by kernel_rfl) hk
def vc39 (q1 : Option SL) (n2 : Int) (h : Heap) (Q : AV → Heap → Prop) : Prop :=
 vif (decide ((slLen q1 : Int) > 40))
 (Q (.bool true) h)
 (vif (decide (n2 > 3))
 (Q (.bool true) h)
 (∃ (I4 : List AV → Heap → Prop) (m5 : List AV → Heap → Nat), I4 [.int .i64 0] h ∧
 ∀ n3 : Int, ∀ h6 : Heap, I4 [.int .i64 n3] h6 →
 vif (decide (n3 < (slLen q1 : Int)))
 (vIdx q1 n3 6 fun p7 =>
 ∃ q8 : Option SL, cellsAt h6 ⟨p7.b, p7.o + 1⟩ 1 = some [.sl q8] ∧
 vif (decide ((slLen q8 : Int) > 40))
 (Q (.bool true) h6)
 (vIdx q1 n3 6 fun p9 =>
 ∃ q10 : Option SL, cellsAt h6 ⟨p9.b, p9.o + 5⟩ 1 = some [.sl q10] ∧
 vif (decide ((slLen q10 : Int) > 0))
 (vIdx q1 n3 6 fun p11 =>
 ∃ q12 : Option SL, cellsAt h6 ⟨p11.b, p11.o + 5⟩ 1 = some [.sl q12] ∧
 AC Tryz.prog 39 [.sl q12, .int .i64 (wrapK .i64 (n2 + 1))] h6 fun v13 h14 => ∃ b15 : Bool, v13 = .bool b15 ∧
 vif b15
 (Q (.bool true) h14)
 ((True) ∧ I4 [.int .i64 (wrapK .i64 (n3 + 1))] h14 ∧ m5 [.int .i64 (wrapK .i64 (n3 + 1))] h14 < m5 [.int .i64 n3] h6))
 ((True) ∧ I4 [.int .i64 (wrapK .i64 (n3 + 1))] h6 ∧ m5 [.int .i64 (wrapK .i64 (n3 + 1))] h6 < m5 [.int .i64 n3] h6)))
 (Q (.bool false) h6)))
theorem ac39 {q1 : Option SL} {n2 : Int} {h : Heap} {Q : AV → Heap → Prop} (hk : vc39 q1 n2 h Q) : AC Tryz.prog 39 [.sl q1, .int .i64 n2] h Q :=
 AC_by (H := hintsOf [] [(0, [5], [])]) (by kernel_rfl) (by kernel_rfl) hk
def vc41 (q1 : Option SL) (n2 : Int) (n3 : Int) (n4 : Int) (h : Heap) (Q : AV → Heap → Prop) : Prop :=
 AC Tryz.prog 63 [.int .i64 16384] h fun v5 h6 => ∃ p7 : Option PA, ∃ n8 : Int, v5 = .tup [.ptr p7, .int .i64 n8] ∧
 AC Tryz.prog 64 [.int .i64 64] h6 fun v9 h10 => ∃ p11 : Option PA, ∃ n12 : Int, v9 = .tup [.ptr p11, .int .i64 n12] ∧
 vif (n8 != 0)
 (Q (.tup [.ptr none, .ptr none, .ptr none]) h10)
 (vif (n12 != 0)
 (Q (.tup [.ptr none, .ptr none, .ptr none]) h10)
 (AC Tryz.prog 106 [.ptr p7, .ptr p11, .agg [.sl q1, .int .i64 n2], .int .i64 n3, .int .i64 n4] h10 fun v13 h14 => ∃ p15 : Option PA, ∃ n16 : Int, v13 = .tup [.ptr p15, .int .i64 n16] ∧
 vif (n16 != 0)
 (Q (.tup [.ptr none, .ptr p7, .ptr p11]) h14)
 (Q (.tup [.ptr p15, .ptr p7, .ptr p11]) h14)))
theorem ac41 {q1 : Option SL} {n2 : Int} {n3 : Int} {n4 : Int} {h : Heap} {Q : AV → Heap → Prop} (hk : vc41 q1 n2 n3 n4 h Q) : AC Tryz.prog 41 [.agg [.sl q1, .int .i64 n2], .int .i64 n3, .int .i64 n4] h Q :=
 AC_by (H := hintsOf [3] []) (by kernel_rfl) (by kernel_rfl) hk
def vc56 (p1 : Option PA) (n2 : Int) (n3 : Int) (n4 : Int) (h : Heap) (Q : AV → Heap → Prop) : Prop :=
 AC Tryz.prog 108 [.ptr p1] h fun v5 h6 => ∃ b7 : Bool, v5 = .bool b7 ∧
 vif (!b7)
 ((LV.val (.tup []) = LV.val (.tup [])) ∧
 Q (.tup [.str [], .bool false]) h6)
 (vif (decide (n4 < 0))
 ((LV.val (.tup []) = LV.val (.tup [])) ∧
 Q (.tup [.str [], .bool false]) h6)
 (AC Tryz.prog 112 [.ptr p1, .agg [.int .i64 n2, .int .i64 n3]] h6 fun v8 h9 => ∃ n10 : Int, v8 = .int .i64 n10 ∧
 (LV.val (.int .i64 n4) = LV.val (.int .i64 n4)) ∧
 vif (decide (n4 ≥ n10))
 (Q (.tup [.str [], .bool false]) h9)
 (vPtr p1 fun p11 =>
 ∃ n12 : Int, cellsAt h9 ⟨p11.b, p11.o + 4⟩ 1 = some [.int .i64 n12] ∧
 AC Tryz.prog 119 [.int .i64 n12] h9 fun v13 h14 => ∃ s15 : List UInt8, v13 = .str s15 ∧
 (LV.val (.int .i64 n4) = LV.val (.int .i64 n4)) ∧
 (LV.val (.int .i64 n3) = LV.val (.int .i64 n3)) ∧
 (LV.val (.int .i64 n2) = LV.val (.int .i64 n2)) ∧
 need (decide ([83].length + s15.length ≤ 9223372036854775807))
 (need (decide (([83] ++ s15).length + [78].length ≤ 9223372036854775807))
 (AC Tryz.prog 119 [.int .i64 n2] h14 fun v16 h17 => ∃ s18 : List UInt8, v16 = .str s18 ∧
 (LV.val (.int .i64 n4) = LV.val (.int .i64 n4)) ∧
 (LV.val (.int .i64 n3) = LV.val (.int .i64 n3)) ∧
 need (decide ((([83] ++ s15) ++ [78]).length + s18.length ≤ 9223372036854775807))
 (need (decide (((([83] ++ s15) ++ [78]) ++ s18).length + [66].length ≤ 9223372036854775807))
 (AC Tryz.prog 119 [.int .i64 (wrapK .i64 (n3 + 1))] h17 fun v19 h20 => ∃ s21 : List UInt8, v19 = .str s21 ∧
 (LV.val (.int .i64 n4) = LV.val (.int .i64 n4)) ∧
 need (decide ((((([83] ++ s15) ++ [78]) ++ s18) ++ [66]).length + s21.length ≤ 9223372036854775807))
 (need (decide (((((([83] ++ s15) ++ [78]) ++ s18) ++ [66]) ++ s21).length + [80].length ≤ 9223372036854775807))
 (AC Tryz.prog 119 [.int .i64 n4] h20 fun v22 h23 => ∃ s24 : List UInt8, v22 = .str s24 ∧
 need (decide ((((((([83] ++ s15) ++ [78]) ++ s18) ++ [66]) ++ s21) ++ [80]).length + s24.length ≤ 9223372036854775807))
 (Q (.tup [.str ((((((([83] ++ s15) ++ [78]) ++ s18) ++ [66]) ++ s21) ++ [80]) ++ s24), .bool true]) h23))))))))))
theorem ac56 {p1 : Option PA} {n2 : Int} {n3 : Int} {n4 : Int} {h : Heap} {Q : AV → Heap → Prop} (hk : vc56 p1 n2 n3 n4 h Q) : AC Tryz.prog 56 [.ptr p1, .agg [.int .i64 n2, .int .i64 n3, .int .i64 n4]] h Q :=
 AC_by (H := hintsOf [3] []) (by kernel_rfl) (by kernel_rfl) hk
def vc57 (q1 : Option SL) (n2 : Int) (n3 : Int) (n4 : Int) (n5 : Int) (n6 : Int) (h : Heap) (Q : AV → Heap → Prop) : Prop :=
 vif (decide (n6 < 0))
 ((LV.val (.tup []) = LV.val (.tup [])) ∧
 Q (.tup [.str [], .bool false]) h)
 (AC Tryz.prog 114 [.agg [.sl q1, .int .i64 n2], .agg [.int .i64 n4, .int .i64 n5]] h fun v7 h8 => ∃ n9 : Int, v7 = .int .i64 n9 ∧
 (LV.val (.int .i64 n6) = LV.val (.int .i64 n6)) ∧
 vif (decide (n6 ≥ n9))
 (Q (.tup [.str [], .bool false]) h8)
 (AC Tryz.prog 120 [.int .i64 n3] h8 fun v10 h11 => ∃ s12 : List UInt8, v10 = .str s12 ∧
 (LV.val (.int .i64 n6) = LV.val (.int .i64 n6)) ∧
 (LV.val (.int .i64 n5) = LV.val (.int .i64 n5)) ∧
 (LV.val (.int .i64 n4) = LV.val (.int .i64 n4)) ∧
 need (decide ([83].length + s12.length ≤ 9223372036854775807))
 (need (decide (([83] ++ s12).length + [78].length ≤ 9223372036854775807))
 (AC Tryz.prog 120 [.int .i64 n4] h11 fun v13 h14 => ∃ s15 : List UInt8, v13 = .str s15 ∧
 (LV.val (.int .i64 n6) = LV.val (.int .i64 n6)) ∧
 (LV.val (.int .i64 n5) = LV.val (.int .i64 n5)) ∧
 need (decide ((([83] ++ s12) ++ [78]).length + s15.length ≤ 9223372036854775807))
 (need (decide (((([83] ++ s12) ++ [78]) ++ s15).length + [66].length ≤ 9223372036854775807))
 (AC Tryz.prog 120 [.int .i64 (wrapK .i64 (n5 + 1))] h14 fun v16 h17 => ∃ s18 : List UInt8, v16 = .str s18 ∧
 (LV.val (.int .i64 n6) = LV.val (.int .i64 n6)) ∧
 need (decide ((((([83] ++ s12) ++ [78]) ++ s15) ++ [66]).length + s18.length ≤ 9223372036854775807))
 (need (decide (((((([83] ++ s12) ++ [78]) ++ s15) ++ [66]) ++ s18).length + [80].length ≤ 9223372036854775807))
 (AC Tryz.prog 120 [.int .i64 n6] h17 fun v19 h20 => ∃ s21 : List UInt8, v19 = .str s21 ∧
 need (decide ((((((([83] ++ s12) ++ [78]) ++ s15) ++ [66]) ++ s18) ++ [80]).length + s21.length ≤ 9223372036854775807))
 (Q (.tup [.str ((((((([83] ++ s12) ++ [78]) ++ s15) ++ [66]) ++ s18) ++ [80]) ++ s21), .bool true]) h20)))))))))
theorem ac57 {q1 : Option SL} {n2 : Int} {n3 : Int} {n4 : Int} {n5 : Int} {n6 : Int} {h : Heap} {Q : AV → Heap → Prop} (hk : vc57 q1 n2 n3 n4 n5 n6 h Q) : AC Tryz.prog 57 [.agg [.sl q1, .int .i64 n2], .int .i64 n3, .agg [.int .i64 n4, .int .i64 n5, .int .i64 n6]] h Q :=
 AC_by (H := hintsOf [3, 5] []) (by kernel_rfl) (by kernel_rfl) hk
def vc106 (p1 : Option PA) (p2 : Option PA) (q3 : Option SL) (n4 : Int) (n5 : Int) (n6 : Int) (h : Heap) (Q : AV → Heap → Prop) : Prop :=
 vif (p1.isNone)
 (Q (.tup [.ptr none, .int .i64 6]) h)
 (vif (p2.isNone)
 (Q (.tup [.ptr none, .int .i64 6]) h)
 (AC Tryz.prog 172 [.agg [.sl q3, .int .i64 n4]] h fun v7 h8 => ∃ q9 : Option SL, ∃ n10 : Int, v7 = .tup [.sl q9, .int .i64 n10] ∧
 vif (n10 != 0)
 (Q (.tup [.ptr none, .int .i64 n10]) h8)
 (vif (decide (n5 < 0))
 (Q (.tup [.ptr none, .int .i64 1]) h8)
 (vif (decide (n5 ≥ 8))
 (Q (.tup [.ptr none, .int .i64 1]) h8)
 (vif (decide (n6 < 1))
 (Q (.tup [.ptr none, .int .i64 1]) h8)
 (vif (decide (n6 > 4096))
 (Q (.tup [.ptr none, .int .i64 1]) h8)
 (AC Tryz.prog 173 [.sl q9] h8 fun v11 h12 => ∃ q13 : Option SL, ∃ n14 n15 : Int, v11 = .tup [.agg [.sl q13, .int .i64 n14], .int .i64 n15] ∧
 PNew [.ptr p1, .ptr p2, .sl q13, .int .i64 n14, .int .i64 n5, .int .i64 n6, .map (some (List.length h12))] true (h12 ++ [.mp [] 0]) fun a16 h17 =>
 Q (.tup [.ptr (some ⟨a16, 0⟩), .int .i64 0]) h17)))))))
theorem ac106 {p1 : Option PA} {p2 : Option PA} {q3 : Option SL} {n4 : Int} {n5 : Int} {n6 : Int} {h : Heap} {Q : AV → Heap → Prop} (hk : vc106 p1 p2 q3 n4 n5 n6 h Q) : AC Tryz.prog 106 [.ptr p1, .ptr p2, .agg [.sl q3, .int .i64 n4], .int .i64 n5, .int .i64 n6] h Q :=
 AC_by (H := hintsOf [7, 14] []) (by kernel_rfl) (by kernel_rfl) hk
def vc108 (p1 : Option PA) (h : Heap) (Q : AV → Heap → Prop) : Prop :=
 vif (!(p1.isNone))
 (vPtr p1 fun p2 =>
 ∃ m3 : Option Nat, cellsAt h ⟨p2.b, p2.o + 6⟩ 1 = some [.map m3] ∧
 Q (.bool (!(m3.isNone))) h)
 (Q (.bool false) h)
theorem ac108 {p1 : Option PA} {h : Heap} {Q : AV → Heap → Prop} (hk : vc108 p1 h Q) : AC Tryz.prog 108 [.ptr p1] h Q :=
 AC_by (H := hintsOf [] []) (by kernel_rfl) (by kernel_rfl) hk
def vc114 (q1 : Option SL) (n2 : Int) (n3 : Int) (n4 : Int) (h : Heap) (Q : AV → Heap → Prop) : Prop :=
 AC Tryz.prog 182 [.agg [.sl q1, .int .i64 n2], .agg [.int .i64 n3, .int .i64 n4]] h fun v5 h6 => ∃ n7 : Int, ∃ q8 : Option SL, ∃ n9 n10 n11 : Int, ∃ q12 : Option SL, ∃ b13 : Bool, v5 = .tup [.agg [.int .i64 n7, .sl q8, .int .i64 n9, .int .i64 n10, .int .i64 n11, .sl q12], .bool b13] ∧
 vif (!b13)
 (Q (.int .i64 0) h6)
 (AC Tryz.prog 174 [.int .i64 n7] h6 fun v14 h15 => ∃ n16 : Int, v14 = .int .i64 n16 ∧
 vif (n16 == 0)
 (Q (.int .i64 1) h15)
 (Q (.int .i64 n16) h15))
theorem ac114 {q1 : Option SL} {n2 : Int} {n3 : Int} {n4 : Int} {h : Heap} {Q : AV → Heap → Prop} (hk : vc114 q1 n2 n3 n4 h Q) : AC Tryz.prog 114 [.agg [.sl q1, .int .i64 n2], .agg [.int .i64 n3, .int .i64 n4]] h Q :=
 AC_by (H := hintsOf [2, 3, 5] []) (by kernel_rfl) (by kernel_rfl) hk
def vc120 (n1 : Int) (h : Heap) (Q : AV → Heap → Prop) : Prop :=
 ∃ (I4 : List AV → Heap → Prop) (m5 : List AV → Heap → Nat), I4 [.int .i64 n1, .str []] h ∧
 ∀ n2 : Int, ∀ s3 : List UInt8, ∀ h6 : Heap, I4 [.int .i64 n2, .str s3] h6 →
 vif (decide (n2 > 0))
 (strSlice [48, 49, 50, 51, 52, 53, 54, 55, 56, 57] (Int.tmod n2 10) (some (wrapK .i64 ((Int.tmod n2 10) + 1))) fun s7 =>
 need (decide (s7.length + s3.length ≤ 9223372036854775807))
 ((True) ∧ I4 [.int .i64 (wrapK .i64 (Int.tdiv n2 10)), .str (s7 ++ s3)] h6 ∧ m5 [.int .i64 (wrapK .i64 (Int.tdiv n2 10)), .str (s7 ++ s3)] h6 < m5 [.int .i64 n2, .str s3] h6))
 (vif (s3 == [])
 (strSlice [48, 49, 50, 51, 52, 53, 54, 55, 56, 57] (Int.tmod n2 10) (some (wrapK .i64 ((Int.tmod n2 10) + 1))) fun s8 =>
 need (decide (s8.length + s3.length ≤ 9223372036854775807))
 ((True) ∧ I4 [.int .i64 (wrapK .i64 (Int.tdiv n2 10)), .str (s8 ++ s3)] h6 ∧ m5 [.int .i64 (wrapK .i64 (Int.tdiv n2 10)), .str (s8 ++ s3)] h6 < m5 [.int .i64 n2, .str s3] h6))
 (Q (.str s3) h6))
theorem ac120 {n1 : Int} {h : Heap} {Q : AV → Heap → Prop} (hk : vc120 n1 h Q) : AC Tryz.prog 120 [.int .i64 n1] h Q :=
 AC_by (H := hintsOf [] [(0, [0, 3], [])]) (by kernel_rfl) (by kernel_rfl) hk
def vc174 (n1 : Int) (h : Heap) (Q : AV → Heap → Prop) : Prop :=
 vif (n1 == 2)
 (Q (.int .i64 1) h)
 (vif (n1 == 3)
 (Q (.int .i64 1) h)
 (vif (n1 == 4)
 (Q (.int .i64 1) h)
 (vif (n1 == 5)
 (Q (.int .i64 1) h)
 (vif (n1 == 7)
 (Q (.int .i64 1) h)
 (vif (n1 == 9)
 (Q (.int .i64 1) h)
 (vif (n1 == 6)
 (Q (.int .i64 2) h)
 (vif (n1 == 8)
 (Q (.int .i64 2) h)
 (Q (.int .i64 0) h))))))))
theorem ac174 {n1 : Int} {h : Heap} {Q : AV → Heap → Prop} (hk : vc174 n1 h Q) : AC Tryz.prog 174 [.int .i64 n1] h Q :=
 AC_by (H := hintsOf [] []) (by kernel_rfl) (by kernel_rfl) hk
def vc172 (q1 : Option SL) (n2 : Int) (h : Heap) (Q : AV → Heap → Prop) : Prop :=
 AC Tryz.prog 244 [.agg [.sl q1, .int .i64 n2]] h fun v3 h4 => ∃ n5 : Int, v3 = .int .i64 n5 ∧
 vif (n5 != 0)
 (Q (.tup [.sl none, .int .i64 n5]) h4)
 (PNew [.sl none] true h4 fun a6 h7 =>
 AC Tryz.prog 245 [.ptr (some ⟨a6, 0⟩), .sl q1] h7 fun v8 h9 => v8 = .tup [] ∧
 PNew [.int .i64 n2] true h9 fun a10 h11 =>
 AC Tryz.prog 246 [.ptr (some ⟨a6, 0⟩), .sl (some ⟨a10, 0, 1, 1, 0⟩)] h11 fun v12 h13 => v12 = .tup [] ∧
 ∃ q14 : Option SL, cellsAt h13 ⟨a6, 0⟩ 1 = some [.sl q14] ∧
 Q (.tup [.sl q14, .int .i64 0]) h13)
theorem ac172 {q1 : Option SL} {n2 : Int} {h : Heap} {Q : AV → Heap → Prop} (hk : vc172 q1 n2 h Q) : AC Tryz.prog 172 [.agg [.sl q1, .int .i64 n2]] h Q :=
 AC_by (H := hintsOf [1] []) (by kernel_rfl) (by kernel_rfl) hk
def vc173 (q1 : Option SL) (h : Heap) (Q : AV → Heap → Prop) : Prop :=
 AC Tryz.prog 247 [.sl q1] h fun v2 h3 => ∃ p4 : Option PA, v2 = .ptr p4 ∧
 PNew [.ptr p4, .bool false] true h3 fun a5 h6 =>
 AC Tryz.prog 248 [.ptr (some ⟨a5, 0⟩), .int .i64 1] h6 fun v7 h8 => ∃ q9 : Option SL, v7 = .sl q9 ∧
 ∃ p10 : Option PA, cellsAt h8 ⟨a5, 0⟩ 1 = some [.ptr p10] ∧
 AC Tryz.prog 249 [.ptr p10] h8 fun v11 h12 => ∃ n13 : Int, v11 = .int .i64 n13 ∧
 ∃ b14 : Bool, cellsAt h12 ⟨a5, 1⟩ 1 = some [.bool b14] ∧
 vif b14
 (Q (.tup [.agg [.sl none, .int .i64 0], .int .i64 170]) h12)
 (∃ p15 : Option PA, cellsAt h12 ⟨a5, 0⟩ 1 = some [.ptr p15] ∧
 AC Tryz.prog 250 [.ptr p15] h12 fun v16 h17 => ∃ n18 : Int, v16 = .int .i64 n18 ∧
 vif (n18 != 0)
 (Q (.tup [.agg [.sl none, .int .i64 0], .int .i64 170]) h17)
 (AC Tryz.prog 244 [.agg [.sl q9, .int .i64 n13]] h17 fun v19 h20 => ∃ n21 : Int, v19 = .int .i64 n21 ∧
 vif (n21 != 0)
 (Q (.tup [.agg [.sl none, .int .i64 0], .int .i64 170]) h20)
 (Q (.tup [.agg [.sl q9, .int .i64 n13], .int .i64 0]) h20)))
theorem ac173 {q1 : Option SL} {h : Heap} {Q : AV → Heap → Prop} (hk : vc173 q1 h Q) : AC Tryz.prog 173 [.sl q1] h Q :=
 AC_by (H := hintsOf [2, 5] []) (by kernel_rfl) (by kernel_rfl) hk
def vc179 (q1 : Option SL) (n2 : Int) (n3 : Int) (n4 : Int) (h : Heap) (Q : AV → Heap → Prop) : Prop :=
 AC Tryz.prog 244 [.agg [.sl q1, .int .i64 n2]] h fun v5 h6 => ∃ n7 : Int, v5 = .int .i64 n7 ∧
 vif (n7 != 0)
 (Q (.tup [.agg [.int .i64 0, .sl none, .int .i64 0, .int .i64 0, .int .i64 0, .sl none], .bool false]) h6)
 (vif (decide (n3 < 0))
 (Q (.tup [.agg [.int .i64 0, .sl none, .int .i64 0, .int .i64 0, .int .i64 0, .sl none], .bool false]) h6)
 (vif (decide (n3 ≥ (slLen q1 : Int)))
 (Q (.tup [.agg [.int .i64 0, .sl none, .int .i64 0, .int .i64 0, .int .i64 0, .sl none], .bool false]) h6)
 (vif (decide (n4 < (-1)))
 (Q (.tup [.agg [.int .i64 0, .sl none, .int .i64 0, .int .i64 0, .int .i64 0, .sl none], .bool false]) h6)
 (vIdx q1 n3 6 fun p8 =>
 ∃ n9 : Int, ∃ q10 : Option SL, ∃ n11 n12 n13 : Int, ∃ q14 : Option SL, cellsAt h6 p8 6 = some [.int .i64 n9, .sl q10, .int .i64 n11, .int .i64 n12, .int .i64 n13, .sl q14] ∧
 vif (n4 == (-1))
 (AC Tryz.prog 253 [.agg [.int .i64 n9, .sl q10, .int .i64 n11, .int .i64 n12, .int .i64 n13, .sl q14]] h6 fun v15 h16 => ∃ n17 : Int, ∃ q18 : Option SL, ∃ n19 n20 n21 : Int, ∃ q22 : Option SL, v15 = .agg [.int .i64 n17, .sl q18, .int .i64 n19, .int .i64 n20, .int .i64 n21, .sl q22] ∧
 Q (.tup [.agg [.int .i64 n17, .sl q18, .int .i64 n19, .int .i64 n20, .int .i64 n21, .sl q22], .bool true]) h16)
 (vif (decide (n4 ≥ (slLen q14 : Int)))
 (Q (.tup [.agg [.int .i64 0, .sl none, .int .i64 0, .int .i64 0, .int .i64 0, .sl none], .bool false]) h6)
 (vIdx q14 n4 6 fun p23 =>
 ∃ n24 : Int, ∃ q25 : Option SL, ∃ n26 n27 n28 : Int, ∃ q29 : Option SL, cellsAt h6 p23 6 = some [.int .i64 n24, .sl q25, .int .i64 n26, .int .i64 n27, .int .i64 n28, .sl q29] ∧
 AC Tryz.prog 253 [.agg [.int .i64 n24, .sl q25, .int .i64 n26, .int .i64 n27, .int .i64 n28, .sl q29]] h6 fun v30 h31 => ∃ n32 : Int, ∃ q33 : Option SL, ∃ n34 n35 n36 : Int, ∃ q37 : Option SL, v30 = .agg [.int .i64 n32, .sl q33, .int .i64 n34, .int .i64 n35, .int .i64 n36, .sl q37] ∧
 Q (.tup [.agg [.int .i64 n32, .sl q33, .int .i64 n34, .int .i64 n35, .int .i64 n36, .sl q37], .bool true]) h31))))))
theorem ac179 {q1 : Option SL} {n2 : Int} {n3 : Int} {n4 : Int} {h : Heap} {Q : AV → Heap → Prop} (hk : vc179 q1 n2 n3 n4 h Q) : AC Tryz.prog 179 [.agg [.sl q1, .int .i64 n2], .agg [.int .i64 n3, .int .i64 n4]] h Q :=
 AC_by (H := hintsOf [2, 3, 4, 6] []) (by kernel_rfl) (by kernel_rfl) hk
def vc180 (n1 : Int) (h : Heap) (Q : AV → Heap → Prop) : Prop :=
 AC Tryz.prog 254 [.int .i64 n1] h fun v2 h3 => ∃ n4 n5 : Int, ∃ b6 : Bool, v2 = .tup [.agg [.int .i64 n4, .int .i64 n5], .bool b6] ∧
 Q (.int .i64 n4) h3
theorem ac180 {n1 : Int} {h : Heap} {Q : AV → Heap → Prop} (hk : vc180 n1 h Q) : AC Tryz.prog 180 [.int .i64 n1] h Q :=
 AC_by (H := hintsOf [3] []) (by kernel_rfl) (by kernel_rfl) hk
def vc182 (q1 : Option SL) (n2 : Int) (n3 : Int) (n4 : Int) (h : Heap) (Q : AV → Heap → Prop) : Prop :=
 AC Tryz.prog 255 [.agg [.sl q1, .int .i64 n2]] h fun v5 h6 => ∃ q7 : Option SL, v5 = .sl q7 ∧
 ∃ (I9 : List AV → Heap → Prop) (m10 : List AV → Heap → Nat), I9 [.int .i64 0] h6 ∧
 ∀ n8 : Int, ∀ h11 : Heap, I9 [.int .i64 n8] h11 →
 vif (decide (n8 < (slLen q7 : Int)))
 (vIdx q7 n8 2 fun p12 =>
 ∃ n13 n14 : Int, cellsAt h11 p12 2 = some [.int .i64 n13, .int .i64 n14] ∧
 vif ((n13 == n3) && ((n14 == n4) && true))
 (vif (decide (n4 < 0))
 (vIdx q1 n3 6 fun p15 =>
 ∃ n16 : Int, ∃ q17 : Option SL, ∃ n18 n19 n20 : Int, ∃ q21 : Option SL, cellsAt h11 p15 6 = some [.int .i64 n16, .sl q17, .int .i64 n18, .int .i64 n19, .int .i64 n20, .sl q21] ∧
 Q (.tup [.agg [.int .i64 n16, .sl q17, .int .i64 n18, .int .i64 n19, .int .i64 n20, .sl q21], .bool true]) h11)
 (vIdx q1 n3 6 fun p22 =>
 ∃ q23 : Option SL, cellsAt h11 ⟨p22.b, p22.o + 5⟩ 1 = some [.sl q23] ∧
 vIdx q23 n4 6 fun p24 =>
 ∃ n25 : Int, ∃ q26 : Option SL, ∃ n27 n28 n29 : Int, ∃ q30 : Option SL, cellsAt h11 p24 6 = some [.int .i64 n25, .sl q26, .int .i64 n27, .int .i64 n28, .int .i64 n29, .sl q30] ∧
 Q (.tup [.agg [.int .i64 n25, .sl q26, .int .i64 n27, .int .i64 n28, .int .i64 n29, .sl q30], .bool true]) h11))
 (((some [.int .i64 0, .sl none, .int .i64 0, .int .i64 0, .int .i64 0, .sl none] : Option (List AV)) = some [.int .i64 0, .sl none, .int .i64 0, .int .i64 0, .int .i64 0, .sl none] ∧ (some [.int .i64 n3, .int .i64 n4] : Option (List AV)) = some [.int .i64 n3, .int .i64 n4] ∧ (some [.sl q1, .int .i64 n2] : Option (List AV)) = some [.sl q1, .int .i64 n2] ∧ True) ∧ I9 [.int .i64 (wrapK .i64 (n8 + 1))] h11 ∧ m10 [.int .i64 (wrapK .i64 (n8 + 1))] h11 < m10 [.int .i64 n8] h11))
 (Q (.tup [.agg [.int .i64 0, .sl none, .int .i64 0, .int .i64 0, .int .i64 0, .sl none], .bool false]) h11)
theorem ac182 {q1 : Option SL} {n2 : Int} {n3 : Int} {n4 : Int} {h : Heap} {Q : AV → Heap → Prop} (hk : vc182 q1 n2 n3 n4 h Q) : AC Tryz.prog 182 [.agg [.sl q1, .int .i64 n2], .agg [.int .i64 n3, .int .i64 n4]] h Q :=
 AC_by (H := hintsOf [2, 3, 4] [(0, [7], [])]) (by kernel_rfl) (by kernel_rfl) hk
def vc244 (q1 : Option SL) (n2 : Int) (h : Heap) (Q : AV → Heap → Prop) : Prop :=
 AC Tryz.prog 312 [.sl q1, .int .i64 (-1)] h fun v3 h4 => ∃ b5 : Bool, v3 = .bool b5 ∧
 vif (!b5)
 (Q (.int .i64 170) h4)
 (vif (decide (n2 < 0))
 (Q (.int .i64 170) h4)
 (vif (decide (n2 ≥ (slLen q1 : Int)))
 (Q (.int .i64 170) h4)
 (AC Tryz.prog 313 [.agg [.sl q1, .int .i64 n2]] h4 fun v6 h7 => ∃ n8 : Int, v6 = .int .i64 n8 ∧
 vif (decide (n8 > 1))
 (Q (.int .i64 170) h7)
 (Q (.int .i64 0) h7))))
theorem ac244 {q1 : Option SL} {n2 : Int} {h : Heap} {Q : AV → Heap → Prop} (hk : vc244 q1 n2 h Q) : AC Tryz.prog 244 [.agg [.sl q1, .int .i64 n2]] h Q :=
 AC_by (H := hintsOf [1] []) (by kernel_rfl) (by kernel_rfl) hk
def vc245 (p1 : Option PA) (q2 : Option SL) (h : Heap) (Q : AV → Heap → Prop) : Prop :=
 PNew [.int .i64 (slLen q2 : Int)] true h fun a3 h4 =>
 AC Tryz.prog 246 [.ptr p1, .sl (some ⟨a3, 0, 1, 1, 0⟩)] h4 fun v5 h6 => v5 = .tup [] ∧
 ∃ (I8 : List AV → Heap → Prop) (m9 : List AV → Heap → Nat), I8 [.int .i64 0] h6 ∧
 ∀ n7 : Int, ∀ h10 : Heap, I8 [.int .i64 n7] h10 →
 vif (decide (n7 < (slLen q2 : Int)))
 (vIdx q2 n7 6 fun p11 =>
 ∃ n12 : Int, ∃ q13 : Option SL, ∃ n14 n15 n16 : Int, ∃ q17 : Option SL, cellsAt h10 p11 6 = some [.int .i64 n12, .sl q13, .int .i64 n14, .int .i64 n15, .int .i64 n16, .sl q17] ∧
 PNew [.int .i64 n12, .int .i64 (slLen q13 : Int)] true h10 fun a18 h19 =>
 AC Tryz.prog 246 [.ptr p1, .sl (some ⟨a18, 0, 2, 2, 0⟩)] h19 fun v20 h21 => v20 = .tup [] ∧
 AC Tryz.prog 246 [.ptr p1, .sl q13] h21 fun v22 h23 => v22 = .tup [] ∧
 PNew [.int .i64 n14, .int .i64 n15, .int .i64 n16] true h23 fun a24 h25 =>
 AC Tryz.prog 246 [.ptr p1, .sl (some ⟨a24, 0, 3, 3, 0⟩)] h25 fun v26 h27 => v26 = .tup [] ∧
 AC Tryz.prog 245 [.ptr p1, .sl q17] h27 fun v28 h29 => v28 = .tup [] ∧
 (True) ∧ I8 [.int .i64 (wrapK .i64 (n7 + 1))] h29 ∧ m9 [.int .i64 (wrapK .i64 (n7 + 1))] h29 < m9 [.int .i64 n7] h10)
 (Q (.tup []) h10)
theorem ac245 {p1 : Option PA} {q2 : Option SL} {h : Heap} {Q : AV → Heap → Prop} (hk : vc245 p1 q2 h Q) : AC Tryz.prog 245 [.ptr p1, .sl q2] h Q :=
 AC_by (H := hintsOf [5] [(0, [13], [])]) (by kernel_rfl) (by kernel_rfl) hk
def vc246 (p1 : Option PA) (q2 : Option SL) (h : Heap) (Q : AV → Heap → Prop) : Prop :=
 ∃ (I4 : List AV → Heap → Prop) (m5 : List AV → Heap → Nat), I4 [.int .i64 0] h ∧
 ∀ n3 : Int, ∀ h6 : Heap, I4 [.int .i64 n3] h6 →
 vif (decide (n3 < (slLen q2 : Int)))
 (vIdx q2 n3 1 fun p7 =>
 ∃ n8 : Int, cellsAt h6 p7 1 = some [.int .i64 n8] ∧
 AC Tryz.prog 296 [.int .i64 n8] h6 fun v9 h10 => ∃ q11 : Option SL, ∃ n12 : Int, v9 = .tup [.sl q11, .int .i64 n12] ∧
 vPtr p1 fun p13 =>
 ∃ q14 : Option SL, cellsAt h10 ⟨p13.b, p13.o + 0⟩ 1 = some [.sl q14] ∧
 PAppendS 1 1 q14 q11 h10 fun q15 h16 =>
 vPtr p1 fun p17 =>
 PStore h16 ⟨p17.b, p17.o + 0⟩ [.sl q15] fun h18 =>
 (True) ∧ I4 [.int .i64 (wrapK .i64 (n3 + 1))] h18 ∧ m5 [.int .i64 (wrapK .i64 (n3 + 1))] h18 < m5 [.int .i64 n3] h6)
 (Q (.tup []) h6)
theorem ac246 {p1 : Option PA} {q2 : Option SL} {h : Heap} {Q : AV → Heap → Prop} (hk : vc246 p1 q2 h Q) : AC Tryz.prog 246 [.ptr p1, .sl q2] h Q :=
 AC_by (H := hintsOf [] [(0, [10], [])]) (by kernel_rfl) (by kernel_rfl) hk
def vc248 (p1 : Option PA) (n2 : Int) (h : Heap) (Q : AV → Heap → Prop) : Prop :=
 vif (decide (n2 < 0))
 (AC Tryz.prog 314 [.ptr p1, .int .i64 0] h fun v3 h4 => ∃ n5 : Int, v3 = .int .i64 n5 ∧
 ∃ (I8 : List AV → Heap → Prop) (m9 : List AV → Heap → Nat), I8 [.sl none, .int .i64 n5] h4 ∧
 ∀ q6 : Option SL, ∀ n7 : Int, ∀ h10 : Heap, I8 [.sl q6, .int .i64 n7] h10 →
 vif (decide (n7 > 0))
 (vPtr p1 fun p11 =>
 ∃ b12 : Bool, cellsAt h10 ⟨p11.b, p11.o + 1⟩ 1 = some [.bool b12] ∧
 vif (!b12)
 (vPtr p1 fun p13 =>
 ∃ p14 : Option PA, cellsAt h10 ⟨p13.b, p13.o + 0⟩ 1 = some [.ptr p14] ∧
 AC Tryz.prog 315 [.ptr p14] h10 fun v15 h16 => ∃ b17 : Bool, v15 = .bool b17 ∧
 vif (!b17)
 (AC Tryz.prog 316 [.ptr p1, .int .i64 n2] h16 fun v18 h19 => ∃ n20 : Int, ∃ q21 : Option SL, ∃ n22 n23 n24 : Int, ∃ q25 : Option SL, v18 = .agg [.int .i64 n20, .sl q21, .int .i64 n22, .int .i64 n23, .int .i64 n24, .sl q25] ∧
 PNew [.int .i64 n20, .sl q21, .int .i64 n22, .int .i64 n23, .int .i64 n24, .sl q25] true h19 fun a26 h27 =>
 PAppendS 6 80 q6 (some ⟨a26, 0, 1, 1, 0⟩) h27 fun q28 h29 =>
 (True) ∧ I8 [.sl q28, .int .i64 (wrapK .i64 (n7 - 1))] h29 ∧ m9 [.sl q28, .int .i64 (wrapK .i64 (n7 - 1))] h29 < m9 [.sl q6, .int .i64 n7] h10)
 (Q (.sl q6) h16))
 (Q (.sl q6) h10))
 (Q (.sl q6) h10))
 (AC Tryz.prog 314 [.ptr p1, .int .i64 32] h fun v30 h31 => ∃ n32 : Int, v30 = .int .i64 n32 ∧
 ∃ (I35 : List AV → Heap → Prop) (m36 : List AV → Heap → Nat), I35 [.sl none, .int .i64 n32] h31 ∧
 ∀ q33 : Option SL, ∀ n34 : Int, ∀ h37 : Heap, I35 [.sl q33, .int .i64 n34] h37 →
 vif (decide (n34 > 0))
 (vPtr p1 fun p38 =>
 ∃ b39 : Bool, cellsAt h37 ⟨p38.b, p38.o + 1⟩ 1 = some [.bool b39] ∧
 vif (!b39)
 (vPtr p1 fun p40 =>
 ∃ p41 : Option PA, cellsAt h37 ⟨p40.b, p40.o + 0⟩ 1 = some [.ptr p41] ∧
 AC Tryz.prog 315 [.ptr p41] h37 fun v42 h43 => ∃ b44 : Bool, v42 = .bool b44 ∧
 vif (!b44)
 (AC Tryz.prog 316 [.ptr p1, .int .i64 n2] h43 fun v45 h46 => ∃ n47 : Int, ∃ q48 : Option SL, ∃ n49 n50 n51 : Int, ∃ q52 : Option SL, v45 = .agg [.int .i64 n47, .sl q48, .int .i64 n49, .int .i64 n50, .int .i64 n51, .sl q52] ∧
 PNew [.int .i64 n47, .sl q48, .int .i64 n49, .int .i64 n50, .int .i64 n51, .sl q52] true h46 fun a53 h54 =>
 PAppendS 6 80 q33 (some ⟨a53, 0, 1, 1, 0⟩) h54 fun q55 h56 =>
 (True) ∧ I35 [.sl q55, .int .i64 (wrapK .i64 (n34 - 1))] h56 ∧ m36 [.sl q55, .int .i64 (wrapK .i64 (n34 - 1))] h56 < m36 [.sl q33, .int .i64 n34] h37)
 (Q (.sl q33) h43))
 (Q (.sl q33) h37))
 (Q (.sl q33) h37))
theorem ac248 {p1 : Option PA} {n2 : Int} {h : Heap} {Q : AV → Heap → Prop} (hk : vc248 p1 n2 h Q) : AC Tryz.prog 248 [.ptr p1, .int .i64 n2] h Q :=
 AC_by (H := hintsOf [] [(0, [6, 7], [])]) (by kernel_rfl) (by kernel_rfl) hk
def vc253 (n1 : Int) (q2 : Option SL) (n3 : Int) (n4 : Int) (n5 : Int) (q6 : Option SL) (h : Heap) (Q : AV → Heap → Prop) : Prop :=
 AC Tryz.prog 322 [.sl q2] h fun v7 h8 => ∃ q9 : Option SL, v7 = .sl q9 ∧
 ∃ (I17 : List AV → Heap → Prop) (m18 : List AV → Heap → Nat), I17 [.int .i64 0, .int .i64 n1, .sl q9, .int .i64 n3, .int .i64 n4, .int .i64 n5, .sl none] h8 ∧
 ∀ n10 n11 : Int, ∀ q12 : Option SL, ∀ n13 n14 n15 : Int, ∀ q16 : Option SL, ∀ h19 : Heap, I17 [.int .i64 n10, .int .i64 n11, .sl q12, .int .i64 n13, .int .i64 n14, .int .i64 n15, .sl q16] h19 →
 vif (decide (n10 < (slLen q6 : Int)))
 (vIdx q6 n10 6 fun p20 =>
 ∃ n21 : Int, ∃ q22 : Option SL, ∃ n23 n24 n25 : Int, ∃ q26 : Option SL, cellsAt h19 p20 6 = some [.int .i64 n21, .sl q22, .int .i64 n23, .int .i64 n24, .int .i64 n25, .sl q26] ∧
 AC Tryz.prog 253 [.agg [.int .i64 n21, .sl q22, .int .i64 n23, .int .i64 n24, .int .i64 n25, .sl q26]] h19 fun v27 h28 => ∃ n29 : Int, ∃ q30 : Option SL, ∃ n31 n32 n33 : Int, ∃ q34 : Option SL, v27 = .agg [.int .i64 n29, .sl q30, .int .i64 n31, .int .i64 n32, .int .i64 n33, .sl q34] ∧
 (LV.val (.sl q16) = LV.val (.sl q16)) ∧
 PNew [.int .i64 n29, .sl q30, .int .i64 n31, .int .i64 n32, .int .i64 n33, .sl q34] true h28 fun a35 h36 =>
 (LV.val (.sl q16) = LV.val (.sl q16)) ∧
 PAppendS 6 80 q16 (some ⟨a35, 0, 1, 1, 0⟩) h36 fun q37 h38 =>
 ((some [.int .i64 0, .sl none, .int .i64 0, .int .i64 0, .int .i64 0, .sl none] : Option (List AV)) = some [.int .i64 0, .sl none, .int .i64 0, .int .i64 0, .int .i64 0, .sl none] ∧ True ∧ True) ∧ I17 [.int .i64 (wrapK .i64 (n10 + 1)), .int .i64 n11, .sl q12, .int .i64 n13, .int .i64 n14, .int .i64 n15, .sl q37] h38 ∧ m18 [.int .i64 (wrapK .i64 (n10 + 1)), .int .i64 n11, .sl q12, .int .i64 n13, .int .i64 n14, .int .i64 n15, .sl q37] h38 < m18 [.int .i64 n10, .int .i64 n11, .sl q12, .int .i64 n13, .int .i64 n14, .int .i64 n15, .sl q16] h19)
 (Q (.agg [.int .i64 n11, .sl q12, .int .i64 n13, .int .i64 n14, .int .i64 n15, .sl q16]) h19)
theorem ac253 {n1 : Int} {q2 : Option SL} {n3 : Int} {n4 : Int} {n5 : Int} {q6 : Option SL} {h : Heap} {Q : AV → Heap → Prop} (hk : vc253 n1 q2 n3 n4 n5 q6 h Q) : AC Tryz.prog 253 [.agg [.int .i64 n1, .sl q2, .int .i64 n3, .int .i64 n4, .int .i64 n5, .sl q6]] h Q :=
 AC_by (H := hintsOf [1, 2, 5] [(0, [15], [0])]) (by kernel_rfl) (by kernel_rfl) hk
def vc254 (n1 : Int) (h : Heap) (Q : AV → Heap → Prop) : Prop :=
 vif (n1 == 1)
 (Q (.tup [.agg [.int .i64 0, .int .i64 0], .bool true]) h)
 (vif (n1 == 10)
 (Q (.tup [.agg [.int .i64 0, .int .i64 0], .bool true]) h)
 (vif (n1 == 11)
 (Q (.tup [.agg [.int .i64 0, .int .i64 0], .bool true]) h)
 (vif (n1 == 2)
 (Q (.tup [.agg [.int .i64 1, .int .i64 (wrapK .i64 ((wrapK .i64 (n1 - 2)) + 1))], .bool true]) h)
 (vif (n1 == 3)
 (Q (.tup [.agg [.int .i64 1, .int .i64 (wrapK .i64 ((wrapK .i64 (n1 - 2)) + 1))], .bool true]) h)
 (vif (n1 == 4)
 (Q (.tup [.agg [.int .i64 1, .int .i64 (wrapK .i64 ((wrapK .i64 (n1 - 2)) + 1))], .bool true]) h)
 (vif (n1 == 5)
 (Q (.tup [.agg [.int .i64 1, .int .i64 (wrapK .i64 ((wrapK .i64 (n1 - 2)) + 1))], .bool true]) h)
 (vif (n1 == 6)
 (Q (.tup [.agg [.int .i64 2, .int .i64 5], .bool true]) h)
 (vif (n1 == 7)
 (Q (.tup [.agg [.int .i64 1, .int .i64 0], .bool true]) h)
 (vif (n1 == 9)
 (Q (.tup [.agg [.int .i64 1, .int .i64 0], .bool true]) h)
 (vif (n1 == 8)
 (Q (.tup [.agg [.int .i64 2, .int .i64 0], .bool true]) h)
 (Q (.tup [.agg [.int .i64 0, .int .i64 0], .bool false]) h)))))))))))
theorem ac254 {n1 : Int} {h : Heap} {Q : AV → Heap → Prop} (hk : vc254 n1 h Q) : AC Tryz.prog 254 [.int .i64 n1] h Q :=
 AC_by (H := hintsOf [2] []) (by kernel_rfl) (by kernel_rfl) hk
def vc255 (q1 : Option SL) (n2 : Int) (h : Heap) (Q : AV → Heap → Prop) : Prop :=
 ∃ (I5 : List AV → Heap → Prop) (m6 : List AV → Heap → Nat), I5 [.sl none, .int .i64 0] h ∧
 ∀ q3 : Option SL, ∀ n4 : Int, ∀ h7 : Heap, I5 [.sl q3, .int .i64 n4] h7 →
 vif (decide (n4 < (slLen q1 : Int)))
 (PNew [.int .i64 n4, .int .i64 (-1)] true h7 fun a8 h9 =>
 PAppendS 2 16 q3 (some ⟨a8, 0, 1, 1, 0⟩) h9 fun q10 h11 =>
 ∃ (I14 : List AV → Heap → Prop) (m15 : List AV → Heap → Nat), I14 [.sl q10, .int .i64 0] h11 ∧
 ∀ q12 : Option SL, ∀ n13 : Int, ∀ h16 : Heap, I14 [.sl q12, .int .i64 n13] h16 →
 vIdx q1 n4 6 fun p17 =>
 ∃ q18 : Option SL, cellsAt h16 ⟨p17.b, p17.o + 5⟩ 1 = some [.sl q18] ∧
 vif (decide (n13 < (slLen q18 : Int)))
 (PNew [.int .i64 n4, .int .i64 n13] true h16 fun a19 h20 =>
 PAppendS 2 16 q12 (some ⟨a19, 0, 1, 1, 0⟩) h20 fun q21 h22 =>
 ((some [.sl q1, .int .i64 n2] : Option (List AV)) = some [.sl q1, .int .i64 n2] ∧ True) ∧ I14 [.sl q21, .int .i64 (wrapK .i64 (n13 + 1))] h22 ∧ m15 [.sl q21, .int .i64 (wrapK .i64 (n13 + 1))] h22 < m15 [.sl q12, .int .i64 n13] h16)
 (((some [.sl q1, .int .i64 n2] : Option (List AV)) = some [.sl q1, .int .i64 n2] ∧ True) ∧ I5 [.sl q12, .int .i64 (wrapK .i64 (n4 + 1))] h16 ∧ m6 [.sl q12, .int .i64 (wrapK .i64 (n4 + 1))] h16 < m6 [.sl q3, .int .i64 n4] h7))
 (Q (.sl q3) h7)
theorem ac255 {q1 : Option SL} {n2 : Int} {h : Heap} {Q : AV → Heap → Prop} (hk : vc255 q1 n2 h Q) : AC Tryz.prog 255 [.agg [.sl q1, .int .i64 n2]] h Q :=
 AC_by (H := hintsOf [1] [(0, [3, 4], []), (2, [3, 5], [])]) (by kernel_rfl) (by kernel_rfl) hk
def vc312 (q1 : Option SL) (n2 : Int) (h : Heap) (Q : AV → Heap → Prop) : Prop :=
 vif (decide ((slLen q1 : Int) < 1))
 (Q (.bool false) h)
 (vif (decide ((slLen q1 : Int) > 32))
 (Q (.bool false) h)
 (∃ (I4 : List AV → Heap → Prop) (m5 : List AV → Heap → Nat), I4 [.int .i64 0] h ∧
 ∀ n3 : Int, ∀ h6 : Heap, I4 [.int .i64 n3] h6 →
 vif (decide (n3 < (slLen q1 : Int)))
 (vIdx q1 n3 6 fun p7 =>
 ∃ n8 : Int, ∃ q9 : Option SL, ∃ n10 n11 n12 : Int, ∃ q13 : Option SL, cellsAt h6 p7 6 = some [.int .i64 n8, .sl q9, .int .i64 n10, .int .i64 n11, .int .i64 n12, .sl q13] ∧
 AC Tryz.prog 365 [.agg [.int .i64 n8, .sl q9, .int .i64 n10, .int .i64 n11, .int .i64 n12, .sl q13], .int .i64 n3, .int .i64 n2] h6 fun v14 h15 => ∃ b16 : Bool, v14 = .bool b16 ∧
 vif (!b16)
 (Q (.bool false) h15)
 ((True) ∧ I4 [.int .i64 (wrapK .i64 (n3 + 1))] h15 ∧ m5 [.int .i64 (wrapK .i64 (n3 + 1))] h15 < m5 [.int .i64 n3] h6))
 (Q (.bool true) h6)))
theorem ac312 {q1 : Option SL} {n2 : Int} {h : Heap} {Q : AV → Heap → Prop} (hk : vc312 q1 n2 h Q) : AC Tryz.prog 312 [.sl q1, .int .i64 n2] h Q :=
 AC_by (H := hintsOf [6] [(0, [17], [])]) (by kernel_rfl) (by kernel_rfl) hk
def vc313 (q1 : Option SL) (n2 : Int) (h : Heap) (Q : AV → Heap → Prop) : Prop :=
 ∃ (I5 : List AV → Heap → Prop) (m6 : List AV → Heap → Nat), I5 [.int .i64 0, .int .i64 0] h ∧
 ∀ n3 n4 : Int, ∀ h7 : Heap, I5 [.int .i64 n3, .int .i64 n4] h7 →
 vif (decide (n4 < (slLen q1 : Int)))
 (vIdx q1 n4 6 fun p8 =>
 ∃ n9 : Int, ∃ q10 : Option SL, ∃ n11 n12 n13 : Int, ∃ q14 : Option SL, cellsAt h7 p8 6 = some [.int .i64 n9, .sl q10, .int .i64 n11, .int .i64 n12, .int .i64 n13, .sl q14] ∧
 vif (n9 == 9)
 (((some [.sl q1, .int .i64 n2] : Option (List AV)) = some [.sl q1, .int .i64 n2] ∧ True) ∧ I5 [.int .i64 (wrapK .i64 (n3 + 1)), .int .i64 (wrapK .i64 (n4 + 1))] h7 ∧ m6 [.int .i64 (wrapK .i64 (n3 + 1)), .int .i64 (wrapK .i64 (n4 + 1))] h7 < m6 [.int .i64 n3, .int .i64 n4] h7)
 (((some [.sl q1, .int .i64 n2] : Option (List AV)) = some [.sl q1, .int .i64 n2] ∧ True) ∧ I5 [.int .i64 n3, .int .i64 (wrapK .i64 (n4 + 1))] h7 ∧ m6 [.int .i64 n3, .int .i64 (wrapK .i64 (n4 + 1))] h7 < m6 [.int .i64 n3, .int .i64 n4] h7))
 (Q (.int .i64 n3) h7)
theorem ac313 {q1 : Option SL} {n2 : Int} {h : Heap} {Q : AV → Heap → Prop} (hk : vc313 q1 n2 h Q) : AC Tryz.prog 313 [.agg [.sl q1, .int .i64 n2]] h Q :=
 AC_by (H := hintsOf [1, 5] [(0, [3, 9], [])]) (by kernel_rfl) (by kernel_rfl) hk
def vc314 (p1 : Option PA) (n2 : Int) (h : Heap) (Q : AV → Heap → Prop) : Prop :=
 vPtr p1 fun p3 =>
 ∃ p4 : Option PA, cellsAt h ⟨p3.b, p3.o + 0⟩ 1 = some [.ptr p4] ∧
 AC Tryz.prog 249 [.ptr p4] h fun v5 h6 => ∃ n7 : Int, v5 = .int .i64 n7 ∧
 vif (decide (n7 > n2))
 (vPtr p1 fun p8 =>
 PStore h6 ⟨p8.b, p8.o + 1⟩ [.bool true] fun h9 =>
 Q (.int .i64 0) h9)
 (vPtr p1 fun p10 =>
 ∃ p11 : Option PA, cellsAt h6 ⟨p10.b, p10.o + 0⟩ 1 = some [.ptr p11] ∧
 AC Tryz.prog 315 [.ptr p11] h6 fun v12 h13 => ∃ b14 : Bool, v12 = .bool b14 ∧
 vif b14
 (vPtr p1 fun p15 =>
 PStore h13 ⟨p15.b, p15.o + 1⟩ [.bool true] fun h16 =>
 Q (.int .i64 0) h16)
 (Q (.int .i64 n7) h13))
theorem ac314 {p1 : Option PA} {n2 : Int} {h : Heap} {Q : AV → Heap → Prop} (hk : vc314 p1 n2 h Q) : AC Tryz.prog 314 [.ptr p1, .int .i64 n2] h Q :=
 AC_by (H := hintsOf [] []) (by kernel_rfl) (by kernel_rfl) hk
def vc316 (p1 : Option PA) (n2 : Int) (h : Heap) (Q : AV → Heap → Prop) : Prop :=
 vPtr p1 fun p3 =>
 ∃ p4 : Option PA, cellsAt h ⟨p3.b, p3.o + 0⟩ 1 = some [.ptr p4] ∧
 AC Tryz.prog 249 [.ptr p4] h fun v5 h6 => ∃ n7 : Int, v5 = .int .i64 n7 ∧
 AC Tryz.prog 314 [.ptr p1, .int .i64 2] h6 fun v8 h9 => ∃ n10 : Int, v8 = .int .i64 n10 ∧
 ∃ (I18 : List AV → Heap → Prop) (m19 : List AV → Heap → Nat), I18 [.int .i64 0, .int .i64 n7, .sl none, .int .i64 0, .int .i64 0, .int .i64 0, .sl none] h9 ∧
 ∀ n11 n12 : Int, ∀ q13 : Option SL, ∀ n14 n15 n16 : Int, ∀ q17 : Option SL, ∀ h20 : Heap, I18 [.int .i64 n11, .int .i64 n12, .sl q13, .int .i64 n14, .int .i64 n15, .int .i64 n16, .sl q17] h20 →
 vif (decide (n11 < n10))
 (vPtr p1 fun p21 =>
 ∃ p22 : Option PA, cellsAt h20 ⟨p21.b, p21.o + 0⟩ 1 = some [.ptr p22] ∧
 AC Tryz.prog 249 [.ptr p22] h20 fun v23 h24 => ∃ n25 : Int, v23 = .int .i64 n25 ∧
 (LV.val (.sl q13) = LV.val (.sl q13)) ∧
 PNew [.int .i64 n25] true h24 fun a26 h27 =>
 (LV.val (.sl q13) = LV.val (.sl q13)) ∧
 PAppendS 1 8 q13 (some ⟨a26, 0, 1, 1, 0⟩) h27 fun q28 h29 =>
 (True ∧ (some [.int .i64 0, .sl none, .int .i64 0, .int .i64 0, .int .i64 0, .sl none] : Option (List AV)) = some [.int .i64 0, .sl none, .int .i64 0, .int .i64 0, .int .i64 0, .sl none] ∧ True) ∧ I18 [.int .i64 (wrapK .i64 (n11 + 1)), .int .i64 n12, .sl q28, .int .i64 n14, .int .i64 n15, .int .i64 n16, .sl q17] h29 ∧ m19 [.int .i64 (wrapK .i64 (n11 + 1)), .int .i64 n12, .sl q28, .int .i64 n14, .int .i64 n15, .int .i64 n16, .sl q17] h29 < m19 [.int .i64 n11, .int .i64 n12, .sl q13, .int .i64 n14, .int .i64 n15, .int .i64 n16, .sl q17] h20)
 (vPtr p1 fun p30 =>
 ∃ p31 : Option PA, cellsAt h20 ⟨p30.b, p30.o + 0⟩ 1 = some [.ptr p31] ∧
 vPtr p1 fun p32 =>
 ∃ p33 : Option PA, cellsAt h20 ⟨p32.b, p32.o + 0⟩ 1 = some [.ptr p33] ∧
 AC Tryz.prog 249 [.ptr p31] h20 fun v34 h35 => ∃ n36 : Int, v34 = .int .i64 n36 ∧
 (∃ p48 : Option PA, cellsAt h35 ⟨p32.b, p32.o + 0⟩ 1 = some [.ptr p48] ∧
 LV.val (.ptr p48) = LV.val (.ptr p33)) ∧
 AC Tryz.prog 249 [.ptr p33] h35 fun v37 h38 => ∃ n39 : Int, v37 = .int .i64 n39 ∧
 vPtr p1 fun p40 =>
 ∃ p41 : Option PA, cellsAt h38 ⟨p40.b, p40.o + 0⟩ 1 = some [.ptr p41] ∧
 AC Tryz.prog 249 [.ptr p41] h38 fun v42 h43 => ∃ n44 : Int, v42 = .int .i64 n44 ∧
 AC Tryz.prog 248 [.ptr p1, .int .i64 (wrapK .i64 (n2 - 1))] h43 fun v45 h46 => ∃ q47 : Option SL, v45 = .sl q47 ∧
 Q (.agg [.int .i64 n12, .sl q13, .int .i64 n36, .int .i64 n39, .int .i64 n44, .sl q47]) h46)
theorem ac316 {p1 : Option PA} {n2 : Int} {h : Heap} {Q : AV → Heap → Prop} (hk : vc316 p1 n2 h Q) : AC Tryz.prog 316 [.ptr p1, .int .i64 n2] h Q :=
 AC_by (H := hintsOf [4, 5] [(0, [14], [1])]) (by kernel_rfl) (by kernel_rfl) hk
def vc322 (q1 : Option SL) (h : Heap) (Q : AV → Heap → Prop) : Prop :=
 vif (q1.isNone)
 (Q (.sl none) h)
 (PNew [] true h fun a2 h3 =>
 PAppendS 1 8 (some ⟨a2, 0, 0, 0, 0⟩) q1 h3 fun q4 h5 =>
 Q (.sl q4) h5)
theorem ac322 {q1 : Option SL} {h : Heap} {Q : AV → Heap → Prop} (hk : vc322 q1 h Q) : AC Tryz.prog 322 [.sl q1] h Q :=
 AC_by (H := hintsOf [] []) (by kernel_rfl) (by kernel_rfl) hk
def vc365 (n1 : Int) (q2 : Option SL) (n3 : Int) (n4 : Int) (n5 : Int) (q6 : Option SL) (n7 : Int) (n8 : Int) (h : Heap) (Q : AV → Heap → Prop) : Prop :=
 PNew [.int .i64 n7] true h fun a9 h10 =>
 AC Tryz.prog 254 [.int .i64 n1] h10 fun v11 h12 => ∃ n13 n14 : Int, ∃ b15 : Bool, v11 = .tup [.agg [.int .i64 n13, .int .i64 n14], .bool b15] ∧
 PNew [.nilfunc] true h12 fun a16 h17 =>
 PStore h17 ⟨a16, 0⟩ [.func (.func 402) [] [.ptr (some ⟨a9, 0⟩)]] fun h18 =>
 vif (!b15)
 (Q (.bool false) h18)
 (vif ((slLen q2 : Int) != n13)
 (Q (.bool false) h18)
 (AC Tryz.prog 403 [.sl q2, .func (.func 404) [] [.ptr (some ⟨a16, 0⟩)]] h18 fun v19 h20 => ∃ b21 : Bool, v19 = .bool b21 ∧
 vif b21
 (Q (.bool false) h20)
 (AC Tryz.prog 405 [.agg [.int .i64 n1, .sl q2, .int .i64 n3, .int .i64 n4, .int .i64 n5, .sl q6], .int .i64 n14] h20 fun v22 h23 => ∃ b24 : Bool, v22 = .bool b24 ∧
 vif (!b24)
 (Q (.bool false) h23)
 (AC Tryz.prog 406 [.agg [.int .i64 n1, .sl q2, .int .i64 n3, .int .i64 n4, .int .i64 n5, .sl q6], .int .i64 n8] h23 fun v25 h26 => ∃ b27 : Bool, v25 = .bool b27 ∧
 vif (!b27)
 (Q (.bool false) h26)
 (vif (n1 != 9)
 (Q (.bool ((slLen q6 : Int) == 0)) h26)
 (∃ n28 : Int, cellsAt h26 ⟨a9, 0⟩ 1 = some [.int .i64 n28] ∧
 AC Tryz.prog 312 [.sl q6, .int .i64 n28] h26 fun v29 h30 => ∃ b31 : Bool, v29 = .bool b31 ∧
 Q (.bool b31) h30))))))
theorem ac365 {n1 : Int} {q2 : Option SL} {n3 : Int} {n4 : Int} {n5 : Int} {q6 : Option SL} {n7 : Int} {n8 : Int} {h : Heap} {Q : AV → Heap → Prop} (hk : vc365 n1 q2 n3 n4 n5 q6 n7 n8 h Q) : AC Tryz.prog 365 [.agg [.int .i64 n1, .sl q2, .int .i64 n3, .int .i64 n4, .int .i64 n5, .sl q6], .int .i64 n7, .int .i64 n8] h Q :=
 AC_by (H := hintsOf [3, 7] []) (by kernel_rfl) (by kernel_rfl) hk
def vc402 (n1 : Int) (p2 : PA) (h : Heap) (Q : AV → Heap → Prop) : Prop :=
 vif (decide (n1 ≥ 0))
 (∃ n3 : Int, cellsAt h p2 1 = some [.int .i64 n3] ∧
 Q (.bool (decide (n1 < n3))) h)
 (Q (.bool false) h)
theorem ac402 {n1 : Int} {p2 : PA} {h : Heap} {Q : AV → Heap → Prop} (hk : vc402 n1 p2 h Q) : AC Tryz.prog 402 [.int .i64 n1, .ptr (some p2)] h Q :=
 AC_by (H := hintsOf [] []) (by kernel_rfl) (by kernel_rfl) hk
def vc404 (n1 : Int) (p2 : PA) (h : Heap) (Q : AV → Heap → Prop) : Prop :=
 ∃ v3 : AV, v3.one = true ∧ cellsAt h p2 1 = some (AV.cells v3) ∧
 vCallF Tryz.prog (AC Tryz.prog) v3 [.int .i64 n1] h fun v4 h5 => ∃ b6 : Bool, v4 = .bool b6 ∧
 Q (.bool (!b6)) h5
theorem ac404 {n1 : Int} {p2 : PA} {h : Heap} {Q : AV → Heap → Prop} (hk : vc404 n1 p2 h Q) : AC Tryz.prog 404 [.int .i64 n1, .ptr (some p2)] h Q :=
 AC_by (H := hintsOf [] []) (by kernel_rfl) (by kernel_rfl) hk
def vc403 (q1 : Option SL) (p2 : PA) (h : Heap) (Q : AV → Heap → Prop) : Prop :=
 AC Tryz.prog 418 [.sl q1, .func (.func 404) [] [.ptr (some p2)]] h fun v3 h4 => ∃ n5 : Int, v3 = .int .i64 n5 ∧
 Q (.bool (decide (n5 ≥ 0))) h4
theorem ac403 {q1 : Option SL} {p2 : PA} {h : Heap} {Q : AV → Heap → Prop} (hk : vc403 q1 p2 h Q) : AC Tryz.prog 403 [.sl q1, .func (.func 404) [] [.ptr (some p2)]] h Q :=
 AC_by (H := hintsOf [] []) (by kernel_rfl) (by kernel_rfl) hk
def vc418 (q1 : Option SL) (p2 : PA) (h : Heap) (Q : AV → Heap → Prop) : Prop :=
 ∃ (I4 : List AV → Heap → Prop) (m5 : List AV → Heap → Nat), I4 [.int .i64 0] h ∧
 ∀ n3 : Int, ∀ h6 : Heap, I4 [.int .i64 n3] h6 →
 vif (decide (n3 < (slLen q1 : Int)))
 (vIdx q1 n3 1 fun p7 =>
 ∃ n8 : Int, cellsAt h6 p7 1 = some [.int .i64 n8] ∧
 AC Tryz.prog 404 [.int .i64 n8, .ptr (some p2)] h6 fun v9 h10 => ∃ b11 : Bool, v9 = .bool b11 ∧
 vif b11
 (Q (.int .i64 n3) h10)
 ((True) ∧ I4 [.int .i64 (wrapK .i64 (n3 + 1))] h10 ∧ m5 [.int .i64 (wrapK .i64 (n3 + 1))] h10 < m5 [.int .i64 n3] h6))
 (Q (.int .i64 (-1)) h6)
theorem ac418 {q1 : Option SL} {p2 : PA} {h : Heap} {Q : AV → Heap → Prop} (hk : vc418 q1 p2 h Q) : AC Tryz.prog 418 [.sl q1, .func (.func 404) [] [.ptr (some p2)]] h Q :=
 AC_by (H := hintsOf [] [(0, [8], [])]) (by kernel_rfl) (by kernel_rfl) hk
def vc405 (n1 : Int) (q2 : Option SL) (n3 : Int) (n4 : Int) (n5 : Int) (q6 : Option SL) (n7 : Int) (h : Heap) (Q : AV → Heap → Prop) : Prop :=
 vif (n7 == 0)
 (Q (.bool ((n3 == 0) && ((n4 == 0) && true))) h)
 (AC Tryz.prog 419 [.agg [.int .i64 n3, .int .i64 n4]] h fun v8 h9 => ∃ n10 : Int, v8 = .int .i64 n10 ∧
 Q (.bool (n10 == n7)) h9)
theorem ac405 {n1 : Int} {q2 : Option SL} {n3 : Int} {n4 : Int} {n5 : Int} {q6 : Option SL} {n7 : Int} {h : Heap} {Q : AV → Heap → Prop} (hk : vc405 n1 q2 n3 n4 n5 q6 n7 h Q) : AC Tryz.prog 405 [.agg [.int .i64 n1, .sl q2, .int .i64 n3, .int .i64 n4, .int .i64 n5, .sl q6], .int .i64 n7] h Q :=
 AC_by (H := hintsOf [2] []) (by kernel_rfl) (by kernel_rfl) hk
def vc406 (n1 : Int) (q2 : Option SL) (n3 : Int) (n4 : Int) (n5 : Int) (q6 : Option SL) (n7 : Int) (h : Heap) (Q : AV → Heap → Prop) : Prop :=
 vif (n1 == 1)
 (vif (!(n7 != (-1)))
 (vif (decide (n5 ≥ 0))
 (Q (.bool (decide (n5 < 4))) h)
 (Q (.bool false) h))
 (Q (.bool false) h))
 (vif (n1 == 9)
 (vif (!(n7 != (-1)))
 (vif (decide (n5 ≥ 1))
 (Q (.bool (decide (n5 ≤ 64))) h)
 (Q (.bool false) h))
 (Q (.bool false) h))
 (vif (n1 == 10)
 (vif (n7 != (-1))
 (Q (.bool (n5 == 0)) h)
 (Q (.bool false) h))
 (vif (n1 == 11)
 (vif (n7 != (-1))
 (vif (decide (n5 ≥ 0))
 (Q (.bool (decide (n5 < n7))) h)
 (Q (.bool false) h))
 (Q (.bool false) h))
 (Q (.bool (n5 == 0)) h))))
theorem ac406 {n1 : Int} {q2 : Option SL} {n3 : Int} {n4 : Int} {n5 : Int} {q6 : Option SL} {n7 : Int} {h : Heap} {Q : AV → Heap → Prop} (hk : vc406 n1 q2 n3 n4 n5 q6 n7 h Q) : AC Tryz.prog 406 [.agg [.int .i64 n1, .sl q2, .int .i64 n3, .int .i64 n4, .int .i64 n5, .sl q6], .int .i64 n7] h Q :=
 AC_by (H := hintsOf [2] []) (by kernel_rfl) (by kernel_rfl) hk
def vc419 (n1 : Int) (n2 : Int) (h : Heap) (Q : AV → Heap → Prop) : Prop :=
 AC Tryz.prog 425 [.agg [.int .i64 n1, .int .i64 n2]] h fun v3 h4 => ∃ n5 : Int, v3 = .int .i64 n5 ∧
 vif (n5 != 0)
 (Q (.int .i64 0) h4)
 (AC Tryz.prog 426 [.int .i64 n1] h4 fun v6 h7 => ∃ n8 : Int, v6 = .int .i64 n8 ∧
 Q (.int .i64 n8) h7)
theorem ac419 {n1 : Int} {n2 : Int} {h : Heap} {Q : AV → Heap → Prop} (hk : vc419 n1 n2 h Q) : AC Tryz.prog 419 [.agg [.int .i64 n1, .int .i64 n2]] h Q :=
 AC_by (H := hintsOf [1] []) (by kernel_rfl) (by kernel_rfl) hk
def vc425 (n1 : Int) (n2 : Int) (h : Heap) (Q : AV → Heap → Prop) : Prop :=
 AC Tryz.prog 427 [.int .i64 n1] h fun v3 h4 => ∃ n5 n6 : Int, v3 = .tup [.int .i64 n5, .int .i64 n6] ∧
 AC Tryz.prog 426 [.int .i64 n1] h4 fun v7 h8 => ∃ n9 : Int, v7 = .int .i64 n9 ∧
 vif (n9 == 0)
 (Q (.int .i64 160) h8)
 (vif (decide (n2 < n5))
 (Q (.int .i64 160) h8)
 (vif (decide (n2 > n6))
 (Q (.int .i64 160) h8)
 (Q (.int .i64 0) h8)))
theorem ac425 {n1 : Int} {n2 : Int} {h : Heap} {Q : AV → Heap → Prop} (hk : vc425 n1 n2 h Q) : AC Tryz.prog 425 [.agg [.int .i64 n1, .int .i64 n2]] h Q :=
 AC_by (H := hintsOf [1] []) (by kernel_rfl) (by kernel_rfl) hk
def vc426 (n1 : Int) (h : Heap) (Q : AV → Heap → Prop) : Prop :=
 vif (decide (n1 < 1))
 (Q (.int .i64 0) h)
 (vif (decide (n1 ≤ 8))
 (Q (.int .i64 1) h)
 (vif (decide (n1 ≤ 12))
 (Q (.int .i64 2) h)
 (vif (decide (n1 ≤ 15))
 (Q (.int .i64 3) h)
 (vif (decide (n1 ≤ 19))
 (Q (.int .i64 4) h)
 (vif (decide (n1 ≤ 23))
 (Q (.int .i64 5) h)
 (Q (.int .i64 0) h))))))
theorem ac426 {n1 : Int} {h : Heap} {Q : AV → Heap → Prop} (hk : vc426 n1 h Q) : AC Tryz.prog 426 [.int .i64 n1] h Q :=
 AC_by (H := hintsOf [] []) (by kernel_rfl) (by kernel_rfl) hk
def vc427 (n1 : Int) (h : Heap) (Q : AV → Heap → Prop) : Prop :=
 vif (n1 == 4)
 (Q (.tup [.int .i64 1, .int .i64 1048575]) h)
 (vif (n1 == 5)
 (Q (.tup [.int .i64 1, .int .i64 1048575]) h)
 (vif (n1 == 6)
 (Q (.tup [.int .i64 1, .int .i64 1048575]) h)
 (vif (n1 == 1)
 (Q (.tup [.int .i64 0, .int .i64 1048575]) h)
 (vif (n1 == 2)
 (Q (.tup [.int .i64 0, .int .i64 1048575]) h)
 (vif (n1 == 7)
 (Q (.tup [.int .i64 0, .int .i64 1048575]) h)
 (vif (n1 == 8)
 (Q (.tup [.int .i64 0, .int .i64 1048575]) h)
 (vif (n1 == 9)
 (Q (.tup [.int .i64 0, .int .i64 1048575]) h)
 (vif (n1 == 10)
 (Q (.tup [.int .i64 0, .int .i64 1048575]) h)
 (vif (n1 == 11)
 (Q (.tup [.int .i64 0, .int .i64 1048575]) h)
 (vif (n1 == 13)
 (Q (.tup [.int .i64 0, .int .i64 8]) h)
 (vif (n1 == 14)
 (Q (.tup [.int .i64 0, .int .i64 8]) h)
 (Q (.tup [.int .i64 0, .int .i64 0]) h))))))))))))
theorem ac427 {n1 : Int} {h : Heap} {Q : AV → Heap → Prop} (hk : vc427 n1 h Q) : AC Tryz.prog 427 [.int .i64 n1] h Q :=
 AC_by (H := hintsOf [] []) (by kernel_rfl) (by kernel_rfl) hk
def vc119 (n1 : Int) (h : Heap) (Q : AV → Heap → Prop) : Prop :=
 AC Tryz.prog 187 [.int .i64 n1] h fun v2 h3 => ∃ s4 : List UInt8, v2 = .str s4 ∧
 Q (.str s4) h3
theorem ac119 {n1 : Int} {h : Heap} {Q : AV → Heap → Prop} (hk : vc119 n1 h Q) : AC Tryz.prog 119 [.int .i64 n1] h Q :=
 AC_by (H := hintsOf [] []) (by kernel_rfl) (by kernel_rfl) hk
def vc187 (n1 : Int) (h : Heap) (Q : AV → Heap → Prop) : Prop :=
 AC Tryz.prog 260 [.int .i64 n1, .int .i64 10] h fun v2 h3 => ∃ s4 : List UInt8, v2 = .str s4 ∧
 Q (.str s4) h3
theorem ac187 {n1 : Int} {h : Heap} {Q : AV → Heap → Prop} (hk : vc187 n1 h Q) : AC Tryz.prog 187 [.int .i64 n1] h Q :=
 AC_by (H := hintsOf [] []) (by kernel_rfl) (by kernel_rfl) hk
def vc260 (n1 : Int) (n2 : Int) (h : Heap) (Q : AV → Heap → Prop) : Prop :=
 vif (n2 == 10)
 (vif (decide (0 ≤ n1))
 (vif (decide (n1 < 100))
 (AC Tryz.prog 326 [.int .i64 n1] h fun v3 h4 => ∃ s5 : List UInt8, v3 = .str s5 ∧
 Q (.str s5) h4)
 (PNew (List.replicate 24 (AV.int .u8 0)) true h fun a6 h7 =>
 vif (decide (n1 < 0))
 (AC Tryz.prog 327 [.int .u64 (wrapK .u64 (0 - (wrapK .u64 n1)))] h7 fun v8 h9 => ∃ n10 : Int, v8 = .int .i64 n10 ∧
 PSlice 1 (some ⟨a6, 0, 24, 24, 0⟩) 1 (some (wrapK .i64 (1 + n10))) none fun q11 =>
 AC Tryz.prog 328 [.sl q11, .int .u64 (wrapK .u64 (0 - (wrapK .u64 n1)))] h9 fun v12 h13 => v12 = .tup [] ∧
 vif (decide (n1 < 0))
 (PStore h13 ⟨a6, 0⟩ [.int .u8 45] fun h14 =>
 PSlice 1 (some ⟨a6, 0, 24, 24, 0⟩) 0 (some (wrapK .i64 (1 + n10))) none fun q15 =>
 PStr h14 q15 fun s16 =>
 Q (.str s16) h14)
 (PSlice 1 (some ⟨a6, 0, 24, 24, 0⟩) 1 (some (wrapK .i64 (1 + n10))) none fun q17 =>
 PStr h13 q17 fun s18 =>
 Q (.str s18) h13))
 (AC Tryz.prog 327 [.int .u64 (wrapK .u64 n1)] h7 fun v19 h20 => ∃ n21 : Int, v19 = .int .i64 n21 ∧
 PSlice 1 (some ⟨a6, 0, 24, 24, 0⟩) 1 (some (wrapK .i64 (1 + n21))) none fun q22 =>
 AC Tryz.prog 328 [.sl q22, .int .u64 (wrapK .u64 n1)] h20 fun v23 h24 => v23 = .tup [] ∧
 vif (decide (n1 < 0))
 (PStore h24 ⟨a6, 0⟩ [.int .u8 45] fun h25 =>
 PSlice 1 (some ⟨a6, 0, 24, 24, 0⟩) 0 (some (wrapK .i64 (1 + n21))) none fun q26 =>
 PStr h25 q26 fun s27 =>
 Q (.str s27) h25)
 (PSlice 1 (some ⟨a6, 0, 24, 24, 0⟩) 1 (some (wrapK .i64 (1 + n21))) none fun q28 =>
 PStr h24 q28 fun s29 =>
 Q (.str s29) h24))))
 (PNew (List.replicate 24 (AV.int .u8 0)) true h fun a30 h31 =>
 vif (decide (n1 < 0))
 (AC Tryz.prog 327 [.int .u64 (wrapK .u64 (0 - (wrapK .u64 n1)))] h31 fun v32 h33 => ∃ n34 : Int, v32 = .int .i64 n34 ∧
 PSlice 1 (some ⟨a30, 0, 24, 24, 0⟩) 1 (some (wrapK .i64 (1 + n34))) none fun q35 =>
 AC Tryz.prog 328 [.sl q35, .int .u64 (wrapK .u64 (0 - (wrapK .u64 n1)))] h33 fun v36 h37 => v36 = .tup [] ∧
 vif (decide (n1 < 0))
 (PStore h37 ⟨a30, 0⟩ [.int .u8 45] fun h38 =>
 PSlice 1 (some ⟨a30, 0, 24, 24, 0⟩) 0 (some (wrapK .i64 (1 + n34))) none fun q39 =>
 PStr h38 q39 fun s40 =>
 Q (.str s40) h38)
 (PSlice 1 (some ⟨a30, 0, 24, 24, 0⟩) 1 (some (wrapK .i64 (1 + n34))) none fun q41 =>
 PStr h37 q41 fun s42 =>
 Q (.str s42) h37))
 (AC Tryz.prog 327 [.int .u64 (wrapK .u64 n1)] h31 fun v43 h44 => ∃ n45 : Int, v43 = .int .i64 n45 ∧
 PSlice 1 (some ⟨a30, 0, 24, 24, 0⟩) 1 (some (wrapK .i64 (1 + n45))) none fun q46 =>
 AC Tryz.prog 328 [.sl q46, .int .u64 (wrapK .u64 n1)] h44 fun v47 h48 => v47 = .tup [] ∧
 vif (decide (n1 < 0))
 (PStore h48 ⟨a30, 0⟩ [.int .u8 45] fun h49 =>
 PSlice 1 (some ⟨a30, 0, 24, 24, 0⟩) 0 (some (wrapK .i64 (1 + n45))) none fun q50 =>
 PStr h49 q50 fun s51 =>
 Q (.str s51) h49)
 (PSlice 1 (some ⟨a30, 0, 24, 24, 0⟩) 1 (some (wrapK .i64 (1 + n45))) none fun q52 =>
 PStr h48 q52 fun s53 =>
 Q (.str s53) h48))))
 (AC Tryz.prog 329 [.sl none, .int .u64 (wrapK .u64 n1), .int .i64 n2, .bool (decide (n1 < 0)), .bool false] h fun v54 h55 => ∃ q56 : Option SL, ∃ s57 : List UInt8, v54 = .tup [.sl q56, .str s57] ∧
 Q (.str s57) h55)
theorem ac260 {n1 : Int} {n2 : Int} {h : Heap} {Q : AV → Heap → Prop} (hk : vc260 n1 n2 h Q) : AC Tryz.prog 260 [.int .i64 n1, .int .i64 n2] h Q :=
 AC_by (H := hintsOf [] []) (by kernel_rfl) (by kernel_rfl) hk
def vc326 (n1 : Int) (h : Heap) (Q : AV → Heap → Prop) : Prop :=
 vif (decide (n1 < 10))
 (strSlice [48, 49, 50, 51, 52, 53, 54, 55, 56, 57, 97, 98, 99, 100, 101, 102, 103, 104, 105, 106, 107, 108, 109, 110, 111, 112, 113, 114, 115, 116, 117, 118, 119, 120, 121, 122] n1 (some (wrapK .i64 (n1 + 1))) fun s2 =>
 Q (.str s2) h)
 (strSlice [48, 48, 48, 49, 48, 50, 48, 51, 48, 52, 48, 53, 48, 54, 48, 55, 48, 56, 48, 57, 49, 48, 49, 49, 49, 50, 49, 51, 49, 52, 49, 53, 49, 54, 49, 55, 49, 56, 49, 57, 50, 48, 50, 49, 50, 50, 50, 51, 50, 52, 50, 53, 50, 54, 50, 55, 50, 56, 50, 57, 51, 48, 51, 49, 51, 50, 51, 51, 51, 52, 51, 53, 51, 54, 51, 55, 51, 56, 51, 57, 52, 48, 52, 49, 52, 50, 52, 51, 52, 52, 52, 53, 52, 54, 52, 55, 52, 56, 52, 57, 53, 48, 53, 49, 53, 50, 53, 51, 53, 52, 53, 53, 53, 54, 53, 55, 53, 56, 53, 57, 54, 48, 54, 49, 54, 50, 54, 51, 54, 52, 54, 53, 54, 54, 54, 55, 54, 56, 54, 57, 55, 48, 55, 49, 55, 50, 55, 51, 55, 52, 55, 53, 55, 54, 55, 55, 55, 56, 55, 57, 56, 48, 56, 49, 56, 50, 56, 51, 56, 52, 56, 53, 56, 54, 56, 55, 56, 56, 56, 57, 57, 48, 57, 49, 57, 50, 57, 51, 57, 52, 57, 53, 57, 54, 57, 55, 57, 56, 57, 57] (wrapK .i64 (n1 * 2)) (some (wrapK .i64 ((wrapK .i64 (n1 * 2)) + 2))) fun s3 =>
 Q (.str s3) h)
theorem ac326 {n1 : Int} {h : Heap} {Q : AV → Heap → Prop} (hk : vc326 n1 h Q) : AC Tryz.prog 326 [.int .i64 n1] h Q :=
 AC_by (H := hintsOf [] []) (by kernel_rfl) (by kernel_rfl) hk
end Go.Proofs
