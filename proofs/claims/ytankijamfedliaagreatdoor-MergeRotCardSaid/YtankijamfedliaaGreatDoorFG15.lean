import Derived.Test.YtankijamfedliaaGreatDoorFG10
import Derived.Test.YtankijamfedliaaGreatDoorProg
import Derived.KernelRfl
namespace Go.Proofs
open Go.Ab
set_option maxRecDepth 100000
set_option linter.unusedVariables false
def vc25 (p1 : Option PA) (n2 : Int) (h : Heap) (Q : AV → Heap → Prop) : Prop :=
 vif (decide (n2 < 0))
 (Q (.tup [.agg [.int .i64 0, .int .i64 0, .int .i64 0, .int .i64 0], .bool false]) h)
 (AC Tryz.prog 21 [.ptr p1] h fun v3 h4 => ∃ n5 : Int, v3 = .int .i64 n5 ∧
 vif (decide (n2 ≥ n5))
 (Q (.tup [.agg [.int .i64 0, .int .i64 0, .int .i64 0, .int .i64 0], .bool false]) h4)
 (vPtr p1 fun p6 =>
 ∃ q7 : Option SL, cellsAt h4 ⟨p6.b, p6.o + 4⟩ 1 = some [.sl q7] ∧
 vIdx q7 n2 4 fun p8 =>
 ∃ n9 n10 : Int, ∃ n11 n12 : Int, cellsAt h4 p8 4 = some [.int .i64 n9, .int .i64 n10, .int .i64 n11, .int .i64 n12] ∧
 Q (.tup [.agg [.int .i64 n9, .int .i64 n10, .int .i64 n11, .int .i64 n12], .bool true]) h4))
theorem ac25 {p1 : Option PA} {n2 : Int} {h : Heap} {Q : AV → Heap → Prop} (hk : vc25 p1 n2 h Q) : AC Tryz.prog 25 [.ptr p1, .int .i64 n2] h Q :=
 AC_by (H := hintsOf [4] []) (by kernel_rfl) (by kernel_rfl) hk
def vc55 (p1 : Option PA) (n2 : Int) (h : Heap) (Q : AV → Heap → Prop) : Prop :=
 vif (p1.isNone)
 (Q (.tup [.sl none, .int .i64 6]) h)
 (vPtr p1 fun p3 =>
 ∃ p4 : Option PA, cellsAt h ⟨p3.b, p3.o + 0 + 0⟩ 1 = some [.ptr p4] ∧
 vif (p4.isNone)
 (Q (.tup [.sl none, .int .i64 6]) h)
 (AC Tryz.prog 25 [.ptr p1, .int .i64 n2] h fun v5 h6 => ∃ n7 n8 : Int, ∃ n9 n10 : Int, ∃ b11 : Bool, v5 = .tup [.agg [.int .i64 n7, .int .i64 n8, .int .i64 n9, .int .i64 n10], .bool b11] ∧
 vif (!b11)
 (Q (.tup [.sl none, .int .i64 4]) h6)
 (vPtr p1 fun p12 =>
 ∃ p13 : Option PA, ∃ s14 : List UInt8, ∃ n15 : Int, cellsAt h6 ⟨p12.b, p12.o + 0⟩ 3 = some [.ptr p13, .str s14, .int .i64 n15] ∧
 AC Tryz.prog 87 [.agg [.ptr p13, .str s14, .int .i64 n15], .int .i64 n2] h6 fun v16 h17 => ∃ q18 : Option SL, ∃ n19 : Int, v16 = .tup [.sl q18, .int .i64 n19] ∧
 vif (n19 != 0)
 (Q (.tup [.sl none, .int .i64 n19]) h17)
 (vif ((slLen q18 : Int) == 0)
 (Q (.tup [.sl none, .int .i64 80]) h17)
 (AC Tryz.prog 74 [.sl q18] h17 fun v20 h21 => ∃ b22 : Bool, v20 = .bool b22 ∧
 vif (!b22)
 (Q (.tup [.sl none, .int .i64 80]) h21)
 (vIdx q18 0 4 fun p23 =>
 ∃ n24 n25 : Int, ∃ n26 n27 : Int, cellsAt h21 p23 4 = some [.int .i64 n24, .int .i64 n25, .int .i64 n26, .int .i64 n27] ∧
 vif (!(((n24 == n7) && ((n25 == n8) && true)) && (((n26 == n9) && ((n27 == n10) && true)) && true)))
 (Q (.tup [.sl none, .int .i64 80]) h21)
 (Q (.tup [.sl q18, .int .i64 0]) h21)))))))
theorem ac55 {p1 : Option PA} {n2 : Int} {h : Heap} {Q : AV → Heap → Prop} (hk : vc55 p1 n2 h Q) : AC Tryz.prog 55 [.ptr p1, .int .i64 n2] h Q :=
 AC_by (H := hintsOf [6] []) (by kernel_rfl) (by kernel_rfl) hk
def vc41 (p1 : Option PA) (s2 : List UInt8) (n3 : Int) (h : Heap) (Q : AV → Heap → Prop) : Prop :=
 AC Tryz.prog 72 [.int .i64 n3] h fun v4 h5 => ∃ b6 : Bool, v4 = .bool b6 ∧
 vif (!b6)
 (Q (.tup [.ptr none, .int .i64 1]) h5)
 (AC Tryz.prog 78 [.ptr p1, .str s2] h5 fun v7 h8 => ∃ n9 n10 : Int, v7 = .tup [.int .i64 n9, .int .i64 n10] ∧
 vif (n10 != 0)
 (Q (.tup [.ptr none, .int .i64 n10]) h8)
 (PNew [.ptr p1, .str s2, .int .i64 n3, .int .i64 0, .sl none] true h8 fun a11 h12 =>
 AC Tryz.prog 79 [.ptr (some ⟨a11, 0⟩), .int .i64 n9] h12 fun v13 h14 => ∃ n15 n16 n17 : Int, v13 = .tup [.int .i64 n15, .int .i64 n16, .int .i64 n17] ∧
 vif (n17 == 0)
 (AC Tryz.prog 80 [.ptr (some ⟨a11, 0⟩), .int .i64 n15, .int .i64 n16] h14 fun v18 h19 => ∃ n20 : Int, v18 = .int .i64 n20 ∧
 vif (n20 != 0)
 (Q (.tup [.ptr none, .int .i64 n20]) h19)
 (Q (.tup [.ptr (some ⟨a11, 0⟩), .int .i64 0]) h19))
 (vif (n17 != 0)
 (Q (.tup [.ptr none, .int .i64 n17]) h14)
 (Q (.tup [.ptr (some ⟨a11, 0⟩), .int .i64 0]) h14))))
theorem ac41 {p1 : Option PA} {s2 : List UInt8} {n3 : Int} {h : Heap} {Q : AV → Heap → Prop} (hk : vc41 p1 s2 n3 h Q) : AC Tryz.prog 41 [.ptr p1, .str s2, .int .i64 n3] h Q :=
 AC_by (H := hintsOf [] []) (by kernel_rfl) (by kernel_rfl) hk
def vc53 (p1 : Option PA) (h : Heap) (Q : AV → Heap → Prop) : Prop :=
 vif (p1.isNone)
 (Q (.str []) h)
 (vPtr p1 fun p2 =>
 ∃ s3 : List UInt8, cellsAt h ⟨p2.b, (p2.o + 0) + 1⟩ 1 = some [.str s3] ∧
 Q (.str s3) h)
theorem ac53 {p1 : Option PA} {h : Heap} {Q : AV → Heap → Prop} (hk : vc53 p1 h Q) : AC Tryz.prog 53 [.ptr p1] h Q :=
 AC_by (H := hintsOf [] []) (by kernel_rfl) (by kernel_rfl) hk
def vc21 (p1 : Option PA) (h : Heap) (Q : AV → Heap → Prop) : Prop :=
 vif (p1.isNone)
 (Q (.int .i64 0) h)
 (vPtr p1 fun p2 =>
 ∃ q3 : Option SL, cellsAt h ⟨p2.b, p2.o + 4⟩ 1 = some [.sl q3] ∧
 Q (.int .i64 (slLen q3 : Int)) h)
theorem ac21 {p1 : Option PA} {h : Heap} {Q : AV → Heap → Prop} (hk : vc21 p1 h Q) : AC Tryz.prog 21 [.ptr p1] h Q :=
 AC_by (H := hintsOf [] []) (by kernel_rfl) (by kernel_rfl) hk
def vc43 (p1 : Option PA) (n2 : Int) (n3 : Int) (n4 : Int) (n5 : Int) (h : Heap) (Q : AV → Heap → Prop) : Prop :=
 PNew [.ptr p1] true h fun a6 h7 =>
 PNew [.int .i64 n2, .int .i64 n3, .int .i64 n4, .int .i64 n5] true h7 fun a8 h9 =>
 ∃ p10 : Option PA, cellsAt h9 ⟨a6, 0⟩ 1 = some [.ptr p10] ∧
 AC Tryz.prog 21 [.ptr p10] h9 fun v11 h12 => ∃ n13 : Int, v11 = .int .i64 n13 ∧
 AC Tryz.prog 45 [.int .i64 n13, .func (.func 83) [] [.ptr (some ⟨a6, 0⟩), .ptr (some ⟨a8, 0⟩)]] h12 fun v14 h15 => ∃ n16 : Int, v14 = .int .i64 n16 ∧
 Q (.int .i64 (maxI2 0 (wrapK .i64 (n16 - 1)))) h15
theorem ac43 {p1 : Option PA} {n2 : Int} {n3 : Int} {n4 : Int} {n5 : Int} {h : Heap} {Q : AV → Heap → Prop} (hk : vc43 p1 n2 n3 n4 n5 h Q) : AC Tryz.prog 43 [.ptr p1, .agg [.int .i64 n2, .int .i64 n3, .int .i64 n4, .int .i64 n5]] h Q :=
 AC_by (H := hintsOf [] []) (by kernel_rfl) (by kernel_rfl) hk
def vc40 (p1 : Option PA) (s2 : List UInt8) (n3 : Int) (q4 : Option SL) (h : Heap) (Q : AV → Heap → Prop) : Prop :=
 AC Tryz.prog 72 [.int .i64 n3] h fun v5 h6 => ∃ b7 : Bool, v5 = .bool b7 ∧
 vif (!b7)
 (Q (.int .i64 1) h6)
 (AC Tryz.prog 73 [.int .i64 n3, .sl q4] h6 fun v8 h9 => ∃ q10 : Option SL, ∃ n11 : Int, v8 = .tup [.sl q10, .int .i64 n11] ∧
 vif (n11 != 0)
 (Q (.int .i64 n11) h9)
 (AC Tryz.prog 74 [.sl q4] h9 fun v12 h13 => ∃ b14 : Bool, v12 = .bool b14 ∧
 vif (!b14)
 (Q (.int .i64 1) h13)
 (AC Tryz.prog 75 [.ptr p1, .str s2] h13 fun v15 h16 => ∃ n17 : Int, v15 = .int .i64 n17 ∧
 vif (n17 != 0)
 (Q (.int .i64 n17) h16)
 (∃ (I19 : List AV → Heap → Prop) (m20 : List AV → Heap → Nat), I19 [.int .i64 0] h16 ∧
 ∀ n18 : Int, ∀ h21 : Heap, I19 [.int .i64 n18] h21 →
 vif (decide (n18 < (slLen q10 : Int)))
 (vIdx q10 n18 1 fun p22 =>
 ∃ q23 : Option SL, cellsAt h21 p22 1 = some [.sl q23] ∧
 AC Tryz.prog 76 [.ptr p1, .str s2, .sl q23] h21 fun v24 h25 => ∃ n26 : Int, v24 = .int .i64 n26 ∧
 vif (n26 != 0)
 (Q (.int .i64 n26) h25)
 ((True) ∧ I19 [.int .i64 (wrapK .i64 (n18 + 1))] h25 ∧ m20 [.int .i64 (wrapK .i64 (n18 + 1))] h25 < m20 [.int .i64 n18] h21))
 (AC Tryz.prog 77 [.ptr p1, .str s2] h21 fun v27 h28 => ∃ n29 : Int, v27 = .int .i64 n29 ∧
 Q (.int .i64 n29) h28)))))
theorem ac40 {p1 : Option PA} {s2 : List UInt8} {n3 : Int} {q4 : Option SL} {h : Heap} {Q : AV → Heap → Prop} (hk : vc40 p1 s2 n3 q4 h Q) : AC Tryz.prog 40 [.ptr p1, .str s2, .int .i64 n3, .sl q4] h Q :=
 AC_by (H := hintsOf [] [(0, [38], [])]) (by kernel_rfl) (by kernel_rfl) hk
def vc37 (n1 : Int) (h : Heap) (Q : AV → Heap → Prop) : Prop :=
 vif (decide (n1 < 0))
 (Q (.tup [.ptr none, .int .i64 1]) h)
 (vif (decide (n1 > 16384))
 (Q (.tup [.ptr none, .int .i64 1]) h)
 (PNew [.map (some (List.length h)), .sl none, .int .i64 n1, .int .i64 (-1), .bool false] true (h ++ [.mp [] 0]) fun a2 h3 =>
 Q (.tup [.ptr (some ⟨a2, 0⟩), .int .i64 0]) h3))
theorem ac37 {n1 : Int} {h : Heap} {Q : AV → Heap → Prop} (hk : vc37 n1 h Q) : AC Tryz.prog 37 [.int .i64 n1] h Q :=
 AC_by (H := hintsOf [] []) (by kernel_rfl) (by kernel_rfl) hk
def vc106 (p1 : Option PA) (h : Heap) (Q : AV → Heap → Prop) : Prop :=
 AC Tryz.prog 126 [.ptr p1] h fun v2 h3 => ∃ q4 : Option SL, v2 = .sl q4 ∧
 ∃ (I7 : List AV → Heap → Prop) (m8 : List AV → Heap → Nat), I7 [.int .i64 0, .int .i64 0] h3 ∧
 ∀ n5 n6 : Int, ∀ h9 : Heap, I7 [.int .i64 n5, .int .i64 n6] h9 →
 vif (decide (n6 < (slLen q4 : Int)))
 (vIdx q4 n6 2 fun p10 =>
 ∃ s11 : List UInt8, ∃ n12 : Int, cellsAt h9 p10 2 = some [.str s11, .int .i64 n12] ∧
 (True) ∧ I7 [.int .i64 (wrapK .i64 (n5 + n12)), .int .i64 (wrapK .i64 (n6 + 1))] h9 ∧ m8 [.int .i64 (wrapK .i64 (n5 + n12)), .int .i64 (wrapK .i64 (n6 + 1))] h9 < m8 [.int .i64 n5, .int .i64 n6] h9)
 (Q (.int .i64 n5) h9)
theorem ac106 {p1 : Option PA} {h : Heap} {Q : AV → Heap → Prop} (hk : vc106 p1 h Q) : AC Tryz.prog 106 [.ptr p1] h Q :=
 AC_by (H := hintsOf [5] [(0, [3, 9], [])]) (by kernel_rfl) (by kernel_rfl) hk
def vc129 (p1 : Option PA) (s2 : List UInt8) (n3 : Int) (h : Heap) (Q : AV → Heap → Prop) : Prop :=
 AC Tryz.prog 105 [.ptr p1, .str s2] h fun v4 h5 => ∃ p6 : Option PA, ∃ n7 : Int, v4 = .tup [.ptr p6, .int .i64 n7] ∧
 vif (n7 != 0)
 (Q (.tup [.sl none, .int .i64 n7]) h5)
 (vif (decide (n3 < 0))
 (Q (.tup [.sl none, .int .i64 4]) h5)
 (vPtr p6 fun p8 =>
 ∃ q9 : Option SL, cellsAt h5 ⟨p8.b, p8.o + 1⟩ 1 = some [.sl q9] ∧
 vif (decide (n3 ≥ (slLen q9 : Int)))
 (Q (.tup [.sl none, .int .i64 4]) h5)
 (vPtr p6 fun p10 =>
 ∃ q11 : Option SL, cellsAt h5 ⟨p10.b, p10.o + 1⟩ 1 = some [.sl q11] ∧
 vIdx q11 n3 64 fun p12 =>
 PSlice 1 (some ⟨p12.b, p12.o, 64, 64, 0⟩) 0 none none fun q13 =>
 AC Tryz.prog 131 [.sl q13] h5 fun v14 h15 => ∃ q16 : Option SL, v14 = .sl q16 ∧
 Q (.tup [.sl q16, .int .i64 0]) h15)))
theorem ac129 {p1 : Option PA} {s2 : List UInt8} {n3 : Int} {h : Heap} {Q : AV → Heap → Prop} (hk : vc129 p1 s2 n3 h Q) : AC Tryz.prog 129 [.ptr p1, .str s2, .int .i64 n3] h Q :=
 AC_by (H := hintsOf [] []) (by kernel_rfl) (by kernel_rfl) hk
def vc28 (q1 : Option SL) (h : Heap) (Q : AV → Heap → Prop) : Prop :=
 ∃ (I3 : List AV → Heap → Prop) (m4 : List AV → Heap → Nat), I3 [.int .i64 0] h ∧
 ∀ n2 : Int, ∀ h5 : Heap, I3 [.int .i64 n2] h5 →
 vif (decide (n2 < (slLen q1 : Int)))
 (vIdx q1 n2 4 fun p6 =>
 ∃ n7 n8 : Int, ∃ n9 n10 : Int, cellsAt h5 p6 4 = some [.int .i64 n7, .int .i64 n8, .int .i64 n9, .int .i64 n10] ∧
 AC Tryz.prog 61 [.agg [.int .i64 n7, .int .i64 n8, .int .i64 n9, .int .i64 n10]] h5 fun v11 h12 => ∃ n13 : Int, v11 = .int .i64 n13 ∧
 vif (n13 != 0)
 (Q (.int .i64 n13) h12)
 ((True) ∧ I3 [.int .i64 (wrapK .i64 (n2 + 1))] h12 ∧ m4 [.int .i64 (wrapK .i64 (n2 + 1))] h12 < m4 [.int .i64 n2] h5))
 (vif (decide ((slLen q1 : Int) > 16384))
 (Q (.int .i64 3) h5)
 (Q (.int .i64 0) h5))
theorem ac28 {q1 : Option SL} {h : Heap} {Q : AV → Heap → Prop} (hk : vc28 q1 h Q) : AC Tryz.prog 28 [.sl q1] h Q :=
 AC_by (H := hintsOf [] [(0, [3], [])]) (by kernel_rfl) (by kernel_rfl) hk
def vc39 (q1 : Option SL) (h : Heap) (Q : AV → Heap → Prop) : Prop :=
 vif (decide ((slLen q1 : Int) < 2))
 (PNew [] true h fun a2 h3 =>
 PAppendS 4 32 (some ⟨a2, 0, 0, 0, 0⟩) q1 h3 fun q4 h5 =>
 Q (.sl q4) h5)
 (PSlice 4 q1 0 (some (wrapK .i64 (Int.tdiv (slLen q1 : Int) 2))) none fun q6 =>
 PSlice 4 q1 (wrapK .i64 (Int.tdiv (slLen q1 : Int) 2)) none none fun q7 =>
 AC Tryz.prog 39 [.sl q6] h fun v8 h9 => ∃ q10 : Option SL, v8 = .sl q10 ∧
 AC Tryz.prog 39 [.sl q7] h9 fun v11 h12 => ∃ q13 : Option SL, v11 = .sl q13 ∧
 ∃ (I17 : List AV → Heap → Prop) (m18 : List AV → Heap → Nat), I17 [.sl q10, .sl q13, .sl none] h12 ∧
 ∀ q14 q15 q16 : Option SL, ∀ h19 : Heap, I17 [.sl q14, .sl q15, .sl q16] h19 →
 vif (decide ((slLen q14 : Int) > 0))
 (vif ((slLen q15 : Int) == 0)
 (vIdx q14 0 4 fun p20 =>
 ∃ n21 n22 : Int, ∃ n23 n24 : Int, cellsAt h19 p20 4 = some [.int .i64 n21, .int .i64 n22, .int .i64 n23, .int .i64 n24] ∧
 PNew [.int .i64 n21, .int .i64 n22, .int .i64 n23, .int .i64 n24] true h19 fun a25 h26 =>
 PAppendS 4 32 q16 (some ⟨a25, 0, 1, 1, 0⟩) h26 fun q27 h28 =>
 PSlice 4 q14 1 none none fun q29 =>
 (True) ∧ I17 [.sl q29, .sl q15, .sl q27] h28 ∧ m18 [.sl q29, .sl q15, .sl q27] h28 < m18 [.sl q14, .sl q15, .sl q16] h19)
 (vif (decide ((slLen q14 : Int) > 0))
 (vIdx q14 0 4 fun p30 =>
 ∃ n31 n32 : Int, ∃ n33 n34 : Int, cellsAt h19 p30 4 = some [.int .i64 n31, .int .i64 n32, .int .i64 n33, .int .i64 n34] ∧
 vIdx q15 0 4 fun p35 =>
 ∃ n36 n37 : Int, ∃ n38 n39 : Int, cellsAt h19 p35 4 = some [.int .i64 n36, .int .i64 n37, .int .i64 n38, .int .i64 n39] ∧
 AC Tryz.prog 42 [.agg [.int .i64 n31, .int .i64 n32, .int .i64 n33, .int .i64 n34], .agg [.int .i64 n36, .int .i64 n37, .int .i64 n38, .int .i64 n39]] h19 fun v40 h41 => ∃ n42 : Int, v40 = .int .i64 n42 ∧
 vif (decide (n42 ≤ 0))
 (vIdx q14 0 4 fun p43 =>
 ∃ n44 n45 : Int, ∃ n46 n47 : Int, cellsAt h41 p43 4 = some [.int .i64 n44, .int .i64 n45, .int .i64 n46, .int .i64 n47] ∧
 PNew [.int .i64 n44, .int .i64 n45, .int .i64 n46, .int .i64 n47] true h41 fun a48 h49 =>
 PAppendS 4 32 q16 (some ⟨a48, 0, 1, 1, 0⟩) h49 fun q50 h51 =>
 PSlice 4 q14 1 none none fun q52 =>
 (True) ∧ I17 [.sl q52, .sl q15, .sl q50] h51 ∧ m18 [.sl q52, .sl q15, .sl q50] h51 < m18 [.sl q14, .sl q15, .sl q16] h19)
 (vIdx q15 0 4 fun p53 =>
 ∃ n54 n55 : Int, ∃ n56 n57 : Int, cellsAt h41 p53 4 = some [.int .i64 n54, .int .i64 n55, .int .i64 n56, .int .i64 n57] ∧
 PNew [.int .i64 n54, .int .i64 n55, .int .i64 n56, .int .i64 n57] true h41 fun a58 h59 =>
 PAppendS 4 32 q16 (some ⟨a58, 0, 1, 1, 0⟩) h59 fun q60 h61 =>
 PSlice 4 q15 1 none none fun q62 =>
 (True) ∧ I17 [.sl q14, .sl q62, .sl q60] h61 ∧ m18 [.sl q14, .sl q62, .sl q60] h61 < m18 [.sl q14, .sl q15, .sl q16] h19))
 (vIdx q15 0 4 fun p63 =>
 ∃ n64 n65 : Int, ∃ n66 n67 : Int, cellsAt h19 p63 4 = some [.int .i64 n64, .int .i64 n65, .int .i64 n66, .int .i64 n67] ∧
 PNew [.int .i64 n64, .int .i64 n65, .int .i64 n66, .int .i64 n67] true h19 fun a68 h69 =>
 PAppendS 4 32 q16 (some ⟨a68, 0, 1, 1, 0⟩) h69 fun q70 h71 =>
 PSlice 4 q15 1 none none fun q72 =>
 (True) ∧ I17 [.sl q14, .sl q72, .sl q70] h71 ∧ m18 [.sl q14, .sl q72, .sl q70] h71 < m18 [.sl q14, .sl q15, .sl q16] h19)))
 (vif (decide ((slLen q15 : Int) > 0))
 (vif ((slLen q15 : Int) == 0)
 (vIdx q14 0 4 fun p73 =>
 ∃ n74 n75 : Int, ∃ n76 n77 : Int, cellsAt h19 p73 4 = some [.int .i64 n74, .int .i64 n75, .int .i64 n76, .int .i64 n77] ∧
 PNew [.int .i64 n74, .int .i64 n75, .int .i64 n76, .int .i64 n77] true h19 fun a78 h79 =>
 PAppendS 4 32 q16 (some ⟨a78, 0, 1, 1, 0⟩) h79 fun q80 h81 =>
 PSlice 4 q14 1 none none fun q82 =>
 (True) ∧ I17 [.sl q82, .sl q15, .sl q80] h81 ∧ m18 [.sl q82, .sl q15, .sl q80] h81 < m18 [.sl q14, .sl q15, .sl q16] h19)
 (vif (decide ((slLen q14 : Int) > 0))
 (vIdx q14 0 4 fun p83 =>
 ∃ n84 n85 : Int, ∃ n86 n87 : Int, cellsAt h19 p83 4 = some [.int .i64 n84, .int .i64 n85, .int .i64 n86, .int .i64 n87] ∧
 vIdx q15 0 4 fun p88 =>
 ∃ n89 n90 : Int, ∃ n91 n92 : Int, cellsAt h19 p88 4 = some [.int .i64 n89, .int .i64 n90, .int .i64 n91, .int .i64 n92] ∧
 AC Tryz.prog 42 [.agg [.int .i64 n84, .int .i64 n85, .int .i64 n86, .int .i64 n87], .agg [.int .i64 n89, .int .i64 n90, .int .i64 n91, .int .i64 n92]] h19 fun v93 h94 => ∃ n95 : Int, v93 = .int .i64 n95 ∧
 vif (decide (n95 ≤ 0))
 (vIdx q14 0 4 fun p96 =>
 ∃ n97 n98 : Int, ∃ n99 n100 : Int, cellsAt h94 p96 4 = some [.int .i64 n97, .int .i64 n98, .int .i64 n99, .int .i64 n100] ∧
 PNew [.int .i64 n97, .int .i64 n98, .int .i64 n99, .int .i64 n100] true h94 fun a101 h102 =>
 PAppendS 4 32 q16 (some ⟨a101, 0, 1, 1, 0⟩) h102 fun q103 h104 =>
 PSlice 4 q14 1 none none fun q105 =>
 (True) ∧ I17 [.sl q105, .sl q15, .sl q103] h104 ∧ m18 [.sl q105, .sl q15, .sl q103] h104 < m18 [.sl q14, .sl q15, .sl q16] h19)
 (vIdx q15 0 4 fun p106 =>
 ∃ n107 n108 : Int, ∃ n109 n110 : Int, cellsAt h94 p106 4 = some [.int .i64 n107, .int .i64 n108, .int .i64 n109, .int .i64 n110] ∧
 PNew [.int .i64 n107, .int .i64 n108, .int .i64 n109, .int .i64 n110] true h94 fun a111 h112 =>
 PAppendS 4 32 q16 (some ⟨a111, 0, 1, 1, 0⟩) h112 fun q113 h114 =>
 PSlice 4 q15 1 none none fun q115 =>
 (True) ∧ I17 [.sl q14, .sl q115, .sl q113] h114 ∧ m18 [.sl q14, .sl q115, .sl q113] h114 < m18 [.sl q14, .sl q15, .sl q16] h19))
 (vIdx q15 0 4 fun p116 =>
 ∃ n117 n118 : Int, ∃ n119 n120 : Int, cellsAt h19 p116 4 = some [.int .i64 n117, .int .i64 n118, .int .i64 n119, .int .i64 n120] ∧
 PNew [.int .i64 n117, .int .i64 n118, .int .i64 n119, .int .i64 n120] true h19 fun a121 h122 =>
 PAppendS 4 32 q16 (some ⟨a121, 0, 1, 1, 0⟩) h122 fun q123 h124 =>
 PSlice 4 q15 1 none none fun q125 =>
 (True) ∧ I17 [.sl q14, .sl q125, .sl q123] h124 ∧ m18 [.sl q14, .sl q125, .sl q123] h124 < m18 [.sl q14, .sl q15, .sl q16] h19)))
 (Q (.sl q16) h19)))
theorem ac39 {q1 : Option SL} {h : Heap} {Q : AV → Heap → Prop} (hk : vc39 q1 h Q) : AC Tryz.prog 39 [.sl q1] h Q :=
 AC_by (H := hintsOf [] [(0, [3, 4, 5], [])]) (by kernel_rfl) (by kernel_rfl) hk
def vc78 (p1 : Option PA) (s2 : List UInt8) (h : Heap) (Q : AV → Heap → Prop) : Prop :=
 AC Tryz.prog 58 [.ptr p1] h fun v3 h4 => ∃ b5 : Bool, v3 = .bool b5 ∧
 vif (!b5)
 (Q (.tup [.int .i64 0, .int .i64 6]) h4)
 (vPtr p1 fun p6 =>
 ∃ m7 : Option Nat, cellsAt h4 ⟨p6.b, p6.o + 0⟩ 1 = some [.map m7] ∧
 PLookup Tryz.prog 9 107 m7 (.str s2) false h4 fun v8 =>
 ∃ p9 : Option PA, v8 = .ptr p9 ∧
 vif (p9.isNone)
 (Q (.tup [.int .i64 0, .int .i64 4]) h4)
 (vPtr p9 fun p10 =>
 ∃ q11 : Option SL, cellsAt h4 ⟨p10.b, p10.o + 1⟩ 1 = some [.sl q11] ∧
 Q (.tup [.int .i64 (slLen q11 : Int), .int .i64 0]) h4))
theorem ac78 {p1 : Option PA} {s2 : List UInt8} {h : Heap} {Q : AV → Heap → Prop} (hk : vc78 p1 s2 h Q) : AC Tryz.prog 78 [.ptr p1, .str s2] h Q :=
 AC_by (H := hintsOf [] []) (by kernel_rfl) (by kernel_rfl) hk
def vc24 (p1 : Option PA) (s2 : List UInt8) (n3 : Int) (n4 : Int) (n5 : Int) (h : Heap) (Q : AV → Heap → Prop) : Prop :=
 AC Tryz.prog 58 [.ptr p1] h fun v6 h7 => ∃ b8 : Bool, v6 = .bool b8 ∧
 vif (!b8)
 (Q (.int .i64 6) h7)
 (vPtr p1 fun p9 =>
 ∃ m10 : Option Nat, cellsAt h7 ⟨p9.b, p9.o + 0⟩ 1 = some [.map m10] ∧
 PLookup Tryz.prog 9 107 m10 (.str s2) false h7 fun v11 =>
 ∃ p12 : Option PA, v11 = .ptr p12 ∧
 vif (p12.isNone)
 (Q (.int .i64 4) h7)
 (vif (decide (n3 < 0))
 (Q (.int .i64 4) h7)
 (vPtr p12 fun p13 =>
 ∃ q14 : Option SL, cellsAt h7 ⟨p13.b, p13.o + 1⟩ 1 = some [.sl q14] ∧
 vif (decide (n3 ≥ (slLen q14 : Int)))
 (Q (.int .i64 4) h7)
 (vif (decide (n4 < 0))
 (Q (.int .i64 1) h7)
 (vif (decide (n4 > 480))
 (Q (.int .i64 1) h7)
 (vPtr p12 fun p15 =>
 ∃ q16 : Option SL, cellsAt h7 ⟨p15.b, p15.o + 1⟩ 1 = some [.sl q16] ∧
 vIdx q16 n3 64 fun p17 =>
 AC Tryz.prog 59 [.ptr (some p17), .int .i64 n4, .int .u32 n5] h7 fun v18 h19 => v18 = .tup [] ∧
 vPtr p12 fun p20 =>
 ∃ q21 : Option SL, cellsAt h19 ⟨p20.b, p20.o + 2⟩ 1 = some [.sl q21] ∧
 vif (decide (n3 < (slLen q21 : Int)))
 (vPtr p12 fun p22 =>
 ∃ q23 : Option SL, cellsAt h19 ⟨p22.b, p22.o + 2⟩ 1 = some [.sl q23] ∧
 vIdx q23 n3 64 fun p24 =>
 AC Tryz.prog 59 [.ptr (some p24), .int .i64 n4, .int .u32 n5] h19 fun v25 h26 => v25 = .tup [] ∧
 Q (.int .i64 0) h26)
 (Q (.int .i64 0) h19)))))))
theorem ac24 {p1 : Option PA} {s2 : List UInt8} {n3 : Int} {n4 : Int} {n5 : Int} {h : Heap} {Q : AV → Heap → Prop} (hk : vc24 p1 s2 n3 n4 n5 h Q) : AC Tryz.prog 24 [.ptr p1, .str s2, .int .i64 n3, .int .i64 n4, .int .u32 n5] h Q :=
 AC_by (H := hintsOf [] []) (by kernel_rfl) (by kernel_rfl) hk
def vc87 (p1 : Option PA) (s2 : List UInt8) (n3 : Int) (n4 : Int) (h : Heap) (Q : AV → Heap → Prop) : Prop :=
 AC Tryz.prog 110 [.agg [.ptr p1, .str s2, .int .i64 n3], .int .i64 n4] h fun v5 h6 => ∃ q7 : Option SL, ∃ n8 : Int, v5 = .tup [.sl q7, .int .i64 n8] ∧
 vif (n8 != 0)
 (Q (.tup [.sl none, .int .i64 n8]) h6)
 (AC Tryz.prog 116 [.sl q7] h6 fun v9 h10 => ∃ q11 : Option SL, ∃ n12 : Int, v9 = .tup [.sl q11, .int .i64 n12] ∧
 vif (n12 != 0)
 (Q (.tup [.sl none, .int .i64 80]) h10)
 (Q (.tup [.sl q11, .int .i64 0]) h10))
theorem ac87 {p1 : Option PA} {s2 : List UInt8} {n3 : Int} {n4 : Int} {h : Heap} {Q : AV → Heap → Prop} (hk : vc87 p1 s2 n3 n4 h Q) : AC Tryz.prog 87 [.agg [.ptr p1, .str s2, .int .i64 n3], .int .i64 n4] h Q :=
 AC_by (H := hintsOf [2] []) (by kernel_rfl) (by kernel_rfl) hk
def vc74 (q1 : Option SL) (h : Heap) (Q : AV → Heap → Prop) : Prop :=
 AC Tryz.prog 101 [.sl q1, .func (.func 47) [] []] h fun v2 h3 => ∃ b4 : Bool, v2 = .bool b4 ∧
 Q (.bool b4) h3
theorem ac74 {q1 : Option SL} {h : Heap} {Q : AV → Heap → Prop} (hk : vc74 q1 h Q) : AC Tryz.prog 74 [.sl q1] h Q :=
 AC_by (H := hintsOf [] []) (by kernel_rfl) (by kernel_rfl) hk
def vc72 (n1 : Int) (h : Heap) (Q : AV → Heap → Prop) : Prop :=
 vif (decide (n1 ≥ 1))
 (Q (.bool (decide (n1 ≤ 2305843009213693952))) h)
 (Q (.bool false) h)
theorem ac72 {n1 : Int} {h : Heap} {Q : AV → Heap → Prop} (hk : vc72 n1 h Q) : AC Tryz.prog 72 [.int .i64 n1] h Q :=
 AC_by (H := hintsOf [] []) (by kernel_rfl) (by kernel_rfl) hk
def vc79 (p1 : Option PA) (n2 : Int) (h : Heap) (Q : AV → Heap → Prop) : Prop :=
 vif (n2 == 0)
 (Q (.tup [.int .i64 0, .int .i64 0, .int .i64 80]) h)
 (vPtr p1 fun p3 =>
 ∃ p4 : Option PA, ∃ s5 : List UInt8, ∃ n6 : Int, cellsAt h ⟨p3.b, p3.o + 0⟩ 3 = some [.ptr p4, .str s5, .int .i64 n6] ∧
 AC Tryz.prog 110 [.agg [.ptr p4, .str s5, .int .i64 n6], .int .i64 (wrapK .i64 (n2 - 1))] h fun v7 h8 => ∃ q9 : Option SL, ∃ n10 : Int, v7 = .tup [.sl q9, .int .i64 n10] ∧
 vif (n10 != 0)
 (Q (.tup [.int .i64 0, .int .i64 0, .int .i64 n10]) h8)
 (AC Tryz.prog 111 [.sl q9] h8 fun v11 h12 => ∃ p13 : Option PA, v11 = .ptr p13 ∧
 AC Tryz.prog 112 [.ptr p13] h12 fun v14 h15 => ∃ n16 : Int, v14 = .int .i64 n16 ∧
 AC Tryz.prog 112 [.ptr p13] h15 fun v17 h18 => ∃ n19 : Int, v17 = .int .i64 n19 ∧
 AC Tryz.prog 112 [.ptr p13] h18 fun v20 h21 => ∃ n22 : Int, v20 = .int .i64 n22 ∧
 AC Tryz.prog 113 [.ptr p13] h21 fun v23 h24 => ∃ n25 : Int, v23 = .int .i64 n25 ∧
 vif (n25 != 0)
 (Q (.tup [.int .i64 0, .int .i64 0, .int .i64 80]) h24)
 (vif (decide (n19 > n2))
 (Q (.tup [.int .i64 0, .int .i64 0, .int .i64 80]) h24)
 (vif (decide (n22 > n2))
 (Q (.tup [.int .i64 0, .int .i64 0, .int .i64 80]) h24)
 (vif ((wrapK .i64 ((wrapK .i64 (n19 + n22)) + 1)) != n2)
 (Q (.tup [.int .i64 0, .int .i64 0, .int .i64 80]) h24)
 (vPtr p1 fun p26 =>
 PStore h24 ⟨p26.b, p26.o + 3⟩ [.int .i64 n16] fun h27 =>
 Q (.tup [.int .i64 n19, .int .i64 n22, .int .i64 0]) h27))))))
theorem ac79 {p1 : Option PA} {n2 : Int} {h : Heap} {Q : AV → Heap → Prop} (hk : vc79 p1 n2 h Q) : AC Tryz.prog 79 [.ptr p1, .int .i64 n2] h Q :=
 AC_by (H := hintsOf [] []) (by kernel_rfl) (by kernel_rfl) hk
def vc80 (p1 : Option PA) (n2 : Int) (n3 : Int) (h : Heap) (Q : AV → Heap → Prop) : Prop :=
 ∃ (I6 : List AV → Heap → Prop) (m7 : List AV → Heap → Nat), I6 [.sl none, .int .i64 n2] h ∧
 ∀ q4 : Option SL, ∀ n5 : Int, ∀ h8 : Heap, I6 [.sl q4, .int .i64 n5] h8 →
 vif (decide (n5 < (wrapK .i64 (n2 + n3))))
 (vPtr p1 fun p9 =>
 ∃ p10 : Option PA, ∃ s11 : List UInt8, ∃ n12 : Int, cellsAt h8 ⟨p9.b, p9.o + 0⟩ 3 = some [.ptr p10, .str s11, .int .i64 n12] ∧
 AC Tryz.prog 87 [.agg [.ptr p10, .str s11, .int .i64 n12], .int .i64 n5] h8 fun v13 h14 => ∃ q15 : Option SL, ∃ n16 : Int, v13 = .tup [.sl q15, .int .i64 n16] ∧
 vif (n16 != 0)
 (Q (.int .i64 n16) h14)
 (vPtr p1 fun p17 =>
 ∃ q18 : Option SL, cellsAt h14 ⟨p17.b, p17.o + 4⟩ 1 = some [.sl q18] ∧
 PAppendS 4 32 q18 q15 h14 fun q19 h20 =>
 vPtr p1 fun p21 =>
 PStore h20 ⟨p21.b, p21.o + 4⟩ [.sl q19] fun h22 =>
 PNew [.int .i64 (slLen q15 : Int)] true h22 fun a23 h24 =>
 PAppendS 1 8 q4 (some ⟨a23, 0, 1, 1, 0⟩) h24 fun q25 h26 =>
 (True) ∧ I6 [.sl q25, .int .i64 (wrapK .i64 (n5 + 1))] h26 ∧ m7 [.sl q25, .int .i64 (wrapK .i64 (n5 + 1))] h26 < m7 [.sl q4, .int .i64 n5] h8))
 (vPtr p1 fun p27 =>
 ∃ q28 : Option SL, cellsAt h8 ⟨p27.b, p27.o + 4⟩ 1 = some [.sl q28] ∧
 vif ((slLen q28 : Int) != n2)
 (Q (.int .i64 80) h8)
 (vPtr p1 fun p29 =>
 ∃ q30 : Option SL, cellsAt h8 ⟨p29.b, p29.o + 4⟩ 1 = some [.sl q30] ∧
 AC Tryz.prog 74 [.sl q30] h8 fun v31 h32 => ∃ b33 : Bool, v31 = .bool b33 ∧
 vif (!b33)
 (Q (.int .i64 80) h32)
 (vPtr p1 fun p34 =>
 ∃ q35 : Option SL, cellsAt h32 ⟨p34.b, p34.o + 4⟩ 1 = some [.sl q35] ∧
 AC Tryz.prog 114 [.sl q35, .sl q4] h32 fun v36 h37 => ∃ b38 : Bool, v36 = .bool b38 ∧
 vif (!b38)
 (Q (.int .i64 80) h37)
 (Q (.int .i64 0) h37))))
theorem ac80 {p1 : Option PA} {n2 : Int} {n3 : Int} {h : Heap} {Q : AV → Heap → Prop} (hk : vc80 p1 n2 n3 h Q) : AC Tryz.prog 80 [.ptr p1, .int .i64 n2, .int .i64 n3] h Q :=
 AC_by (H := hintsOf [] [(0, [7, 8], [])]) (by kernel_rfl) (by kernel_rfl) hk
def vc83 (n1 : Int) (p2 : PA) (p3 : PA) (h : Heap) (Q : AV → Heap → Prop) : Prop :=
 ∃ p4 : Option PA, cellsAt h p2 1 = some [.ptr p4] ∧
 vPtr p4 fun p5 =>
 ∃ q6 : Option SL, cellsAt h ⟨p5.b, p5.o + 4⟩ 1 = some [.sl q6] ∧
 vIdx q6 n1 4 fun p7 =>
 ∃ n8 n9 : Int, ∃ n10 n11 : Int, cellsAt h p7 4 = some [.int .i64 n8, .int .i64 n9, .int .i64 n10, .int .i64 n11] ∧
 ∃ n12 n13 : Int, ∃ n14 n15 : Int, cellsAt h p3 4 = some [.int .i64 n12, .int .i64 n13, .int .i64 n14, .int .i64 n15] ∧
 AC Tryz.prog 47 [.agg [.int .i64 n8, .int .i64 n9, .int .i64 n10, .int .i64 n11], .agg [.int .i64 n12, .int .i64 n13, .int .i64 n14, .int .i64 n15]] h fun v16 h17 => ∃ n18 : Int, v16 = .int .i64 n18 ∧
 Q (.bool (decide (n18 ≥ 0))) h17
theorem ac83 {n1 : Int} {p2 : PA} {p3 : PA} {h : Heap} {Q : AV → Heap → Prop} (hk : vc83 n1 p2 p3 h Q) : AC Tryz.prog 83 [.int .i64 n1, .ptr (some p2), .ptr (some p3)] h Q :=
 AC_by (H := hintsOf [] []) (by kernel_rfl) (by kernel_rfl) hk
def vc47 (n1 : Int) (n2 : Int) (n3 : Int) (n4 : Int) (n5 : Int) (n6 : Int) (n7 : Int) (n8 : Int) (h : Heap) (Q : AV → Heap → Prop) : Prop :=
 AC Tryz.prog 85 [.agg [.int .i64 n1, .int .i64 n2], .agg [.int .i64 n5, .int .i64 n6]] h fun v9 h10 => ∃ n11 : Int, v9 = .int .i64 n11 ∧
 (LV.val (.agg [.int .i64 n7, .int .i64 n8]) = LV.val (.agg [.int .i64 n7, .int .i64 n8])) ∧
 (LV.val (.agg [.int .i64 n3, .int .i64 n4]) = LV.val (.agg [.int .i64 n3, .int .i64 n4])) ∧
 AC Tryz.prog 86 [.agg [.int .i64 n3, .int .i64 n4], .agg [.int .i64 n7, .int .i64 n8]] h10 fun v12 h13 => ∃ n14 : Int, v12 = .int .i64 n14 ∧
 PNew [.int .i64 n11, .int .i64 n14] true h13 fun a15 h16 =>
 AC Tryz.prog 84 [.sl (some ⟨a15, 0, 2, 2, 0⟩)] h16 fun v17 h18 => ∃ n19 : Int, v17 = .int .i64 n19 ∧
 Q (.int .i64 n19) h18
theorem ac47 {n1 : Int} {n2 : Int} {n3 : Int} {n4 : Int} {n5 : Int} {n6 : Int} {n7 : Int} {n8 : Int} {h : Heap} {Q : AV → Heap → Prop} (hk : vc47 n1 n2 n3 n4 n5 n6 n7 n8 h Q) : AC Tryz.prog 47 [.agg [.int .i64 n1, .int .i64 n2, .int .i64 n3, .int .i64 n4], .agg [.int .i64 n5, .int .i64 n6, .int .i64 n7, .int .i64 n8]] h Q :=
 AC_by (H := hintsOf [2, 3] []) (by kernel_rfl) (by kernel_rfl) hk
def vc73 (n1 : Int) (q2 : Option SL) (h : Heap) (Q : AV → Heap → Prop) : Prop :=
 AC Tryz.prog 96 [.sl q2] h fun v3 h4 => ∃ q5 : Option SL, ∃ n6 : Int, v3 = .tup [.sl q5, .int .i64 n6] ∧
 vif (n6 != 0)
 (Q (.tup [.sl none, .int .i64 n6]) h4)
 (AC Tryz.prog 97 [.sl q5] h4 fun v7 h8 => ∃ q9 : Option SL, v7 = .sl q9 ∧
 AC Tryz.prog 96 [.sl q9] h8 fun v10 h11 => ∃ q12 : Option SL, ∃ n13 : Int, v10 = .tup [.sl q12, .int .i64 n13] ∧
 PNew [.int .i64 (slLen q2 : Int), .int .i64 (slLen q5 : Int), .int .i64 (slLen q12 : Int)] true h11 fun a14 h15 =>
 AC Tryz.prog 99 [.sl (some ⟨a14, 0, 3, 3, 0⟩)] h15 fun v16 h17 => ∃ q18 : Option SL, v16 = .sl q18 ∧
 PNew [.sl q18] true h17 fun a19 h20 =>
 PNew [.sl q5, .sl q12, .sl (some ⟨a19, 0, 1, 1, 0⟩)] true h20 fun a21 h22 =>
 AC Tryz.prog 98 [.sl (some ⟨a21, 0, 3, 3, 0⟩)] h22 fun v23 h24 => ∃ q25 : Option SL, v23 = .sl q25 ∧
 ∃ (I27 : List AV → Heap → Prop) (m28 : List AV → Heap → Nat), I27 [.int .i64 0] h24 ∧
 ∀ n26 : Int, ∀ h29 : Heap, I27 [.int .i64 n26] h29 →
 vif (decide (n26 < (slLen q25 : Int)))
 (vIdx q25 n26 1 fun p30 =>
 ∃ q31 : Option SL, cellsAt h29 p30 1 = some [.sl q31] ∧
 AC Tryz.prog 100 [.int .i64 (wrapK .i64 (n1 + n26)), .sl q31] h29 fun v32 h33 => ∃ q34 : Option SL, ∃ n35 : Int, v32 = .tup [.sl q34, .int .i64 n35] ∧
 vIdx q25 n26 1 fun p36 =>
 PStore h33 p36 [.sl q34] fun h37 =>
 (True) ∧ I27 [.int .i64 (wrapK .i64 (n26 + 1))] h37 ∧ m28 [.int .i64 (wrapK .i64 (n26 + 1))] h37 < m28 [.int .i64 n26] h29)
 (Q (.tup [.sl q25, .int .i64 0]) h29))
theorem ac73 {n1 : Int} {q2 : Option SL} {h : Heap} {Q : AV → Heap → Prop} (hk : vc73 n1 q2 h Q) : AC Tryz.prog 73 [.int .i64 n1, .sl q2] h Q :=
 AC_by (H := hintsOf [] [(0, [42], [])]) (by kernel_rfl) (by kernel_rfl) hk
def vc153 (q1 : Option SL) (q2 : Option SL) (h : Heap) (Q : AV → Heap → Prop) : Prop :=
 vif ((slLen q1 : Int) != (slLen q2 : Int))
 (Q (.bool false) h)
 (∃ (I4 : List AV → Heap → Prop) (m5 : List AV → Heap → Nat), I4 [.int .i64 0] h ∧
 ∀ n3 : Int, ∀ h6 : Heap, I4 [.int .i64 n3] h6 →
 vif (decide (n3 < (slLen q1 : Int)))
 (vIdx q1 n3 1 fun p7 =>
 ∃ n8 : Int, cellsAt h6 p7 1 = some [.int .u8 n8] ∧
 vIdx q2 n3 1 fun p9 =>
 ∃ n10 : Int, cellsAt h6 p9 1 = some [.int .u8 n10] ∧
 vif (n8 != n10)
 (Q (.bool false) h6)
 ((True) ∧ I4 [.int .i64 (wrapK .i64 (n3 + 1))] h6 ∧ m5 [.int .i64 (wrapK .i64 (n3 + 1))] h6 < m5 [.int .i64 n3] h6))
 (Q (.bool true) h6))
theorem ac153 {q1 : Option SL} {q2 : Option SL} {h : Heap} {Q : AV → Heap → Prop} (hk : vc153 q1 q2 h Q) : AC Tryz.prog 153 [.sl q1, .sl q2] h Q :=
 AC_by (H := hintsOf [] [(0, [13], [])]) (by kernel_rfl) (by kernel_rfl) hk
def vc75 (p1 : Option PA) (s2 : List UInt8) (h : Heap) (Q : AV → Heap → Prop) : Prop :=
 AC Tryz.prog 58 [.ptr p1] h fun v3 h4 => ∃ b5 : Bool, v3 = .bool b5 ∧
 vif b5
 (AC Tryz.prog 102 [.str s2] h4 fun v6 h7 => ∃ b8 : Bool, v6 = .bool b8 ∧
 vif (!b8)
 (Q (.int .i64 1) h7)
 (AC Tryz.prog 103 [.ptr p1] h7 fun v9 h10 => ∃ n11 : Int, v9 = .int .i64 n11 ∧
 vif (n11 != 0)
 (Q (.int .i64 n11) h10)
 (vPtr p1 fun p12 =>
 ∃ m13 : Option Nat, cellsAt h10 ⟨p12.b, p12.o + 0⟩ 1 = some [.map m13] ∧
 PLookup Tryz.prog 9 107 m13 (.str s2) false h10 fun v14 =>
 ∃ p15 : Option PA, v14 = .ptr p15 ∧
 vif (!(p15.isNone))
 (Q (.int .i64 5) h10)
 (vPtr p1 fun p16 =>
 ∃ m17 : Option Nat, cellsAt h10 ⟨p16.b, p16.o + 0⟩ 1 = some [.map m17] ∧
 vLenM h10 m17 fun e18 =>
 vif (decide (((e18 : Nat) : Int) ≥ 256))
 (Q (.int .i64 2) h10)
 (AC Tryz.prog 104 [.ptr p1] h10 fun v19 h20 => ∃ n21 : Int, v19 = .int .i64 n21 ∧
 vif (n21 == 0)
 (vPtr p1 fun p22 =>
 ∃ m23 : Option Nat, cellsAt h20 ⟨p22.b, p22.o + 0⟩ 1 = some [.map m23] ∧
 PNew [.str s2, .sl none, .sl none] true h20 fun a24 h25 =>
 vMap m23 fun a27 => PUpdate Tryz.prog 9 a27 (.str s2) (.ptr (some ⟨a24, 0⟩)) h25 fun h26 =>
 Q (.int .i64 n21) h26)
 (Q (.int .i64 n21) h20))))))
 (AC Tryz.prog 103 [.ptr p1] h4 fun v28 h29 => ∃ n30 : Int, v28 = .int .i64 n30 ∧
 vif (n30 != 0)
 (Q (.int .i64 n30) h29)
 (vPtr p1 fun p31 =>
 ∃ m32 : Option Nat, cellsAt h29 ⟨p31.b, p31.o + 0⟩ 1 = some [.map m32] ∧
 PLookup Tryz.prog 9 107 m32 (.str s2) false h29 fun v33 =>
 ∃ p34 : Option PA, v33 = .ptr p34 ∧
 vif (!(p34.isNone))
 (Q (.int .i64 5) h29)
 (vPtr p1 fun p35 =>
 ∃ m36 : Option Nat, cellsAt h29 ⟨p35.b, p35.o + 0⟩ 1 = some [.map m36] ∧
 vLenM h29 m36 fun e37 =>
 vif (decide (((e37 : Nat) : Int) ≥ 256))
 (Q (.int .i64 2) h29)
 (AC Tryz.prog 104 [.ptr p1] h29 fun v38 h39 => ∃ n40 : Int, v38 = .int .i64 n40 ∧
 vif (n40 == 0)
 (vPtr p1 fun p41 =>
 ∃ m42 : Option Nat, cellsAt h39 ⟨p41.b, p41.o + 0⟩ 1 = some [.map m42] ∧
 PNew [.str s2, .sl none, .sl none] true h39 fun a43 h44 =>
 vMap m42 fun a46 => PUpdate Tryz.prog 9 a46 (.str s2) (.ptr (some ⟨a43, 0⟩)) h44 fun h45 =>
 Q (.int .i64 n40) h45)
 (Q (.int .i64 n40) h39)))))
theorem ac75 {p1 : Option PA} {s2 : List UInt8} {h : Heap} {Q : AV → Heap → Prop} (hk : vc75 p1 s2 h Q) : AC Tryz.prog 75 [.ptr p1, .str s2] h Q :=
 AC_by (H := hintsOf [] []) (by kernel_rfl) (by kernel_rfl) hk
def vc76 (p1 : Option PA) (s2 : List UInt8) (q3 : Option SL) (h : Heap) (Q : AV → Heap → Prop) : Prop :=
 AC Tryz.prog 58 [.ptr p1] h fun v4 h5 => ∃ b6 : Bool, v4 = .bool b6 ∧
 vif b6
 (vif ((slLen q3 : Int) != 64)
 (Q (.int .i64 1) h5)
 (AC Tryz.prog 105 [.ptr p1, .str s2] h5 fun v7 h8 => ∃ p9 : Option PA, ∃ n10 : Int, v7 = .tup [.ptr p9, .int .i64 n10] ∧
 vif (n10 != 0)
 (Q (.int .i64 n10) h8)
 (vPtr p1 fun p11 =>
 ∃ n12 : Int, cellsAt h8 ⟨p11.b, p11.o + 2⟩ 1 = some [.int .i64 n12] ∧
 AC Tryz.prog 106 [.ptr p1] h8 fun v13 h14 => ∃ n15 : Int, v13 = .int .i64 n15 ∧
 (∃ n33 : Int, cellsAt h14 ⟨p11.b, p11.o + 2⟩ 1 = some [.int .i64 n33] ∧
 LV.val (.int .i64 n33) = LV.val (.int .i64 n12)) ∧
 vif (decide (n15 ≥ n12))
 (Q (.int .i64 2) h14)
 (AC Tryz.prog 104 [.ptr p1] h14 fun v16 h17 => ∃ n18 : Int, v16 = .int .i64 n18 ∧
 vif (n18 != 0)
 (Q (.int .i64 n18) h17)
 (vPtr p9 fun p19 =>
 ∃ q20 : Option SL, cellsAt h17 ⟨p19.b, p19.o + 1⟩ 1 = some [.sl q20] ∧
 PNew (List.replicate 64 (AV.int .u8 0)) true h17 fun a21 h22 =>
 PAppendS 64 64 q20 (some ⟨a21, 0, 1, 1, 0⟩) h22 fun q23 h24 =>
 vPtr p9 fun p25 =>
 PStore h24 ⟨p25.b, p25.o + 1⟩ [.sl q23] fun h26 =>
 vPtr p9 fun p27 =>
 ∃ q28 : Option SL, cellsAt h26 ⟨p27.b, p27.o + 1⟩ 1 = some [.sl q28] ∧
 vSl q3 fun s29 => need (decide (0 < 64) && decide (64 ≤ s29.len)) (exC .u8 64 fun l30 =>
 cellsAt h26 ⟨s29.b, s29.o⟩ 64 = some l30 ∧
 AC Tryz.prog 107 [.ptr p1, .ptr p9, .int .i64 (wrapK .i64 ((slLen q28 : Int) - 1)), .agg l30] h26 fun v31 h32 => v31 = .tup [] ∧
 Q (.int .i64 0) h32))))))
 (AC Tryz.prog 105 [.ptr p1, .str s2] h5 fun v34 h35 => ∃ p36 : Option PA, ∃ n37 : Int, v34 = .tup [.ptr p36, .int .i64 n37] ∧
 vif (n37 != 0)
 (Q (.int .i64 n37) h35)
 (vPtr p1 fun p38 =>
 ∃ n39 : Int, cellsAt h35 ⟨p38.b, p38.o + 2⟩ 1 = some [.int .i64 n39] ∧
 AC Tryz.prog 106 [.ptr p1] h35 fun v40 h41 => ∃ n42 : Int, v40 = .int .i64 n42 ∧
 (∃ n60 : Int, cellsAt h41 ⟨p38.b, p38.o + 2⟩ 1 = some [.int .i64 n60] ∧
 LV.val (.int .i64 n60) = LV.val (.int .i64 n39)) ∧
 vif (decide (n42 ≥ n39))
 (Q (.int .i64 2) h41)
 (AC Tryz.prog 104 [.ptr p1] h41 fun v43 h44 => ∃ n45 : Int, v43 = .int .i64 n45 ∧
 vif (n45 != 0)
 (Q (.int .i64 n45) h44)
 (vPtr p36 fun p46 =>
 ∃ q47 : Option SL, cellsAt h44 ⟨p46.b, p46.o + 1⟩ 1 = some [.sl q47] ∧
 PNew (List.replicate 64 (AV.int .u8 0)) true h44 fun a48 h49 =>
 PAppendS 64 64 q47 (some ⟨a48, 0, 1, 1, 0⟩) h49 fun q50 h51 =>
 vPtr p36 fun p52 =>
 PStore h51 ⟨p52.b, p52.o + 1⟩ [.sl q50] fun h53 =>
 vPtr p36 fun p54 =>
 ∃ q55 : Option SL, cellsAt h53 ⟨p54.b, p54.o + 1⟩ 1 = some [.sl q55] ∧
 vSl q3 fun s56 => need (decide (0 < 64) && decide (64 ≤ s56.len)) (exC .u8 64 fun l57 =>
 cellsAt h53 ⟨s56.b, s56.o⟩ 64 = some l57 ∧
 AC Tryz.prog 107 [.ptr p1, .ptr p36, .int .i64 (wrapK .i64 ((slLen q55 : Int) - 1)), .agg l57] h53 fun v58 h59 => v58 = .tup [] ∧
 Q (.int .i64 0) h59)))))
theorem ac76 {p1 : Option PA} {s2 : List UInt8} {q3 : Option SL} {h : Heap} {Q : AV → Heap → Prop} (hk : vc76 p1 s2 q3 h Q) : AC Tryz.prog 76 [.ptr p1, .str s2, .sl q3] h Q :=
 AC_by (H := hintsOf [] []) (by kernel_rfl) (by kernel_rfl) hk
def vc77 (p1 : Option PA) (s2 : List UInt8) (h : Heap) (Q : AV → Heap → Prop) : Prop :=
 AC Tryz.prog 105 [.ptr p1, .str s2] h fun v3 h4 => ∃ p5 : Option PA, ∃ n6 : Int, v3 = .tup [.ptr p5, .int .i64 n6] ∧
 vif (n6 != 0)
 (Q (.int .i64 n6) h4)
 (AC Tryz.prog 104 [.ptr p1] h4 fun v7 h8 => ∃ n9 : Int, v7 = .int .i64 n9 ∧
 vif (n9 != 0)
 (Q (.int .i64 n9) h8)
 (vPtr p1 fun p10 =>
 ∃ q11 : Option SL, cellsAt h8 ⟨p10.b, p10.o + 1⟩ 1 = some [.sl q11] ∧
 ∃ (I13 : List AV → Heap → Prop) (m14 : List AV → Heap → Nat), I13 [.int .i64 0] h8 ∧
 ∀ n12 : Int, ∀ h15 : Heap, I13 [.int .i64 n12] h15 →
 vif (decide (n12 < (slLen q11 : Int)))
 (vIdx q11 n12 66 fun p16 =>
 ∃ p17 : Option PA, ∃ n18 : Int, exC .u8 64 fun l19 =>
 cellsAt h15 p16 66 = some ([.ptr p17, .int .i64 n18] ++ (l19)) ∧
 aEq Tryz.prog 107 h15 (.ptr p17) (.ptr p5) fun b20 =>
 vif b20
 (AC Tryz.prog 108 [.agg ([.ptr p17, .int .i64 n18] ++ (l19)), .int .i64 64] h15 fun v21 h22 => v21 = .tup [] ∧
 (True) ∧ I13 [.int .i64 (wrapK .i64 (n12 + 1))] h22 ∧ m14 [.int .i64 (wrapK .i64 (n12 + 1))] h22 < m14 [.int .i64 n12] h15)
 ((True) ∧ I13 [.int .i64 (wrapK .i64 (n12 + 1))] h15 ∧ m14 [.int .i64 (wrapK .i64 (n12 + 1))] h15 < m14 [.int .i64 n12] h15))
 (AC Tryz.prog 109 [.ptr p1, .ptr p5] h15 fun v23 h24 => v23 = .tup [] ∧
 Q (.int .i64 0) h24)))
theorem ac77 {p1 : Option PA} {s2 : List UInt8} {h : Heap} {Q : AV → Heap → Prop} (hk : vc77 p1 s2 h Q) : AC Tryz.prog 77 [.ptr p1, .str s2] h Q :=
 AC_by (H := hintsOf [9] [(0, [29], [])]) (by kernel_rfl) (by kernel_rfl) hk
def vc58 (p1 : Option PA) (h : Heap) (Q : AV → Heap → Prop) : Prop :=
 vif (!(p1.isNone))
 (vPtr p1 fun p2 =>
 ∃ m3 : Option Nat, cellsAt h ⟨p2.b, p2.o + 0⟩ 1 = some [.map m3] ∧
 Q (.bool (!(m3.isNone))) h)
 (Q (.bool false) h)
theorem ac58 {p1 : Option PA} {h : Heap} {Q : AV → Heap → Prop} (hk : vc58 p1 h Q) : AC Tryz.prog 58 [.ptr p1] h Q :=
 AC_by (H := hintsOf [] []) (by kernel_rfl) (by kernel_rfl) hk
def vc108 (p1 : Option PA) (n2 : Int) (l3 : Nat → Int) (n4 : Int) (h : Heap) (Q : AV → Heap → Prop) : Prop :=
 PNew ([.ptr p1, .int .i64 n2] ++ ((cel .u8 64 l3))) true h fun a5 h6 =>
 vif (decide ((minI n4 64) < 1))
 (Q (.tup []) h6)
 (∃ (I7 : List AV → Heap → Prop) (m8 : List AV → Heap → Nat), I7 [] h6 ∧
 ∀ h9 : Heap, I7 [] h9 →
 ∃ p10 : Option PA, cellsAt h9 ⟨a5, 0⟩ 1 = some [.ptr p10] ∧
 vPtr p10 fun p11 =>
 ∃ q12 : Option SL, cellsAt h9 ⟨p11.b, p11.o + 2⟩ 1 = some [.sl q12] ∧
 ∃ n13 : Int, cellsAt h9 ⟨a5, 1⟩ 1 = some [.int .i64 n13] ∧
 vif (decide ((slLen q12 : Int) ≤ n13))
 (∃ p14 : Option PA, cellsAt h9 ⟨a5, 0⟩ 1 = some [.ptr p14] ∧
 ∃ p15 : Option PA, cellsAt h9 ⟨a5, 0⟩ 1 = some [.ptr p15] ∧
 vPtr p15 fun p16 =>
 ∃ q17 : Option SL, cellsAt h9 ⟨p16.b, p16.o + 2⟩ 1 = some [.sl q17] ∧
 PNew (List.replicate 64 (AV.int .u8 0)) true h9 fun a18 h19 =>
 (∃ q27 : Option SL, cellsAt h19 ⟨p16.b, p16.o + 2⟩ 1 = some [.sl q27] ∧
 LV.val (.sl q27) = LV.val (.sl q17)) ∧
 (∃ p26 : Option PA, cellsAt h19 ⟨a5, 0⟩ 1 = some [.ptr p26] ∧
 LV.val (.ptr p26) = LV.val (.ptr p15)) ∧
 (∃ p25 : Option PA, cellsAt h19 ⟨a5, 0⟩ 1 = some [.ptr p25] ∧
 LV.val (.ptr p25) = LV.val (.ptr p14)) ∧
 PAppendS 64 64 q17 (some ⟨a18, 0, 1, 1, 0⟩) h19 fun q20 h21 =>
 (∃ p24 : Option PA, cellsAt h21 ⟨a5, 0⟩ 1 = some [.ptr p24] ∧
 LV.val (.ptr p24) = LV.val (.ptr p14)) ∧
 vPtr p14 fun p22 =>
 PStore h21 ⟨p22.b, p22.o + 2⟩ [.sl q20] fun h23 =>
 (True) ∧ I7 [] h23 ∧ m8 [] h23 < m8 [] h9)
 (∃ p28 : Option PA, cellsAt h9 ⟨a5, 0⟩ 1 = some [.ptr p28] ∧
 vPtr p28 fun p29 =>
 ∃ q30 : Option SL, cellsAt h9 ⟨p29.b, p29.o + 2⟩ 1 = some [.sl q30] ∧
 ∃ n31 : Int, cellsAt h9 ⟨a5, 1⟩ 1 = some [.int .i64 n31] ∧
 vIdx q30 n31 64 fun p32 =>
 PSlice 1 (some ⟨p32.b, p32.o, 64, 64, 0⟩) 0 (some (minI n4 64)) none fun q33 =>
 PSlice 1 (some ⟨a5, 2, 64, 64, 0⟩) 0 (some (minI n4 64)) none fun q34 =>
 PCopyS 1 q33 q34 h9 fun n35 h36 =>
 Q (.tup []) h36))
theorem ac108 {p1 : Option PA} {n2 : Int} {l3 : Nat → Int} {n4 : Int} {h : Heap} {Q : AV → Heap → Prop} (hk : vc108 p1 n2 l3 n4 h Q) : AC Tryz.prog 108 [.agg ([.ptr p1, .int .i64 n2] ++ ((cel .u8 64 l3))), .int .i64 n4] h Q :=
 AC_by (H := hintsOf [] [(0, [], [])]) (by kernel_rfl) (by kernel_rfl) hk
def vc105 (p1 : Option PA) (s2 : List UInt8) (h : Heap) (Q : AV → Heap → Prop) : Prop :=
 AC Tryz.prog 103 [.ptr p1] h fun v3 h4 => ∃ n5 : Int, v3 = .int .i64 n5 ∧
 vif (n5 != 0)
 (Q (.tup [.ptr none, .int .i64 n5]) h4)
 (vPtr p1 fun p6 =>
 ∃ m7 : Option Nat, cellsAt h4 ⟨p6.b, p6.o + 0⟩ 1 = some [.map m7] ∧
 PLookup Tryz.prog 9 107 m7 (.str s2) false h4 fun v8 =>
 ∃ p9 : Option PA, v8 = .ptr p9 ∧
 vif (p9.isNone)
 (Q (.tup [.ptr none, .int .i64 4]) h4)
 (Q (.tup [.ptr p9, .int .i64 0]) h4))
theorem ac105 {p1 : Option PA} {s2 : List UInt8} {h : Heap} {Q : AV → Heap → Prop} (hk : vc105 p1 s2 h Q) : AC Tryz.prog 105 [.ptr p1, .str s2] h Q :=
 AC_by (H := hintsOf [] []) (by kernel_rfl) (by kernel_rfl) hk
def vc131 (q1 : Option SL) (h : Heap) (Q : AV → Heap → Prop) : Prop :=
 vif (q1.isNone)
 (Q (.sl none) h)
 (PNew [] true h fun a2 h3 =>
 PAppendS 1 1 (some ⟨a2, 0, 0, 0, 0⟩) q1 h3 fun q4 h5 =>
 Q (.sl q4) h5)
theorem ac131 {q1 : Option SL} {h : Heap} {Q : AV → Heap → Prop} (hk : vc131 q1 h Q) : AC Tryz.prog 131 [.sl q1] h Q :=
 AC_by (H := hintsOf [] []) (by kernel_rfl) (by kernel_rfl) hk
def vc61 (n1 : Int) (n2 : Int) (n3 : Int) (n4 : Int) (h : Heap) (Q : AV → Heap → Prop) : Prop :=
 AC Tryz.prog 91 [.agg [.int .i64 n1, .int .i64 n2]] h fun v5 h6 => ∃ b7 : Bool, v5 = .bool b7 ∧
 vif (!b7)
 (Q (.int .i64 40) h6)
 (AC Tryz.prog 92 [.agg [.int .i64 n3, .int .i64 n4]] h6 fun v8 h9 => ∃ b10 : Bool, v8 = .bool b10 ∧
 vif (!b10)
 (Q (.int .i64 30) h9)
 (Q (.int .i64 0) h9))
theorem ac61 {n1 : Int} {n2 : Int} {n3 : Int} {n4 : Int} {h : Heap} {Q : AV → Heap → Prop} (hk : vc61 n1 n2 n3 n4 h Q) : AC Tryz.prog 61 [.agg [.int .i64 n1, .int .i64 n2, .int .i64 n3, .int .i64 n4]] h Q :=
 AC_by (H := hintsOf [1] []) (by kernel_rfl) (by kernel_rfl) hk
def vc42 (n1 : Int) (n2 : Int) (n3 : Int) (n4 : Int) (n5 : Int) (n6 : Int) (n7 : Int) (n8 : Int) (h : Heap) (Q : AV → Heap → Prop) : Prop :=
 AC Tryz.prog 81 [.agg [.int .i64 n1, .int .i64 n2], .agg [.int .i64 n5, .int .i64 n6]] h fun v9 h10 => ∃ n11 : Int, v9 = .int .i64 n11 ∧
 vif (n11 != 0)
 (Q (.int .i64 n11) h10)
 (AC Tryz.prog 82 [.agg [.int .i64 n3, .int .i64 n4], .agg [.int .i64 n7, .int .i64 n8]] h10 fun v12 h13 => ∃ n14 : Int, v12 = .int .i64 n14 ∧
 Q (.int .i64 n14) h13)
theorem ac42 {n1 : Int} {n2 : Int} {n3 : Int} {n4 : Int} {n5 : Int} {n6 : Int} {n7 : Int} {n8 : Int} {h : Heap} {Q : AV → Heap → Prop} (hk : vc42 n1 n2 n3 n4 n5 n6 n7 n8 h Q) : AC Tryz.prog 42 [.agg [.int .i64 n1, .int .i64 n2, .int .i64 n3, .int .i64 n4], .agg [.int .i64 n5, .int .i64 n6, .int .i64 n7, .int .i64 n8]] h Q :=
 AC_by (H := hintsOf [2, 3] []) (by kernel_rfl) (by kernel_rfl) hk
def vc60 (q1 : Option SL) (h : Heap) (Q : AV → Heap → Prop) : Prop :=
 ∃ (I3 : List AV → Heap → Prop) (m4 : List AV → Heap → Nat), I3 [.int .i64 1] h ∧
 ∀ n2 : Int, ∀ h5 : Heap, I3 [.int .i64 n2] h5 →
 vif (decide (n2 < (slLen q1 : Int)))
 (vIdx q1 (wrapK .i64 (n2 - 1)) 4 fun p6 =>
 ∃ n7 n8 : Int, ∃ n9 n10 : Int, cellsAt h5 p6 4 = some [.int .i64 n7, .int .i64 n8, .int .i64 n9, .int .i64 n10] ∧
 vIdx q1 n2 4 fun p11 =>
 ∃ n12 n13 : Int, ∃ n14 n15 : Int, cellsAt h5 p11 4 = some [.int .i64 n12, .int .i64 n13, .int .i64 n14, .int .i64 n15] ∧
 AC Tryz.prog 42 [.agg [.int .i64 n7, .int .i64 n8, .int .i64 n9, .int .i64 n10], .agg [.int .i64 n12, .int .i64 n13, .int .i64 n14, .int .i64 n15]] h5 fun v16 h17 => ∃ n18 : Int, v16 = .int .i64 n18 ∧
 vif (decide (n18 > 0))
 (Q (.bool false) h17)
 ((True) ∧ I3 [.int .i64 (wrapK .i64 (n2 + 1))] h17 ∧ m4 [.int .i64 (wrapK .i64 (n2 + 1))] h17 < m4 [.int .i64 n2] h5))
 (Q (.bool true) h5)
theorem ac60 {q1 : Option SL} {h : Heap} {Q : AV → Heap → Prop} (hk : vc60 q1 h Q) : AC Tryz.prog 60 [.sl q1] h Q :=
 AC_by (H := hintsOf [] [(0, [3], [])]) (by kernel_rfl) (by kernel_rfl) hk
def vc59 (p1 : Option PA) (n2 : Int) (n3 : Int) (h : Heap) (Q : AV → Heap → Prop) : Prop :=
 ∃ (I5 : List AV → Heap → Prop) (m6 : List AV → Heap → Nat), I5 [.int .i64 0] h ∧
 ∀ n4 : Int, ∀ h7 : Heap, I5 [.int .i64 n4] h7 →
 vif (decide (n4 < 32))
 (need (decide (0 ≤ n4))
 (vif ((bitsAnd .u32 (shrK .u32 n3 n4) 1) == 1)
 (vPtr p1 fun p8 =>
 need (decide (0 ≤ (wrapK .i64 (Int.tdiv (wrapK .i64 (n2 + n4)) 8))) && decide ((wrapK .i64 (Int.tdiv (wrapK .i64 (n2 + n4)) 8)) < 64))
 (∃ n9 : Int, cellsAt h7 ⟨p8.b, p8.o + (wrapK .i64 (Int.tdiv (wrapK .i64 (n2 + n4)) 8)).toNat * 1⟩ 1 = some [.int .u8 n9] ∧
 need (decide (0 ≤ (Int.tmod (wrapK .i64 (n2 + n4)) 8)))
 (vPtr p1 fun p10 =>
 need (decide (0 ≤ (wrapK .i64 (Int.tdiv (wrapK .i64 (n2 + n4)) 8))) && decide ((wrapK .i64 (Int.tdiv (wrapK .i64 (n2 + n4)) 8)) < 64))
 (PStore h7 ⟨p10.b, p10.o + (wrapK .i64 (Int.tdiv (wrapK .i64 (n2 + n4)) 8)).toNat * 1⟩ [.int .u8 (bitsXor .u8 n9 (shlK .u8 1 (Int.tmod (wrapK .i64 (n2 + n4)) 8)))] fun h11 =>
 (True) ∧ I5 [.int .i64 (wrapK .i64 (n4 + 1))] h11 ∧ m6 [.int .i64 (wrapK .i64 (n4 + 1))] h11 < m6 [.int .i64 n4] h7))))
 ((True) ∧ I5 [.int .i64 (wrapK .i64 (n4 + 1))] h7 ∧ m6 [.int .i64 (wrapK .i64 (n4 + 1))] h7 < m6 [.int .i64 n4] h7)))
 (Q (.tup []) h7)
theorem ac59 {p1 : Option PA} {n2 : Int} {n3 : Int} {h : Heap} {Q : AV → Heap → Prop} (hk : vc59 p1 n2 n3 h Q) : AC Tryz.prog 59 [.ptr p1, .int .i64 n2, .int .u32 n3] h Q :=
 AC_by (H := hintsOf [] [(0, [7], [])]) (by kernel_rfl) (by kernel_rfl) hk
def vc110 (p1 : Option PA) (s2 : List UInt8) (n3 : Int) (n4 : Int) (h : Heap) (Q : AV → Heap → Prop) : Prop :=
 AC Tryz.prog 129 [.ptr p1, .str s2, .int .i64 n4] h fun v5 h6 => ∃ q7 : Option SL, ∃ n8 : Int, v5 = .tup [.sl q7, .int .i64 n8] ∧
 vif (n8 != 0)
 (Q (.tup [.sl none, .int .i64 n8]) h6)
 (AC Tryz.prog 130 [.sl q7, .int .i64 (wrapK .i64 (n3 + n4))] h6 fun v9 h10 => ∃ q11 : Option SL, ∃ n12 : Int, v9 = .tup [.sl q11, .int .i64 n12] ∧
 vif (n12 != 0)
 (Q (.tup [.sl none, .int .i64 80]) h10)
 (Q (.tup [.sl q11, .int .i64 0]) h10))
theorem ac110 {p1 : Option PA} {s2 : List UInt8} {n3 : Int} {n4 : Int} {h : Heap} {Q : AV → Heap → Prop} (hk : vc110 p1 s2 n3 n4 h Q) : AC Tryz.prog 110 [.agg [.ptr p1, .str s2, .int .i64 n3], .int .i64 n4] h Q :=
 AC_by (H := hintsOf [2] []) (by kernel_rfl) (by kernel_rfl) hk
def vc116 (q1 : Option SL) (h : Heap) (Q : AV → Heap → Prop) : Prop :=
 vif (decide ((slLen q1 : Int) > 43))
 (Q (.tup [.sl none, .int .i64 3]) h)
 (AC Tryz.prog 111 [.sl q1] h fun v2 h3 => ∃ p4 : Option PA, v2 = .ptr p4 ∧
 ∃ (I6 : List AV → Heap → Prop) (m7 : List AV → Heap → Nat), I6 [.sl none] h3 ∧
 ∀ q5 : Option SL, ∀ h8 : Heap, I6 [.sl q5] h8 →
 AC Tryz.prog 138 [.ptr p4] h8 fun v9 h10 => ∃ n11 : Int, v9 = .int .i64 n11 ∧
 vif (decide (n11 > 0))
 (AC Tryz.prog 139 [.ptr p4] h10 fun v12 h13 => ∃ n14 n15 n16 : Int, v12 = .tup [.agg [.int .i64 n14, .int .i64 n15], .int .i64 n16] ∧
 AC Tryz.prog 140 [.ptr p4] h13 fun v17 h18 => ∃ n19 n20 n21 : Int, v17 = .tup [.agg [.int .i64 n19, .int .i64 n20], .int .i64 n21] ∧
 vif (n16 != 0)
 (Q (.tup [.sl none, .int .i64 10]) h18)
 (vif (n21 != 0)
 (Q (.tup [.sl none, .int .i64 10]) h18)
 (PNew [.int .i64 n14, .int .i64 n15, .int .i64 n19, .int .i64 n20] true h18 fun a22 h23 =>
 PAppendS 4 32 q5 (some ⟨a22, 0, 1, 1, 0⟩) h23 fun q24 h25 =>
 (True) ∧ I6 [.sl q24] h25 ∧ m7 [.sl q24] h25 < m7 [.sl q5] h8)))
 (Q (.tup [.sl q5, .int .i64 0]) h10))
theorem ac116 {q1 : Option SL} {h : Heap} {Q : AV → Heap → Prop} (hk : vc116 q1 h Q) : AC Tryz.prog 116 [.sl q1] h Q :=
 AC_by (H := hintsOf [6, 8] [(0, [4], [])]) (by kernel_rfl) (by kernel_rfl) hk
def vc101 (q1 : Option SL) (h : Heap) (Q : AV → Heap → Prop) : Prop :=
 ∃ (I3 : List AV → Heap → Prop) (m4 : List AV → Heap → Nat), I3 [.int .i64 (wrapK .i64 ((slLen q1 : Int) - 1))] h ∧
 ∀ n2 : Int, ∀ h5 : Heap, I3 [.int .i64 n2] h5 →
 vif (decide (n2 > 0))
 (vIdx q1 n2 4 fun p6 =>
 ∃ n7 n8 : Int, ∃ n9 n10 : Int, cellsAt h5 p6 4 = some [.int .i64 n7, .int .i64 n8, .int .i64 n9, .int .i64 n10] ∧
 vIdx q1 (wrapK .i64 (n2 - 1)) 4 fun p11 =>
 ∃ n12 n13 : Int, ∃ n14 n15 : Int, cellsAt h5 p11 4 = some [.int .i64 n12, .int .i64 n13, .int .i64 n14, .int .i64 n15] ∧
 AC Tryz.prog 47 [.agg [.int .i64 n7, .int .i64 n8, .int .i64 n9, .int .i64 n10], .agg [.int .i64 n12, .int .i64 n13, .int .i64 n14, .int .i64 n15]] h5 fun v16 h17 => ∃ n18 : Int, v16 = .int .i64 n18 ∧
 vif (decide (n18 < 0))
 (Q (.bool false) h17)
 ((True) ∧ I3 [.int .i64 (wrapK .i64 (n2 - 1))] h17 ∧ m4 [.int .i64 (wrapK .i64 (n2 - 1))] h17 < m4 [.int .i64 n2] h5))
 (Q (.bool true) h5)
theorem ac101 {q1 : Option SL} {h : Heap} {Q : AV → Heap → Prop} (hk : vc101 q1 h Q) : AC Tryz.prog 101 [.sl q1, .func (.func 47) [] []] h Q :=
 AC_by (H := hintsOf [] [(0, [5], [])]) (by kernel_rfl) (by kernel_rfl) hk
def vc111 (q1 : Option SL) (h : Heap) (Q : AV → Heap → Prop) : Prop :=
 AC Tryz.prog 131 [.sl q1] h fun v2 h3 => ∃ q4 : Option SL, v2 = .sl q4 ∧
 PNew [.sl q4, .bool false] true h3 fun a5 h6 =>
 Q (.ptr (some ⟨a5, 0⟩)) h6
theorem ac111 {q1 : Option SL} {h : Heap} {Q : AV → Heap → Prop} (hk : vc111 q1 h Q) : AC Tryz.prog 111 [.sl q1] h Q :=
 AC_by (H := hintsOf [] []) (by kernel_rfl) (by kernel_rfl) hk
def vc112 (p1 : Option PA) (h : Heap) (Q : AV → Heap → Prop) : Prop :=
 AC Tryz.prog 132 [.ptr p1, .int .i64 1] h fun v2 h3 => ∃ n4 : Int, v2 = .int .i64 n4 ∧
 vif (decide (n4 < 240))
 (Q (.int .i64 n4) h3)
 (vif (decide (n4 < 248))
 (AC Tryz.prog 132 [.ptr p1, .int .i64 1] h3 fun v5 h6 => ∃ n7 : Int, v5 = .int .i64 n7 ∧
 AC Tryz.prog 133 [.ptr p1, .int .i64 (wrapK .i64 ((wrapK .i64 (240 + (shlK .i64 (wrapK .i64 (n4 - 240)) 8))) + n7)), .bool true] h6 fun v8 h9 => ∃ n10 : Int, v8 = .int .i64 n10 ∧
 Q (.int .i64 n10) h9)
 (vif (decide (n4 ≤ 254))
 (AC Tryz.prog 132 [.ptr p1, .int .i64 (wrapK .i64 (n4 - 246))] h3 fun v11 h12 => ∃ n13 : Int, v11 = .int .i64 n13 ∧
 vif (decide (n13 ≥ 2288))
 (AC Tryz.prog 134 [.int .i64 n13] h12 fun v14 h15 => ∃ n16 : Int, v14 = .int .i64 n16 ∧
 AC Tryz.prog 133 [.ptr p1, .int .i64 n13, .bool (n16 == (wrapK .i64 ((wrapK .i64 (n4 - 246)) + 1)))] h15 fun v17 h18 => ∃ n19 : Int, v17 = .int .i64 n19 ∧
 Q (.int .i64 n19) h18)
 (AC Tryz.prog 133 [.ptr p1, .int .i64 n13, .bool false] h12 fun v20 h21 => ∃ n22 : Int, v20 = .int .i64 n22 ∧
 Q (.int .i64 n22) h21))
 (AC Tryz.prog 135 [.ptr p1] h3 fun v23 h24 => ∃ n25 : Int, v23 = .int .i64 n25 ∧
 Q (.int .i64 n25) h24)))
theorem ac112 {p1 : Option PA} {h : Heap} {Q : AV → Heap → Prop} (hk : vc112 p1 h Q) : AC Tryz.prog 112 [.ptr p1] h Q :=
 AC_by (H := hintsOf [] []) (by kernel_rfl) (by kernel_rfl) hk
def vc113 (p1 : Option PA) (h : Heap) (Q : AV → Heap → Prop) : Prop :=
 AC Tryz.prog 136 [.ptr p1] h fun v2 h3 => ∃ b4 : Bool, v2 = .bool b4 ∧
 vif b4
 (Q (.int .i64 10) h3)
 (vPtr p1 fun p5 =>
 ∃ q6 : Option SL, cellsAt h3 ⟨p5.b, p5.o + 0⟩ 1 = some [.sl q6] ∧
 vif (decide ((slLen q6 : Int) > 0))
 (Q (.int .i64 10) h3)
 (Q (.int .i64 0) h3))
theorem ac113 {p1 : Option PA} {h : Heap} {Q : AV → Heap → Prop} (hk : vc113 p1 h Q) : AC Tryz.prog 113 [.ptr p1] h Q :=
 AC_by (H := hintsOf [] []) (by kernel_rfl) (by kernel_rfl) hk
def vc114 (q1 : Option SL) (q2 : Option SL) (h : Heap) (Q : AV → Heap → Prop) : Prop :=
 AC Tryz.prog 96 [.sl q1] h fun v3 h4 => ∃ q5 : Option SL, ∃ n6 : Int, v3 = .tup [.sl q5, .int .i64 n6] ∧
 vif (n6 != 0)
 (Q (.bool false) h4)
 (vif ((slLen q5 : Int) != (slLen q2 : Int))
 (Q (.bool false) h4)
 (∃ (I8 : List AV → Heap → Prop) (m9 : List AV → Heap → Nat), I8 [.int .i64 0] h4 ∧
 ∀ n7 : Int, ∀ h10 : Heap, I8 [.int .i64 n7] h10 →
 vif (decide (n7 < (slLen q5 : Int)))
 (vIdx q5 n7 1 fun p11 =>
 ∃ q12 : Option SL, cellsAt h10 p11 1 = some [.sl q12] ∧
 AC Tryz.prog 116 [.sl q12] h10 fun v13 h14 => ∃ q15 : Option SL, ∃ n16 : Int, v13 = .tup [.sl q15, .int .i64 n16] ∧
 vIdx q2 n7 1 fun p17 =>
 ∃ n18 : Int, cellsAt h14 p17 1 = some [.int .i64 n18] ∧
 vif ((slLen q15 : Int) != n18)
 (Q (.bool false) h14)
 ((True) ∧ I8 [.int .i64 (wrapK .i64 (n7 + 1))] h14 ∧ m9 [.int .i64 (wrapK .i64 (n7 + 1))] h14 < m9 [.int .i64 n7] h10))
 (Q (.bool true) h10)))
theorem ac114 {q1 : Option SL} {q2 : Option SL} {h : Heap} {Q : AV → Heap → Prop} (hk : vc114 q1 q2 h Q) : AC Tryz.prog 114 [.sl q1, .sl q2] h Q :=
 AC_by (H := hintsOf [] [(0, [27], [])]) (by kernel_rfl) (by kernel_rfl) hk
def vc84 (q1 : Option SL) (h : Heap) (Q : AV → Heap → Prop) : Prop :=
 ∃ (I3 : List AV → Heap → Prop) (m4 : List AV → Heap → Nat), I3 [.int .i64 0] h ∧
 ∀ n2 : Int, ∀ h5 : Heap, I3 [.int .i64 n2] h5 →
 vif (decide (n2 < (slLen q1 : Int)))
 (vIdx q1 n2 1 fun p6 =>
 ∃ n7 : Int, cellsAt h5 p6 1 = some [.int .i64 n7] ∧
 vif (n7 != 0)
 (Q (.int .i64 n7) h5)
 ((True) ∧ I3 [.int .i64 (wrapK .i64 (n2 + 1))] h5 ∧ m4 [.int .i64 (wrapK .i64 (n2 + 1))] h5 < m4 [.int .i64 n2] h5))
 (Q (.int .i64 0) h5)
theorem ac84 {q1 : Option SL} {h : Heap} {Q : AV → Heap → Prop} (hk : vc84 q1 h Q) : AC Tryz.prog 84 [.sl q1] h Q :=
 AC_by (H := hintsOf [] [(0, [8], [])]) (by kernel_rfl) (by kernel_rfl) hk
def vc85 (n1 : Int) (n2 : Int) (n3 : Int) (n4 : Int) (h : Heap) (Q : AV → Heap → Prop) : Prop :=
 AC Tryz.prog 115 [.int .i64 n1, .int .i64 n3] h fun v5 h6 => ∃ n7 : Int, v5 = .int .i64 n7 ∧
 (LV.val (.int .i64 n4) = LV.val (.int .i64 n4)) ∧
 (LV.val (.int .i64 n2) = LV.val (.int .i64 n2)) ∧
 AC Tryz.prog 115 [.int .i64 n2, .int .i64 n4] h6 fun v8 h9 => ∃ n10 : Int, v8 = .int .i64 n10 ∧
 PNew [.int .i64 n7, .int .i64 n10] true h9 fun a11 h12 =>
 AC Tryz.prog 84 [.sl (some ⟨a11, 0, 2, 2, 0⟩)] h12 fun v13 h14 => ∃ n15 : Int, v13 = .int .i64 n15 ∧
 Q (.int .i64 n15) h14
theorem ac85 {n1 : Int} {n2 : Int} {n3 : Int} {n4 : Int} {h : Heap} {Q : AV → Heap → Prop} (hk : vc85 n1 n2 n3 n4 h Q) : AC Tryz.prog 85 [.agg [.int .i64 n1, .int .i64 n2], .agg [.int .i64 n3, .int .i64 n4]] h Q :=
 AC_by (H := hintsOf [2, 3] []) (by kernel_rfl) (by kernel_rfl) hk
def vc86 (n1 : Int) (n2 : Int) (n3 : Int) (n4 : Int) (h : Heap) (Q : AV → Heap → Prop) : Prop :=
 AC Tryz.prog 115 [.int .i64 n1, .int .i64 n3] h fun v5 h6 => ∃ n7 : Int, v5 = .int .i64 n7 ∧
 (LV.val (.int .i64 n4) = LV.val (.int .i64 n4)) ∧
 (LV.val (.int .i64 n2) = LV.val (.int .i64 n2)) ∧
 AC Tryz.prog 115 [.int .i64 n2, .int .i64 n4] h6 fun v8 h9 => ∃ n10 : Int, v8 = .int .i64 n10 ∧
 PNew [.int .i64 n7, .int .i64 n10] true h9 fun a11 h12 =>
 AC Tryz.prog 84 [.sl (some ⟨a11, 0, 2, 2, 0⟩)] h12 fun v13 h14 => ∃ n15 : Int, v13 = .int .i64 n15 ∧
 Q (.int .i64 n15) h14
theorem ac86 {n1 : Int} {n2 : Int} {n3 : Int} {n4 : Int} {h : Heap} {Q : AV → Heap → Prop} (hk : vc86 n1 n2 n3 n4 h Q) : AC Tryz.prog 86 [.agg [.int .i64 n1, .int .i64 n2], .agg [.int .i64 n3, .int .i64 n4]] h Q :=
 AC_by (H := hintsOf [2, 3] []) (by kernel_rfl) (by kernel_rfl) hk
def vc96 (q1 : Option SL) (h : Heap) (Q : AV → Heap → Prop) : Prop :=
 AC Tryz.prog 118 [.sl q1] h fun v2 h3 => ∃ n4 : Int, v2 = .int .i64 n4 ∧
 vif (n4 != 0)
 (Q (.tup [.sl none, .int .i64 n4]) h3)
 (∃ (I8 : List AV → Heap → Prop) (m9 : List AV → Heap → Nat), I8 [.sl none, .sl none, .int .i64 0] h3 ∧
 ∀ q5 q6 : Option SL, ∀ n7 : Int, ∀ h10 : Heap, I8 [.sl q5, .sl q6, .int .i64 n7] h10 →
 vif (decide (n7 < (slLen q1 : Int)))
 (vIdx q1 n7 4 fun p11 =>
 ∃ n12 n13 : Int, ∃ n14 n15 : Int, cellsAt h10 p11 4 = some [.int .i64 n12, .int .i64 n13, .int .i64 n14, .int .i64 n15] ∧
 AC Tryz.prog 119 [.agg [.int .i64 n12, .int .i64 n13, .int .i64 n14, .int .i64 n15]] h10 fun v16 h17 => ∃ q18 : Option SL, v16 = .sl q18 ∧
 vif (decide ((wrapK .i64 ((slLen q6 : Int) + (slLen q18 : Int))) > 43))
 (PNew [.sl q6] true h17 fun a19 h20 =>
 PAppendS 1 24 q5 (some ⟨a19, 0, 1, 1, 0⟩) h20 fun q21 h22 =>
 PAppendS 1 1 none q18 h22 fun q23 h24 =>
 (True) ∧ I8 [.sl q21, .sl q23, .int .i64 (wrapK .i64 (n7 + 1))] h24 ∧ m9 [.sl q21, .sl q23, .int .i64 (wrapK .i64 (n7 + 1))] h24 < m9 [.sl q5, .sl q6, .int .i64 n7] h10)
 (PAppendS 1 1 q6 q18 h17 fun q25 h26 =>
 (True) ∧ I8 [.sl q5, .sl q25, .int .i64 (wrapK .i64 (n7 + 1))] h26 ∧ m9 [.sl q5, .sl q25, .int .i64 (wrapK .i64 (n7 + 1))] h26 < m9 [.sl q5, .sl q6, .int .i64 n7] h10))
 (vif (decide ((slLen q6 : Int) > 0))
 (PNew [.sl q6] true h10 fun a27 h28 =>
 PAppendS 1 24 q5 (some ⟨a27, 0, 1, 1, 0⟩) h28 fun q29 h30 =>
 Q (.tup [.sl q29, .int .i64 0]) h30)
 (Q (.tup [.sl q5, .int .i64 0]) h10)))
theorem ac96 {q1 : Option SL} {h : Heap} {Q : AV → Heap → Prop} (hk : vc96 q1 h Q) : AC Tryz.prog 96 [.sl q1] h Q :=
 AC_by (H := hintsOf [8] [(0, [5, 6, 17], [])]) (by kernel_rfl) (by kernel_rfl) hk
def vc97 (q1 : Option SL) (h : Heap) (Q : AV → Heap → Prop) : Prop :=
 ∃ (I4 : List AV → Heap → Prop) (m5 : List AV → Heap → Nat), I4 [.sl none, .int .i64 0] h ∧
 ∀ q2 : Option SL, ∀ n3 : Int, ∀ h6 : Heap, I4 [.sl q2, .int .i64 n3] h6 →
 vif (decide (n3 < (slLen q1 : Int)))
 (vIdx q1 n3 1 fun p7 =>
 ∃ q8 : Option SL, cellsAt h6 p7 1 = some [.sl q8] ∧
 AC Tryz.prog 116 [.sl q8] h6 fun v9 h10 => ∃ q11 : Option SL, ∃ n12 : Int, v9 = .tup [.sl q11, .int .i64 n12] ∧
 vIdx q11 0 4 fun p13 =>
 ∃ n14 n15 : Int, ∃ n16 n17 : Int, cellsAt h10 p13 4 = some [.int .i64 n14, .int .i64 n15, .int .i64 n16, .int .i64 n17] ∧
 PNew [.int .i64 n14, .int .i64 n15, .int .i64 n16, .int .i64 n17] true h10 fun a18 h19 =>
 PAppendS 4 32 q2 (some ⟨a18, 0, 1, 1, 0⟩) h19 fun q20 h21 =>
 (True) ∧ I4 [.sl q20, .int .i64 (wrapK .i64 (n3 + 1))] h21 ∧ m5 [.sl q20, .int .i64 (wrapK .i64 (n3 + 1))] h21 < m5 [.sl q2, .int .i64 n3] h6)
 (Q (.sl q2) h6)
theorem ac97 {q1 : Option SL} {h : Heap} {Q : AV → Heap → Prop} (hk : vc97 q1 h Q) : AC Tryz.prog 97 [.sl q1] h Q :=
 AC_by (H := hintsOf [] [(0, [3, 10], [])]) (by kernel_rfl) (by kernel_rfl) hk
def vc98 (q1 : Option SL) (h : Heap) (Q : AV → Heap → Prop) : Prop :=
 ∃ (I4 : List AV → Heap → Prop) (m5 : List AV → Heap → Nat), I4 [.int .i64 0, .int .i64 0] h ∧
 ∀ n2 n3 : Int, ∀ h6 : Heap, I4 [.int .i64 n2, .int .i64 n3] h6 →
 vif (decide (n3 < (slLen q1 : Int)))
 (vIdx q1 n3 1 fun p7 =>
 ∃ q8 : Option SL, cellsAt h6 p7 1 = some [.sl q8] ∧
 vif (decide ((wrapK .i64 (n2 + (slLen q8 : Int))) < 0))
 (False)
 ((True) ∧ I4 [.int .i64 (wrapK .i64 (n2 + (slLen q8 : Int))), .int .i64 (wrapK .i64 (n3 + 1))] h6 ∧ m5 [.int .i64 (wrapK .i64 (n2 + (slLen q8 : Int))), .int .i64 (wrapK .i64 (n3 + 1))] h6 < m5 [.int .i64 n2, .int .i64 n3] h6))
 (AC Tryz.prog 120 [.sl none, .int .i64 n2] h6 fun v9 h10 => ∃ q11 : Option SL, v9 = .sl q11 ∧
 ∃ (I14 : List AV → Heap → Prop) (m15 : List AV → Heap → Nat), I14 [.sl q11, .int .i64 0] h10 ∧
 ∀ q12 : Option SL, ∀ n13 : Int, ∀ h16 : Heap, I14 [.sl q12, .int .i64 n13] h16 →
 vif (decide (n13 < (slLen q1 : Int)))
 (vIdx q1 n13 1 fun p17 =>
 ∃ q18 : Option SL, cellsAt h16 p17 1 = some [.sl q18] ∧
 PAppendS 1 24 q12 q18 h16 fun q19 h20 =>
 (True) ∧ I14 [.sl q19, .int .i64 (wrapK .i64 (n13 + 1))] h20 ∧ m15 [.sl q19, .int .i64 (wrapK .i64 (n13 + 1))] h20 < m15 [.sl q12, .int .i64 n13] h16)
 (Q (.sl q12) h16))
theorem ac98 {q1 : Option SL} {h : Heap} {Q : AV → Heap → Prop} (hk : vc98 q1 h Q) : AC Tryz.prog 98 [.sl q1] h Q :=
 AC_by (H := hintsOf [] [(0, [3, 11], []), (2, [6, 27], [])]) (by kernel_rfl) (by kernel_rfl) hk
def vc99 (q1 : Option SL) (h : Heap) (Q : AV → Heap → Prop) : Prop :=
 ∃ (I4 : List AV → Heap → Prop) (m5 : List AV → Heap → Nat), I4 [.sl none, .int .i64 0] h ∧
 ∀ q2 : Option SL, ∀ n3 : Int, ∀ h6 : Heap, I4 [.sl q2, .int .i64 n3] h6 →
 vif (decide (n3 < (slLen q1 : Int)))
 (vIdx q1 n3 1 fun p7 =>
 ∃ n8 : Int, cellsAt h6 p7 1 = some [.int .i64 n8] ∧
 AC Tryz.prog 121 [.int .i64 n8] h6 fun v9 h10 => ∃ q11 : Option SL, ∃ n12 : Int, v9 = .tup [.sl q11, .int .i64 n12] ∧
 PAppendS 1 1 q2 q11 h10 fun q13 h14 =>
 (True) ∧ I4 [.sl q13, .int .i64 (wrapK .i64 (n3 + 1))] h14 ∧ m5 [.sl q13, .int .i64 (wrapK .i64 (n3 + 1))] h14 < m5 [.sl q2, .int .i64 n3] h6)
 (Q (.sl q2) h6)
theorem ac99 {q1 : Option SL} {h : Heap} {Q : AV → Heap → Prop} (hk : vc99 q1 h Q) : AC Tryz.prog 99 [.sl q1] h Q :=
 AC_by (H := hintsOf [] [(0, [3, 10], [])]) (by kernel_rfl) (by kernel_rfl) hk
def vc100 (n1 : Int) (q2 : Option SL) (h : Heap) (Q : AV → Heap → Prop) : Prop :=
 AC Tryz.prog 122 [.int .i64 n1] h fun v3 h4 => ∃ b5 : Bool, v3 = .bool b5 ∧
 vif (!b5)
 (Q (.tup [.sl none, .int .i64 1]) h4)
 (vif (decide ((slLen q2 : Int) > 43))
 (Q (.tup [.sl none, .int .i64 3]) h4)
 (AC Tryz.prog 123 [.int .i64 n1, .int .i64 8] h4 fun v6 h7 => ∃ q8 : Option SL, ∃ n9 : Int, v6 = .tup [.sl q8, .int .i64 n9] ∧
 PMake [.int .u8 0] 1 52 52 h7 fun q10 h11 =>
 PCopyS 1 q10 q8 h11 fun n12 h13 =>
 vIdx q10 8 1 fun p14 =>
 PStore h13 p14 [.int .u8 (wrapK .u8 (slLen q2 : Int))] fun h15 =>
 PSlice 1 q10 9 none none fun q16 =>
 PCopyS 1 q16 q2 h15 fun n17 h18 =>
 AC Tryz.prog 125 [.sl q10] h18 fun v19 h20 => ∃ q21 : Option SL, v19 = .sl q21 ∧
 PNew [.sl q21, .sl q8] true h20 fun a22 h23 =>
 AC Tryz.prog 124 [.sl (some ⟨a22, 0, 2, 2, 0⟩)] h23 fun v24 h25 => ∃ q26 : Option SL, v24 = .sl q26 ∧
 Q (.tup [.sl q26, .int .i64 0]) h25))
theorem ac100 {n1 : Int} {q2 : Option SL} {h : Heap} {Q : AV → Heap → Prop} (hk : vc100 n1 q2 h Q) : AC Tryz.prog 100 [.int .i64 n1, .sl q2] h Q :=
 AC_by (H := hintsOf [] []) (by kernel_rfl) (by kernel_rfl) hk
def vc102 (s1 : List UInt8) (h : Heap) (Q : AV → Heap → Prop) : Prop :=
 vif (decide ((s1.length : Int) ≥ 1))
 (Q (.bool (decide ((s1.length : Int) ≤ 24))) h)
 (Q (.bool false) h)
theorem ac102 {s1 : List UInt8} {h : Heap} {Q : AV → Heap → Prop} (hk : vc102 s1 h Q) : AC Tryz.prog 102 [.str s1] h Q :=
 AC_by (H := hintsOf [] []) (by kernel_rfl) (by kernel_rfl) hk
def vc103 (p1 : Option PA) (h : Heap) (Q : AV → Heap → Prop) : Prop :=
 AC Tryz.prog 58 [.ptr p1] h fun v2 h3 => ∃ b4 : Bool, v2 = .bool b4 ∧
 vif (!b4)
 (Q (.int .i64 6) h3)
 (vPtr p1 fun p5 =>
 ∃ b6 : Bool, cellsAt h3 ⟨p5.b, p5.o + 4⟩ 1 = some [.bool b6] ∧
 vif b6
 (Q (.int .i64 50) h3)
 (Q (.int .i64 0) h3))
theorem ac103 {p1 : Option PA} {h : Heap} {Q : AV → Heap → Prop} (hk : vc103 p1 h Q) : AC Tryz.prog 103 [.ptr p1] h Q :=
 AC_by (H := hintsOf [] []) (by kernel_rfl) (by kernel_rfl) hk
def vc104 (p1 : Option PA) (h : Heap) (Q : AV → Heap → Prop) : Prop :=
 vPtr p1 fun p2 =>
 ∃ n3 : Int, cellsAt h ⟨p2.b, p2.o + 3⟩ 1 = some [.int .i64 n3] ∧
 vif (n3 == 0)
 (vPtr p1 fun p4 =>
 PStore h ⟨p4.b, p4.o + 4⟩ [.bool true] fun h5 =>
 Q (.int .i64 50) h5)
 (vPtr p1 fun p6 =>
 ∃ n7 : Int, cellsAt h ⟨p6.b, p6.o + 3⟩ 1 = some [.int .i64 n7] ∧
 vif (decide (n7 > 0))
 (vPtr p1 fun p8 =>
 ∃ n9 : Int, cellsAt h ⟨p8.b, p8.o + 3⟩ 1 = some [.int .i64 n9] ∧
 vPtr p1 fun p10 =>
 PStore h ⟨p10.b, p10.o + 3⟩ [.int .i64 (wrapK .i64 (n9 - 1))] fun h11 =>
 Q (.int .i64 0) h11)
 (Q (.int .i64 0) h))
theorem ac104 {p1 : Option PA} {h : Heap} {Q : AV → Heap → Prop} (hk : vc104 p1 h Q) : AC Tryz.prog 104 [.ptr p1] h Q :=
 AC_by (H := hintsOf [] []) (by kernel_rfl) (by kernel_rfl) hk
def vc107 (p1 : Option PA) (p2 : Option PA) (n3 : Int) (l4 : Nat → Int) (h : Heap) (Q : AV → Heap → Prop) : Prop :=
 vPtr p2 fun p5 =>
 ∃ q6 : Option SL, cellsAt h ⟨p5.b, p5.o + 1⟩ 1 = some [.sl q6] ∧
 vIdx q6 n3 64 fun p7 =>
 PStore h p7 (cel .u8 64 l4) fun h8 =>
 vPtr p1 fun p9 =>
 ∃ q10 : Option SL, cellsAt h8 ⟨p9.b, p9.o + 1⟩ 1 = some [.sl q10] ∧
 PNew ([.ptr p2, .int .i64 n3] ++ ((cel .u8 64 l4))) true h8 fun a11 h12 =>
 (∃ q17 : Option SL, cellsAt h12 ⟨p9.b, p9.o + 1⟩ 1 = some [.sl q17] ∧
 LV.val (.sl q17) = LV.val (.sl q10)) ∧
 PAppendS 66 80 q10 (some ⟨a11, 0, 1, 1, 0⟩) h12 fun q13 h14 =>
 vPtr p1 fun p15 =>
 PStore h14 ⟨p15.b, p15.o + 1⟩ [.sl q13] fun h16 =>
 Q (.tup []) h16
theorem ac107 {p1 : Option PA} {p2 : Option PA} {n3 : Int} {l4 : Nat → Int} {h : Heap} {Q : AV → Heap → Prop} (hk : vc107 p1 p2 n3 l4 h Q) : AC Tryz.prog 107 [.ptr p1, .ptr p2, .int .i64 n3, .agg (cel .u8 64 l4)] h Q :=
 AC_by (H := hintsOf [7] []) (by kernel_rfl) (by kernel_rfl) hk
def vc91 (n1 : Int) (n2 : Int) (h : Heap) (Q : AV → Heap → Prop) : Prop :=
 vif (decide (n1 ≥ 0))
 (vif (decide (n1 < 65536))
 (vif (decide (n2 ≥ 0))
 (Q (.bool (decide (n2 < 65536))) h)
 (Q (.bool false) h))
 (Q (.bool false) h))
 (Q (.bool false) h)
theorem ac91 {n1 : Int} {n2 : Int} {h : Heap} {Q : AV → Heap → Prop} (hk : vc91 n1 n2 h Q) : AC Tryz.prog 91 [.agg [.int .i64 n1, .int .i64 n2]] h Q :=
 AC_by (H := hintsOf [1] []) (by kernel_rfl) (by kernel_rfl) hk
def vc92 (n1 : Int) (n2 : Int) (h : Heap) (Q : AV → Heap → Prop) : Prop :=
 vif (decide (n1 ≥ 0))
 (vif (decide (n1 < 1048576))
 (vif (decide (n2 ≥ 0))
 (Q (.bool (decide (n2 < 1048576))) h)
 (Q (.bool false) h))
 (Q (.bool false) h))
 (Q (.bool false) h)
theorem ac92 {n1 : Int} {n2 : Int} {h : Heap} {Q : AV → Heap → Prop} (hk : vc92 n1 n2 h Q) : AC Tryz.prog 92 [.agg [.int .i64 n1, .int .i64 n2]] h Q :=
 AC_by (H := hintsOf [1] []) (by kernel_rfl) (by kernel_rfl) hk
def vc81 (n1 : Int) (n2 : Int) (n3 : Int) (n4 : Int) (h : Heap) (Q : AV → Heap → Prop) : Prop :=
 vif (decide (n1 < n3))
 (Q (.int .i64 (-1)) h)
 (vif (n1 == n3)
 (vif (decide (n2 < n4))
 (Q (.int .i64 (-1)) h)
 (vif ((n1 == n3) && ((n2 == n4) && true))
 (Q (.int .i64 0) h)
 (Q (.int .i64 1) h)))
 (vif ((n1 == n3) && ((n2 == n4) && true))
 (Q (.int .i64 0) h)
 (Q (.int .i64 1) h)))
theorem ac81 {n1 : Int} {n2 : Int} {n3 : Int} {n4 : Int} {h : Heap} {Q : AV → Heap → Prop} (hk : vc81 n1 n2 n3 n4 h Q) : AC Tryz.prog 81 [.agg [.int .i64 n1, .int .i64 n2], .agg [.int .i64 n3, .int .i64 n4]] h Q :=
 AC_by (H := hintsOf [2, 3] []) (by kernel_rfl) (by kernel_rfl) hk
def vc82 (n1 : Int) (n2 : Int) (n3 : Int) (n4 : Int) (h : Heap) (Q : AV → Heap → Prop) : Prop :=
 vif (decide (n1 < n3))
 (Q (.int .i64 (-1)) h)
 (vif (n1 == n3)
 (vif (decide (n2 < n4))
 (Q (.int .i64 (-1)) h)
 (vif ((n1 == n3) && ((n2 == n4) && true))
 (Q (.int .i64 0) h)
 (Q (.int .i64 1) h)))
 (vif ((n1 == n3) && ((n2 == n4) && true))
 (Q (.int .i64 0) h)
 (Q (.int .i64 1) h)))
theorem ac82 {n1 : Int} {n2 : Int} {n3 : Int} {n4 : Int} {h : Heap} {Q : AV → Heap → Prop} (hk : vc82 n1 n2 n3 n4 h Q) : AC Tryz.prog 82 [.agg [.int .i64 n1, .int .i64 n2], .agg [.int .i64 n3, .int .i64 n4]] h Q :=
 AC_by (H := hintsOf [2, 3] []) (by kernel_rfl) (by kernel_rfl) hk
def vc130 (q1 : Option SL) (n2 : Int) (h : Heap) (Q : AV → Heap → Prop) : Prop :=
 AC Tryz.prog 152 [.sl q1] h fun v3 h4 => ∃ n5 : Int, ∃ b6 : Bool, v3 = .tup [.int .i64 n5, .bool b6] ∧
 vif (!b6)
 (Q (.tup [.sl none, .int .i64 60]) h4)
 (vif (n5 != n2)
 (Q (.tup [.sl none, .int .i64 60]) h4)
 (vIdx q1 8 1 fun p7 =>
 ∃ n8 : Int, cellsAt h4 p7 1 = some [.int .u8 n8] ∧
 vif (decide ((wrapK .i64 n8) > 43))
 (Q (.tup [.sl none, .int .i64 20]) h4)
 (PSlice 1 q1 9 (some (wrapK .i64 (9 + (wrapK .i64 n8)))) none fun q9 =>
 AC Tryz.prog 100 [.int .i64 n2, .sl q9] h4 fun v10 h11 => ∃ q12 : Option SL, ∃ n13 : Int, v10 = .tup [.sl q12, .int .i64 n13] ∧
 AC Tryz.prog 153 [.sl q12, .sl q1] h11 fun v14 h15 => ∃ b16 : Bool, v14 = .bool b16 ∧
 vif (!b16)
 (Q (.tup [.sl none, .int .i64 20]) h15)
 (AC Tryz.prog 131 [.sl q9] h15 fun v17 h18 => ∃ q19 : Option SL, v17 = .sl q19 ∧
 Q (.tup [.sl q19, .int .i64 0]) h18))))
theorem ac130 {q1 : Option SL} {n2 : Int} {h : Heap} {Q : AV → Heap → Prop} (hk : vc130 q1 n2 h Q) : AC Tryz.prog 130 [.sl q1, .int .i64 n2] h Q :=
 AC_by (H := hintsOf [] []) (by kernel_rfl) (by kernel_rfl) hk
def vc138 (p1 : Option PA) (h : Heap) (Q : AV → Heap → Prop) : Prop :=
 AC Tryz.prog 136 [.ptr p1] h fun v2 h3 => ∃ b4 : Bool, v2 = .bool b4 ∧
 vif b4
 (Q (.int .i64 0) h3)
 (vPtr p1 fun p5 =>
 ∃ q6 : Option SL, cellsAt h3 ⟨p5.b, p5.o + 0⟩ 1 = some [.sl q6] ∧
 Q (.int .i64 (slLen q6 : Int)) h3)
theorem ac138 {p1 : Option PA} {h : Heap} {Q : AV → Heap → Prop} (hk : vc138 p1 h Q) : AC Tryz.prog 138 [.ptr p1] h Q :=
 AC_by (H := hintsOf [] []) (by kernel_rfl) (by kernel_rfl) hk
def vc139 (p1 : Option PA) (h : Heap) (Q : AV → Heap → Prop) : Prop :=
 AC Tryz.prog 112 [.ptr p1] h fun v2 h3 => ∃ n4 : Int, v2 = .int .i64 n4 ∧
 AC Tryz.prog 112 [.ptr p1] h3 fun v5 h6 => ∃ n7 : Int, v5 = .int .i64 n7 ∧
 AC Tryz.prog 136 [.ptr p1] h6 fun v8 h9 => ∃ b10 : Bool, v8 = .bool b10 ∧
 vif b10
 (Q (.tup [.agg [.int .i64 0, .int .i64 0], .int .i64 10]) h9)
 (AC Tryz.prog 155 [.agg [.int .i64 n4, .int .i64 n7]] h9 fun v11 h12 => ∃ n13 : Int, v11 = .int .i64 n13 ∧
 vif (n13 != 0)
 (Q (.tup [.agg [.int .i64 0, .int .i64 0], .int .i64 n13]) h12)
 (Q (.tup [.agg [.int .i64 n4, .int .i64 n7], .int .i64 0]) h12))
theorem ac139 {p1 : Option PA} {h : Heap} {Q : AV → Heap → Prop} (hk : vc139 p1 h Q) : AC Tryz.prog 139 [.ptr p1] h Q :=
 AC_by (H := hintsOf [2, 4] []) (by kernel_rfl) (by kernel_rfl) hk
def vc140 (p1 : Option PA) (h : Heap) (Q : AV → Heap → Prop) : Prop :=
 AC Tryz.prog 112 [.ptr p1] h fun v2 h3 => ∃ n4 : Int, v2 = .int .i64 n4 ∧
 AC Tryz.prog 112 [.ptr p1] h3 fun v5 h6 => ∃ n7 : Int, v5 = .int .i64 n7 ∧
 AC Tryz.prog 136 [.ptr p1] h6 fun v8 h9 => ∃ b10 : Bool, v8 = .bool b10 ∧
 vif b10
 (Q (.tup [.agg [.int .i64 0, .int .i64 0], .int .i64 10]) h9)
 (AC Tryz.prog 156 [.agg [.int .i64 n4, .int .i64 n7]] h9 fun v11 h12 => ∃ n13 : Int, v11 = .int .i64 n13 ∧
 vif (n13 != 0)
 (Q (.tup [.agg [.int .i64 0, .int .i64 0], .int .i64 n13]) h12)
 (Q (.tup [.agg [.int .i64 n4, .int .i64 n7], .int .i64 0]) h12))
theorem ac140 {p1 : Option PA} {h : Heap} {Q : AV → Heap → Prop} (hk : vc140 p1 h Q) : AC Tryz.prog 140 [.ptr p1] h Q :=
 AC_by (H := hintsOf [2, 4] []) (by kernel_rfl) (by kernel_rfl) hk
def vc132 (p1 : Option PA) (n2 : Int) (h : Heap) (Q : AV → Heap → Prop) : Prop :=
 vif (decide (n2 < 1))
 (AC Tryz.prog 135 [.ptr p1] h fun v3 h4 => ∃ n5 : Int, v3 = .int .i64 n5 ∧
 Q (.int .i64 n5) h4)
 (vif (decide (n2 > 8))
 (AC Tryz.prog 135 [.ptr p1] h fun v6 h7 => ∃ n8 : Int, v6 = .int .i64 n8 ∧
 Q (.int .i64 n8) h7)
 (AC Tryz.prog 154 [.ptr p1, .int .i64 n2] h fun v9 h10 => ∃ q11 : Option SL, v9 = .sl q11 ∧
 ∃ (I14 : List AV → Heap → Prop) (m15 : List AV → Heap → Nat), I14 [.int .u64 0, .int .i64 0] h10 ∧
 ∀ n12 n13 : Int, ∀ h16 : Heap, I14 [.int .u64 n12, .int .i64 n13] h16 →
 vif (decide (n13 < (slLen q11 : Int)))
 (vIdx q11 n13 1 fun p17 =>
 ∃ n18 : Int, cellsAt h16 p17 1 = some [.int .u8 n18] ∧
 (True) ∧ I14 [.int .u64 (bitsOr .u64 (shlK .u64 n12 8) (wrapK .u64 n18)), .int .i64 (wrapK .i64 (n13 + 1))] h16 ∧ m15 [.int .u64 (bitsOr .u64 (shlK .u64 n12 8) (wrapK .u64 n18)), .int .i64 (wrapK .i64 (n13 + 1))] h16 < m15 [.int .u64 n12, .int .i64 n13] h16)
 (AC Tryz.prog 136 [.ptr p1] h16 fun v19 h20 => ∃ b21 : Bool, v19 = .bool b21 ∧
 vif b21
 (AC Tryz.prog 135 [.ptr p1] h20 fun v22 h23 => ∃ n24 : Int, v22 = .int .i64 n24 ∧
 Q (.int .i64 n24) h23)
 (vif (decide (n12 > 9223372036854775807))
 (AC Tryz.prog 135 [.ptr p1] h20 fun v25 h26 => ∃ n27 : Int, v25 = .int .i64 n27 ∧
 Q (.int .i64 n27) h26)
 (Q (.int .i64 (wrapK .i64 n12)) h20)))))
theorem ac132 {p1 : Option PA} {n2 : Int} {h : Heap} {Q : AV → Heap → Prop} (hk : vc132 p1 n2 h Q) : AC Tryz.prog 132 [.ptr p1, .int .i64 n2] h Q :=
 AC_by (H := hintsOf [] [(0, [5, 20], [])]) (by kernel_rfl) (by kernel_rfl) hk
def vc133 (p1 : Option PA) (n2 : Int) (b3 : Bool) (h : Heap) (Q : AV → Heap → Prop) : Prop :=
 AC Tryz.prog 136 [.ptr p1] h fun v4 h5 => ∃ b6 : Bool, v4 = .bool b6 ∧
 vif b6
 (AC Tryz.prog 135 [.ptr p1] h5 fun v7 h8 => ∃ n9 : Int, v7 = .int .i64 n9 ∧
 Q (.int .i64 n9) h8)
 (vif (!b3)
 (AC Tryz.prog 135 [.ptr p1] h5 fun v10 h11 => ∃ n12 : Int, v10 = .int .i64 n12 ∧
 Q (.int .i64 n12) h11)
 (Q (.int .i64 n2) h5))
theorem ac133 {p1 : Option PA} {n2 : Int} {b3 : Bool} {h : Heap} {Q : AV → Heap → Prop} (hk : vc133 p1 n2 b3 h Q) : AC Tryz.prog 133 [.ptr p1, .int .i64 n2, .bool b3] h Q :=
 AC_by (H := hintsOf [] []) (by kernel_rfl) (by kernel_rfl) hk
def vc134 (n1 : Int) (h : Heap) (Q : AV → Heap → Prop) : Prop :=
 vif (decide (n1 < 0))
 (Q (.int .i64 0) h)
 (vif (decide (n1 < 240))
 (Q (.int .i64 1) h)
 (vif (decide (n1 < 2288))
 (Q (.int .i64 2) h)
 (AC Tryz.prog 144 [.int .i64 n1] h fun v2 h3 => ∃ n4 : Int, v2 = .int .i64 n4 ∧
 Q (.int .i64 (wrapK .i64 (1 + n4))) h3)))
theorem ac134 {n1 : Int} {h : Heap} {Q : AV → Heap → Prop} (hk : vc134 n1 h Q) : AC Tryz.prog 134 [.int .i64 n1] h Q :=
 AC_by (H := hintsOf [] []) (by kernel_rfl) (by kernel_rfl) hk
def vc135 (p1 : Option PA) (h : Heap) (Q : AV → Heap → Prop) : Prop :=
 vif (!(p1.isNone))
 (vPtr p1 fun p2 =>
 PStore h ⟨p2.b, p2.o + 1⟩ [.bool true] fun h3 =>
 Q (.int .i64 0) h3)
 (Q (.int .i64 0) h)
theorem ac135 {p1 : Option PA} {h : Heap} {Q : AV → Heap → Prop} (hk : vc135 p1 h Q) : AC Tryz.prog 135 [.ptr p1] h Q :=
 AC_by (H := hintsOf [] []) (by kernel_rfl) (by kernel_rfl) hk
def vc136 (p1 : Option PA) (h : Heap) (Q : AV → Heap → Prop) : Prop :=
 vif (p1.isNone)
 (Q (.bool true) h)
 (vPtr p1 fun p2 =>
 ∃ b3 : Bool, cellsAt h ⟨p2.b, p2.o + 1⟩ 1 = some [.bool b3] ∧
 Q (.bool b3) h)
theorem ac136 {p1 : Option PA} {h : Heap} {Q : AV → Heap → Prop} (hk : vc136 p1 h Q) : AC Tryz.prog 136 [.ptr p1] h Q :=
 AC_by (H := hintsOf [] []) (by kernel_rfl) (by kernel_rfl) hk
def vc115 (n1 : Int) (n2 : Int) (h : Heap) (Q : AV → Heap → Prop) : Prop :=
 AC Tryz.prog 137 [.int .i64 n1] h fun v3 h4 => ∃ b5 : Bool, v3 = .bool b5 ∧
 AC Tryz.prog 137 [.int .i64 n2] h4 fun v6 h7 => ∃ b8 : Bool, v6 = .bool b8 ∧
 vif b5
 (vif b8
 (Q (.int .i64 0) h7)
 (Q (.int .i64 (-1)) h7))
 (vif b8
 (Q (.int .i64 1) h7)
 (vif (decide (n1 < n2))
 (Q (.int .i64 (-1)) h7)
 (vif (decide (n1 > n2))
 (Q (.int .i64 1) h7)
 (Q (.int .i64 0) h7))))
theorem ac115 {n1 : Int} {n2 : Int} {h : Heap} {Q : AV → Heap → Prop} (hk : vc115 n1 n2 h Q) : AC Tryz.prog 115 [.int .i64 n1, .int .i64 n2] h Q :=
 AC_by (H := hintsOf [] []) (by kernel_rfl) (by kernel_rfl) hk
def vc118 (q1 : Option SL) (h : Heap) (Q : AV → Heap → Prop) : Prop :=
 ∃ (I3 : List AV → Heap → Prop) (m4 : List AV → Heap → Nat), I3 [.int .i64 0] h ∧
 ∀ n2 : Int, ∀ h5 : Heap, I3 [.int .i64 n2] h5 →
 vif (decide (n2 < (slLen q1 : Int)))
 (vIdx q1 n2 4 fun p6 =>
 ∃ n7 n8 : Int, ∃ n9 n10 : Int, cellsAt h5 p6 4 = some [.int .i64 n7, .int .i64 n8, .int .i64 n9, .int .i64 n10] ∧
 AC Tryz.prog 141 [.agg [.int .i64 n7, .int .i64 n8, .int .i64 n9, .int .i64 n10]] h5 fun v11 h12 => ∃ n13 : Int, v11 = .int .i64 n13 ∧
 vif (n13 != 0)
 (Q (.int .i64 n13) h12)
 ((True) ∧ I3 [.int .i64 (wrapK .i64 (n2 + 1))] h12 ∧ m4 [.int .i64 (wrapK .i64 (n2 + 1))] h12 < m4 [.int .i64 n2] h5))
 (vif (decide ((slLen q1 : Int) > 16384))
 (Q (.int .i64 3) h5)
 (Q (.int .i64 0) h5))
theorem ac118 {q1 : Option SL} {h : Heap} {Q : AV → Heap → Prop} (hk : vc118 q1 h Q) : AC Tryz.prog 118 [.sl q1] h Q :=
 AC_by (H := hintsOf [4] [(0, [8], [])]) (by kernel_rfl) (by kernel_rfl) hk
def vc119 (n1 : Int) (n2 : Int) (n3 : Int) (n4 : Int) (h : Heap) (Q : AV → Heap → Prop) : Prop :=
 AC Tryz.prog 142 [.agg [.int .i64 n1, .int .i64 n2]] h fun v5 h6 => ∃ q7 : Option SL, ∃ n8 : Int, v5 = .tup [.sl q7, .int .i64 n8] ∧
 AC Tryz.prog 143 [.agg [.int .i64 n3, .int .i64 n4]] h6 fun v9 h10 => ∃ q11 : Option SL, ∃ n12 : Int, v9 = .tup [.sl q11, .int .i64 n12] ∧
 PNew [.sl q7, .sl q11] true h10 fun a13 h14 =>
 AC Tryz.prog 124 [.sl (some ⟨a13, 0, 2, 2, 0⟩)] h14 fun v15 h16 => ∃ q17 : Option SL, v15 = .sl q17 ∧
 Q (.sl q17) h16
theorem ac119 {n1 : Int} {n2 : Int} {n3 : Int} {n4 : Int} {h : Heap} {Q : AV → Heap → Prop} (hk : vc119 n1 n2 n3 n4 h Q) : AC Tryz.prog 119 [.agg [.int .i64 n1, .int .i64 n2, .int .i64 n3, .int .i64 n4]] h Q :=
 AC_by (H := hintsOf [1] []) (by kernel_rfl) (by kernel_rfl) hk
def vc120 (n1 : Int) (h : Heap) (Q : AV → Heap → Prop) : Prop :=
 vif (decide (n1 < 0))
 (False)
 (vif (decide ((wrapK .i64 (n1 - 0)) > 0))
 (PSlice 1 none 0 (some 0) none fun q2 =>
 0 ≤ (wrapK .i64 (n1 - 0)) ∧ (wrapK .i64 (n1 - 0)) ≤ maxI ∧ (wrapK .i64 (n1 - 0)) * 24 ≤ 140737488355328 ∧ PAppend 1 24 q2 (wrapK .i64 (n1 - 0)).toNat (List.replicate (wrapK .i64 (n1 - 0)).toNat [.sl none]).flatten h fun q3 h4 =>
 PSlice 1 q3 0 (some 0) none fun q5 =>
 Q (.sl q5) h4)
 (Q (.sl none) h))
theorem ac120 {n1 : Int} {h : Heap} {Q : AV → Heap → Prop} (hk : vc120 n1 h Q) : AC Tryz.prog 120 [.sl none, .int .i64 n1] h Q :=
 AC_by (H := hintsOf [] []) (by kernel_rfl) (by kernel_rfl) hk
def vc121 (n1 : Int) (h : Heap) (Q : AV → Heap → Prop) : Prop :=
 vif (decide (n1 < 0))
 (Q (.tup [.sl none, .int .i64 1]) h)
 (vif (decide (n1 < 240))
 (PNew [.int .u8 (wrapK .u8 n1)] true h fun a2 h3 =>
 Q (.tup [.sl (some ⟨a2, 0, 1, 1, 0⟩), .int .i64 0]) h3)
 (vif (decide (n1 < 2288))
 (PNew [.int .u8 (wrapK .u8 (wrapK .i64 (240 + (shrK .i64 (wrapK .i64 (n1 - 240)) 8)))), .int .u8 (wrapK .u8 (wrapK .i64 (n1 - 240)))] true h fun a4 h5 =>
 Q (.tup [.sl (some ⟨a4, 0, 2, 2, 0⟩), .int .i64 0]) h5)
 (AC Tryz.prog 144 [.int .i64 n1] h fun v6 h7 => ∃ n8 : Int, v6 = .int .i64 n8 ∧
 PNew [.int .u8 (wrapK .u8 (wrapK .i64 (246 + n8)))] true h7 fun a9 h10 =>
 AC Tryz.prog 145 [.int .i64 n1, .int .i64 n8] h10 fun v11 h12 => ∃ q13 : Option SL, v11 = .sl q13 ∧
 PAppendS 1 1 (some ⟨a9, 0, 1, 1, 0⟩) q13 h12 fun q14 h15 =>
 Q (.tup [.sl q14, .int .i64 0]) h15)))
theorem ac121 {n1 : Int} {h : Heap} {Q : AV → Heap → Prop} (hk : vc121 n1 h Q) : AC Tryz.prog 121 [.int .i64 n1] h Q :=
 AC_by (H := hintsOf [] []) (by kernel_rfl) (by kernel_rfl) hk
def vc122 (n1 : Int) (h : Heap) (Q : AV → Heap → Prop) : Prop :=
 vif (decide (n1 ≥ 1))
 (Q (.bool (decide (n1 ≤ 4611686018427387903))) h)
 (Q (.bool false) h)
theorem ac122 {n1 : Int} {h : Heap} {Q : AV → Heap → Prop} (hk : vc122 n1 h Q) : AC Tryz.prog 122 [.int .i64 n1] h Q :=
 AC_by (H := hintsOf [] []) (by kernel_rfl) (by kernel_rfl) hk
def vc123 (n1 : Int) (n2 : Int) (h : Heap) (Q : AV → Heap → Prop) : Prop :=
 vif (decide (n1 < 0))
 (Q (.tup [.sl none, .int .i64 1]) h)
 (vif (decide (n2 < 1))
 (Q (.tup [.sl none, .int .i64 1]) h)
 (vif (decide (n2 > 8))
 (Q (.tup [.sl none, .int .i64 1]) h)
 (AC Tryz.prog 144 [.int .i64 n1] h fun v3 h4 => ∃ n5 : Int, v3 = .int .i64 n5 ∧
 vif (decide (n5 > n2))
 (Q (.tup [.sl none, .int .i64 1]) h4)
 (AC Tryz.prog 145 [.int .i64 n1, .int .i64 n2] h4 fun v6 h7 => ∃ q8 : Option SL, v6 = .sl q8 ∧
 Q (.tup [.sl q8, .int .i64 0]) h7))))
theorem ac123 {n1 : Int} {n2 : Int} {h : Heap} {Q : AV → Heap → Prop} (hk : vc123 n1 n2 h Q) : AC Tryz.prog 123 [.int .i64 n1, .int .i64 n2] h Q :=
 AC_by (H := hintsOf [] []) (by kernel_rfl) (by kernel_rfl) hk
def vc124 (q1 : Option SL) (h : Heap) (Q : AV → Heap → Prop) : Prop :=
 ∃ (I4 : List AV → Heap → Prop) (m5 : List AV → Heap → Nat), I4 [.int .i64 0, .int .i64 0] h ∧
 ∀ n2 n3 : Int, ∀ h6 : Heap, I4 [.int .i64 n2, .int .i64 n3] h6 →
 vif (decide (n3 < (slLen q1 : Int)))
 (vIdx q1 n3 1 fun p7 =>
 ∃ q8 : Option SL, cellsAt h6 p7 1 = some [.sl q8] ∧
 vif (decide ((wrapK .i64 (n2 + (slLen q8 : Int))) < 0))
 (False)
 ((True) ∧ I4 [.int .i64 (wrapK .i64 (n2 + (slLen q8 : Int))), .int .i64 (wrapK .i64 (n3 + 1))] h6 ∧ m5 [.int .i64 (wrapK .i64 (n2 + (slLen q8 : Int))), .int .i64 (wrapK .i64 (n3 + 1))] h6 < m5 [.int .i64 n2, .int .i64 n3] h6))
 (AC Tryz.prog 146 [.sl none, .int .i64 n2] h6 fun v9 h10 => ∃ q11 : Option SL, v9 = .sl q11 ∧
 ∃ (I14 : List AV → Heap → Prop) (m15 : List AV → Heap → Nat), I14 [.sl q11, .int .i64 0] h10 ∧
 ∀ q12 : Option SL, ∀ n13 : Int, ∀ h16 : Heap, I14 [.sl q12, .int .i64 n13] h16 →
 vif (decide (n13 < (slLen q1 : Int)))
 (vIdx q1 n13 1 fun p17 =>
 ∃ q18 : Option SL, cellsAt h16 p17 1 = some [.sl q18] ∧
 PAppendS 1 1 q12 q18 h16 fun q19 h20 =>
 (True) ∧ I14 [.sl q19, .int .i64 (wrapK .i64 (n13 + 1))] h20 ∧ m15 [.sl q19, .int .i64 (wrapK .i64 (n13 + 1))] h20 < m15 [.sl q12, .int .i64 n13] h16)
 (Q (.sl q12) h16))
theorem ac124 {q1 : Option SL} {h : Heap} {Q : AV → Heap → Prop} (hk : vc124 q1 h Q) : AC Tryz.prog 124 [.sl q1] h Q :=
 AC_by (H := hintsOf [] [(0, [3, 11], []), (2, [6, 27], [])]) (by kernel_rfl) (by kernel_rfl) hk
def vc125 (q1 : Option SL) (h : Heap) (Q : AV → Heap → Prop) : Prop :=
 AC Tryz.prog 148 [.sl q1] h fun v2 h3 => ∃ n4 : Int, v2 = .int .u32 n4 ∧
 AC Tryz.prog 147 [.int .u32 n4] h3 fun v5 h6 => ∃ q7 : Option SL, v5 = .sl q7 ∧
 PNew [.sl q1, .sl q7] true h6 fun a8 h9 =>
 AC Tryz.prog 124 [.sl (some ⟨a8, 0, 2, 2, 0⟩)] h9 fun v10 h11 => ∃ q12 : Option SL, v10 = .sl q12 ∧
 Q (.sl q12) h11
theorem ac125 {q1 : Option SL} {h : Heap} {Q : AV → Heap → Prop} (hk : vc125 q1 h Q) : AC Tryz.prog 125 [.sl q1] h Q :=
 AC_by (H := hintsOf [] []) (by kernel_rfl) (by kernel_rfl) hk
def vc152 (q1 : Option SL) (h : Heap) (Q : AV → Heap → Prop) : Prop :=
 vif ((slLen q1 : Int) != 64)
 (Q (.tup [.int .i64 0, .bool false]) h)
 (PSlice 1 q1 0 (some 8) none fun q2 =>
 PSlice 1 q1 56 none none fun q3 =>
 AC Tryz.prog 153 [.sl q2, .sl q3] h fun v4 h5 => ∃ b6 : Bool, v4 = .bool b6 ∧
 vif (!b6)
 (Q (.tup [.int .i64 0, .bool false]) h5)
 (PSlice 1 q1 0 (some 8) none fun q7 =>
 AC Tryz.prog 111 [.sl q7] h5 fun v8 h9 => ∃ p10 : Option PA, v8 = .ptr p10 ∧
 AC Tryz.prog 132 [.ptr p10, .int .i64 8] h9 fun v11 h12 => ∃ n13 : Int, v11 = .int .i64 n13 ∧
 AC Tryz.prog 122 [.int .i64 n13] h12 fun v14 h15 => ∃ b16 : Bool, v14 = .bool b16 ∧
 vif (!b16)
 (Q (.tup [.int .i64 0, .bool false]) h15)
 (Q (.tup [.int .i64 n13, .bool true]) h15)))
theorem ac152 {q1 : Option SL} {h : Heap} {Q : AV → Heap → Prop} (hk : vc152 q1 h Q) : AC Tryz.prog 152 [.sl q1] h Q :=
 AC_by (H := hintsOf [] []) (by kernel_rfl) (by kernel_rfl) hk
def vc156 (n1 : Int) (n2 : Int) (h : Heap) (Q : AV → Heap → Prop) : Prop :=
 AC Tryz.prog 161 [.int .i64 n1] h fun v3 h4 => ∃ b5 : Bool, v3 = .bool b5 ∧
 vif (!b5)
 (Q (.int .i64 30) h4)
 (AC Tryz.prog 161 [.int .i64 n2] h4 fun v6 h7 => ∃ b8 : Bool, v6 = .bool b8 ∧
 vif (!b8)
 (Q (.int .i64 30) h7)
 (Q (.int .i64 0) h7))
theorem ac156 {n1 : Int} {n2 : Int} {h : Heap} {Q : AV → Heap → Prop} (hk : vc156 n1 n2 h Q) : AC Tryz.prog 156 [.agg [.int .i64 n1, .int .i64 n2]] h Q :=
 AC_by (H := hintsOf [1] []) (by kernel_rfl) (by kernel_rfl) hk
def vc154 (p1 : Option PA) (n2 : Int) (h : Heap) (Q : AV → Heap → Prop) : Prop :=
 AC Tryz.prog 136 [.ptr p1] h fun v3 h4 => ∃ b5 : Bool, v3 = .bool b5 ∧
 vif b5
 (AC Tryz.prog 135 [.ptr p1] h4 fun v6 h7 => ∃ n8 : Int, v6 = .int .i64 n8 ∧
 Q (.sl none) h7)
 (vif (decide (n2 < 0))
 (AC Tryz.prog 135 [.ptr p1] h4 fun v9 h10 => ∃ n11 : Int, v9 = .int .i64 n11 ∧
 Q (.sl none) h10)
 (vPtr p1 fun p12 =>
 ∃ q13 : Option SL, cellsAt h4 ⟨p12.b, p12.o + 0⟩ 1 = some [.sl q13] ∧
 vif (decide (n2 > (slLen q13 : Int)))
 (AC Tryz.prog 135 [.ptr p1] h4 fun v14 h15 => ∃ n16 : Int, v14 = .int .i64 n16 ∧
 Q (.sl none) h15)
 (vPtr p1 fun p17 =>
 ∃ q18 : Option SL, cellsAt h4 ⟨p17.b, p17.o + 0⟩ 1 = some [.sl q18] ∧
 PSlice 1 q18 0 (some n2) none fun q19 =>
 AC Tryz.prog 131 [.sl q19] h4 fun v20 h21 => ∃ q22 : Option SL, v20 = .sl q22 ∧
 vPtr p1 fun p23 =>
 ∃ q24 : Option SL, cellsAt h21 ⟨p23.b, p23.o + 0⟩ 1 = some [.sl q24] ∧
 PSlice 1 q24 n2 none none fun q25 =>
 vPtr p1 fun p26 =>
 PStore h21 ⟨p26.b, p26.o + 0⟩ [.sl q25] fun h27 =>
 Q (.sl q22) h27)))
theorem ac154 {p1 : Option PA} {n2 : Int} {h : Heap} {Q : AV → Heap → Prop} (hk : vc154 p1 n2 h Q) : AC Tryz.prog 154 [.ptr p1, .int .i64 n2] h Q :=
 AC_by (H := hintsOf [] []) (by kernel_rfl) (by kernel_rfl) hk
def vc144 (n1 : Int) (h : Heap) (Q : AV → Heap → Prop) : Prop :=
 ∃ (I4 : List AV → Heap → Prop) (m5 : List AV → Heap → Nat), I4 [.int .i64 (shrK .i64 n1 8), .int .i64 1] h ∧
 ∀ n2 n3 : Int, ∀ h6 : Heap, I4 [.int .i64 n2, .int .i64 n3] h6 →
 vif (decide (n2 > 0))
 ((True) ∧ I4 [.int .i64 (shrK .i64 n2 8), .int .i64 (wrapK .i64 (n3 + 1))] h6 ∧ m5 [.int .i64 (shrK .i64 n2 8), .int .i64 (wrapK .i64 (n3 + 1))] h6 < m5 [.int .i64 n2, .int .i64 n3] h6)
 (Q (.int .i64 n3) h6)
theorem ac144 {n1 : Int} {h : Heap} {Q : AV → Heap → Prop} (hk : vc144 n1 h Q) : AC Tryz.prog 144 [.int .i64 n1] h Q :=
 AC_by (H := hintsOf [] [(0, [0, 3], [])]) (by kernel_rfl) (by kernel_rfl) hk
def vc137 (n1 : Int) (h : Heap) (Q : AV → Heap → Prop) : Prop :=
 Q (.bool (n1 != n1)) h
theorem ac137 {n1 : Int} {h : Heap} {Q : AV → Heap → Prop} (hk : vc137 n1 h Q) : AC Tryz.prog 137 [.int .i64 n1] h Q :=
 AC_by (H := hintsOf [] []) (by kernel_rfl) (by kernel_rfl) hk
def vc141 (n1 : Int) (n2 : Int) (n3 : Int) (n4 : Int) (h : Heap) (Q : AV → Heap → Prop) : Prop :=
 AC Tryz.prog 155 [.agg [.int .i64 n1, .int .i64 n2]] h fun v5 h6 => ∃ n7 : Int, v5 = .int .i64 n7 ∧
 vif (n7 != 0)
 (Q (.int .i64 n7) h6)
 (AC Tryz.prog 156 [.agg [.int .i64 n3, .int .i64 n4]] h6 fun v8 h9 => ∃ n10 : Int, v8 = .int .i64 n10 ∧
 Q (.int .i64 n10) h9)
theorem ac141 {n1 : Int} {n2 : Int} {n3 : Int} {n4 : Int} {h : Heap} {Q : AV → Heap → Prop} (hk : vc141 n1 n2 n3 n4 h Q) : AC Tryz.prog 141 [.agg [.int .i64 n1, .int .i64 n2, .int .i64 n3, .int .i64 n4]] h Q :=
 AC_by (H := hintsOf [1] []) (by kernel_rfl) (by kernel_rfl) hk
def vc142 (n1 : Int) (n2 : Int) (h : Heap) (Q : AV → Heap → Prop) : Prop :=
 AC Tryz.prog 155 [.agg [.int .i64 n1, .int .i64 n2]] h fun v3 h4 => ∃ n5 : Int, v3 = .int .i64 n5 ∧
 vif (n5 != 0)
 (Q (.tup [.sl none, .int .i64 n5]) h4)
 (AC Tryz.prog 121 [.int .i64 n1] h4 fun v6 h7 => ∃ q8 : Option SL, ∃ n9 : Int, v6 = .tup [.sl q8, .int .i64 n9] ∧
 AC Tryz.prog 121 [.int .i64 n2] h7 fun v10 h11 => ∃ q12 : Option SL, ∃ n13 : Int, v10 = .tup [.sl q12, .int .i64 n13] ∧
 PNew [.sl q8, .sl q12] true h11 fun a14 h15 =>
 AC Tryz.prog 124 [.sl (some ⟨a14, 0, 2, 2, 0⟩)] h15 fun v16 h17 => ∃ q18 : Option SL, v16 = .sl q18 ∧
 Q (.tup [.sl q18, .int .i64 0]) h17)
theorem ac142 {n1 : Int} {n2 : Int} {h : Heap} {Q : AV → Heap → Prop} (hk : vc142 n1 n2 h Q) : AC Tryz.prog 142 [.agg [.int .i64 n1, .int .i64 n2]] h Q :=
 AC_by (H := hintsOf [1] []) (by kernel_rfl) (by kernel_rfl) hk
def vc143 (n1 : Int) (n2 : Int) (h : Heap) (Q : AV → Heap → Prop) : Prop :=
 AC Tryz.prog 156 [.agg [.int .i64 n1, .int .i64 n2]] h fun v3 h4 => ∃ n5 : Int, v3 = .int .i64 n5 ∧
 vif (n5 != 0)
 (Q (.tup [.sl none, .int .i64 n5]) h4)
 (AC Tryz.prog 121 [.int .i64 n1] h4 fun v6 h7 => ∃ q8 : Option SL, ∃ n9 : Int, v6 = .tup [.sl q8, .int .i64 n9] ∧
 AC Tryz.prog 121 [.int .i64 n2] h7 fun v10 h11 => ∃ q12 : Option SL, ∃ n13 : Int, v10 = .tup [.sl q12, .int .i64 n13] ∧
 PNew [.sl q8, .sl q12] true h11 fun a14 h15 =>
 AC Tryz.prog 124 [.sl (some ⟨a14, 0, 2, 2, 0⟩)] h15 fun v16 h17 => ∃ q18 : Option SL, v16 = .sl q18 ∧
 Q (.tup [.sl q18, .int .i64 0]) h17)
theorem ac143 {n1 : Int} {n2 : Int} {h : Heap} {Q : AV → Heap → Prop} (hk : vc143 n1 n2 h Q) : AC Tryz.prog 143 [.agg [.int .i64 n1, .int .i64 n2]] h Q :=
 AC_by (H := hintsOf [1] []) (by kernel_rfl) (by kernel_rfl) hk
def vc145 (n1 : Int) (n2 : Int) (h : Heap) (Q : AV → Heap → Prop) : Prop :=
 PMake [.int .u8 0] 1 n2 n2 h fun q3 h4 =>
 ∃ (I6 : List AV → Heap → Prop) (m7 : List AV → Heap → Nat), I6 [.int .i64 0] h4 ∧
 ∀ n5 : Int, ∀ h8 : Heap, I6 [.int .i64 n5] h8 →
 vif (decide (n5 < (slLen q3 : Int)))
 (need (decide (0 ≤ (wrapK .i64 (8 * (wrapK .i64 ((wrapK .i64 (n2 - 1)) - n5))))))
 (vIdx q3 n5 1 fun p9 =>
 PStore h8 p9 [.int .u8 (wrapK .u8 (shrK .i64 n1 (wrapK .i64 (8 * (wrapK .i64 ((wrapK .i64 (n2 - 1)) - n5))))))] fun h10 =>
 (True) ∧ I6 [.int .i64 (wrapK .i64 (n5 + 1))] h10 ∧ m7 [.int .i64 (wrapK .i64 (n5 + 1))] h10 < m7 [.int .i64 n5] h8))
 (Q (.sl q3) h8)
theorem ac145 {n1 : Int} {n2 : Int} {h : Heap} {Q : AV → Heap → Prop} (hk : vc145 n1 n2 h Q) : AC Tryz.prog 145 [.int .i64 n1, .int .i64 n2] h Q :=
 AC_by (H := hintsOf [] [(0, [11], [])]) (by kernel_rfl) (by kernel_rfl) hk
def vc146 (n1 : Int) (h : Heap) (Q : AV → Heap → Prop) : Prop :=
 vif (decide (n1 < 0))
 (False)
 (vif (decide ((wrapK .i64 (n1 - 0)) > 0))
 (PSlice 1 none 0 (some 0) none fun q2 =>
 0 ≤ (wrapK .i64 (n1 - 0)) ∧ (wrapK .i64 (n1 - 0)) ≤ maxI ∧ (wrapK .i64 (n1 - 0)) * 1 ≤ 140737488355328 ∧ PAppend 1 1 q2 (wrapK .i64 (n1 - 0)).toNat (List.replicate (wrapK .i64 (n1 - 0)).toNat [.int .u8 0]).flatten h fun q3 h4 =>
 PSlice 1 q3 0 (some 0) none fun q5 =>
 Q (.sl q5) h4)
 (Q (.sl none) h))
theorem ac146 {n1 : Int} {h : Heap} {Q : AV → Heap → Prop} (hk : vc146 n1 h Q) : AC Tryz.prog 146 [.sl none, .int .i64 n1] h Q :=
 AC_by (H := hintsOf [] []) (by kernel_rfl) (by kernel_rfl) hk
def vc147 (n1 : Int) (h : Heap) (Q : AV → Heap → Prop) : Prop :=
 PNew [.int .u8 (wrapK .u8 n1), .int .u8 (wrapK .u8 (shrK .u32 n1 8)), .int .u8 (wrapK .u8 (shrK .u32 n1 16)), .int .u8 (wrapK .u8 (shrK .u32 n1 24))] true h fun a2 h3 =>
 Q (.sl (some ⟨a2, 0, 4, 4, 0⟩)) h3
theorem ac147 {n1 : Int} {h : Heap} {Q : AV → Heap → Prop} (hk : vc147 n1 h Q) : AC Tryz.prog 147 [.int .u32 n1] h Q :=
 AC_by (H := hintsOf [] []) (by kernel_rfl) (by kernel_rfl) hk
def vc148 (q1 : Option SL) (h : Heap) (Q : AV → Heap → Prop) : Prop :=
 AC Tryz.prog 157 [.int .u32 0, .sl q1] h fun v2 h3 => ∃ n4 : Int, v2 = .int .u32 n4 ∧
 Q (.int .u32 n4) h3
theorem ac148 {q1 : Option SL} {h : Heap} {Q : AV → Heap → Prop} (hk : vc148 q1 h Q) : AC Tryz.prog 148 [.sl q1] h Q :=
 AC_by (H := hintsOf [] []) (by kernel_rfl) (by kernel_rfl) hk
def vc161 (n1 : Int) (h : Heap) (Q : AV → Heap → Prop) : Prop :=
 vif (decide (n1 ≥ 0))
 (Q (.bool (decide (n1 ≤ 1048575))) h)
 (Q (.bool false) h)
theorem ac161 {n1 : Int} {h : Heap} {Q : AV → Heap → Prop} (hk : vc161 n1 h Q) : AC Tryz.prog 161 [.int .i64 n1] h Q :=
 AC_by (H := hintsOf [] []) (by kernel_rfl) (by kernel_rfl) hk
def vc157 (n1 : Int) (q2 : Option SL) (h : Heap) (Q : AV → Heap → Prop) : Prop :=
 ∃ (I5 : List AV → Heap → Prop) (m6 : List AV → Heap → Nat), I5 [.int .u32 (bitsXor .u32 4294967295 n1), .int .i64 0] h ∧
 ∀ n3 n4 : Int, ∀ h7 : Heap, I5 [.int .u32 n3, .int .i64 n4] h7 →
 vif (decide (n4 < (slLen q2 : Int)))
 (vIdx q2 n4 1 fun p8 =>
 ∃ n9 : Int, cellsAt h7 p8 1 = some [.int .u8 n9] ∧
 need (decide (0 ≤ (bitsAnd .u32 (bitsXor .u32 n3 (wrapK .u32 n9)) 15)) && decide ((bitsAnd .u32 (bitsXor .u32 n3 (wrapK .u32 n9)) 15) < 16))
 (∃ a10 j11 : Nat, h7[a10]? = some (.gm 0 j11) ∧
 ∃ n12 : Int, cellsAt h7 ⟨j11, (bitsAnd .u32 (bitsXor .u32 n3 (wrapK .u32 n9)) 15).toNat * 1⟩ 1 = some [.int .u32 n12] ∧
 need (decide (0 ≤ (bitsAnd .u32 (bitsXor .u32 n12 (shrK .u32 (bitsXor .u32 n3 (wrapK .u32 n9)) 4)) 15)) && decide ((bitsAnd .u32 (bitsXor .u32 n12 (shrK .u32 (bitsXor .u32 n3 (wrapK .u32 n9)) 4)) 15) < 16))
 (∃ a13 j14 : Nat, h7[a13]? = some (.gm 0 j14) ∧
 ∃ n15 : Int, cellsAt h7 ⟨j14, (bitsAnd .u32 (bitsXor .u32 n12 (shrK .u32 (bitsXor .u32 n3 (wrapK .u32 n9)) 4)) 15).toNat * 1⟩ 1 = some [.int .u32 n15] ∧
 (True) ∧ I5 [.int .u32 (bitsXor .u32 n15 (shrK .u32 (bitsXor .u32 n12 (shrK .u32 (bitsXor .u32 n3 (wrapK .u32 n9)) 4)) 4)), .int .i64 (wrapK .i64 (n4 + 1))] h7 ∧ m6 [.int .u32 (bitsXor .u32 n15 (shrK .u32 (bitsXor .u32 n12 (shrK .u32 (bitsXor .u32 n3 (wrapK .u32 n9)) 4)) 4)), .int .i64 (wrapK .i64 (n4 + 1))] h7 < m6 [.int .u32 n3, .int .i64 n4] h7)))
 (Q (.int .u32 (bitsXor .u32 4294967295 n3)) h7)
theorem ac157 {n1 : Int} {q2 : Option SL} {h : Heap} {Q : AV → Heap → Prop} (hk : vc157 n1 q2 h Q) : AC Tryz.prog 157 [.int .u32 n1, .sl q2] h Q :=
 AC_by (H := hintsOf [] [(0, [5, 12], [])]) (by kernel_rfl) (by kernel_rfl) hk
def vc155 (n1 : Int) (n2 : Int) (h : Heap) (Q : AV → Heap → Prop) : Prop :=
 vif (decide (n1 < 0))
 (Q (.int .i64 40) h)
 (vif (decide (n1 ≥ 65536))
 (Q (.int .i64 40) h)
 (vif (decide (n2 < 0))
 (Q (.int .i64 40) h)
 (vif (decide (n2 ≥ 65536))
 (Q (.int .i64 40) h)
 (Q (.int .i64 0) h))))
theorem ac155 {n1 : Int} {n2 : Int} {h : Heap} {Q : AV → Heap → Prop} (hk : vc155 n1 n2 h Q) : AC Tryz.prog 155 [.agg [.int .i64 n1, .int .i64 n2]] h Q :=
 AC_by (H := hintsOf [1] []) (by kernel_rfl) (by kernel_rfl) hk
def vc45b (n1 : Int) (p2 : PA) (p3 : PA) (h : Heap) (Q : AV → Heap → Prop) : Prop :=
 ∃ (I6 : List AV → Heap → Prop) (m7 : List AV → Heap → Nat), I6 [.int .i64 0, .int .i64 n1] h ∧
 ∀ n4 n5 : Int, ∀ h8 : Heap, I6 [.int .i64 n4, .int .i64 n5] h8 →
 vif (decide (n4 < n5))
 (AC Tryz.prog 83 [.int .i64 (wrapK .i64 (shrK .u64 (wrapK .u64 (wrapK .i64 (n4 + n5))) 1)), .ptr (some p2), .ptr (some p3)] h8 fun v9 h10 => ∃ b11 : Bool, v9 = .bool b11 ∧
 vif (!b11)
 ((True) ∧ I6 [.int .i64 (wrapK .i64 ((wrapK .i64 (shrK .u64 (wrapK .u64 (wrapK .i64 (n4 + n5))) 1)) + 1)), .int .i64 n5] h10 ∧ m7 [.int .i64 (wrapK .i64 ((wrapK .i64 (shrK .u64 (wrapK .u64 (wrapK .i64 (n4 + n5))) 1)) + 1)), .int .i64 n5] h10 < m7 [.int .i64 n4, .int .i64 n5] h8)
 ((True) ∧ I6 [.int .i64 n4, .int .i64 (wrapK .i64 (shrK .u64 (wrapK .u64 (wrapK .i64 (n4 + n5))) 1))] h10 ∧ m7 [.int .i64 n4, .int .i64 (wrapK .i64 (shrK .u64 (wrapK .u64 (wrapK .i64 (n4 + n5))) 1))] h10 < m7 [.int .i64 n4, .int .i64 n5] h8))
 (Q (.int .i64 n4) h8)
theorem ac45b {n1 : Int} {p2 : PA} {p3 : PA} {h : Heap} {Q : AV → Heap → Prop} (hk : vc45b n1 p2 p3 h Q) : AC Tryz.prog 45 [.int .i64 n1, .func (.func 83) [] [.ptr (some p2), .ptr (some p3)]] h Q :=
 AC_by (H := hintsOf [] [(0, [5, 6], [])]) (by kernel_rfl) (by kernel_rfl) hk
def vc126 (p1 : Option PA) (h : Heap) (Q : AV → Heap → Prop) : Prop :=
 AC Tryz.prog 58 [.ptr p1] h fun v2 h3 => ∃ b4 : Bool, v2 = .bool b4 ∧
 vif (!b4)
 (Q (.sl none) h3)
 (vPtr p1 fun p5 =>
 ∃ m6 : Option Nat, cellsAt h3 ⟨p5.b, p5.o + 0⟩ 1 = some [.map m6] ∧
 AC Tryz.prog 150 [.map m6] h3 fun v7 h8 => ∃ v9 : AV, v9.one = true ∧ v7 = v9 ∧
 AC Tryz.prog 149 [v9] h8 fun v10 h11 => ∃ q12 : Option SL, v10 = .sl q12 ∧
 ∃ (I15 : List AV → Heap → Prop) (m16 : List AV → Heap → Nat), I15 [.sl none, .int .i64 0] h11 ∧
 ∀ q13 : Option SL, ∀ n14 : Int, ∀ h17 : Heap, I15 [.sl q13, .int .i64 n14] h17 →
 vif (decide (n14 < (slLen q12 : Int)))
 (vIdx q12 n14 1 fun p18 =>
 ∃ s19 : List UInt8, cellsAt h17 p18 1 = some [.str s19] ∧
 vPtr p1 fun p20 =>
 ∃ m21 : Option Nat, cellsAt h17 ⟨p20.b, p20.o + 0⟩ 1 = some [.map m21] ∧
 PLookup Tryz.prog 9 107 m21 (.str s19) false h17 fun v22 =>
 ∃ p23 : Option PA, v22 = .ptr p23 ∧
 vPtr p23 fun p24 =>
 ∃ q25 : Option SL, cellsAt h17 ⟨p24.b, p24.o + 1⟩ 1 = some [.sl q25] ∧
 PNew [.str s19, .int .i64 (slLen q25 : Int)] true h17 fun a26 h27 =>
 PAppendS 2 24 q13 (some ⟨a26, 0, 1, 1, 0⟩) h27 fun q28 h29 =>
 (True) ∧ I15 [.sl q28, .int .i64 (wrapK .i64 (n14 + 1))] h29 ∧ m16 [.sl q28, .int .i64 (wrapK .i64 (n14 + 1))] h29 < m16 [.sl q13, .int .i64 n14] h17)
 (Q (.sl q13) h17))
theorem ac126 {p1 : Option PA} {h : Heap} {Q : AV → Heap → Prop} (hk : vc126 p1 h Q) : AC Tryz.prog 126 [.ptr p1] h Q :=
 AC_by (H := hintsOf [] [(0, [3, 16], [])]) (by kernel_rfl) (by kernel_rfl) hk
def vc109 (p1 : Option PA) (p2 : Option PA) (h : Heap) (Q : AV → Heap → Prop) : Prop :=
 PNew [.ptr p2] true h fun a3 h4 =>
 vPtr p1 fun p5 =>
 ∃ q6 : Option SL, cellsAt h4 ⟨p5.b, p5.o + 1⟩ 1 = some [.sl q6] ∧
 AC Tryz.prog 127 [.sl q6, .func (.func 128) [] [.ptr (some ⟨a3, 0⟩)]] h4 fun v7 h8 => ∃ q9 : Option SL, v7 = .sl q9 ∧
 vPtr p1 fun p10 =>
 PStore h8 ⟨p10.b, p10.o + 1⟩ [.sl q9] fun h11 =>
 Q (.tup []) h11
theorem ac109 {p1 : Option PA} {p2 : Option PA} {h : Heap} {Q : AV → Heap → Prop} (hk : vc109 p1 p2 h Q) : AC Tryz.prog 109 [.ptr p1, .ptr p2] h Q :=
 AC_by (H := hintsOf [] []) (by kernel_rfl) (by kernel_rfl) hk
def vc127 (q1 : Option SL) (p2 : Option PA) (h : Heap) (Q : AV → Heap → Prop) : Prop :=
 AC Tryz.prog 151 [.sl q1, .func (.func 128) [] [.ptr p2]] h fun v3 h4 => ∃ n5 : Int, v3 = .int .i64 n5 ∧
 vif (n5 == (-1))
 (Q (.sl q1) h4)
 (∃ (I8 : List AV → Heap → Prop) (m9 : List AV → Heap → Nat), I8 [.int .i64 n5, .int .i64 (wrapK .i64 (n5 + 1))] h4 ∧
 ∀ n6 n7 : Int, ∀ h10 : Heap, I8 [.int .i64 n6, .int .i64 n7] h10 →
 vif (decide (n7 < (slLen q1 : Int)))
 (vIdx q1 n7 66 fun p11 =>
 ∃ p12 : Option PA, ∃ n13 : Int, exC .u8 64 fun l14 =>
 cellsAt h10 p11 66 = some ([.ptr p12, .int .i64 n13] ++ (l14)) ∧
 AC Tryz.prog 128 [.agg ([.ptr p12, .int .i64 n13] ++ (l14)), .ptr p2] h10 fun v15 h16 => ∃ b17 : Bool, v15 = .bool b17 ∧
 vif (!b17)
 (vIdx q1 n6 66 fun p18 =>
 PStore h16 p18 ([.ptr p12, .int .i64 n13] ++ (l14)) fun h19 =>
 (True) ∧ I8 [.int .i64 (wrapK .i64 (n6 + 1)), .int .i64 (wrapK .i64 (n7 + 1))] h19 ∧ m9 [.int .i64 (wrapK .i64 (n6 + 1)), .int .i64 (wrapK .i64 (n7 + 1))] h19 < m9 [.int .i64 n6, .int .i64 n7] h10)
 ((True) ∧ I8 [.int .i64 n6, .int .i64 (wrapK .i64 (n7 + 1))] h16 ∧ m9 [.int .i64 n6, .int .i64 (wrapK .i64 (n7 + 1))] h16 < m9 [.int .i64 n6, .int .i64 n7] h10))
 (PSlice 66 q1 n6 none none fun q20 =>
 PClear ([.ptr none, .int .i64 0] ++ ((List.replicate 64 (AV.int .u8 0)))) q20 h10 fun h21 =>
 PSlice 66 q1 0 (some n6) none fun q22 =>
 Q (.sl q22) h21))
theorem ac127 {q1 : Option SL} {p2 : Option PA} {h : Heap} {Q : AV → Heap → Prop} (hk : vc127 q1 p2 h Q) : AC Tryz.prog 127 [.sl q1, .func (.func 128) [] [.ptr p2]] h Q :=
 AC_by (H := hintsOf [7] [(0, [5, 6], [])]) (by kernel_rfl) (by kernel_rfl) hk
def vc128 (p1 : Option PA) (n2 : Int) (l3 : Nat → Int) (p4 : Option PA) (h : Heap) (Q : AV → Heap → Prop) : Prop :=
 vPtr p4 fun p5 =>
 ∃ p6 : Option PA, cellsAt h p5 1 = some [.ptr p6] ∧
 aEq Tryz.prog 107 h (.ptr p1) (.ptr p6) fun b7 =>
 Q (.bool b7) h
theorem ac128 {p1 : Option PA} {n2 : Int} {l3 : Nat → Int} {p4 : Option PA} {h : Heap} {Q : AV → Heap → Prop} (hk : vc128 p1 n2 l3 p4 h Q) : AC Tryz.prog 128 [.agg ([.ptr p1, .int .i64 n2] ++ ((cel .u8 64 l3))), .ptr p4] h Q :=
 AC_by (H := hintsOf [2] []) (by kernel_rfl) (by kernel_rfl) hk
def vc151 (q1 : Option SL) (p2 : Option PA) (h : Heap) (Q : AV → Heap → Prop) : Prop :=
 ∃ (I4 : List AV → Heap → Prop) (m5 : List AV → Heap → Nat), I4 [.int .i64 0] h ∧
 ∀ n3 : Int, ∀ h6 : Heap, I4 [.int .i64 n3] h6 →
 vif (decide (n3 < (slLen q1 : Int)))
 (vIdx q1 n3 66 fun p7 =>
 ∃ p8 : Option PA, ∃ n9 : Int, exC .u8 64 fun l10 =>
 cellsAt h6 p7 66 = some ([.ptr p8, .int .i64 n9] ++ (l10)) ∧
 AC Tryz.prog 128 [.agg ([.ptr p8, .int .i64 n9] ++ (l10)), .ptr p2] h6 fun v11 h12 => ∃ b13 : Bool, v11 = .bool b13 ∧
 vif b13
 (Q (.int .i64 n3) h12)
 ((True) ∧ I4 [.int .i64 (wrapK .i64 (n3 + 1))] h12 ∧ m5 [.int .i64 (wrapK .i64 (n3 + 1))] h12 < m5 [.int .i64 n3] h6))
 (Q (.int .i64 (-1)) h6)
theorem ac151 {q1 : Option SL} {p2 : Option PA} {h : Heap} {Q : AV → Heap → Prop} (hk : vc151 q1 p2 h Q) : AC Tryz.prog 151 [.sl q1, .func (.func 128) [] [.ptr p2]] h Q :=
 AC_by (H := hintsOf [] [(0, [8], [])]) (by kernel_rfl) (by kernel_rfl) hk
def vc38 (n1 : Int) (h : Heap) (Q : AV → Heap → Prop) : Prop :=
 vif (decide (n1 < 0))
 (Q (.tup [.ptr none, .int .i64 1]) h)
 (vif (decide (n1 > 1024))
 (Q (.tup [.ptr none, .int .i64 1]) h)
 (PMake [.str [], .int .i64 0, .sl none, .int .i64 0, .bool false, .bool false] 64 n1 n1 h fun q2 h3 =>
 PNew [.sl q2, .map (some (List.length h3)), .int .i64 0, .int .i64 0, .int .i64 0, .int .i64 0] true (h3 ++ [.mp [] 0]) fun a4 h5 =>
 Q (.tup [.ptr (some ⟨a4, 0⟩), .int .i64 0]) h5))
theorem ac38 {n1 : Int} {h : Heap} {Q : AV → Heap → Prop} (hk : vc38 n1 h Q) : AC Tryz.prog 38 [.int .i64 n1] h Q :=
 AC_by (H := hintsOf [] []) (by kernel_rfl) (by kernel_rfl) hk
def vc22 (p1 : Option PA) (p2 : Option PA) (n3 : Int) (h : Heap) (Q : AV → Heap → Prop) : Prop :=
 AC Tryz.prog 51 [.ptr p1] h fun v4 h5 => ∃ b6 : Bool, v4 = .bool b6 ∧
 vif (!b6)
 (Q (.tup [.sl none, .int .i64 6]) h5)
 (AC Tryz.prog 53 [.ptr p2] h5 fun v7 h8 => ∃ s9 : List UInt8, v7 = .str s9 ∧
 AC Tryz.prog 52 [.ptr p1, .str s9, .int .i64 n3] h8 fun v10 h11 => ∃ p12 : Option PA, v10 = .ptr p12 ∧
 vif (!(p12.isNone))
 (vif (!(p2.isNone))
 (AC Tryz.prog 54 [.ptr p1, .ptr p12] h11 fun v13 h14 => ∃ q15 : Option SL, v13 = .sl q15 ∧
 Q (.tup [.sl q15, .int .i64 0]) h14)
 (AC Tryz.prog 55 [.ptr p2, .int .i64 n3] h11 fun v16 h17 => ∃ q18 : Option SL, ∃ n19 : Int, v16 = .tup [.sl q18, .int .i64 n19] ∧
 vif (n19 != 0)
 (Q (.tup [.sl none, .int .i64 n19]) h17)
 (AC Tryz.prog 56 [.ptr p1] h17 fun v20 h21 => ∃ n22 : Int, ∃ b23 : Bool, v20 = .tup [.int .i64 n22, .bool b23] ∧
 vif (!b23)
 (Q (.tup [.sl none, .int .i64 90]) h21)
 (AC Tryz.prog 53 [.ptr p2] h21 fun v24 h25 => ∃ s26 : List UInt8, v24 = .str s26 ∧
 vPtr p1 fun p27 =>
 ∃ q28 : Option SL, cellsAt h25 ⟨p27.b, p27.o + 0⟩ 1 = some [.sl q28] ∧
 vIdx q28 n22 6 fun p29 =>
 PStore h25 p29 [.str s26, .int .i64 n3, .sl q18, .int .i64 1, .bool true, .bool true] fun h30 =>
 vPtr p1 fun p31 =>
 ∃ m32 : Option Nat, cellsAt h30 ⟨p31.b, p31.o + 1⟩ 1 = some [.map m32] ∧
 vMap m32 fun a34 => PUpdate Tryz.prog 87 a34 (.agg [.str s26, .int .i64 n3]) (.int .i64 n22) h30 fun h33 =>
 vPtr p1 fun p35 =>
 ∃ n36 : Int, cellsAt h33 ⟨p35.b, (p35.o + 3) + 1⟩ 1 = some [.int .i64 n36] ∧
 vPtr p1 fun p37 =>
 PStore h33 ⟨p37.b, (p37.o + 3) + 1⟩ [.int .i64 (wrapK .i64 (n36 + 1))] fun h38 =>
 AC Tryz.prog 57 [.sl q18] h38 fun v39 h40 => ∃ q41 : Option SL, v39 = .sl q41 ∧
 Q (.tup [.sl q41, .int .i64 0]) h40))))
 (AC Tryz.prog 55 [.ptr p2, .int .i64 n3] h11 fun v42 h43 => ∃ q44 : Option SL, ∃ n45 : Int, v42 = .tup [.sl q44, .int .i64 n45] ∧
 vif (n45 != 0)
 (Q (.tup [.sl none, .int .i64 n45]) h43)
 (AC Tryz.prog 56 [.ptr p1] h43 fun v46 h47 => ∃ n48 : Int, ∃ b49 : Bool, v46 = .tup [.int .i64 n48, .bool b49] ∧
 vif (!b49)
 (Q (.tup [.sl none, .int .i64 90]) h47)
 (AC Tryz.prog 53 [.ptr p2] h47 fun v50 h51 => ∃ s52 : List UInt8, v50 = .str s52 ∧
 vPtr p1 fun p53 =>
 ∃ q54 : Option SL, cellsAt h51 ⟨p53.b, p53.o + 0⟩ 1 = some [.sl q54] ∧
 vIdx q54 n48 6 fun p55 =>
 PStore h51 p55 [.str s52, .int .i64 n3, .sl q44, .int .i64 1, .bool true, .bool true] fun h56 =>
 vPtr p1 fun p57 =>
 ∃ m58 : Option Nat, cellsAt h56 ⟨p57.b, p57.o + 1⟩ 1 = some [.map m58] ∧
 vMap m58 fun a60 => PUpdate Tryz.prog 87 a60 (.agg [.str s52, .int .i64 n3]) (.int .i64 n48) h56 fun h59 =>
 vPtr p1 fun p61 =>
 ∃ n62 : Int, cellsAt h59 ⟨p61.b, (p61.o + 3) + 1⟩ 1 = some [.int .i64 n62] ∧
 vPtr p1 fun p63 =>
 PStore h59 ⟨p63.b, (p63.o + 3) + 1⟩ [.int .i64 (wrapK .i64 (n62 + 1))] fun h64 =>
 AC Tryz.prog 57 [.sl q44] h64 fun v65 h66 => ∃ q67 : Option SL, v65 = .sl q67 ∧
 Q (.tup [.sl q67, .int .i64 0]) h66))))
theorem ac22 {p1 : Option PA} {p2 : Option PA} {n3 : Int} {h : Heap} {Q : AV → Heap → Prop} (hk : vc22 p1 p2 n3 h Q) : AC Tryz.prog 22 [.ptr p1, .ptr p2, .int .i64 n3] h Q :=
 AC_by (H := hintsOf [13] []) (by kernel_rfl) (by kernel_rfl) hk
def vc23 (p1 : Option PA) (s2 : List UInt8) (n3 : Int) (h : Heap) (Q : AV → Heap → Prop) : Prop :=
 AC Tryz.prog 51 [.ptr p1] h fun v4 h5 => ∃ b6 : Bool, v4 = .bool b6 ∧
 vif (!b6)
 (Q (.int .i64 6) h5)
 (AC Tryz.prog 52 [.ptr p1, .str s2, .int .i64 n3] h5 fun v7 h8 => ∃ p9 : Option PA, v7 = .ptr p9 ∧
 vif (p9.isNone)
 (Q (.int .i64 4) h8)
 (vPtr p9 fun p10 =>
 ∃ n11 : Int, cellsAt h8 ⟨p10.b, p10.o + 3⟩ 1 = some [.int .i64 n11] ∧
 vif (n11 == 0)
 (Q (.int .i64 4) h8)
 (vPtr p9 fun p12 =>
 ∃ n13 : Int, cellsAt h8 ⟨p12.b, p12.o + 3⟩ 1 = some [.int .i64 n13] ∧
 vPtr p9 fun p14 =>
 PStore h8 ⟨p14.b, p14.o + 3⟩ [.int .i64 (wrapK .i64 (n13 - 1))] fun h15 =>
 Q (.int .i64 0) h15)))
theorem ac23 {p1 : Option PA} {s2 : List UInt8} {n3 : Int} {h : Heap} {Q : AV → Heap → Prop} (hk : vc23 p1 s2 n3 h Q) : AC Tryz.prog 23 [.ptr p1, .str s2, .int .i64 n3] h Q :=
 AC_by (H := hintsOf [] []) (by kernel_rfl) (by kernel_rfl) hk
def vc15 (p1 : Option PA) (h : Heap) (Q : AV → Heap → Prop) : Prop :=
 AC Tryz.prog 49 [.ptr p1, .func (.func 50) [] []] h fun v2 h3 => ∃ n4 : Int, v2 = .int .i64 n4 ∧
 Q (.int .i64 n4) h3
theorem ac15 {p1 : Option PA} {h : Heap} {Q : AV → Heap → Prop} (hk : vc15 p1 h Q) : AC Tryz.prog 15 [.ptr p1] h Q :=
 AC_by (H := hintsOf [] []) (by kernel_rfl) (by kernel_rfl) hk
def vc51 (p1 : Option PA) (h : Heap) (Q : AV → Heap → Prop) : Prop :=
 vif (!(p1.isNone))
 (vPtr p1 fun p2 =>
 ∃ m3 : Option Nat, cellsAt h ⟨p2.b, p2.o + 1⟩ 1 = some [.map m3] ∧
 Q (.bool (!(m3.isNone))) h)
 (Q (.bool false) h)
theorem ac51 {p1 : Option PA} {h : Heap} {Q : AV → Heap → Prop} (hk : vc51 p1 h Q) : AC Tryz.prog 51 [.ptr p1] h Q :=
 AC_by (H := hintsOf [] []) (by kernel_rfl) (by kernel_rfl) hk
def vc52 (p1 : Option PA) (s2 : List UInt8) (n3 : Int) (h : Heap) (Q : AV → Heap → Prop) : Prop :=
 AC Tryz.prog 51 [.ptr p1] h fun v4 h5 => ∃ b6 : Bool, v4 = .bool b6 ∧
 vif (!b6)
 (Q (.ptr none) h5)
 (vPtr p1 fun p7 =>
 ∃ m8 : Option Nat, cellsAt h5 ⟨p7.b, p7.o + 1⟩ 1 = some [.map m8] ∧
 PLookup Tryz.prog 87 3 m8 (.agg [.str s2, .int .i64 n3]) true h5 fun v9 =>
 ∃ n10 : Int, ∃ b11 : Bool, v9 = .tup [.int .i64 n10, .bool b11] ∧
 vif (!b11)
 (Q (.ptr none) h5)
 (vPtr p1 fun p12 =>
 ∃ q13 : Option SL, cellsAt h5 ⟨p12.b, p12.o + 0⟩ 1 = some [.sl q13] ∧
 vIdx q13 n10 6 fun p14 =>
 Q (.ptr (some p14)) h5))
theorem ac52 {p1 : Option PA} {s2 : List UInt8} {n3 : Int} {h : Heap} {Q : AV → Heap → Prop} (hk : vc52 p1 s2 n3 h Q) : AC Tryz.prog 52 [.ptr p1, .str s2, .int .i64 n3] h Q :=
 AC_by (H := hintsOf [] []) (by kernel_rfl) (by kernel_rfl) hk
def vc54 (p1 : Option PA) (p2 : Option PA) (h : Heap) (Q : AV → Heap → Prop) : Prop :=
 vPtr p2 fun p3 =>
 ∃ n4 : Int, cellsAt h ⟨p3.b, p3.o + 3⟩ 1 = some [.int .i64 n4] ∧
 vPtr p2 fun p5 =>
 PStore h ⟨p5.b, p5.o + 3⟩ [.int .i64 (wrapK .i64 (n4 + 1))] fun h6 =>
 vPtr p2 fun p7 =>
 PStore h6 ⟨p7.b, p7.o + 4⟩ [.bool true] fun h8 =>
 vPtr p1 fun p9 =>
 ∃ n10 : Int, cellsAt h8 ⟨p9.b, p9.o + 3 + 0⟩ 1 = some [.int .i64 n10] ∧
 vPtr p1 fun p11 =>
 PStore h8 ⟨p11.b, p11.o + 3 + 0⟩ [.int .i64 (wrapK .i64 (n10 + 1))] fun h12 =>
 vPtr p2 fun p13 =>
 ∃ q14 : Option SL, cellsAt h12 ⟨p13.b, p13.o + 2⟩ 1 = some [.sl q14] ∧
 AC Tryz.prog 57 [.sl q14] h12 fun v15 h16 => ∃ q17 : Option SL, v15 = .sl q17 ∧
 Q (.sl q17) h16
theorem ac54 {p1 : Option PA} {p2 : Option PA} {h : Heap} {Q : AV → Heap → Prop} (hk : vc54 p1 p2 h Q) : AC Tryz.prog 54 [.ptr p1, .ptr p2] h Q :=
 AC_by (H := hintsOf [] []) (by kernel_rfl) (by kernel_rfl) hk
def vc56 (p1 : Option PA) (h : Heap) (Q : AV → Heap → Prop) : Prop :=
 vPtr p1 fun p2 =>
 ∃ q3 : Option SL, cellsAt h ⟨p2.b, p2.o + 0⟩ 1 = some [.sl q3] ∧
 AC Tryz.prog 89 [.sl q3, .func (.func 88) [] []] h fun v4 h5 => ∃ n6 : Int, v4 = .int .i64 n6 ∧
 vif (decide (n6 ≥ 0))
 (Q (.tup [.int .i64 n6, .bool true]) h5)
 (vPtr p1 fun p7 =>
 ∃ q8 : Option SL, cellsAt h5 ⟨p7.b, p7.o + 0⟩ 1 = some [.sl q8] ∧
 AC Tryz.prog 15 [.ptr p1] h5 fun v9 h10 => ∃ n11 : Int, v9 = .int .i64 n11 ∧
 (∃ q33 : Option SL, cellsAt h10 ⟨p7.b, p7.o + 0⟩ 1 = some [.sl q33] ∧
 LV.val (.sl q33) = LV.val (.sl q8)) ∧
 vif (n11 == (slLen q8 : Int))
 (Q (.tup [.int .i64 0, .bool false]) h10)
 (∃ (I12 : List AV → Heap → Prop) (m13 : List AV → Heap → Nat), I12 [] h10 ∧
 ∀ h14 : Heap, I12 [] h14 →
 AC Tryz.prog 90 [.ptr p1] h14 fun v15 h16 => ∃ n17 : Int, v15 = .int .i64 n17 ∧
 vPtr p1 fun p18 =>
 ∃ q19 : Option SL, cellsAt h16 ⟨p18.b, p18.o + 0⟩ 1 = some [.sl q19] ∧
 vIdx q19 n17 6 fun p20 =>
 ∃ n21 : Int, cellsAt h16 ⟨p20.b, p20.o + 3⟩ 1 = some [.int .i64 n21] ∧
 vif (decide (n21 > 0))
 ((True) ∧ I12 [] h16 ∧ m13 [] h16 < m13 [] h14)
 (∃ b22 : Bool, cellsAt h16 ⟨p20.b, p20.o + 4⟩ 1 = some [.bool b22] ∧
 vif b22
 (PStore h16 ⟨p20.b, p20.o + 4⟩ [.bool false] fun h23 =>
 (True) ∧ I12 [] h23 ∧ m13 [] h23 < m13 [] h14)
 (vPtr p1 fun p24 =>
 ∃ m25 : Option Nat, cellsAt h16 ⟨p24.b, p24.o + 1⟩ 1 = some [.map m25] ∧
 ∃ s26 : List UInt8, ∃ n27 : Int, cellsAt h16 ⟨p20.b, p20.o + 0⟩ 2 = some [.str s26, .int .i64 n27] ∧
 PDelete Tryz.prog 87 m25 (.agg [.str s26, .int .i64 n27]) h16 fun h28 =>
 vPtr p1 fun p29 =>
 ∃ n30 : Int, cellsAt h28 ⟨p29.b, (p29.o + 3) + 2⟩ 1 = some [.int .i64 n30] ∧
 vPtr p1 fun p31 =>
 PStore h28 ⟨p31.b, (p31.o + 3) + 2⟩ [.int .i64 (wrapK .i64 (n30 + 1))] fun h32 =>
 Q (.tup [.int .i64 n17, .bool true]) h32))))
theorem ac56 {p1 : Option PA} {h : Heap} {Q : AV → Heap → Prop} (hk : vc56 p1 h Q) : AC Tryz.prog 56 [.ptr p1] h Q :=
 AC_by (H := hintsOf [] [(0, [], [])]) (by kernel_rfl) (by kernel_rfl) hk
def vc57 (q1 : Option SL) (h : Heap) (Q : AV → Heap → Prop) : Prop :=
 vif (q1.isNone)
 (Q (.sl none) h)
 (PNew [] true h fun a2 h3 =>
 PAppendS 4 32 (some ⟨a2, 0, 0, 0, 0⟩) q1 h3 fun q4 h5 =>
 Q (.sl q4) h5)
theorem ac57 {q1 : Option SL} {h : Heap} {Q : AV → Heap → Prop} (hk : vc57 q1 h Q) : AC Tryz.prog 57 [.sl q1] h Q :=
 AC_by (H := hintsOf [] []) (by kernel_rfl) (by kernel_rfl) hk
def vc49h (p1 : Option PA) (h : Heap) (Q : AV → Heap → Prop) : Prop :=
 AC Tryz.prog 51 [.ptr p1] h fun v2 h3 => ∃ b4 : Bool, v2 = .bool b4 ∧
 vif (!b4)
 (Q (.int .i64 0) h3)
 (vPtr p1 fun p5 =>
 ∃ q6 : Option SL, cellsAt h3 ⟨p5.b, p5.o + 0⟩ 1 = some [.sl q6] ∧
 ∃ (I9 : List AV → Heap → Prop) (m10 : List AV → Heap → Nat), I9 [.int .i64 0, .int .i64 0] h3 ∧
 ∀ n7 n8 : Int, ∀ h11 : Heap, I9 [.int .i64 n7, .int .i64 n8] h11 →
 vif (decide (n8 < (slLen q6 : Int)))
 (vPtr p1 fun p12 =>
 ∃ q13 : Option SL, cellsAt h11 ⟨p12.b, p12.o + 0⟩ 1 = some [.sl q13] ∧
 vIdx q13 n8 6 fun p14 =>
 AC Tryz.prog 50 [.ptr (some p14)] h11 fun v15 h16 => ∃ b17 : Bool, v15 = .bool b17 ∧
 vif b17
 ((True) ∧ I9 [.int .i64 (wrapK .i64 (n7 + 1)), .int .i64 (wrapK .i64 (n8 + 1))] h16 ∧ m10 [.int .i64 (wrapK .i64 (n7 + 1)), .int .i64 (wrapK .i64 (n8 + 1))] h16 < m10 [.int .i64 n7, .int .i64 n8] h11)
 ((True) ∧ I9 [.int .i64 n7, .int .i64 (wrapK .i64 (n8 + 1))] h16 ∧ m10 [.int .i64 n7, .int .i64 (wrapK .i64 (n8 + 1))] h16 < m10 [.int .i64 n7, .int .i64 n8] h11))
 (Q (.int .i64 n7) h11))
theorem ac49h {p1 : Option PA} {h : Heap} {Q : AV → Heap → Prop} (hk : vc49h p1 h Q) : AC Tryz.prog 49 [.ptr p1, .func (.func 50) [] []] h Q :=
 AC_by (H := hintsOf [] [(0, [5, 15], [])]) (by kernel_rfl) (by kernel_rfl) hk
def vc50 (p1 : Option PA) (h : Heap) (Q : AV → Heap → Prop) : Prop :=
 vPtr p1 fun p2 =>
 ∃ n3 : Int, cellsAt h ⟨p2.b, p2.o + 3⟩ 1 = some [.int .i64 n3] ∧
 Q (.bool (decide (n3 > 0))) h
theorem ac50 {p1 : Option PA} {h : Heap} {Q : AV → Heap → Prop} (hk : vc50 p1 h Q) : AC Tryz.prog 50 [.ptr p1] h Q :=
 AC_by (H := hintsOf [] []) (by kernel_rfl) (by kernel_rfl) hk
def vc88 (s1 : List UInt8) (n2 : Int) (q3 : Option SL) (n4 : Int) (b5 : Bool) (b6 : Bool) (h : Heap) (Q : AV → Heap → Prop) : Prop :=
 Q (.bool (!b6)) h
theorem ac88 {s1 : List UInt8} {n2 : Int} {q3 : Option SL} {n4 : Int} {b5 : Bool} {b6 : Bool} {h : Heap} {Q : AV → Heap → Prop} (hk : vc88 s1 n2 q3 n4 b5 b6 h Q) : AC Tryz.prog 88 [.agg [.str s1, .int .i64 n2, .sl q3, .int .i64 n4, .bool b5, .bool b6]] h Q :=
 AC_by (H := hintsOf [1] []) (by kernel_rfl) (by kernel_rfl) hk
def vc89 (q1 : Option SL) (h : Heap) (Q : AV → Heap → Prop) : Prop :=
 ∃ (I3 : List AV → Heap → Prop) (m4 : List AV → Heap → Nat), I3 [.int .i64 0] h ∧
 ∀ n2 : Int, ∀ h5 : Heap, I3 [.int .i64 n2] h5 →
 vif (decide (n2 < (slLen q1 : Int)))
 (vIdx q1 n2 6 fun p6 =>
 ∃ s7 : List UInt8, ∃ n8 : Int, ∃ q9 : Option SL, ∃ n10 : Int, ∃ b11 b12 : Bool, cellsAt h5 p6 6 = some [.str s7, .int .i64 n8, .sl q9, .int .i64 n10, .bool b11, .bool b12] ∧
 AC Tryz.prog 88 [.agg [.str s7, .int .i64 n8, .sl q9, .int .i64 n10, .bool b11, .bool b12]] h5 fun v13 h14 => ∃ b15 : Bool, v13 = .bool b15 ∧
 vif b15
 (Q (.int .i64 n2) h14)
 ((True) ∧ I3 [.int .i64 (wrapK .i64 (n2 + 1))] h14 ∧ m4 [.int .i64 (wrapK .i64 (n2 + 1))] h14 < m4 [.int .i64 n2] h5))
 (Q (.int .i64 (-1)) h5)
theorem ac89 {q1 : Option SL} {h : Heap} {Q : AV → Heap → Prop} (hk : vc89 q1 h Q) : AC Tryz.prog 89 [.sl q1, .func (.func 88) [] []] h Q :=
 AC_by (H := hintsOf [] [(0, [8], [])]) (by kernel_rfl) (by kernel_rfl) hk
def vc90 (p1 : Option PA) (h : Heap) (Q : AV → Heap → Prop) : Prop :=
 vPtr p1 fun p2 =>
 ∃ n3 : Int, cellsAt h ⟨p2.b, p2.o + 2⟩ 1 = some [.int .i64 n3] ∧
 vPtr p1 fun p4 =>
 ∃ n5 : Int, cellsAt h ⟨p4.b, p4.o + 2⟩ 1 = some [.int .i64 n5] ∧
 vPtr p1 fun p6 =>
 ∃ q7 : Option SL, cellsAt h ⟨p6.b, p6.o + 0⟩ 1 = some [.sl q7] ∧
 need (!((slLen q7 : Int) == 0))
 (vPtr p1 fun p8 =>
 PStore h ⟨p8.b, p8.o + 2⟩ [.int .i64 (Int.tmod (wrapK .i64 (n5 + 1)) (slLen q7 : Int))] fun h9 =>
 Q (.int .i64 n3) h9)
theorem ac90 {p1 : Option PA} {h : Heap} {Q : AV → Heap → Prop} (hk : vc90 p1 h Q) : AC Tryz.prog 90 [.ptr p1] h Q :=
 AC_by (H := hintsOf [] []) (by kernel_rfl) (by kernel_rfl) hk
def vc13 (p1 : Option PA) (p2 : Option PA) (n3 : Int) (n4 : Int) (n5 : Int) (n6 : Int) (h : Heap) (Q : AV → Heap → Prop) : Prop :=
 PNew [.int .i64 n3, .int .i64 n4, .int .i64 n5, .int .i64 n6] true h fun a7 h8 =>
 vif (p1.isNone)
 (Q (.tup [.ptr none, .int .i64 6]) h8)
 (vif (p2.isNone)
 (Q (.tup [.ptr none, .int .i64 6]) h8)
 (∃ n9 n10 : Int, ∃ n11 n12 : Int, cellsAt h8 ⟨a7, 0⟩ 4 = some [.int .i64 n9, .int .i64 n10, .int .i64 n11, .int .i64 n12] ∧
 AC Tryz.prog 43 [.ptr p2, .agg [.int .i64 n9, .int .i64 n10, .int .i64 n11, .int .i64 n12]] h8 fun v13 h14 => ∃ n15 : Int, v13 = .int .i64 n15 ∧
 PNew [.ptr p1, .ptr p2, .int .i64 n15, .sl none, .int .i64 0, .int .i64 0] true h14 fun a16 h17 =>
 PNew [.ptr none] true h17 fun a18 h19 =>
 PStore h19 ⟨a18, 0⟩ [.ptr (some ⟨a16, 0⟩)] fun h20 =>
 AC Tryz.prog 21 [.ptr p2] h20 fun v21 h22 => ∃ n23 : Int, v21 = .int .i64 n23 ∧
 vif (n23 == 0)
 (∃ p24 : Option PA, cellsAt h22 ⟨a18, 0⟩ 1 = some [.ptr p24] ∧
 Q (.tup [.ptr p24, .int .i64 0]) h22)
 (∃ (I25 : List AV → Heap → Prop) (m26 : List AV → Heap → Nat), I25 [] h22 ∧
 ∀ h27 : Heap, I25 [] h27 →
 ∃ p28 : Option PA, cellsAt h27 ⟨a18, 0⟩ 1 = some [.ptr p28] ∧
 AC Tryz.prog 44 [.ptr p28] h27 fun v29 h30 => ∃ n31 : Int, v29 = .int .i64 n31 ∧
 vif (n31 != 0)
 (Q (.tup [.ptr none, .int .i64 n31]) h30)
 (∃ p32 : Option PA, cellsAt h30 ⟨a18, 0⟩ 1 = some [.ptr p32] ∧
 ∃ p33 : Option PA, cellsAt h30 ⟨a18, 0⟩ 1 = some [.ptr p33] ∧
 vPtr p33 fun p34 =>
 ∃ q35 : Option SL, cellsAt h30 ⟨p34.b, p34.o + 3⟩ 1 = some [.sl q35] ∧
 AC Tryz.prog 45 [.int .i64 (slLen q35 : Int), .func (.func 46) [] [.ptr (some ⟨a18, 0⟩), .ptr (some ⟨a7, 0⟩)]] h30 fun v36 h37 => ∃ n38 : Int, v36 = .int .i64 n38 ∧
 (∃ p68 : Option PA, cellsAt h37 ⟨a18, 0⟩ 1 = some [.ptr p68] ∧
 LV.val (.ptr p68) = LV.val (.ptr p32)) ∧
 vPtr p32 fun p39 =>
 PStore h37 ⟨p39.b, p39.o + 4⟩ [.int .i64 n38] fun h40 =>
 ∃ p41 : Option PA, cellsAt h40 ⟨a18, 0⟩ 1 = some [.ptr p41] ∧
 vPtr p41 fun p42 =>
 ∃ n43 : Int, cellsAt h40 ⟨p42.b, p42.o + 4⟩ 1 = some [.int .i64 n43] ∧
 ∃ p44 : Option PA, cellsAt h40 ⟨a18, 0⟩ 1 = some [.ptr p44] ∧
 vPtr p44 fun p45 =>
 ∃ q46 : Option SL, cellsAt h40 ⟨p45.b, p45.o + 3⟩ 1 = some [.sl q46] ∧
 vif (decide (n43 < (slLen q46 : Int)))
 (∃ p47 : Option PA, cellsAt h40 ⟨a18, 0⟩ 1 = some [.ptr p47] ∧
 Q (.tup [.ptr p47, .int .i64 0]) h40)
 (∃ p48 : Option PA, cellsAt h40 ⟨a18, 0⟩ 1 = some [.ptr p48] ∧
 vPtr p48 fun p49 =>
 ∃ n50 : Int, cellsAt h40 ⟨p49.b, p49.o + 2⟩ 1 = some [.int .i64 n50] ∧
 AC Tryz.prog 21 [.ptr p2] h40 fun v51 h52 => ∃ n53 : Int, v51 = .int .i64 n53 ∧
 (∃ n67 : Int, cellsAt h52 ⟨p49.b, p49.o + 2⟩ 1 = some [.int .i64 n67] ∧
 LV.val (.int .i64 n67) = LV.val (.int .i64 n50)) ∧
 (∃ p66 : Option PA, cellsAt h52 ⟨a18, 0⟩ 1 = some [.ptr p66] ∧
 LV.val (.ptr p66) = LV.val (.ptr p48)) ∧
 vif (decide ((wrapK .i64 (n50 + 1)) ≥ n53))
 (∃ p54 : Option PA, cellsAt h52 ⟨a18, 0⟩ 1 = some [.ptr p54] ∧
 AC Tryz.prog 20 [.ptr p54] h52 fun v55 h56 => v55 = .tup [] ∧
 ∃ p57 : Option PA, cellsAt h56 ⟨a18, 0⟩ 1 = some [.ptr p57] ∧
 Q (.tup [.ptr p57, .int .i64 0]) h56)
 (∃ p58 : Option PA, cellsAt h52 ⟨a18, 0⟩ 1 = some [.ptr p58] ∧
 AC Tryz.prog 48 [.ptr p58] h52 fun v59 h60 => v59 = .tup [] ∧
 ∃ p61 : Option PA, cellsAt h60 ⟨a18, 0⟩ 1 = some [.ptr p61] ∧
 vPtr p61 fun p62 =>
 ∃ n63 : Int, cellsAt h60 ⟨p62.b, p62.o + 2⟩ 1 = some [.int .i64 n63] ∧
 vPtr p61 fun p64 =>
 PStore h60 ⟨p64.b, p64.o + 2⟩ [.int .i64 (wrapK .i64 (n63 + 1))] fun h65 =>
 (True) ∧ I25 [] h65 ∧ m26 [] h65 < m26 [] h27))))))
theorem ac13 {p1 : Option PA} {p2 : Option PA} {n3 : Int} {n4 : Int} {n5 : Int} {n6 : Int} {h : Heap} {Q : AV → Heap → Prop} (hk : vc13 p1 p2 n3 n4 n5 n6 h Q) : AC Tryz.prog 13 [.ptr p1, .ptr p2, .agg [.int .i64 n3, .int .i64 n4, .int .i64 n5, .int .i64 n6]] h Q :=
 AC_by (H := hintsOf [] [(0, [], [])]) (by kernel_rfl) (by kernel_rfl) hk
def vc14 (p1 : Option PA) (h : Heap) (Q : AV → Heap → Prop) : Prop :=
 vif (p1.isNone)
 (Q (.tup [.agg [.int .i64 0, .int .i64 0, .int .i64 0, .int .i64 0], .bool false]) h)
 (vPtr p1 fun p2 =>
 ∃ n3 : Int, cellsAt h ⟨p2.b, p2.o + 4⟩ 1 = some [.int .i64 n3] ∧
 vPtr p1 fun p4 =>
 ∃ q5 : Option SL, cellsAt h ⟨p4.b, p4.o + 3⟩ 1 = some [.sl q5] ∧
 vif (decide (n3 ≥ (slLen q5 : Int)))
 (Q (.tup [.agg [.int .i64 0, .int .i64 0, .int .i64 0, .int .i64 0], .bool false]) h)
 (vPtr p1 fun p6 =>
 ∃ q7 : Option SL, cellsAt h ⟨p6.b, p6.o + 3⟩ 1 = some [.sl q7] ∧
 vPtr p1 fun p8 =>
 ∃ n9 : Int, cellsAt h ⟨p8.b, p8.o + 4⟩ 1 = some [.int .i64 n9] ∧
 vIdx q7 n9 4 fun p10 =>
 ∃ n11 n12 : Int, ∃ n13 n14 : Int, cellsAt h p10 4 = some [.int .i64 n11, .int .i64 n12, .int .i64 n13, .int .i64 n14] ∧
 Q (.tup [.agg [.int .i64 n11, .int .i64 n12, .int .i64 n13, .int .i64 n14], .bool true]) h))
theorem ac14 {p1 : Option PA} {h : Heap} {Q : AV → Heap → Prop} (hk : vc14 p1 h Q) : AC Tryz.prog 14 [.ptr p1] h Q :=
 AC_by (H := hintsOf [2] []) (by kernel_rfl) (by kernel_rfl) hk
def vc16 (p1 : Option PA) (h : Heap) (Q : AV → Heap → Prop) : Prop :=
 vif (p1.isNone)
 (Q (.int .i64 6) h)
 (vPtr p1 fun p2 =>
 ∃ q3 : Option SL, cellsAt h ⟨p2.b, p2.o + 3⟩ 1 = some [.sl q3] ∧
 vif ((slLen q3 : Int) == 0)
 (Q (.int .i64 4) h)
 (vPtr p1 fun p4 =>
 ∃ n5 : Int, cellsAt h ⟨p4.b, p4.o + 4⟩ 1 = some [.int .i64 n5] ∧
 vPtr p1 fun p6 =>
 PStore h ⟨p6.b, p6.o + 4⟩ [.int .i64 (wrapK .i64 (n5 + 1))] fun h7 =>
 vPtr p1 fun p8 =>
 ∃ n9 : Int, cellsAt h7 ⟨p8.b, p8.o + 4⟩ 1 = some [.int .i64 n9] ∧
 vPtr p1 fun p10 =>
 ∃ q11 : Option SL, cellsAt h7 ⟨p10.b, p10.o + 3⟩ 1 = some [.sl q11] ∧
 vif (decide (n9 < (slLen q11 : Int)))
 (Q (.int .i64 0) h7)
 (AC Tryz.prog 20 [.ptr p1] h7 fun v12 h13 => v12 = .tup [] ∧
 vPtr p1 fun p14 =>
 ∃ n15 : Int, cellsAt h13 ⟨p14.b, p14.o + 2⟩ 1 = some [.int .i64 n15] ∧
 vPtr p1 fun p16 =>
 ∃ p17 : Option PA, cellsAt h13 ⟨p16.b, p16.o + 1⟩ 1 = some [.ptr p17] ∧
 AC Tryz.prog 21 [.ptr p17] h13 fun v18 h19 => ∃ n20 : Int, v18 = .int .i64 n20 ∧
 (∃ n28 : Int, cellsAt h19 ⟨p14.b, p14.o + 2⟩ 1 = some [.int .i64 n28] ∧
 LV.val (.int .i64 n28) = LV.val (.int .i64 n15)) ∧
 vif (decide ((wrapK .i64 (n15 + 1)) ≥ n20))
 (Q (.int .i64 0) h19)
 (vPtr p1 fun p21 =>
 ∃ n22 : Int, cellsAt h19 ⟨p21.b, p21.o + 2⟩ 1 = some [.int .i64 n22] ∧
 vPtr p1 fun p23 =>
 PStore h19 ⟨p23.b, p23.o + 2⟩ [.int .i64 (wrapK .i64 (n22 + 1))] fun h24 =>
 AC Tryz.prog 44 [.ptr p1] h24 fun v25 h26 => ∃ n27 : Int, v25 = .int .i64 n27 ∧
 Q (.int .i64 n27) h26))))
theorem ac16 {p1 : Option PA} {h : Heap} {Q : AV → Heap → Prop} (hk : vc16 p1 h Q) : AC Tryz.prog 16 [.ptr p1] h Q :=
 AC_by (H := hintsOf [] []) (by kernel_rfl) (by kernel_rfl) hk
def vc20 (p1 : Option PA) (h : Heap) (Q : AV → Heap → Prop) : Prop :=
 vif (!(p1.isNone))
 (vPtr p1 fun p2 =>
 ∃ q3 : Option SL, cellsAt h ⟨p2.b, p2.o + 3⟩ 1 = some [.sl q3] ∧
 vif (decide ((slLen q3 : Int) > 0))
 (AC Tryz.prog 48 [.ptr p1] h fun v4 h5 => v4 = .tup [] ∧
 vPtr p1 fun p6 =>
 PStore h5 ⟨p6.b, p6.o + 4⟩ [.int .i64 0] fun h7 =>
 Q (.tup []) h7)
 (Q (.tup []) h))
 (Q (.tup []) h)
theorem ac20 {p1 : Option PA} {h : Heap} {Q : AV → Heap → Prop} (hk : vc20 p1 h Q) : AC Tryz.prog 20 [.ptr p1] h Q :=
 AC_by (H := hintsOf [] []) (by kernel_rfl) (by kernel_rfl) hk
def vc44 (p1 : Option PA) (h : Heap) (Q : AV → Heap → Prop) : Prop :=
 vPtr p1 fun p2 =>
 ∃ p3 : Option PA, cellsAt h ⟨p2.b, p2.o + 0⟩ 1 = some [.ptr p3] ∧
 vPtr p1 fun p4 =>
 ∃ p5 : Option PA, cellsAt h ⟨p4.b, p4.o + 1⟩ 1 = some [.ptr p5] ∧
 vPtr p1 fun p6 =>
 ∃ n7 : Int, cellsAt h ⟨p6.b, p6.o + 2⟩ 1 = some [.int .i64 n7] ∧
 AC Tryz.prog 22 [.ptr p3, .ptr p5, .int .i64 n7] h fun v8 h9 => ∃ q10 : Option SL, ∃ n11 : Int, v8 = .tup [.sl q10, .int .i64 n11] ∧
 vPtr p1 fun p12 =>
 PStore h9 ⟨p12.b, p12.o + 5⟩ [.int .i64 n11] fun h13 =>
 vPtr p1 fun p14 =>
 PStore h13 ⟨p14.b, p14.o + 3⟩ [.sl q10] fun h15 =>
 vPtr p1 fun p16 =>
 PStore h15 ⟨p16.b, p16.o + 4⟩ [.int .i64 0] fun h17 =>
 Q (.int .i64 n11) h17
theorem ac44 {p1 : Option PA} {h : Heap} {Q : AV → Heap → Prop} (hk : vc44 p1 h Q) : AC Tryz.prog 44 [.ptr p1] h Q :=
 AC_by (H := hintsOf [] []) (by kernel_rfl) (by kernel_rfl) hk
def vc45c (n1 : Int) (p2 : PA) (p3 : PA) (h : Heap) (Q : AV → Heap → Prop) : Prop :=
 ∃ (I6 : List AV → Heap → Prop) (m7 : List AV → Heap → Nat), I6 [.int .i64 0, .int .i64 n1] h ∧
 ∀ n4 n5 : Int, ∀ h8 : Heap, I6 [.int .i64 n4, .int .i64 n5] h8 →
 vif (decide (n4 < n5))
 (AC Tryz.prog 46 [.int .i64 (wrapK .i64 (shrK .u64 (wrapK .u64 (wrapK .i64 (n4 + n5))) 1)), .ptr (some p2), .ptr (some p3)] h8 fun v9 h10 => ∃ b11 : Bool, v9 = .bool b11 ∧
 vif (!b11)
 ((True) ∧ I6 [.int .i64 (wrapK .i64 ((wrapK .i64 (shrK .u64 (wrapK .u64 (wrapK .i64 (n4 + n5))) 1)) + 1)), .int .i64 n5] h10 ∧ m7 [.int .i64 (wrapK .i64 ((wrapK .i64 (shrK .u64 (wrapK .u64 (wrapK .i64 (n4 + n5))) 1)) + 1)), .int .i64 n5] h10 < m7 [.int .i64 n4, .int .i64 n5] h8)
 ((True) ∧ I6 [.int .i64 n4, .int .i64 (wrapK .i64 (shrK .u64 (wrapK .u64 (wrapK .i64 (n4 + n5))) 1))] h10 ∧ m7 [.int .i64 n4, .int .i64 (wrapK .i64 (shrK .u64 (wrapK .u64 (wrapK .i64 (n4 + n5))) 1))] h10 < m7 [.int .i64 n4, .int .i64 n5] h8))
 (Q (.int .i64 n4) h8)
theorem ac45c {n1 : Int} {p2 : PA} {p3 : PA} {h : Heap} {Q : AV → Heap → Prop} (hk : vc45c n1 p2 p3 h Q) : AC Tryz.prog 45 [.int .i64 n1, .func (.func 46) [] [.ptr (some p2), .ptr (some p3)]] h Q :=
 AC_by (H := hintsOf [] [(0, [5, 6], [])]) (by kernel_rfl) (by kernel_rfl) hk
def vc46 (n1 : Int) (p2 : PA) (p3 : PA) (h : Heap) (Q : AV → Heap → Prop) : Prop :=
 ∃ p4 : Option PA, cellsAt h p2 1 = some [.ptr p4] ∧
 vPtr p4 fun p5 =>
 ∃ q6 : Option SL, cellsAt h ⟨p5.b, p5.o + 3⟩ 1 = some [.sl q6] ∧
 vIdx q6 n1 4 fun p7 =>
 ∃ n8 n9 : Int, ∃ n10 n11 : Int, cellsAt h p7 4 = some [.int .i64 n8, .int .i64 n9, .int .i64 n10, .int .i64 n11] ∧
 ∃ n12 n13 : Int, ∃ n14 n15 : Int, cellsAt h p3 4 = some [.int .i64 n12, .int .i64 n13, .int .i64 n14, .int .i64 n15] ∧
 AC Tryz.prog 47 [.agg [.int .i64 n8, .int .i64 n9, .int .i64 n10, .int .i64 n11], .agg [.int .i64 n12, .int .i64 n13, .int .i64 n14, .int .i64 n15]] h fun v16 h17 => ∃ n18 : Int, v16 = .int .i64 n18 ∧
 Q (.bool (decide (n18 ≥ 0))) h17
theorem ac46 {n1 : Int} {p2 : PA} {p3 : PA} {h : Heap} {Q : AV → Heap → Prop} (hk : vc46 n1 p2 p3 h Q) : AC Tryz.prog 46 [.int .i64 n1, .ptr (some p2), .ptr (some p3)] h Q :=
 AC_by (H := hintsOf [] []) (by kernel_rfl) (by kernel_rfl) hk
def vc48 (p1 : Option PA) (h : Heap) (Q : AV → Heap → Prop) : Prop :=
 vPtr p1 fun p2 =>
 ∃ p3 : Option PA, cellsAt h ⟨p2.b, p2.o + 0⟩ 1 = some [.ptr p3] ∧
 vPtr p1 fun p4 =>
 ∃ p5 : Option PA, cellsAt h ⟨p4.b, p4.o + 1⟩ 1 = some [.ptr p5] ∧
 vPtr p1 fun p6 =>
 ∃ n7 : Int, cellsAt h ⟨p6.b, p6.o + 2⟩ 1 = some [.int .i64 n7] ∧
 AC Tryz.prog 53 [.ptr p5] h fun v8 h9 => ∃ s10 : List UInt8, v8 = .str s10 ∧
 (∃ n17 : Int, cellsAt h9 ⟨p6.b, p6.o + 2⟩ 1 = some [.int .i64 n17] ∧
 LV.val (.int .i64 n17) = LV.val (.int .i64 n7)) ∧
 (∃ p16 : Option PA, cellsAt h9 ⟨p2.b, p2.o + 0⟩ 1 = some [.ptr p16] ∧
 LV.val (.ptr p16) = LV.val (.ptr p3)) ∧
 AC Tryz.prog 23 [.ptr p3, .str s10, .int .i64 n7] h9 fun v11 h12 => ∃ n13 : Int, v11 = .int .i64 n13 ∧
 vPtr p1 fun p14 =>
 PStore h12 ⟨p14.b, p14.o + 3⟩ [.sl none] fun h15 =>
 Q (.tup []) h15
theorem ac48 {p1 : Option PA} {h : Heap} {Q : AV → Heap → Prop} (hk : vc48 p1 h Q) : AC Tryz.prog 48 [.ptr p1] h Q :=
 AC_by (H := hintsOf [] []) (by kernel_rfl) (by kernel_rfl) hk
end Go.Proofs
