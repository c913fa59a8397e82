/- Conditions, printed. -/
import Derived.Test.YtnglhicedhcpbaaGreatDoorGG9
import Derived.Test.YtnglhicedhcpbaaGreatDoorProg
import Derived.KernelRfl
namespace Go.Proofs
open Go.Ab
set_option maxRecDepth 100000
set_option linter.unusedVariables false

/-- oxbowlaw08.SegmentWrites: what it asks. -/
def vc8 (n1 : Int) (n2 : Int) (q3 : Option SL) (h : Heap) (Q : AV → Heap → Prop) : Prop :=
 vif (decide ((slLen q3 : Int) > 600))
 (vif (decide ((slLen q3 : Int) ≤ 16384))
 (AC Tryz.prog 19 [] h fun v4 h5 => ∃ b6 : Bool, v4 = .bool b6 ∧
 Q (.bool b6) h5)
 (vif (decide ((slLen q3 : Int) > 32768))
 (AC Tryz.prog 19 [] h fun v7 h8 => ∃ b9 : Bool, v7 = .bool b9 ∧
 Q (.bool b9) h8)
 (vif (decide (n1 < 0))
 (AC Tryz.prog 19 [] h fun v10 h11 => ∃ b12 : Bool, v10 = .bool b12 ∧
 Q (.bool b12) h11)
 (vif (decide (n1 > 16384))
 (AC Tryz.prog 19 [] h fun v13 h14 => ∃ b15 : Bool, v13 = .bool b15 ∧
 Q (.bool b15) h14)
 (AC Tryz.prog 26 [.int .i64 n1] h fun v16 h17 => ∃ p18 : Option PA, ∃ n19 : Int, v16 = .tup [.ptr p18, .int .i64 n19] ∧
 AC Tryz.prog 50 [.int .i64 n1] h17 fun v20 h21 => ∃ p22 : Option PA, v20 = .ptr p22 ∧
 AC Tryz.prog 19 [] h21 fun v23 h24 => ∃ b25 : Bool, v23 = .bool b25 ∧
 vif (!b25)
 (Q (.bool false) h24)
 (vif (n19 != 0)
 (Q (.bool false) h24)
 (vif (p18.isNone)
 (Q (.bool false) h24)
 (vif (p22.isNone)
 (Q (.bool false) h24)
 (AC Tryz.prog 25 [.ptr p18, .str [115], .int .i64 n2, .sl q3] h24 fun v26 h27 => ∃ n28 : Int, v26 = .int .i64 n28 ∧
 AC Tryz.prog 51 [.ptr p22, .str [115], .int .i64 n2, .sl q3] h27 fun v29 h30 => ∃ n31 : Int, v29 = .int .i64 n31 ∧
 vif (n28 != n31)
 ((LV.val (.tup []) = LV.val (.tup [])) ∧
 (LV.val (.tup []) = LV.val (.tup [])) ∧
 Q (.bool false) h30)
 (AC Tryz.prog 52 [.ptr p18] h30 fun v32 h33 => ∃ n34 : Int, v32 = .int .i64 n34 ∧
 AC Tryz.prog 53 [.ptr p22] h33 fun v35 h36 => ∃ n37 : Int, v35 = .int .i64 n37 ∧
 vif (n34 != n37)
 ((LV.val (.tup []) = LV.val (.tup [])) ∧
 (LV.val (.tup []) = LV.val (.tup [])) ∧
 Q (.bool false) h36)
 (vPtr p22 fun p38 =>
 ∃ q39 : Option SL, cellsAt h36 ⟨p38.b, p38.o + 1⟩ 1 = some [.sl q39] ∧
 AC Tryz.prog 54 [.ptr p18] h36 fun v40 h41 => ∃ q42 : Option SL, v40 = .sl q42 ∧
 (∃ q68 : Option SL, cellsAt h41 ⟨p38.b, p38.o + 1⟩ 1 = some [.sl q68] ∧
 LV.val (.sl q68) = LV.val (.sl q39)) ∧
 vif ((slLen q42 : Int) != (slLen q39 : Int))
 ((LV.val (.tup []) = LV.val (.tup [])) ∧
 Q (.bool false) h41)
 (vPtr p22 fun p43 =>
 ∃ q44 : Option SL, cellsAt h41 ⟨p43.b, p43.o + 0⟩ 1 = some [.sl q44] ∧
 AC Tryz.prog 42 [.ptr p18] h41 fun v45 h46 => ∃ q47 : Option SL, v45 = .sl q47 ∧
 (∃ q67 : Option SL, cellsAt h46 ⟨p43.b, p43.o + 0⟩ 1 = some [.sl q67] ∧
 LV.val (.sl q67) = LV.val (.sl q44)) ∧
 vif ((slLen q47 : Int) != (slLen q44 : Int))
 (Q (.bool false) h46)
 (AC Tryz.prog 55 [.ptr p22, .str [115]] h46 fun v48 h49 => ∃ p50 : Option PA, v48 = .ptr p50 ∧
 ∃ (I52 : List AV → Heap → Prop) (m53 : List AV → Heap → Nat), I52 [.int .i64 0] h49 ∧
 ∀ n51 : Int, ∀ h54 : Heap, I52 [.int .i64 n51] h54 →
 vif (!(p50.isNone))
 (vPtr p50 fun p55 =>
 ∃ q56 : Option SL, cellsAt h54 ⟨p55.b, p55.o + 1⟩ 1 = some [.sl q56] ∧
 vif (decide (n51 < (slLen q56 : Int)))
 (AC Tryz.prog 56 [.ptr p18, .str [115], .int .i64 n51] h54 fun v57 h58 => ∃ q59 : Option SL, ∃ n60 : Int, v57 = .tup [.sl q59, .int .i64 n60] ∧
 vif (n60 != 0)
 (Q (.bool false) h58)
 (PStr h58 q59 fun s61 =>
 vPtr p50 fun p62 =>
 ∃ q63 : Option SL, cellsAt h58 ⟨p62.b, p62.o + 1⟩ 1 = some [.sl q63] ∧
 vIdx q63 n51 1 fun p64 =>
 ∃ q65 : Option SL, cellsAt h58 p64 1 = some [.sl q65] ∧
 PStr h58 q65 fun s66 =>
 vif (!(s61 == s66))
 (Q (.bool false) h58)
 ((True) ∧ I52 [.int .i64 (wrapK .i64 (n51 + 1))] h58 ∧ m53 [.int .i64 (wrapK .i64 (n51 + 1))] h58 < m53 [.int .i64 n51] h54)))
 (Q (.bool true) h54))
 (Q (.bool true) h54))))))))))))))
 (vif (decide ((slLen q3 : Int) > 32768))
 (AC Tryz.prog 19 [] h fun v69 h70 => ∃ b71 : Bool, v69 = .bool b71 ∧
 Q (.bool b71) h70)
 (vif (decide (n1 < 0))
 (AC Tryz.prog 19 [] h fun v72 h73 => ∃ b74 : Bool, v72 = .bool b74 ∧
 Q (.bool b74) h73)
 (vif (decide (n1 > 16384))
 (AC Tryz.prog 19 [] h fun v75 h76 => ∃ b77 : Bool, v75 = .bool b77 ∧
 Q (.bool b77) h76)
 (AC Tryz.prog 26 [.int .i64 n1] h fun v78 h79 => ∃ p80 : Option PA, ∃ n81 : Int, v78 = .tup [.ptr p80, .int .i64 n81] ∧
 AC Tryz.prog 50 [.int .i64 n1] h79 fun v82 h83 => ∃ p84 : Option PA, v82 = .ptr p84 ∧
 AC Tryz.prog 19 [] h83 fun v85 h86 => ∃ b87 : Bool, v85 = .bool b87 ∧
 vif (!b87)
 (Q (.bool false) h86)
 (vif (n81 != 0)
 (Q (.bool false) h86)
 (vif (p80.isNone)
 (Q (.bool false) h86)
 (vif (p84.isNone)
 (Q (.bool false) h86)
 (AC Tryz.prog 25 [.ptr p80, .str [115], .int .i64 n2, .sl q3] h86 fun v88 h89 => ∃ n90 : Int, v88 = .int .i64 n90 ∧
 AC Tryz.prog 51 [.ptr p84, .str [115], .int .i64 n2, .sl q3] h89 fun v91 h92 => ∃ n93 : Int, v91 = .int .i64 n93 ∧
 vif (n90 != n93)
 ((LV.val (.tup []) = LV.val (.tup [])) ∧
 (LV.val (.tup []) = LV.val (.tup [])) ∧
 Q (.bool false) h92)
 (AC Tryz.prog 52 [.ptr p80] h92 fun v94 h95 => ∃ n96 : Int, v94 = .int .i64 n96 ∧
 AC Tryz.prog 53 [.ptr p84] h95 fun v97 h98 => ∃ n99 : Int, v97 = .int .i64 n99 ∧
 vif (n96 != n99)
 ((LV.val (.tup []) = LV.val (.tup [])) ∧
 (LV.val (.tup []) = LV.val (.tup [])) ∧
 Q (.bool false) h98)
 (vPtr p84 fun p100 =>
 ∃ q101 : Option SL, cellsAt h98 ⟨p100.b, p100.o + 1⟩ 1 = some [.sl q101] ∧
 AC Tryz.prog 54 [.ptr p80] h98 fun v102 h103 => ∃ q104 : Option SL, v102 = .sl q104 ∧
 (∃ q130 : Option SL, cellsAt h103 ⟨p100.b, p100.o + 1⟩ 1 = some [.sl q130] ∧
 LV.val (.sl q130) = LV.val (.sl q101)) ∧
 vif ((slLen q104 : Int) != (slLen q101 : Int))
 ((LV.val (.tup []) = LV.val (.tup [])) ∧
 Q (.bool false) h103)
 (vPtr p84 fun p105 =>
 ∃ q106 : Option SL, cellsAt h103 ⟨p105.b, p105.o + 0⟩ 1 = some [.sl q106] ∧
 AC Tryz.prog 42 [.ptr p80] h103 fun v107 h108 => ∃ q109 : Option SL, v107 = .sl q109 ∧
 (∃ q129 : Option SL, cellsAt h108 ⟨p105.b, p105.o + 0⟩ 1 = some [.sl q129] ∧
 LV.val (.sl q129) = LV.val (.sl q106)) ∧
 vif ((slLen q109 : Int) != (slLen q106 : Int))
 (Q (.bool false) h108)
 (AC Tryz.prog 55 [.ptr p84, .str [115]] h108 fun v110 h111 => ∃ p112 : Option PA, v110 = .ptr p112 ∧
 ∃ (I114 : List AV → Heap → Prop) (m115 : List AV → Heap → Nat), I114 [.int .i64 0] h111 ∧
 ∀ n113 : Int, ∀ h116 : Heap, I114 [.int .i64 n113] h116 →
 vif (!(p112.isNone))
 (vPtr p112 fun p117 =>
 ∃ q118 : Option SL, cellsAt h116 ⟨p117.b, p117.o + 1⟩ 1 = some [.sl q118] ∧
 vif (decide (n113 < (slLen q118 : Int)))
 (AC Tryz.prog 56 [.ptr p80, .str [115], .int .i64 n113] h116 fun v119 h120 => ∃ q121 : Option SL, ∃ n122 : Int, v119 = .tup [.sl q121, .int .i64 n122] ∧
 vif (n122 != 0)
 (Q (.bool false) h120)
 (PStr h120 q121 fun s123 =>
 vPtr p112 fun p124 =>
 ∃ q125 : Option SL, cellsAt h120 ⟨p124.b, p124.o + 1⟩ 1 = some [.sl q125] ∧
 vIdx q125 n113 1 fun p126 =>
 ∃ q127 : Option SL, cellsAt h120 p126 1 = some [.sl q127] ∧
 PStr h120 q127 fun s128 =>
 vif (!(s123 == s128))
 (Q (.bool false) h120)
 ((True) ∧ I114 [.int .i64 (wrapK .i64 (n113 + 1))] h120 ∧ m115 [.int .i64 (wrapK .i64 (n113 + 1))] h120 < m115 [.int .i64 n113] h116)))
 (Q (.bool true) h116))
 (Q (.bool true) h116)))))))))))))
theorem ac8 {n1 : Int} {n2 : Int} {q3 : Option SL} {h : Heap} {Q : AV → Heap → Prop} (hk : vc8 n1 n2 q3 h Q) : AC Tryz.prog 8 [.int .i64 n1, .int .i64 n2, .sl q3] h Q :=
 AC_by (H := hintsOf [] [(0, [11], [])]) (by kernel_rfl) (by kernel_rfl) hk

/-- segment.Write: what it asks. -/
def vc25 (p1 : Option PA) (s2 : List UInt8) (n3 : Int) (q4 : Option SL) (h : Heap) (Q : AV → Heap → Prop) : Prop :=
 AC Tryz.prog 86 [.int .i64 n3] h fun v5 h6 => ∃ b7 : Bool, v5 = .bool b7 ∧
 vif (!b7)
 (Q (.int .i64 1) h6)
 (AC Tryz.prog 93 [.int .i64 n3, .sl q4] h6 fun v8 h9 => ∃ q10 : Option SL, ∃ n11 : Int, v8 = .tup [.sl q10, .int .i64 n11] ∧
 vif (n11 != 0)
 (Q (.int .i64 n11) h9)
 (AC Tryz.prog 85 [.sl q4] h9 fun v12 h13 => ∃ b14 : Bool, v12 = .bool b14 ∧
 vif (!b14)
 (Q (.int .i64 1) h13)
 (AC Tryz.prog 95 [.ptr p1, .str s2] h13 fun v15 h16 => ∃ n17 : Int, v15 = .int .i64 n17 ∧
 vif (n17 != 0)
 (Q (.int .i64 n17) h16)
 (∃ (I19 : List AV → Heap → Prop) (m20 : List AV → Heap → Nat), I19 [.int .i64 0] h16 ∧
 ∀ n18 : Int, ∀ h21 : Heap, I19 [.int .i64 n18] h21 →
 vif (decide (n18 < (slLen q10 : Int)))
 (vIdx q10 n18 1 fun p22 =>
 ∃ q23 : Option SL, cellsAt h21 p22 1 = some [.sl q23] ∧
 AC Tryz.prog 96 [.ptr p1, .str s2, .sl q23] h21 fun v24 h25 => ∃ n26 : Int, v24 = .int .i64 n26 ∧
 vif (n26 != 0)
 (Q (.int .i64 n26) h25)
 ((True) ∧ I19 [.int .i64 (wrapK .i64 (n18 + 1))] h25 ∧ m20 [.int .i64 (wrapK .i64 (n18 + 1))] h25 < m20 [.int .i64 n18] h21))
 (AC Tryz.prog 97 [.ptr p1, .str s2] h21 fun v27 h28 => ∃ n29 : Int, v27 = .int .i64 n29 ∧
 Q (.int .i64 n29) h28)))))
theorem ac25 {p1 : Option PA} {s2 : List UInt8} {n3 : Int} {q4 : Option SL} {h : Heap} {Q : AV → Heap → Prop} (hk : vc25 p1 s2 n3 q4 h Q) : AC Tryz.prog 25 [.ptr p1, .str s2, .int .i64 n3, .sl q4] h Q :=
 AC_by (H := hintsOf [] [(0, [38], [])]) (by kernel_rfl) (by kernel_rfl) hk

/-- files.New: what it asks. -/
def vc26 (n1 : Int) (h : Heap) (Q : AV → Heap → Prop) : Prop :=
 vif (decide (n1 < 0))
 (Q (.tup [.ptr none, .int .i64 1]) h)
 (vif (decide (n1 > 16384))
 (Q (.tup [.ptr none, .int .i64 1]) h)
 (PNew [.map (some (List.length h)), .sl none, .int .i64 n1, .int .i64 (-1), .bool false] true (h ++ [.mp [] 0]) fun a2 h3 =>
 Q (.tup [.ptr (some ⟨a2, 0⟩), .int .i64 0]) h3))
theorem ac26 {n1 : Int} {h : Heap} {Q : AV → Heap → Prop} (hk : vc26 n1 h Q) : AC Tryz.prog 26 [.int .i64 n1] h Q :=
 AC_by (H := hintsOf [] []) (by kernel_rfl) (by kernel_rfl) hk

/-- oxbowref05.New: what it asks. -/
def vc50 (n1 : Int) (h : Heap) (Q : AV → Heap → Prop) : Prop :=
 vif (decide (n1 < 0))
 (Q (.ptr none) h)
 (vif (decide (n1 > 16384))
 (Q (.ptr none) h)
 (PNew [.sl none, .sl none, .int .i64 n1, .int .i64 (-1), .bool false] true h fun a2 h3 =>
 Q (.ptr (some ⟨a2, 0⟩)) h3))
theorem ac50 {n1 : Int} {h : Heap} {Q : AV → Heap → Prop} (hk : vc50 n1 h Q) : AC Tryz.prog 50 [.int .i64 n1] h Q :=
 AC_by (H := hintsOf [] []) (by kernel_rfl) (by kernel_rfl) hk

/-- oxbowref08.Write: what it asks. -/
def vc51 (p1 : Option PA) (s2 : List UInt8) (n3 : Int) (q4 : Option SL) (h : Heap) (Q : AV → Heap → Prop) : Prop :=
 AC Tryz.prog 127 [.int .i64 n3, .sl q4] h fun v5 h6 => ∃ n7 : Int, v5 = .int .i64 n7 ∧
 vif (n7 != 0)
 (Q (.int .i64 n7) h6)
 (AC Tryz.prog 121 [.ptr p1, .str s2] h6 fun v8 h9 => ∃ n10 : Int, v8 = .int .i64 n10 ∧
 vif (n10 != 0)
 (Q (.int .i64 n10) h9)
 (AC Tryz.prog 61 [.int .i64 n3, .sl q4] h9 fun v11 h12 => ∃ q13 : Option SL, v11 = .sl q13 ∧
 ∃ (I15 : List AV → Heap → Prop) (m16 : List AV → Heap → Nat), I15 [.int .i64 0] h12 ∧
 ∀ n14 : Int, ∀ h17 : Heap, I15 [.int .i64 n14] h17 →
 vif (decide (n14 < (slLen q13 : Int)))
 (vIdx q13 n14 1 fun p18 =>
 ∃ q19 : Option SL, cellsAt h17 p18 1 = some [.sl q19] ∧
 AC Tryz.prog 128 [.ptr p1, .str s2, .int .i64 0, .sl q19, .bool true] h17 fun v20 h21 => ∃ n22 : Int, v20 = .int .i64 n22 ∧
 vif (n22 != 0)
 (Q (.int .i64 n22) h21)
 ((True) ∧ I15 [.int .i64 (wrapK .i64 (n14 + 1))] h21 ∧ m16 [.int .i64 (wrapK .i64 (n14 + 1))] h21 < m16 [.int .i64 n14] h17))
 (AC Tryz.prog 129 [.ptr p1, .str s2] h17 fun v23 h24 => ∃ n25 : Int, v23 = .int .i64 n25 ∧
 Q (.int .i64 n25) h24)))
theorem ac51 {p1 : Option PA} {s2 : List UInt8} {n3 : Int} {q4 : Option SL} {h : Heap} {Q : AV → Heap → Prop} (hk : vc51 p1 s2 n3 q4 h Q) : AC Tryz.prog 51 [.ptr p1, .str s2, .int .i64 n3, .sl q4] h Q :=
 AC_by (H := hintsOf [] [(0, [12], [])]) (by kernel_rfl) (by kernel_rfl) hk

/-- files.Disk).Used: what it asks. -/
def vc52 (p1 : Option PA) (h : Heap) (Q : AV → Heap → Prop) : Prop :=
 AC Tryz.prog 42 [.ptr p1] h fun v2 h3 => ∃ q4 : Option SL, v2 = .sl q4 ∧
 ∃ (I7 : List AV → Heap → Prop) (m8 : List AV → Heap → Nat), I7 [.int .i64 0, .int .i64 0] h3 ∧
 ∀ n5 : Int, ∀ n6 : Int, ∀ h9 : Heap, I7 [.int .i64 n5, .int .i64 n6] h9 →
 vif (decide (n6 < (slLen q4 : Int)))
 (vIdx q4 n6 2 fun p10 =>
 ∃ s11 : List UInt8, ∃ n12 : Int, cellsAt h9 p10 2 = some [.str s11, .int .i64 n12] ∧
 (True) ∧ I7 [.int .i64 (wrapK .i64 (n5 + n12)), .int .i64 (wrapK .i64 (n6 + 1))] h9 ∧ m8 [.int .i64 (wrapK .i64 (n5 + n12)), .int .i64 (wrapK .i64 (n6 + 1))] h9 < m8 [.int .i64 n5, .int .i64 n6] h9)
 (Q (.int .i64 n5) h9)
theorem ac52 {p1 : Option PA} {h : Heap} {Q : AV → Heap → Prop} (hk : vc52 p1 h Q) : AC Tryz.prog 52 [.ptr p1] h Q :=
 AC_by (H := hintsOf [5] [(0, [3, 9], [])]) (by kernel_rfl) (by kernel_rfl) hk

/-- oxbowref05.Disk).Used: what it asks. -/
def vc53 (p1 : Option PA) (h : Heap) (Q : AV → Heap → Prop) : Prop :=
 ∃ (I4 : List AV → Heap → Prop) (m5 : List AV → Heap → Nat), I4 [.int .i64 0, .int .i64 0] h ∧
 ∀ n2 : Int, ∀ n3 : Int, ∀ h6 : Heap, I4 [.int .i64 n2, .int .i64 n3] h6 →
 vPtr p1 fun p7 =>
 ∃ q8 : Option SL, cellsAt h6 ⟨p7.b, p7.o + 0⟩ 1 = some [.sl q8] ∧
 vif (decide (n3 < (slLen q8 : Int)))
 (vPtr p1 fun p9 =>
 ∃ q10 : Option SL, cellsAt h6 ⟨p9.b, p9.o + 0⟩ 1 = some [.sl q10] ∧
 vIdx q10 n3 1 fun p11 =>
 ∃ p12 : Option PA, cellsAt h6 p11 1 = some [.ptr p12] ∧
 vPtr p12 fun p13 =>
 ∃ q14 : Option SL, cellsAt h6 ⟨p13.b, p13.o + 1⟩ 1 = some [.sl q14] ∧
 (True) ∧ I4 [.int .i64 (wrapK .i64 (n2 + (slLen q14 : Int))), .int .i64 (wrapK .i64 (n3 + 1))] h6 ∧ m5 [.int .i64 (wrapK .i64 (n2 + (slLen q14 : Int))), .int .i64 (wrapK .i64 (n3 + 1))] h6 < m5 [.int .i64 n2, .int .i64 n3] h6)
 (Q (.int .i64 n2) h6)
theorem ac53 {p1 : Option PA} {h : Heap} {Q : AV → Heap → Prop} (hk : vc53 p1 h Q) : AC Tryz.prog 53 [.ptr p1] h Q :=
 AC_by (H := hintsOf [] [(0, [3, 4], [])]) (by kernel_rfl) (by kernel_rfl) hk

/-- files.Disk).Pending: what it asks. -/
def vc54 (p1 : Option PA) (h : Heap) (Q : AV → Heap → Prop) : Prop :=
 AC Tryz.prog 104 [.ptr p1] h fun v2 h3 => ∃ b4 : Bool, v2 = .bool b4 ∧
 vif (!b4)
 (Q (.sl none) h3)
 (vPtr p1 fun p5 =>
 ∃ q6 : Option SL, cellsAt h3 ⟨p5.b, p5.o + 1⟩ 1 = some [.sl q6] ∧
 ∃ (I9 : List AV → Heap → Prop) (m10 : List AV → Heap → Nat), I9 [.sl none, .int .i64 0] h3 ∧
 ∀ q7 : Option SL, ∀ n8 : Int, ∀ h11 : Heap, I9 [.sl q7, .int .i64 n8] h11 →
 vif (decide (n8 < (slLen q6 : Int)))
 (vIdx q6 n8 66 fun p12 =>
 ∃ p13 : Option PA, ∃ n14 : Int, exC .u8 64 fun l15 =>
 cellsAt h11 p12 66 = some ([.ptr p13, .int .i64 n14] ++ (l15)) ∧
 vPtr p13 fun p16 =>
 ∃ s17 : List UInt8, cellsAt h11 ⟨p16.b, p16.o + 0⟩ 1 = some [.str s17] ∧
 PNew [.str s17, .int .i64 n14] true h11 fun a18 h19 =>
 PAppendS 2 24 q7 (some ⟨a18, 0, 1, 1, 0⟩) h19 fun q20 h21 =>
 (True) ∧ I9 [.sl q20, .int .i64 (wrapK .i64 (n8 + 1))] h21 ∧ m10 [.sl q20, .int .i64 (wrapK .i64 (n8 + 1))] h21 < m10 [.sl q7, .int .i64 n8] h11)
 (Q (.sl q7) h11))
theorem ac54 {p1 : Option PA} {h : Heap} {Q : AV → Heap → Prop} (hk : vc54 p1 h Q) : AC Tryz.prog 54 [.ptr p1] h Q :=
 AC_by (H := hintsOf [5] [(0, [3, 14], [])]) (by kernel_rfl) (by kernel_rfl) hk

/-- oxbowref05.Disk).Find: what it asks. -/
def vc55 (p1 : Option PA) (s2 : List UInt8) (h : Heap) (Q : AV → Heap → Prop) : Prop :=
 ∃ (I4 : List AV → Heap → Prop) (m5 : List AV → Heap → Nat), I4 [.int .i64 0] h ∧
 ∀ n3 : Int, ∀ h6 : Heap, I4 [.int .i64 n3] h6 →
 vPtr p1 fun p7 =>
 ∃ q8 : Option SL, cellsAt h6 ⟨p7.b, p7.o + 0⟩ 1 = some [.sl q8] ∧
 vif (decide (n3 < (slLen q8 : Int)))
 (vPtr p1 fun p9 =>
 ∃ q10 : Option SL, cellsAt h6 ⟨p9.b, p9.o + 0⟩ 1 = some [.sl q10] ∧
 vIdx q10 n3 1 fun p11 =>
 ∃ p12 : Option PA, cellsAt h6 p11 1 = some [.ptr p12] ∧
 vPtr p12 fun p13 =>
 ∃ s14 : List UInt8, cellsAt h6 ⟨p13.b, p13.o + 0⟩ 1 = some [.str s14] ∧
 vif (s14 == s2)
 (vPtr p1 fun p15 =>
 ∃ q16 : Option SL, cellsAt h6 ⟨p15.b, p15.o + 0⟩ 1 = some [.sl q16] ∧
 vIdx q16 n3 1 fun p17 =>
 ∃ p18 : Option PA, cellsAt h6 p17 1 = some [.ptr p18] ∧
 Q (.ptr p18) h6)
 ((True) ∧ I4 [.int .i64 (wrapK .i64 (n3 + 1))] h6 ∧ m5 [.int .i64 (wrapK .i64 (n3 + 1))] h6 < m5 [.int .i64 n3] h6))
 (Q (.ptr none) h6)
theorem ac55 {p1 : Option PA} {s2 : List UInt8} {h : Heap} {Q : AV → Heap → Prop} (hk : vc55 p1 s2 h Q) : AC Tryz.prog 55 [.ptr p1, .str s2] h Q :=
 AC_by (H := hintsOf [] [(0, [5], [])]) (by kernel_rfl) (by kernel_rfl) hk

/-- files.Disk).Read: what it asks. -/
def vc56 (p1 : Option PA) (s2 : List UInt8) (n3 : Int) (h : Heap) (Q : AV → Heap → Prop) : Prop :=
 AC Tryz.prog 130 [.ptr p1, .str s2] h fun v4 h5 => ∃ p6 : Option PA, ∃ n7 : Int, v4 = .tup [.ptr p6, .int .i64 n7] ∧
 vif (n7 != 0)
 (Q (.tup [.sl none, .int .i64 n7]) h5)
 (vif (decide (n3 < 0))
 (Q (.tup [.sl none, .int .i64 4]) h5)
 (vPtr p6 fun p8 =>
 ∃ q9 : Option SL, cellsAt h5 ⟨p8.b, p8.o + 1⟩ 1 = some [.sl q9] ∧
 vif (decide (n3 ≥ (slLen q9 : Int)))
 (Q (.tup [.sl none, .int .i64 4]) h5)
 (vPtr p6 fun p10 =>
 ∃ q11 : Option SL, cellsAt h5 ⟨p10.b, p10.o + 1⟩ 1 = some [.sl q11] ∧
 vIdx q11 n3 64 fun p12 =>
 PSlice 1 (some ⟨p12.b, p12.o, 64, 64, 0⟩) 0 none none fun q13 =>
 AC Tryz.prog 131 [.sl q13] h5 fun v14 h15 => ∃ q16 : Option SL, v14 = .sl q16 ∧
 Q (.tup [.sl q16, .int .i64 0]) h15)))
theorem ac56 {p1 : Option PA} {s2 : List UInt8} {n3 : Int} {h : Heap} {Q : AV → Heap → Prop} (hk : vc56 p1 s2 n3 h Q) : AC Tryz.prog 56 [.ptr p1, .str s2, .int .i64 n3] h Q :=
 AC_by (H := hintsOf [] []) (by kernel_rfl) (by kernel_rfl) hk

/-- oxbowref08.Base: what it asks. -/
def vc57 (n1 : Int) (h : Heap) (Q : AV → Heap → Prop) : Prop :=
 vif (decide (n1 ≥ 1))
 (Q (.bool (decide (n1 ≤ 2305843009213693952))) h)
 (Q (.bool false) h)
theorem ac57 {n1 : Int} {h : Heap} {Q : AV → Heap → Prop} (hk : vc57 n1 h Q) : AC Tryz.prog 57 [.int .i64 n1] h Q :=
 AC_by (H := hintsOf [] []) (by kernel_rfl) (by kernel_rfl) hk

/-- oxbowref07.May: what it asks. -/
def vc58 (q1 : Option SL) (h : Heap) (Q : AV → Heap → Prop) : Prop :=
 ∃ (I3 : List AV → Heap → Prop) (m4 : List AV → Heap → Nat), I3 [.int .i64 0] h ∧
 ∀ n2 : Int, ∀ h5 : Heap, I3 [.int .i64 n2] h5 →
 vif (decide (n2 < (slLen q1 : Int)))
 (vIdx q1 n2 4 fun p6 =>
 ∃ n7 : Int, ∃ n8 : Int, ∃ n9 : Int, ∃ n10 : Int, cellsAt h5 p6 4 = some [.int .i64 n7, .int .i64 n8, .int .i64 n9, .int .i64 n10] ∧
 AC Tryz.prog 132 [.agg [.int .i64 n7, .int .i64 n8, .int .i64 n9, .int .i64 n10]] h5 fun v11 h12 => ∃ n13 : Int, v11 = .int .i64 n13 ∧
 vif (n13 != 0)
 (Q (.int .i64 n13) h12)
 ((True) ∧ I3 [.int .i64 (wrapK .i64 (n2 + 1))] h12 ∧ m4 [.int .i64 (wrapK .i64 (n2 + 1))] h12 < m4 [.int .i64 n2] h5))
 (vif (decide ((slLen q1 : Int) > 16384))
 (Q (.int .i64 3) h5)
 (Q (.int .i64 0) h5))
theorem ac58 {q1 : Option SL} {h : Heap} {Q : AV → Heap → Prop} (hk : vc58 q1 h Q) : AC Tryz.prog 58 [.sl q1] h Q :=
 AC_by (H := hintsOf [] [(0, [3], [])]) (by kernel_rfl) (by kernel_rfl) hk

/-- oxbowref08.Sectors: what it asks. -/
def vc61 (n1 : Int) (q2 : Option SL) (h : Heap) (Q : AV → Heap → Prop) : Prop :=
 AC Tryz.prog 139 [.sl q2] h fun v3 h4 => ∃ q5 : Option SL, v3 = .sl q5 ∧
 AC Tryz.prog 140 [.sl q5] h4 fun v6 h7 => ∃ q8 : Option SL, v6 = .sl q8 ∧
 AC Tryz.prog 139 [.sl q8] h7 fun v9 h10 => ∃ q11 : Option SL, v9 = .sl q11 ∧
 AC Tryz.prog 141 [.int .i64 (slLen q2 : Int)] h10 fun v12 h13 => ∃ q14 : Option SL, v12 = .sl q14 ∧
 AC Tryz.prog 141 [.int .i64 (slLen q5 : Int)] h13 fun v15 h16 => ∃ q17 : Option SL, v15 = .sl q17 ∧
 PAppendS 1 1 q14 q17 h16 fun q18 h19 =>
 AC Tryz.prog 141 [.int .i64 (slLen q11 : Int)] h19 fun v20 h21 => ∃ q22 : Option SL, v20 = .sl q22 ∧
 PAppendS 1 1 q18 q22 h21 fun q23 h24 =>
 PNew [] true h24 fun a25 h26 =>
 PAppendS 1 24 (some ⟨a25, 0, 0, 0, 0⟩) q5 h26 fun q27 h28 =>
 PAppendS 1 24 q27 q11 h28 fun q29 h30 =>
 PNew [.sl q23] true h30 fun a31 h32 =>
 PAppendS 1 24 q29 (some ⟨a31, 0, 1, 1, 0⟩) h32 fun q33 h34 =>
 ∃ (I37 : List AV → Heap → Prop) (m38 : List AV → Heap → Nat), I37 [.sl none, .int .i64 0] h34 ∧
 ∀ q35 : Option SL, ∀ n36 : Int, ∀ h39 : Heap, I37 [.sl q35, .int .i64 n36] h39 →
 vif (decide (n36 < (slLen q33 : Int)))
 (vIdx q33 n36 1 fun p40 =>
 ∃ q41 : Option SL, cellsAt h39 p40 1 = some [.sl q41] ∧
 AC Tryz.prog 142 [.int .i64 (wrapK .i64 (n1 + n36)), .sl q41] h39 fun v42 h43 => ∃ q44 : Option SL, v42 = .sl q44 ∧
 PNew [.sl q44] true h43 fun a45 h46 =>
 PAppendS 1 24 q35 (some ⟨a45, 0, 1, 1, 0⟩) h46 fun q47 h48 =>
 (True) ∧ I37 [.sl q47, .int .i64 (wrapK .i64 (n36 + 1))] h48 ∧ m38 [.sl q47, .int .i64 (wrapK .i64 (n36 + 1))] h48 < m38 [.sl q35, .int .i64 n36] h39)
 (Q (.sl q35) h39)
theorem ac61 {n1 : Int} {q2 : Option SL} {h : Heap} {Q : AV → Heap → Prop} (hk : vc61 n1 q2 h Q) : AC Tryz.prog 61 [.int .i64 n1, .sl q2] h Q :=
 AC_by (H := hintsOf [] [(0, [9, 10], [])]) (by kernel_rfl) (by kernel_rfl) hk

/-- entry.Sorted: what it asks. -/
def vc85 (q1 : Option SL) (h : Heap) (Q : AV → Heap → Prop) : Prop :=
 AC Tryz.prog 157 [.sl q1, .func (.func 92) [] []] h fun v2 h3 => ∃ b4 : Bool, v2 = .bool b4 ∧
 Q (.bool b4) h3
theorem ac85 {q1 : Option SL} {h : Heap} {Q : AV → Heap → Prop} (hk : vc85 q1 h Q) : AC Tryz.prog 85 [.sl q1] h Q :=
 AC_by (H := hintsOf [] []) (by kernel_rfl) (by kernel_rfl) hk

/-- segment.may: what it asks. -/
def vc86 (n1 : Int) (h : Heap) (Q : AV → Heap → Prop) : Prop :=
 vif (decide (n1 ≥ 1))
 (Q (.bool (decide (n1 ≤ 2305843009213693952))) h)
 (Q (.bool false) h)
theorem ac86 {n1 : Int} {h : Heap} {Q : AV → Heap → Prop} (hk : vc86 n1 h Q) : AC Tryz.prog 86 [.int .i64 n1] h Q :=
 AC_by (H := hintsOf [] []) (by kernel_rfl) (by kernel_rfl) hk

/-- entry.Compare: what it asks. -/
def vc92 (n1 : Int) (n2 : Int) (n3 : Int) (n4 : Int) (n5 : Int) (n6 : Int) (n7 : Int) (n8 : Int) (h : Heap) (Q : AV → Heap → Prop) : Prop :=
 AC Tryz.prog 163 [.agg [.int .i64 n1, .int .i64 n2], .agg [.int .i64 n5, .int .i64 n6]] h fun v9 h10 => ∃ n11 : Int, v9 = .int .i64 n11 ∧
 (LV.val (.agg [.int .i64 n7, .int .i64 n8]) = LV.val (.agg [.int .i64 n7, .int .i64 n8])) ∧
 (LV.val (.agg [.int .i64 n3, .int .i64 n4]) = LV.val (.agg [.int .i64 n3, .int .i64 n4])) ∧
 AC Tryz.prog 164 [.agg [.int .i64 n3, .int .i64 n4], .agg [.int .i64 n7, .int .i64 n8]] h10 fun v12 h13 => ∃ n14 : Int, v12 = .int .i64 n14 ∧
 PNew [.int .i64 n11, .int .i64 n14] true h13 fun a15 h16 =>
 AC Tryz.prog 162 [.sl (some ⟨a15, 0, 2, 2, 0⟩)] h16 fun v17 h18 => ∃ n19 : Int, v17 = .int .i64 n19 ∧
 Q (.int .i64 n19) h18
theorem ac92 {n1 : Int} {n2 : Int} {n3 : Int} {n4 : Int} {n5 : Int} {n6 : Int} {n7 : Int} {n8 : Int} {h : Heap} {Q : AV → Heap → Prop} (hk : vc92 n1 n2 n3 n4 n5 n6 n7 n8 h Q) : AC Tryz.prog 92 [.agg [.int .i64 n1, .int .i64 n2, .int .i64 n3, .int .i64 n4], .agg [.int .i64 n5, .int .i64 n6, .int .i64 n7, .int .i64 n8]] h Q :=
 AC_by (H := hintsOf [2, 3] []) (by kernel_rfl) (by kernel_rfl) hk

/-- segment.pages: what it asks. -/
def vc93 (n1 : Int) (q2 : Option SL) (h : Heap) (Q : AV → Heap → Prop) : Prop :=
 AC Tryz.prog 165 [.sl q2] h fun v3 h4 => ∃ q5 : Option SL, ∃ n6 : Int, v3 = .tup [.sl q5, .int .i64 n6] ∧
 vif (n6 != 0)
 (Q (.tup [.sl none, .int .i64 n6]) h4)
 (AC Tryz.prog 166 [.sl q5] h4 fun v7 h8 => ∃ q9 : Option SL, v7 = .sl q9 ∧
 AC Tryz.prog 165 [.sl q9] h8 fun v10 h11 => ∃ q12 : Option SL, ∃ n13 : Int, v10 = .tup [.sl q12, .int .i64 n13] ∧
 PNew [.int .i64 (slLen q2 : Int), .int .i64 (slLen q5 : Int), .int .i64 (slLen q12 : Int)] true h11 fun a14 h15 =>
 AC Tryz.prog 168 [.sl (some ⟨a14, 0, 3, 3, 0⟩)] h15 fun v16 h17 => ∃ q18 : Option SL, v16 = .sl q18 ∧
 PNew [.sl q18] true h17 fun a19 h20 =>
 PNew [.sl q5, .sl q12, .sl (some ⟨a19, 0, 1, 1, 0⟩)] true h20 fun a21 h22 =>
 AC Tryz.prog 167 [.sl (some ⟨a21, 0, 3, 3, 0⟩)] h22 fun v23 h24 => ∃ q25 : Option SL, v23 = .sl q25 ∧
 ∃ (I27 : List AV → Heap → Prop) (m28 : List AV → Heap → Nat), I27 [.int .i64 0] h24 ∧
 ∀ n26 : Int, ∀ h29 : Heap, I27 [.int .i64 n26] h29 →
 vif (decide (n26 < (slLen q25 : Int)))
 (vIdx q25 n26 1 fun p30 =>
 ∃ q31 : Option SL, cellsAt h29 p30 1 = some [.sl q31] ∧
 AC Tryz.prog 169 [.int .i64 (wrapK .i64 (n1 + n26)), .sl q31] h29 fun v32 h33 => ∃ q34 : Option SL, ∃ n35 : Int, v32 = .tup [.sl q34, .int .i64 n35] ∧
 vIdx q25 n26 1 fun p36 =>
 PStore h33 p36 [.sl q34] fun h37 =>
 (True) ∧ I27 [.int .i64 (wrapK .i64 (n26 + 1))] h37 ∧ m28 [.int .i64 (wrapK .i64 (n26 + 1))] h37 < m28 [.int .i64 n26] h29)
 (Q (.tup [.sl q25, .int .i64 0]) h29))
theorem ac93 {n1 : Int} {q2 : Option SL} {h : Heap} {Q : AV → Heap → Prop} (hk : vc93 n1 q2 h Q) : AC Tryz.prog 93 [.int .i64 n1, .sl q2] h Q :=
 AC_by (H := hintsOf [] [(0, [42], [])]) (by kernel_rfl) (by kernel_rfl) hk

/-- files.Disk).Create: what it asks. -/
def vc95 (p1 : Option PA) (s2 : List UInt8) (h : Heap) (Q : AV → Heap → Prop) : Prop :=
 AC Tryz.prog 104 [.ptr p1] h fun v3 h4 => ∃ b5 : Bool, v3 = .bool b5 ∧
 vif b5
 (AC Tryz.prog 170 [.str s2] h4 fun v6 h7 => ∃ b8 : Bool, v6 = .bool b8 ∧
 vif (!b8)
 (Q (.int .i64 1) h7)
 (AC Tryz.prog 171 [.ptr p1] h7 fun v9 h10 => ∃ n11 : Int, v9 = .int .i64 n11 ∧
 vif (n11 != 0)
 (Q (.int .i64 n11) h10)
 (vPtr p1 fun p12 =>
 ∃ m13 : Option Nat, cellsAt h10 ⟨p12.b, p12.o + 0⟩ 1 = some [.map m13] ∧
 PLookup Tryz.prog 9 183 m13 (.str s2) false h10 fun v14 =>
 ∃ p15 : Option PA, v14 = .ptr p15 ∧
 vif (!(p15.isNone))
 (Q (.int .i64 5) h10)
 (vPtr p1 fun p16 =>
 ∃ m17 : Option Nat, cellsAt h10 ⟨p16.b, p16.o + 0⟩ 1 = some [.map m17] ∧
 vLenM h10 m17 fun e18 =>
 vif (decide (((e18 : Nat) : Int) ≥ 256))
 (Q (.int .i64 2) h10)
 (AC Tryz.prog 172 [.ptr p1] h10 fun v19 h20 => ∃ n21 : Int, v19 = .int .i64 n21 ∧
 vif (n21 == 0)
 (vPtr p1 fun p22 =>
 ∃ m23 : Option Nat, cellsAt h20 ⟨p22.b, p22.o + 0⟩ 1 = some [.map m23] ∧
 PNew [.str s2, .sl none, .sl none] true h20 fun a24 h25 =>
 vMap m23 fun a27 => PUpdate Tryz.prog 9 a27 (.str s2) (.ptr (some ⟨a24, 0⟩)) h25 fun h26 =>
 Q (.int .i64 n21) h26)
 (Q (.int .i64 n21) h20))))))
 (AC Tryz.prog 171 [.ptr p1] h4 fun v28 h29 => ∃ n30 : Int, v28 = .int .i64 n30 ∧
 vif (n30 != 0)
 (Q (.int .i64 n30) h29)
 (vPtr p1 fun p31 =>
 ∃ m32 : Option Nat, cellsAt h29 ⟨p31.b, p31.o + 0⟩ 1 = some [.map m32] ∧
 PLookup Tryz.prog 9 183 m32 (.str s2) false h29 fun v33 =>
 ∃ p34 : Option PA, v33 = .ptr p34 ∧
 vif (!(p34.isNone))
 (Q (.int .i64 5) h29)
 (vPtr p1 fun p35 =>
 ∃ m36 : Option Nat, cellsAt h29 ⟨p35.b, p35.o + 0⟩ 1 = some [.map m36] ∧
 vLenM h29 m36 fun e37 =>
 vif (decide (((e37 : Nat) : Int) ≥ 256))
 (Q (.int .i64 2) h29)
 (AC Tryz.prog 172 [.ptr p1] h29 fun v38 h39 => ∃ n40 : Int, v38 = .int .i64 n40 ∧
 vif (n40 == 0)
 (vPtr p1 fun p41 =>
 ∃ m42 : Option Nat, cellsAt h39 ⟨p41.b, p41.o + 0⟩ 1 = some [.map m42] ∧
 PNew [.str s2, .sl none, .sl none] true h39 fun a43 h44 =>
 vMap m42 fun a46 => PUpdate Tryz.prog 9 a46 (.str s2) (.ptr (some ⟨a43, 0⟩)) h44 fun h45 =>
 Q (.int .i64 n40) h45)
 (Q (.int .i64 n40) h39)))))
theorem ac95 {p1 : Option PA} {s2 : List UInt8} {h : Heap} {Q : AV → Heap → Prop} (hk : vc95 p1 s2 h Q) : AC Tryz.prog 95 [.ptr p1, .str s2] h Q :=
 AC_by (H := hintsOf [] []) (by kernel_rfl) (by kernel_rfl) hk

/-- files.Disk).Append: what it asks. -/
def vc96 (p1 : Option PA) (s2 : List UInt8) (q3 : Option SL) (h : Heap) (Q : AV → Heap → Prop) : Prop :=
 AC Tryz.prog 104 [.ptr p1] h fun v4 h5 => ∃ b6 : Bool, v4 = .bool b6 ∧
 vif b6
 (vif ((slLen q3 : Int) != 64)
 (Q (.int .i64 1) h5)
 (AC Tryz.prog 130 [.ptr p1, .str s2] h5 fun v7 h8 => ∃ p9 : Option PA, ∃ n10 : Int, v7 = .tup [.ptr p9, .int .i64 n10] ∧
 vif (n10 != 0)
 (Q (.int .i64 n10) h8)
 (vPtr p1 fun p11 =>
 ∃ n12 : Int, cellsAt h8 ⟨p11.b, p11.o + 2⟩ 1 = some [.int .i64 n12] ∧
 AC Tryz.prog 52 [.ptr p1] h8 fun v13 h14 => ∃ n15 : Int, v13 = .int .i64 n15 ∧
 (∃ n33 : Int, cellsAt h14 ⟨p11.b, p11.o + 2⟩ 1 = some [.int .i64 n33] ∧
 LV.val (.int .i64 n33) = LV.val (.int .i64 n12)) ∧
 vif (decide (n15 ≥ n12))
 (Q (.int .i64 2) h14)
 (AC Tryz.prog 172 [.ptr p1] h14 fun v16 h17 => ∃ n18 : Int, v16 = .int .i64 n18 ∧
 vif (n18 != 0)
 (Q (.int .i64 n18) h17)
 (vPtr p9 fun p19 =>
 ∃ q20 : Option SL, cellsAt h17 ⟨p19.b, p19.o + 1⟩ 1 = some [.sl q20] ∧
 PNew (List.replicate 64 (AV.int .u8 0)) true h17 fun a21 h22 =>
 PAppendS 64 64 q20 (some ⟨a21, 0, 1, 1, 0⟩) h22 fun q23 h24 =>
 vPtr p9 fun p25 =>
 PStore h24 ⟨p25.b, p25.o + 1⟩ [.sl q23] fun h26 =>
 vPtr p9 fun p27 =>
 ∃ q28 : Option SL, cellsAt h26 ⟨p27.b, p27.o + 1⟩ 1 = some [.sl q28] ∧
 vSl q3 fun s29 => need (decide (0 < 64) && decide (64 ≤ s29.len)) (exC .u8 64 fun l30 =>
 cellsAt h26 ⟨s29.b, s29.o⟩ 64 = some l30 ∧
 AC Tryz.prog 173 [.ptr p1, .ptr p9, .int .i64 (wrapK .i64 ((slLen q28 : Int) - 1)), .agg l30] h26 fun v31 h32 => v31 = .tup [] ∧
 Q (.int .i64 0) h32))))))
 (AC Tryz.prog 130 [.ptr p1, .str s2] h5 fun v34 h35 => ∃ p36 : Option PA, ∃ n37 : Int, v34 = .tup [.ptr p36, .int .i64 n37] ∧
 vif (n37 != 0)
 (Q (.int .i64 n37) h35)
 (vPtr p1 fun p38 =>
 ∃ n39 : Int, cellsAt h35 ⟨p38.b, p38.o + 2⟩ 1 = some [.int .i64 n39] ∧
 AC Tryz.prog 52 [.ptr p1] h35 fun v40 h41 => ∃ n42 : Int, v40 = .int .i64 n42 ∧
 (∃ n60 : Int, cellsAt h41 ⟨p38.b, p38.o + 2⟩ 1 = some [.int .i64 n60] ∧
 LV.val (.int .i64 n60) = LV.val (.int .i64 n39)) ∧
 vif (decide (n42 ≥ n39))
 (Q (.int .i64 2) h41)
 (AC Tryz.prog 172 [.ptr p1] h41 fun v43 h44 => ∃ n45 : Int, v43 = .int .i64 n45 ∧
 vif (n45 != 0)
 (Q (.int .i64 n45) h44)
 (vPtr p36 fun p46 =>
 ∃ q47 : Option SL, cellsAt h44 ⟨p46.b, p46.o + 1⟩ 1 = some [.sl q47] ∧
 PNew (List.replicate 64 (AV.int .u8 0)) true h44 fun a48 h49 =>
 PAppendS 64 64 q47 (some ⟨a48, 0, 1, 1, 0⟩) h49 fun q50 h51 =>
 vPtr p36 fun p52 =>
 PStore h51 ⟨p52.b, p52.o + 1⟩ [.sl q50] fun h53 =>
 vPtr p36 fun p54 =>
 ∃ q55 : Option SL, cellsAt h53 ⟨p54.b, p54.o + 1⟩ 1 = some [.sl q55] ∧
 vSl q3 fun s56 => need (decide (0 < 64) && decide (64 ≤ s56.len)) (exC .u8 64 fun l57 =>
 cellsAt h53 ⟨s56.b, s56.o⟩ 64 = some l57 ∧
 AC Tryz.prog 173 [.ptr p1, .ptr p36, .int .i64 (wrapK .i64 ((slLen q55 : Int) - 1)), .agg l57] h53 fun v58 h59 => v58 = .tup [] ∧
 Q (.int .i64 0) h59)))))
theorem ac96 {p1 : Option PA} {s2 : List UInt8} {q3 : Option SL} {h : Heap} {Q : AV → Heap → Prop} (hk : vc96 p1 s2 q3 h Q) : AC Tryz.prog 96 [.ptr p1, .str s2, .sl q3] h Q :=
 AC_by (H := hintsOf [] []) (by kernel_rfl) (by kernel_rfl) hk

/-- files.Disk).Sync: what it asks. -/
def vc97 (p1 : Option PA) (s2 : List UInt8) (h : Heap) (Q : AV → Heap → Prop) : Prop :=
 AC Tryz.prog 130 [.ptr p1, .str s2] h fun v3 h4 => ∃ p5 : Option PA, ∃ n6 : Int, v3 = .tup [.ptr p5, .int .i64 n6] ∧
 vif (n6 != 0)
 (Q (.int .i64 n6) h4)
 (AC Tryz.prog 172 [.ptr p1] h4 fun v7 h8 => ∃ n9 : Int, v7 = .int .i64 n9 ∧
 vif (n9 != 0)
 (Q (.int .i64 n9) h8)
 (vPtr p1 fun p10 =>
 ∃ q11 : Option SL, cellsAt h8 ⟨p10.b, p10.o + 1⟩ 1 = some [.sl q11] ∧
 ∃ (I13 : List AV → Heap → Prop) (m14 : List AV → Heap → Nat), I13 [.int .i64 0] h8 ∧
 ∀ n12 : Int, ∀ h15 : Heap, I13 [.int .i64 n12] h15 →
 vif (decide (n12 < (slLen q11 : Int)))
 (vIdx q11 n12 66 fun p16 =>
 ∃ p17 : Option PA, ∃ n18 : Int, exC .u8 64 fun l19 =>
 cellsAt h15 p16 66 = some ([.ptr p17, .int .i64 n18] ++ (l19)) ∧
 aEq Tryz.prog 183 h15 (.ptr p17) (.ptr p5) fun b20 =>
 vif b20
 (AC Tryz.prog 113 [.agg ([.ptr p17, .int .i64 n18] ++ (l19)), .int .i64 64] h15 fun v21 h22 => v21 = .tup [] ∧
 (True) ∧ I13 [.int .i64 (wrapK .i64 (n12 + 1))] h22 ∧ m14 [.int .i64 (wrapK .i64 (n12 + 1))] h22 < m14 [.int .i64 n12] h15)
 ((True) ∧ I13 [.int .i64 (wrapK .i64 (n12 + 1))] h15 ∧ m14 [.int .i64 (wrapK .i64 (n12 + 1))] h15 < m14 [.int .i64 n12] h15))
 (AC Tryz.prog 174 [.ptr p1, .ptr p5] h15 fun v23 h24 => v23 = .tup [] ∧
 Q (.int .i64 0) h24)))
theorem ac97 {p1 : Option PA} {s2 : List UInt8} {h : Heap} {Q : AV → Heap → Prop} (hk : vc97 p1 s2 h Q) : AC Tryz.prog 97 [.ptr p1, .str s2] h Q :=
 AC_by (H := hintsOf [9] [(0, [29], [])]) (by kernel_rfl) (by kernel_rfl) hk

/-- files.Disk).made: what it asks. -/
def vc104 (p1 : Option PA) (h : Heap) (Q : AV → Heap → Prop) : Prop :=
 vif (!(p1.isNone))
 (vPtr p1 fun p2 =>
 ∃ m3 : Option Nat, cellsAt h ⟨p2.b, p2.o + 0⟩ 1 = some [.map m3] ∧
 Q (.bool (!(m3.isNone))) h)
 (Q (.bool false) h)
theorem ac104 {p1 : Option PA} {h : Heap} {Q : AV → Heap → Prop} (hk : vc104 p1 h Q) : AC Tryz.prog 104 [.ptr p1] h Q :=
 AC_by (H := hintsOf [] []) (by kernel_rfl) (by kernel_rfl) hk

/-- files.pend).keep: what it asks. -/
def vc113 (p1 : Option PA) (n2 : Int) (l3 : Nat → Int) (n4 : Int) (h : Heap) (Q : AV → Heap → Prop) : Prop :=
 PNew ([.ptr p1, .int .i64 n2] ++ ((cel .u8 64 l3))) true h fun a5 h6 =>
 vif (decide ((minI n4 64) < 1))
 (Q (.tup []) h6)
 (∃ (I7 : List AV → Heap → Prop) (m8 : List AV → Heap → Nat), I7 [] h6 ∧
 ∀ h9 : Heap, I7 [] h9 →
 ∃ p10 : Option PA, cellsAt h9 ⟨a5, 0⟩ 1 = some [.ptr p10] ∧
 vPtr p10 fun p11 =>
 ∃ q12 : Option SL, cellsAt h9 ⟨p11.b, p11.o + 2⟩ 1 = some [.sl q12] ∧
 ∃ n13 : Int, cellsAt h9 ⟨a5, 1⟩ 1 = some [.int .i64 n13] ∧
 vif (decide ((slLen q12 : Int) ≤ n13))
 (∃ p14 : Option PA, cellsAt h9 ⟨a5, 0⟩ 1 = some [.ptr p14] ∧
 ∃ p15 : Option PA, cellsAt h9 ⟨a5, 0⟩ 1 = some [.ptr p15] ∧
 vPtr p15 fun p16 =>
 ∃ q17 : Option SL, cellsAt h9 ⟨p16.b, p16.o + 2⟩ 1 = some [.sl q17] ∧
 PNew (List.replicate 64 (AV.int .u8 0)) true h9 fun a18 h19 =>
 (∃ q27 : Option SL, cellsAt h19 ⟨p16.b, p16.o + 2⟩ 1 = some [.sl q27] ∧
 LV.val (.sl q27) = LV.val (.sl q17)) ∧
 (∃ p26 : Option PA, cellsAt h19 ⟨a5, 0⟩ 1 = some [.ptr p26] ∧
 LV.val (.ptr p26) = LV.val (.ptr p15)) ∧
 (∃ p25 : Option PA, cellsAt h19 ⟨a5, 0⟩ 1 = some [.ptr p25] ∧
 LV.val (.ptr p25) = LV.val (.ptr p14)) ∧
 PAppendS 64 64 q17 (some ⟨a18, 0, 1, 1, 0⟩) h19 fun q20 h21 =>
 (∃ p24 : Option PA, cellsAt h21 ⟨a5, 0⟩ 1 = some [.ptr p24] ∧
 LV.val (.ptr p24) = LV.val (.ptr p14)) ∧
 vPtr p14 fun p22 =>
 PStore h21 ⟨p22.b, p22.o + 2⟩ [.sl q20] fun h23 =>
 (True) ∧ I7 [] h23 ∧ m8 [] h23 < m8 [] h9)
 (∃ p28 : Option PA, cellsAt h9 ⟨a5, 0⟩ 1 = some [.ptr p28] ∧
 vPtr p28 fun p29 =>
 ∃ q30 : Option SL, cellsAt h9 ⟨p29.b, p29.o + 2⟩ 1 = some [.sl q30] ∧
 ∃ n31 : Int, cellsAt h9 ⟨a5, 1⟩ 1 = some [.int .i64 n31] ∧
 vIdx q30 n31 64 fun p32 =>
 PSlice 1 (some ⟨p32.b, p32.o, 64, 64, 0⟩) 0 (some (minI n4 64)) none fun q33 =>
 PSlice 1 (some ⟨a5, 2, 64, 64, 0⟩) 0 (some (minI n4 64)) none fun q34 =>
 PCopyS 1 q33 q34 h9 fun n35 h36 =>
 Q (.tup []) h36))
theorem ac113 {p1 : Option PA} {n2 : Int} {l3 : Nat → Int} {n4 : Int} {h : Heap} {Q : AV → Heap → Prop} (hk : vc113 p1 n2 l3 n4 h Q) : AC Tryz.prog 113 [.agg ([.ptr p1, .int .i64 n2] ++ ((cel .u8 64 l3))), .int .i64 n4] h Q :=
 AC_by (H := hintsOf [] [(0, [], [])]) (by kernel_rfl) (by kernel_rfl) hk

/-- oxbowref08.May: what it asks. -/
def vc127 (n1 : Int) (q2 : Option SL) (h : Heap) (Q : AV → Heap → Prop) : Prop :=
 AC Tryz.prog 57 [.int .i64 n1] h fun v3 h4 => ∃ b5 : Bool, v3 = .bool b5 ∧
 vif (!b5)
 (Q (.int .i64 1) h4)
 (AC Tryz.prog 58 [.sl q2] h4 fun v6 h7 => ∃ n8 : Int, v6 = .int .i64 n8 ∧
 vif (n8 != 0)
 (Q (.int .i64 n8) h7)
 (AC Tryz.prog 137 [.sl q2] h7 fun v9 h10 => ∃ b11 : Bool, v9 = .bool b11 ∧
 vif (!b11)
 (Q (.int .i64 1) h10)
 (Q (.int .i64 0) h10)))
theorem ac127 {n1 : Int} {q2 : Option SL} {h : Heap} {Q : AV → Heap → Prop} (hk : vc127 n1 q2 h Q) : AC Tryz.prog 127 [.int .i64 n1, .sl q2] h Q :=
 AC_by (H := hintsOf [] []) (by kernel_rfl) (by kernel_rfl) hk

/-- oxbowref05.Disk).Put: what it asks. -/
def vc128 (p1 : Option PA) (s2 : List UInt8) (n3 : Int) (q4 : Option SL) (b5 : Bool) (h : Heap) (Q : AV → Heap → Prop) : Prop :=
 AC Tryz.prog 55 [.ptr p1, .str s2] h fun v6 h7 => ∃ p8 : Option PA, v6 = .ptr p8 ∧
 vif ((slLen q4 : Int) != 64)
 (AC Tryz.prog 199 [.ptr p1, .int .i64 1] h7 fun v9 h10 => ∃ n11 : Int, v9 = .int .i64 n11 ∧
 vif (n11 != 0)
 (Q (.int .i64 n11) h10)
 (PNew [] true h10 fun a12 h13 =>
 PAppendS 1 1 (some ⟨a12, 0, 0, 0, 0⟩) q4 h13 fun q14 h15 =>
 vif b5
 (vPtr p8 fun p16 =>
 ∃ q17 : Option SL, cellsAt h15 ⟨p16.b, p16.o + 1⟩ 1 = some [.sl q17] ∧
 vPtr p8 fun p18 =>
 ∃ q19 : Option SL, cellsAt h15 ⟨p18.b, p18.o + 1⟩ 1 = some [.sl q19] ∧
 PNew [.sl q14] true h15 fun a20 h21 =>
 PAppendS 1 24 q19 (some ⟨a20, 0, 1, 1, 0⟩) h21 fun q22 h23 =>
 vPtr p8 fun p24 =>
 PStore h23 ⟨p24.b, p24.o + 1⟩ [.sl q22] fun h25 =>
 vPtr p1 fun p26 =>
 ∃ q27 : Option SL, cellsAt h25 ⟨p26.b, p26.o + 1⟩ 1 = some [.sl q27] ∧
 PNew [] true h25 fun a28 h29 =>
 (∃ q40 : Option SL, cellsAt h29 ⟨p26.b, p26.o + 1⟩ 1 = some [.sl q40] ∧
 LV.val (.sl q40) = LV.val (.sl q27)) ∧
 PAppendS 1 1 (some ⟨a28, 0, 0, 0, 0⟩) q4 h29 fun q30 h31 =>
 (∃ q39 : Option SL, cellsAt h31 ⟨p26.b, p26.o + 1⟩ 1 = some [.sl q39] ∧
 LV.val (.sl q39) = LV.val (.sl q27)) ∧
 PNew [.ptr p8, .int .i64 (slLen q17 : Int), .sl q30] true h31 fun a32 h33 =>
 (∃ q38 : Option SL, cellsAt h33 ⟨p26.b, p26.o + 1⟩ 1 = some [.sl q38] ∧
 LV.val (.sl q38) = LV.val (.sl q27)) ∧
 PAppendS 3 40 q27 (some ⟨a32, 0, 1, 1, 0⟩) h33 fun q34 h35 =>
 vPtr p1 fun p36 =>
 PStore h35 ⟨p36.b, p36.o + 1⟩ [.sl q34] fun h37 =>
 Q (.int .i64 0) h37)
 (vPtr p8 fun p41 =>
 ∃ q42 : Option SL, cellsAt h15 ⟨p41.b, p41.o + 1⟩ 1 = some [.sl q42] ∧
 vIdx q42 n3 1 fun p43 =>
 PStore h15 p43 [.sl q14] fun h44 =>
 vPtr p1 fun p45 =>
 ∃ q46 : Option SL, cellsAt h44 ⟨p45.b, p45.o + 1⟩ 1 = some [.sl q46] ∧
 PNew [] true h44 fun a47 h48 =>
 (∃ q59 : Option SL, cellsAt h48 ⟨p45.b, p45.o + 1⟩ 1 = some [.sl q59] ∧
 LV.val (.sl q59) = LV.val (.sl q46)) ∧
 PAppendS 1 1 (some ⟨a47, 0, 0, 0, 0⟩) q4 h48 fun q49 h50 =>
 (∃ q58 : Option SL, cellsAt h50 ⟨p45.b, p45.o + 1⟩ 1 = some [.sl q58] ∧
 LV.val (.sl q58) = LV.val (.sl q46)) ∧
 PNew [.ptr p8, .int .i64 n3, .sl q49] true h50 fun a51 h52 =>
 (∃ q57 : Option SL, cellsAt h52 ⟨p45.b, p45.o + 1⟩ 1 = some [.sl q57] ∧
 LV.val (.sl q57) = LV.val (.sl q46)) ∧
 PAppendS 3 40 q46 (some ⟨a51, 0, 1, 1, 0⟩) h52 fun q53 h54 =>
 vPtr p1 fun p55 =>
 PStore h54 ⟨p55.b, p55.o + 1⟩ [.sl q53] fun h56 =>
 Q (.int .i64 0) h56)))
 (vif (p8.isNone)
 (AC Tryz.prog 199 [.ptr p1, .int .i64 4] h7 fun v60 h61 => ∃ n62 : Int, v60 = .int .i64 n62 ∧
 vif (n62 != 0)
 (Q (.int .i64 n62) h61)
 (PNew [] true h61 fun a63 h64 =>
 PAppendS 1 1 (some ⟨a63, 0, 0, 0, 0⟩) q4 h64 fun q65 h66 =>
 vif b5
 (vPtr p8 fun p67 =>
 ∃ q68 : Option SL, cellsAt h66 ⟨p67.b, p67.o + 1⟩ 1 = some [.sl q68] ∧
 vPtr p8 fun p69 =>
 ∃ q70 : Option SL, cellsAt h66 ⟨p69.b, p69.o + 1⟩ 1 = some [.sl q70] ∧
 PNew [.sl q65] true h66 fun a71 h72 =>
 PAppendS 1 24 q70 (some ⟨a71, 0, 1, 1, 0⟩) h72 fun q73 h74 =>
 vPtr p8 fun p75 =>
 PStore h74 ⟨p75.b, p75.o + 1⟩ [.sl q73] fun h76 =>
 vPtr p1 fun p77 =>
 ∃ q78 : Option SL, cellsAt h76 ⟨p77.b, p77.o + 1⟩ 1 = some [.sl q78] ∧
 PNew [] true h76 fun a79 h80 =>
 (∃ q91 : Option SL, cellsAt h80 ⟨p77.b, p77.o + 1⟩ 1 = some [.sl q91] ∧
 LV.val (.sl q91) = LV.val (.sl q78)) ∧
 PAppendS 1 1 (some ⟨a79, 0, 0, 0, 0⟩) q4 h80 fun q81 h82 =>
 (∃ q90 : Option SL, cellsAt h82 ⟨p77.b, p77.o + 1⟩ 1 = some [.sl q90] ∧
 LV.val (.sl q90) = LV.val (.sl q78)) ∧
 PNew [.ptr p8, .int .i64 (slLen q68 : Int), .sl q81] true h82 fun a83 h84 =>
 (∃ q89 : Option SL, cellsAt h84 ⟨p77.b, p77.o + 1⟩ 1 = some [.sl q89] ∧
 LV.val (.sl q89) = LV.val (.sl q78)) ∧
 PAppendS 3 40 q78 (some ⟨a83, 0, 1, 1, 0⟩) h84 fun q85 h86 =>
 vPtr p1 fun p87 =>
 PStore h86 ⟨p87.b, p87.o + 1⟩ [.sl q85] fun h88 =>
 Q (.int .i64 0) h88)
 (vPtr p8 fun p92 =>
 ∃ q93 : Option SL, cellsAt h66 ⟨p92.b, p92.o + 1⟩ 1 = some [.sl q93] ∧
 vIdx q93 n3 1 fun p94 =>
 PStore h66 p94 [.sl q65] fun h95 =>
 vPtr p1 fun p96 =>
 ∃ q97 : Option SL, cellsAt h95 ⟨p96.b, p96.o + 1⟩ 1 = some [.sl q97] ∧
 PNew [] true h95 fun a98 h99 =>
 (∃ q110 : Option SL, cellsAt h99 ⟨p96.b, p96.o + 1⟩ 1 = some [.sl q110] ∧
 LV.val (.sl q110) = LV.val (.sl q97)) ∧
 PAppendS 1 1 (some ⟨a98, 0, 0, 0, 0⟩) q4 h99 fun q100 h101 =>
 (∃ q109 : Option SL, cellsAt h101 ⟨p96.b, p96.o + 1⟩ 1 = some [.sl q109] ∧
 LV.val (.sl q109) = LV.val (.sl q97)) ∧
 PNew [.ptr p8, .int .i64 n3, .sl q100] true h101 fun a102 h103 =>
 (∃ q108 : Option SL, cellsAt h103 ⟨p96.b, p96.o + 1⟩ 1 = some [.sl q108] ∧
 LV.val (.sl q108) = LV.val (.sl q97)) ∧
 PAppendS 3 40 q97 (some ⟨a102, 0, 1, 1, 0⟩) h103 fun q104 h105 =>
 vPtr p1 fun p106 =>
 PStore h105 ⟨p106.b, p106.o + 1⟩ [.sl q104] fun h107 =>
 Q (.int .i64 0) h107)))
 (vif (!b5)
 (vif (decide (n3 < 0))
 (AC Tryz.prog 199 [.ptr p1, .int .i64 4] h7 fun v111 h112 => ∃ n113 : Int, v111 = .int .i64 n113 ∧
 vif (n113 != 0)
 (Q (.int .i64 n113) h112)
 (PNew [] true h112 fun a114 h115 =>
 PAppendS 1 1 (some ⟨a114, 0, 0, 0, 0⟩) q4 h115 fun q116 h117 =>
 vif b5
 (vPtr p8 fun p118 =>
 ∃ q119 : Option SL, cellsAt h117 ⟨p118.b, p118.o + 1⟩ 1 = some [.sl q119] ∧
 vPtr p8 fun p120 =>
 ∃ q121 : Option SL, cellsAt h117 ⟨p120.b, p120.o + 1⟩ 1 = some [.sl q121] ∧
 PNew [.sl q116] true h117 fun a122 h123 =>
 PAppendS 1 24 q121 (some ⟨a122, 0, 1, 1, 0⟩) h123 fun q124 h125 =>
 vPtr p8 fun p126 =>
 PStore h125 ⟨p126.b, p126.o + 1⟩ [.sl q124] fun h127 =>
 vPtr p1 fun p128 =>
 ∃ q129 : Option SL, cellsAt h127 ⟨p128.b, p128.o + 1⟩ 1 = some [.sl q129] ∧
 PNew [] true h127 fun a130 h131 =>
 (∃ q142 : Option SL, cellsAt h131 ⟨p128.b, p128.o + 1⟩ 1 = some [.sl q142] ∧
 LV.val (.sl q142) = LV.val (.sl q129)) ∧
 PAppendS 1 1 (some ⟨a130, 0, 0, 0, 0⟩) q4 h131 fun q132 h133 =>
 (∃ q141 : Option SL, cellsAt h133 ⟨p128.b, p128.o + 1⟩ 1 = some [.sl q141] ∧
 LV.val (.sl q141) = LV.val (.sl q129)) ∧
 PNew [.ptr p8, .int .i64 (slLen q119 : Int), .sl q132] true h133 fun a134 h135 =>
 (∃ q140 : Option SL, cellsAt h135 ⟨p128.b, p128.o + 1⟩ 1 = some [.sl q140] ∧
 LV.val (.sl q140) = LV.val (.sl q129)) ∧
 PAppendS 3 40 q129 (some ⟨a134, 0, 1, 1, 0⟩) h135 fun q136 h137 =>
 vPtr p1 fun p138 =>
 PStore h137 ⟨p138.b, p138.o + 1⟩ [.sl q136] fun h139 =>
 Q (.int .i64 0) h139)
 (vPtr p8 fun p143 =>
 ∃ q144 : Option SL, cellsAt h117 ⟨p143.b, p143.o + 1⟩ 1 = some [.sl q144] ∧
 vIdx q144 n3 1 fun p145 =>
 PStore h117 p145 [.sl q116] fun h146 =>
 vPtr p1 fun p147 =>
 ∃ q148 : Option SL, cellsAt h146 ⟨p147.b, p147.o + 1⟩ 1 = some [.sl q148] ∧
 PNew [] true h146 fun a149 h150 =>
 (∃ q161 : Option SL, cellsAt h150 ⟨p147.b, p147.o + 1⟩ 1 = some [.sl q161] ∧
 LV.val (.sl q161) = LV.val (.sl q148)) ∧
 PAppendS 1 1 (some ⟨a149, 0, 0, 0, 0⟩) q4 h150 fun q151 h152 =>
 (∃ q160 : Option SL, cellsAt h152 ⟨p147.b, p147.o + 1⟩ 1 = some [.sl q160] ∧
 LV.val (.sl q160) = LV.val (.sl q148)) ∧
 PNew [.ptr p8, .int .i64 n3, .sl q151] true h152 fun a153 h154 =>
 (∃ q159 : Option SL, cellsAt h154 ⟨p147.b, p147.o + 1⟩ 1 = some [.sl q159] ∧
 LV.val (.sl q159) = LV.val (.sl q148)) ∧
 PAppendS 3 40 q148 (some ⟨a153, 0, 1, 1, 0⟩) h154 fun q155 h156 =>
 vPtr p1 fun p157 =>
 PStore h156 ⟨p157.b, p157.o + 1⟩ [.sl q155] fun h158 =>
 Q (.int .i64 0) h158)))
 (vPtr p8 fun p162 =>
 ∃ q163 : Option SL, cellsAt h7 ⟨p162.b, p162.o + 1⟩ 1 = some [.sl q163] ∧
 vif (decide (n3 ≥ (slLen q163 : Int)))
 (AC Tryz.prog 199 [.ptr p1, .int .i64 4] h7 fun v164 h165 => ∃ n166 : Int, v164 = .int .i64 n166 ∧
 vif (n166 != 0)
 (Q (.int .i64 n166) h165)
 (PNew [] true h165 fun a167 h168 =>
 PAppendS 1 1 (some ⟨a167, 0, 0, 0, 0⟩) q4 h168 fun q169 h170 =>
 vif b5
 (vPtr p8 fun p171 =>
 ∃ q172 : Option SL, cellsAt h170 ⟨p171.b, p171.o + 1⟩ 1 = some [.sl q172] ∧
 vPtr p8 fun p173 =>
 ∃ q174 : Option SL, cellsAt h170 ⟨p173.b, p173.o + 1⟩ 1 = some [.sl q174] ∧
 PNew [.sl q169] true h170 fun a175 h176 =>
 PAppendS 1 24 q174 (some ⟨a175, 0, 1, 1, 0⟩) h176 fun q177 h178 =>
 vPtr p8 fun p179 =>
 PStore h178 ⟨p179.b, p179.o + 1⟩ [.sl q177] fun h180 =>
 vPtr p1 fun p181 =>
 ∃ q182 : Option SL, cellsAt h180 ⟨p181.b, p181.o + 1⟩ 1 = some [.sl q182] ∧
 PNew [] true h180 fun a183 h184 =>
 (∃ q195 : Option SL, cellsAt h184 ⟨p181.b, p181.o + 1⟩ 1 = some [.sl q195] ∧
 LV.val (.sl q195) = LV.val (.sl q182)) ∧
 PAppendS 1 1 (some ⟨a183, 0, 0, 0, 0⟩) q4 h184 fun q185 h186 =>
 (∃ q194 : Option SL, cellsAt h186 ⟨p181.b, p181.o + 1⟩ 1 = some [.sl q194] ∧
 LV.val (.sl q194) = LV.val (.sl q182)) ∧
 PNew [.ptr p8, .int .i64 (slLen q172 : Int), .sl q185] true h186 fun a187 h188 =>
 (∃ q193 : Option SL, cellsAt h188 ⟨p181.b, p181.o + 1⟩ 1 = some [.sl q193] ∧
 LV.val (.sl q193) = LV.val (.sl q182)) ∧
 PAppendS 3 40 q182 (some ⟨a187, 0, 1, 1, 0⟩) h188 fun q189 h190 =>
 vPtr p1 fun p191 =>
 PStore h190 ⟨p191.b, p191.o + 1⟩ [.sl q189] fun h192 =>
 Q (.int .i64 0) h192)
 (vPtr p8 fun p196 =>
 ∃ q197 : Option SL, cellsAt h170 ⟨p196.b, p196.o + 1⟩ 1 = some [.sl q197] ∧
 vIdx q197 n3 1 fun p198 =>
 PStore h170 p198 [.sl q169] fun h199 =>
 vPtr p1 fun p200 =>
 ∃ q201 : Option SL, cellsAt h199 ⟨p200.b, p200.o + 1⟩ 1 = some [.sl q201] ∧
 PNew [] true h199 fun a202 h203 =>
 (∃ q214 : Option SL, cellsAt h203 ⟨p200.b, p200.o + 1⟩ 1 = some [.sl q214] ∧
 LV.val (.sl q214) = LV.val (.sl q201)) ∧
 PAppendS 1 1 (some ⟨a202, 0, 0, 0, 0⟩) q4 h203 fun q204 h205 =>
 (∃ q213 : Option SL, cellsAt h205 ⟨p200.b, p200.o + 1⟩ 1 = some [.sl q213] ∧
 LV.val (.sl q213) = LV.val (.sl q201)) ∧
 PNew [.ptr p8, .int .i64 n3, .sl q204] true h205 fun a206 h207 =>
 (∃ q212 : Option SL, cellsAt h207 ⟨p200.b, p200.o + 1⟩ 1 = some [.sl q212] ∧
 LV.val (.sl q212) = LV.val (.sl q201)) ∧
 PAppendS 3 40 q201 (some ⟨a206, 0, 1, 1, 0⟩) h207 fun q208 h209 =>
 vPtr p1 fun p210 =>
 PStore h209 ⟨p210.b, p210.o + 1⟩ [.sl q208] fun h211 =>
 Q (.int .i64 0) h211)))
 (vif b5
 (vPtr p1 fun p215 =>
 ∃ n216 : Int, cellsAt h7 ⟨p215.b, p215.o + 2⟩ 1 = some [.int .i64 n216] ∧
 AC Tryz.prog 53 [.ptr p1] h7 fun v217 h218 => ∃ n219 : Int, v217 = .int .i64 n219 ∧
 (∃ n322 : Int, cellsAt h218 ⟨p215.b, p215.o + 2⟩ 1 = some [.int .i64 n322] ∧
 LV.val (.int .i64 n322) = LV.val (.int .i64 n216)) ∧
 vif (decide (n219 ≥ n216))
 (AC Tryz.prog 199 [.ptr p1, .int .i64 2] h218 fun v220 h221 => ∃ n222 : Int, v220 = .int .i64 n222 ∧
 vif (n222 != 0)
 (Q (.int .i64 n222) h221)
 (PNew [] true h221 fun a223 h224 =>
 PAppendS 1 1 (some ⟨a223, 0, 0, 0, 0⟩) q4 h224 fun q225 h226 =>
 vif b5
 (vPtr p8 fun p227 =>
 ∃ q228 : Option SL, cellsAt h226 ⟨p227.b, p227.o + 1⟩ 1 = some [.sl q228] ∧
 vPtr p8 fun p229 =>
 ∃ q230 : Option SL, cellsAt h226 ⟨p229.b, p229.o + 1⟩ 1 = some [.sl q230] ∧
 PNew [.sl q225] true h226 fun a231 h232 =>
 PAppendS 1 24 q230 (some ⟨a231, 0, 1, 1, 0⟩) h232 fun q233 h234 =>
 vPtr p8 fun p235 =>
 PStore h234 ⟨p235.b, p235.o + 1⟩ [.sl q233] fun h236 =>
 vPtr p1 fun p237 =>
 ∃ q238 : Option SL, cellsAt h236 ⟨p237.b, p237.o + 1⟩ 1 = some [.sl q238] ∧
 PNew [] true h236 fun a239 h240 =>
 (∃ q251 : Option SL, cellsAt h240 ⟨p237.b, p237.o + 1⟩ 1 = some [.sl q251] ∧
 LV.val (.sl q251) = LV.val (.sl q238)) ∧
 PAppendS 1 1 (some ⟨a239, 0, 0, 0, 0⟩) q4 h240 fun q241 h242 =>
 (∃ q250 : Option SL, cellsAt h242 ⟨p237.b, p237.o + 1⟩ 1 = some [.sl q250] ∧
 LV.val (.sl q250) = LV.val (.sl q238)) ∧
 PNew [.ptr p8, .int .i64 (slLen q228 : Int), .sl q241] true h242 fun a243 h244 =>
 (∃ q249 : Option SL, cellsAt h244 ⟨p237.b, p237.o + 1⟩ 1 = some [.sl q249] ∧
 LV.val (.sl q249) = LV.val (.sl q238)) ∧
 PAppendS 3 40 q238 (some ⟨a243, 0, 1, 1, 0⟩) h244 fun q245 h246 =>
 vPtr p1 fun p247 =>
 PStore h246 ⟨p247.b, p247.o + 1⟩ [.sl q245] fun h248 =>
 Q (.int .i64 0) h248)
 (vPtr p8 fun p252 =>
 ∃ q253 : Option SL, cellsAt h226 ⟨p252.b, p252.o + 1⟩ 1 = some [.sl q253] ∧
 vIdx q253 n3 1 fun p254 =>
 PStore h226 p254 [.sl q225] fun h255 =>
 vPtr p1 fun p256 =>
 ∃ q257 : Option SL, cellsAt h255 ⟨p256.b, p256.o + 1⟩ 1 = some [.sl q257] ∧
 PNew [] true h255 fun a258 h259 =>
 (∃ q270 : Option SL, cellsAt h259 ⟨p256.b, p256.o + 1⟩ 1 = some [.sl q270] ∧
 LV.val (.sl q270) = LV.val (.sl q257)) ∧
 PAppendS 1 1 (some ⟨a258, 0, 0, 0, 0⟩) q4 h259 fun q260 h261 =>
 (∃ q269 : Option SL, cellsAt h261 ⟨p256.b, p256.o + 1⟩ 1 = some [.sl q269] ∧
 LV.val (.sl q269) = LV.val (.sl q257)) ∧
 PNew [.ptr p8, .int .i64 n3, .sl q260] true h261 fun a262 h263 =>
 (∃ q268 : Option SL, cellsAt h263 ⟨p256.b, p256.o + 1⟩ 1 = some [.sl q268] ∧
 LV.val (.sl q268) = LV.val (.sl q257)) ∧
 PAppendS 3 40 q257 (some ⟨a262, 0, 1, 1, 0⟩) h263 fun q264 h265 =>
 vPtr p1 fun p266 =>
 PStore h265 ⟨p266.b, p266.o + 1⟩ [.sl q264] fun h267 =>
 Q (.int .i64 0) h267)))
 (AC Tryz.prog 199 [.ptr p1, .int .i64 0] h218 fun v271 h272 => ∃ n273 : Int, v271 = .int .i64 n273 ∧
 vif (n273 != 0)
 (Q (.int .i64 n273) h272)
 (PNew [] true h272 fun a274 h275 =>
 PAppendS 1 1 (some ⟨a274, 0, 0, 0, 0⟩) q4 h275 fun q276 h277 =>
 vif b5
 (vPtr p8 fun p278 =>
 ∃ q279 : Option SL, cellsAt h277 ⟨p278.b, p278.o + 1⟩ 1 = some [.sl q279] ∧
 vPtr p8 fun p280 =>
 ∃ q281 : Option SL, cellsAt h277 ⟨p280.b, p280.o + 1⟩ 1 = some [.sl q281] ∧
 PNew [.sl q276] true h277 fun a282 h283 =>
 PAppendS 1 24 q281 (some ⟨a282, 0, 1, 1, 0⟩) h283 fun q284 h285 =>
 vPtr p8 fun p286 =>
 PStore h285 ⟨p286.b, p286.o + 1⟩ [.sl q284] fun h287 =>
 vPtr p1 fun p288 =>
 ∃ q289 : Option SL, cellsAt h287 ⟨p288.b, p288.o + 1⟩ 1 = some [.sl q289] ∧
 PNew [] true h287 fun a290 h291 =>
 (∃ q302 : Option SL, cellsAt h291 ⟨p288.b, p288.o + 1⟩ 1 = some [.sl q302] ∧
 LV.val (.sl q302) = LV.val (.sl q289)) ∧
 PAppendS 1 1 (some ⟨a290, 0, 0, 0, 0⟩) q4 h291 fun q292 h293 =>
 (∃ q301 : Option SL, cellsAt h293 ⟨p288.b, p288.o + 1⟩ 1 = some [.sl q301] ∧
 LV.val (.sl q301) = LV.val (.sl q289)) ∧
 PNew [.ptr p8, .int .i64 (slLen q279 : Int), .sl q292] true h293 fun a294 h295 =>
 (∃ q300 : Option SL, cellsAt h295 ⟨p288.b, p288.o + 1⟩ 1 = some [.sl q300] ∧
 LV.val (.sl q300) = LV.val (.sl q289)) ∧
 PAppendS 3 40 q289 (some ⟨a294, 0, 1, 1, 0⟩) h295 fun q296 h297 =>
 vPtr p1 fun p298 =>
 PStore h297 ⟨p298.b, p298.o + 1⟩ [.sl q296] fun h299 =>
 Q (.int .i64 0) h299)
 (vPtr p8 fun p303 =>
 ∃ q304 : Option SL, cellsAt h277 ⟨p303.b, p303.o + 1⟩ 1 = some [.sl q304] ∧
 vIdx q304 n3 1 fun p305 =>
 PStore h277 p305 [.sl q276] fun h306 =>
 vPtr p1 fun p307 =>
 ∃ q308 : Option SL, cellsAt h306 ⟨p307.b, p307.o + 1⟩ 1 = some [.sl q308] ∧
 PNew [] true h306 fun a309 h310 =>
 (∃ q321 : Option SL, cellsAt h310 ⟨p307.b, p307.o + 1⟩ 1 = some [.sl q321] ∧
 LV.val (.sl q321) = LV.val (.sl q308)) ∧
 PAppendS 1 1 (some ⟨a309, 0, 0, 0, 0⟩) q4 h310 fun q311 h312 =>
 (∃ q320 : Option SL, cellsAt h312 ⟨p307.b, p307.o + 1⟩ 1 = some [.sl q320] ∧
 LV.val (.sl q320) = LV.val (.sl q308)) ∧
 PNew [.ptr p8, .int .i64 n3, .sl q311] true h312 fun a313 h314 =>
 (∃ q319 : Option SL, cellsAt h314 ⟨p307.b, p307.o + 1⟩ 1 = some [.sl q319] ∧
 LV.val (.sl q319) = LV.val (.sl q308)) ∧
 PAppendS 3 40 q308 (some ⟨a313, 0, 1, 1, 0⟩) h314 fun q315 h316 =>
 vPtr p1 fun p317 =>
 PStore h316 ⟨p317.b, p317.o + 1⟩ [.sl q315] fun h318 =>
 Q (.int .i64 0) h318))))
 ((LV.val (.tup []) = LV.val (.tup [])) ∧
 AC Tryz.prog 199 [.ptr p1, .int .i64 0] h7 fun v323 h324 => ∃ n325 : Int, v323 = .int .i64 n325 ∧
 vif (n325 != 0)
 (Q (.int .i64 n325) h324)
 (PNew [] true h324 fun a326 h327 =>
 PAppendS 1 1 (some ⟨a326, 0, 0, 0, 0⟩) q4 h327 fun q328 h329 =>
 vif b5
 (vPtr p8 fun p330 =>
 ∃ q331 : Option SL, cellsAt h329 ⟨p330.b, p330.o + 1⟩ 1 = some [.sl q331] ∧
 vPtr p8 fun p332 =>
 ∃ q333 : Option SL, cellsAt h329 ⟨p332.b, p332.o + 1⟩ 1 = some [.sl q333] ∧
 PNew [.sl q328] true h329 fun a334 h335 =>
 PAppendS 1 24 q333 (some ⟨a334, 0, 1, 1, 0⟩) h335 fun q336 h337 =>
 vPtr p8 fun p338 =>
 PStore h337 ⟨p338.b, p338.o + 1⟩ [.sl q336] fun h339 =>
 vPtr p1 fun p340 =>
 ∃ q341 : Option SL, cellsAt h339 ⟨p340.b, p340.o + 1⟩ 1 = some [.sl q341] ∧
 PNew [] true h339 fun a342 h343 =>
 (∃ q354 : Option SL, cellsAt h343 ⟨p340.b, p340.o + 1⟩ 1 = some [.sl q354] ∧
 LV.val (.sl q354) = LV.val (.sl q341)) ∧
 PAppendS 1 1 (some ⟨a342, 0, 0, 0, 0⟩) q4 h343 fun q344 h345 =>
 (∃ q353 : Option SL, cellsAt h345 ⟨p340.b, p340.o + 1⟩ 1 = some [.sl q353] ∧
 LV.val (.sl q353) = LV.val (.sl q341)) ∧
 PNew [.ptr p8, .int .i64 (slLen q331 : Int), .sl q344] true h345 fun a346 h347 =>
 (∃ q352 : Option SL, cellsAt h347 ⟨p340.b, p340.o + 1⟩ 1 = some [.sl q352] ∧
 LV.val (.sl q352) = LV.val (.sl q341)) ∧
 PAppendS 3 40 q341 (some ⟨a346, 0, 1, 1, 0⟩) h347 fun q348 h349 =>
 vPtr p1 fun p350 =>
 PStore h349 ⟨p350.b, p350.o + 1⟩ [.sl q348] fun h351 =>
 Q (.int .i64 0) h351)
 (vPtr p8 fun p355 =>
 ∃ q356 : Option SL, cellsAt h329 ⟨p355.b, p355.o + 1⟩ 1 = some [.sl q356] ∧
 vIdx q356 n3 1 fun p357 =>
 PStore h329 p357 [.sl q328] fun h358 =>
 vPtr p1 fun p359 =>
 ∃ q360 : Option SL, cellsAt h358 ⟨p359.b, p359.o + 1⟩ 1 = some [.sl q360] ∧
 PNew [] true h358 fun a361 h362 =>
 (∃ q373 : Option SL, cellsAt h362 ⟨p359.b, p359.o + 1⟩ 1 = some [.sl q373] ∧
 LV.val (.sl q373) = LV.val (.sl q360)) ∧
 PAppendS 1 1 (some ⟨a361, 0, 0, 0, 0⟩) q4 h362 fun q363 h364 =>
 (∃ q372 : Option SL, cellsAt h364 ⟨p359.b, p359.o + 1⟩ 1 = some [.sl q372] ∧
 LV.val (.sl q372) = LV.val (.sl q360)) ∧
 PNew [.ptr p8, .int .i64 n3, .sl q363] true h364 fun a365 h366 =>
 (∃ q371 : Option SL, cellsAt h366 ⟨p359.b, p359.o + 1⟩ 1 = some [.sl q371] ∧
 LV.val (.sl q371) = LV.val (.sl q360)) ∧
 PAppendS 3 40 q360 (some ⟨a365, 0, 1, 1, 0⟩) h366 fun q367 h368 =>
 vPtr p1 fun p369 =>
 PStore h368 ⟨p369.b, p369.o + 1⟩ [.sl q367] fun h370 =>
 Q (.int .i64 0) h370))))))
 (vif b5
 (vPtr p1 fun p374 =>
 ∃ n375 : Int, cellsAt h7 ⟨p374.b, p374.o + 2⟩ 1 = some [.int .i64 n375] ∧
 AC Tryz.prog 53 [.ptr p1] h7 fun v376 h377 => ∃ n378 : Int, v376 = .int .i64 n378 ∧
 (∃ n481 : Int, cellsAt h377 ⟨p374.b, p374.o + 2⟩ 1 = some [.int .i64 n481] ∧
 LV.val (.int .i64 n481) = LV.val (.int .i64 n375)) ∧
 vif (decide (n378 ≥ n375))
 (AC Tryz.prog 199 [.ptr p1, .int .i64 2] h377 fun v379 h380 => ∃ n381 : Int, v379 = .int .i64 n381 ∧
 vif (n381 != 0)
 (Q (.int .i64 n381) h380)
 (PNew [] true h380 fun a382 h383 =>
 PAppendS 1 1 (some ⟨a382, 0, 0, 0, 0⟩) q4 h383 fun q384 h385 =>
 vif b5
 (vPtr p8 fun p386 =>
 ∃ q387 : Option SL, cellsAt h385 ⟨p386.b, p386.o + 1⟩ 1 = some [.sl q387] ∧
 vPtr p8 fun p388 =>
 ∃ q389 : Option SL, cellsAt h385 ⟨p388.b, p388.o + 1⟩ 1 = some [.sl q389] ∧
 PNew [.sl q384] true h385 fun a390 h391 =>
 PAppendS 1 24 q389 (some ⟨a390, 0, 1, 1, 0⟩) h391 fun q392 h393 =>
 vPtr p8 fun p394 =>
 PStore h393 ⟨p394.b, p394.o + 1⟩ [.sl q392] fun h395 =>
 vPtr p1 fun p396 =>
 ∃ q397 : Option SL, cellsAt h395 ⟨p396.b, p396.o + 1⟩ 1 = some [.sl q397] ∧
 PNew [] true h395 fun a398 h399 =>
 (∃ q410 : Option SL, cellsAt h399 ⟨p396.b, p396.o + 1⟩ 1 = some [.sl q410] ∧
 LV.val (.sl q410) = LV.val (.sl q397)) ∧
 PAppendS 1 1 (some ⟨a398, 0, 0, 0, 0⟩) q4 h399 fun q400 h401 =>
 (∃ q409 : Option SL, cellsAt h401 ⟨p396.b, p396.o + 1⟩ 1 = some [.sl q409] ∧
 LV.val (.sl q409) = LV.val (.sl q397)) ∧
 PNew [.ptr p8, .int .i64 (slLen q387 : Int), .sl q400] true h401 fun a402 h403 =>
 (∃ q408 : Option SL, cellsAt h403 ⟨p396.b, p396.o + 1⟩ 1 = some [.sl q408] ∧
 LV.val (.sl q408) = LV.val (.sl q397)) ∧
 PAppendS 3 40 q397 (some ⟨a402, 0, 1, 1, 0⟩) h403 fun q404 h405 =>
 vPtr p1 fun p406 =>
 PStore h405 ⟨p406.b, p406.o + 1⟩ [.sl q404] fun h407 =>
 Q (.int .i64 0) h407)
 (vPtr p8 fun p411 =>
 ∃ q412 : Option SL, cellsAt h385 ⟨p411.b, p411.o + 1⟩ 1 = some [.sl q412] ∧
 vIdx q412 n3 1 fun p413 =>
 PStore h385 p413 [.sl q384] fun h414 =>
 vPtr p1 fun p415 =>
 ∃ q416 : Option SL, cellsAt h414 ⟨p415.b, p415.o + 1⟩ 1 = some [.sl q416] ∧
 PNew [] true h414 fun a417 h418 =>
 (∃ q429 : Option SL, cellsAt h418 ⟨p415.b, p415.o + 1⟩ 1 = some [.sl q429] ∧
 LV.val (.sl q429) = LV.val (.sl q416)) ∧
 PAppendS 1 1 (some ⟨a417, 0, 0, 0, 0⟩) q4 h418 fun q419 h420 =>
 (∃ q428 : Option SL, cellsAt h420 ⟨p415.b, p415.o + 1⟩ 1 = some [.sl q428] ∧
 LV.val (.sl q428) = LV.val (.sl q416)) ∧
 PNew [.ptr p8, .int .i64 n3, .sl q419] true h420 fun a421 h422 =>
 (∃ q427 : Option SL, cellsAt h422 ⟨p415.b, p415.o + 1⟩ 1 = some [.sl q427] ∧
 LV.val (.sl q427) = LV.val (.sl q416)) ∧
 PAppendS 3 40 q416 (some ⟨a421, 0, 1, 1, 0⟩) h422 fun q423 h424 =>
 vPtr p1 fun p425 =>
 PStore h424 ⟨p425.b, p425.o + 1⟩ [.sl q423] fun h426 =>
 Q (.int .i64 0) h426)))
 (AC Tryz.prog 199 [.ptr p1, .int .i64 0] h377 fun v430 h431 => ∃ n432 : Int, v430 = .int .i64 n432 ∧
 vif (n432 != 0)
 (Q (.int .i64 n432) h431)
 (PNew [] true h431 fun a433 h434 =>
 PAppendS 1 1 (some ⟨a433, 0, 0, 0, 0⟩) q4 h434 fun q435 h436 =>
 vif b5
 (vPtr p8 fun p437 =>
 ∃ q438 : Option SL, cellsAt h436 ⟨p437.b, p437.o + 1⟩ 1 = some [.sl q438] ∧
 vPtr p8 fun p439 =>
 ∃ q440 : Option SL, cellsAt h436 ⟨p439.b, p439.o + 1⟩ 1 = some [.sl q440] ∧
 PNew [.sl q435] true h436 fun a441 h442 =>
 PAppendS 1 24 q440 (some ⟨a441, 0, 1, 1, 0⟩) h442 fun q443 h444 =>
 vPtr p8 fun p445 =>
 PStore h444 ⟨p445.b, p445.o + 1⟩ [.sl q443] fun h446 =>
 vPtr p1 fun p447 =>
 ∃ q448 : Option SL, cellsAt h446 ⟨p447.b, p447.o + 1⟩ 1 = some [.sl q448] ∧
 PNew [] true h446 fun a449 h450 =>
 (∃ q461 : Option SL, cellsAt h450 ⟨p447.b, p447.o + 1⟩ 1 = some [.sl q461] ∧
 LV.val (.sl q461) = LV.val (.sl q448)) ∧
 PAppendS 1 1 (some ⟨a449, 0, 0, 0, 0⟩) q4 h450 fun q451 h452 =>
 (∃ q460 : Option SL, cellsAt h452 ⟨p447.b, p447.o + 1⟩ 1 = some [.sl q460] ∧
 LV.val (.sl q460) = LV.val (.sl q448)) ∧
 PNew [.ptr p8, .int .i64 (slLen q438 : Int), .sl q451] true h452 fun a453 h454 =>
 (∃ q459 : Option SL, cellsAt h454 ⟨p447.b, p447.o + 1⟩ 1 = some [.sl q459] ∧
 LV.val (.sl q459) = LV.val (.sl q448)) ∧
 PAppendS 3 40 q448 (some ⟨a453, 0, 1, 1, 0⟩) h454 fun q455 h456 =>
 vPtr p1 fun p457 =>
 PStore h456 ⟨p457.b, p457.o + 1⟩ [.sl q455] fun h458 =>
 Q (.int .i64 0) h458)
 (vPtr p8 fun p462 =>
 ∃ q463 : Option SL, cellsAt h436 ⟨p462.b, p462.o + 1⟩ 1 = some [.sl q463] ∧
 vIdx q463 n3 1 fun p464 =>
 PStore h436 p464 [.sl q435] fun h465 =>
 vPtr p1 fun p466 =>
 ∃ q467 : Option SL, cellsAt h465 ⟨p466.b, p466.o + 1⟩ 1 = some [.sl q467] ∧
 PNew [] true h465 fun a468 h469 =>
 (∃ q480 : Option SL, cellsAt h469 ⟨p466.b, p466.o + 1⟩ 1 = some [.sl q480] ∧
 LV.val (.sl q480) = LV.val (.sl q467)) ∧
 PAppendS 1 1 (some ⟨a468, 0, 0, 0, 0⟩) q4 h469 fun q470 h471 =>
 (∃ q479 : Option SL, cellsAt h471 ⟨p466.b, p466.o + 1⟩ 1 = some [.sl q479] ∧
 LV.val (.sl q479) = LV.val (.sl q467)) ∧
 PNew [.ptr p8, .int .i64 n3, .sl q470] true h471 fun a472 h473 =>
 (∃ q478 : Option SL, cellsAt h473 ⟨p466.b, p466.o + 1⟩ 1 = some [.sl q478] ∧
 LV.val (.sl q478) = LV.val (.sl q467)) ∧
 PAppendS 3 40 q467 (some ⟨a472, 0, 1, 1, 0⟩) h473 fun q474 h475 =>
 vPtr p1 fun p476 =>
 PStore h475 ⟨p476.b, p476.o + 1⟩ [.sl q474] fun h477 =>
 Q (.int .i64 0) h477))))
 ((LV.val (.tup []) = LV.val (.tup [])) ∧
 AC Tryz.prog 199 [.ptr p1, .int .i64 0] h7 fun v482 h483 => ∃ n484 : Int, v482 = .int .i64 n484 ∧
 vif (n484 != 0)
 (Q (.int .i64 n484) h483)
 (PNew [] true h483 fun a485 h486 =>
 PAppendS 1 1 (some ⟨a485, 0, 0, 0, 0⟩) q4 h486 fun q487 h488 =>
 vif b5
 (vPtr p8 fun p489 =>
 ∃ q490 : Option SL, cellsAt h488 ⟨p489.b, p489.o + 1⟩ 1 = some [.sl q490] ∧
 vPtr p8 fun p491 =>
 ∃ q492 : Option SL, cellsAt h488 ⟨p491.b, p491.o + 1⟩ 1 = some [.sl q492] ∧
 PNew [.sl q487] true h488 fun a493 h494 =>
 PAppendS 1 24 q492 (some ⟨a493, 0, 1, 1, 0⟩) h494 fun q495 h496 =>
 vPtr p8 fun p497 =>
 PStore h496 ⟨p497.b, p497.o + 1⟩ [.sl q495] fun h498 =>
 vPtr p1 fun p499 =>
 ∃ q500 : Option SL, cellsAt h498 ⟨p499.b, p499.o + 1⟩ 1 = some [.sl q500] ∧
 PNew [] true h498 fun a501 h502 =>
 (∃ q513 : Option SL, cellsAt h502 ⟨p499.b, p499.o + 1⟩ 1 = some [.sl q513] ∧
 LV.val (.sl q513) = LV.val (.sl q500)) ∧
 PAppendS 1 1 (some ⟨a501, 0, 0, 0, 0⟩) q4 h502 fun q503 h504 =>
 (∃ q512 : Option SL, cellsAt h504 ⟨p499.b, p499.o + 1⟩ 1 = some [.sl q512] ∧
 LV.val (.sl q512) = LV.val (.sl q500)) ∧
 PNew [.ptr p8, .int .i64 (slLen q490 : Int), .sl q503] true h504 fun a505 h506 =>
 (∃ q511 : Option SL, cellsAt h506 ⟨p499.b, p499.o + 1⟩ 1 = some [.sl q511] ∧
 LV.val (.sl q511) = LV.val (.sl q500)) ∧
 PAppendS 3 40 q500 (some ⟨a505, 0, 1, 1, 0⟩) h506 fun q507 h508 =>
 vPtr p1 fun p509 =>
 PStore h508 ⟨p509.b, p509.o + 1⟩ [.sl q507] fun h510 =>
 Q (.int .i64 0) h510)
 (vPtr p8 fun p514 =>
 ∃ q515 : Option SL, cellsAt h488 ⟨p514.b, p514.o + 1⟩ 1 = some [.sl q515] ∧
 vIdx q515 n3 1 fun p516 =>
 PStore h488 p516 [.sl q487] fun h517 =>
 vPtr p1 fun p518 =>
 ∃ q519 : Option SL, cellsAt h517 ⟨p518.b, p518.o + 1⟩ 1 = some [.sl q519] ∧
 PNew [] true h517 fun a520 h521 =>
 (∃ q532 : Option SL, cellsAt h521 ⟨p518.b, p518.o + 1⟩ 1 = some [.sl q532] ∧
 LV.val (.sl q532) = LV.val (.sl q519)) ∧
 PAppendS 1 1 (some ⟨a520, 0, 0, 0, 0⟩) q4 h521 fun q522 h523 =>
 (∃ q531 : Option SL, cellsAt h523 ⟨p518.b, p518.o + 1⟩ 1 = some [.sl q531] ∧
 LV.val (.sl q531) = LV.val (.sl q519)) ∧
 PNew [.ptr p8, .int .i64 n3, .sl q522] true h523 fun a524 h525 =>
 (∃ q530 : Option SL, cellsAt h525 ⟨p518.b, p518.o + 1⟩ 1 = some [.sl q530] ∧
 LV.val (.sl q530) = LV.val (.sl q519)) ∧
 PAppendS 3 40 q519 (some ⟨a524, 0, 1, 1, 0⟩) h525 fun q526 h527 =>
 vPtr p1 fun p528 =>
 PStore h527 ⟨p528.b, p528.o + 1⟩ [.sl q526] fun h529 =>
 Q (.int .i64 0) h529))))))
theorem ac128 {p1 : Option PA} {s2 : List UInt8} {n3 : Int} {q4 : Option SL} {b5 : Bool} {h : Heap} {Q : AV → Heap → Prop} (hk : vc128 p1 s2 n3 q4 b5 h Q) : AC Tryz.prog 128 [.ptr p1, .str s2, .int .i64 n3, .sl q4, .bool b5] h Q :=
 AC_by (H := hintsOf [] []) (by kernel_rfl) (by kernel_rfl) hk

/-- oxbowref05.Disk).Sync: what it asks. -/
def vc129 (p1 : Option PA) (s2 : List UInt8) (h : Heap) (Q : AV → Heap → Prop) : Prop :=
 AC Tryz.prog 55 [.ptr p1, .str s2] h fun v3 h4 => ∃ p5 : Option PA, v3 = .ptr p5 ∧
 vif (p5.isNone)
 (AC Tryz.prog 199 [.ptr p1, .int .i64 4] h4 fun v6 h7 => ∃ n8 : Int, v6 = .int .i64 n8 ∧
 vif (n8 != 0)
 (Q (.int .i64 n8) h7)
 (∃ (I11 : List AV → Heap → Prop) (m12 : List AV → Heap → Nat), I11 [.sl none, .int .i64 0] h7 ∧
 ∀ q9 : Option SL, ∀ n10 : Int, ∀ h13 : Heap, I11 [.sl q9, .int .i64 n10] h13 →
 vPtr p1 fun p14 =>
 ∃ q15 : Option SL, cellsAt h13 ⟨p14.b, p14.o + 1⟩ 1 = some [.sl q15] ∧
 vif (decide (n10 < (slLen q15 : Int)))
 (vPtr p1 fun p16 =>
 ∃ q17 : Option SL, cellsAt h13 ⟨p16.b, p16.o + 1⟩ 1 = some [.sl q17] ∧
 vIdx q17 n10 3 fun p18 =>
 ∃ p19 : Option PA, cellsAt h13 ⟨p18.b, p18.o + 0⟩ 1 = some [.ptr p19] ∧
 aEq Tryz.prog 95 h13 (.ptr p19) (.ptr p5) fun b20 =>
 vif b20
 (vPtr p1 fun p21 =>
 ∃ q22 : Option SL, cellsAt h13 ⟨p21.b, p21.o + 1⟩ 1 = some [.sl q22] ∧
 vIdx q22 n10 3 fun p23 =>
 ∃ n24 : Int, cellsAt h13 ⟨p23.b, p23.o + 1⟩ 1 = some [.int .i64 n24] ∧
 vPtr p1 fun p25 =>
 ∃ q26 : Option SL, cellsAt h13 ⟨p25.b, p25.o + 1⟩ 1 = some [.sl q26] ∧
 vIdx q26 n10 3 fun p27 =>
 ∃ q28 : Option SL, cellsAt h13 ⟨p27.b, p27.o + 2⟩ 1 = some [.sl q28] ∧
 AC Tryz.prog 197 [.ptr p5, .int .i64 n24, .sl q28, .int .i64 64] h13 fun v29 h30 => v29 = .tup [] ∧
 (True) ∧ I11 [.sl q9, .int .i64 (wrapK .i64 (n10 + 1))] h30 ∧ m12 [.sl q9, .int .i64 (wrapK .i64 (n10 + 1))] h30 < m12 [.sl q9, .int .i64 n10] h13)
 (vPtr p1 fun p31 =>
 ∃ q32 : Option SL, cellsAt h13 ⟨p31.b, p31.o + 1⟩ 1 = some [.sl q32] ∧
 vIdx q32 n10 3 fun p33 =>
 ∃ p34 : Option PA, ∃ n35 : Int, ∃ q36 : Option SL, cellsAt h13 p33 3 = some [.ptr p34, .int .i64 n35, .sl q36] ∧
 PNew [.ptr p34, .int .i64 n35, .sl q36] true h13 fun a37 h38 =>
 PAppendS 3 40 q9 (some ⟨a37, 0, 1, 1, 0⟩) h38 fun q39 h40 =>
 (True) ∧ I11 [.sl q39, .int .i64 (wrapK .i64 (n10 + 1))] h40 ∧ m12 [.sl q39, .int .i64 (wrapK .i64 (n10 + 1))] h40 < m12 [.sl q9, .int .i64 n10] h13))
 (vPtr p1 fun p41 =>
 PStore h13 ⟨p41.b, p41.o + 1⟩ [.sl q9] fun h42 =>
 Q (.int .i64 0) h42)))
 (AC Tryz.prog 199 [.ptr p1, .int .i64 0] h4 fun v43 h44 => ∃ n45 : Int, v43 = .int .i64 n45 ∧
 vif (n45 != 0)
 (Q (.int .i64 n45) h44)
 (∃ (I48 : List AV → Heap → Prop) (m49 : List AV → Heap → Nat), I48 [.sl none, .int .i64 0] h44 ∧
 ∀ q46 : Option SL, ∀ n47 : Int, ∀ h50 : Heap, I48 [.sl q46, .int .i64 n47] h50 →
 vPtr p1 fun p51 =>
 ∃ q52 : Option SL, cellsAt h50 ⟨p51.b, p51.o + 1⟩ 1 = some [.sl q52] ∧
 vif (decide (n47 < (slLen q52 : Int)))
 (vPtr p1 fun p53 =>
 ∃ q54 : Option SL, cellsAt h50 ⟨p53.b, p53.o + 1⟩ 1 = some [.sl q54] ∧
 vIdx q54 n47 3 fun p55 =>
 ∃ p56 : Option PA, cellsAt h50 ⟨p55.b, p55.o + 0⟩ 1 = some [.ptr p56] ∧
 aEq Tryz.prog 95 h50 (.ptr p56) (.ptr p5) fun b57 =>
 vif b57
 (vPtr p1 fun p58 =>
 ∃ q59 : Option SL, cellsAt h50 ⟨p58.b, p58.o + 1⟩ 1 = some [.sl q59] ∧
 vIdx q59 n47 3 fun p60 =>
 ∃ n61 : Int, cellsAt h50 ⟨p60.b, p60.o + 1⟩ 1 = some [.int .i64 n61] ∧
 vPtr p1 fun p62 =>
 ∃ q63 : Option SL, cellsAt h50 ⟨p62.b, p62.o + 1⟩ 1 = some [.sl q63] ∧
 vIdx q63 n47 3 fun p64 =>
 ∃ q65 : Option SL, cellsAt h50 ⟨p64.b, p64.o + 2⟩ 1 = some [.sl q65] ∧
 AC Tryz.prog 197 [.ptr p5, .int .i64 n61, .sl q65, .int .i64 64] h50 fun v66 h67 => v66 = .tup [] ∧
 (True) ∧ I48 [.sl q46, .int .i64 (wrapK .i64 (n47 + 1))] h67 ∧ m49 [.sl q46, .int .i64 (wrapK .i64 (n47 + 1))] h67 < m49 [.sl q46, .int .i64 n47] h50)
 (vPtr p1 fun p68 =>
 ∃ q69 : Option SL, cellsAt h50 ⟨p68.b, p68.o + 1⟩ 1 = some [.sl q69] ∧
 vIdx q69 n47 3 fun p70 =>
 ∃ p71 : Option PA, ∃ n72 : Int, ∃ q73 : Option SL, cellsAt h50 p70 3 = some [.ptr p71, .int .i64 n72, .sl q73] ∧
 PNew [.ptr p71, .int .i64 n72, .sl q73] true h50 fun a74 h75 =>
 PAppendS 3 40 q46 (some ⟨a74, 0, 1, 1, 0⟩) h75 fun q76 h77 =>
 (True) ∧ I48 [.sl q76, .int .i64 (wrapK .i64 (n47 + 1))] h77 ∧ m49 [.sl q76, .int .i64 (wrapK .i64 (n47 + 1))] h77 < m49 [.sl q46, .int .i64 n47] h50))
 (vPtr p1 fun p78 =>
 PStore h50 ⟨p78.b, p78.o + 1⟩ [.sl q46] fun h79 =>
 Q (.int .i64 0) h79)))
theorem ac129 {p1 : Option PA} {s2 : List UInt8} {h : Heap} {Q : AV → Heap → Prop} (hk : vc129 p1 s2 h Q) : AC Tryz.prog 129 [.ptr p1, .str s2] h Q :=
 AC_by (H := hintsOf [] [(0, [7, 8], [])]) (by kernel_rfl) (by kernel_rfl) hk

/-- files.Disk).find: what it asks. -/
def vc130 (p1 : Option PA) (s2 : List UInt8) (h : Heap) (Q : AV → Heap → Prop) : Prop :=
 AC Tryz.prog 171 [.ptr p1] h fun v3 h4 => ∃ n5 : Int, v3 = .int .i64 n5 ∧
 vif (n5 != 0)
 (Q (.tup [.ptr none, .int .i64 n5]) h4)
 (vPtr p1 fun p6 =>
 ∃ m7 : Option Nat, cellsAt h4 ⟨p6.b, p6.o + 0⟩ 1 = some [.map m7] ∧
 PLookup Tryz.prog 9 183 m7 (.str s2) false h4 fun v8 =>
 ∃ p9 : Option PA, v8 = .ptr p9 ∧
 vif (p9.isNone)
 (Q (.tup [.ptr none, .int .i64 4]) h4)
 (Q (.tup [.ptr p9, .int .i64 0]) h4))
theorem ac130 {p1 : Option PA} {s2 : List UInt8} {h : Heap} {Q : AV → Heap → Prop} (hk : vc130 p1 s2 h Q) : AC Tryz.prog 130 [.ptr p1, .str s2] h Q :=
 AC_by (H := hintsOf [] []) (by kernel_rfl) (by kernel_rfl) hk

/-- slices.Clone: what it asks. -/
def vc131 (q1 : Option SL) (h : Heap) (Q : AV → Heap → Prop) : Prop :=
 vif (q1.isNone)
 (Q (.sl none) h)
 (PNew [] true h fun a2 h3 =>
 PAppendS 1 1 (some ⟨a2, 0, 0, 0, 0⟩) q1 h3 fun q4 h5 =>
 Q (.sl q4) h5)
theorem ac131 {q1 : Option SL} {h : Heap} {Q : AV → Heap → Prop} (hk : vc131 q1 h Q) : AC Tryz.prog 131 [.sl q1] h Q :=
 AC_by (H := hintsOf [] []) (by kernel_rfl) (by kernel_rfl) hk

/-- oxbowref07.Check: what it asks. -/
def vc132 (n1 : Int) (n2 : Int) (n3 : Int) (n4 : Int) (h : Heap) (Q : AV → Heap → Prop) : Prop :=
 AC Tryz.prog 206 [.agg [.int .i64 n1, .int .i64 n2]] h fun v5 h6 => ∃ b7 : Bool, v5 = .bool b7 ∧
 vif (!b7)
 (Q (.int .i64 40) h6)
 (AC Tryz.prog 207 [.agg [.int .i64 n3, .int .i64 n4]] h6 fun v8 h9 => ∃ b10 : Bool, v8 = .bool b10 ∧
 vif (!b10)
 (Q (.int .i64 30) h9)
 (Q (.int .i64 0) h9))
theorem ac132 {n1 : Int} {n2 : Int} {n3 : Int} {n4 : Int} {h : Heap} {Q : AV → Heap → Prop} (hk : vc132 n1 n2 n3 n4 h Q) : AC Tryz.prog 132 [.agg [.int .i64 n1, .int .i64 n2, .int .i64 n3, .int .i64 n4]] h Q :=
 AC_by (H := hintsOf [1] []) (by kernel_rfl) (by kernel_rfl) hk

/-- oxbowref07.Compare: what it asks. -/
def vc133 (n1 : Int) (n2 : Int) (n3 : Int) (n4 : Int) (n5 : Int) (n6 : Int) (n7 : Int) (n8 : Int) (h : Heap) (Q : AV → Heap → Prop) : Prop :=
 AC Tryz.prog 208 [.agg [.int .i64 n1, .int .i64 n2], .agg [.int .i64 n5, .int .i64 n6]] h fun v9 h10 => ∃ n11 : Int, v9 = .int .i64 n11 ∧
 vif (n11 != 0)
 (Q (.int .i64 n11) h10)
 (AC Tryz.prog 209 [.agg [.int .i64 n3, .int .i64 n4], .agg [.int .i64 n7, .int .i64 n8]] h10 fun v12 h13 => ∃ n14 : Int, v12 = .int .i64 n14 ∧
 Q (.int .i64 n14) h13)
theorem ac133 {n1 : Int} {n2 : Int} {n3 : Int} {n4 : Int} {n5 : Int} {n6 : Int} {n7 : Int} {n8 : Int} {h : Heap} {Q : AV → Heap → Prop} (hk : vc133 n1 n2 n3 n4 n5 n6 n7 n8 h Q) : AC Tryz.prog 133 [.agg [.int .i64 n1, .int .i64 n2, .int .i64 n3, .int .i64 n4], .agg [.int .i64 n5, .int .i64 n6, .int .i64 n7, .int .i64 n8]] h Q :=
 AC_by (H := hintsOf [2, 3] []) (by kernel_rfl) (by kernel_rfl) hk

/-- oxbowref01.Reader).Num: what it asks. -/
def vc135 (p1 : Option PA) (h : Heap) (Q : AV → Heap → Prop) : Prop :=
 AC Tryz.prog 211 [.ptr p1, .int .i64 1] h fun v2 h3 => ∃ q4 : Option SL, v2 = .sl q4 ∧
 vPtr p1 fun p5 =>
 ∃ b6 : Bool, cellsAt h3 ⟨p5.b, p5.o + 1⟩ 1 = some [.bool b6] ∧
 vif b6
 (Q (.int .i64 0) h3)
 (vIdx q4 0 1 fun p7 =>
 ∃ n8 : Int, cellsAt h3 p7 1 = some [.int .u8 n8] ∧
 vif (decide ((wrapK .i64 n8) < 240))
 (Q (.int .i64 (wrapK .i64 n8)) h3)
 (vif (decide ((wrapK .i64 n8) < 248))
 (AC Tryz.prog 212 [.ptr p1, .int .i64 1] h3 fun v9 h10 => ∃ n11 : Int, v9 = .int .i64 n11 ∧
 vPtr p1 fun p12 =>
 ∃ b13 : Bool, cellsAt h10 ⟨p12.b, p12.o + 1⟩ 1 = some [.bool b13] ∧
 vif b13
 (vPtr p1 fun p14 =>
 PStore h10 ⟨p14.b, p14.o + 1⟩ [.bool true] fun h15 =>
 Q (.int .i64 0) h15)
 (AC Tryz.prog 141 [.int .i64 (wrapK .i64 ((wrapK .i64 (240 + (wrapK .i64 (256 * (wrapK .i64 ((wrapK .i64 n8) - 240)))))) + n11))] h10 fun v16 h17 => ∃ q18 : Option SL, v16 = .sl q18 ∧
 AC Tryz.prog 213 [.int .i64 (wrapK .i64 n8)] h17 fun v19 h20 => ∃ n21 : Int, v19 = .int .i64 n21 ∧
 vif ((slLen q18 : Int) != n21)
 (vPtr p1 fun p22 =>
 PStore h20 ⟨p22.b, p22.o + 1⟩ [.bool true] fun h23 =>
 Q (.int .i64 0) h23)
 (Q (.int .i64 (wrapK .i64 ((wrapK .i64 (240 + (wrapK .i64 (256 * (wrapK .i64 ((wrapK .i64 n8) - 240)))))) + n11))) h20)))
 (vif (decide ((wrapK .i64 n8) < 255))
 (AC Tryz.prog 212 [.ptr p1, .int .i64 (wrapK .i64 ((wrapK .i64 n8) - 246))] h3 fun v24 h25 => ∃ n26 : Int, v24 = .int .i64 n26 ∧
 vPtr p1 fun p27 =>
 ∃ b28 : Bool, cellsAt h25 ⟨p27.b, p27.o + 1⟩ 1 = some [.bool b28] ∧
 vif b28
 (vPtr p1 fun p29 =>
 PStore h25 ⟨p29.b, p29.o + 1⟩ [.bool true] fun h30 =>
 Q (.int .i64 0) h30)
 (AC Tryz.prog 141 [.int .i64 n26] h25 fun v31 h32 => ∃ q33 : Option SL, v31 = .sl q33 ∧
 AC Tryz.prog 213 [.int .i64 (wrapK .i64 n8)] h32 fun v34 h35 => ∃ n36 : Int, v34 = .int .i64 n36 ∧
 vif ((slLen q33 : Int) != n36)
 (vPtr p1 fun p37 =>
 PStore h35 ⟨p37.b, p37.o + 1⟩ [.bool true] fun h38 =>
 Q (.int .i64 0) h38)
 (Q (.int .i64 n26) h35)))
 (vPtr p1 fun p39 =>
 PStore h3 ⟨p39.b, p39.o + 1⟩ [.bool true] fun h40 =>
 vPtr p1 fun p41 =>
 ∃ b42 : Bool, cellsAt h40 ⟨p41.b, p41.o + 1⟩ 1 = some [.bool b42] ∧
 vif b42
 (vPtr p1 fun p43 =>
 PStore h40 ⟨p43.b, p43.o + 1⟩ [.bool true] fun h44 =>
 Q (.int .i64 0) h44)
 (AC Tryz.prog 141 [.int .i64 (wrapK .i64 n8)] h40 fun v45 h46 => ∃ q47 : Option SL, v45 = .sl q47 ∧
 AC Tryz.prog 213 [.int .i64 (wrapK .i64 n8)] h46 fun v48 h49 => ∃ n50 : Int, v48 = .int .i64 n50 ∧
 vif ((slLen q47 : Int) != n50)
 (vPtr p1 fun p51 =>
 PStore h49 ⟨p51.b, p51.o + 1⟩ [.bool true] fun h52 =>
 Q (.int .i64 0) h52)
 (Q (.int .i64 (wrapK .i64 n8)) h49))))))
theorem ac135 {p1 : Option PA} {h : Heap} {Q : AV → Heap → Prop} (hk : vc135 p1 h Q) : AC Tryz.prog 135 [.ptr p1] h Q :=
 AC_by (H := hintsOf [] []) (by kernel_rfl) (by kernel_rfl) hk

/-- oxbowref07.Unpack: what it asks. -/
def vc136 (q1 : Option SL) (h : Heap) (Q : AV → Heap → Prop) : Prop :=
 PNew [] true h fun a2 h3 =>
 PAppendS 1 1 (some ⟨a2, 0, 0, 0, 0⟩) q1 h3 fun q4 h5 =>
 PNew [.sl q4, .bool false] true h5 fun a6 h7 =>
 ∃ (I9 : List AV → Heap → Prop) (m10 : List AV → Heap → Nat), I9 [.sl none] h7 ∧
 ∀ q8 : Option SL, ∀ h11 : Heap, I9 [.sl q8] h11 →
 ∃ q12 : Option SL, cellsAt h11 ⟨a6, 0⟩ 1 = some [.sl q12] ∧
 vif (decide ((slLen q12 : Int) > 0))
 (∃ b13 : Bool, cellsAt h11 ⟨a6, 1⟩ 1 = some [.bool b13] ∧
 vif (!b13)
 (AC Tryz.prog 214 [.ptr (some ⟨a6, 0⟩)] h11 fun v14 h15 => ∃ n16 : Int, ∃ n17 : Int, ∃ n18 : Int, v14 = .tup [.agg [.int .i64 n16, .int .i64 n17], .int .i64 n18] ∧
 AC Tryz.prog 215 [.ptr (some ⟨a6, 0⟩)] h15 fun v19 h20 => ∃ n21 : Int, ∃ n22 : Int, ∃ n23 : Int, v19 = .tup [.agg [.int .i64 n21, .int .i64 n22], .int .i64 n23] ∧
 vif (n18 != 0)
 (Q (.tup [.sl none, .bool false]) h20)
 (vif (n23 != 0)
 (Q (.tup [.sl none, .bool false]) h20)
 (PNew [.int .i64 n16, .int .i64 n17, .int .i64 n21, .int .i64 n22] true h20 fun a24 h25 =>
 PAppendS 4 32 q8 (some ⟨a24, 0, 1, 1, 0⟩) h25 fun q26 h27 =>
 (True) ∧ I9 [.sl q26] h27 ∧ m10 [.sl q26] h27 < m10 [.sl q8] h11)))
 (Q (.tup [.sl q8, .bool true]) h11))
 (Q (.tup [.sl q8, .bool true]) h11)
theorem ac136 {q1 : Option SL} {h : Heap} {Q : AV → Heap → Prop} (hk : vc136 q1 h Q) : AC Tryz.prog 136 [.sl q1] h Q :=
 AC_by (H := hintsOf [6, 8] [(0, [5], [])]) (by kernel_rfl) (by kernel_rfl) hk

/-- oxbowref07.Sorted: what it asks. -/
def vc137 (q1 : Option SL) (h : Heap) (Q : AV → Heap → Prop) : Prop :=
 ∃ (I3 : List AV → Heap → Prop) (m4 : List AV → Heap → Nat), I3 [.int .i64 1] h ∧
 ∀ n2 : Int, ∀ h5 : Heap, I3 [.int .i64 n2] h5 →
 vif (decide (n2 < (slLen q1 : Int)))
 (vIdx q1 (wrapK .i64 (n2 - 1)) 4 fun p6 =>
 ∃ n7 : Int, ∃ n8 : Int, ∃ n9 : Int, ∃ n10 : Int, cellsAt h5 p6 4 = some [.int .i64 n7, .int .i64 n8, .int .i64 n9, .int .i64 n10] ∧
 vIdx q1 n2 4 fun p11 =>
 ∃ n12 : Int, ∃ n13 : Int, ∃ n14 : Int, ∃ n15 : Int, cellsAt h5 p11 4 = some [.int .i64 n12, .int .i64 n13, .int .i64 n14, .int .i64 n15] ∧
 AC Tryz.prog 133 [.agg [.int .i64 n7, .int .i64 n8, .int .i64 n9, .int .i64 n10], .agg [.int .i64 n12, .int .i64 n13, .int .i64 n14, .int .i64 n15]] h5 fun v16 h17 => ∃ n18 : Int, v16 = .int .i64 n18 ∧
 vif (decide (n18 > 0))
 (Q (.bool false) h17)
 ((True) ∧ I3 [.int .i64 (wrapK .i64 (n2 + 1))] h17 ∧ m4 [.int .i64 (wrapK .i64 (n2 + 1))] h17 < m4 [.int .i64 n2] h5))
 (Q (.bool true) h5)
theorem ac137 {q1 : Option SL} {h : Heap} {Q : AV → Heap → Prop} (hk : vc137 q1 h Q) : AC Tryz.prog 137 [.sl q1] h Q :=
 AC_by (H := hintsOf [] [(0, [3], [])]) (by kernel_rfl) (by kernel_rfl) hk

/-- oxbowref07.Pack: what it asks. -/
def vc139 (q1 : Option SL) (h : Heap) (Q : AV → Heap → Prop) : Prop :=
 ∃ (I4 : List AV → Heap → Prop) (m5 : List AV → Heap → Nat), I4 [.sl none, .int .i64 0] h ∧
 ∀ q2 : Option SL, ∀ n3 : Int, ∀ h6 : Heap, I4 [.sl q2, .int .i64 n3] h6 →
 vif (decide (n3 < (slLen q1 : Int)))
 (vIdx q1 n3 4 fun p7 =>
 ∃ n8 : Int, ∃ n9 : Int, ∃ n10 : Int, ∃ n11 : Int, cellsAt h6 p7 4 = some [.int .i64 n8, .int .i64 n9, .int .i64 n10, .int .i64 n11] ∧
 AC Tryz.prog 216 [.agg [.int .i64 n8, .int .i64 n9, .int .i64 n10, .int .i64 n11]] h6 fun v12 h13 => ∃ q14 : Option SL, v12 = .sl q14 ∧
 vif (decide ((wrapK .i64 ((slLen q2 : Int) - 1)) < 0))
 (PNew [.sl q14] true h13 fun a15 h16 =>
 PAppendS 1 24 q2 (some ⟨a15, 0, 1, 1, 0⟩) h16 fun q17 h18 =>
 (True) ∧ I4 [.sl q17, .int .i64 (wrapK .i64 (n3 + 1))] h18 ∧ m5 [.sl q17, .int .i64 (wrapK .i64 (n3 + 1))] h18 < m5 [.sl q2, .int .i64 n3] h6)
 (vIdx q2 (wrapK .i64 ((slLen q2 : Int) - 1)) 1 fun p19 =>
 ∃ q20 : Option SL, cellsAt h13 p19 1 = some [.sl q20] ∧
 vif (decide ((wrapK .i64 ((slLen q20 : Int) + (slLen q14 : Int))) > 43))
 (PNew [.sl q14] true h13 fun a21 h22 =>
 PAppendS 1 24 q2 (some ⟨a21, 0, 1, 1, 0⟩) h22 fun q23 h24 =>
 (True) ∧ I4 [.sl q23, .int .i64 (wrapK .i64 (n3 + 1))] h24 ∧ m5 [.sl q23, .int .i64 (wrapK .i64 (n3 + 1))] h24 < m5 [.sl q2, .int .i64 n3] h6)
 (PNew [] true h13 fun a25 h26 =>
 vIdx q2 (wrapK .i64 ((slLen q2 : Int) - 1)) 1 fun p27 =>
 ∃ q28 : Option SL, cellsAt h26 p27 1 = some [.sl q28] ∧
 PAppendS 1 1 (some ⟨a25, 0, 0, 0, 0⟩) q28 h26 fun q29 h30 =>
 PAppendS 1 1 q29 q14 h30 fun q31 h32 =>
 vIdx q2 (wrapK .i64 ((slLen q2 : Int) - 1)) 1 fun p33 =>
 PStore h32 p33 [.sl q31] fun h34 =>
 (True) ∧ I4 [.sl q2, .int .i64 (wrapK .i64 (n3 + 1))] h34 ∧ m5 [.sl q2, .int .i64 (wrapK .i64 (n3 + 1))] h34 < m5 [.sl q2, .int .i64 n3] h6)))
 (Q (.sl q2) h6)
theorem ac139 {q1 : Option SL} {h : Heap} {Q : AV → Heap → Prop} (hk : vc139 q1 h Q) : AC Tryz.prog 139 [.sl q1] h Q :=
 AC_by (H := hintsOf [] [(0, [3, 4], [])]) (by kernel_rfl) (by kernel_rfl) hk

/-- oxbowref08.heads: what it asks. -/
def vc140 (q1 : Option SL) (h : Heap) (Q : AV → Heap → Prop) : Prop :=
 ∃ (I4 : List AV → Heap → Prop) (m5 : List AV → Heap → Nat), I4 [.sl none, .int .i64 0] h ∧
 ∀ q2 : Option SL, ∀ n3 : Int, ∀ h6 : Heap, I4 [.sl q2, .int .i64 n3] h6 →
 vif (decide (n3 < (slLen q1 : Int)))
 (vIdx q1 n3 1 fun p7 =>
 ∃ q8 : Option SL, cellsAt h6 p7 1 = some [.sl q8] ∧
 AC Tryz.prog 136 [.sl q8] h6 fun v9 h10 => ∃ q11 : Option SL, ∃ b12 : Bool, v9 = .tup [.sl q11, .bool b12] ∧
 vIdx q11 0 4 fun p13 =>
 ∃ n14 : Int, ∃ n15 : Int, ∃ n16 : Int, ∃ n17 : Int, cellsAt h10 p13 4 = some [.int .i64 n14, .int .i64 n15, .int .i64 n16, .int .i64 n17] ∧
 PNew [.int .i64 n14, .int .i64 n15, .int .i64 n16, .int .i64 n17] true h10 fun a18 h19 =>
 PAppendS 4 32 q2 (some ⟨a18, 0, 1, 1, 0⟩) h19 fun q20 h21 =>
 (True) ∧ I4 [.sl q20, .int .i64 (wrapK .i64 (n3 + 1))] h21 ∧ m5 [.sl q20, .int .i64 (wrapK .i64 (n3 + 1))] h21 < m5 [.sl q2, .int .i64 n3] h6)
 (Q (.sl q2) h6)
theorem ac140 {q1 : Option SL} {h : Heap} {Q : AV → Heap → Prop} (hk : vc140 q1 h Q) : AC Tryz.prog 140 [.sl q1] h Q :=
 AC_by (H := hintsOf [] [(0, [3, 4], [])]) (by kernel_rfl) (by kernel_rfl) hk

/-- oxbowref01.Put: what it asks. -/
def vc141 (n1 : Int) (h : Heap) (Q : AV → Heap → Prop) : Prop :=
 vif (decide (n1 < 240))
 (PNew [.int .u8 (wrapK .u8 n1)] true h fun a2 h3 =>
 Q (.sl (some ⟨a2, 0, 1, 1, 0⟩)) h3)
 (vif (decide (n1 < 2288))
 (PNew [.int .u8 (wrapK .u8 (wrapK .i64 (240 + (wrapK .i64 (Int.tdiv (wrapK .i64 (n1 - 240)) 256))))), .int .u8 (wrapK .u8 (Int.tmod (wrapK .i64 (n1 - 240)) 256))] true h fun a4 h5 =>
 Q (.sl (some ⟨a4, 0, 2, 2, 0⟩)) h5)
 (∃ (I7 : List AV → Heap → Prop) (m8 : List AV → Heap → Nat), I7 [.int .i64 2] h ∧
 ∀ n6 : Int, ∀ h9 : Heap, I7 [.int .i64 n6] h9 →
 vif (decide (n6 < 8))
 (AC Tryz.prog 217 [.int .i64 n1, .int .i64 n6] h9 fun v10 h11 => ∃ q12 : Option SL, ∃ b13 : Bool, v10 = .tup [.sl q12, .bool b13] ∧
 vif b13
 (PNew [.int .u8 (wrapK .u8 (wrapK .i64 (246 + n6)))] true h11 fun a14 h15 =>
 PAppendS 1 1 (some ⟨a14, 0, 1, 1, 0⟩) q12 h15 fun q16 h17 =>
 Q (.sl q16) h17)
 ((True) ∧ I7 [.int .i64 (wrapK .i64 (n6 + 1))] h11 ∧ m8 [.int .i64 (wrapK .i64 (n6 + 1))] h11 < m8 [.int .i64 n6] h9))
 (AC Tryz.prog 217 [.int .i64 n1, .int .i64 8] h9 fun v18 h19 => ∃ q20 : Option SL, ∃ b21 : Bool, v18 = .tup [.sl q20, .bool b21] ∧
 PNew [.int .u8 254] true h19 fun a22 h23 =>
 PAppendS 1 1 (some ⟨a22, 0, 1, 1, 0⟩) q20 h23 fun q24 h25 =>
 Q (.sl q24) h25)))
theorem ac141 {n1 : Int} {h : Heap} {Q : AV → Heap → Prop} (hk : vc141 n1 h Q) : AC Tryz.prog 141 [.int .i64 n1] h Q :=
 AC_by (H := hintsOf [] [(1, [3], [])]) (by kernel_rfl) (by kernel_rfl) hk

/-- oxbowref06.Put: what it asks. -/
def vc142 (n1 : Int) (q2 : Option SL) (h : Heap) (Q : AV → Heap → Prop) : Prop :=
 AC Tryz.prog 217 [.int .i64 n1, .int .i64 8] h fun v3 h4 => ∃ q5 : Option SL, ∃ b6 : Bool, v3 = .tup [.sl q5, .bool b6] ∧
 PNew [] true h4 fun a7 h8 =>
 PAppendS 1 1 (some ⟨a7, 0, 0, 0, 0⟩) q5 h8 fun q9 h10 =>
 PNew [.int .u8 (wrapK .u8 (slLen q2 : Int))] true h10 fun a11 h12 =>
 PAppendS 1 1 q9 (some ⟨a11, 0, 1, 1, 0⟩) h12 fun q13 h14 =>
 PAppendS 1 1 q13 q2 h14 fun q15 h16 =>
 ∃ (I18 : List AV → Heap → Prop) (m19 : List AV → Heap → Nat), I18 [.sl q15] h16 ∧
 ∀ q17 : Option SL, ∀ h20 : Heap, I18 [.sl q17] h20 →
 vif (decide ((slLen q17 : Int) < 52))
 (PNew [.int .u8 0] true h20 fun a21 h22 =>
 PAppendS 1 1 q17 (some ⟨a21, 0, 1, 1, 0⟩) h22 fun q23 h24 =>
 (True) ∧ I18 [.sl q23] h24 ∧ m19 [.sl q23] h24 < m19 [.sl q17] h20)
 (AC Tryz.prog 218 [.sl q17] h20 fun v25 h26 => ∃ q27 : Option SL, v25 = .sl q27 ∧
 PAppendS 1 1 q27 q5 h26 fun q28 h29 =>
 Q (.sl q28) h29)
theorem ac142 {n1 : Int} {q2 : Option SL} {h : Heap} {Q : AV → Heap → Prop} (hk : vc142 n1 q2 h Q) : AC Tryz.prog 142 [.int .i64 n1, .sl q2] h Q :=
 AC_by (H := hintsOf [] [(0, [7], [])]) (by kernel_rfl) (by kernel_rfl) hk

/-- entry.Unpack: what it asks. -/
def vc156 (q1 : Option SL) (h : Heap) (Q : AV → Heap → Prop) : Prop :=
 vif (decide ((slLen q1 : Int) > 43))
 (Q (.tup [.sl none, .int .i64 3]) h)
 (AC Tryz.prog 158 [.sl q1] h fun v2 h3 => ∃ p4 : Option PA, v2 = .ptr p4 ∧
 ∃ (I6 : List AV → Heap → Prop) (m7 : List AV → Heap → Nat), I6 [.sl none] h3 ∧
 ∀ q5 : Option SL, ∀ h8 : Heap, I6 [.sl q5] h8 →
 AC Tryz.prog 224 [.ptr p4] h8 fun v9 h10 => ∃ n11 : Int, v9 = .int .i64 n11 ∧
 vif (decide (n11 > 0))
 (AC Tryz.prog 225 [.ptr p4] h10 fun v12 h13 => ∃ n14 : Int, ∃ n15 : Int, ∃ n16 : Int, v12 = .tup [.agg [.int .i64 n14, .int .i64 n15], .int .i64 n16] ∧
 AC Tryz.prog 226 [.ptr p4] h13 fun v17 h18 => ∃ n19 : Int, ∃ n20 : Int, ∃ n21 : Int, v17 = .tup [.agg [.int .i64 n19, .int .i64 n20], .int .i64 n21] ∧
 vif (n16 != 0)
 (Q (.tup [.sl none, .int .i64 10]) h18)
 (vif (n21 != 0)
 (Q (.tup [.sl none, .int .i64 10]) h18)
 (PNew [.int .i64 n14, .int .i64 n15, .int .i64 n19, .int .i64 n20] true h18 fun a22 h23 =>
 PAppendS 4 32 q5 (some ⟨a22, 0, 1, 1, 0⟩) h23 fun q24 h25 =>
 (True) ∧ I6 [.sl q24] h25 ∧ m7 [.sl q24] h25 < m7 [.sl q5] h8)))
 (Q (.tup [.sl q5, .int .i64 0]) h10))
theorem ac156 {q1 : Option SL} {h : Heap} {Q : AV → Heap → Prop} (hk : vc156 q1 h Q) : AC Tryz.prog 156 [.sl q1] h Q :=
 AC_by (H := hintsOf [6, 8] [(0, [4], [])]) (by kernel_rfl) (by kernel_rfl) hk

/-- slices.IsSortedFunc: what it asks. -/
def vc157 (q1 : Option SL) (h : Heap) (Q : AV → Heap → Prop) : Prop :=
 ∃ (I3 : List AV → Heap → Prop) (m4 : List AV → Heap → Nat), I3 [.int .i64 (wrapK .i64 ((slLen q1 : Int) - 1))] h ∧
 ∀ n2 : Int, ∀ h5 : Heap, I3 [.int .i64 n2] h5 →
 vif (decide (n2 > 0))
 (vIdx q1 n2 4 fun p6 =>
 ∃ n7 : Int, ∃ n8 : Int, ∃ n9 : Int, ∃ n10 : Int, cellsAt h5 p6 4 = some [.int .i64 n7, .int .i64 n8, .int .i64 n9, .int .i64 n10] ∧
 vIdx q1 (wrapK .i64 (n2 - 1)) 4 fun p11 =>
 ∃ n12 : Int, ∃ n13 : Int, ∃ n14 : Int, ∃ n15 : Int, cellsAt h5 p11 4 = some [.int .i64 n12, .int .i64 n13, .int .i64 n14, .int .i64 n15] ∧
 AC Tryz.prog 92 [.agg [.int .i64 n7, .int .i64 n8, .int .i64 n9, .int .i64 n10], .agg [.int .i64 n12, .int .i64 n13, .int .i64 n14, .int .i64 n15]] h5 fun v16 h17 => ∃ n18 : Int, v16 = .int .i64 n18 ∧
 vif (decide (n18 < 0))
 (Q (.bool false) h17)
 ((True) ∧ I3 [.int .i64 (wrapK .i64 (n2 - 1))] h17 ∧ m4 [.int .i64 (wrapK .i64 (n2 - 1))] h17 < m4 [.int .i64 n2] h5))
 (Q (.bool true) h5)
theorem ac157 {q1 : Option SL} {h : Heap} {Q : AV → Heap → Prop} (hk : vc157 q1 h Q) : AC Tryz.prog 157 [.sl q1, .func (.func 92) [] []] h Q :=
 AC_by (H := hintsOf [] [(0, [5], [])]) (by kernel_rfl) (by kernel_rfl) hk

/-- num.From: what it asks. -/
def vc158 (q1 : Option SL) (h : Heap) (Q : AV → Heap → Prop) : Prop :=
 AC Tryz.prog 131 [.sl q1] h fun v2 h3 => ∃ q4 : Option SL, v2 = .sl q4 ∧
 PNew [.sl q4, .bool false] true h3 fun a5 h6 =>
 Q (.ptr (some ⟨a5, 0⟩)) h6
theorem ac158 {q1 : Option SL} {h : Heap} {Q : AV → Heap → Prop} (hk : vc158 q1 h Q) : AC Tryz.prog 158 [.sl q1] h Q :=
 AC_by (H := hintsOf [] []) (by kernel_rfl) (by kernel_rfl) hk

/-- num.Reader).Num: what it asks. -/
def vc159 (p1 : Option PA) (h : Heap) (Q : AV → Heap → Prop) : Prop :=
 AC Tryz.prog 227 [.ptr p1, .int .i64 1] h fun v2 h3 => ∃ n4 : Int, v2 = .int .i64 n4 ∧
 vif (decide (n4 < 240))
 (Q (.int .i64 n4) h3)
 (vif (decide (n4 < 248))
 (AC Tryz.prog 227 [.ptr p1, .int .i64 1] h3 fun v5 h6 => ∃ n7 : Int, v5 = .int .i64 n7 ∧
 AC Tryz.prog 228 [.ptr p1, .int .i64 (wrapK .i64 ((wrapK .i64 (240 + (shlK .i64 (wrapK .i64 (n4 - 240)) 8))) + n7)), .bool true] h6 fun v8 h9 => ∃ n10 : Int, v8 = .int .i64 n10 ∧
 Q (.int .i64 n10) h9)
 (vif (decide (n4 ≤ 254))
 (AC Tryz.prog 227 [.ptr p1, .int .i64 (wrapK .i64 (n4 - 246))] h3 fun v11 h12 => ∃ n13 : Int, v11 = .int .i64 n13 ∧
 vif (decide (n13 ≥ 2288))
 (AC Tryz.prog 229 [.int .i64 n13] h12 fun v14 h15 => ∃ n16 : Int, v14 = .int .i64 n16 ∧
 AC Tryz.prog 228 [.ptr p1, .int .i64 n13, .bool (n16 == (wrapK .i64 ((wrapK .i64 (n4 - 246)) + 1)))] h15 fun v17 h18 => ∃ n19 : Int, v17 = .int .i64 n19 ∧
 Q (.int .i64 n19) h18)
 (AC Tryz.prog 228 [.ptr p1, .int .i64 n13, .bool false] h12 fun v20 h21 => ∃ n22 : Int, v20 = .int .i64 n22 ∧
 Q (.int .i64 n22) h21))
 (AC Tryz.prog 230 [.ptr p1] h3 fun v23 h24 => ∃ n25 : Int, v23 = .int .i64 n25 ∧
 Q (.int .i64 n25) h24)))
theorem ac159 {p1 : Option PA} {h : Heap} {Q : AV → Heap → Prop} (hk : vc159 p1 h Q) : AC Tryz.prog 159 [.ptr p1] h Q :=
 AC_by (H := hintsOf [] []) (by kernel_rfl) (by kernel_rfl) hk

/-- cmp.Or: what it asks. -/
def vc162 (q1 : Option SL) (h : Heap) (Q : AV → Heap → Prop) : Prop :=
 ∃ (I3 : List AV → Heap → Prop) (m4 : List AV → Heap → Nat), I3 [.int .i64 0] h ∧
 ∀ n2 : Int, ∀ h5 : Heap, I3 [.int .i64 n2] h5 →
 vif (decide (n2 < (slLen q1 : Int)))
 (vIdx q1 n2 1 fun p6 =>
 ∃ n7 : Int, cellsAt h5 p6 1 = some [.int .i64 n7] ∧
 vif (n7 != 0)
 (Q (.int .i64 n7) h5)
 ((True) ∧ I3 [.int .i64 (wrapK .i64 (n2 + 1))] h5 ∧ m4 [.int .i64 (wrapK .i64 (n2 + 1))] h5 < m4 [.int .i64 n2] h5))
 (Q (.int .i64 0) h5)
theorem ac162 {q1 : Option SL} {h : Heap} {Q : AV → Heap → Prop} (hk : vc162 q1 h Q) : AC Tryz.prog 162 [.sl q1] h Q :=
 AC_by (H := hintsOf [] [(0, [8], [])]) (by kernel_rfl) (by kernel_rfl) hk

/-- moment.Compare: what it asks. -/
def vc163 (n1 : Int) (n2 : Int) (n3 : Int) (n4 : Int) (h : Heap) (Q : AV → Heap → Prop) : Prop :=
 AC Tryz.prog 232 [.int .i64 n1, .int .i64 n3] h fun v5 h6 => ∃ n7 : Int, v5 = .int .i64 n7 ∧
 (LV.val (.int .i64 n4) = LV.val (.int .i64 n4)) ∧
 (LV.val (.int .i64 n2) = LV.val (.int .i64 n2)) ∧
 AC Tryz.prog 232 [.int .i64 n2, .int .i64 n4] h6 fun v8 h9 => ∃ n10 : Int, v8 = .int .i64 n10 ∧
 PNew [.int .i64 n7, .int .i64 n10] true h9 fun a11 h12 =>
 AC Tryz.prog 162 [.sl (some ⟨a11, 0, 2, 2, 0⟩)] h12 fun v13 h14 => ∃ n15 : Int, v13 = .int .i64 n15 ∧
 Q (.int .i64 n15) h14
theorem ac163 {n1 : Int} {n2 : Int} {n3 : Int} {n4 : Int} {h : Heap} {Q : AV → Heap → Prop} (hk : vc163 n1 n2 n3 n4 h Q) : AC Tryz.prog 163 [.agg [.int .i64 n1, .int .i64 n2], .agg [.int .i64 n3, .int .i64 n4]] h Q :=
 AC_by (H := hintsOf [2, 3] []) (by kernel_rfl) (by kernel_rfl) hk

/-- rec.Compare: what it asks. -/
def vc164 (n1 : Int) (n2 : Int) (n3 : Int) (n4 : Int) (h : Heap) (Q : AV → Heap → Prop) : Prop :=
 AC Tryz.prog 232 [.int .i64 n1, .int .i64 n3] h fun v5 h6 => ∃ n7 : Int, v5 = .int .i64 n7 ∧
 (LV.val (.int .i64 n4) = LV.val (.int .i64 n4)) ∧
 (LV.val (.int .i64 n2) = LV.val (.int .i64 n2)) ∧
 AC Tryz.prog 232 [.int .i64 n2, .int .i64 n4] h6 fun v8 h9 => ∃ n10 : Int, v8 = .int .i64 n10 ∧
 PNew [.int .i64 n7, .int .i64 n10] true h9 fun a11 h12 =>
 AC Tryz.prog 162 [.sl (some ⟨a11, 0, 2, 2, 0⟩)] h12 fun v13 h14 => ∃ n15 : Int, v13 = .int .i64 n15 ∧
 Q (.int .i64 n15) h14
theorem ac164 {n1 : Int} {n2 : Int} {n3 : Int} {n4 : Int} {h : Heap} {Q : AV → Heap → Prop} (hk : vc164 n1 n2 n3 n4 h Q) : AC Tryz.prog 164 [.agg [.int .i64 n1, .int .i64 n2], .agg [.int .i64 n3, .int .i64 n4]] h Q :=
 AC_by (H := hintsOf [2, 3] []) (by kernel_rfl) (by kernel_rfl) hk

/-- entry.Pack: what it asks. -/
def vc165 (q1 : Option SL) (h : Heap) (Q : AV → Heap → Prop) : Prop :=
 AC Tryz.prog 233 [.sl q1] h fun v2 h3 => ∃ n4 : Int, v2 = .int .i64 n4 ∧
 vif (n4 != 0)
 (Q (.tup [.sl none, .int .i64 n4]) h3)
 (∃ (I8 : List AV → Heap → Prop) (m9 : List AV → Heap → Nat), I8 [.sl none, .sl none, .int .i64 0] h3 ∧
 ∀ q5 : Option SL, ∀ q6 : Option SL, ∀ n7 : Int, ∀ h10 : Heap, I8 [.sl q5, .sl q6, .int .i64 n7] h10 →
 vif (decide (n7 < (slLen q1 : Int)))
 (vIdx q1 n7 4 fun p11 =>
 ∃ n12 : Int, ∃ n13 : Int, ∃ n14 : Int, ∃ n15 : Int, cellsAt h10 p11 4 = some [.int .i64 n12, .int .i64 n13, .int .i64 n14, .int .i64 n15] ∧
 AC Tryz.prog 234 [.agg [.int .i64 n12, .int .i64 n13, .int .i64 n14, .int .i64 n15]] h10 fun v16 h17 => ∃ q18 : Option SL, v16 = .sl q18 ∧
 vif (decide ((wrapK .i64 ((slLen q6 : Int) + (slLen q18 : Int))) > 43))
 (PNew [.sl q6] true h17 fun a19 h20 =>
 PAppendS 1 24 q5 (some ⟨a19, 0, 1, 1, 0⟩) h20 fun q21 h22 =>
 PAppendS 1 1 none q18 h22 fun q23 h24 =>
 (True) ∧ I8 [.sl q21, .sl q23, .int .i64 (wrapK .i64 (n7 + 1))] h24 ∧ m9 [.sl q21, .sl q23, .int .i64 (wrapK .i64 (n7 + 1))] h24 < m9 [.sl q5, .sl q6, .int .i64 n7] h10)
 (PAppendS 1 1 q6 q18 h17 fun q25 h26 =>
 (True) ∧ I8 [.sl q5, .sl q25, .int .i64 (wrapK .i64 (n7 + 1))] h26 ∧ m9 [.sl q5, .sl q25, .int .i64 (wrapK .i64 (n7 + 1))] h26 < m9 [.sl q5, .sl q6, .int .i64 n7] h10))
 (vif (decide ((slLen q6 : Int) > 0))
 (PNew [.sl q6] true h10 fun a27 h28 =>
 PAppendS 1 24 q5 (some ⟨a27, 0, 1, 1, 0⟩) h28 fun q29 h30 =>
 Q (.tup [.sl q29, .int .i64 0]) h30)
 (Q (.tup [.sl q5, .int .i64 0]) h10)))
theorem ac165 {q1 : Option SL} {h : Heap} {Q : AV → Heap → Prop} (hk : vc165 q1 h Q) : AC Tryz.prog 165 [.sl q1] h Q :=
 AC_by (H := hintsOf [8] [(0, [5, 6, 17], [])]) (by kernel_rfl) (by kernel_rfl) hk

/-- segment.heads: what it asks. -/
def vc166 (q1 : Option SL) (h : Heap) (Q : AV → Heap → Prop) : Prop :=
 ∃ (I4 : List AV → Heap → Prop) (m5 : List AV → Heap → Nat), I4 [.sl none, .int .i64 0] h ∧
 ∀ q2 : Option SL, ∀ n3 : Int, ∀ h6 : Heap, I4 [.sl q2, .int .i64 n3] h6 →
 vif (decide (n3 < (slLen q1 : Int)))
 (vIdx q1 n3 1 fun p7 =>
 ∃ q8 : Option SL, cellsAt h6 p7 1 = some [.sl q8] ∧
 AC Tryz.prog 156 [.sl q8] h6 fun v9 h10 => ∃ q11 : Option SL, ∃ n12 : Int, v9 = .tup [.sl q11, .int .i64 n12] ∧
 vIdx q11 0 4 fun p13 =>
 ∃ n14 : Int, ∃ n15 : Int, ∃ n16 : Int, ∃ n17 : Int, cellsAt h10 p13 4 = some [.int .i64 n14, .int .i64 n15, .int .i64 n16, .int .i64 n17] ∧
 PNew [.int .i64 n14, .int .i64 n15, .int .i64 n16, .int .i64 n17] true h10 fun a18 h19 =>
 PAppendS 4 32 q2 (some ⟨a18, 0, 1, 1, 0⟩) h19 fun q20 h21 =>
 (True) ∧ I4 [.sl q20, .int .i64 (wrapK .i64 (n3 + 1))] h21 ∧ m5 [.sl q20, .int .i64 (wrapK .i64 (n3 + 1))] h21 < m5 [.sl q2, .int .i64 n3] h6)
 (Q (.sl q2) h6)
theorem ac166 {q1 : Option SL} {h : Heap} {Q : AV → Heap → Prop} (hk : vc166 q1 h Q) : AC Tryz.prog 166 [.sl q1] h Q :=
 AC_by (H := hintsOf [] [(0, [3, 10], [])]) (by kernel_rfl) (by kernel_rfl) hk

/-- slices.Concat: what it asks. -/
def vc167 (q1 : Option SL) (h : Heap) (Q : AV → Heap → Prop) : Prop :=
 ∃ (I4 : List AV → Heap → Prop) (m5 : List AV → Heap → Nat), I4 [.int .i64 0, .int .i64 0] h ∧
 ∀ n2 : Int, ∀ n3 : Int, ∀ h6 : Heap, I4 [.int .i64 n2, .int .i64 n3] h6 →
 vif (decide (n3 < (slLen q1 : Int)))
 (vIdx q1 n3 1 fun p7 =>
 ∃ q8 : Option SL, cellsAt h6 p7 1 = some [.sl q8] ∧
 vif (decide ((wrapK .i64 (n2 + (slLen q8 : Int))) < 0))
 (False)
 ((True) ∧ I4 [.int .i64 (wrapK .i64 (n2 + (slLen q8 : Int))), .int .i64 (wrapK .i64 (n3 + 1))] h6 ∧ m5 [.int .i64 (wrapK .i64 (n2 + (slLen q8 : Int))), .int .i64 (wrapK .i64 (n3 + 1))] h6 < m5 [.int .i64 n2, .int .i64 n3] h6))
 (AC Tryz.prog 235 [.sl none, .int .i64 n2] h6 fun v9 h10 => ∃ q11 : Option SL, v9 = .sl q11 ∧
 ∃ (I14 : List AV → Heap → Prop) (m15 : List AV → Heap → Nat), I14 [.sl q11, .int .i64 0] h10 ∧
 ∀ q12 : Option SL, ∀ n13 : Int, ∀ h16 : Heap, I14 [.sl q12, .int .i64 n13] h16 →
 vif (decide (n13 < (slLen q1 : Int)))
 (vIdx q1 n13 1 fun p17 =>
 ∃ q18 : Option SL, cellsAt h16 p17 1 = some [.sl q18] ∧
 PAppendS 1 24 q12 q18 h16 fun q19 h20 =>
 (True) ∧ I14 [.sl q19, .int .i64 (wrapK .i64 (n13 + 1))] h20 ∧ m15 [.sl q19, .int .i64 (wrapK .i64 (n13 + 1))] h20 < m15 [.sl q12, .int .i64 n13] h16)
 (Q (.sl q12) h16))
theorem ac167 {q1 : Option SL} {h : Heap} {Q : AV → Heap → Prop} (hk : vc167 q1 h Q) : AC Tryz.prog 167 [.sl q1] h Q :=
 AC_by (H := hintsOf [] [(0, [3, 11], []), (2, [6, 27], [])]) (by kernel_rfl) (by kernel_rfl) hk

/-- segment.counts: what it asks. -/
def vc168 (q1 : Option SL) (h : Heap) (Q : AV → Heap → Prop) : Prop :=
 ∃ (I4 : List AV → Heap → Prop) (m5 : List AV → Heap → Nat), I4 [.sl none, .int .i64 0] h ∧
 ∀ q2 : Option SL, ∀ n3 : Int, ∀ h6 : Heap, I4 [.sl q2, .int .i64 n3] h6 →
 vif (decide (n3 < (slLen q1 : Int)))
 (vIdx q1 n3 1 fun p7 =>
 ∃ n8 : Int, cellsAt h6 p7 1 = some [.int .i64 n8] ∧
 AC Tryz.prog 236 [.int .i64 n8] h6 fun v9 h10 => ∃ q11 : Option SL, ∃ n12 : Int, v9 = .tup [.sl q11, .int .i64 n12] ∧
 PAppendS 1 1 q2 q11 h10 fun q13 h14 =>
 (True) ∧ I4 [.sl q13, .int .i64 (wrapK .i64 (n3 + 1))] h14 ∧ m5 [.sl q13, .int .i64 (wrapK .i64 (n3 + 1))] h14 < m5 [.sl q2, .int .i64 n3] h6)
 (Q (.sl q2) h6)
theorem ac168 {q1 : Option SL} {h : Heap} {Q : AV → Heap → Prop} (hk : vc168 q1 h Q) : AC Tryz.prog 168 [.sl q1] h Q :=
 AC_by (H := hintsOf [] [(0, [3, 10], [])]) (by kernel_rfl) (by kernel_rfl) hk

/-- page.Put: what it asks. -/
def vc169 (n1 : Int) (q2 : Option SL) (h : Heap) (Q : AV → Heap → Prop) : Prop :=
 AC Tryz.prog 237 [.int .i64 n1] h fun v3 h4 => ∃ b5 : Bool, v3 = .bool b5 ∧
 vif (!b5)
 (Q (.tup [.sl none, .int .i64 1]) h4)
 (vif (decide ((slLen q2 : Int) > 43))
 (Q (.tup [.sl none, .int .i64 3]) h4)
 (AC Tryz.prog 238 [.int .i64 n1, .int .i64 8] h4 fun v6 h7 => ∃ q8 : Option SL, ∃ n9 : Int, v6 = .tup [.sl q8, .int .i64 n9] ∧
 PMake [.int .u8 0] 1 52 52 h7 fun q10 h11 =>
 PCopyS 1 q10 q8 h11 fun n12 h13 =>
 vIdx q10 8 1 fun p14 =>
 PStore h13 p14 [.int .u8 (wrapK .u8 (slLen q2 : Int))] fun h15 =>
 PSlice 1 q10 9 none none fun q16 =>
 PCopyS 1 q16 q2 h15 fun n17 h18 =>
 AC Tryz.prog 240 [.sl q10] h18 fun v19 h20 => ∃ q21 : Option SL, v19 = .sl q21 ∧
 PNew [.sl q21, .sl q8] true h20 fun a22 h23 =>
 AC Tryz.prog 239 [.sl (some ⟨a22, 0, 2, 2, 0⟩)] h23 fun v24 h25 => ∃ q26 : Option SL, v24 = .sl q26 ∧
 Q (.tup [.sl q26, .int .i64 0]) h25))
theorem ac169 {n1 : Int} {q2 : Option SL} {h : Heap} {Q : AV → Heap → Prop} (hk : vc169 n1 q2 h Q) : AC Tryz.prog 169 [.int .i64 n1, .sl q2] h Q :=
 AC_by (H := hintsOf [] []) (by kernel_rfl) (by kernel_rfl) hk

/-- files.may: what it asks. -/
def vc170 (s1 : List UInt8) (h : Heap) (Q : AV → Heap → Prop) : Prop :=
 vif (decide ((s1.length : Int) ≥ 1))
 (Q (.bool (decide ((s1.length : Int) ≤ 24))) h)
 (Q (.bool false) h)
theorem ac170 {s1 : List UInt8} {h : Heap} {Q : AV → Heap → Prop} (hk : vc170 s1 h Q) : AC Tryz.prog 170 [.str s1] h Q :=
 AC_by (H := hintsOf [] []) (by kernel_rfl) (by kernel_rfl) hk

/-- files.Disk).ready: what it asks. -/
def vc171 (p1 : Option PA) (h : Heap) (Q : AV → Heap → Prop) : Prop :=
 AC Tryz.prog 104 [.ptr p1] h fun v2 h3 => ∃ b4 : Bool, v2 = .bool b4 ∧
 vif (!b4)
 (Q (.int .i64 6) h3)
 (vPtr p1 fun p5 =>
 ∃ b6 : Bool, cellsAt h3 ⟨p5.b, p5.o + 4⟩ 1 = some [.bool b6] ∧
 vif b6
 (Q (.int .i64 50) h3)
 (Q (.int .i64 0) h3))
theorem ac171 {p1 : Option PA} {h : Heap} {Q : AV → Heap → Prop} (hk : vc171 p1 h Q) : AC Tryz.prog 171 [.ptr p1] h Q :=
 AC_by (H := hintsOf [] []) (by kernel_rfl) (by kernel_rfl) hk

/-- files.Disk).deed: what it asks. -/
def vc172 (p1 : Option PA) (h : Heap) (Q : AV → Heap → Prop) : Prop :=
 vPtr p1 fun p2 =>
 ∃ n3 : Int, cellsAt h ⟨p2.b, p2.o + 3⟩ 1 = some [.int .i64 n3] ∧
 vif (n3 == 0)
 (vPtr p1 fun p4 =>
 PStore h ⟨p4.b, p4.o + 4⟩ [.bool true] fun h5 =>
 Q (.int .i64 50) h5)
 (vPtr p1 fun p6 =>
 ∃ n7 : Int, cellsAt h ⟨p6.b, p6.o + 3⟩ 1 = some [.int .i64 n7] ∧
 vif (decide (n7 > 0))
 (vPtr p1 fun p8 =>
 ∃ n9 : Int, cellsAt h ⟨p8.b, p8.o + 3⟩ 1 = some [.int .i64 n9] ∧
 vPtr p1 fun p10 =>
 PStore h ⟨p10.b, p10.o + 3⟩ [.int .i64 (wrapK .i64 (n9 - 1))] fun h11 =>
 Q (.int .i64 0) h11)
 (Q (.int .i64 0) h))
theorem ac172 {p1 : Option PA} {h : Heap} {Q : AV → Heap → Prop} (hk : vc172 p1 h Q) : AC Tryz.prog 172 [.ptr p1] h Q :=
 AC_by (H := hintsOf [] []) (by kernel_rfl) (by kernel_rfl) hk

/-- files.Disk).write: what it asks. -/
def vc173 (p1 : Option PA) (p2 : Option PA) (n3 : Int) (l4 : Nat → Int) (h : Heap) (Q : AV → Heap → Prop) : Prop :=
 vPtr p2 fun p5 =>
 ∃ q6 : Option SL, cellsAt h ⟨p5.b, p5.o + 1⟩ 1 = some [.sl q6] ∧
 vIdx q6 n3 64 fun p7 =>
 PStore h p7 (cel .u8 64 l4) fun h8 =>
 vPtr p1 fun p9 =>
 ∃ q10 : Option SL, cellsAt h8 ⟨p9.b, p9.o + 1⟩ 1 = some [.sl q10] ∧
 PNew ([.ptr p2, .int .i64 n3] ++ ((cel .u8 64 l4))) true h8 fun a11 h12 =>
 (∃ q17 : Option SL, cellsAt h12 ⟨p9.b, p9.o + 1⟩ 1 = some [.sl q17] ∧
 LV.val (.sl q17) = LV.val (.sl q10)) ∧
 PAppendS 66 80 q10 (some ⟨a11, 0, 1, 1, 0⟩) h12 fun q13 h14 =>
 vPtr p1 fun p15 =>
 PStore h14 ⟨p15.b, p15.o + 1⟩ [.sl q13] fun h16 =>
 Q (.tup []) h16
theorem ac173 {p1 : Option PA} {p2 : Option PA} {n3 : Int} {l4 : Nat → Int} {h : Heap} {Q : AV → Heap → Prop} (hk : vc173 p1 p2 n3 l4 h Q) : AC Tryz.prog 173 [.ptr p1, .ptr p2, .int .i64 n3, .agg (cel .u8 64 l4)] h Q :=
 AC_by (H := hintsOf [7] []) (by kernel_rfl) (by kernel_rfl) hk

/-- oxbowref04.Check: what it asks. -/
def vc206 (n1 : Int) (n2 : Int) (h : Heap) (Q : AV → Heap → Prop) : Prop :=
 vif (decide (n1 ≥ 0))
 (vif (decide (n1 < 65536))
 (vif (decide (n2 ≥ 0))
 (Q (.bool (decide (n2 < 65536))) h)
 (Q (.bool false) h))
 (Q (.bool false) h))
 (Q (.bool false) h)
theorem ac206 {n1 : Int} {n2 : Int} {h : Heap} {Q : AV → Heap → Prop} (hk : vc206 n1 n2 h Q) : AC Tryz.prog 206 [.agg [.int .i64 n1, .int .i64 n2]] h Q :=
 AC_by (H := hintsOf [1] []) (by kernel_rfl) (by kernel_rfl) hk

/-- oxbowref03.Check: what it asks. -/
def vc207 (n1 : Int) (n2 : Int) (h : Heap) (Q : AV → Heap → Prop) : Prop :=
 vif (decide (n1 ≥ 0))
 (vif (decide (n1 < 1048576))
 (vif (decide (n2 ≥ 0))
 (Q (.bool (decide (n2 < 1048576))) h)
 (Q (.bool false) h))
 (Q (.bool false) h))
 (Q (.bool false) h)
theorem ac207 {n1 : Int} {n2 : Int} {h : Heap} {Q : AV → Heap → Prop} (hk : vc207 n1 n2 h Q) : AC Tryz.prog 207 [.agg [.int .i64 n1, .int .i64 n2]] h Q :=
 AC_by (H := hintsOf [1] []) (by kernel_rfl) (by kernel_rfl) hk

/-- oxbowref04.Compare: what it asks. -/
def vc208 (n1 : Int) (n2 : Int) (n3 : Int) (n4 : Int) (h : Heap) (Q : AV → Heap → Prop) : Prop :=
 vif (decide (n1 < n3))
 (Q (.int .i64 (-1)) h)
 (vif (n1 == n3)
 (vif (decide (n2 < n4))
 (Q (.int .i64 (-1)) h)
 (vif ((n1 == n3) && ((n2 == n4) && true))
 (Q (.int .i64 0) h)
 (Q (.int .i64 1) h)))
 (vif ((n1 == n3) && ((n2 == n4) && true))
 (Q (.int .i64 0) h)
 (Q (.int .i64 1) h)))
theorem ac208 {n1 : Int} {n2 : Int} {n3 : Int} {n4 : Int} {h : Heap} {Q : AV → Heap → Prop} (hk : vc208 n1 n2 n3 n4 h Q) : AC Tryz.prog 208 [.agg [.int .i64 n1, .int .i64 n2], .agg [.int .i64 n3, .int .i64 n4]] h Q :=
 AC_by (H := hintsOf [2, 3] []) (by kernel_rfl) (by kernel_rfl) hk

/-- oxbowref03.Compare: what it asks. -/
def vc209 (n1 : Int) (n2 : Int) (n3 : Int) (n4 : Int) (h : Heap) (Q : AV → Heap → Prop) : Prop :=
 vif (decide (n1 < n3))
 (Q (.int .i64 (-1)) h)
 (vif (n1 == n3)
 (vif (decide (n2 < n4))
 (Q (.int .i64 (-1)) h)
 (vif ((n1 == n3) && ((n2 == n4) && true))
 (Q (.int .i64 0) h)
 (Q (.int .i64 1) h)))
 (vif ((n1 == n3) && ((n2 == n4) && true))
 (Q (.int .i64 0) h)
 (Q (.int .i64 1) h)))
theorem ac209 {n1 : Int} {n2 : Int} {n3 : Int} {n4 : Int} {h : Heap} {Q : AV → Heap → Prop} (hk : vc209 n1 n2 n3 n4 h Q) : AC Tryz.prog 209 [.agg [.int .i64 n1, .int .i64 n2], .agg [.int .i64 n3, .int .i64 n4]] h Q :=
 AC_by (H := hintsOf [2, 3] []) (by kernel_rfl) (by kernel_rfl) hk

/-- oxbowref01.Reader).Bytes: what it asks. -/
def vc211 (p1 : Option PA) (n2 : Int) (h : Heap) (Q : AV → Heap → Prop) : Prop :=
 vPtr p1 fun p3 =>
 ∃ b4 : Bool, cellsAt h ⟨p3.b, p3.o + 1⟩ 1 = some [.bool b4] ∧
 vif b4
 (vPtr p1 fun p5 =>
 PStore h ⟨p5.b, p5.o + 1⟩ [.bool true] fun h6 =>
 Q (.sl none) h6)
 (vif (decide (n2 < 0))
 (vPtr p1 fun p7 =>
 PStore h ⟨p7.b, p7.o + 1⟩ [.bool true] fun h8 =>
 Q (.sl none) h8)
 (vPtr p1 fun p9 =>
 ∃ q10 : Option SL, cellsAt h ⟨p9.b, p9.o + 0⟩ 1 = some [.sl q10] ∧
 vif (decide (n2 > (slLen q10 : Int)))
 (vPtr p1 fun p11 =>
 PStore h ⟨p11.b, p11.o + 1⟩ [.bool true] fun h12 =>
 Q (.sl none) h12)
 (PNew [] true h fun a13 h14 =>
 vPtr p1 fun p15 =>
 ∃ q16 : Option SL, cellsAt h14 ⟨p15.b, p15.o + 0⟩ 1 = some [.sl q16] ∧
 PSlice 1 q16 0 (some n2) none fun q17 =>
 PAppendS 1 1 (some ⟨a13, 0, 0, 0, 0⟩) q17 h14 fun q18 h19 =>
 vPtr p1 fun p20 =>
 ∃ q21 : Option SL, cellsAt h19 ⟨p20.b, p20.o + 0⟩ 1 = some [.sl q21] ∧
 PSlice 1 q21 n2 none none fun q22 =>
 vPtr p1 fun p23 =>
 PStore h19 ⟨p23.b, p23.o + 0⟩ [.sl q22] fun h24 =>
 Q (.sl q18) h24)))
theorem ac211 {p1 : Option PA} {n2 : Int} {h : Heap} {Q : AV → Heap → Prop} (hk : vc211 p1 n2 h Q) : AC Tryz.prog 211 [.ptr p1, .int .i64 n2] h Q :=
 AC_by (H := hintsOf [] []) (by kernel_rfl) (by kernel_rfl) hk

/-- oxbowref01.Reader).Fixed: what it asks. -/
def vc212 (p1 : Option PA) (n2 : Int) (h : Heap) (Q : AV → Heap → Prop) : Prop :=
 vif (decide (n2 < 1))
 (vPtr p1 fun p3 =>
 PStore h ⟨p3.b, p3.o + 1⟩ [.bool true] fun h4 =>
 Q (.int .i64 0) h4)
 (vif (decide (n2 > 8))
 (vPtr p1 fun p5 =>
 PStore h ⟨p5.b, p5.o + 1⟩ [.bool true] fun h6 =>
 Q (.int .i64 0) h6)
 (AC Tryz.prog 211 [.ptr p1, .int .i64 n2] h fun v7 h8 => ∃ q9 : Option SL, v7 = .sl q9 ∧
 vPtr p1 fun p10 =>
 ∃ b11 : Bool, cellsAt h8 ⟨p10.b, p10.o + 1⟩ 1 = some [.bool b11] ∧
 vif b11
 (vPtr p1 fun p12 =>
 PStore h8 ⟨p12.b, p12.o + 1⟩ [.bool true] fun h13 =>
 Q (.int .i64 0) h13)
 (vif (n2 == 8)
 (vIdx q9 0 1 fun p14 =>
 ∃ n15 : Int, cellsAt h8 p14 1 = some [.int .u8 n15] ∧
 vif (decide (n15 > 127))
 (vPtr p1 fun p16 =>
 PStore h8 ⟨p16.b, p16.o + 1⟩ [.bool true] fun h17 =>
 Q (.int .i64 0) h17)
 (∃ (I20 : List AV → Heap → Prop) (m21 : List AV → Heap → Nat), I20 [.int .i64 0, .int .i64 0] h8 ∧
 ∀ n18 : Int, ∀ n19 : Int, ∀ h22 : Heap, I20 [.int .i64 n18, .int .i64 n19] h22 →
 vif (decide (n19 < n2))
 (vIdx q9 n19 1 fun p23 =>
 ∃ n24 : Int, cellsAt h22 p23 1 = some [.int .u8 n24] ∧
 (True) ∧ I20 [.int .i64 (wrapK .i64 ((wrapK .i64 (256 * n18)) + (wrapK .i64 n24))), .int .i64 (wrapK .i64 (n19 + 1))] h22 ∧ m21 [.int .i64 (wrapK .i64 ((wrapK .i64 (256 * n18)) + (wrapK .i64 n24))), .int .i64 (wrapK .i64 (n19 + 1))] h22 < m21 [.int .i64 n18, .int .i64 n19] h22)
 (Q (.int .i64 n18) h22)))
 (∃ (I27 : List AV → Heap → Prop) (m28 : List AV → Heap → Nat), I27 [.int .i64 0, .int .i64 0] h8 ∧
 ∀ n25 : Int, ∀ n26 : Int, ∀ h29 : Heap, I27 [.int .i64 n25, .int .i64 n26] h29 →
 vif (decide (n26 < n2))
 (vIdx q9 n26 1 fun p30 =>
 ∃ n31 : Int, cellsAt h29 p30 1 = some [.int .u8 n31] ∧
 (True) ∧ I27 [.int .i64 (wrapK .i64 ((wrapK .i64 (256 * n25)) + (wrapK .i64 n31))), .int .i64 (wrapK .i64 (n26 + 1))] h29 ∧ m28 [.int .i64 (wrapK .i64 ((wrapK .i64 (256 * n25)) + (wrapK .i64 n31))), .int .i64 (wrapK .i64 (n26 + 1))] h29 < m28 [.int .i64 n25, .int .i64 n26] h29)
 (Q (.int .i64 n25) h29)))))
theorem ac212 {p1 : Option PA} {n2 : Int} {h : Heap} {Q : AV → Heap → Prop} (hk : vc212 p1 n2 h Q) : AC Tryz.prog 212 [.ptr p1, .int .i64 n2] h Q :=
 AC_by (H := hintsOf [] [(0, [6, 7], [])]) (by kernel_rfl) (by kernel_rfl) hk

/-- oxbowref01.sizeOf: what it asks. -/
def vc213 (n1 : Int) (h : Heap) (Q : AV → Heap → Prop) : Prop :=
 vif (decide (n1 < 248))
 (Q (.int .i64 2) h)
 (Q (.int .i64 (wrapK .i64 (n1 - 245))) h)
theorem ac213 {n1 : Int} {h : Heap} {Q : AV → Heap → Prop} (hk : vc213 n1 h Q) : AC Tryz.prog 213 [.int .i64 n1] h Q :=
 AC_by (H := hintsOf [] []) (by kernel_rfl) (by kernel_rfl) hk

/-- oxbowref04.Read: what it asks. -/
def vc214 (p1 : Option PA) (h : Heap) (Q : AV → Heap → Prop) : Prop :=
 AC Tryz.prog 135 [.ptr p1] h fun v2 h3 => ∃ n4 : Int, v2 = .int .i64 n4 ∧
 AC Tryz.prog 135 [.ptr p1] h3 fun v5 h6 => ∃ n7 : Int, v5 = .int .i64 n7 ∧
 vPtr p1 fun p8 =>
 ∃ b9 : Bool, cellsAt h6 ⟨p8.b, p8.o + 1⟩ 1 = some [.bool b9] ∧
 vif b9
 (Q (.tup [.agg [.int .i64 0, .int .i64 0], .int .i64 10]) h6)
 (AC Tryz.prog 206 [.agg [.int .i64 n4, .int .i64 n7]] h6 fun v10 h11 => ∃ b12 : Bool, v10 = .bool b12 ∧
 vif (!b12)
 (Q (.tup [.agg [.int .i64 0, .int .i64 0], .int .i64 40]) h11)
 (Q (.tup [.agg [.int .i64 n4, .int .i64 n7], .int .i64 0]) h11))
theorem ac214 {p1 : Option PA} {h : Heap} {Q : AV → Heap → Prop} (hk : vc214 p1 h Q) : AC Tryz.prog 214 [.ptr p1] h Q :=
 AC_by (H := hintsOf [2, 4] []) (by kernel_rfl) (by kernel_rfl) hk

/-- oxbowref03.Read: what it asks. -/
def vc215 (p1 : Option PA) (h : Heap) (Q : AV → Heap → Prop) : Prop :=
 AC Tryz.prog 135 [.ptr p1] h fun v2 h3 => ∃ n4 : Int, v2 = .int .i64 n4 ∧
 AC Tryz.prog 135 [.ptr p1] h3 fun v5 h6 => ∃ n7 : Int, v5 = .int .i64 n7 ∧
 vPtr p1 fun p8 =>
 ∃ b9 : Bool, cellsAt h6 ⟨p8.b, p8.o + 1⟩ 1 = some [.bool b9] ∧
 vif b9
 (Q (.tup [.agg [.int .i64 0, .int .i64 0], .int .i64 10]) h6)
 (AC Tryz.prog 207 [.agg [.int .i64 n4, .int .i64 n7]] h6 fun v10 h11 => ∃ b12 : Bool, v10 = .bool b12 ∧
 vif (!b12)
 (Q (.tup [.agg [.int .i64 0, .int .i64 0], .int .i64 30]) h11)
 (Q (.tup [.agg [.int .i64 n4, .int .i64 n7], .int .i64 0]) h11))
theorem ac215 {p1 : Option PA} {h : Heap} {Q : AV → Heap → Prop} (hk : vc215 p1 h Q) : AC Tryz.prog 215 [.ptr p1] h Q :=
 AC_by (H := hintsOf [2, 4] []) (by kernel_rfl) (by kernel_rfl) hk

/-- oxbowref07.Put: what it asks. -/
def vc216 (n1 : Int) (n2 : Int) (n3 : Int) (n4 : Int) (h : Heap) (Q : AV → Heap → Prop) : Prop :=
 AC Tryz.prog 263 [.agg [.int .i64 n1, .int .i64 n2]] h fun v5 h6 => ∃ q7 : Option SL, v5 = .sl q7 ∧
 (LV.val (.agg [.int .i64 n3, .int .i64 n4]) = LV.val (.agg [.int .i64 n3, .int .i64 n4])) ∧
 AC Tryz.prog 264 [.agg [.int .i64 n3, .int .i64 n4]] h6 fun v8 h9 => ∃ q10 : Option SL, v8 = .sl q10 ∧
 PAppendS 1 1 q7 q10 h9 fun q11 h12 =>
 Q (.sl q11) h12
theorem ac216 {n1 : Int} {n2 : Int} {n3 : Int} {n4 : Int} {h : Heap} {Q : AV → Heap → Prop} (hk : vc216 n1 n2 n3 n4 h Q) : AC Tryz.prog 216 [.agg [.int .i64 n1, .int .i64 n2, .int .i64 n3, .int .i64 n4]] h Q :=
 AC_by (H := hintsOf [1] []) (by kernel_rfl) (by kernel_rfl) hk

/-- oxbowref01.Fix: what it asks. -/
def vc217 (n1 : Int) (n2 : Int) (h : Heap) (Q : AV → Heap → Prop) : Prop :=
 vif (decide (n1 < 0))
 (Q (.tup [.sl none, .bool false]) h)
 (vif (decide (n2 < 1))
 (Q (.tup [.sl none, .bool false]) h)
 (vif (decide (n2 > 8))
 (Q (.tup [.sl none, .bool false]) h)
 (PMake [.int .u8 0] 1 n2 n2 h fun q3 h4 =>
 ∃ (I7 : List AV → Heap → Prop) (m8 : List AV → Heap → Nat), I7 [.int .i64 n1, .int .i64 (wrapK .i64 (n2 - 1))] h4 ∧
 ∀ n5 : Int, ∀ n6 : Int, ∀ h9 : Heap, I7 [.int .i64 n5, .int .i64 n6] h9 →
 vif (decide (n6 ≥ 0))
 (vIdx q3 n6 1 fun p10 =>
 PStore h9 p10 [.int .u8 (wrapK .u8 (Int.tmod n5 256))] fun h11 =>
 (True) ∧ I7 [.int .i64 (wrapK .i64 (Int.tdiv n5 256)), .int .i64 (wrapK .i64 (n6 - 1))] h11 ∧ m8 [.int .i64 (wrapK .i64 (Int.tdiv n5 256)), .int .i64 (wrapK .i64 (n6 - 1))] h11 < m8 [.int .i64 n5, .int .i64 n6] h9)
 (Q (.tup [.sl q3, .bool (n5 == 0)]) h9))))
theorem ac217 {n1 : Int} {n2 : Int} {h : Heap} {Q : AV → Heap → Prop} (hk : vc217 n1 n2 h Q) : AC Tryz.prog 217 [.int .i64 n1, .int .i64 n2] h Q :=
 AC_by (H := hintsOf [] [(0, [0, 7], [])]) (by kernel_rfl) (by kernel_rfl) hk

/-- oxbowref02.Seal: what it asks. -/
def vc218 (q1 : Option SL) (h : Heap) (Q : AV → Heap → Prop) : Prop :=
 AC Tryz.prog 265 [.sl q1] h fun v2 h3 => ∃ n4 : Int, v2 = .int .u32 n4 ∧
 PNew [] true h3 fun a5 h6 =>
 PAppendS 1 1 (some ⟨a5, 0, 0, 0, 0⟩) q1 h6 fun q7 h8 =>
 ∃ (I11 : List AV → Heap → Prop) (m12 : List AV → Heap → Nat), I11 [.sl q7, .int .i64 0] h8 ∧
 ∀ q9 : Option SL, ∀ n10 : Int, ∀ h13 : Heap, I11 [.sl q9, .int .i64 n10] h13 →
 vif (decide (n10 < 4))
 (need (decide (0 ≤ (wrapK .i64 (8 * n10))))
 (PNew [.int .u8 (wrapK .u8 (shrK .u32 n4 (wrapK .i64 (8 * n10))))] true h13 fun a14 h15 =>
 PAppendS 1 1 q9 (some ⟨a14, 0, 1, 1, 0⟩) h15 fun q16 h17 =>
 (True) ∧ I11 [.sl q16, .int .i64 (wrapK .i64 (n10 + 1))] h17 ∧ m12 [.sl q16, .int .i64 (wrapK .i64 (n10 + 1))] h17 < m12 [.sl q9, .int .i64 n10] h13))
 (Q (.sl q9) h13)
theorem ac218 {q1 : Option SL} {h : Heap} {Q : AV → Heap → Prop} (hk : vc218 q1 h Q) : AC Tryz.prog 218 [.sl q1] h Q :=
 AC_by (H := hintsOf [] [(0, [4, 5], [])]) (by kernel_rfl) (by kernel_rfl) hk

/-- num.Reader).Left: what it asks. -/
def vc224 (p1 : Option PA) (h : Heap) (Q : AV → Heap → Prop) : Prop :=
 AC Tryz.prog 231 [.ptr p1] h fun v2 h3 => ∃ b4 : Bool, v2 = .bool b4 ∧
 vif b4
 (Q (.int .i64 0) h3)
 (vPtr p1 fun p5 =>
 ∃ q6 : Option SL, cellsAt h3 ⟨p5.b, p5.o + 0⟩ 1 = some [.sl q6] ∧
 Q (.int .i64 (slLen q6 : Int)) h3)
theorem ac224 {p1 : Option PA} {h : Heap} {Q : AV → Heap → Prop} (hk : vc224 p1 h Q) : AC Tryz.prog 224 [.ptr p1] h Q :=
 AC_by (H := hintsOf [] []) (by kernel_rfl) (by kernel_rfl) hk

/-- moment.Read: what it asks. -/
def vc225 (p1 : Option PA) (h : Heap) (Q : AV → Heap → Prop) : Prop :=
 AC Tryz.prog 159 [.ptr p1] h fun v2 h3 => ∃ n4 : Int, v2 = .int .i64 n4 ∧
 AC Tryz.prog 159 [.ptr p1] h3 fun v5 h6 => ∃ n7 : Int, v5 = .int .i64 n7 ∧
 AC Tryz.prog 231 [.ptr p1] h6 fun v8 h9 => ∃ b10 : Bool, v8 = .bool b10 ∧
 vif b10
 (Q (.tup [.agg [.int .i64 0, .int .i64 0], .int .i64 10]) h9)
 (AC Tryz.prog 186 [.agg [.int .i64 n4, .int .i64 n7]] h9 fun v11 h12 => ∃ n13 : Int, v11 = .int .i64 n13 ∧
 vif (n13 != 0)
 (Q (.tup [.agg [.int .i64 0, .int .i64 0], .int .i64 n13]) h12)
 (Q (.tup [.agg [.int .i64 n4, .int .i64 n7], .int .i64 0]) h12))
theorem ac225 {p1 : Option PA} {h : Heap} {Q : AV → Heap → Prop} (hk : vc225 p1 h Q) : AC Tryz.prog 225 [.ptr p1] h Q :=
 AC_by (H := hintsOf [2, 4] []) (by kernel_rfl) (by kernel_rfl) hk

/-- rec.Read: what it asks. -/
def vc226 (p1 : Option PA) (h : Heap) (Q : AV → Heap → Prop) : Prop :=
 AC Tryz.prog 159 [.ptr p1] h fun v2 h3 => ∃ n4 : Int, v2 = .int .i64 n4 ∧
 AC Tryz.prog 159 [.ptr p1] h3 fun v5 h6 => ∃ n7 : Int, v5 = .int .i64 n7 ∧
 AC Tryz.prog 231 [.ptr p1] h6 fun v8 h9 => ∃ b10 : Bool, v8 = .bool b10 ∧
 vif b10
 (Q (.tup [.agg [.int .i64 0, .int .i64 0], .int .i64 10]) h9)
 (AC Tryz.prog 267 [.agg [.int .i64 n4, .int .i64 n7]] h9 fun v11 h12 => ∃ n13 : Int, v11 = .int .i64 n13 ∧
 vif (n13 != 0)
 (Q (.tup [.agg [.int .i64 0, .int .i64 0], .int .i64 n13]) h12)
 (Q (.tup [.agg [.int .i64 n4, .int .i64 n7], .int .i64 0]) h12))
theorem ac226 {p1 : Option PA} {h : Heap} {Q : AV → Heap → Prop} (hk : vc226 p1 h Q) : AC Tryz.prog 226 [.ptr p1] h Q :=
 AC_by (H := hintsOf [2, 4] []) (by kernel_rfl) (by kernel_rfl) hk

/-- num.Reader).Fixed: what it asks. -/
def vc227 (p1 : Option PA) (n2 : Int) (h : Heap) (Q : AV → Heap → Prop) : Prop :=
 vif (decide (n2 < 1))
 (AC Tryz.prog 230 [.ptr p1] h fun v3 h4 => ∃ n5 : Int, v3 = .int .i64 n5 ∧
 Q (.int .i64 n5) h4)
 (vif (decide (n2 > 8))
 (AC Tryz.prog 230 [.ptr p1] h fun v6 h7 => ∃ n8 : Int, v6 = .int .i64 n8 ∧
 Q (.int .i64 n8) h7)
 (AC Tryz.prog 268 [.ptr p1, .int .i64 n2] h fun v9 h10 => ∃ q11 : Option SL, v9 = .sl q11 ∧
 ∃ (I14 : List AV → Heap → Prop) (m15 : List AV → Heap → Nat), I14 [.int .u64 0, .int .i64 0] h10 ∧
 ∀ n12 : Int, ∀ n13 : Int, ∀ h16 : Heap, I14 [.int .u64 n12, .int .i64 n13] h16 →
 vif (decide (n13 < (slLen q11 : Int)))
 (vIdx q11 n13 1 fun p17 =>
 ∃ n18 : Int, cellsAt h16 p17 1 = some [.int .u8 n18] ∧
 (True) ∧ I14 [.int .u64 (bitsOr .u64 (shlK .u64 n12 8) (wrapK .u64 n18)), .int .i64 (wrapK .i64 (n13 + 1))] h16 ∧ m15 [.int .u64 (bitsOr .u64 (shlK .u64 n12 8) (wrapK .u64 n18)), .int .i64 (wrapK .i64 (n13 + 1))] h16 < m15 [.int .u64 n12, .int .i64 n13] h16)
 (AC Tryz.prog 231 [.ptr p1] h16 fun v19 h20 => ∃ b21 : Bool, v19 = .bool b21 ∧
 vif b21
 (AC Tryz.prog 230 [.ptr p1] h20 fun v22 h23 => ∃ n24 : Int, v22 = .int .i64 n24 ∧
 Q (.int .i64 n24) h23)
 (vif (decide (n12 > 9223372036854775807))
 (AC Tryz.prog 230 [.ptr p1] h20 fun v25 h26 => ∃ n27 : Int, v25 = .int .i64 n27 ∧
 Q (.int .i64 n27) h26)
 (Q (.int .i64 (wrapK .i64 n12)) h20)))))
theorem ac227 {p1 : Option PA} {n2 : Int} {h : Heap} {Q : AV → Heap → Prop} (hk : vc227 p1 n2 h Q) : AC Tryz.prog 227 [.ptr p1, .int .i64 n2] h Q :=
 AC_by (H := hintsOf [] [(0, [5, 20], [])]) (by kernel_rfl) (by kernel_rfl) hk

/-- num.Reader).must: what it asks. -/
def vc228 (p1 : Option PA) (n2 : Int) (b3 : Bool) (h : Heap) (Q : AV → Heap → Prop) : Prop :=
 AC Tryz.prog 231 [.ptr p1] h fun v4 h5 => ∃ b6 : Bool, v4 = .bool b6 ∧
 vif b6
 (AC Tryz.prog 230 [.ptr p1] h5 fun v7 h8 => ∃ n9 : Int, v7 = .int .i64 n9 ∧
 Q (.int .i64 n9) h8)
 (vif (!b3)
 (AC Tryz.prog 230 [.ptr p1] h5 fun v10 h11 => ∃ n12 : Int, v10 = .int .i64 n12 ∧
 Q (.int .i64 n12) h11)
 (Q (.int .i64 n2) h5))
theorem ac228 {p1 : Option PA} {n2 : Int} {b3 : Bool} {h : Heap} {Q : AV → Heap → Prop} (hk : vc228 p1 n2 b3 h Q) : AC Tryz.prog 228 [.ptr p1, .int .i64 n2, .bool b3] h Q :=
 AC_by (H := hintsOf [] []) (by kernel_rfl) (by kernel_rfl) hk

/-- num.Size: what it asks. -/
def vc229 (n1 : Int) (h : Heap) (Q : AV → Heap → Prop) : Prop :=
 vif (decide (n1 < 0))
 (Q (.int .i64 0) h)
 (vif (decide (n1 < 240))
 (Q (.int .i64 1) h)
 (vif (decide (n1 < 2288))
 (Q (.int .i64 2) h)
 (AC Tryz.prog 269 [.int .i64 n1] h fun v2 h3 => ∃ n4 : Int, v2 = .int .i64 n4 ∧
 Q (.int .i64 (wrapK .i64 (1 + n4))) h3)))
theorem ac229 {n1 : Int} {h : Heap} {Q : AV → Heap → Prop} (hk : vc229 n1 h Q) : AC Tryz.prog 229 [.int .i64 n1] h Q :=
 AC_by (H := hintsOf [] []) (by kernel_rfl) (by kernel_rfl) hk

/-- num.Reader).fail: what it asks. -/
def vc230 (p1 : Option PA) (h : Heap) (Q : AV → Heap → Prop) : Prop :=
 vif (!(p1.isNone))
 (vPtr p1 fun p2 =>
 PStore h ⟨p2.b, p2.o + 1⟩ [.bool true] fun h3 =>
 Q (.int .i64 0) h3)
 (Q (.int .i64 0) h)
theorem ac230 {p1 : Option PA} {h : Heap} {Q : AV → Heap → Prop} (hk : vc230 p1 h Q) : AC Tryz.prog 230 [.ptr p1] h Q :=
 AC_by (H := hintsOf [] []) (by kernel_rfl) (by kernel_rfl) hk

/-- num.Reader).Bad: what it asks. -/
def vc231 (p1 : Option PA) (h : Heap) (Q : AV → Heap → Prop) : Prop :=
 vif (p1.isNone)
 (Q (.bool true) h)
 (vPtr p1 fun p2 =>
 ∃ b3 : Bool, cellsAt h ⟨p2.b, p2.o + 1⟩ 1 = some [.bool b3] ∧
 Q (.bool b3) h)
theorem ac231 {p1 : Option PA} {h : Heap} {Q : AV → Heap → Prop} (hk : vc231 p1 h Q) : AC Tryz.prog 231 [.ptr p1] h Q :=
 AC_by (H := hintsOf [] []) (by kernel_rfl) (by kernel_rfl) hk

/-- cmp.Compare: what it asks. -/
def vc232 (n1 : Int) (n2 : Int) (h : Heap) (Q : AV → Heap → Prop) : Prop :=
 AC Tryz.prog 270 [.int .i64 n1] h fun v3 h4 => ∃ b5 : Bool, v3 = .bool b5 ∧
 AC Tryz.prog 270 [.int .i64 n2] h4 fun v6 h7 => ∃ b8 : Bool, v6 = .bool b8 ∧
 vif b5
 (vif b8
 (Q (.int .i64 0) h7)
 (Q (.int .i64 (-1)) h7))
 (vif b8
 (Q (.int .i64 1) h7)
 (vif (decide (n1 < n2))
 (Q (.int .i64 (-1)) h7)
 (vif (decide (n1 > n2))
 (Q (.int .i64 1) h7)
 (Q (.int .i64 0) h7))))
theorem ac232 {n1 : Int} {n2 : Int} {h : Heap} {Q : AV → Heap → Prop} (hk : vc232 n1 n2 h Q) : AC Tryz.prog 232 [.int .i64 n1, .int .i64 n2] h Q :=
 AC_by (H := hintsOf [] []) (by kernel_rfl) (by kernel_rfl) hk

/-- entry.may: what it asks. -/
def vc233 (q1 : Option SL) (h : Heap) (Q : AV → Heap → Prop) : Prop :=
 ∃ (I3 : List AV → Heap → Prop) (m4 : List AV → Heap → Nat), I3 [.int .i64 0] h ∧
 ∀ n2 : Int, ∀ h5 : Heap, I3 [.int .i64 n2] h5 →
 vif (decide (n2 < (slLen q1 : Int)))
 (vIdx q1 n2 4 fun p6 =>
 ∃ n7 : Int, ∃ n8 : Int, ∃ n9 : Int, ∃ n10 : Int, cellsAt h5 p6 4 = some [.int .i64 n7, .int .i64 n8, .int .i64 n9, .int .i64 n10] ∧
 AC Tryz.prog 271 [.agg [.int .i64 n7, .int .i64 n8, .int .i64 n9, .int .i64 n10]] h5 fun v11 h12 => ∃ n13 : Int, v11 = .int .i64 n13 ∧
 vif (n13 != 0)
 (Q (.int .i64 n13) h12)
 ((True) ∧ I3 [.int .i64 (wrapK .i64 (n2 + 1))] h12 ∧ m4 [.int .i64 (wrapK .i64 (n2 + 1))] h12 < m4 [.int .i64 n2] h5))
 (vif (decide ((slLen q1 : Int) > 16384))
 (Q (.int .i64 3) h5)
 (Q (.int .i64 0) h5))
theorem ac233 {q1 : Option SL} {h : Heap} {Q : AV → Heap → Prop} (hk : vc233 q1 h Q) : AC Tryz.prog 233 [.sl q1] h Q :=
 AC_by (H := hintsOf [4] [(0, [8], [])]) (by kernel_rfl) (by kernel_rfl) hk

/-- entry.put: what it asks. -/
def vc234 (n1 : Int) (n2 : Int) (n3 : Int) (n4 : Int) (h : Heap) (Q : AV → Heap → Prop) : Prop :=
 AC Tryz.prog 272 [.agg [.int .i64 n1, .int .i64 n2]] h fun v5 h6 => ∃ q7 : Option SL, ∃ n8 : Int, v5 = .tup [.sl q7, .int .i64 n8] ∧
 AC Tryz.prog 273 [.agg [.int .i64 n3, .int .i64 n4]] h6 fun v9 h10 => ∃ q11 : Option SL, ∃ n12 : Int, v9 = .tup [.sl q11, .int .i64 n12] ∧
 PNew [.sl q7, .sl q11] true h10 fun a13 h14 =>
 AC Tryz.prog 239 [.sl (some ⟨a13, 0, 2, 2, 0⟩)] h14 fun v15 h16 => ∃ q17 : Option SL, v15 = .sl q17 ∧
 Q (.sl q17) h16
theorem ac234 {n1 : Int} {n2 : Int} {n3 : Int} {n4 : Int} {h : Heap} {Q : AV → Heap → Prop} (hk : vc234 n1 n2 n3 n4 h Q) : AC Tryz.prog 234 [.agg [.int .i64 n1, .int .i64 n2, .int .i64 n3, .int .i64 n4]] h Q :=
 AC_by (H := hintsOf [1] []) (by kernel_rfl) (by kernel_rfl) hk

/-- slices.Grow: what it asks. -/
def vc235 (n1 : Int) (h : Heap) (Q : AV → Heap → Prop) : Prop :=
 vif (decide (n1 < 0))
 (False)
 (vif (decide ((wrapK .i64 (n1 - 0)) > 0))
 (PSlice 1 none 0 (some 0) none fun q2 =>
 0 ≤ (wrapK .i64 (n1 - 0)) ∧ (wrapK .i64 (n1 - 0)) ≤ maxI ∧ (wrapK .i64 (n1 - 0)) * 24 ≤ 140737488355328 ∧ PAppend 1 24 q2 (wrapK .i64 (n1 - 0)).toNat (List.replicate (wrapK .i64 (n1 - 0)).toNat [.sl none]).flatten h fun q3 h4 =>
 PSlice 1 q3 0 (some 0) none fun q5 =>
 Q (.sl q5) h4)
 (Q (.sl none) h))
theorem ac235 {n1 : Int} {h : Heap} {Q : AV → Heap → Prop} (hk : vc235 n1 h Q) : AC Tryz.prog 235 [.sl none, .int .i64 n1] h Q :=
 AC_by (H := hintsOf [] []) (by kernel_rfl) (by kernel_rfl) hk

/-- num.Put: what it asks. -/
def vc236 (n1 : Int) (h : Heap) (Q : AV → Heap → Prop) : Prop :=
 vif (decide (n1 < 0))
 (Q (.tup [.sl none, .int .i64 1]) h)
 (vif (decide (n1 < 240))
 (PNew [.int .u8 (wrapK .u8 n1)] true h fun a2 h3 =>
 Q (.tup [.sl (some ⟨a2, 0, 1, 1, 0⟩), .int .i64 0]) h3)
 (vif (decide (n1 < 2288))
 (PNew [.int .u8 (wrapK .u8 (wrapK .i64 (240 + (shrK .i64 (wrapK .i64 (n1 - 240)) 8)))), .int .u8 (wrapK .u8 (wrapK .i64 (n1 - 240)))] true h fun a4 h5 =>
 Q (.tup [.sl (some ⟨a4, 0, 2, 2, 0⟩), .int .i64 0]) h5)
 (AC Tryz.prog 269 [.int .i64 n1] h fun v6 h7 => ∃ n8 : Int, v6 = .int .i64 n8 ∧
 PNew [.int .u8 (wrapK .u8 (wrapK .i64 (246 + n8)))] true h7 fun a9 h10 =>
 AC Tryz.prog 274 [.int .i64 n1, .int .i64 n8] h10 fun v11 h12 => ∃ q13 : Option SL, v11 = .sl q13 ∧
 PAppendS 1 1 (some ⟨a9, 0, 1, 1, 0⟩) q13 h12 fun q14 h15 =>
 Q (.tup [.sl q14, .int .i64 0]) h15)))
theorem ac236 {n1 : Int} {h : Heap} {Q : AV → Heap → Prop} (hk : vc236 n1 h Q) : AC Tryz.prog 236 [.int .i64 n1] h Q :=
 AC_by (H := hintsOf [] []) (by kernel_rfl) (by kernel_rfl) hk

/-- page.may: what it asks. -/
def vc237 (n1 : Int) (h : Heap) (Q : AV → Heap → Prop) : Prop :=
 vif (decide (n1 ≥ 1))
 (Q (.bool (decide (n1 ≤ 4611686018427387903))) h)
 (Q (.bool false) h)
theorem ac237 {n1 : Int} {h : Heap} {Q : AV → Heap → Prop} (hk : vc237 n1 h Q) : AC Tryz.prog 237 [.int .i64 n1] h Q :=
 AC_by (H := hintsOf [] []) (by kernel_rfl) (by kernel_rfl) hk

/-- num.Fix: what it asks. -/
def vc238 (n1 : Int) (n2 : Int) (h : Heap) (Q : AV → Heap → Prop) : Prop :=
 vif (decide (n1 < 0))
 (Q (.tup [.sl none, .int .i64 1]) h)
 (vif (decide (n2 < 1))
 (Q (.tup [.sl none, .int .i64 1]) h)
 (vif (decide (n2 > 8))
 (Q (.tup [.sl none, .int .i64 1]) h)
 (AC Tryz.prog 269 [.int .i64 n1] h fun v3 h4 => ∃ n5 : Int, v3 = .int .i64 n5 ∧
 vif (decide (n5 > n2))
 (Q (.tup [.sl none, .int .i64 1]) h4)
 (AC Tryz.prog 274 [.int .i64 n1, .int .i64 n2] h4 fun v6 h7 => ∃ q8 : Option SL, v6 = .sl q8 ∧
 Q (.tup [.sl q8, .int .i64 0]) h7))))
theorem ac238 {n1 : Int} {n2 : Int} {h : Heap} {Q : AV → Heap → Prop} (hk : vc238 n1 n2 h Q) : AC Tryz.prog 238 [.int .i64 n1, .int .i64 n2] h Q :=
 AC_by (H := hintsOf [] []) (by kernel_rfl) (by kernel_rfl) hk

/-- slices.Concat: what it asks. -/
def vc239 (q1 : Option SL) (h : Heap) (Q : AV → Heap → Prop) : Prop :=
 ∃ (I4 : List AV → Heap → Prop) (m5 : List AV → Heap → Nat), I4 [.int .i64 0, .int .i64 0] h ∧
 ∀ n2 : Int, ∀ n3 : Int, ∀ h6 : Heap, I4 [.int .i64 n2, .int .i64 n3] h6 →
 vif (decide (n3 < (slLen q1 : Int)))
 (vIdx q1 n3 1 fun p7 =>
 ∃ q8 : Option SL, cellsAt h6 p7 1 = some [.sl q8] ∧
 vif (decide ((wrapK .i64 (n2 + (slLen q8 : Int))) < 0))
 (False)
 ((True) ∧ I4 [.int .i64 (wrapK .i64 (n2 + (slLen q8 : Int))), .int .i64 (wrapK .i64 (n3 + 1))] h6 ∧ m5 [.int .i64 (wrapK .i64 (n2 + (slLen q8 : Int))), .int .i64 (wrapK .i64 (n3 + 1))] h6 < m5 [.int .i64 n2, .int .i64 n3] h6))
 (AC Tryz.prog 275 [.sl none, .int .i64 n2] h6 fun v9 h10 => ∃ q11 : Option SL, v9 = .sl q11 ∧
 ∃ (I14 : List AV → Heap → Prop) (m15 : List AV → Heap → Nat), I14 [.sl q11, .int .i64 0] h10 ∧
 ∀ q12 : Option SL, ∀ n13 : Int, ∀ h16 : Heap, I14 [.sl q12, .int .i64 n13] h16 →
 vif (decide (n13 < (slLen q1 : Int)))
 (vIdx q1 n13 1 fun p17 =>
 ∃ q18 : Option SL, cellsAt h16 p17 1 = some [.sl q18] ∧
 PAppendS 1 1 q12 q18 h16 fun q19 h20 =>
 (True) ∧ I14 [.sl q19, .int .i64 (wrapK .i64 (n13 + 1))] h20 ∧ m15 [.sl q19, .int .i64 (wrapK .i64 (n13 + 1))] h20 < m15 [.sl q12, .int .i64 n13] h16)
 (Q (.sl q12) h16))
theorem ac239 {q1 : Option SL} {h : Heap} {Q : AV → Heap → Prop} (hk : vc239 q1 h Q) : AC Tryz.prog 239 [.sl q1] h Q :=
 AC_by (H := hintsOf [] [(0, [3, 11], []), (2, [6, 27], [])]) (by kernel_rfl) (by kernel_rfl) hk

/-- crc.Seal: what it asks. -/
def vc240 (q1 : Option SL) (h : Heap) (Q : AV → Heap → Prop) : Prop :=
 AC Tryz.prog 277 [.sl q1] h fun v2 h3 => ∃ n4 : Int, v2 = .int .u32 n4 ∧
 AC Tryz.prog 276 [.int .u32 n4] h3 fun v5 h6 => ∃ q7 : Option SL, v5 = .sl q7 ∧
 PNew [.sl q1, .sl q7] true h6 fun a8 h9 =>
 AC Tryz.prog 239 [.sl (some ⟨a8, 0, 2, 2, 0⟩)] h9 fun v10 h11 => ∃ q12 : Option SL, v10 = .sl q12 ∧
 Q (.sl q12) h11
theorem ac240 {q1 : Option SL} {h : Heap} {Q : AV → Heap → Prop} (hk : vc240 q1 h Q) : AC Tryz.prog 240 [.sl q1] h Q :=
 AC_by (H := hintsOf [] []) (by kernel_rfl) (by kernel_rfl) hk

/-- oxbowref04.Put: what it asks. -/
def vc263 (n1 : Int) (n2 : Int) (h : Heap) (Q : AV → Heap → Prop) : Prop :=
 AC Tryz.prog 141 [.int .i64 n1] h fun v3 h4 => ∃ q5 : Option SL, v3 = .sl q5 ∧
 (LV.val (.int .i64 n2) = LV.val (.int .i64 n2)) ∧
 AC Tryz.prog 141 [.int .i64 n2] h4 fun v6 h7 => ∃ q8 : Option SL, v6 = .sl q8 ∧
 PAppendS 1 1 q5 q8 h7 fun q9 h10 =>
 Q (.sl q9) h10
theorem ac263 {n1 : Int} {n2 : Int} {h : Heap} {Q : AV → Heap → Prop} (hk : vc263 n1 n2 h Q) : AC Tryz.prog 263 [.agg [.int .i64 n1, .int .i64 n2]] h Q :=
 AC_by (H := hintsOf [1] []) (by kernel_rfl) (by kernel_rfl) hk

/-- oxbowref03.Put: what it asks. -/
def vc264 (n1 : Int) (n2 : Int) (h : Heap) (Q : AV → Heap → Prop) : Prop :=
 AC Tryz.prog 141 [.int .i64 n1] h fun v3 h4 => ∃ q5 : Option SL, v3 = .sl q5 ∧
 (LV.val (.int .i64 n2) = LV.val (.int .i64 n2)) ∧
 AC Tryz.prog 141 [.int .i64 n2] h4 fun v6 h7 => ∃ q8 : Option SL, v6 = .sl q8 ∧
 PAppendS 1 1 q5 q8 h7 fun q9 h10 =>
 Q (.sl q9) h10
theorem ac264 {n1 : Int} {n2 : Int} {h : Heap} {Q : AV → Heap → Prop} (hk : vc264 n1 n2 h Q) : AC Tryz.prog 264 [.agg [.int .i64 n1, .int .i64 n2]] h Q :=
 AC_by (H := hintsOf [1] []) (by kernel_rfl) (by kernel_rfl) hk

/-- oxbowref02.Sum: what it asks. -/
def vc265 (q1 : Option SL) (h : Heap) (Q : AV → Heap → Prop) : Prop :=
 AC Tryz.prog 294 [.int .u32 0, .sl q1] h fun v2 h3 => ∃ n4 : Int, v2 = .int .u32 n4 ∧
 Q (.int .u32 n4) h3
theorem ac265 {q1 : Option SL} {h : Heap} {Q : AV → Heap → Prop} (hk : vc265 q1 h Q) : AC Tryz.prog 265 [.sl q1] h Q :=
 AC_by (H := hintsOf [] []) (by kernel_rfl) (by kernel_rfl) hk

/-- rec.Check: what it asks. -/
def vc267 (n1 : Int) (n2 : Int) (h : Heap) (Q : AV → Heap → Prop) : Prop :=
 AC Tryz.prog 295 [.int .i64 n1] h fun v3 h4 => ∃ b5 : Bool, v3 = .bool b5 ∧
 vif (!b5)
 (Q (.int .i64 30) h4)
 (AC Tryz.prog 295 [.int .i64 n2] h4 fun v6 h7 => ∃ b8 : Bool, v6 = .bool b8 ∧
 vif (!b8)
 (Q (.int .i64 30) h7)
 (Q (.int .i64 0) h7))
theorem ac267 {n1 : Int} {n2 : Int} {h : Heap} {Q : AV → Heap → Prop} (hk : vc267 n1 n2 h Q) : AC Tryz.prog 267 [.agg [.int .i64 n1, .int .i64 n2]] h Q :=
 AC_by (H := hintsOf [1] []) (by kernel_rfl) (by kernel_rfl) hk

/-- num.Reader).Bytes: what it asks. -/
def vc268 (p1 : Option PA) (n2 : Int) (h : Heap) (Q : AV → Heap → Prop) : Prop :=
 AC Tryz.prog 231 [.ptr p1] h fun v3 h4 => ∃ b5 : Bool, v3 = .bool b5 ∧
 vif b5
 (AC Tryz.prog 230 [.ptr p1] h4 fun v6 h7 => ∃ n8 : Int, v6 = .int .i64 n8 ∧
 Q (.sl none) h7)
 (vif (decide (n2 < 0))
 (AC Tryz.prog 230 [.ptr p1] h4 fun v9 h10 => ∃ n11 : Int, v9 = .int .i64 n11 ∧
 Q (.sl none) h10)
 (vPtr p1 fun p12 =>
 ∃ q13 : Option SL, cellsAt h4 ⟨p12.b, p12.o + 0⟩ 1 = some [.sl q13] ∧
 vif (decide (n2 > (slLen q13 : Int)))
 (AC Tryz.prog 230 [.ptr p1] h4 fun v14 h15 => ∃ n16 : Int, v14 = .int .i64 n16 ∧
 Q (.sl none) h15)
 (vPtr p1 fun p17 =>
 ∃ q18 : Option SL, cellsAt h4 ⟨p17.b, p17.o + 0⟩ 1 = some [.sl q18] ∧
 PSlice 1 q18 0 (some n2) none fun q19 =>
 AC Tryz.prog 131 [.sl q19] h4 fun v20 h21 => ∃ q22 : Option SL, v20 = .sl q22 ∧
 vPtr p1 fun p23 =>
 ∃ q24 : Option SL, cellsAt h21 ⟨p23.b, p23.o + 0⟩ 1 = some [.sl q24] ∧
 PSlice 1 q24 n2 none none fun q25 =>
 vPtr p1 fun p26 =>
 PStore h21 ⟨p26.b, p26.o + 0⟩ [.sl q25] fun h27 =>
 Q (.sl q22) h27)))
theorem ac268 {p1 : Option PA} {n2 : Int} {h : Heap} {Q : AV → Heap → Prop} (hk : vc268 p1 n2 h Q) : AC Tryz.prog 268 [.ptr p1, .int .i64 n2] h Q :=
 AC_by (H := hintsOf [] []) (by kernel_rfl) (by kernel_rfl) hk

/-- num.width: what it asks. -/
def vc269 (n1 : Int) (h : Heap) (Q : AV → Heap → Prop) : Prop :=
 ∃ (I4 : List AV → Heap → Prop) (m5 : List AV → Heap → Nat), I4 [.int .i64 (shrK .i64 n1 8), .int .i64 1] h ∧
 ∀ n2 : Int, ∀ n3 : Int, ∀ h6 : Heap, I4 [.int .i64 n2, .int .i64 n3] h6 →
 vif (decide (n2 > 0))
 ((True) ∧ I4 [.int .i64 (shrK .i64 n2 8), .int .i64 (wrapK .i64 (n3 + 1))] h6 ∧ m5 [.int .i64 (shrK .i64 n2 8), .int .i64 (wrapK .i64 (n3 + 1))] h6 < m5 [.int .i64 n2, .int .i64 n3] h6)
 (Q (.int .i64 n3) h6)
theorem ac269 {n1 : Int} {h : Heap} {Q : AV → Heap → Prop} (hk : vc269 n1 h Q) : AC Tryz.prog 269 [.int .i64 n1] h Q :=
 AC_by (H := hintsOf [] [(0, [0, 3], [])]) (by kernel_rfl) (by kernel_rfl) hk

/-- cmp.isNaN: what it asks. -/
def vc270 (n1 : Int) (h : Heap) (Q : AV → Heap → Prop) : Prop :=
 Q (.bool (n1 != n1)) h
theorem ac270 {n1 : Int} {h : Heap} {Q : AV → Heap → Prop} (hk : vc270 n1 h Q) : AC Tryz.prog 270 [.int .i64 n1] h Q :=
 AC_by (H := hintsOf [] []) (by kernel_rfl) (by kernel_rfl) hk

/-- entry.Check: what it asks. -/
def vc271 (n1 : Int) (n2 : Int) (n3 : Int) (n4 : Int) (h : Heap) (Q : AV → Heap → Prop) : Prop :=
 AC Tryz.prog 186 [.agg [.int .i64 n1, .int .i64 n2]] h fun v5 h6 => ∃ n7 : Int, v5 = .int .i64 n7 ∧
 vif (n7 != 0)
 (Q (.int .i64 n7) h6)
 (AC Tryz.prog 267 [.agg [.int .i64 n3, .int .i64 n4]] h6 fun v8 h9 => ∃ n10 : Int, v8 = .int .i64 n10 ∧
 Q (.int .i64 n10) h9)
theorem ac271 {n1 : Int} {n2 : Int} {n3 : Int} {n4 : Int} {h : Heap} {Q : AV → Heap → Prop} (hk : vc271 n1 n2 n3 n4 h Q) : AC Tryz.prog 271 [.agg [.int .i64 n1, .int .i64 n2, .int .i64 n3, .int .i64 n4]] h Q :=
 AC_by (H := hintsOf [1] []) (by kernel_rfl) (by kernel_rfl) hk

/-- moment.Put: what it asks. -/
def vc272 (n1 : Int) (n2 : Int) (h : Heap) (Q : AV → Heap → Prop) : Prop :=
 AC Tryz.prog 186 [.agg [.int .i64 n1, .int .i64 n2]] h fun v3 h4 => ∃ n5 : Int, v3 = .int .i64 n5 ∧
 vif (n5 != 0)
 (Q (.tup [.sl none, .int .i64 n5]) h4)
 (AC Tryz.prog 236 [.int .i64 n1] h4 fun v6 h7 => ∃ q8 : Option SL, ∃ n9 : Int, v6 = .tup [.sl q8, .int .i64 n9] ∧
 AC Tryz.prog 236 [.int .i64 n2] h7 fun v10 h11 => ∃ q12 : Option SL, ∃ n13 : Int, v10 = .tup [.sl q12, .int .i64 n13] ∧
 PNew [.sl q8, .sl q12] true h11 fun a14 h15 =>
 AC Tryz.prog 239 [.sl (some ⟨a14, 0, 2, 2, 0⟩)] h15 fun v16 h17 => ∃ q18 : Option SL, v16 = .sl q18 ∧
 Q (.tup [.sl q18, .int .i64 0]) h17)
theorem ac272 {n1 : Int} {n2 : Int} {h : Heap} {Q : AV → Heap → Prop} (hk : vc272 n1 n2 h Q) : AC Tryz.prog 272 [.agg [.int .i64 n1, .int .i64 n2]] h Q :=
 AC_by (H := hintsOf [1] []) (by kernel_rfl) (by kernel_rfl) hk

/-- rec.Put: what it asks. -/
def vc273 (n1 : Int) (n2 : Int) (h : Heap) (Q : AV → Heap → Prop) : Prop :=
 AC Tryz.prog 267 [.agg [.int .i64 n1, .int .i64 n2]] h fun v3 h4 => ∃ n5 : Int, v3 = .int .i64 n5 ∧
 vif (n5 != 0)
 (Q (.tup [.sl none, .int .i64 n5]) h4)
 (AC Tryz.prog 236 [.int .i64 n1] h4 fun v6 h7 => ∃ q8 : Option SL, ∃ n9 : Int, v6 = .tup [.sl q8, .int .i64 n9] ∧
 AC Tryz.prog 236 [.int .i64 n2] h7 fun v10 h11 => ∃ q12 : Option SL, ∃ n13 : Int, v10 = .tup [.sl q12, .int .i64 n13] ∧
 PNew [.sl q8, .sl q12] true h11 fun a14 h15 =>
 AC Tryz.prog 239 [.sl (some ⟨a14, 0, 2, 2, 0⟩)] h15 fun v16 h17 => ∃ q18 : Option SL, v16 = .sl q18 ∧
 Q (.tup [.sl q18, .int .i64 0]) h17)
theorem ac273 {n1 : Int} {n2 : Int} {h : Heap} {Q : AV → Heap → Prop} (hk : vc273 n1 n2 h Q) : AC Tryz.prog 273 [.agg [.int .i64 n1, .int .i64 n2]] h Q :=
 AC_by (H := hintsOf [1] []) (by kernel_rfl) (by kernel_rfl) hk

/-- num.digits: what it asks. -/
def vc274 (n1 : Int) (n2 : Int) (h : Heap) (Q : AV → Heap → Prop) : Prop :=
 PMake [.int .u8 0] 1 n2 n2 h fun q3 h4 =>
 ∃ (I6 : List AV → Heap → Prop) (m7 : List AV → Heap → Nat), I6 [.int .i64 0] h4 ∧
 ∀ n5 : Int, ∀ h8 : Heap, I6 [.int .i64 n5] h8 →
 vif (decide (n5 < (slLen q3 : Int)))
 (need (decide (0 ≤ (wrapK .i64 (8 * (wrapK .i64 ((wrapK .i64 (n2 - 1)) - n5))))))
 (vIdx q3 n5 1 fun p9 =>
 PStore h8 p9 [.int .u8 (wrapK .u8 (shrK .i64 n1 (wrapK .i64 (8 * (wrapK .i64 ((wrapK .i64 (n2 - 1)) - n5))))))] fun h10 =>
 (True) ∧ I6 [.int .i64 (wrapK .i64 (n5 + 1))] h10 ∧ m7 [.int .i64 (wrapK .i64 (n5 + 1))] h10 < m7 [.int .i64 n5] h8))
 (Q (.sl q3) h8)
theorem ac274 {n1 : Int} {n2 : Int} {h : Heap} {Q : AV → Heap → Prop} (hk : vc274 n1 n2 h Q) : AC Tryz.prog 274 [.int .i64 n1, .int .i64 n2] h Q :=
 AC_by (H := hintsOf [] [(0, [11], [])]) (by kernel_rfl) (by kernel_rfl) hk

/-- slices.Grow: what it asks. -/
def vc275 (n1 : Int) (h : Heap) (Q : AV → Heap → Prop) : Prop :=
 vif (decide (n1 < 0))
 (False)
 (vif (decide ((wrapK .i64 (n1 - 0)) > 0))
 (PSlice 1 none 0 (some 0) none fun q2 =>
 0 ≤ (wrapK .i64 (n1 - 0)) ∧ (wrapK .i64 (n1 - 0)) ≤ maxI ∧ (wrapK .i64 (n1 - 0)) * 1 ≤ 140737488355328 ∧ PAppend 1 1 q2 (wrapK .i64 (n1 - 0)).toNat (List.replicate (wrapK .i64 (n1 - 0)).toNat [.int .u8 0]).flatten h fun q3 h4 =>
 PSlice 1 q3 0 (some 0) none fun q5 =>
 Q (.sl q5) h4)
 (Q (.sl none) h))
theorem ac275 {n1 : Int} {h : Heap} {Q : AV → Heap → Prop} (hk : vc275 n1 h Q) : AC Tryz.prog 275 [.sl none, .int .i64 n1] h Q :=
 AC_by (H := hintsOf [] []) (by kernel_rfl) (by kernel_rfl) hk

/-- crc.tail: what it asks. -/
def vc276 (n1 : Int) (h : Heap) (Q : AV → Heap → Prop) : Prop :=
 PNew [.int .u8 (wrapK .u8 n1), .int .u8 (wrapK .u8 (shrK .u32 n1 8)), .int .u8 (wrapK .u8 (shrK .u32 n1 16)), .int .u8 (wrapK .u8 (shrK .u32 n1 24))] true h fun a2 h3 =>
 Q (.sl (some ⟨a2, 0, 4, 4, 0⟩)) h3
theorem ac276 {n1 : Int} {h : Heap} {Q : AV → Heap → Prop} (hk : vc276 n1 h Q) : AC Tryz.prog 276 [.int .u32 n1] h Q :=
 AC_by (H := hintsOf [] []) (by kernel_rfl) (by kernel_rfl) hk

/-- crc.Sum: what it asks. -/
def vc277 (q1 : Option SL) (h : Heap) (Q : AV → Heap → Prop) : Prop :=
 AC Tryz.prog 296 [.int .u32 0, .sl q1] h fun v2 h3 => ∃ n4 : Int, v2 = .int .u32 n4 ∧
 Q (.int .u32 n4) h3
theorem ac277 {q1 : Option SL} {h : Heap} {Q : AV → Heap → Prop} (hk : vc277 q1 h Q) : AC Tryz.prog 277 [.sl q1] h Q :=
 AC_by (H := hintsOf [] []) (by kernel_rfl) (by kernel_rfl) hk

/-- oxbowref02.More: what it asks. -/
def vc294 (n1 : Int) (q2 : Option SL) (h : Heap) (Q : AV → Heap → Prop) : Prop :=
 ∃ (I5 : List AV → Heap → Prop) (m6 : List AV → Heap → Nat), I5 [.int .u32 (bitsXor .u32 4294967295 n1), .int .i64 0] h ∧
 ∀ n3 : Int, ∀ n4 : Int, ∀ h7 : Heap, I5 [.int .u32 n3, .int .i64 n4] h7 →
 vif (decide (n4 < (slLen q2 : Int)))
 (vIdx q2 n4 1 fun p8 =>
 ∃ n9 : Int, cellsAt h7 p8 1 = some [.int .u8 n9] ∧
 ∃ (I12 : List AV → Heap → Prop) (m13 : List AV → Heap → Nat), I12 [.int .u32 (bitsXor .u32 n3 (wrapK .u32 n9)), .int .i64 0] h7 ∧
 ∀ n10 : Int, ∀ n11 : Int, ∀ h14 : Heap, I12 [.int .u32 n10, .int .i64 n11] h14 →
 vif (decide (n11 < 8))
 (vif ((bitsAnd .u32 n10 1) == 1)
 ((True) ∧ I12 [.int .u32 (bitsXor .u32 (shrK .u32 n10 1) 3988292384), .int .i64 (wrapK .i64 (n11 + 1))] h14 ∧ m13 [.int .u32 (bitsXor .u32 (shrK .u32 n10 1) 3988292384), .int .i64 (wrapK .i64 (n11 + 1))] h14 < m13 [.int .u32 n10, .int .i64 n11] h14)
 ((True) ∧ I12 [.int .u32 (shrK .u32 n10 1), .int .i64 (wrapK .i64 (n11 + 1))] h14 ∧ m13 [.int .u32 (shrK .u32 n10 1), .int .i64 (wrapK .i64 (n11 + 1))] h14 < m13 [.int .u32 n10, .int .i64 n11] h14))
 ((True) ∧ I5 [.int .u32 n10, .int .i64 (wrapK .i64 (n4 + 1))] h14 ∧ m6 [.int .u32 n10, .int .i64 (wrapK .i64 (n4 + 1))] h14 < m6 [.int .u32 n3, .int .i64 n4] h7))
 (Q (.int .u32 (bitsXor .u32 4294967295 n3)) h7)
theorem ac294 {n1 : Int} {q2 : Option SL} {h : Heap} {Q : AV → Heap → Prop} (hk : vc294 n1 q2 h Q) : AC Tryz.prog 294 [.int .u32 n1, .sl q2] h Q :=
 AC_by (H := hintsOf [] [(0, [5, 6], []), (2, [5, 7], [])]) (by kernel_rfl) (by kernel_rfl) hk

/-- rec.within: what it asks. -/
def vc295 (n1 : Int) (h : Heap) (Q : AV → Heap → Prop) : Prop :=
 vif (decide (n1 ≥ 0))
 (Q (.bool (decide (n1 ≤ 1048575))) h)
 (Q (.bool false) h)
theorem ac295 {n1 : Int} {h : Heap} {Q : AV → Heap → Prop} (hk : vc295 n1 h Q) : AC Tryz.prog 295 [.int .i64 n1] h Q :=
 AC_by (H := hintsOf [] []) (by kernel_rfl) (by kernel_rfl) hk

/-- crc.More: what it asks. -/
def vc296 (n1 : Int) (q2 : Option SL) (h : Heap) (Q : AV → Heap → Prop) : Prop :=
 ∃ (I5 : List AV → Heap → Prop) (m6 : List AV → Heap → Nat), I5 [.int .u32 (bitsXor .u32 4294967295 n1), .int .i64 0] h ∧
 ∀ n3 : Int, ∀ n4 : Int, ∀ h7 : Heap, I5 [.int .u32 n3, .int .i64 n4] h7 →
 vif (decide (n4 < (slLen q2 : Int)))
 (vIdx q2 n4 1 fun p8 =>
 ∃ n9 : Int, cellsAt h7 p8 1 = some [.int .u8 n9] ∧
 need (decide (0 ≤ (bitsAnd .u32 (bitsXor .u32 n3 (wrapK .u32 n9)) 15)) && decide ((bitsAnd .u32 (bitsXor .u32 n3 (wrapK .u32 n9)) 15) < 16))
 (∃ a10 j11 : Nat, h7[a10]? = some (.gm 0 j11) ∧
 ∃ n12 : Int, cellsAt h7 ⟨j11, (bitsAnd .u32 (bitsXor .u32 n3 (wrapK .u32 n9)) 15).toNat * 1⟩ 1 = some [.int .u32 n12] ∧
 need (decide (0 ≤ (bitsAnd .u32 (bitsXor .u32 n12 (shrK .u32 (bitsXor .u32 n3 (wrapK .u32 n9)) 4)) 15)) && decide ((bitsAnd .u32 (bitsXor .u32 n12 (shrK .u32 (bitsXor .u32 n3 (wrapK .u32 n9)) 4)) 15) < 16))
 (∃ a13 j14 : Nat, h7[a13]? = some (.gm 0 j14) ∧
 ∃ n15 : Int, cellsAt h7 ⟨j14, (bitsAnd .u32 (bitsXor .u32 n12 (shrK .u32 (bitsXor .u32 n3 (wrapK .u32 n9)) 4)) 15).toNat * 1⟩ 1 = some [.int .u32 n15] ∧
 (True) ∧ I5 [.int .u32 (bitsXor .u32 n15 (shrK .u32 (bitsXor .u32 n12 (shrK .u32 (bitsXor .u32 n3 (wrapK .u32 n9)) 4)) 4)), .int .i64 (wrapK .i64 (n4 + 1))] h7 ∧ m6 [.int .u32 (bitsXor .u32 n15 (shrK .u32 (bitsXor .u32 n12 (shrK .u32 (bitsXor .u32 n3 (wrapK .u32 n9)) 4)) 4)), .int .i64 (wrapK .i64 (n4 + 1))] h7 < m6 [.int .u32 n3, .int .i64 n4] h7)))
 (Q (.int .u32 (bitsXor .u32 4294967295 n3)) h7)
theorem ac296 {n1 : Int} {q2 : Option SL} {h : Heap} {Q : AV → Heap → Prop} (hk : vc296 n1 q2 h Q) : AC Tryz.prog 296 [.int .u32 n1, .sl q2] h Q :=
 AC_by (H := hintsOf [] [(0, [5, 12], [])]) (by kernel_rfl) (by kernel_rfl) hk

end Go.Proofs
