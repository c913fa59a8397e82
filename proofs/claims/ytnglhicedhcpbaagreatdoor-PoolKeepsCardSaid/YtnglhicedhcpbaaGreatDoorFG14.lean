/- Conditions, printed. -/
import Derived.Test.YtnglhicedhcpbaaGreatDoorFG10
import Derived.Test.YtnglhicedhcpbaaGreatDoorProg
import Derived.KernelRfl
namespace Go.Proofs
open Go.Ab
set_option maxRecDepth 100000
set_option linter.unusedVariables false

/-- oxbowlaw09.PoolKeeps: what it asks. -/
def vc11 (n1 : Int) (n2 : Int) (q3 : Option SL) (h : Heap) (Q : AV → Heap → Prop) : Prop :=
 AC Tryz.prog 67 [] h fun v4 h5 => ∃ p6 : Option PA, v4 = .ptr p6 ∧
 AC Tryz.prog 68 [] h5 fun v7 h8 => ∃ b9 : Bool, v7 = .bool b9 ∧
 vif (!b9)
 (AC Tryz.prog 68 [] h8 fun v10 h11 => ∃ b12 : Bool, v10 = .bool b12 ∧
 Q (.bool b12) h11)
 (vif (p6.isNone)
 (AC Tryz.prog 68 [] h8 fun v13 h14 => ∃ b15 : Bool, v13 = .bool b15 ∧
 Q (.bool b15) h14)
 (vif (decide (n1 < 1))
 (AC Tryz.prog 68 [] h8 fun v16 h17 => ∃ b18 : Bool, v16 = .bool b18 ∧
 Q (.bool b18) h17)
 (vif (decide (n1 > 100))
 (AC Tryz.prog 68 [] h8 fun v19 h20 => ∃ b21 : Bool, v19 = .bool b21 ∧
 Q (.bool b21) h20)
 (vif (decide (n2 < 0))
 (AC Tryz.prog 68 [] h8 fun v22 h23 => ∃ b24 : Bool, v22 = .bool b24 ∧
 Q (.bool b24) h23)
 (vPtr p6 fun p25 =>
 ∃ q26 : Option SL, cellsAt h8 ⟨p25.b, p25.o + 1⟩ 1 = some [.sl q26] ∧
 vIdx q26 2 1 fun p27 =>
 ∃ p28 : Option PA, cellsAt h8 p27 1 = some [.ptr p28] ∧
 AC Tryz.prog 22 [.ptr p28] h8 fun v29 h30 => ∃ n31 : Int, v29 = .int .i64 n31 ∧
 vif (decide (n2 ≥ n31))
 (AC Tryz.prog 68 [] h30 fun v32 h33 => ∃ b34 : Bool, v32 = .bool b34 ∧
 Q (.bool b34) h33)
 (AC Tryz.prog 69 [.int .i64 n1] h30 fun v35 h36 => ∃ p37 : Option PA, ∃ n38 : Int, v35 = .tup [.ptr p37, .int .i64 n38] ∧
 vif (n38 != 0)
 (Q (.bool false) h36)
 (vif (p37.isNone)
 (Q (.bool false) h36)
 (vPtr p6 fun p39 =>
 ∃ q40 : Option SL, cellsAt h36 ⟨p39.b, p39.o + 1⟩ 1 = some [.sl q40] ∧
 vIdx q40 2 1 fun p41 =>
 ∃ p42 : Option PA, cellsAt h36 p41 1 = some [.ptr p42] ∧
 AC Tryz.prog 70 [.ptr p37, .ptr p42, .int .i64 n2] h36 fun v43 h44 => ∃ q45 : Option SL, ∃ n46 : Int, v43 = .tup [.sl q45, .int .i64 n46] ∧
 ∃ (I48 : List AV → Heap → Prop) (m49 : List AV → Heap → Nat), I48 [.int .i64 0] h44 ∧
 ∀ n47 : Int, ∀ h50 : Heap, I48 [.int .i64 n47] h50 →
 vif (decide (n47 < (slLen q3 : Int)))
 (vif (decide (n47 < 60))
 (vIdx q3 n47 3 fun p51 =>
 ∃ n52 : Int, ∃ n53 : Int, ∃ n54 : Int, cellsAt h50 p51 3 = some [.int .i64 n52, .int .i64 n53, .int .i64 n54] ∧
 vif (decide (n53 < 0))
 ((True) ∧ I48 [.int .i64 (wrapK .i64 (n47 + 1))] h50 ∧ m49 [.int .i64 (wrapK .i64 (n47 + 1))] h50 < m49 [.int .i64 n47] h50)
 (vif (decide (n53 > 2))
 ((True) ∧ I48 [.int .i64 (wrapK .i64 (n47 + 1))] h50 ∧ m49 [.int .i64 (wrapK .i64 (n47 + 1))] h50 < m49 [.int .i64 n47] h50)
 (vif (n52 == 1)
 (vPtr p6 fun p55 =>
 ∃ q56 : Option SL, cellsAt h50 ⟨p55.b, p55.o + 1⟩ 1 = some [.sl q56] ∧
 vIdx q56 n53 1 fun p57 =>
 ∃ p58 : Option PA, cellsAt h50 p57 1 = some [.ptr p58] ∧
 AC Tryz.prog 70 [.ptr p37, .ptr p58, .int .i64 n54] h50 fun v59 h60 => ∃ q61 : Option SL, ∃ n62 : Int, v59 = .tup [.sl q61, .int .i64 n62] ∧
 vif (n62 == 0)
 (AC Tryz.prog 72 [] h60 fun v63 h64 => ∃ q65 : Option SL, v63 = .sl q65 ∧
 (LV.val (.int .i64 n54) = LV.val (.int .i64 n54)) ∧
 (LV.val (.int .i64 n53) = LV.val (.int .i64 n53)) ∧
 vIdx q65 n53 1 fun p66 =>
 ∃ s67 : List UInt8, cellsAt h64 p66 1 = some [.str s67] ∧
 AC Tryz.prog 71 [.ptr p37, .str s67, .int .i64 n54] h64 fun v68 h69 => ∃ n70 : Int, v68 = .int .i64 n70 ∧
 vif (n70 != 0)
 (Q (.bool false) h69)
 (AC Tryz.prog 74 [.ptr p37, .str [99], .int .i64 n2] h69 fun v71 h72 => ∃ b73 : Bool, v71 = .bool b73 ∧
 vif (!b73)
 (Q (.bool false) h72)
 (AC Tryz.prog 75 [.ptr p37] h72 fun v74 h75 => ∃ n76 : Int, v74 = .int .i64 n76 ∧
 vif (n76 != 1)
 (Q (.bool false) h75)
 ((True) ∧ I48 [.int .i64 (wrapK .i64 (n47 + 1))] h75 ∧ m49 [.int .i64 (wrapK .i64 (n47 + 1))] h75 < m49 [.int .i64 n47] h50))))
 ((LV.val (.tup []) = LV.val (.tup [])) ∧
 (LV.val (.tup []) = LV.val (.tup [])) ∧
 AC Tryz.prog 74 [.ptr p37, .str [99], .int .i64 n2] h60 fun v77 h78 => ∃ b79 : Bool, v77 = .bool b79 ∧
 vif (!b79)
 (Q (.bool false) h78)
 (AC Tryz.prog 75 [.ptr p37] h78 fun v80 h81 => ∃ n82 : Int, v80 = .int .i64 n82 ∧
 vif (n82 != 1)
 (Q (.bool false) h81)
 ((True) ∧ I48 [.int .i64 (wrapK .i64 (n47 + 1))] h81 ∧ m49 [.int .i64 (wrapK .i64 (n47 + 1))] h81 < m49 [.int .i64 n47] h50))))
 (vif (n52 == 3)
 (AC Tryz.prog 72 [] h50 fun v83 h84 => ∃ q85 : Option SL, v83 = .sl q85 ∧
 (LV.val (.int .i64 n53) = LV.val (.int .i64 n53)) ∧
 vIdx q85 n53 1 fun p86 =>
 ∃ s87 : List UInt8, cellsAt h84 p86 1 = some [.str s87] ∧
 AC Tryz.prog 73 [.ptr p37, .str s87] h84 fun v88 h89 => ∃ n90 : Int, v88 = .int .i64 n90 ∧
 AC Tryz.prog 74 [.ptr p37, .str [99], .int .i64 n2] h89 fun v91 h92 => ∃ b93 : Bool, v91 = .bool b93 ∧
 vif (!b93)
 (Q (.bool false) h92)
 (AC Tryz.prog 75 [.ptr p37] h92 fun v94 h95 => ∃ n96 : Int, v94 = .int .i64 n96 ∧
 vif (n96 != 1)
 (Q (.bool false) h95)
 ((True) ∧ I48 [.int .i64 (wrapK .i64 (n47 + 1))] h95 ∧ m49 [.int .i64 (wrapK .i64 (n47 + 1))] h95 < m49 [.int .i64 n47] h50)))
 (AC Tryz.prog 74 [.ptr p37, .str [99], .int .i64 n2] h50 fun v97 h98 => ∃ b99 : Bool, v97 = .bool b99 ∧
 vif (!b99)
 (Q (.bool false) h98)
 (AC Tryz.prog 75 [.ptr p37] h98 fun v100 h101 => ∃ n102 : Int, v100 = .int .i64 n102 ∧
 vif (n102 != 1)
 (Q (.bool false) h101)
 ((True) ∧ I48 [.int .i64 (wrapK .i64 (n47 + 1))] h101 ∧ m49 [.int .i64 (wrapK .i64 (n47 + 1))] h101 < m49 [.int .i64 n47] h50)))))))
 (vPtr p6 fun p103 =>
 ∃ q104 : Option SL, cellsAt h50 ⟨p103.b, p103.o + 1⟩ 1 = some [.sl q104] ∧
 vIdx q104 2 1 fun p105 =>
 ∃ p106 : Option PA, cellsAt h50 p105 1 = some [.ptr p106] ∧
 AC Tryz.prog 16 [.ptr p106, .int .i64 n2] h50 fun v107 h108 => ∃ q109 : Option SL, ∃ n110 : Int, v107 = .tup [.sl q109, .int .i64 n110] ∧
 vif (n46 == 0)
 (vif (n110 == 0)
 (AC Tryz.prog 62 [.sl q45, .sl q109] h108 fun v111 h112 => ∃ b113 : Bool, v111 = .bool b113 ∧
 vif b113
 (AC Tryz.prog 71 [.ptr p37, .str [99], .int .i64 n2] h112 fun v114 h115 => ∃ n116 : Int, v114 = .int .i64 n116 ∧
 vif (n116 == 0)
 (AC Tryz.prog 75 [.ptr p37] h115 fun v117 h118 => ∃ n119 : Int, v117 = .int .i64 n119 ∧
 Q (.bool (n119 == 0)) h118)
 (Q (.bool false) h115))
 (Q (.bool false) h112))
 (Q (.bool false) h108))
 (Q (.bool false) h108)))
 (vPtr p6 fun p120 =>
 ∃ q121 : Option SL, cellsAt h50 ⟨p120.b, p120.o + 1⟩ 1 = some [.sl q121] ∧
 vIdx q121 2 1 fun p122 =>
 ∃ p123 : Option PA, cellsAt h50 p122 1 = some [.ptr p123] ∧
 AC Tryz.prog 16 [.ptr p123, .int .i64 n2] h50 fun v124 h125 => ∃ q126 : Option SL, ∃ n127 : Int, v124 = .tup [.sl q126, .int .i64 n127] ∧
 vif (n46 == 0)
 (vif (n127 == 0)
 (AC Tryz.prog 62 [.sl q45, .sl q126] h125 fun v128 h129 => ∃ b130 : Bool, v128 = .bool b130 ∧
 vif b130
 (AC Tryz.prog 71 [.ptr p37, .str [99], .int .i64 n2] h129 fun v131 h132 => ∃ n133 : Int, v131 = .int .i64 n133 ∧
 vif (n133 == 0)
 (AC Tryz.prog 75 [.ptr p37] h132 fun v134 h135 => ∃ n136 : Int, v134 = .int .i64 n136 ∧
 Q (.bool (n136 == 0)) h135)
 (Q (.bool false) h132))
 (Q (.bool false) h129))
 (Q (.bool false) h125))
 (Q (.bool false) h125))))))))))
theorem ac11 {n1 : Int} {n2 : Int} {q3 : Option SL} {h : Heap} {Q : AV → Heap → Prop} (hk : vc11 n1 n2 q3 h Q) : AC Tryz.prog 11 [.int .i64 n1, .int .i64 n2, .sl q3] h Q :=
 AC_by (H := hintsOf [13] [(0, [12], [])]) (by kernel_rfl) (by kernel_rfl) hk

/-- oxbowlaw09.NewWorld: what it asks. -/
def vc67  (h : Heap) (Q : AV → Heap → Prop) : Prop :=
 AC Tryz.prog 26 [.int .i64 1000] h fun v1 h2 => ∃ p3 : Option PA, ∃ n4 : Int, v1 = .tup [.ptr p3, .int .i64 n4] ∧
 vif (n4 != 0)
 (Q (.ptr none) h2)
 (vif (p3.isNone)
 (Q (.ptr none) h2)
 (PNew [.ptr p3, .sl none, .sl none] true h2 fun a5 h6 =>
 ∃ (I8 : List AV → Heap → Prop) (m9 : List AV → Heap → Nat), I8 [.int .i64 0] h6 ∧
 ∀ n7 : Int, ∀ h10 : Heap, I8 [.int .i64 n7] h10 →
 vif (decide (n7 < 3))
 (∃ (I13 : List AV → Heap → Prop) (m14 : List AV → Heap → Nat), I13 [.sl none, .int .i64 0] h10 ∧
 ∀ q11 : Option SL, ∀ n12 : Int, ∀ h15 : Heap, I13 [.sl q11, .int .i64 n12] h15 →
 vif (decide (n12 < (wrapK .i64 ((wrapK .i64 (10 * (wrapK .i64 ((wrapK .i64 ((wrapK .i64 (2 * n7)) * n7)) + 3)))) - 4))))
 (PNew [.int .i64 0, .int .i64 0, .int .i64 (Int.tmod n12 200), .int .i64 (wrapK .i64 (Int.tdiv n12 200))] true h15 fun a16 h17 =>
 PAppendS 4 32 q11 (some ⟨a16, 0, 1, 1, 0⟩) h17 fun q18 h19 =>
 (True) ∧ I13 [.sl q18, .int .i64 (wrapK .i64 (n12 + 1))] h19 ∧ m14 [.sl q18, .int .i64 (wrapK .i64 (n12 + 1))] h19 < m14 [.sl q11, .int .i64 n12] h15)
 (AC Tryz.prog 59 [.sl q11] h15 fun v20 h21 => ∃ q22 : Option SL, v20 = .sl q22 ∧
 AC Tryz.prog 72 [] h21 fun v23 h24 => ∃ q25 : Option SL, v23 = .sl q25 ∧
 vIdx q25 n7 1 fun p26 =>
 ∃ s27 : List UInt8, cellsAt h24 p26 1 = some [.str s27] ∧
 AC Tryz.prog 25 [.ptr p3, .str s27, .int .i64 (wrapK .i64 ((wrapK .i64 (100 * n7)) + 1)), .sl q22] h24 fun v28 h29 => ∃ n30 : Int, v28 = .int .i64 n30 ∧
 vif (n30 != 0)
 (Q (.ptr none) h29)
 (AC Tryz.prog 72 [] h29 fun v31 h32 => ∃ q33 : Option SL, v31 = .sl q33 ∧
 vIdx q33 n7 1 fun p34 =>
 ∃ s35 : List UInt8, cellsAt h32 p34 1 = some [.str s35] ∧
 AC Tryz.prog 18 [.ptr p3, .str s35, .int .i64 (wrapK .i64 ((wrapK .i64 (100 * n7)) + 1))] h32 fun v36 h37 => ∃ p38 : Option PA, ∃ n39 : Int, v36 = .tup [.ptr p38, .int .i64 n39] ∧
 vif (n39 != 0)
 (Q (.ptr none) h37)
 (vif (p38.isNone)
 (Q (.ptr none) h37)
 (∃ q40 : Option SL, cellsAt h37 ⟨a5, 1⟩ 1 = some [.sl q40] ∧
 PNew [.ptr p38] true h37 fun a41 h42 =>
 PAppendS 1 8 q40 (some ⟨a41, 0, 1, 1, 0⟩) h42 fun q43 h44 =>
 PStore h44 ⟨a5, 1⟩ [.sl q43] fun h45 =>
 ∃ q46 : Option SL, cellsAt h45 ⟨a5, 2⟩ 1 = some [.sl q46] ∧
 PNew [.sl q22] true h45 fun a47 h48 =>
 PAppendS 1 24 q46 (some ⟨a47, 0, 1, 1, 0⟩) h48 fun q49 h50 =>
 PStore h50 ⟨a5, 2⟩ [.sl q49] fun h51 =>
 (True) ∧ I8 [.int .i64 (wrapK .i64 (n7 + 1))] h51 ∧ m9 [.int .i64 (wrapK .i64 (n7 + 1))] h51 < m9 [.int .i64 n7] h10)))))
 (Q (.ptr (some ⟨a5, 0⟩)) h10)))
theorem ac67  {h : Heap} {Q : AV → Heap → Prop} (hk : vc67  h Q) : AC Tryz.prog 67 [] h Q :=
 AC_by (H := hintsOf [] [(0, [4], []), (2, [5, 6], [])]) (by kernel_rfl) (by kernel_rfl) hk

/-- oxbowlaw09.lives: what it asks. -/
def vc68  (h : Heap) (Q : AV → Heap → Prop) : Prop :=
 AC Tryz.prog 67 [] h fun v1 h2 => ∃ p3 : Option PA, v1 = .ptr p3 ∧
 AC Tryz.prog 69 [.int .i64 2] h2 fun v4 h5 => ∃ p6 : Option PA, ∃ n7 : Int, v4 = .tup [.ptr p6, .int .i64 n7] ∧
 vif (p3.isNone)
 (Q (.bool false) h5)
 (vif (n7 != 0)
 (Q (.bool false) h5)
 (vif (p6.isNone)
 (Q (.bool false) h5)
 (vPtr p3 fun p8 =>
 ∃ q9 : Option SL, cellsAt h5 ⟨p8.b, p8.o + 1⟩ 1 = some [.sl q9] ∧
 vif ((slLen q9 : Int) != 3)
 (Q (.bool false) h5)
 (vPtr p3 fun p10 =>
 ∃ q11 : Option SL, cellsAt h5 ⟨p10.b, p10.o + 1⟩ 1 = some [.sl q11] ∧
 vIdx q11 0 1 fun p12 =>
 ∃ p13 : Option PA, cellsAt h5 p12 1 = some [.ptr p13] ∧
 AC Tryz.prog 70 [.ptr p6, .ptr p13, .int .i64 0] h5 fun v14 h15 => ∃ q16 : Option SL, ∃ n17 : Int, v14 = .tup [.sl q16, .int .i64 n17] ∧
 vPtr p3 fun p18 =>
 ∃ q19 : Option SL, cellsAt h15 ⟨p18.b, p18.o + 1⟩ 1 = some [.sl q19] ∧
 vIdx q19 0 1 fun p20 =>
 ∃ p21 : Option PA, cellsAt h15 p20 1 = some [.ptr p21] ∧
 AC Tryz.prog 70 [.ptr p6, .ptr p21, .int .i64 1] h15 fun v22 h23 => ∃ q24 : Option SL, ∃ n25 : Int, v22 = .tup [.sl q24, .int .i64 n25] ∧
 vPtr p3 fun p26 =>
 ∃ q27 : Option SL, cellsAt h23 ⟨p26.b, p26.o + 1⟩ 1 = some [.sl q27] ∧
 vIdx q27 1 1 fun p28 =>
 ∃ p29 : Option PA, cellsAt h23 p28 1 = some [.ptr p29] ∧
 AC Tryz.prog 70 [.ptr p6, .ptr p29, .int .i64 0] h23 fun v30 h31 => ∃ q32 : Option SL, ∃ n33 : Int, v30 = .tup [.sl q32, .int .i64 n33] ∧
 AC Tryz.prog 71 [.ptr p6, .str [97], .int .i64 0] h31 fun v34 h35 => ∃ n36 : Int, v34 = .int .i64 n36 ∧
 vPtr p3 fun p37 =>
 ∃ q38 : Option SL, cellsAt h35 ⟨p37.b, p37.o + 1⟩ 1 = some [.sl q38] ∧
 vIdx q38 1 1 fun p39 =>
 ∃ p40 : Option PA, cellsAt h35 p39 1 = some [.ptr p40] ∧
 AC Tryz.prog 70 [.ptr p6, .ptr p40, .int .i64 0] h35 fun v41 h42 => ∃ q43 : Option SL, ∃ n44 : Int, v41 = .tup [.sl q43, .int .i64 n44] ∧
 AC Tryz.prog 69 [.int .i64 (-1)] h42 fun v45 h46 => ∃ p47 : Option PA, ∃ n48 : Int, v45 = .tup [.ptr p47, .int .i64 n48] ∧
 vif (n17 == 0)
 (vif (decide ((slLen q16 : Int) > 0))
 (vif (n25 == 0)
 (vif (n33 == 90)
 (vif (n36 == 0)
 (vif (n44 == 0)
 (AC Tryz.prog 74 [.ptr p6, .str [97], .int .i64 0] h46 fun v49 h50 => ∃ b51 : Bool, v49 = .bool b51 ∧
 vif (!b51)
 (AC Tryz.prog 74 [.ptr p6, .str [98], .int .i64 0] h50 fun v52 h53 => ∃ b54 : Bool, v52 = .bool b54 ∧
 vif b54
 (AC Tryz.prog 75 [.ptr p6] h53 fun v55 h56 => ∃ n57 : Int, v55 = .int .i64 n57 ∧
 vif (n57 == 2)
 (AC Tryz.prog 76 [.ptr p6] h56 fun v58 h59 => ∃ n60 : Int, v58 = .int .i64 n60 ∧
 vif (n60 == 2)
 (AC Tryz.prog 77 [.ptr p6] h59 fun v61 h62 => ∃ n63 : Int, v61 = .int .i64 n63 ∧
 vif (n63 == 2)
 (AC Tryz.prog 78 [.ptr p6] h62 fun v64 h65 => ∃ n66 : Int, ∃ n67 : Int, ∃ n68 : Int, v64 = .agg [.int .i64 n66, .int .i64 n67, .int .i64 n68] ∧
 vif ((n66 == 0) && ((n67 == 3) && ((n68 == 1) && true)))
 (AC Tryz.prog 71 [.ptr p6, .str [97], .int .i64 0] h65 fun v69 h70 => ∃ n71 : Int, v69 = .int .i64 n71 ∧
 vif (n71 == 4)
 (AC Tryz.prog 73 [.ptr p6, .str [97]] h70 fun v72 h73 => ∃ n74 : Int, v72 = .int .i64 n74 ∧
 vif (n74 == 0)
 (Q (.bool (n48 == 1)) h73)
 (Q (.bool false) h73))
 (Q (.bool false) h70))
 (Q (.bool false) h65))
 (Q (.bool false) h62))
 (Q (.bool false) h59))
 (Q (.bool false) h56))
 (Q (.bool false) h53))
 (Q (.bool false) h50))
 (Q (.bool false) h46))
 (Q (.bool false) h46))
 (Q (.bool false) h46))
 (Q (.bool false) h46))
 (Q (.bool false) h46))
 (Q (.bool false) h46)))))
theorem ac68  {h : Heap} {Q : AV → Heap → Prop} (hk : vc68  h Q) : AC Tryz.prog 68 [] h Q :=
 AC_by (H := hintsOf [] []) (by kernel_rfl) (by kernel_rfl) hk

/-- pool.New: what it asks. -/
def vc69 (n1 : Int) (h : Heap) (Q : AV → Heap → Prop) : Prop :=
 vif (decide (n1 < 0))
 (Q (.tup [.ptr none, .int .i64 1]) h)
 (vif (decide (n1 > 1024))
 (Q (.tup [.ptr none, .int .i64 1]) h)
 (PMake [.str [], .int .i64 0, .sl none, .int .i64 0, .bool false, .bool false] 64 n1 n1 h fun q2 h3 =>
 PNew [.sl q2, .map (some (List.length h3)), .int .i64 0, .int .i64 0, .int .i64 0, .int .i64 0] true (h3 ++ [.mp [] 0]) fun a4 h5 =>
 Q (.tup [.ptr (some ⟨a4, 0⟩), .int .i64 0]) h5))
theorem ac69 {n1 : Int} {h : Heap} {Q : AV → Heap → Prop} (hk : vc69 n1 h Q) : AC Tryz.prog 69 [.int .i64 n1] h Q :=
 AC_by (H := hintsOf [] []) (by kernel_rfl) (by kernel_rfl) hk

/-- pool.Pool).Hold: what it asks. -/
def vc70 (p1 : Option PA) (p2 : Option PA) (n3 : Int) (h : Heap) (Q : AV → Heap → Prop) : Prop :=
 AC Tryz.prog 144 [.ptr p1] h fun v4 h5 => ∃ b6 : Bool, v4 = .bool b6 ∧
 vif (!b6)
 (Q (.tup [.sl none, .int .i64 6]) h5)
 (AC Tryz.prog 20 [.ptr p2] h5 fun v7 h8 => ∃ s9 : List UInt8, v7 = .str s9 ∧
 AC Tryz.prog 145 [.ptr p1, .str s9, .int .i64 n3] h8 fun v10 h11 => ∃ p12 : Option PA, v10 = .ptr p12 ∧
 vif (!(p12.isNone))
 (vif (!(p2.isNone))
 (AC Tryz.prog 146 [.ptr p1, .ptr p12] h11 fun v13 h14 => ∃ q15 : Option SL, v13 = .sl q15 ∧
 Q (.tup [.sl q15, .int .i64 0]) h14)
 (AC Tryz.prog 16 [.ptr p2, .int .i64 n3] h11 fun v16 h17 => ∃ q18 : Option SL, ∃ n19 : Int, v16 = .tup [.sl q18, .int .i64 n19] ∧
 vif (n19 != 0)
 (Q (.tup [.sl none, .int .i64 n19]) h17)
 (AC Tryz.prog 147 [.ptr p1] h17 fun v20 h21 => ∃ n22 : Int, ∃ b23 : Bool, v20 = .tup [.int .i64 n22, .bool b23] ∧
 vif (!b23)
 (Q (.tup [.sl none, .int .i64 90]) h21)
 (AC Tryz.prog 20 [.ptr p2] h21 fun v24 h25 => ∃ s26 : List UInt8, v24 = .str s26 ∧
 vPtr p1 fun p27 =>
 ∃ q28 : Option SL, cellsAt h25 ⟨p27.b, p27.o + 0⟩ 1 = some [.sl q28] ∧
 vIdx q28 n22 6 fun p29 =>
 PStore h25 p29 [.str s26, .int .i64 n3, .sl q18, .int .i64 1, .bool true, .bool true] fun h30 =>
 vPtr p1 fun p31 =>
 ∃ m32 : Option Nat, cellsAt h30 ⟨p31.b, p31.o + 1⟩ 1 = some [.map m32] ∧
 vMap m32 fun a34 => PUpdate Tryz.prog 233 a34 (.agg [.str s26, .int .i64 n3]) (.int .i64 n22) h30 fun h33 =>
 vPtr p1 fun p35 =>
 ∃ n36 : Int, cellsAt h33 ⟨p35.b, (p35.o + 3) + 1⟩ 1 = some [.int .i64 n36] ∧
 vPtr p1 fun p37 =>
 PStore h33 ⟨p37.b, (p37.o + 3) + 1⟩ [.int .i64 (wrapK .i64 (n36 + 1))] fun h38 =>
 AC Tryz.prog 148 [.sl q18] h38 fun v39 h40 => ∃ q41 : Option SL, v39 = .sl q41 ∧
 Q (.tup [.sl q41, .int .i64 0]) h40))))
 (AC Tryz.prog 16 [.ptr p2, .int .i64 n3] h11 fun v42 h43 => ∃ q44 : Option SL, ∃ n45 : Int, v42 = .tup [.sl q44, .int .i64 n45] ∧
 vif (n45 != 0)
 (Q (.tup [.sl none, .int .i64 n45]) h43)
 (AC Tryz.prog 147 [.ptr p1] h43 fun v46 h47 => ∃ n48 : Int, ∃ b49 : Bool, v46 = .tup [.int .i64 n48, .bool b49] ∧
 vif (!b49)
 (Q (.tup [.sl none, .int .i64 90]) h47)
 (AC Tryz.prog 20 [.ptr p2] h47 fun v50 h51 => ∃ s52 : List UInt8, v50 = .str s52 ∧
 vPtr p1 fun p53 =>
 ∃ q54 : Option SL, cellsAt h51 ⟨p53.b, p53.o + 0⟩ 1 = some [.sl q54] ∧
 vIdx q54 n48 6 fun p55 =>
 PStore h51 p55 [.str s52, .int .i64 n3, .sl q44, .int .i64 1, .bool true, .bool true] fun h56 =>
 vPtr p1 fun p57 =>
 ∃ m58 : Option Nat, cellsAt h56 ⟨p57.b, p57.o + 1⟩ 1 = some [.map m58] ∧
 vMap m58 fun a60 => PUpdate Tryz.prog 233 a60 (.agg [.str s52, .int .i64 n3]) (.int .i64 n48) h56 fun h59 =>
 vPtr p1 fun p61 =>
 ∃ n62 : Int, cellsAt h59 ⟨p61.b, (p61.o + 3) + 1⟩ 1 = some [.int .i64 n62] ∧
 vPtr p1 fun p63 =>
 PStore h59 ⟨p63.b, (p63.o + 3) + 1⟩ [.int .i64 (wrapK .i64 (n62 + 1))] fun h64 =>
 AC Tryz.prog 148 [.sl q44] h64 fun v65 h66 => ∃ q67 : Option SL, v65 = .sl q67 ∧
 Q (.tup [.sl q67, .int .i64 0]) h66))))
theorem ac70 {p1 : Option PA} {p2 : Option PA} {n3 : Int} {h : Heap} {Q : AV → Heap → Prop} (hk : vc70 p1 p2 n3 h Q) : AC Tryz.prog 70 [.ptr p1, .ptr p2, .int .i64 n3] h Q :=
 AC_by (H := hintsOf [13] []) (by kernel_rfl) (by kernel_rfl) hk

/-- pool.Pool).Free: what it asks. -/
def vc71 (p1 : Option PA) (s2 : List UInt8) (n3 : Int) (h : Heap) (Q : AV → Heap → Prop) : Prop :=
 AC Tryz.prog 144 [.ptr p1] h fun v4 h5 => ∃ b6 : Bool, v4 = .bool b6 ∧
 vif (!b6)
 (Q (.int .i64 6) h5)
 (AC Tryz.prog 145 [.ptr p1, .str s2, .int .i64 n3] h5 fun v7 h8 => ∃ p9 : Option PA, v7 = .ptr p9 ∧
 vif (p9.isNone)
 (Q (.int .i64 4) h8)
 (vPtr p9 fun p10 =>
 ∃ n11 : Int, cellsAt h8 ⟨p10.b, p10.o + 3⟩ 1 = some [.int .i64 n11] ∧
 vif (n11 == 0)
 (Q (.int .i64 4) h8)
 (vPtr p9 fun p12 =>
 ∃ n13 : Int, cellsAt h8 ⟨p12.b, p12.o + 3⟩ 1 = some [.int .i64 n13] ∧
 vPtr p9 fun p14 =>
 PStore h8 ⟨p14.b, p14.o + 3⟩ [.int .i64 (wrapK .i64 (n13 - 1))] fun h15 =>
 Q (.int .i64 0) h15)))
theorem ac71 {p1 : Option PA} {s2 : List UInt8} {n3 : Int} {h : Heap} {Q : AV → Heap → Prop} (hk : vc71 p1 s2 n3 h Q) : AC Tryz.prog 71 [.ptr p1, .str s2, .int .i64 n3] h Q :=
 AC_by (H := hintsOf [] []) (by kernel_rfl) (by kernel_rfl) hk

/-- oxbowlaw09.names: what it asks. -/
def vc72  (h : Heap) (Q : AV → Heap → Prop) : Prop :=
 PNew [.str [97], .str [98], .str [99]] true h fun a1 h2 =>
 Q (.sl (some ⟨a1, 0, 3, 3, 0⟩)) h2
theorem ac72  {h : Heap} {Q : AV → Heap → Prop} (hk : vc72  h Q) : AC Tryz.prog 72 [] h Q :=
 AC_by (H := hintsOf [] []) (by kernel_rfl) (by kernel_rfl) hk

/-- pool.Pool).Drop: what it asks. -/
def vc73 (p1 : Option PA) (s2 : List UInt8) (h : Heap) (Q : AV → Heap → Prop) : Prop :=
 AC Tryz.prog 144 [.ptr p1] h fun v3 h4 => ∃ b5 : Bool, v3 = .bool b5 ∧
 vif (!b5)
 (Q (.int .i64 0) h4)
 (vPtr p1 fun p6 =>
 ∃ q7 : Option SL, cellsAt h4 ⟨p6.b, p6.o + 0⟩ 1 = some [.sl q7] ∧
 ∃ (I10 : List AV → Heap → Prop) (m11 : List AV → Heap → Nat), I10 [.int .i64 0, .int .i64 0] h4 ∧
 ∀ n8 : Int, ∀ n9 : Int, ∀ h12 : Heap, I10 [.int .i64 n8, .int .i64 n9] h12 →
 vif (decide (n9 < (slLen q7 : Int)))
 (vPtr p1 fun p13 =>
 ∃ q14 : Option SL, cellsAt h12 ⟨p13.b, p13.o + 0⟩ 1 = some [.sl q14] ∧
 vIdx q14 n9 6 fun p15 =>
 ∃ b16 : Bool, cellsAt h12 ⟨p15.b, p15.o + 5⟩ 1 = some [.bool b16] ∧
 vif (!b16)
 ((True) ∧ I10 [.int .i64 n8, .int .i64 (wrapK .i64 (n9 + 1))] h12 ∧ m11 [.int .i64 n8, .int .i64 (wrapK .i64 (n9 + 1))] h12 < m11 [.int .i64 n8, .int .i64 n9] h12)
 (∃ s17 : List UInt8, cellsAt h12 ⟨p15.b, p15.o + 0 + 0⟩ 1 = some [.str s17] ∧
 vif (!(s17 == s2))
 ((True) ∧ I10 [.int .i64 n8, .int .i64 (wrapK .i64 (n9 + 1))] h12 ∧ m11 [.int .i64 n8, .int .i64 (wrapK .i64 (n9 + 1))] h12 < m11 [.int .i64 n8, .int .i64 n9] h12)
 (∃ n18 : Int, cellsAt h12 ⟨p15.b, p15.o + 3⟩ 1 = some [.int .i64 n18] ∧
 vif (decide (n18 > 0))
 ((True) ∧ I10 [.int .i64 n8, .int .i64 (wrapK .i64 (n9 + 1))] h12 ∧ m11 [.int .i64 n8, .int .i64 (wrapK .i64 (n9 + 1))] h12 < m11 [.int .i64 n8, .int .i64 n9] h12)
 (vPtr p1 fun p19 =>
 ∃ m20 : Option Nat, cellsAt h12 ⟨p19.b, p19.o + 1⟩ 1 = some [.map m20] ∧
 ∃ s21 : List UInt8, ∃ n22 : Int, cellsAt h12 ⟨p15.b, p15.o + 0⟩ 2 = some [.str s21, .int .i64 n22] ∧
 PDelete Tryz.prog 233 m20 (.agg [.str s21, .int .i64 n22]) h12 fun h23 =>
 PStore h23 p15 [.str [], .int .i64 0, .sl none, .int .i64 0, .bool false, .bool false] fun h24 =>
 (True) ∧ I10 [.int .i64 (wrapK .i64 (n8 + 1)), .int .i64 (wrapK .i64 (n9 + 1))] h24 ∧ m11 [.int .i64 (wrapK .i64 (n8 + 1)), .int .i64 (wrapK .i64 (n9 + 1))] h24 < m11 [.int .i64 n8, .int .i64 n9] h12))))
 (Q (.int .i64 n8) h12))
theorem ac73 {p1 : Option PA} {s2 : List UInt8} {h : Heap} {Q : AV → Heap → Prop} (hk : vc73 p1 s2 h Q) : AC Tryz.prog 73 [.ptr p1, .str s2] h Q :=
 AC_by (H := hintsOf [] [(0, [5, 16], [])]) (by kernel_rfl) (by kernel_rfl) hk

/-- pool.Pool).Has: what it asks. -/
def vc74 (p1 : Option PA) (s2 : List UInt8) (n3 : Int) (h : Heap) (Q : AV → Heap → Prop) : Prop :=
 AC Tryz.prog 145 [.ptr p1, .str s2, .int .i64 n3] h fun v4 h5 => ∃ p6 : Option PA, v4 = .ptr p6 ∧
 Q (.bool (!(p6.isNone))) h5
theorem ac74 {p1 : Option PA} {s2 : List UInt8} {n3 : Int} {h : Heap} {Q : AV → Heap → Prop} (hk : vc74 p1 s2 n3 h Q) : AC Tryz.prog 74 [.ptr p1, .str s2, .int .i64 n3] h Q :=
 AC_by (H := hintsOf [] []) (by kernel_rfl) (by kernel_rfl) hk

/-- pool.Pool).Held: what it asks. -/
def vc75 (p1 : Option PA) (h : Heap) (Q : AV → Heap → Prop) : Prop :=
 AC Tryz.prog 149 [.ptr p1, .func (.func 150) [] []] h fun v2 h3 => ∃ n4 : Int, v2 = .int .i64 n4 ∧
 Q (.int .i64 n4) h3
theorem ac75 {p1 : Option PA} {h : Heap} {Q : AV → Heap → Prop} (hk : vc75 p1 h Q) : AC Tryz.prog 75 [.ptr p1] h Q :=
 AC_by (H := hintsOf [] []) (by kernel_rfl) (by kernel_rfl) hk

/-- pool.Pool).Used: what it asks. -/
def vc76 (p1 : Option PA) (h : Heap) (Q : AV → Heap → Prop) : Prop :=
 AC Tryz.prog 149 [.ptr p1, .func (.func 151) [] []] h fun v2 h3 => ∃ n4 : Int, v2 = .int .i64 n4 ∧
 Q (.int .i64 n4) h3
theorem ac76 {p1 : Option PA} {h : Heap} {Q : AV → Heap → Prop} (hk : vc76 p1 h Q) : AC Tryz.prog 76 [.ptr p1] h Q :=
 AC_by (H := hintsOf [] []) (by kernel_rfl) (by kernel_rfl) hk

/-- pool.Pool).Frames: what it asks. -/
def vc77 (p1 : Option PA) (h : Heap) (Q : AV → Heap → Prop) : Prop :=
 AC Tryz.prog 144 [.ptr p1] h fun v2 h3 => ∃ b4 : Bool, v2 = .bool b4 ∧
 vif (!b4)
 (Q (.int .i64 0) h3)
 (vPtr p1 fun p5 =>
 ∃ q6 : Option SL, cellsAt h3 ⟨p5.b, p5.o + 0⟩ 1 = some [.sl q6] ∧
 Q (.int .i64 (slLen q6 : Int)) h3)
theorem ac77 {p1 : Option PA} {h : Heap} {Q : AV → Heap → Prop} (hk : vc77 p1 h Q) : AC Tryz.prog 77 [.ptr p1] h Q :=
 AC_by (H := hintsOf [] []) (by kernel_rfl) (by kernel_rfl) hk

/-- pool.Pool).Stats: what it asks. -/
def vc78 (p1 : Option PA) (h : Heap) (Q : AV → Heap → Prop) : Prop :=
 AC Tryz.prog 144 [.ptr p1] h fun v2 h3 => ∃ b4 : Bool, v2 = .bool b4 ∧
 vif (!b4)
 (Q (.agg [.int .i64 0, .int .i64 0, .int .i64 0]) h3)
 (vPtr p1 fun p5 =>
 ∃ n6 : Int, ∃ n7 : Int, ∃ n8 : Int, cellsAt h3 ⟨p5.b, p5.o + 3⟩ 3 = some [.int .i64 n6, .int .i64 n7, .int .i64 n8] ∧
 Q (.agg [.int .i64 n6, .int .i64 n7, .int .i64 n8]) h3)
theorem ac78 {p1 : Option PA} {h : Heap} {Q : AV → Heap → Prop} (hk : vc78 p1 h Q) : AC Tryz.prog 78 [.ptr p1] h Q :=
 AC_by (H := hintsOf [2] []) (by kernel_rfl) (by kernel_rfl) hk

/-- pool.Pool).made: what it asks. -/
def vc144 (p1 : Option PA) (h : Heap) (Q : AV → Heap → Prop) : Prop :=
 vif (!(p1.isNone))
 (vPtr p1 fun p2 =>
 ∃ m3 : Option Nat, cellsAt h ⟨p2.b, p2.o + 1⟩ 1 = some [.map m3] ∧
 Q (.bool (!(m3.isNone))) h)
 (Q (.bool false) h)
theorem ac144 {p1 : Option PA} {h : Heap} {Q : AV → Heap → Prop} (hk : vc144 p1 h Q) : AC Tryz.prog 144 [.ptr p1] h Q :=
 AC_by (H := hintsOf [] []) (by kernel_rfl) (by kernel_rfl) hk

/-- pool.Pool).find: what it asks. -/
def vc145 (p1 : Option PA) (s2 : List UInt8) (n3 : Int) (h : Heap) (Q : AV → Heap → Prop) : Prop :=
 AC Tryz.prog 144 [.ptr p1] h fun v4 h5 => ∃ b6 : Bool, v4 = .bool b6 ∧
 vif (!b6)
 (Q (.ptr none) h5)
 (vPtr p1 fun p7 =>
 ∃ m8 : Option Nat, cellsAt h5 ⟨p7.b, p7.o + 1⟩ 1 = some [.map m8] ∧
 PLookup Tryz.prog 233 3 m8 (.agg [.str s2, .int .i64 n3]) true h5 fun v9 =>
 ∃ n10 : Int, ∃ b11 : Bool, v9 = .tup [.int .i64 n10, .bool b11] ∧
 vif (!b11)
 (Q (.ptr none) h5)
 (vPtr p1 fun p12 =>
 ∃ q13 : Option SL, cellsAt h5 ⟨p12.b, p12.o + 0⟩ 1 = some [.sl q13] ∧
 vIdx q13 n10 6 fun p14 =>
 Q (.ptr (some p14)) h5))
theorem ac145 {p1 : Option PA} {s2 : List UInt8} {n3 : Int} {h : Heap} {Q : AV → Heap → Prop} (hk : vc145 p1 s2 n3 h Q) : AC Tryz.prog 145 [.ptr p1, .str s2, .int .i64 n3] h Q :=
 AC_by (H := hintsOf [] []) (by kernel_rfl) (by kernel_rfl) hk

/-- pool.Pool).again: what it asks. -/
def vc146 (p1 : Option PA) (p2 : Option PA) (h : Heap) (Q : AV → Heap → Prop) : Prop :=
 vPtr p2 fun p3 =>
 ∃ n4 : Int, cellsAt h ⟨p3.b, p3.o + 3⟩ 1 = some [.int .i64 n4] ∧
 vPtr p2 fun p5 =>
 PStore h ⟨p5.b, p5.o + 3⟩ [.int .i64 (wrapK .i64 (n4 + 1))] fun h6 =>
 vPtr p2 fun p7 =>
 PStore h6 ⟨p7.b, p7.o + 4⟩ [.bool true] fun h8 =>
 vPtr p1 fun p9 =>
 ∃ n10 : Int, cellsAt h8 ⟨p9.b, p9.o + 3 + 0⟩ 1 = some [.int .i64 n10] ∧
 vPtr p1 fun p11 =>
 PStore h8 ⟨p11.b, p11.o + 3 + 0⟩ [.int .i64 (wrapK .i64 (n10 + 1))] fun h12 =>
 vPtr p2 fun p13 =>
 ∃ q14 : Option SL, cellsAt h12 ⟨p13.b, p13.o + 2⟩ 1 = some [.sl q14] ∧
 AC Tryz.prog 148 [.sl q14] h12 fun v15 h16 => ∃ q17 : Option SL, v15 = .sl q17 ∧
 Q (.sl q17) h16
theorem ac146 {p1 : Option PA} {p2 : Option PA} {h : Heap} {Q : AV → Heap → Prop} (hk : vc146 p1 p2 h Q) : AC Tryz.prog 146 [.ptr p1, .ptr p2] h Q :=
 AC_by (H := hintsOf [] []) (by kernel_rfl) (by kernel_rfl) hk

/-- pool.Pool).place: what it asks. -/
def vc147 (p1 : Option PA) (h : Heap) (Q : AV → Heap → Prop) : Prop :=
 vPtr p1 fun p2 =>
 ∃ q3 : Option SL, cellsAt h ⟨p2.b, p2.o + 0⟩ 1 = some [.sl q3] ∧
 AC Tryz.prog 220 [.sl q3, .func (.func 219) [] []] h fun v4 h5 => ∃ n6 : Int, v4 = .int .i64 n6 ∧
 vif (decide (n6 ≥ 0))
 (Q (.tup [.int .i64 n6, .bool true]) h5)
 (vPtr p1 fun p7 =>
 ∃ q8 : Option SL, cellsAt h5 ⟨p7.b, p7.o + 0⟩ 1 = some [.sl q8] ∧
 AC Tryz.prog 75 [.ptr p1] h5 fun v9 h10 => ∃ n11 : Int, v9 = .int .i64 n11 ∧
 (∃ q33 : Option SL, cellsAt h10 ⟨p7.b, p7.o + 0⟩ 1 = some [.sl q33] ∧
 LV.val (.sl q33) = LV.val (.sl q8)) ∧
 vif (n11 == (slLen q8 : Int))
 (Q (.tup [.int .i64 0, .bool false]) h10)
 (∃ (I12 : List AV → Heap → Prop) (m13 : List AV → Heap → Nat), I12 [] h10 ∧
 ∀ h14 : Heap, I12 [] h14 →
 AC Tryz.prog 221 [.ptr p1] h14 fun v15 h16 => ∃ n17 : Int, v15 = .int .i64 n17 ∧
 vPtr p1 fun p18 =>
 ∃ q19 : Option SL, cellsAt h16 ⟨p18.b, p18.o + 0⟩ 1 = some [.sl q19] ∧
 vIdx q19 n17 6 fun p20 =>
 ∃ n21 : Int, cellsAt h16 ⟨p20.b, p20.o + 3⟩ 1 = some [.int .i64 n21] ∧
 vif (decide (n21 > 0))
 ((True) ∧ I12 [] h16 ∧ m13 [] h16 < m13 [] h14)
 (∃ b22 : Bool, cellsAt h16 ⟨p20.b, p20.o + 4⟩ 1 = some [.bool b22] ∧
 vif b22
 (PStore h16 ⟨p20.b, p20.o + 4⟩ [.bool false] fun h23 =>
 (True) ∧ I12 [] h23 ∧ m13 [] h23 < m13 [] h14)
 (vPtr p1 fun p24 =>
 ∃ m25 : Option Nat, cellsAt h16 ⟨p24.b, p24.o + 1⟩ 1 = some [.map m25] ∧
 ∃ s26 : List UInt8, ∃ n27 : Int, cellsAt h16 ⟨p20.b, p20.o + 0⟩ 2 = some [.str s26, .int .i64 n27] ∧
 PDelete Tryz.prog 233 m25 (.agg [.str s26, .int .i64 n27]) h16 fun h28 =>
 vPtr p1 fun p29 =>
 ∃ n30 : Int, cellsAt h28 ⟨p29.b, (p29.o + 3) + 2⟩ 1 = some [.int .i64 n30] ∧
 vPtr p1 fun p31 =>
 PStore h28 ⟨p31.b, (p31.o + 3) + 2⟩ [.int .i64 (wrapK .i64 (n30 + 1))] fun h32 =>
 Q (.tup [.int .i64 n17, .bool true]) h32))))
theorem ac147 {p1 : Option PA} {h : Heap} {Q : AV → Heap → Prop} (hk : vc147 p1 h Q) : AC Tryz.prog 147 [.ptr p1] h Q :=
 AC_by (H := hintsOf [] [(0, [], [])]) (by kernel_rfl) (by kernel_rfl) hk

/-- slices.Clone: what it asks. -/
def vc148 (q1 : Option SL) (h : Heap) (Q : AV → Heap → Prop) : Prop :=
 vif (q1.isNone)
 (Q (.sl none) h)
 (PNew [] true h fun a2 h3 =>
 PAppendS 4 32 (some ⟨a2, 0, 0, 0, 0⟩) q1 h3 fun q4 h5 =>
 Q (.sl q4) h5)
theorem ac148 {q1 : Option SL} {h : Heap} {Q : AV → Heap → Prop} (hk : vc148 q1 h Q) : AC Tryz.prog 148 [.sl q1] h Q :=
 AC_by (H := hintsOf [] []) (by kernel_rfl) (by kernel_rfl) hk

/-- pool.Pool).counth: what it asks. -/
def vc149h (p1 : Option PA) (h : Heap) (Q : AV → Heap → Prop) : Prop :=
 AC Tryz.prog 144 [.ptr p1] h fun v2 h3 => ∃ b4 : Bool, v2 = .bool b4 ∧
 vif (!b4)
 (Q (.int .i64 0) h3)
 (vPtr p1 fun p5 =>
 ∃ q6 : Option SL, cellsAt h3 ⟨p5.b, p5.o + 0⟩ 1 = some [.sl q6] ∧
 ∃ (I9 : List AV → Heap → Prop) (m10 : List AV → Heap → Nat), I9 [.int .i64 0, .int .i64 0] h3 ∧
 ∀ n7 : Int, ∀ n8 : Int, ∀ h11 : Heap, I9 [.int .i64 n7, .int .i64 n8] h11 →
 vif (decide (n8 < (slLen q6 : Int)))
 (vPtr p1 fun p12 =>
 ∃ q13 : Option SL, cellsAt h11 ⟨p12.b, p12.o + 0⟩ 1 = some [.sl q13] ∧
 vIdx q13 n8 6 fun p14 =>
 AC Tryz.prog 150 [.ptr (some p14)] h11 fun v15 h16 => ∃ b17 : Bool, v15 = .bool b17 ∧
 vif b17
 ((True) ∧ I9 [.int .i64 (wrapK .i64 (n7 + 1)), .int .i64 (wrapK .i64 (n8 + 1))] h16 ∧ m10 [.int .i64 (wrapK .i64 (n7 + 1)), .int .i64 (wrapK .i64 (n8 + 1))] h16 < m10 [.int .i64 n7, .int .i64 n8] h11)
 ((True) ∧ I9 [.int .i64 n7, .int .i64 (wrapK .i64 (n8 + 1))] h16 ∧ m10 [.int .i64 n7, .int .i64 (wrapK .i64 (n8 + 1))] h16 < m10 [.int .i64 n7, .int .i64 n8] h11))
 (Q (.int .i64 n7) h11))
theorem ac149h {p1 : Option PA} {h : Heap} {Q : AV → Heap → Prop} (hk : vc149h p1 h Q) : AC Tryz.prog 149 [.ptr p1, .func (.func 150) [] []] h Q :=
 AC_by (H := hintsOf [] [(0, [5, 15], [])]) (by kernel_rfl) (by kernel_rfl) hk

/-- pool.Pool).countu: what it asks. -/
def vc149u (p1 : Option PA) (h : Heap) (Q : AV → Heap → Prop) : Prop :=
 AC Tryz.prog 144 [.ptr p1] h fun v2 h3 => ∃ b4 : Bool, v2 = .bool b4 ∧
 vif (!b4)
 (Q (.int .i64 0) h3)
 (vPtr p1 fun p5 =>
 ∃ q6 : Option SL, cellsAt h3 ⟨p5.b, p5.o + 0⟩ 1 = some [.sl q6] ∧
 ∃ (I9 : List AV → Heap → Prop) (m10 : List AV → Heap → Nat), I9 [.int .i64 0, .int .i64 0] h3 ∧
 ∀ n7 : Int, ∀ n8 : Int, ∀ h11 : Heap, I9 [.int .i64 n7, .int .i64 n8] h11 →
 vif (decide (n8 < (slLen q6 : Int)))
 (vPtr p1 fun p12 =>
 ∃ q13 : Option SL, cellsAt h11 ⟨p12.b, p12.o + 0⟩ 1 = some [.sl q13] ∧
 vIdx q13 n8 6 fun p14 =>
 AC Tryz.prog 151 [.ptr (some p14)] h11 fun v15 h16 => ∃ b17 : Bool, v15 = .bool b17 ∧
 vif b17
 ((True) ∧ I9 [.int .i64 (wrapK .i64 (n7 + 1)), .int .i64 (wrapK .i64 (n8 + 1))] h16 ∧ m10 [.int .i64 (wrapK .i64 (n7 + 1)), .int .i64 (wrapK .i64 (n8 + 1))] h16 < m10 [.int .i64 n7, .int .i64 n8] h11)
 ((True) ∧ I9 [.int .i64 n7, .int .i64 (wrapK .i64 (n8 + 1))] h16 ∧ m10 [.int .i64 n7, .int .i64 (wrapK .i64 (n8 + 1))] h16 < m10 [.int .i64 n7, .int .i64 n8] h11))
 (Q (.int .i64 n7) h11))
theorem ac149u {p1 : Option PA} {h : Heap} {Q : AV → Heap → Prop} (hk : vc149u p1 h Q) : AC Tryz.prog 149 [.ptr p1, .func (.func 151) [] []] h Q :=
 AC_by (H := hintsOf [] [(0, [5, 15], [])]) (by kernel_rfl) (by kernel_rfl) hk

/-- pool.Pool).Held$1: what it asks. -/
def vc150 (p1 : Option PA) (h : Heap) (Q : AV → Heap → Prop) : Prop :=
 vPtr p1 fun p2 =>
 ∃ n3 : Int, cellsAt h ⟨p2.b, p2.o + 3⟩ 1 = some [.int .i64 n3] ∧
 Q (.bool (decide (n3 > 0))) h
theorem ac150 {p1 : Option PA} {h : Heap} {Q : AV → Heap → Prop} (hk : vc150 p1 h Q) : AC Tryz.prog 150 [.ptr p1] h Q :=
 AC_by (H := hintsOf [] []) (by kernel_rfl) (by kernel_rfl) hk

/-- pool.Pool).Used$1: what it asks. -/
def vc151 (p1 : Option PA) (h : Heap) (Q : AV → Heap → Prop) : Prop :=
 vPtr p1 fun p2 =>
 ∃ b3 : Bool, cellsAt h ⟨p2.b, p2.o + 5⟩ 1 = some [.bool b3] ∧
 Q (.bool b3) h
theorem ac151 {p1 : Option PA} {h : Heap} {Q : AV → Heap → Prop} (hk : vc151 p1 h Q) : AC Tryz.prog 151 [.ptr p1] h Q :=
 AC_by (H := hintsOf [] []) (by kernel_rfl) (by kernel_rfl) hk

/-- pool.Pool).place$1: what it asks. -/
def vc219 (s1 : List UInt8) (n2 : Int) (q3 : Option SL) (n4 : Int) (b5 : Bool) (b6 : Bool) (h : Heap) (Q : AV → Heap → Prop) : Prop :=
 Q (.bool (!b6)) h
theorem ac219 {s1 : List UInt8} {n2 : Int} {q3 : Option SL} {n4 : Int} {b5 : Bool} {b6 : Bool} {h : Heap} {Q : AV → Heap → Prop} (hk : vc219 s1 n2 q3 n4 b5 b6 h Q) : AC Tryz.prog 219 [.agg [.str s1, .int .i64 n2, .sl q3, .int .i64 n4, .bool b5, .bool b6]] h Q :=
 AC_by (H := hintsOf [1] []) (by kernel_rfl) (by kernel_rfl) hk

/-- slices.IndexFunc: what it asks. -/
def vc220 (q1 : Option SL) (h : Heap) (Q : AV → Heap → Prop) : Prop :=
 ∃ (I3 : List AV → Heap → Prop) (m4 : List AV → Heap → Nat), I3 [.int .i64 0] h ∧
 ∀ n2 : Int, ∀ h5 : Heap, I3 [.int .i64 n2] h5 →
 vif (decide (n2 < (slLen q1 : Int)))
 (vIdx q1 n2 6 fun p6 =>
 ∃ s7 : List UInt8, ∃ n8 : Int, ∃ q9 : Option SL, ∃ n10 : Int, ∃ b11 : Bool, ∃ b12 : Bool, cellsAt h5 p6 6 = some [.str s7, .int .i64 n8, .sl q9, .int .i64 n10, .bool b11, .bool b12] ∧
 AC Tryz.prog 219 [.agg [.str s7, .int .i64 n8, .sl q9, .int .i64 n10, .bool b11, .bool b12]] h5 fun v13 h14 => ∃ b15 : Bool, v13 = .bool b15 ∧
 vif b15
 (Q (.int .i64 n2) h14)
 ((True) ∧ I3 [.int .i64 (wrapK .i64 (n2 + 1))] h14 ∧ m4 [.int .i64 (wrapK .i64 (n2 + 1))] h14 < m4 [.int .i64 n2] h5))
 (Q (.int .i64 (-1)) h5)
theorem ac220 {q1 : Option SL} {h : Heap} {Q : AV → Heap → Prop} (hk : vc220 q1 h Q) : AC Tryz.prog 220 [.sl q1, .func (.func 219) [] []] h Q :=
 AC_by (H := hintsOf [] [(0, [8], [])]) (by kernel_rfl) (by kernel_rfl) hk

/-- pool.Pool).turn: what it asks. -/
def vc221 (p1 : Option PA) (h : Heap) (Q : AV → Heap → Prop) : Prop :=
 vPtr p1 fun p2 =>
 ∃ n3 : Int, cellsAt h ⟨p2.b, p2.o + 2⟩ 1 = some [.int .i64 n3] ∧
 vPtr p1 fun p4 =>
 ∃ n5 : Int, cellsAt h ⟨p4.b, p4.o + 2⟩ 1 = some [.int .i64 n5] ∧
 vPtr p1 fun p6 =>
 ∃ q7 : Option SL, cellsAt h ⟨p6.b, p6.o + 0⟩ 1 = some [.sl q7] ∧
 need (!((slLen q7 : Int) == 0))
 (vPtr p1 fun p8 =>
 PStore h ⟨p8.b, p8.o + 2⟩ [.int .i64 (Int.tmod (wrapK .i64 (n5 + 1)) (slLen q7 : Int))] fun h9 =>
 Q (.int .i64 n3) h9)
theorem ac221 {p1 : Option PA} {h : Heap} {Q : AV → Heap → Prop} (hk : vc221 p1 h Q) : AC Tryz.prog 221 [.ptr p1] h Q :=
 AC_by (H := hintsOf [] []) (by kernel_rfl) (by kernel_rfl) hk

end Go.Proofs
