import Derived.Test.YtnglhicedhcpbaaGreatDoorHG10
import Derived.Test.YtnglhicedhcpbaaGreatDoorProg
import Derived.KernelRfl
namespace Go.Proofs
open Go.Ab
set_option maxRecDepth 100000
set_option linter.unusedVariables false
def vc14 (n1 : Int) (q2 : Option SL) (h : Heap) (Q : AV → Heap → Prop) : Prop :=
 AC Tryz.prog 67 [] h fun v3 h4 => ∃ p5 : Option PA, v3 = .ptr p5 ∧
 AC Tryz.prog 69 [.int .i64 n1] h4 fun v6 h7 => ∃ p8 : Option PA, ∃ n9 : Int, v6 = .tup [.ptr p8, .int .i64 n9] ∧
 AC Tryz.prog 79 [.int .i64 n1] h7 fun v10 h11 => ∃ p12 : Option PA, v10 = .ptr p12 ∧
 AC Tryz.prog 68 [] h11 fun v13 h14 => ∃ b15 : Bool, v13 = .bool b15 ∧
 vif (!b15)
 (Q (.bool false) h14)
 (vif (p5.isNone)
 (Q (.bool false) h14)
 (vif (!((!(p8.isNone)) == (!(p12.isNone))))
 (Q (.bool false) h14)
 (vif (!((n9 == 0) == (!(p12.isNone))))
 (Q (.bool false) h14)
 (vif (p12.isNone)
 (vif (n9 != 1)
 (Q (.bool false) h14)
 (∃ (I17 : List AV → Heap → Prop) (m18 : List AV → Heap → Nat), I17 [.int .i64 0] (h14 ++ [.mp [] 0]) ∧
 ∀ n16 : Int, ∀ h19 : Heap, I17 [.int .i64 n16] h19 →
 vif (decide (n16 < (slLen q2 : Int)))
 (vif (decide (n16 < 60))
 (vif (!(p12.isNone))
 (vIdx q2 n16 3 fun p20 =>
 ∃ n21 n22 n23 : Int, cellsAt h19 p20 3 = some [.int .i64 n21, .int .i64 n22, .int .i64 n23] ∧
 vif (decide (n22 < 0))
 ((True) ∧ I17 [.int .i64 (wrapK .i64 (n16 + 1))] h19 ∧ m18 [.int .i64 (wrapK .i64 (n16 + 1))] h19 < m18 [.int .i64 n16] h19)
 (vif (decide (n22 > 2))
 ((True) ∧ I17 [.int .i64 (wrapK .i64 (n16 + 1))] h19 ∧ m18 [.int .i64 (wrapK .i64 (n16 + 1))] h19 < m18 [.int .i64 n16] h19)
 (AC Tryz.prog 80 [.ptr p5, .ptr p8, .ptr p12, .agg [.int .i64 n21, .int .i64 n22, .int .i64 n23], .map (some (List.length h14))] h19 fun v24 h25 => ∃ b26 : Bool, v24 = .bool b26 ∧
 vif (!b26)
 ((LV.val (.tup []) = LV.val (.tup [])) ∧
 (LV.val (.tup []) = LV.val (.tup [])) ∧
 (LV.val (.tup []) = LV.val (.tup [])) ∧
 (LV.val (.tup []) = LV.val (.tup [])) ∧
 (LV.val (.tup []) = LV.val (.tup [])) ∧
 (LV.val (.tup []) = LV.val (.tup [])) ∧
 (LV.val (.tup []) = LV.val (.tup [])) ∧
 (LV.val (.tup []) = LV.val (.tup [])) ∧
 (LV.val (.tup []) = LV.val (.tup [])) ∧
 (LV.val (.tup []) = LV.val (.tup [])) ∧
 Q (.bool false) h25)
 (AC Tryz.prog 75 [.ptr p8] h25 fun v27 h28 => ∃ n29 : Int, v27 = .int .i64 n29 ∧
 AC Tryz.prog 81 [.ptr p12] h28 fun v30 h31 => ∃ n32 : Int, v30 = .int .i64 n32 ∧
 vif (n29 != n32)
 ((LV.val (.tup []) = LV.val (.tup [])) ∧
 (LV.val (.tup []) = LV.val (.tup [])) ∧
 (LV.val (.tup []) = LV.val (.tup [])) ∧
 (LV.val (.tup []) = LV.val (.tup [])) ∧
 (LV.val (.tup []) = LV.val (.tup [])) ∧
 (LV.val (.tup []) = LV.val (.tup [])) ∧
 (LV.val (.tup []) = LV.val (.tup [])) ∧
 (LV.val (.tup []) = LV.val (.tup [])) ∧
 (LV.val (.tup []) = LV.val (.tup [])) ∧
 (LV.val (.tup []) = LV.val (.tup [])) ∧
 Q (.bool false) h31)
 (AC Tryz.prog 76 [.ptr p8] h31 fun v33 h34 => ∃ n35 : Int, v33 = .int .i64 n35 ∧
 AC Tryz.prog 82 [.ptr p12] h34 fun v36 h37 => ∃ n38 : Int, v36 = .int .i64 n38 ∧
 vif (n35 != n38)
 ((LV.val (.tup []) = LV.val (.tup [])) ∧
 (LV.val (.tup []) = LV.val (.tup [])) ∧
 (LV.val (.tup []) = LV.val (.tup [])) ∧
 (LV.val (.tup []) = LV.val (.tup [])) ∧
 (LV.val (.tup []) = LV.val (.tup [])) ∧
 (LV.val (.tup []) = LV.val (.tup [])) ∧
 (LV.val (.tup []) = LV.val (.tup [])) ∧
 (LV.val (.tup []) = LV.val (.tup [])) ∧
 (LV.val (.tup []) = LV.val (.tup [])) ∧
 (LV.val (.tup []) = LV.val (.tup [])) ∧
 Q (.bool false) h37)
 (vPtr p12 fun p39 =>
 ∃ q40 : Option SL, cellsAt h37 ⟨p39.b, p39.o + 0⟩ 1 = some [.sl q40] ∧
 AC Tryz.prog 77 [.ptr p8] h37 fun v41 h42 => ∃ n43 : Int, v41 = .int .i64 n43 ∧
 (∃ q72 : Option SL, cellsAt h42 ⟨p39.b, p39.o + 0⟩ 1 = some [.sl q72] ∧
 LV.val (.sl q72) = LV.val (.sl q40)) ∧
 vif (n43 != (slLen q40 : Int))
 ((LV.val (.tup []) = LV.val (.tup [])) ∧
 (LV.val (.tup []) = LV.val (.tup [])) ∧
 (LV.val (.tup []) = LV.val (.tup [])) ∧
 (LV.val (.tup []) = LV.val (.tup [])) ∧
 (LV.val (.tup []) = LV.val (.tup [])) ∧
 (LV.val (.tup []) = LV.val (.tup [])) ∧
 (LV.val (.tup []) = LV.val (.tup [])) ∧
 (LV.val (.tup []) = LV.val (.tup [])) ∧
 (LV.val (.tup []) = LV.val (.tup [])) ∧
 Q (.bool false) h42)
 (vPtr p12 fun p44 =>
 ∃ n45 n46 n47 : Int, cellsAt h42 ⟨p44.b, p44.o + 2⟩ 3 = some [.int .i64 n45, .int .i64 n46, .int .i64 n47] ∧
 AC Tryz.prog 78 [.ptr p8] h42 fun v48 h49 => ∃ n50 n51 n52 : Int, v48 = .agg [.int .i64 n50, .int .i64 n51, .int .i64 n52] ∧
 (∃ n69 n70 n71 : Int, cellsAt h49 ⟨p44.b, p44.o + 2⟩ 3 = some [.int .i64 n69, .int .i64 n70, .int .i64 n71] ∧
 LV.val (.agg [.int .i64 n69, .int .i64 n70, .int .i64 n71]) = LV.val (.agg [.int .i64 n45, .int .i64 n46, .int .i64 n47])) ∧
 vif (!((n50 == n45) && ((n51 == n46) && ((n52 == n47) && true))))
 ((LV.val (.tup []) = LV.val (.tup [])) ∧
 (LV.val (.tup []) = LV.val (.tup [])) ∧
 (LV.val (.tup []) = LV.val (.tup [])) ∧
 (LV.val (.tup []) = LV.val (.tup [])) ∧
 (LV.val (.tup []) = LV.val (.tup [])) ∧
 (LV.val (.tup []) = LV.val (.tup [])) ∧
 (LV.val (.tup []) = LV.val (.tup [])) ∧
 (LV.val (.tup []) = LV.val (.tup [])) ∧
 Q (.bool false) h49)
 (AC Tryz.prog 72 [] h49 fun v53 h54 => ∃ q55 : Option SL, v53 = .sl q55 ∧
 (LV.val (.int .i64 n23) = LV.val (.int .i64 n23)) ∧
 (LV.val (.int .i64 n22) = LV.val (.int .i64 n22)) ∧
 (LV.val (.int .i64 n23) = LV.val (.int .i64 n23)) ∧
 (LV.val (.int .i64 n22) = LV.val (.int .i64 n22)) ∧
 vIdx q55 n22 1 fun p56 =>
 ∃ s57 : List UInt8, cellsAt h54 p56 1 = some [.str s57] ∧
 AC Tryz.prog 74 [.ptr p8, .str s57, .int .i64 n23] h54 fun v58 h59 => ∃ b60 : Bool, v58 = .bool b60 ∧
 (LV.val (.int .i64 n23) = LV.val (.int .i64 n23)) ∧
 (LV.val (.int .i64 n22) = LV.val (.int .i64 n22)) ∧
 AC Tryz.prog 72 [] h59 fun v61 h62 => ∃ q63 : Option SL, v61 = .sl q63 ∧
 (LV.val (.int .i64 n23) = LV.val (.int .i64 n23)) ∧
 (LV.val (.int .i64 n22) = LV.val (.int .i64 n22)) ∧
 vIdx q63 n22 1 fun p64 =>
 ∃ s65 : List UInt8, cellsAt h62 p64 1 = some [.str s65] ∧
 AC Tryz.prog 83 [.ptr p12, .str s65, .int .i64 n23] h62 fun v66 h67 => ∃ n68 : Int, v66 = .int .i64 n68 ∧
 vif (!(b60 == (decide (n68 ≥ 0))))
 (Q (.bool false) h67)
 ((True) ∧ I17 [.int .i64 (wrapK .i64 (n16 + 1))] h67 ∧ m18 [.int .i64 (wrapK .i64 (n16 + 1))] h67 < m18 [.int .i64 n16] h19)))))))))
 (Q (.bool true) h19))
 (Q (.bool true) h19))
 (Q (.bool true) h19)))
 (∃ (I74 : List AV → Heap → Prop) (m75 : List AV → Heap → Nat), I74 [.int .i64 0] (h14 ++ [.mp [] 0]) ∧
 ∀ n73 : Int, ∀ h76 : Heap, I74 [.int .i64 n73] h76 →
 vif (decide (n73 < (slLen q2 : Int)))
 (vif (decide (n73 < 60))
 (vif (!(p12.isNone))
 (vIdx q2 n73 3 fun p77 =>
 ∃ n78 n79 n80 : Int, cellsAt h76 p77 3 = some [.int .i64 n78, .int .i64 n79, .int .i64 n80] ∧
 vif (decide (n79 < 0))
 ((True) ∧ I74 [.int .i64 (wrapK .i64 (n73 + 1))] h76 ∧ m75 [.int .i64 (wrapK .i64 (n73 + 1))] h76 < m75 [.int .i64 n73] h76)
 (vif (decide (n79 > 2))
 ((True) ∧ I74 [.int .i64 (wrapK .i64 (n73 + 1))] h76 ∧ m75 [.int .i64 (wrapK .i64 (n73 + 1))] h76 < m75 [.int .i64 n73] h76)
 (AC Tryz.prog 80 [.ptr p5, .ptr p8, .ptr p12, .agg [.int .i64 n78, .int .i64 n79, .int .i64 n80], .map (some (List.length h14))] h76 fun v81 h82 => ∃ b83 : Bool, v81 = .bool b83 ∧
 vif (!b83)
 ((LV.val (.tup []) = LV.val (.tup [])) ∧
 (LV.val (.tup []) = LV.val (.tup [])) ∧
 (LV.val (.tup []) = LV.val (.tup [])) ∧
 (LV.val (.tup []) = LV.val (.tup [])) ∧
 (LV.val (.tup []) = LV.val (.tup [])) ∧
 (LV.val (.tup []) = LV.val (.tup [])) ∧
 (LV.val (.tup []) = LV.val (.tup [])) ∧
 (LV.val (.tup []) = LV.val (.tup [])) ∧
 (LV.val (.tup []) = LV.val (.tup [])) ∧
 (LV.val (.tup []) = LV.val (.tup [])) ∧
 Q (.bool false) h82)
 (AC Tryz.prog 75 [.ptr p8] h82 fun v84 h85 => ∃ n86 : Int, v84 = .int .i64 n86 ∧
 AC Tryz.prog 81 [.ptr p12] h85 fun v87 h88 => ∃ n89 : Int, v87 = .int .i64 n89 ∧
 vif (n86 != n89)
 ((LV.val (.tup []) = LV.val (.tup [])) ∧
 (LV.val (.tup []) = LV.val (.tup [])) ∧
 (LV.val (.tup []) = LV.val (.tup [])) ∧
 (LV.val (.tup []) = LV.val (.tup [])) ∧
 (LV.val (.tup []) = LV.val (.tup [])) ∧
 (LV.val (.tup []) = LV.val (.tup [])) ∧
 (LV.val (.tup []) = LV.val (.tup [])) ∧
 (LV.val (.tup []) = LV.val (.tup [])) ∧
 (LV.val (.tup []) = LV.val (.tup [])) ∧
 (LV.val (.tup []) = LV.val (.tup [])) ∧
 Q (.bool false) h88)
 (AC Tryz.prog 76 [.ptr p8] h88 fun v90 h91 => ∃ n92 : Int, v90 = .int .i64 n92 ∧
 AC Tryz.prog 82 [.ptr p12] h91 fun v93 h94 => ∃ n95 : Int, v93 = .int .i64 n95 ∧
 vif (n92 != n95)
 ((LV.val (.tup []) = LV.val (.tup [])) ∧
 (LV.val (.tup []) = LV.val (.tup [])) ∧
 (LV.val (.tup []) = LV.val (.tup [])) ∧
 (LV.val (.tup []) = LV.val (.tup [])) ∧
 (LV.val (.tup []) = LV.val (.tup [])) ∧
 (LV.val (.tup []) = LV.val (.tup [])) ∧
 (LV.val (.tup []) = LV.val (.tup [])) ∧
 (LV.val (.tup []) = LV.val (.tup [])) ∧
 (LV.val (.tup []) = LV.val (.tup [])) ∧
 (LV.val (.tup []) = LV.val (.tup [])) ∧
 Q (.bool false) h94)
 (vPtr p12 fun p96 =>
 ∃ q97 : Option SL, cellsAt h94 ⟨p96.b, p96.o + 0⟩ 1 = some [.sl q97] ∧
 AC Tryz.prog 77 [.ptr p8] h94 fun v98 h99 => ∃ n100 : Int, v98 = .int .i64 n100 ∧
 (∃ q129 : Option SL, cellsAt h99 ⟨p96.b, p96.o + 0⟩ 1 = some [.sl q129] ∧
 LV.val (.sl q129) = LV.val (.sl q97)) ∧
 vif (n100 != (slLen q97 : Int))
 ((LV.val (.tup []) = LV.val (.tup [])) ∧
 (LV.val (.tup []) = LV.val (.tup [])) ∧
 (LV.val (.tup []) = LV.val (.tup [])) ∧
 (LV.val (.tup []) = LV.val (.tup [])) ∧
 (LV.val (.tup []) = LV.val (.tup [])) ∧
 (LV.val (.tup []) = LV.val (.tup [])) ∧
 (LV.val (.tup []) = LV.val (.tup [])) ∧
 (LV.val (.tup []) = LV.val (.tup [])) ∧
 (LV.val (.tup []) = LV.val (.tup [])) ∧
 Q (.bool false) h99)
 (vPtr p12 fun p101 =>
 ∃ n102 n103 n104 : Int, cellsAt h99 ⟨p101.b, p101.o + 2⟩ 3 = some [.int .i64 n102, .int .i64 n103, .int .i64 n104] ∧
 AC Tryz.prog 78 [.ptr p8] h99 fun v105 h106 => ∃ n107 n108 n109 : Int, v105 = .agg [.int .i64 n107, .int .i64 n108, .int .i64 n109] ∧
 (∃ n126 n127 n128 : Int, cellsAt h106 ⟨p101.b, p101.o + 2⟩ 3 = some [.int .i64 n126, .int .i64 n127, .int .i64 n128] ∧
 LV.val (.agg [.int .i64 n126, .int .i64 n127, .int .i64 n128]) = LV.val (.agg [.int .i64 n102, .int .i64 n103, .int .i64 n104])) ∧
 vif (!((n107 == n102) && ((n108 == n103) && ((n109 == n104) && true))))
 ((LV.val (.tup []) = LV.val (.tup [])) ∧
 (LV.val (.tup []) = LV.val (.tup [])) ∧
 (LV.val (.tup []) = LV.val (.tup [])) ∧
 (LV.val (.tup []) = LV.val (.tup [])) ∧
 (LV.val (.tup []) = LV.val (.tup [])) ∧
 (LV.val (.tup []) = LV.val (.tup [])) ∧
 (LV.val (.tup []) = LV.val (.tup [])) ∧
 (LV.val (.tup []) = LV.val (.tup [])) ∧
 Q (.bool false) h106)
 (AC Tryz.prog 72 [] h106 fun v110 h111 => ∃ q112 : Option SL, v110 = .sl q112 ∧
 (LV.val (.int .i64 n80) = LV.val (.int .i64 n80)) ∧
 (LV.val (.int .i64 n79) = LV.val (.int .i64 n79)) ∧
 (LV.val (.int .i64 n80) = LV.val (.int .i64 n80)) ∧
 (LV.val (.int .i64 n79) = LV.val (.int .i64 n79)) ∧
 vIdx q112 n79 1 fun p113 =>
 ∃ s114 : List UInt8, cellsAt h111 p113 1 = some [.str s114] ∧
 AC Tryz.prog 74 [.ptr p8, .str s114, .int .i64 n80] h111 fun v115 h116 => ∃ b117 : Bool, v115 = .bool b117 ∧
 (LV.val (.int .i64 n80) = LV.val (.int .i64 n80)) ∧
 (LV.val (.int .i64 n79) = LV.val (.int .i64 n79)) ∧
 AC Tryz.prog 72 [] h116 fun v118 h119 => ∃ q120 : Option SL, v118 = .sl q120 ∧
 (LV.val (.int .i64 n80) = LV.val (.int .i64 n80)) ∧
 (LV.val (.int .i64 n79) = LV.val (.int .i64 n79)) ∧
 vIdx q120 n79 1 fun p121 =>
 ∃ s122 : List UInt8, cellsAt h119 p121 1 = some [.str s122] ∧
 AC Tryz.prog 83 [.ptr p12, .str s122, .int .i64 n80] h119 fun v123 h124 => ∃ n125 : Int, v123 = .int .i64 n125 ∧
 vif (!(b117 == (decide (n125 ≥ 0))))
 (Q (.bool false) h124)
 ((True) ∧ I74 [.int .i64 (wrapK .i64 (n73 + 1))] h124 ∧ m75 [.int .i64 (wrapK .i64 (n73 + 1))] h124 < m75 [.int .i64 n73] h76)))))))))
 (Q (.bool true) h76))
 (Q (.bool true) h76))
 (Q (.bool true) h76))))))
theorem ac14 {n1 : Int} {q2 : Option SL} {h : Heap} {Q : AV → Heap → Prop} (hk : vc14 n1 q2 h Q) : AC Tryz.prog 14 [.int .i64 n1, .sl q2] h Q :=
 AC_by (H := hintsOf [11] [(0, [10], [])]) (by kernel_rfl) (by kernel_rfl) hk
def vc79 (n1 : Int) (h : Heap) (Q : AV → Heap → Prop) : Prop :=
 vif (decide (n1 < 0))
 (Q (.ptr none) h)
 (vif (decide (n1 > 1024))
 (Q (.ptr none) h)
 (PMake [.str [], .int .i64 0, .int .i64 0, .bool false, .bool false] 40 n1 n1 h fun q2 h3 =>
 PNew [.sl q2, .int .i64 0, .int .i64 0, .int .i64 0, .int .i64 0] true h3 fun a4 h5 =>
 Q (.ptr (some ⟨a4, 0⟩)) h5))
theorem ac79 {n1 : Int} {h : Heap} {Q : AV → Heap → Prop} (hk : vc79 n1 h Q) : AC Tryz.prog 79 [.int .i64 n1] h Q :=
 AC_by (H := hintsOf [] []) (by kernel_rfl) (by kernel_rfl) hk
def vc80 (p1 : Option PA) (p2 : Option PA) (p3 : Option PA) (n4 : Int) (n5 : Int) (n6 : Int) (m7 : Option Nat) (h : Heap) (Q : AV → Heap → Prop) : Prop :=
 vPtr p1 fun p8 =>
 ∃ q9 : Option SL, cellsAt h ⟨p8.b, p8.o + 1⟩ 1 = some [.sl q9] ∧
 vIdx q9 n5 1 fun p10 =>
 ∃ p11 : Option PA, cellsAt h p10 1 = some [.ptr p11] ∧
 AC Tryz.prog 72 [] h fun v12 h13 => ∃ q14 : Option SL, v12 = .sl q14 ∧
 (LV.val (.int .i64 n5) = LV.val (.int .i64 n5)) ∧
 vIdx q14 n5 1 fun p15 =>
 ∃ s16 : List UInt8, cellsAt h13 p15 1 = some [.str s16] ∧
 vif (n4 == 1)
 (AC Tryz.prog 16 [.ptr p11, .int .i64 n6] h13 fun v17 h18 => ∃ q19 : Option SL, ∃ n20 : Int, v17 = .tup [.sl q19, .int .i64 n20] ∧
 vif (decide (n6 < 0))
 ((LV.val (.tup []) = LV.val (.tup [])) ∧
 AC Tryz.prog 70 [.ptr p2, .ptr p11, .int .i64 n6] h18 fun v21 h22 => ∃ q23 : Option SL, ∃ n24 : Int, v21 = .tup [.sl q23, .int .i64 n24] ∧
 AC Tryz.prog 152 [.ptr p3, .str s16, .int .i64 n6, .int .i64 4] h22 fun v25 h26 => ∃ n27 : Int, v25 = .int .i64 n27 ∧
 vif (n24 == n27)
 (vif (n24 != 0)
 (vif ((slLen q23 : Int) == 0)
 (Q (.bool true) h26)
 (vif (n24 == 0)
 (vif (decide ((slLen q23 : Int) > 0))
 (vif ((slLen q19 : Int) == 0)
 (Q (.bool true) h26)
 (AC Tryz.prog 62 [.sl q23, .sl q19] h26 fun v28 h29 => ∃ b30 : Bool, v28 = .bool b30 ∧
 Q (.bool b30) h29))
 (Q (.bool false) h26))
 (Q (.bool false) h26)))
 (vif (n24 == 0)
 (vif (decide ((slLen q23 : Int) > 0))
 (vif ((slLen q19 : Int) == 0)
 (Q (.bool true) h26)
 (AC Tryz.prog 62 [.sl q23, .sl q19] h26 fun v31 h32 => ∃ b33 : Bool, v31 = .bool b33 ∧
 Q (.bool b33) h32))
 (Q (.bool false) h26))
 (Q (.bool false) h26)))
 (Q (.bool false) h26))
 (AC Tryz.prog 22 [.ptr p11] h18 fun v34 h35 => ∃ n36 : Int, v34 = .int .i64 n36 ∧
 (LV.val (.int .i64 n6) = LV.val (.int .i64 n6)) ∧
 vif (decide (n6 ≥ n36))
 (AC Tryz.prog 70 [.ptr p2, .ptr p11, .int .i64 n6] h35 fun v37 h38 => ∃ q39 : Option SL, ∃ n40 : Int, v37 = .tup [.sl q39, .int .i64 n40] ∧
 AC Tryz.prog 152 [.ptr p3, .str s16, .int .i64 n6, .int .i64 4] h38 fun v41 h42 => ∃ n43 : Int, v41 = .int .i64 n43 ∧
 vif (n40 == n43)
 (vif (n40 != 0)
 (vif ((slLen q39 : Int) == 0)
 (Q (.bool true) h42)
 (vif (n40 == 0)
 (vif (decide ((slLen q39 : Int) > 0))
 (vif ((slLen q19 : Int) == 0)
 (Q (.bool true) h42)
 (AC Tryz.prog 62 [.sl q39, .sl q19] h42 fun v44 h45 => ∃ b46 : Bool, v44 = .bool b46 ∧
 Q (.bool b46) h45))
 (Q (.bool false) h42))
 (Q (.bool false) h42)))
 (vif (n40 == 0)
 (vif (decide ((slLen q39 : Int) > 0))
 (vif ((slLen q19 : Int) == 0)
 (Q (.bool true) h42)
 (AC Tryz.prog 62 [.sl q39, .sl q19] h42 fun v47 h48 => ∃ b49 : Bool, v47 = .bool b49 ∧
 Q (.bool b49) h48))
 (Q (.bool false) h42))
 (Q (.bool false) h42)))
 (Q (.bool false) h42))
 (PLookup Tryz.prog 238 4 m7 (.agg [.int .i64 n5, .int .i64 n6]) false h35 fun v50 =>
 ∃ b51 : Bool, v50 = .bool b51 ∧
 vif b51
 (AC Tryz.prog 70 [.ptr p2, .ptr p11, .int .i64 n6] h35 fun v52 h53 => ∃ q54 : Option SL, ∃ n55 : Int, v52 = .tup [.sl q54, .int .i64 n55] ∧
 AC Tryz.prog 152 [.ptr p3, .str s16, .int .i64 n6, .int .i64 80] h53 fun v56 h57 => ∃ n58 : Int, v56 = .int .i64 n58 ∧
 vif (n55 == n58)
 (vif (n55 != 0)
 (vif ((slLen q54 : Int) == 0)
 (Q (.bool true) h57)
 (vif (n55 == 0)
 (vif (decide ((slLen q54 : Int) > 0))
 (Q (.bool true) h57)
 (Q (.bool false) h57))
 (Q (.bool false) h57)))
 (vif (n55 == 0)
 (vif (decide ((slLen q54 : Int) > 0))
 (Q (.bool true) h57)
 (Q (.bool false) h57))
 (Q (.bool false) h57)))
 (Q (.bool false) h57))
 (AC Tryz.prog 70 [.ptr p2, .ptr p11, .int .i64 n6] h35 fun v59 h60 => ∃ q61 : Option SL, ∃ n62 : Int, v59 = .tup [.sl q61, .int .i64 n62] ∧
 AC Tryz.prog 152 [.ptr p3, .str s16, .int .i64 n6, .int .i64 0] h60 fun v63 h64 => ∃ n65 : Int, v63 = .int .i64 n65 ∧
 vif (n62 == n65)
 (vif (n62 != 0)
 (vif ((slLen q61 : Int) == 0)
 (Q (.bool true) h64)
 (vif (n62 == 0)
 (vif (decide ((slLen q61 : Int) > 0))
 (vif ((slLen q19 : Int) == 0)
 (Q (.bool true) h64)
 (AC Tryz.prog 62 [.sl q61, .sl q19] h64 fun v66 h67 => ∃ b68 : Bool, v66 = .bool b68 ∧
 Q (.bool b68) h67))
 (Q (.bool false) h64))
 (Q (.bool false) h64)))
 (vif (n62 == 0)
 (vif (decide ((slLen q61 : Int) > 0))
 (vif ((slLen q19 : Int) == 0)
 (Q (.bool true) h64)
 (AC Tryz.prog 62 [.sl q61, .sl q19] h64 fun v69 h70 => ∃ b71 : Bool, v69 = .bool b71 ∧
 Q (.bool b71) h70))
 (Q (.bool false) h64))
 (Q (.bool false) h64)))
 (Q (.bool false) h64)))))
 (vif (n4 == 2)
 (AC Tryz.prog 71 [.ptr p2, .str s16, .int .i64 n6] h13 fun v72 h73 => ∃ n74 : Int, v72 = .int .i64 n74 ∧
 (LV.val (.int .i64 n6) = LV.val (.int .i64 n6)) ∧
 AC Tryz.prog 153 [.ptr p3, .str s16, .int .i64 n6] h73 fun v75 h76 => ∃ n77 : Int, v75 = .int .i64 n77 ∧
 Q (.bool (n74 == n77)) h76)
 (vif (n4 == 3)
 (AC Tryz.prog 73 [.ptr p2, .str s16] h13 fun v78 h79 => ∃ n80 : Int, v78 = .int .i64 n80 ∧
 AC Tryz.prog 154 [.ptr p3, .str s16] h79 fun v81 h82 => ∃ n83 : Int, v81 = .int .i64 n83 ∧
 Q (.bool (n80 == n83)) h82)
 (vif (n4 == 4)
 (vif (decide (n6 ≥ 0))
 (AC Tryz.prog 22 [.ptr p11] h13 fun v84 h85 => ∃ n86 : Int, v84 = .int .i64 n86 ∧
 (LV.val (.int .i64 n6) = LV.val (.int .i64 n6)) ∧
 vif (decide (n6 < n86))
 (vPtr p1 fun p87 =>
 ∃ p88 : Option PA, cellsAt h85 ⟨p87.b, p87.o + 0⟩ 1 = some [.ptr p88] ∧
 AC Tryz.prog 65 [.ptr p88, .str s16, .int .i64 n6, .int .i64 200, .int .u32 5] h85 fun v89 h90 => ∃ n91 : Int, v89 = .int .i64 n91 ∧
 vif (n91 != 0)
 (Q (.bool false) h90)
 (PLookup Tryz.prog 238 4 m7 (.agg [.int .i64 n5, .int .i64 n6]) false h90 fun v92 =>
 ∃ b93 : Bool, v92 = .bool b93 ∧
 vMap m7 fun a95 => PUpdate Tryz.prog 238 a95 (.agg [.int .i64 n5, .int .i64 n6]) (.bool (!b93)) h90 fun h94 =>
 Q (.bool true) h94))
 (Q (.bool true) h85))
 ((LV.val (.tup []) = LV.val (.tup [])) ∧
 Q (.bool true) h13))
 (Q (.bool true) h13))))
theorem ac80 {p1 : Option PA} {p2 : Option PA} {p3 : Option PA} {n4 : Int} {n5 : Int} {n6 : Int} {m7 : Option Nat} {h : Heap} {Q : AV → Heap → Prop} (hk : vc80 p1 p2 p3 n4 n5 n6 m7 h Q) : AC Tryz.prog 80 [.ptr p1, .ptr p2, .ptr p3, .agg [.int .i64 n4, .int .i64 n5, .int .i64 n6], .map m7] h Q :=
 AC_by (H := hintsOf [8] []) (by kernel_rfl) (by kernel_rfl) hk
def vc81 (p1 : Option PA) (h : Heap) (Q : AV → Heap → Prop) : Prop :=
 ∃ (I4 : List AV → Heap → Prop) (m5 : List AV → Heap → Nat), I4 [.int .i64 0, .int .i64 0] h ∧
 ∀ n2 n3 : Int, ∀ h6 : Heap, I4 [.int .i64 n2, .int .i64 n3] h6 →
 vPtr p1 fun p7 =>
 ∃ q8 : Option SL, cellsAt h6 ⟨p7.b, p7.o + 0⟩ 1 = some [.sl q8] ∧
 vif (decide (n3 < (slLen q8 : Int)))
 (vPtr p1 fun p9 =>
 ∃ q10 : Option SL, cellsAt h6 ⟨p9.b, p9.o + 0⟩ 1 = some [.sl q10] ∧
 vIdx q10 n3 5 fun p11 =>
 ∃ n12 : Int, cellsAt h6 ⟨p11.b, p11.o + 2⟩ 1 = some [.int .i64 n12] ∧
 vif (decide (n12 > 0))
 ((True) ∧ I4 [.int .i64 (wrapK .i64 (n2 + 1)), .int .i64 (wrapK .i64 (n3 + 1))] h6 ∧ m5 [.int .i64 (wrapK .i64 (n2 + 1)), .int .i64 (wrapK .i64 (n3 + 1))] h6 < m5 [.int .i64 n2, .int .i64 n3] h6)
 ((True) ∧ I4 [.int .i64 n2, .int .i64 (wrapK .i64 (n3 + 1))] h6 ∧ m5 [.int .i64 n2, .int .i64 (wrapK .i64 (n3 + 1))] h6 < m5 [.int .i64 n2, .int .i64 n3] h6))
 (Q (.int .i64 n2) h6)
theorem ac81 {p1 : Option PA} {h : Heap} {Q : AV → Heap → Prop} (hk : vc81 p1 h Q) : AC Tryz.prog 81 [.ptr p1] h Q :=
 AC_by (H := hintsOf [] [(0, [3, 4], [])]) (by kernel_rfl) (by kernel_rfl) hk
def vc82 (p1 : Option PA) (h : Heap) (Q : AV → Heap → Prop) : Prop :=
 ∃ (I4 : List AV → Heap → Prop) (m5 : List AV → Heap → Nat), I4 [.int .i64 0, .int .i64 0] h ∧
 ∀ n2 n3 : Int, ∀ h6 : Heap, I4 [.int .i64 n2, .int .i64 n3] h6 →
 vPtr p1 fun p7 =>
 ∃ q8 : Option SL, cellsAt h6 ⟨p7.b, p7.o + 0⟩ 1 = some [.sl q8] ∧
 vif (decide (n3 < (slLen q8 : Int)))
 (vPtr p1 fun p9 =>
 ∃ q10 : Option SL, cellsAt h6 ⟨p9.b, p9.o + 0⟩ 1 = some [.sl q10] ∧
 vIdx q10 n3 5 fun p11 =>
 ∃ b12 : Bool, cellsAt h6 ⟨p11.b, p11.o + 4⟩ 1 = some [.bool b12] ∧
 vif b12
 ((True) ∧ I4 [.int .i64 (wrapK .i64 (n2 + 1)), .int .i64 (wrapK .i64 (n3 + 1))] h6 ∧ m5 [.int .i64 (wrapK .i64 (n2 + 1)), .int .i64 (wrapK .i64 (n3 + 1))] h6 < m5 [.int .i64 n2, .int .i64 n3] h6)
 ((True) ∧ I4 [.int .i64 n2, .int .i64 (wrapK .i64 (n3 + 1))] h6 ∧ m5 [.int .i64 n2, .int .i64 (wrapK .i64 (n3 + 1))] h6 < m5 [.int .i64 n2, .int .i64 n3] h6))
 (Q (.int .i64 n2) h6)
theorem ac82 {p1 : Option PA} {h : Heap} {Q : AV → Heap → Prop} (hk : vc82 p1 h Q) : AC Tryz.prog 82 [.ptr p1] h Q :=
 AC_by (H := hintsOf [] [(0, [3, 4], [])]) (by kernel_rfl) (by kernel_rfl) hk
def vc83 (p1 : Option PA) (s2 : List UInt8) (n3 : Int) (h : Heap) (Q : AV → Heap → Prop) : Prop :=
 ∃ (I5 : List AV → Heap → Prop) (m6 : List AV → Heap → Nat), I5 [.int .i64 0] h ∧
 ∀ n4 : Int, ∀ h7 : Heap, I5 [.int .i64 n4] h7 →
 vPtr p1 fun p8 =>
 ∃ q9 : Option SL, cellsAt h7 ⟨p8.b, p8.o + 0⟩ 1 = some [.sl q9] ∧
 vif (decide (n4 < (slLen q9 : Int)))
 (vPtr p1 fun p10 =>
 ∃ q11 : Option SL, cellsAt h7 ⟨p10.b, p10.o + 0⟩ 1 = some [.sl q11] ∧
 vIdx q11 n4 5 fun p12 =>
 ∃ b13 : Bool, cellsAt h7 ⟨p12.b, p12.o + 4⟩ 1 = some [.bool b13] ∧
 vif b13
 (vPtr p1 fun p14 =>
 ∃ q15 : Option SL, cellsAt h7 ⟨p14.b, p14.o + 0⟩ 1 = some [.sl q15] ∧
 vIdx q15 n4 5 fun p16 =>
 ∃ s17 : List UInt8, cellsAt h7 ⟨p16.b, p16.o + 0⟩ 1 = some [.str s17] ∧
 vif (s17 == s2)
 (vPtr p1 fun p18 =>
 ∃ q19 : Option SL, cellsAt h7 ⟨p18.b, p18.o + 0⟩ 1 = some [.sl q19] ∧
 vIdx q19 n4 5 fun p20 =>
 ∃ n21 : Int, cellsAt h7 ⟨p20.b, p20.o + 1⟩ 1 = some [.int .i64 n21] ∧
 vif (n21 == n3)
 (Q (.int .i64 n4) h7)
 ((True) ∧ I5 [.int .i64 (wrapK .i64 (n4 + 1))] h7 ∧ m6 [.int .i64 (wrapK .i64 (n4 + 1))] h7 < m6 [.int .i64 n4] h7))
 ((True) ∧ I5 [.int .i64 (wrapK .i64 (n4 + 1))] h7 ∧ m6 [.int .i64 (wrapK .i64 (n4 + 1))] h7 < m6 [.int .i64 n4] h7))
 ((True) ∧ I5 [.int .i64 (wrapK .i64 (n4 + 1))] h7 ∧ m6 [.int .i64 (wrapK .i64 (n4 + 1))] h7 < m6 [.int .i64 n4] h7))
 (Q (.int .i64 (-1)) h7)
theorem ac83 {p1 : Option PA} {s2 : List UInt8} {n3 : Int} {h : Heap} {Q : AV → Heap → Prop} (hk : vc83 p1 s2 n3 h Q) : AC Tryz.prog 83 [.ptr p1, .str s2, .int .i64 n3] h Q :=
 AC_by (H := hintsOf [] [(0, [7], [])]) (by kernel_rfl) (by kernel_rfl) hk
def vc152 (p1 : Option PA) (s2 : List UInt8) (n3 : Int) (n4 : Int) (h : Heap) (Q : AV → Heap → Prop) : Prop :=
 AC Tryz.prog 83 [.ptr p1, .str s2, .int .i64 n3] h fun v5 h6 => ∃ n7 : Int, v5 = .int .i64 n7 ∧
 vif (decide (n7 ≥ 0))
 (vPtr p1 fun p8 =>
 ∃ q9 : Option SL, cellsAt h6 ⟨p8.b, p8.o + 0⟩ 1 = some [.sl q9] ∧
 vIdx q9 n7 5 fun p10 =>
 ∃ n11 : Int, cellsAt h6 ⟨p10.b, p10.o + 2⟩ 1 = some [.int .i64 n11] ∧
 vIdx q9 n7 5 fun p12 =>
 PStore h6 ⟨p12.b, p12.o + 2⟩ [.int .i64 (wrapK .i64 (n11 + 1))] fun h13 =>
 vPtr p1 fun p14 =>
 ∃ q15 : Option SL, cellsAt h13 ⟨p14.b, p14.o + 0⟩ 1 = some [.sl q15] ∧
 vIdx q15 n7 5 fun p16 =>
 PStore h13 ⟨p16.b, p16.o + 3⟩ [.bool true] fun h17 =>
 vPtr p1 fun p18 =>
 ∃ n19 : Int, cellsAt h17 ⟨p18.b, p18.o + 2 + 0⟩ 1 = some [.int .i64 n19] ∧
 vPtr p1 fun p20 =>
 PStore h17 ⟨p20.b, p20.o + 2 + 0⟩ [.int .i64 (wrapK .i64 (n19 + 1))] fun h21 =>
 Q (.int .i64 0) h21)
 (vif (n4 != 0)
 (Q (.int .i64 n4) h6)
 (AC Tryz.prog 222 [.ptr p1] h6 fun v22 h23 => ∃ n24 : Int, v22 = .int .i64 n24 ∧
 vif (decide (n24 < 0))
 (Q (.int .i64 90) h23)
 (vPtr p1 fun p25 =>
 ∃ q26 : Option SL, cellsAt h23 ⟨p25.b, p25.o + 0⟩ 1 = some [.sl q26] ∧
 vIdx q26 n24 5 fun p27 =>
 PStore h23 p27 [.str s2, .int .i64 n3, .int .i64 1, .bool true, .bool true] fun h28 =>
 vPtr p1 fun p29 =>
 ∃ n30 : Int, cellsAt h28 ⟨p29.b, (p29.o + 2) + 1⟩ 1 = some [.int .i64 n30] ∧
 vPtr p1 fun p31 =>
 PStore h28 ⟨p31.b, (p31.o + 2) + 1⟩ [.int .i64 (wrapK .i64 (n30 + 1))] fun h32 =>
 Q (.int .i64 0) h32)))
theorem ac152 {p1 : Option PA} {s2 : List UInt8} {n3 : Int} {n4 : Int} {h : Heap} {Q : AV → Heap → Prop} (hk : vc152 p1 s2 n3 n4 h Q) : AC Tryz.prog 152 [.ptr p1, .str s2, .int .i64 n3, .int .i64 n4] h Q :=
 AC_by (H := hintsOf [] []) (by kernel_rfl) (by kernel_rfl) hk
def vc153 (p1 : Option PA) (s2 : List UInt8) (n3 : Int) (h : Heap) (Q : AV → Heap → Prop) : Prop :=
 AC Tryz.prog 83 [.ptr p1, .str s2, .int .i64 n3] h fun v4 h5 => ∃ n6 : Int, v4 = .int .i64 n6 ∧
 vif (decide (n6 < 0))
 (Q (.int .i64 4) h5)
 (vPtr p1 fun p7 =>
 ∃ q8 : Option SL, cellsAt h5 ⟨p7.b, p7.o + 0⟩ 1 = some [.sl q8] ∧
 vIdx q8 n6 5 fun p9 =>
 ∃ n10 : Int, cellsAt h5 ⟨p9.b, p9.o + 2⟩ 1 = some [.int .i64 n10] ∧
 vif (n10 == 0)
 (Q (.int .i64 4) h5)
 (vPtr p1 fun p11 =>
 ∃ q12 : Option SL, cellsAt h5 ⟨p11.b, p11.o + 0⟩ 1 = some [.sl q12] ∧
 vIdx q12 n6 5 fun p13 =>
 ∃ n14 : Int, cellsAt h5 ⟨p13.b, p13.o + 2⟩ 1 = some [.int .i64 n14] ∧
 vIdx q12 n6 5 fun p15 =>
 PStore h5 ⟨p15.b, p15.o + 2⟩ [.int .i64 (wrapK .i64 (n14 - 1))] fun h16 =>
 Q (.int .i64 0) h16))
theorem ac153 {p1 : Option PA} {s2 : List UInt8} {n3 : Int} {h : Heap} {Q : AV → Heap → Prop} (hk : vc153 p1 s2 n3 h Q) : AC Tryz.prog 153 [.ptr p1, .str s2, .int .i64 n3] h Q :=
 AC_by (H := hintsOf [] []) (by kernel_rfl) (by kernel_rfl) hk
def vc154 (p1 : Option PA) (s2 : List UInt8) (h : Heap) (Q : AV → Heap → Prop) : Prop :=
 ∃ (I5 : List AV → Heap → Prop) (m6 : List AV → Heap → Nat), I5 [.int .i64 0, .int .i64 0] h ∧
 ∀ n3 n4 : Int, ∀ h7 : Heap, I5 [.int .i64 n3, .int .i64 n4] h7 →
 vPtr p1 fun p8 =>
 ∃ q9 : Option SL, cellsAt h7 ⟨p8.b, p8.o + 0⟩ 1 = some [.sl q9] ∧
 vif (decide (n4 < (slLen q9 : Int)))
 (vPtr p1 fun p10 =>
 ∃ q11 : Option SL, cellsAt h7 ⟨p10.b, p10.o + 0⟩ 1 = some [.sl q11] ∧
 vIdx q11 n4 5 fun p12 =>
 ∃ b13 : Bool, cellsAt h7 ⟨p12.b, p12.o + 4⟩ 1 = some [.bool b13] ∧
 vif b13
 (vPtr p1 fun p14 =>
 ∃ q15 : Option SL, cellsAt h7 ⟨p14.b, p14.o + 0⟩ 1 = some [.sl q15] ∧
 vIdx q15 n4 5 fun p16 =>
 ∃ s17 : List UInt8, cellsAt h7 ⟨p16.b, p16.o + 0⟩ 1 = some [.str s17] ∧
 vif (s17 == s2)
 (vPtr p1 fun p18 =>
 ∃ q19 : Option SL, cellsAt h7 ⟨p18.b, p18.o + 0⟩ 1 = some [.sl q19] ∧
 vIdx q19 n4 5 fun p20 =>
 ∃ n21 : Int, cellsAt h7 ⟨p20.b, p20.o + 2⟩ 1 = some [.int .i64 n21] ∧
 vif (n21 == 0)
 (vPtr p1 fun p22 =>
 ∃ q23 : Option SL, cellsAt h7 ⟨p22.b, p22.o + 0⟩ 1 = some [.sl q23] ∧
 vIdx q23 n4 5 fun p24 =>
 PStore h7 p24 [.str [], .int .i64 0, .int .i64 0, .bool false, .bool false] fun h25 =>
 (True) ∧ I5 [.int .i64 (wrapK .i64 (n3 + 1)), .int .i64 (wrapK .i64 (n4 + 1))] h25 ∧ m6 [.int .i64 (wrapK .i64 (n3 + 1)), .int .i64 (wrapK .i64 (n4 + 1))] h25 < m6 [.int .i64 n3, .int .i64 n4] h7)
 ((True) ∧ I5 [.int .i64 n3, .int .i64 (wrapK .i64 (n4 + 1))] h7 ∧ m6 [.int .i64 n3, .int .i64 (wrapK .i64 (n4 + 1))] h7 < m6 [.int .i64 n3, .int .i64 n4] h7))
 ((True) ∧ I5 [.int .i64 n3, .int .i64 (wrapK .i64 (n4 + 1))] h7 ∧ m6 [.int .i64 n3, .int .i64 (wrapK .i64 (n4 + 1))] h7 < m6 [.int .i64 n3, .int .i64 n4] h7))
 ((True) ∧ I5 [.int .i64 n3, .int .i64 (wrapK .i64 (n4 + 1))] h7 ∧ m6 [.int .i64 n3, .int .i64 (wrapK .i64 (n4 + 1))] h7 < m6 [.int .i64 n3, .int .i64 n4] h7))
 (Q (.int .i64 n3) h7)
theorem ac154 {p1 : Option PA} {s2 : List UInt8} {h : Heap} {Q : AV → Heap → Prop} (hk : vc154 p1 s2 h Q) : AC Tryz.prog 154 [.ptr p1, .str s2] h Q :=
 AC_by (H := hintsOf [] [(0, [5, 6], [])]) (by kernel_rfl) (by kernel_rfl) hk
def vc222 (p1 : Option PA) (h : Heap) (Q : AV → Heap → Prop) : Prop :=
 ∃ (I3 : List AV → Heap → Prop) (m4 : List AV → Heap → Nat), I3 [.int .i64 0] h ∧
 ∀ n2 : Int, ∀ h5 : Heap, I3 [.int .i64 n2] h5 →
 vPtr p1 fun p6 =>
 ∃ q7 : Option SL, cellsAt h5 ⟨p6.b, p6.o + 0⟩ 1 = some [.sl q7] ∧
 vif (decide (n2 < (slLen q7 : Int)))
 (vPtr p1 fun p8 =>
 ∃ q9 : Option SL, cellsAt h5 ⟨p8.b, p8.o + 0⟩ 1 = some [.sl q9] ∧
 vIdx q9 n2 5 fun p10 =>
 ∃ b11 : Bool, cellsAt h5 ⟨p10.b, p10.o + 4⟩ 1 = some [.bool b11] ∧
 vif (!b11)
 (Q (.int .i64 n2) h5)
 ((True) ∧ I3 [.int .i64 (wrapK .i64 (n2 + 1))] h5 ∧ m4 [.int .i64 (wrapK .i64 (n2 + 1))] h5 < m4 [.int .i64 n2] h5))
 (vPtr p1 fun p12 =>
 ∃ q13 : Option SL, cellsAt h5 ⟨p12.b, p12.o + 0⟩ 1 = some [.sl q13] ∧
 AC Tryz.prog 81 [.ptr p1] h5 fun v14 h15 => ∃ n16 : Int, v14 = .int .i64 n16 ∧
 (∃ q44 : Option SL, cellsAt h15 ⟨p12.b, p12.o + 0⟩ 1 = some [.sl q44] ∧
 LV.val (.sl q44) = LV.val (.sl q13)) ∧
 vif (n16 == (slLen q13 : Int))
 (Q (.int .i64 (-1)) h15)
 (∃ (I17 : List AV → Heap → Prop) (m18 : List AV → Heap → Nat), I17 [] h15 ∧
 ∀ h19 : Heap, I17 [] h19 →
 vPtr p1 fun p20 =>
 ∃ n21 : Int, cellsAt h19 ⟨p20.b, p20.o + 1⟩ 1 = some [.int .i64 n21] ∧
 vPtr p1 fun p22 =>
 ∃ n23 : Int, cellsAt h19 ⟨p22.b, p22.o + 1⟩ 1 = some [.int .i64 n23] ∧
 vPtr p1 fun p24 =>
 ∃ q25 : Option SL, cellsAt h19 ⟨p24.b, p24.o + 0⟩ 1 = some [.sl q25] ∧
 need (!((slLen q25 : Int) == 0))
 (vPtr p1 fun p26 =>
 PStore h19 ⟨p26.b, p26.o + 1⟩ [.int .i64 (Int.tmod (wrapK .i64 (n23 + 1)) (slLen q25 : Int))] fun h27 =>
 vPtr p1 fun p28 =>
 ∃ q29 : Option SL, cellsAt h27 ⟨p28.b, p28.o + 0⟩ 1 = some [.sl q29] ∧
 vIdx q29 n21 5 fun p30 =>
 ∃ n31 : Int, cellsAt h27 ⟨p30.b, p30.o + 2⟩ 1 = some [.int .i64 n31] ∧
 vif (decide (n31 > 0))
 ((True) ∧ I17 [] h27 ∧ m18 [] h27 < m18 [] h19)
 (vPtr p1 fun p32 =>
 ∃ q33 : Option SL, cellsAt h27 ⟨p32.b, p32.o + 0⟩ 1 = some [.sl q33] ∧
 vIdx q33 n21 5 fun p34 =>
 ∃ b35 : Bool, cellsAt h27 ⟨p34.b, p34.o + 3⟩ 1 = some [.bool b35] ∧
 vif b35
 (vPtr p1 fun p36 =>
 ∃ q37 : Option SL, cellsAt h27 ⟨p36.b, p36.o + 0⟩ 1 = some [.sl q37] ∧
 vIdx q37 n21 5 fun p38 =>
 PStore h27 ⟨p38.b, p38.o + 3⟩ [.bool false] fun h39 =>
 (True) ∧ I17 [] h39 ∧ m18 [] h39 < m18 [] h19)
 (vPtr p1 fun p40 =>
 ∃ n41 : Int, cellsAt h27 ⟨p40.b, (p40.o + 2) + 2⟩ 1 = some [.int .i64 n41] ∧
 vPtr p1 fun p42 =>
 PStore h27 ⟨p42.b, (p42.o + 2) + 2⟩ [.int .i64 (wrapK .i64 (n41 + 1))] fun h43 =>
 Q (.int .i64 n21) h43)))))
theorem ac222 {p1 : Option PA} {h : Heap} {Q : AV → Heap → Prop} (hk : vc222 p1 h Q) : AC Tryz.prog 222 [.ptr p1] h Q :=
 AC_by (H := hintsOf [] [(0, [3], []), (2, [], [])]) (by kernel_rfl) (by kernel_rfl) hk
def vc67  (h : Heap) (Q : AV → Heap → Prop) : Prop :=
 AC Tryz.prog 26 [.int .i64 1000] h fun v1 h2 => ∃ p3 : Option PA, ∃ n4 : Int, v1 = .tup [.ptr p3, .int .i64 n4] ∧
 vif (n4 != 0)
 (Q (.ptr none) h2)
 (vif (p3.isNone)
 (Q (.ptr none) h2)
 (PNew [.ptr p3, .sl none, .sl none] true h2 fun a5 h6 =>
 ∃ (I8 : List AV → Heap → Prop) (m9 : List AV → Heap → Nat), I8 [.int .i64 0] h6 ∧
 ∀ n7 : Int, ∀ h10 : Heap, I8 [.int .i64 n7] h10 →
 vif (decide (n7 < 3))
 (∃ (I13 : List AV → Heap → Prop) (m14 : List AV → Heap → Nat), I13 [.sl none, .int .i64 0] h10 ∧
 ∀ q11 : Option SL, ∀ n12 : Int, ∀ h15 : Heap, I13 [.sl q11, .int .i64 n12] h15 →
 vif (decide (n12 < (wrapK .i64 ((wrapK .i64 (10 * (wrapK .i64 ((wrapK .i64 ((wrapK .i64 (2 * n7)) * n7)) + 3)))) - 4))))
 (PNew [.int .i64 0, .int .i64 0, .int .i64 (Int.tmod n12 200), .int .i64 (wrapK .i64 (Int.tdiv n12 200))] true h15 fun a16 h17 =>
 PAppendS 4 32 q11 (some ⟨a16, 0, 1, 1, 0⟩) h17 fun q18 h19 =>
 (True) ∧ I13 [.sl q18, .int .i64 (wrapK .i64 (n12 + 1))] h19 ∧ m14 [.sl q18, .int .i64 (wrapK .i64 (n12 + 1))] h19 < m14 [.sl q11, .int .i64 n12] h15)
 (AC Tryz.prog 59 [.sl q11] h15 fun v20 h21 => ∃ q22 : Option SL, v20 = .sl q22 ∧
 AC Tryz.prog 72 [] h21 fun v23 h24 => ∃ q25 : Option SL, v23 = .sl q25 ∧
 vIdx q25 n7 1 fun p26 =>
 ∃ s27 : List UInt8, cellsAt h24 p26 1 = some [.str s27] ∧
 AC Tryz.prog 25 [.ptr p3, .str s27, .int .i64 (wrapK .i64 ((wrapK .i64 (100 * n7)) + 1)), .sl q22] h24 fun v28 h29 => ∃ n30 : Int, v28 = .int .i64 n30 ∧
 vif (n30 != 0)
 (Q (.ptr none) h29)
 (AC Tryz.prog 72 [] h29 fun v31 h32 => ∃ q33 : Option SL, v31 = .sl q33 ∧
 vIdx q33 n7 1 fun p34 =>
 ∃ s35 : List UInt8, cellsAt h32 p34 1 = some [.str s35] ∧
 AC Tryz.prog 18 [.ptr p3, .str s35, .int .i64 (wrapK .i64 ((wrapK .i64 (100 * n7)) + 1))] h32 fun v36 h37 => ∃ p38 : Option PA, ∃ n39 : Int, v36 = .tup [.ptr p38, .int .i64 n39] ∧
 vif (n39 != 0)
 (Q (.ptr none) h37)
 (vif (p38.isNone)
 (Q (.ptr none) h37)
 (∃ q40 : Option SL, cellsAt h37 ⟨a5, 1⟩ 1 = some [.sl q40] ∧
 PNew [.ptr p38] true h37 fun a41 h42 =>
 PAppendS 1 8 q40 (some ⟨a41, 0, 1, 1, 0⟩) h42 fun q43 h44 =>
 PStore h44 ⟨a5, 1⟩ [.sl q43] fun h45 =>
 ∃ q46 : Option SL, cellsAt h45 ⟨a5, 2⟩ 1 = some [.sl q46] ∧
 PNew [.sl q22] true h45 fun a47 h48 =>
 PAppendS 1 24 q46 (some ⟨a47, 0, 1, 1, 0⟩) h48 fun q49 h50 =>
 PStore h50 ⟨a5, 2⟩ [.sl q49] fun h51 =>
 (True) ∧ I8 [.int .i64 (wrapK .i64 (n7 + 1))] h51 ∧ m9 [.int .i64 (wrapK .i64 (n7 + 1))] h51 < m9 [.int .i64 n7] h10)))))
 (Q (.ptr (some ⟨a5, 0⟩)) h10)))
theorem ac67  {h : Heap} {Q : AV → Heap → Prop} (hk : vc67  h Q) : AC Tryz.prog 67 [] h Q :=
 AC_by (H := hintsOf [] [(0, [4], []), (2, [5, 6], [])]) (by kernel_rfl) (by kernel_rfl) hk
def vc68  (h : Heap) (Q : AV → Heap → Prop) : Prop :=
 AC Tryz.prog 67 [] h fun v1 h2 => ∃ p3 : Option PA, v1 = .ptr p3 ∧
 AC Tryz.prog 69 [.int .i64 2] h2 fun v4 h5 => ∃ p6 : Option PA, ∃ n7 : Int, v4 = .tup [.ptr p6, .int .i64 n7] ∧
 vif (p3.isNone)
 (Q (.bool false) h5)
 (vif (n7 != 0)
 (Q (.bool false) h5)
 (vif (p6.isNone)
 (Q (.bool false) h5)
 (vPtr p3 fun p8 =>
 ∃ q9 : Option SL, cellsAt h5 ⟨p8.b, p8.o + 1⟩ 1 = some [.sl q9] ∧
 vif ((slLen q9 : Int) != 3)
 (Q (.bool false) h5)
 (vPtr p3 fun p10 =>
 ∃ q11 : Option SL, cellsAt h5 ⟨p10.b, p10.o + 1⟩ 1 = some [.sl q11] ∧
 vIdx q11 0 1 fun p12 =>
 ∃ p13 : Option PA, cellsAt h5 p12 1 = some [.ptr p13] ∧
 AC Tryz.prog 70 [.ptr p6, .ptr p13, .int .i64 0] h5 fun v14 h15 => ∃ q16 : Option SL, ∃ n17 : Int, v14 = .tup [.sl q16, .int .i64 n17] ∧
 vPtr p3 fun p18 =>
 ∃ q19 : Option SL, cellsAt h15 ⟨p18.b, p18.o + 1⟩ 1 = some [.sl q19] ∧
 vIdx q19 0 1 fun p20 =>
 ∃ p21 : Option PA, cellsAt h15 p20 1 = some [.ptr p21] ∧
 AC Tryz.prog 70 [.ptr p6, .ptr p21, .int .i64 1] h15 fun v22 h23 => ∃ q24 : Option SL, ∃ n25 : Int, v22 = .tup [.sl q24, .int .i64 n25] ∧
 vPtr p3 fun p26 =>
 ∃ q27 : Option SL, cellsAt h23 ⟨p26.b, p26.o + 1⟩ 1 = some [.sl q27] ∧
 vIdx q27 1 1 fun p28 =>
 ∃ p29 : Option PA, cellsAt h23 p28 1 = some [.ptr p29] ∧
 AC Tryz.prog 70 [.ptr p6, .ptr p29, .int .i64 0] h23 fun v30 h31 => ∃ q32 : Option SL, ∃ n33 : Int, v30 = .tup [.sl q32, .int .i64 n33] ∧
 AC Tryz.prog 71 [.ptr p6, .str [97], .int .i64 0] h31 fun v34 h35 => ∃ n36 : Int, v34 = .int .i64 n36 ∧
 vPtr p3 fun p37 =>
 ∃ q38 : Option SL, cellsAt h35 ⟨p37.b, p37.o + 1⟩ 1 = some [.sl q38] ∧
 vIdx q38 1 1 fun p39 =>
 ∃ p40 : Option PA, cellsAt h35 p39 1 = some [.ptr p40] ∧
 AC Tryz.prog 70 [.ptr p6, .ptr p40, .int .i64 0] h35 fun v41 h42 => ∃ q43 : Option SL, ∃ n44 : Int, v41 = .tup [.sl q43, .int .i64 n44] ∧
 AC Tryz.prog 69 [.int .i64 (-1)] h42 fun v45 h46 => ∃ p47 : Option PA, ∃ n48 : Int, v45 = .tup [.ptr p47, .int .i64 n48] ∧
 vif (n17 == 0)
 (vif (decide ((slLen q16 : Int) > 0))
 (vif (n25 == 0)
 (vif (n33 == 90)
 (vif (n36 == 0)
 (vif (n44 == 0)
 (AC Tryz.prog 74 [.ptr p6, .str [97], .int .i64 0] h46 fun v49 h50 => ∃ b51 : Bool, v49 = .bool b51 ∧
 vif (!b51)
 (AC Tryz.prog 74 [.ptr p6, .str [98], .int .i64 0] h50 fun v52 h53 => ∃ b54 : Bool, v52 = .bool b54 ∧
 vif b54
 (AC Tryz.prog 75 [.ptr p6] h53 fun v55 h56 => ∃ n57 : Int, v55 = .int .i64 n57 ∧
 vif (n57 == 2)
 (AC Tryz.prog 76 [.ptr p6] h56 fun v58 h59 => ∃ n60 : Int, v58 = .int .i64 n60 ∧
 vif (n60 == 2)
 (AC Tryz.prog 77 [.ptr p6] h59 fun v61 h62 => ∃ n63 : Int, v61 = .int .i64 n63 ∧
 vif (n63 == 2)
 (AC Tryz.prog 78 [.ptr p6] h62 fun v64 h65 => ∃ n66 n67 n68 : Int, v64 = .agg [.int .i64 n66, .int .i64 n67, .int .i64 n68] ∧
 vif ((n66 == 0) && ((n67 == 3) && ((n68 == 1) && true)))
 (AC Tryz.prog 71 [.ptr p6, .str [97], .int .i64 0] h65 fun v69 h70 => ∃ n71 : Int, v69 = .int .i64 n71 ∧
 vif (n71 == 4)
 (AC Tryz.prog 73 [.ptr p6, .str [97]] h70 fun v72 h73 => ∃ n74 : Int, v72 = .int .i64 n74 ∧
 vif (n74 == 0)
 (Q (.bool (n48 == 1)) h73)
 (Q (.bool false) h73))
 (Q (.bool false) h70))
 (Q (.bool false) h65))
 (Q (.bool false) h62))
 (Q (.bool false) h59))
 (Q (.bool false) h56))
 (Q (.bool false) h53))
 (Q (.bool false) h50))
 (Q (.bool false) h46))
 (Q (.bool false) h46))
 (Q (.bool false) h46))
 (Q (.bool false) h46))
 (Q (.bool false) h46))
 (Q (.bool false) h46)))))
theorem ac68  {h : Heap} {Q : AV → Heap → Prop} (hk : vc68  h Q) : AC Tryz.prog 68 [] h Q :=
 AC_by (H := hintsOf [] []) (by kernel_rfl) (by kernel_rfl) hk
def vc69 (n1 : Int) (h : Heap) (Q : AV → Heap → Prop) : Prop :=
 vif (decide (n1 < 0))
 (Q (.tup [.ptr none, .int .i64 1]) h)
 (vif (decide (n1 > 1024))
 (Q (.tup [.ptr none, .int .i64 1]) h)
 (PMake [.str [], .int .i64 0, .sl none, .int .i64 0, .bool false, .bool false] 64 n1 n1 h fun q2 h3 =>
 PNew [.sl q2, .map (some (List.length h3)), .int .i64 0, .int .i64 0, .int .i64 0, .int .i64 0] true (h3 ++ [.mp [] 0]) fun a4 h5 =>
 Q (.tup [.ptr (some ⟨a4, 0⟩), .int .i64 0]) h5))
theorem ac69 {n1 : Int} {h : Heap} {Q : AV → Heap → Prop} (hk : vc69 n1 h Q) : AC Tryz.prog 69 [.int .i64 n1] h Q :=
 AC_by (H := hintsOf [] []) (by kernel_rfl) (by kernel_rfl) hk
def vc70 (p1 : Option PA) (p2 : Option PA) (n3 : Int) (h : Heap) (Q : AV → Heap → Prop) : Prop :=
 AC Tryz.prog 144 [.ptr p1] h fun v4 h5 => ∃ b6 : Bool, v4 = .bool b6 ∧
 vif (!b6)
 (Q (.tup [.sl none, .int .i64 6]) h5)
 (AC Tryz.prog 20 [.ptr p2] h5 fun v7 h8 => ∃ s9 : List UInt8, v7 = .str s9 ∧
 AC Tryz.prog 145 [.ptr p1, .str s9, .int .i64 n3] h8 fun v10 h11 => ∃ p12 : Option PA, v10 = .ptr p12 ∧
 vif (!(p12.isNone))
 (vif (!(p2.isNone))
 (AC Tryz.prog 146 [.ptr p1, .ptr p12] h11 fun v13 h14 => ∃ q15 : Option SL, v13 = .sl q15 ∧
 Q (.tup [.sl q15, .int .i64 0]) h14)
 (AC Tryz.prog 16 [.ptr p2, .int .i64 n3] h11 fun v16 h17 => ∃ q18 : Option SL, ∃ n19 : Int, v16 = .tup [.sl q18, .int .i64 n19] ∧
 vif (n19 != 0)
 (Q (.tup [.sl none, .int .i64 n19]) h17)
 (AC Tryz.prog 147 [.ptr p1] h17 fun v20 h21 => ∃ n22 : Int, ∃ b23 : Bool, v20 = .tup [.int .i64 n22, .bool b23] ∧
 vif (!b23)
 (Q (.tup [.sl none, .int .i64 90]) h21)
 (AC Tryz.prog 20 [.ptr p2] h21 fun v24 h25 => ∃ s26 : List UInt8, v24 = .str s26 ∧
 vPtr p1 fun p27 =>
 ∃ q28 : Option SL, cellsAt h25 ⟨p27.b, p27.o + 0⟩ 1 = some [.sl q28] ∧
 vIdx q28 n22 6 fun p29 =>
 PStore h25 p29 [.str s26, .int .i64 n3, .sl q18, .int .i64 1, .bool true, .bool true] fun h30 =>
 vPtr p1 fun p31 =>
 ∃ m32 : Option Nat, cellsAt h30 ⟨p31.b, p31.o + 1⟩ 1 = some [.map m32] ∧
 vMap m32 fun a34 => PUpdate Tryz.prog 233 a34 (.agg [.str s26, .int .i64 n3]) (.int .i64 n22) h30 fun h33 =>
 vPtr p1 fun p35 =>
 ∃ n36 : Int, cellsAt h33 ⟨p35.b, (p35.o + 3) + 1⟩ 1 = some [.int .i64 n36] ∧
 vPtr p1 fun p37 =>
 PStore h33 ⟨p37.b, (p37.o + 3) + 1⟩ [.int .i64 (wrapK .i64 (n36 + 1))] fun h38 =>
 AC Tryz.prog 148 [.sl q18] h38 fun v39 h40 => ∃ q41 : Option SL, v39 = .sl q41 ∧
 Q (.tup [.sl q41, .int .i64 0]) h40))))
 (AC Tryz.prog 16 [.ptr p2, .int .i64 n3] h11 fun v42 h43 => ∃ q44 : Option SL, ∃ n45 : Int, v42 = .tup [.sl q44, .int .i64 n45] ∧
 vif (n45 != 0)
 (Q (.tup [.sl none, .int .i64 n45]) h43)
 (AC Tryz.prog 147 [.ptr p1] h43 fun v46 h47 => ∃ n48 : Int, ∃ b49 : Bool, v46 = .tup [.int .i64 n48, .bool b49] ∧
 vif (!b49)
 (Q (.tup [.sl none, .int .i64 90]) h47)
 (AC Tryz.prog 20 [.ptr p2] h47 fun v50 h51 => ∃ s52 : List UInt8, v50 = .str s52 ∧
 vPtr p1 fun p53 =>
 ∃ q54 : Option SL, cellsAt h51 ⟨p53.b, p53.o + 0⟩ 1 = some [.sl q54] ∧
 vIdx q54 n48 6 fun p55 =>
 PStore h51 p55 [.str s52, .int .i64 n3, .sl q44, .int .i64 1, .bool true, .bool true] fun h56 =>
 vPtr p1 fun p57 =>
 ∃ m58 : Option Nat, cellsAt h56 ⟨p57.b, p57.o + 1⟩ 1 = some [.map m58] ∧
 vMap m58 fun a60 => PUpdate Tryz.prog 233 a60 (.agg [.str s52, .int .i64 n3]) (.int .i64 n48) h56 fun h59 =>
 vPtr p1 fun p61 =>
 ∃ n62 : Int, cellsAt h59 ⟨p61.b, (p61.o + 3) + 1⟩ 1 = some [.int .i64 n62] ∧
 vPtr p1 fun p63 =>
 PStore h59 ⟨p63.b, (p63.o + 3) + 1⟩ [.int .i64 (wrapK .i64 (n62 + 1))] fun h64 =>
 AC Tryz.prog 148 [.sl q44] h64 fun v65 h66 => ∃ q67 : Option SL, v65 = .sl q67 ∧
 Q (.tup [.sl q67, .int .i64 0]) h66))))
theorem ac70 {p1 : Option PA} {p2 : Option PA} {n3 : Int} {h : Heap} {Q : AV → Heap → Prop} (hk : vc70 p1 p2 n3 h Q) : AC Tryz.prog 70 [.ptr p1, .ptr p2, .int .i64 n3] h Q :=
 AC_by (H := hintsOf [13] []) (by kernel_rfl) (by kernel_rfl) hk
def vc71 (p1 : Option PA) (s2 : List UInt8) (n3 : Int) (h : Heap) (Q : AV → Heap → Prop) : Prop :=
 AC Tryz.prog 144 [.ptr p1] h fun v4 h5 => ∃ b6 : Bool, v4 = .bool b6 ∧
 vif (!b6)
 (Q (.int .i64 6) h5)
 (AC Tryz.prog 145 [.ptr p1, .str s2, .int .i64 n3] h5 fun v7 h8 => ∃ p9 : Option PA, v7 = .ptr p9 ∧
 vif (p9.isNone)
 (Q (.int .i64 4) h8)
 (vPtr p9 fun p10 =>
 ∃ n11 : Int, cellsAt h8 ⟨p10.b, p10.o + 3⟩ 1 = some [.int .i64 n11] ∧
 vif (n11 == 0)
 (Q (.int .i64 4) h8)
 (vPtr p9 fun p12 =>
 ∃ n13 : Int, cellsAt h8 ⟨p12.b, p12.o + 3⟩ 1 = some [.int .i64 n13] ∧
 vPtr p9 fun p14 =>
 PStore h8 ⟨p14.b, p14.o + 3⟩ [.int .i64 (wrapK .i64 (n13 - 1))] fun h15 =>
 Q (.int .i64 0) h15)))
theorem ac71 {p1 : Option PA} {s2 : List UInt8} {n3 : Int} {h : Heap} {Q : AV → Heap → Prop} (hk : vc71 p1 s2 n3 h Q) : AC Tryz.prog 71 [.ptr p1, .str s2, .int .i64 n3] h Q :=
 AC_by (H := hintsOf [] []) (by kernel_rfl) (by kernel_rfl) hk
def vc72  (h : Heap) (Q : AV → Heap → Prop) : Prop :=
 PNew [.str [97], .str [98], .str [99]] true h fun a1 h2 =>
 Q (.sl (some ⟨a1, 0, 3, 3, 0⟩)) h2
theorem ac72  {h : Heap} {Q : AV → Heap → Prop} (hk : vc72  h Q) : AC Tryz.prog 72 [] h Q :=
 AC_by (H := hintsOf [] []) (by kernel_rfl) (by kernel_rfl) hk
def vc73 (p1 : Option PA) (s2 : List UInt8) (h : Heap) (Q : AV → Heap → Prop) : Prop :=
 AC Tryz.prog 144 [.ptr p1] h fun v3 h4 => ∃ b5 : Bool, v3 = .bool b5 ∧
 vif (!b5)
 (Q (.int .i64 0) h4)
 (vPtr p1 fun p6 =>
 ∃ q7 : Option SL, cellsAt h4 ⟨p6.b, p6.o + 0⟩ 1 = some [.sl q7] ∧
 ∃ (I10 : List AV → Heap → Prop) (m11 : List AV → Heap → Nat), I10 [.int .i64 0, .int .i64 0] h4 ∧
 ∀ n8 n9 : Int, ∀ h12 : Heap, I10 [.int .i64 n8, .int .i64 n9] h12 →
 vif (decide (n9 < (slLen q7 : Int)))
 (vPtr p1 fun p13 =>
 ∃ q14 : Option SL, cellsAt h12 ⟨p13.b, p13.o + 0⟩ 1 = some [.sl q14] ∧
 vIdx q14 n9 6 fun p15 =>
 ∃ b16 : Bool, cellsAt h12 ⟨p15.b, p15.o + 5⟩ 1 = some [.bool b16] ∧
 vif (!b16)
 ((True) ∧ I10 [.int .i64 n8, .int .i64 (wrapK .i64 (n9 + 1))] h12 ∧ m11 [.int .i64 n8, .int .i64 (wrapK .i64 (n9 + 1))] h12 < m11 [.int .i64 n8, .int .i64 n9] h12)
 (∃ s17 : List UInt8, cellsAt h12 ⟨p15.b, p15.o + 0 + 0⟩ 1 = some [.str s17] ∧
 vif (!(s17 == s2))
 ((True) ∧ I10 [.int .i64 n8, .int .i64 (wrapK .i64 (n9 + 1))] h12 ∧ m11 [.int .i64 n8, .int .i64 (wrapK .i64 (n9 + 1))] h12 < m11 [.int .i64 n8, .int .i64 n9] h12)
 (∃ n18 : Int, cellsAt h12 ⟨p15.b, p15.o + 3⟩ 1 = some [.int .i64 n18] ∧
 vif (decide (n18 > 0))
 ((True) ∧ I10 [.int .i64 n8, .int .i64 (wrapK .i64 (n9 + 1))] h12 ∧ m11 [.int .i64 n8, .int .i64 (wrapK .i64 (n9 + 1))] h12 < m11 [.int .i64 n8, .int .i64 n9] h12)
 (vPtr p1 fun p19 =>
 ∃ m20 : Option Nat, cellsAt h12 ⟨p19.b, p19.o + 1⟩ 1 = some [.map m20] ∧
 ∃ s21 : List UInt8, ∃ n22 : Int, cellsAt h12 ⟨p15.b, p15.o + 0⟩ 2 = some [.str s21, .int .i64 n22] ∧
 PDelete Tryz.prog 233 m20 (.agg [.str s21, .int .i64 n22]) h12 fun h23 =>
 PStore h23 p15 [.str [], .int .i64 0, .sl none, .int .i64 0, .bool false, .bool false] fun h24 =>
 (True) ∧ I10 [.int .i64 (wrapK .i64 (n8 + 1)), .int .i64 (wrapK .i64 (n9 + 1))] h24 ∧ m11 [.int .i64 (wrapK .i64 (n8 + 1)), .int .i64 (wrapK .i64 (n9 + 1))] h24 < m11 [.int .i64 n8, .int .i64 n9] h12))))
 (Q (.int .i64 n8) h12))
theorem ac73 {p1 : Option PA} {s2 : List UInt8} {h : Heap} {Q : AV → Heap → Prop} (hk : vc73 p1 s2 h Q) : AC Tryz.prog 73 [.ptr p1, .str s2] h Q :=
 AC_by (H := hintsOf [] [(0, [5, 16], [])]) (by kernel_rfl) (by kernel_rfl) hk
def vc74 (p1 : Option PA) (s2 : List UInt8) (n3 : Int) (h : Heap) (Q : AV → Heap → Prop) : Prop :=
 AC Tryz.prog 145 [.ptr p1, .str s2, .int .i64 n3] h fun v4 h5 => ∃ p6 : Option PA, v4 = .ptr p6 ∧
 Q (.bool (!(p6.isNone))) h5
theorem ac74 {p1 : Option PA} {s2 : List UInt8} {n3 : Int} {h : Heap} {Q : AV → Heap → Prop} (hk : vc74 p1 s2 n3 h Q) : AC Tryz.prog 74 [.ptr p1, .str s2, .int .i64 n3] h Q :=
 AC_by (H := hintsOf [] []) (by kernel_rfl) (by kernel_rfl) hk
def vc75 (p1 : Option PA) (h : Heap) (Q : AV → Heap → Prop) : Prop :=
 AC Tryz.prog 149 [.ptr p1, .func (.func 150) [] []] h fun v2 h3 => ∃ n4 : Int, v2 = .int .i64 n4 ∧
 Q (.int .i64 n4) h3
theorem ac75 {p1 : Option PA} {h : Heap} {Q : AV → Heap → Prop} (hk : vc75 p1 h Q) : AC Tryz.prog 75 [.ptr p1] h Q :=
 AC_by (H := hintsOf [] []) (by kernel_rfl) (by kernel_rfl) hk
def vc76 (p1 : Option PA) (h : Heap) (Q : AV → Heap → Prop) : Prop :=
 AC Tryz.prog 149 [.ptr p1, .func (.func 151) [] []] h fun v2 h3 => ∃ n4 : Int, v2 = .int .i64 n4 ∧
 Q (.int .i64 n4) h3
theorem ac76 {p1 : Option PA} {h : Heap} {Q : AV → Heap → Prop} (hk : vc76 p1 h Q) : AC Tryz.prog 76 [.ptr p1] h Q :=
 AC_by (H := hintsOf [] []) (by kernel_rfl) (by kernel_rfl) hk
def vc77 (p1 : Option PA) (h : Heap) (Q : AV → Heap → Prop) : Prop :=
 AC Tryz.prog 144 [.ptr p1] h fun v2 h3 => ∃ b4 : Bool, v2 = .bool b4 ∧
 vif (!b4)
 (Q (.int .i64 0) h3)
 (vPtr p1 fun p5 =>
 ∃ q6 : Option SL, cellsAt h3 ⟨p5.b, p5.o + 0⟩ 1 = some [.sl q6] ∧
 Q (.int .i64 (slLen q6 : Int)) h3)
theorem ac77 {p1 : Option PA} {h : Heap} {Q : AV → Heap → Prop} (hk : vc77 p1 h Q) : AC Tryz.prog 77 [.ptr p1] h Q :=
 AC_by (H := hintsOf [] []) (by kernel_rfl) (by kernel_rfl) hk
def vc78 (p1 : Option PA) (h : Heap) (Q : AV → Heap → Prop) : Prop :=
 AC Tryz.prog 144 [.ptr p1] h fun v2 h3 => ∃ b4 : Bool, v2 = .bool b4 ∧
 vif (!b4)
 (Q (.agg [.int .i64 0, .int .i64 0, .int .i64 0]) h3)
 (vPtr p1 fun p5 =>
 ∃ n6 n7 n8 : Int, cellsAt h3 ⟨p5.b, p5.o + 3⟩ 3 = some [.int .i64 n6, .int .i64 n7, .int .i64 n8] ∧
 Q (.agg [.int .i64 n6, .int .i64 n7, .int .i64 n8]) h3)
theorem ac78 {p1 : Option PA} {h : Heap} {Q : AV → Heap → Prop} (hk : vc78 p1 h Q) : AC Tryz.prog 78 [.ptr p1] h Q :=
 AC_by (H := hintsOf [2] []) (by kernel_rfl) (by kernel_rfl) hk
def vc144 (p1 : Option PA) (h : Heap) (Q : AV → Heap → Prop) : Prop :=
 vif (!(p1.isNone))
 (vPtr p1 fun p2 =>
 ∃ m3 : Option Nat, cellsAt h ⟨p2.b, p2.o + 1⟩ 1 = some [.map m3] ∧
 Q (.bool (!(m3.isNone))) h)
 (Q (.bool false) h)
theorem ac144 {p1 : Option PA} {h : Heap} {Q : AV → Heap → Prop} (hk : vc144 p1 h Q) : AC Tryz.prog 144 [.ptr p1] h Q :=
 AC_by (H := hintsOf [] []) (by kernel_rfl) (by kernel_rfl) hk
def vc145 (p1 : Option PA) (s2 : List UInt8) (n3 : Int) (h : Heap) (Q : AV → Heap → Prop) : Prop :=
 AC Tryz.prog 144 [.ptr p1] h fun v4 h5 => ∃ b6 : Bool, v4 = .bool b6 ∧
 vif (!b6)
 (Q (.ptr none) h5)
 (vPtr p1 fun p7 =>
 ∃ m8 : Option Nat, cellsAt h5 ⟨p7.b, p7.o + 1⟩ 1 = some [.map m8] ∧
 PLookup Tryz.prog 233 3 m8 (.agg [.str s2, .int .i64 n3]) true h5 fun v9 =>
 ∃ n10 : Int, ∃ b11 : Bool, v9 = .tup [.int .i64 n10, .bool b11] ∧
 vif (!b11)
 (Q (.ptr none) h5)
 (vPtr p1 fun p12 =>
 ∃ q13 : Option SL, cellsAt h5 ⟨p12.b, p12.o + 0⟩ 1 = some [.sl q13] ∧
 vIdx q13 n10 6 fun p14 =>
 Q (.ptr (some p14)) h5))
theorem ac145 {p1 : Option PA} {s2 : List UInt8} {n3 : Int} {h : Heap} {Q : AV → Heap → Prop} (hk : vc145 p1 s2 n3 h Q) : AC Tryz.prog 145 [.ptr p1, .str s2, .int .i64 n3] h Q :=
 AC_by (H := hintsOf [] []) (by kernel_rfl) (by kernel_rfl) hk
def vc146 (p1 : Option PA) (p2 : Option PA) (h : Heap) (Q : AV → Heap → Prop) : Prop :=
 vPtr p2 fun p3 =>
 ∃ n4 : Int, cellsAt h ⟨p3.b, p3.o + 3⟩ 1 = some [.int .i64 n4] ∧
 vPtr p2 fun p5 =>
 PStore h ⟨p5.b, p5.o + 3⟩ [.int .i64 (wrapK .i64 (n4 + 1))] fun h6 =>
 vPtr p2 fun p7 =>
 PStore h6 ⟨p7.b, p7.o + 4⟩ [.bool true] fun h8 =>
 vPtr p1 fun p9 =>
 ∃ n10 : Int, cellsAt h8 ⟨p9.b, p9.o + 3 + 0⟩ 1 = some [.int .i64 n10] ∧
 vPtr p1 fun p11 =>
 PStore h8 ⟨p11.b, p11.o + 3 + 0⟩ [.int .i64 (wrapK .i64 (n10 + 1))] fun h12 =>
 vPtr p2 fun p13 =>
 ∃ q14 : Option SL, cellsAt h12 ⟨p13.b, p13.o + 2⟩ 1 = some [.sl q14] ∧
 AC Tryz.prog 148 [.sl q14] h12 fun v15 h16 => ∃ q17 : Option SL, v15 = .sl q17 ∧
 Q (.sl q17) h16
theorem ac146 {p1 : Option PA} {p2 : Option PA} {h : Heap} {Q : AV → Heap → Prop} (hk : vc146 p1 p2 h Q) : AC Tryz.prog 146 [.ptr p1, .ptr p2] h Q :=
 AC_by (H := hintsOf [] []) (by kernel_rfl) (by kernel_rfl) hk
def vc147 (p1 : Option PA) (h : Heap) (Q : AV → Heap → Prop) : Prop :=
 vPtr p1 fun p2 =>
 ∃ q3 : Option SL, cellsAt h ⟨p2.b, p2.o + 0⟩ 1 = some [.sl q3] ∧
 AC Tryz.prog 220 [.sl q3, .func (.func 219) [] []] h fun v4 h5 => ∃ n6 : Int, v4 = .int .i64 n6 ∧
 vif (decide (n6 ≥ 0))
 (Q (.tup [.int .i64 n6, .bool true]) h5)
 (vPtr p1 fun p7 =>
 ∃ q8 : Option SL, cellsAt h5 ⟨p7.b, p7.o + 0⟩ 1 = some [.sl q8] ∧
 AC Tryz.prog 75 [.ptr p1] h5 fun v9 h10 => ∃ n11 : Int, v9 = .int .i64 n11 ∧
 (∃ q33 : Option SL, cellsAt h10 ⟨p7.b, p7.o + 0⟩ 1 = some [.sl q33] ∧
 LV.val (.sl q33) = LV.val (.sl q8)) ∧
 vif (n11 == (slLen q8 : Int))
 (Q (.tup [.int .i64 0, .bool false]) h10)
 (∃ (I12 : List AV → Heap → Prop) (m13 : List AV → Heap → Nat), I12 [] h10 ∧
 ∀ h14 : Heap, I12 [] h14 →
 AC Tryz.prog 221 [.ptr p1] h14 fun v15 h16 => ∃ n17 : Int, v15 = .int .i64 n17 ∧
 vPtr p1 fun p18 =>
 ∃ q19 : Option SL, cellsAt h16 ⟨p18.b, p18.o + 0⟩ 1 = some [.sl q19] ∧
 vIdx q19 n17 6 fun p20 =>
 ∃ n21 : Int, cellsAt h16 ⟨p20.b, p20.o + 3⟩ 1 = some [.int .i64 n21] ∧
 vif (decide (n21 > 0))
 ((True) ∧ I12 [] h16 ∧ m13 [] h16 < m13 [] h14)
 (∃ b22 : Bool, cellsAt h16 ⟨p20.b, p20.o + 4⟩ 1 = some [.bool b22] ∧
 vif b22
 (PStore h16 ⟨p20.b, p20.o + 4⟩ [.bool false] fun h23 =>
 (True) ∧ I12 [] h23 ∧ m13 [] h23 < m13 [] h14)
 (vPtr p1 fun p24 =>
 ∃ m25 : Option Nat, cellsAt h16 ⟨p24.b, p24.o + 1⟩ 1 = some [.map m25] ∧
 ∃ s26 : List UInt8, ∃ n27 : Int, cellsAt h16 ⟨p20.b, p20.o + 0⟩ 2 = some [.str s26, .int .i64 n27] ∧
 PDelete Tryz.prog 233 m25 (.agg [.str s26, .int .i64 n27]) h16 fun h28 =>
 vPtr p1 fun p29 =>
 ∃ n30 : Int, cellsAt h28 ⟨p29.b, (p29.o + 3) + 2⟩ 1 = some [.int .i64 n30] ∧
 vPtr p1 fun p31 =>
 PStore h28 ⟨p31.b, (p31.o + 3) + 2⟩ [.int .i64 (wrapK .i64 (n30 + 1))] fun h32 =>
 Q (.tup [.int .i64 n17, .bool true]) h32))))
theorem ac147 {p1 : Option PA} {h : Heap} {Q : AV → Heap → Prop} (hk : vc147 p1 h Q) : AC Tryz.prog 147 [.ptr p1] h Q :=
 AC_by (H := hintsOf [] [(0, [], [])]) (by kernel_rfl) (by kernel_rfl) hk
def vc148 (q1 : Option SL) (h : Heap) (Q : AV → Heap → Prop) : Prop :=
 vif (q1.isNone)
 (Q (.sl none) h)
 (PNew [] true h fun a2 h3 =>
 PAppendS 4 32 (some ⟨a2, 0, 0, 0, 0⟩) q1 h3 fun q4 h5 =>
 Q (.sl q4) h5)
theorem ac148 {q1 : Option SL} {h : Heap} {Q : AV → Heap → Prop} (hk : vc148 q1 h Q) : AC Tryz.prog 148 [.sl q1] h Q :=
 AC_by (H := hintsOf [] []) (by kernel_rfl) (by kernel_rfl) hk
def vc149h (p1 : Option PA) (h : Heap) (Q : AV → Heap → Prop) : Prop :=
 AC Tryz.prog 144 [.ptr p1] h fun v2 h3 => ∃ b4 : Bool, v2 = .bool b4 ∧
 vif (!b4)
 (Q (.int .i64 0) h3)
 (vPtr p1 fun p5 =>
 ∃ q6 : Option SL, cellsAt h3 ⟨p5.b, p5.o + 0⟩ 1 = some [.sl q6] ∧
 ∃ (I9 : List AV → Heap → Prop) (m10 : List AV → Heap → Nat), I9 [.int .i64 0, .int .i64 0] h3 ∧
 ∀ n7 n8 : Int, ∀ h11 : Heap, I9 [.int .i64 n7, .int .i64 n8] h11 →
 vif (decide (n8 < (slLen q6 : Int)))
 (vPtr p1 fun p12 =>
 ∃ q13 : Option SL, cellsAt h11 ⟨p12.b, p12.o + 0⟩ 1 = some [.sl q13] ∧
 vIdx q13 n8 6 fun p14 =>
 AC Tryz.prog 150 [.ptr (some p14)] h11 fun v15 h16 => ∃ b17 : Bool, v15 = .bool b17 ∧
 vif b17
 ((True) ∧ I9 [.int .i64 (wrapK .i64 (n7 + 1)), .int .i64 (wrapK .i64 (n8 + 1))] h16 ∧ m10 [.int .i64 (wrapK .i64 (n7 + 1)), .int .i64 (wrapK .i64 (n8 + 1))] h16 < m10 [.int .i64 n7, .int .i64 n8] h11)
 ((True) ∧ I9 [.int .i64 n7, .int .i64 (wrapK .i64 (n8 + 1))] h16 ∧ m10 [.int .i64 n7, .int .i64 (wrapK .i64 (n8 + 1))] h16 < m10 [.int .i64 n7, .int .i64 n8] h11))
 (Q (.int .i64 n7) h11))
theorem ac149h {p1 : Option PA} {h : Heap} {Q : AV → Heap → Prop} (hk : vc149h p1 h Q) : AC Tryz.prog 149 [.ptr p1, .func (.func 150) [] []] h Q :=
 AC_by (H := hintsOf [] [(0, [5, 15], [])]) (by kernel_rfl) (by kernel_rfl) hk
def vc149u (p1 : Option PA) (h : Heap) (Q : AV → Heap → Prop) : Prop :=
 AC Tryz.prog 144 [.ptr p1] h fun v2 h3 => ∃ b4 : Bool, v2 = .bool b4 ∧
 vif (!b4)
 (Q (.int .i64 0) h3)
 (vPtr p1 fun p5 =>
 ∃ q6 : Option SL, cellsAt h3 ⟨p5.b, p5.o + 0⟩ 1 = some [.sl q6] ∧
 ∃ (I9 : List AV → Heap → Prop) (m10 : List AV → Heap → Nat), I9 [.int .i64 0, .int .i64 0] h3 ∧
 ∀ n7 n8 : Int, ∀ h11 : Heap, I9 [.int .i64 n7, .int .i64 n8] h11 →
 vif (decide (n8 < (slLen q6 : Int)))
 (vPtr p1 fun p12 =>
 ∃ q13 : Option SL, cellsAt h11 ⟨p12.b, p12.o + 0⟩ 1 = some [.sl q13] ∧
 vIdx q13 n8 6 fun p14 =>
 AC Tryz.prog 151 [.ptr (some p14)] h11 fun v15 h16 => ∃ b17 : Bool, v15 = .bool b17 ∧
 vif b17
 ((True) ∧ I9 [.int .i64 (wrapK .i64 (n7 + 1)), .int .i64 (wrapK .i64 (n8 + 1))] h16 ∧ m10 [.int .i64 (wrapK .i64 (n7 + 1)), .int .i64 (wrapK .i64 (n8 + 1))] h16 < m10 [.int .i64 n7, .int .i64 n8] h11)
 ((True) ∧ I9 [.int .i64 n7, .int .i64 (wrapK .i64 (n8 + 1))] h16 ∧ m10 [.int .i64 n7, .int .i64 (wrapK .i64 (n8 + 1))] h16 < m10 [.int .i64 n7, .int .i64 n8] h11))
 (Q (.int .i64 n7) h11))
theorem ac149u {p1 : Option PA} {h : Heap} {Q : AV → Heap → Prop} (hk : vc149u p1 h Q) : AC Tryz.prog 149 [.ptr p1, .func (.func 151) [] []] h Q :=
 AC_by (H := hintsOf [] [(0, [5, 15], [])]) (by kernel_rfl) (by kernel_rfl) hk
def vc150 (p1 : Option PA) (h : Heap) (Q : AV → Heap → Prop) : Prop :=
 vPtr p1 fun p2 =>
 ∃ n3 : Int, cellsAt h ⟨p2.b, p2.o + 3⟩ 1 = some [.int .i64 n3] ∧
 Q (.bool (decide (n3 > 0))) h
theorem ac150 {p1 : Option PA} {h : Heap} {Q : AV → Heap → Prop} (hk : vc150 p1 h Q) : AC Tryz.prog 150 [.ptr p1] h Q :=
 AC_by (H := hintsOf [] []) (by kernel_rfl) (by kernel_rfl) hk
def vc151 (p1 : Option PA) (h : Heap) (Q : AV → Heap → Prop) : Prop :=
 vPtr p1 fun p2 =>
 ∃ b3 : Bool, cellsAt h ⟨p2.b, p2.o + 5⟩ 1 = some [.bool b3] ∧
 Q (.bool b3) h
theorem ac151 {p1 : Option PA} {h : Heap} {Q : AV → Heap → Prop} (hk : vc151 p1 h Q) : AC Tryz.prog 151 [.ptr p1] h Q :=
 AC_by (H := hintsOf [] []) (by kernel_rfl) (by kernel_rfl) hk
def vc219 (s1 : List UInt8) (n2 : Int) (q3 : Option SL) (n4 : Int) (b5 : Bool) (b6 : Bool) (h : Heap) (Q : AV → Heap → Prop) : Prop :=
 Q (.bool (!b6)) h
theorem ac219 {s1 : List UInt8} {n2 : Int} {q3 : Option SL} {n4 : Int} {b5 : Bool} {b6 : Bool} {h : Heap} {Q : AV → Heap → Prop} (hk : vc219 s1 n2 q3 n4 b5 b6 h Q) : AC Tryz.prog 219 [.agg [.str s1, .int .i64 n2, .sl q3, .int .i64 n4, .bool b5, .bool b6]] h Q :=
 AC_by (H := hintsOf [1] []) (by kernel_rfl) (by kernel_rfl) hk
def vc220 (q1 : Option SL) (h : Heap) (Q : AV → Heap → Prop) : Prop :=
 ∃ (I3 : List AV → Heap → Prop) (m4 : List AV → Heap → Nat), I3 [.int .i64 0] h ∧
 ∀ n2 : Int, ∀ h5 : Heap, I3 [.int .i64 n2] h5 →
 vif (decide (n2 < (slLen q1 : Int)))
 (vIdx q1 n2 6 fun p6 =>
 ∃ s7 : List UInt8, ∃ n8 : Int, ∃ q9 : Option SL, ∃ n10 : Int, ∃ b11 b12 : Bool, cellsAt h5 p6 6 = some [.str s7, .int .i64 n8, .sl q9, .int .i64 n10, .bool b11, .bool b12] ∧
 AC Tryz.prog 219 [.agg [.str s7, .int .i64 n8, .sl q9, .int .i64 n10, .bool b11, .bool b12]] h5 fun v13 h14 => ∃ b15 : Bool, v13 = .bool b15 ∧
 vif b15
 (Q (.int .i64 n2) h14)
 ((True) ∧ I3 [.int .i64 (wrapK .i64 (n2 + 1))] h14 ∧ m4 [.int .i64 (wrapK .i64 (n2 + 1))] h14 < m4 [.int .i64 n2] h5))
 (Q (.int .i64 (-1)) h5)
theorem ac220 {q1 : Option SL} {h : Heap} {Q : AV → Heap → Prop} (hk : vc220 q1 h Q) : AC Tryz.prog 220 [.sl q1, .func (.func 219) [] []] h Q :=
 AC_by (H := hintsOf [] [(0, [8], [])]) (by kernel_rfl) (by kernel_rfl) hk
def vc221 (p1 : Option PA) (h : Heap) (Q : AV → Heap → Prop) : Prop :=
 vPtr p1 fun p2 =>
 ∃ n3 : Int, cellsAt h ⟨p2.b, p2.o + 2⟩ 1 = some [.int .i64 n3] ∧
 vPtr p1 fun p4 =>
 ∃ n5 : Int, cellsAt h ⟨p4.b, p4.o + 2⟩ 1 = some [.int .i64 n5] ∧
 vPtr p1 fun p6 =>
 ∃ q7 : Option SL, cellsAt h ⟨p6.b, p6.o + 0⟩ 1 = some [.sl q7] ∧
 need (!((slLen q7 : Int) == 0))
 (vPtr p1 fun p8 =>
 PStore h ⟨p8.b, p8.o + 2⟩ [.int .i64 (Int.tmod (wrapK .i64 (n5 + 1)) (slLen q7 : Int))] fun h9 =>
 Q (.int .i64 n3) h9)
theorem ac221 {p1 : Option PA} {h : Heap} {Q : AV → Heap → Prop} (hk : vc221 p1 h Q) : AC Tryz.prog 221 [.ptr p1] h Q :=
 AC_by (H := hintsOf [] []) (by kernel_rfl) (by kernel_rfl) hk
end Go.Proofs
