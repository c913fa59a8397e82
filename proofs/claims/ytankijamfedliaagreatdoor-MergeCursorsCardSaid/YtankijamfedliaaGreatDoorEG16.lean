import Derived.Test.YtankijamfedliaaGreatDoorEG10
import Derived.Test.YtankijamfedliaaGreatDoorProg
import Derived.KernelRfl
namespace Go.Proofs
open Go.Ab
set_option maxRecDepth 100000
set_option linter.unusedVariables false
def vc11 (q1 : Option SL) (n2 : Int) (h : Heap) (Q : AV → Heap → Prop) : Prop :=
 AC Tryz.prog 37 [.int .i64 16384] h fun v3 h4 => ∃ p5 : Option PA, ∃ n6 : Int, v3 = .tup [.ptr p5, .int .i64 n6] ∧
 AC Tryz.prog 38 [.int .i64 n2] h4 fun v7 h8 => ∃ p9 : Option PA, ∃ n10 : Int, v7 = .tup [.ptr p9, .int .i64 n10] ∧
 AC Tryz.prog 39 [.sl q1] h8 fun v11 h12 => ∃ q13 : Option SL, v11 = .sl q13 ∧
 vif (n6 != 0)
 (Q (.ptr none) h12)
 (vif (n10 != 0)
 (Q (.ptr none) h12)
 (vif (p5.isNone)
 (Q (.ptr none) h12)
 (vif (p9.isNone)
 (Q (.ptr none) h12)
 (AC Tryz.prog 40 [.ptr p5, .str [115], .int .i64 7, .sl q13] h12 fun v14 h15 => ∃ n16 : Int, v14 = .int .i64 n16 ∧
 vif (n16 != 0)
 (Q (.ptr none) h15)
 (AC Tryz.prog 41 [.ptr p5, .str [115], .int .i64 7] h15 fun v17 h18 => ∃ p19 : Option PA, ∃ n20 : Int, v17 = .tup [.ptr p19, .int .i64 n20] ∧
 vif (n20 != 0)
 (Q (.ptr none) h18)
 (vif (p19.isNone)
 (Q (.ptr none) h18)
 (PNew [.ptr p5, .ptr p19, .ptr p9, .sl q13] true h18 fun a21 h22 =>
 Q (.ptr (some ⟨a21, 0⟩)) h22)))))))
theorem ac11 {q1 : Option SL} {n2 : Int} {h : Heap} {Q : AV → Heap → Prop} (hk : vc11 q1 n2 h Q) : AC Tryz.prog 11 [.sl q1, .int .i64 n2] h Q :=
 AC_by (H := hintsOf [] []) (by kernel_rfl) (by kernel_rfl) hk
def vc33 (q1 : Option SL) (n2 : Int) (n3 : Int) (n4 : Int) (n5 : Int) (h : Heap) (Q : AV → Heap → Prop) : Prop :=
 ∃ (I7 : List AV → Heap → Prop) (m8 : List AV → Heap → Nat), I7 [.int .i64 0] h ∧
 ∀ n6 : Int, ∀ h9 : Heap, I7 [.int .i64 n6] h9 →
 vif (decide (n6 < (slLen q1 : Int)))
 (vIdx q1 n6 4 fun p10 =>
 ∃ n11 n12 : Int, ∃ n13 n14 : Int, cellsAt h9 p10 4 = some [.int .i64 n11, .int .i64 n12, .int .i64 n13, .int .i64 n14] ∧
 AC Tryz.prog 42 [.agg [.int .i64 n11, .int .i64 n12, .int .i64 n13, .int .i64 n14], .agg [.int .i64 n2, .int .i64 n3, .int .i64 n4, .int .i64 n5]] h9 fun v15 h16 => ∃ n17 : Int, v15 = .int .i64 n17 ∧
 vif (decide (n17 ≥ 0))
 (PSlice 4 q1 n6 none none fun q18 =>
 Q (.sl q18) h16)
 (((some [.int .i64 n2, .int .i64 n3, .int .i64 n4, .int .i64 n5] : Option (List AV)) = some [.int .i64 n2, .int .i64 n3, .int .i64 n4, .int .i64 n5] ∧ True) ∧ I7 [.int .i64 (wrapK .i64 (n6 + 1))] h16 ∧ m8 [.int .i64 (wrapK .i64 (n6 + 1))] h16 < m8 [.int .i64 n6] h9))
 (Q (.sl none) h9)
theorem ac33 {q1 : Option SL} {n2 : Int} {n3 : Int} {n4 : Int} {n5 : Int} {h : Heap} {Q : AV → Heap → Prop} (hk : vc33 q1 n2 n3 n4 n5 h Q) : AC Tryz.prog 33 [.sl q1, .agg [.int .i64 n2, .int .i64 n3, .int .i64 n4, .int .i64 n5]] h Q :=
 AC_by (H := hintsOf [3] [(0, [5], [])]) (by kernel_rfl) (by kernel_rfl) hk
end Go.Proofs




namespace Go.Proofs
open Go.Ab
set_option maxRecDepth 100000
set_option linter.unusedVariables false
def vc26 (q1 : Option SL) (h : Heap) (Q : AV → Heap → Prop) : Prop :=
 ∃ (I4 : List AV → Heap → Prop) (m5 : List AV → Heap → Nat), I4 [.int .i64 0, .int .i64 0] h ∧
 ∀ n2 n3 : Int, ∀ h6 : Heap, I4 [.int .i64 n2, .int .i64 n3] h6 →
 vif (decide (n3 < (slLen q1 : Int)))
 (vif (decide (n3 < 70))
 (vIdx q1 n3 1 fun p7 =>
 ∃ q8 : Option SL, cellsAt h6 p7 1 = some [.sl q8] ∧
 vif (decide ((slLen q8 : Int) > 500))
 (Q (.bool true) h6)
 (vIdx q1 n3 1 fun p9 =>
 ∃ q10 : Option SL, cellsAt h6 p9 1 = some [.sl q10] ∧
 (True) ∧ I4 [.int .i64 (wrapK .i64 (n2 + (slLen q10 : Int))), .int .i64 (wrapK .i64 (n3 + 1))] h6 ∧ m5 [.int .i64 (wrapK .i64 (n2 + (slLen q10 : Int))), .int .i64 (wrapK .i64 (n3 + 1))] h6 < m5 [.int .i64 n2, .int .i64 n3] h6))
 (Q (.bool (decide (n2 > 1000))) h6))
 (Q (.bool (decide (n2 > 1000))) h6)
theorem ac26 {q1 : Option SL} {h : Heap} {Q : AV → Heap → Prop} (hk : vc26 q1 h Q) : AC Tryz.prog 26 [.sl q1] h Q :=
 AC_by (H := hintsOf [] [(0, [3, 4], [])]) (by kernel_rfl) (by kernel_rfl) hk
def vc27 (q1 : Option SL) (h : Heap) (Q : AV → Heap → Prop) : Prop :=
 vif (decide ((slLen q1 : Int) > 64))
 (Q (.int .i64 31) h)
 (∃ (I3 : List AV → Heap → Prop) (m4 : List AV → Heap → Nat), I3 [.int .i64 0] h ∧
 ∀ n2 : Int, ∀ h5 : Heap, I3 [.int .i64 n2] h5 →
 vif (decide (n2 < (slLen q1 : Int)))
 (vIdx q1 n2 1 fun p6 =>
 ∃ q7 : Option SL, cellsAt h5 p6 1 = some [.sl q7] ∧
 AC Tryz.prog 60 [.sl q7] h5 fun v8 h9 => ∃ b10 : Bool, v8 = .bool b10 ∧
 vif (!b10)
 (Q (.int .i64 1) h9)
 ((True) ∧ I3 [.int .i64 (wrapK .i64 (n2 + 1))] h9 ∧ m4 [.int .i64 (wrapK .i64 (n2 + 1))] h9 < m4 [.int .i64 n2] h5))
 (Q (.int .i64 0) h5))
theorem ac27 {q1 : Option SL} {h : Heap} {Q : AV → Heap → Prop} (hk : vc27 q1 h Q) : AC Tryz.prog 27 [.sl q1] h Q :=
 AC_by (H := hintsOf [] [(0, [3], [])]) (by kernel_rfl) (by kernel_rfl) hk
def vc30 (q1 : Option SL) (q2 : Option SL) (h : Heap) (Q : AV → Heap → Prop) : Prop :=
 AC Tryz.prog 67 [.sl q1, .sl q2] h fun v3 h4 => ∃ n5 : Int, v3 = .int .i64 n5 ∧
 vif (n5 != 0)
 (Q (.tup [.ptr none, .int .i64 n5]) h4)
 (PNew [.sl none, .sl none, .int .i64 0] true h4 fun a6 h7 =>
 ∃ (I9 : List AV → Heap → Prop) (m10 : List AV → Heap → Nat), I9 [.int .i64 0] h7 ∧
 ∀ n8 : Int, ∀ h11 : Heap, I9 [.int .i64 n8] h11 →
 vif (decide (n8 < (slLen q1 : Int)))
 (vIdx q1 n8 1 fun p12 =>
 ∃ q13 : Option SL, cellsAt h11 p12 1 = some [.sl q13] ∧
 PNew [] true h11 fun a14 h15 =>
 PAppendS 4 32 (some ⟨a14, 0, 0, 0, 0⟩) q13 h15 fun q16 h17 =>
 PNew [.sl q16] true h17 fun a18 h19 =>
 AC Tryz.prog 68 [.ptr (some ⟨a6, 0⟩), .iface 129 (.ptr (some ⟨a18, 0⟩))] h19 fun v20 h21 => v20 = .tup [] ∧
 (True) ∧ I9 [.int .i64 (wrapK .i64 (n8 + 1))] h21 ∧ m10 [.int .i64 (wrapK .i64 (n8 + 1))] h21 < m10 [.int .i64 n8] h11)
 (∃ (I23 : List AV → Heap → Prop) (m24 : List AV → Heap → Nat), I23 [.int .i64 0] h11 ∧
 ∀ n22 : Int, ∀ h25 : Heap, I23 [.int .i64 n22] h25 →
 vif (decide (n22 < (slLen q2 : Int)))
 (vIdx q2 n22 1 fun p26 =>
 ∃ p27 : Option PA, cellsAt h25 p26 1 = some [.ptr p27] ∧
 ∃ q28 : Option SL, cellsAt h25 ⟨a6, 1⟩ 1 = some [.sl q28] ∧
 PNew [.ptr p27] true h25 fun a29 h30 =>
 PAppendS 1 8 q28 (some ⟨a29, 0, 1, 1, 0⟩) h30 fun q31 h32 =>
 PStore h32 ⟨a6, 1⟩ [.sl q31] fun h33 =>
 AC Tryz.prog 68 [.ptr (some ⟨a6, 0⟩), .iface 39 (.ptr p27)] h33 fun v34 h35 => v34 = .tup [] ∧
 (True) ∧ I23 [.int .i64 (wrapK .i64 (n22 + 1))] h35 ∧ m24 [.int .i64 (wrapK .i64 (n22 + 1))] h35 < m24 [.int .i64 n22] h25)
 (AC Tryz.prog 69 [.iface 133 (.ptr (some ⟨a6, 0⟩))] h25 fun v36 h37 => v36 = .tup [] ∧
 Q (.tup [.ptr (some ⟨a6, 0⟩), .int .i64 0]) h37)))
theorem ac30 {q1 : Option SL} {q2 : Option SL} {h : Heap} {Q : AV → Heap → Prop} (hk : vc30 q1 q2 h Q) : AC Tryz.prog 30 [.sl q1, .sl q2] h Q :=
 AC_by (H := hintsOf [] [(0, [22], []), (2, [37], [])]) (by kernel_rfl) (by kernel_rfl) hk
def vc31 (p1 : Option PA) (h : Heap) (Q : AV → Heap → Prop) : Prop :=
 AC Tryz.prog 65 [.ptr p1, .func (.func 70) [] []] h fun v2 h3 => ∃ q4 : Option SL, ∃ n5 : Int, v2 = .tup [.sl q4, .int .i64 n5] ∧
 Q (.tup [.sl q4, .int .i64 n5]) h3
theorem ac31 {p1 : Option PA} {h : Heap} {Q : AV → Heap → Prop} (hk : vc31 p1 h Q) : AC Tryz.prog 31 [.ptr p1] h Q :=
 AC_by (H := hintsOf [] []) (by kernel_rfl) (by kernel_rfl) hk
def vc32 (q1 : Option SL) (h : Heap) (Q : AV → Heap → Prop) : Prop :=
 ∃ (I4 : List AV → Heap → Prop) (m5 : List AV → Heap → Nat), I4 [.sl none, .int .i64 0] h ∧
 ∀ q2 : Option SL, ∀ n3 : Int, ∀ h6 : Heap, I4 [.sl q2, .int .i64 n3] h6 →
 vif (decide (n3 < (slLen q1 : Int)))
 (vIdx q1 n3 1 fun p7 =>
 ∃ q8 : Option SL, cellsAt h6 p7 1 = some [.sl q8] ∧
 PAppendS 4 32 q2 q8 h6 fun q9 h10 =>
 (True) ∧ I4 [.sl q9, .int .i64 (wrapK .i64 (n3 + 1))] h10 ∧ m5 [.sl q9, .int .i64 (wrapK .i64 (n3 + 1))] h10 < m5 [.sl q2, .int .i64 n3] h6)
 (AC Tryz.prog 39 [.sl q2] h6 fun v11 h12 => ∃ q13 : Option SL, v11 = .sl q13 ∧
 Q (.sl q13) h12)
theorem ac32 {q1 : Option SL} {h : Heap} {Q : AV → Heap → Prop} (hk : vc32 q1 h Q) : AC Tryz.prog 32 [.sl q1] h Q :=
 AC_by (H := hintsOf [] [(0, [3, 4], [])]) (by kernel_rfl) (by kernel_rfl) hk
def vc64 (p1 : Option PA) (h : Heap) (Q : AV → Heap → Prop) : Prop :=
 vif (p1.isNone)
 (Q (.tup [.agg [.int .i64 0, .int .i64 0, .int .i64 0, .int .i64 0], .bool false]) h)
 (vPtr p1 fun p2 =>
 ∃ n3 : Int, cellsAt h ⟨p2.b, p2.o + 2⟩ 1 = some [.int .i64 n3] ∧
 vif (n3 != 0)
 (Q (.tup [.agg [.int .i64 0, .int .i64 0, .int .i64 0, .int .i64 0], .bool false]) h)
 (vPtr p1 fun p4 =>
 ∃ q5 : Option SL, cellsAt h ⟨p4.b, p4.o + 0⟩ 1 = some [.sl q5] ∧
 vif ((slLen q5 : Int) == 0)
 (Q (.tup [.agg [.int .i64 0, .int .i64 0, .int .i64 0, .int .i64 0], .bool false]) h)
 (vPtr p1 fun p6 =>
 ∃ q7 : Option SL, cellsAt h ⟨p6.b, p6.o + 0⟩ 1 = some [.sl q7] ∧
 vIdx q7 0 1 fun p8 =>
 ∃ p9 : Option PA, cellsAt h p8 1 = some [.ptr p9] ∧
 vPtr p9 fun p10 =>
 ∃ n11 n12 : Int, ∃ n13 n14 : Int, cellsAt h ⟨p10.b, p10.o + 0⟩ 4 = some [.int .i64 n11, .int .i64 n12, .int .i64 n13, .int .i64 n14] ∧
 Q (.tup [.agg [.int .i64 n11, .int .i64 n12, .int .i64 n13, .int .i64 n14], .bool true]) h)))
theorem ac64 {p1 : Option PA} {h : Heap} {Q : AV → Heap → Prop} (hk : vc64 p1 h Q) : AC Tryz.prog 64 [.ptr p1] h Q :=
 AC_by (H := hintsOf [2] []) (by kernel_rfl) (by kernel_rfl) hk
def vc65 (p1 : Option PA) (h : Heap) (Q : AV → Heap → Prop) : Prop :=
 vif (p1.isNone)
 (Q (.tup [.sl none, .int .i64 6]) h)
 (∃ (I3 : List AV → Heap → Prop) (m4 : List AV → Heap → Nat), I3 [.sl none] h ∧
 ∀ q2 : Option SL, ∀ h5 : Heap, I3 [.sl q2] h5 →
 AC Tryz.prog 64 [.ptr p1] h5 fun v6 h7 => ∃ n8 n9 : Int, ∃ n10 n11 : Int, ∃ b12 : Bool, v6 = .tup [.agg [.int .i64 n8, .int .i64 n9, .int .i64 n10, .int .i64 n11], .bool b12] ∧
 vif (!b12)
 (vPtr p1 fun p13 =>
 ∃ n14 : Int, cellsAt h7 ⟨p13.b, p13.o + 2⟩ 1 = some [.int .i64 n14] ∧
 vif (n14 != 0)
 (vPtr p1 fun p15 =>
 ∃ n16 : Int, cellsAt h7 ⟨p15.b, p15.o + 2⟩ 1 = some [.int .i64 n16] ∧
 (∃ n17 : Int, cellsAt h7 ⟨p15.b, p15.o + 2⟩ 1 = some [.int .i64 n17] ∧
 LV.val (.int .i64 n17) = LV.val (.int .i64 n16)) ∧
 Q (.tup [.sl none, .int .i64 n16]) h7)
 (Q (.tup [.sl q2, .int .i64 0]) h7))
 (AC Tryz.prog 70 [.agg [.int .i64 n8, .int .i64 n9, .int .i64 n10, .int .i64 n11]] h7 fun v18 h19 => ∃ b20 : Bool, v18 = .bool b20 ∧
 vif (!b20)
 (vPtr p1 fun p21 =>
 ∃ n22 : Int, cellsAt h19 ⟨p21.b, p21.o + 2⟩ 1 = some [.int .i64 n22] ∧
 vif (n22 != 0)
 (vPtr p1 fun p23 =>
 ∃ n24 : Int, cellsAt h19 ⟨p23.b, p23.o + 2⟩ 1 = some [.int .i64 n24] ∧
 (∃ n25 : Int, cellsAt h19 ⟨p23.b, p23.o + 2⟩ 1 = some [.int .i64 n25] ∧
 LV.val (.int .i64 n25) = LV.val (.int .i64 n24)) ∧
 Q (.tup [.sl none, .int .i64 n24]) h19)
 (Q (.tup [.sl q2, .int .i64 0]) h19))
 (PNew [.int .i64 n8, .int .i64 n9, .int .i64 n10, .int .i64 n11] true h19 fun a26 h27 =>
 PAppendS 4 32 q2 (some ⟨a26, 0, 1, 1, 0⟩) h27 fun q28 h29 =>
 AC Tryz.prog 71 [.ptr p1] h29 fun v30 h31 => v30 = .tup [] ∧
 (True) ∧ I3 [.sl q28] h31 ∧ m4 [.sl q28] h31 < m4 [.sl q2] h5)))
theorem ac65 {p1 : Option PA} {h : Heap} {Q : AV → Heap → Prop} (hk : vc65 p1 h Q) : AC Tryz.prog 65 [.ptr p1, .func (.func 70) [] []] h Q :=
 AC_by (H := hintsOf [8] [(0, [6], [])]) (by kernel_rfl) (by kernel_rfl) hk
def vc67 (q1 : Option SL) (q2 : Option SL) (h : Heap) (Q : AV → Heap → Prop) : Prop :=
 vif (decide ((wrapK .i64 ((slLen q1 : Int) + (slLen q2 : Int))) > 64))
 (Q (.int .i64 31) h)
 (∃ (I4 : List AV → Heap → Prop) (m5 : List AV → Heap → Nat), I4 [.int .i64 0] h ∧
 ∀ n3 : Int, ∀ h6 : Heap, I4 [.int .i64 n3] h6 →
 vif (decide (n3 < (slLen q1 : Int)))
 (vIdx q1 n3 1 fun p7 =>
 ∃ q8 : Option SL, cellsAt h6 p7 1 = some [.sl q8] ∧
 AC Tryz.prog 74 [.sl q8] h6 fun v9 h10 => ∃ b11 : Bool, v9 = .bool b11 ∧
 vif (!b11)
 (Q (.int .i64 1) h10)
 ((True) ∧ I4 [.int .i64 (wrapK .i64 (n3 + 1))] h10 ∧ m5 [.int .i64 (wrapK .i64 (n3 + 1))] h10 < m5 [.int .i64 n3] h6))
 (∃ (I13 : List AV → Heap → Prop) (m14 : List AV → Heap → Nat), I13 [.int .i64 0] h6 ∧
 ∀ n12 : Int, ∀ h15 : Heap, I13 [.int .i64 n12] h15 →
 vif (decide (n12 < (slLen q2 : Int)))
 (vIdx q2 n12 1 fun p16 =>
 ∃ p17 : Option PA, cellsAt h15 p16 1 = some [.ptr p17] ∧
 vif (p17.isNone)
 (Q (.int .i64 6) h15)
 ((True) ∧ I13 [.int .i64 (wrapK .i64 (n12 + 1))] h15 ∧ m14 [.int .i64 (wrapK .i64 (n12 + 1))] h15 < m14 [.int .i64 n12] h15))
 (Q (.int .i64 0) h15)))
theorem ac67 {q1 : Option SL} {q2 : Option SL} {h : Heap} {Q : AV → Heap → Prop} (hk : vc67 q1 q2 h Q) : AC Tryz.prog 67 [.sl q1, .sl q2] h Q :=
 AC_by (H := hintsOf [] [(0, [17], []), (2, [27], [])]) (by kernel_rfl) (by kernel_rfl) hk
def vc68 (p1 : Option PA) (p2 : PA) (h : Heap) (Q : AV → Heap → Prop) : Prop :=
 AC Tryz.prog 206 [.ptr (some p2)] h fun v3 h4 => ∃ n5 n6 : Int, ∃ n7 n8 : Int, ∃ b9 : Bool, v3 = .tup [.agg [.int .i64 n5, .int .i64 n6, .int .i64 n7, .int .i64 n8], .bool b9] ∧
 vif b9
 (vPtr p1 fun p10 =>
 ∃ q11 : Option SL, cellsAt h4 ⟨p10.b, p10.o + 0⟩ 1 = some [.sl q11] ∧
 PNew [.int .i64 n5, .int .i64 n6, .int .i64 n7, .int .i64 n8, .iface 129 (.ptr (some p2)), .func (.method "Next") [.iface 129 (.ptr (some p2))] []] true h4 fun a12 h13 =>
 (∃ q21 : Option SL, cellsAt h13 ⟨p10.b, p10.o + 0⟩ 1 = some [.sl q21] ∧
 LV.val (.sl q21) = LV.val (.sl q11)) ∧
 PNew [.ptr (some ⟨a12, 0⟩)] true h13 fun a14 h15 =>
 (∃ q20 : Option SL, cellsAt h15 ⟨p10.b, p10.o + 0⟩ 1 = some [.sl q20] ∧
 LV.val (.sl q20) = LV.val (.sl q11)) ∧
 PAppendS 1 8 q11 (some ⟨a14, 0, 1, 1, 0⟩) h15 fun q16 h17 =>
 vPtr p1 fun p18 =>
 PStore h17 ⟨p18.b, p18.o + 0⟩ [.sl q16] fun h19 =>
 Q (.tup []) h19)
 (Q (.tup []) h4)
theorem ac68 {p1 : Option PA} {p2 : PA} {h : Heap} {Q : AV → Heap → Prop} (hk : vc68 p1 p2 h Q) : AC Tryz.prog 68 [.ptr p1, .iface 129 (.ptr (some p2))] h Q :=
 AC_by (H := hintsOf [4] []) (by kernel_rfl) (by kernel_rfl) hk
def vc68c (p1 : Option PA) (p2 : PA) (h : Heap) (Q : AV → Heap → Prop) : Prop :=
 AC Tryz.prog 14 [.ptr (some p2)] h fun v3 h4 => ∃ n5 n6 : Int, ∃ n7 n8 : Int, ∃ b9 : Bool, v3 = .tup [.agg [.int .i64 n5, .int .i64 n6, .int .i64 n7, .int .i64 n8], .bool b9] ∧
 vif b9
 (vPtr p1 fun p10 =>
 ∃ q11 : Option SL, cellsAt h4 ⟨p10.b, p10.o + 0⟩ 1 = some [.sl q11] ∧
 PNew [.int .i64 n5, .int .i64 n6, .int .i64 n7, .int .i64 n8, .iface 39 (.ptr (some p2)), .func (.method "Next") [.iface 39 (.ptr (some p2))] []] true h4 fun a12 h13 =>
 (∃ q21 : Option SL, cellsAt h13 ⟨p10.b, p10.o + 0⟩ 1 = some [.sl q21] ∧
 LV.val (.sl q21) = LV.val (.sl q11)) ∧
 PNew [.ptr (some ⟨a12, 0⟩)] true h13 fun a14 h15 =>
 (∃ q20 : Option SL, cellsAt h15 ⟨p10.b, p10.o + 0⟩ 1 = some [.sl q20] ∧
 LV.val (.sl q20) = LV.val (.sl q11)) ∧
 PAppendS 1 8 q11 (some ⟨a14, 0, 1, 1, 0⟩) h15 fun q16 h17 =>
 vPtr p1 fun p18 =>
 PStore h17 ⟨p18.b, p18.o + 0⟩ [.sl q16] fun h19 =>
 Q (.tup []) h19)
 (Q (.tup []) h4)
theorem ac68c {p1 : Option PA} {p2 : PA} {h : Heap} {Q : AV → Heap → Prop} (hk : vc68c p1 p2 h Q) : AC Tryz.prog 68 [.ptr p1, .iface 39 (.ptr (some p2))] h Q :=
 AC_by (H := hintsOf [4] []) (by kernel_rfl) (by kernel_rfl) hk
def vc69 (p1 : PA) (h : Heap) (Q : AV → Heap → Prop) : Prop :=
 ∃ q4 : Option SL, cellsAt h p1 1 = some [.sl q4] ∧
 AC Tryz.prog 202 [.sl q4] h fun v2 h3 => ∃ n5 : Int, v2 = .int .i64 n5 ∧
 ∃ (I7 : List AV → Heap → Prop) (m8 : List AV → Heap → Nat), I7 [.int .i64 (wrapK .i64 ((wrapK .i64 (Int.tdiv n5 2)) - 1))] h3 ∧
 ∀ n6 : Int, ∀ h9 : Heap, I7 [.int .i64 n6] h9 →
 vif (decide (n6 ≥ 0))
 (AC Tryz.prog 93 [.iface 133 (.ptr (some p1)), .int .i64 n6, .int .i64 n5] h9 fun v10 h11 => ∃ b12 : Bool, v10 = .bool b12 ∧
 (True) ∧ I7 [.int .i64 (wrapK .i64 (n6 - 1))] h11 ∧ m8 [.int .i64 (wrapK .i64 (n6 - 1))] h11 < m8 [.int .i64 n6] h9)
 (Q (.tup []) h9)
theorem ac69 {p1 : PA} {h : Heap} {Q : AV → Heap → Prop} (hk : vc69 p1 h Q) : AC Tryz.prog 69 [.iface 133 (.ptr (some p1))] h Q :=
 AC_by (H := hintsOf [] [(0, [3], [])]) (by kernel_rfl) (by kernel_rfl) hk
def vc70 (n1 : Int) (n2 : Int) (n3 : Int) (n4 : Int) (h : Heap) (Q : AV → Heap → Prop) : Prop :=
 Q (.bool true) h
theorem ac70 {n1 : Int} {n2 : Int} {n3 : Int} {n4 : Int} {h : Heap} {Q : AV → Heap → Prop} (hk : vc70 n1 n2 n3 n4 h Q) : AC Tryz.prog 70 [.agg [.int .i64 n1, .int .i64 n2, .int .i64 n3, .int .i64 n4]] h Q :=
 AC_by (H := hintsOf [1] []) (by kernel_rfl) (by kernel_rfl) hk
def vc71 (p1 : Option PA) (h : Heap) (Q : AV → Heap → Prop) : Prop :=
 vPtr p1 fun p2 =>
 ∃ q3 : Option SL, cellsAt h ⟨p2.b, p2.o + 0⟩ 1 = some [.sl q3] ∧
 vIdx q3 0 1 fun p4 =>
 ∃ p5 : Option PA, cellsAt h p4 1 = some [.ptr p5] ∧
 vPtr p5 fun p6 =>
 ∃ v7 : AV, v7.one = true ∧ cellsAt h ⟨p6.b, p6.o + 5⟩ 1 = some (AV.cells v7) ∧
 vCallF Tryz.prog (AC Tryz.prog) v7 [] h fun v8 h9 => ∃ n10 : Int, v8 = .int .i64 n10 ∧
 vPtr p1 fun p11 =>
 PStore h9 ⟨p11.b, p11.o + 2⟩ [.int .i64 n10] fun h12 =>
 vPtr p5 fun p13 =>
 ∃ v14 : AV, v14.one = true ∧ cellsAt h12 ⟨p13.b, p13.o + 4⟩ 1 = some (AV.cells v14) ∧
 vInvoke Tryz.prog (AC Tryz.prog) v14 "Peek" [] h12 fun v15 h16 => ∃ n17 n18 : Int, ∃ n19 n20 : Int, ∃ b21 : Bool, v15 = .tup [.agg [.int .i64 n17, .int .i64 n18, .int .i64 n19, .int .i64 n20], .bool b21] ∧
 vif (!b21)
 (vPtr p1 fun p22 =>
 AC Tryz.prog 94 [.iface 133 (.ptr (some ⟨p22.b, p22.o + 0⟩))] h16 fun v23 h24 => ∃ v25 : AV, v25.one = true ∧ v23 = v25 ∧
 Q (.tup []) h24)
 (vPtr p5 fun p26 =>
 PStore h16 ⟨p26.b, p26.o + 0⟩ [.int .i64 n17, .int .i64 n18, .int .i64 n19, .int .i64 n20] fun h27 =>
 vPtr p1 fun p28 =>
 AC Tryz.prog 95 [.iface 133 (.ptr (some ⟨p28.b, p28.o + 0⟩)), .int .i64 0] h27 fun v29 h30 => v29 = .tup [] ∧
 Q (.tup []) h30)
theorem ac71 {p1 : Option PA} {h : Heap} {Q : AV → Heap → Prop} (hk : vc71 p1 h Q) : AC Tryz.prog 71 [.ptr p1] h Q :=
 AC_by (H := hintsOf [3] []) (by kernel_rfl) (by kernel_rfl) hk
def vc93 (p1 : PA) (n2 : Int) (n3 : Int) (h : Heap) (Q : AV → Heap → Prop) : Prop :=
 ∃ (I5 : List AV → Heap → Prop) (m6 : List AV → Heap → Nat), I5 [.int .i64 n2] h ∧
 ∀ n4 : Int, ∀ h7 : Heap, I5 [.int .i64 n4] h7 →
 vif (decide ((wrapK .i64 ((wrapK .i64 (2 * n4)) + 1)) ≥ n3))
 (Q (.bool (decide (n4 > n2))) h7)
 (vif (decide ((wrapK .i64 ((wrapK .i64 (2 * n4)) + 1)) < 0))
 (Q (.bool (decide (n4 > n2))) h7)
 (vif (decide ((wrapK .i64 ((wrapK .i64 ((wrapK .i64 (2 * n4)) + 1)) + 1)) < n3))
 (∃ q10 : Option SL, cellsAt h7 p1 1 = some [.sl q10] ∧
 AC Tryz.prog 203 [.sl q10, .int .i64 (wrapK .i64 ((wrapK .i64 ((wrapK .i64 (2 * n4)) + 1)) + 1)), .int .i64 (wrapK .i64 ((wrapK .i64 (2 * n4)) + 1))] h7 fun v8 h9 => ∃ b11 : Bool, v8 = .bool b11 ∧
 vif b11
 (∃ q14 : Option SL, cellsAt h9 p1 1 = some [.sl q14] ∧
 AC Tryz.prog 203 [.sl q14, .int .i64 (wrapK .i64 ((wrapK .i64 ((wrapK .i64 (2 * n4)) + 1)) + 1)), .int .i64 n4] h9 fun v12 h13 => ∃ b15 : Bool, v12 = .bool b15 ∧
 vif (!b15)
 (Q (.bool (decide (n4 > n2))) h13)
 (∃ q18 : Option SL, cellsAt h13 p1 1 = some [.sl q18] ∧
 AC Tryz.prog 204 [.sl q18, .int .i64 n4, .int .i64 (wrapK .i64 ((wrapK .i64 ((wrapK .i64 (2 * n4)) + 1)) + 1))] h13 fun v16 h17 => v16 = .tup [] ∧
 (True) ∧ I5 [.int .i64 (wrapK .i64 ((wrapK .i64 ((wrapK .i64 (2 * n4)) + 1)) + 1))] h17 ∧ m6 [.int .i64 (wrapK .i64 ((wrapK .i64 ((wrapK .i64 (2 * n4)) + 1)) + 1))] h17 < m6 [.int .i64 n4] h7))
 (∃ q21 : Option SL, cellsAt h9 p1 1 = some [.sl q21] ∧
 AC Tryz.prog 203 [.sl q21, .int .i64 (wrapK .i64 ((wrapK .i64 (2 * n4)) + 1)), .int .i64 n4] h9 fun v19 h20 => ∃ b22 : Bool, v19 = .bool b22 ∧
 vif (!b22)
 (Q (.bool (decide (n4 > n2))) h20)
 (∃ q25 : Option SL, cellsAt h20 p1 1 = some [.sl q25] ∧
 AC Tryz.prog 204 [.sl q25, .int .i64 n4, .int .i64 (wrapK .i64 ((wrapK .i64 (2 * n4)) + 1))] h20 fun v23 h24 => v23 = .tup [] ∧
 (True) ∧ I5 [.int .i64 (wrapK .i64 ((wrapK .i64 (2 * n4)) + 1))] h24 ∧ m6 [.int .i64 (wrapK .i64 ((wrapK .i64 (2 * n4)) + 1))] h24 < m6 [.int .i64 n4] h7)))
 (∃ q28 : Option SL, cellsAt h7 p1 1 = some [.sl q28] ∧
 AC Tryz.prog 203 [.sl q28, .int .i64 (wrapK .i64 ((wrapK .i64 (2 * n4)) + 1)), .int .i64 n4] h7 fun v26 h27 => ∃ b29 : Bool, v26 = .bool b29 ∧
 vif (!b29)
 (Q (.bool (decide (n4 > n2))) h27)
 (∃ q32 : Option SL, cellsAt h27 p1 1 = some [.sl q32] ∧
 AC Tryz.prog 204 [.sl q32, .int .i64 n4, .int .i64 (wrapK .i64 ((wrapK .i64 (2 * n4)) + 1))] h27 fun v30 h31 => v30 = .tup [] ∧
 (True) ∧ I5 [.int .i64 (wrapK .i64 ((wrapK .i64 (2 * n4)) + 1))] h31 ∧ m6 [.int .i64 (wrapK .i64 ((wrapK .i64 (2 * n4)) + 1))] h31 < m6 [.int .i64 n4] h7))))
theorem ac93 {p1 : PA} {n2 : Int} {n3 : Int} {h : Heap} {Q : AV → Heap → Prop} (hk : vc93 p1 n2 n3 h Q) : AC Tryz.prog 93 [.iface 133 (.ptr (some p1)), .int .i64 n2, .int .i64 n3] h Q :=
 AC_by (H := hintsOf [] [(0, [7], [])]) (by kernel_rfl) (by kernel_rfl) hk
def vc94 (p1 : PA) (h : Heap) (Q : AV → Heap → Prop) : Prop :=
 ∃ q4 : Option SL, cellsAt h p1 1 = some [.sl q4] ∧
 AC Tryz.prog 202 [.sl q4] h fun v2 h3 => ∃ n5 : Int, v2 = .int .i64 n5 ∧
 ∃ q8 : Option SL, cellsAt h3 p1 1 = some [.sl q8] ∧
 AC Tryz.prog 204 [.sl q8, .int .i64 0, .int .i64 (wrapK .i64 (n5 - 1))] h3 fun v6 h7 => v6 = .tup [] ∧
 AC Tryz.prog 93 [.iface 133 (.ptr (some p1)), .int .i64 0, .int .i64 (wrapK .i64 (n5 - 1))] h7 fun v9 h10 => ∃ b11 : Bool, v9 = .bool b11 ∧
 AC Tryz.prog 207 [.ptr (some p1)] h10 fun v12 h13 => ∃ v14 : AV, v14.one = true ∧ v12 = v14 ∧
 Q (v14) h13
theorem ac94 {p1 : PA} {h : Heap} {Q : AV → Heap → Prop} (hk : vc94 p1 h Q) : AC Tryz.prog 94 [.iface 133 (.ptr (some p1))] h Q :=
 AC_by (H := hintsOf [] []) (by kernel_rfl) (by kernel_rfl) hk
def vc95 (p1 : PA) (n2 : Int) (h : Heap) (Q : AV → Heap → Prop) : Prop :=
 ∃ q5 : Option SL, cellsAt h p1 1 = some [.sl q5] ∧
 AC Tryz.prog 202 [.sl q5] h fun v3 h4 => ∃ n6 : Int, v3 = .int .i64 n6 ∧
 AC Tryz.prog 93 [.iface 133 (.ptr (some p1)), .int .i64 n2, .int .i64 n6] h4 fun v7 h8 => ∃ b9 : Bool, v7 = .bool b9 ∧
 vif (!b9)
 (AC Tryz.prog 117 [.iface 133 (.ptr (some p1)), .int .i64 n2] h8 fun v10 h11 => v10 = .tup [] ∧
 Q (.tup []) h11)
 (Q (.tup []) h8)
theorem ac95 {p1 : PA} {n2 : Int} {h : Heap} {Q : AV → Heap → Prop} (hk : vc95 p1 n2 h Q) : AC Tryz.prog 95 [.iface 133 (.ptr (some p1)), .int .i64 n2] h Q :=
 AC_by (H := hintsOf [] []) (by kernel_rfl) (by kernel_rfl) hk
def vc117 (p1 : PA) (n2 : Int) (h : Heap) (Q : AV → Heap → Prop) : Prop :=
 ∃ (I4 : List AV → Heap → Prop) (m5 : List AV → Heap → Nat), I4 [.int .i64 n2] h ∧
 ∀ n3 : Int, ∀ h6 : Heap, I4 [.int .i64 n3] h6 →
 vif ((wrapK .i64 (Int.tdiv (wrapK .i64 (n3 - 1)) 2)) == n3)
 (Q (.tup []) h6)
 (∃ q9 : Option SL, cellsAt h6 p1 1 = some [.sl q9] ∧
 AC Tryz.prog 203 [.sl q9, .int .i64 n3, .int .i64 (wrapK .i64 (Int.tdiv (wrapK .i64 (n3 - 1)) 2))] h6 fun v7 h8 => ∃ b10 : Bool, v7 = .bool b10 ∧
 vif (!b10)
 (Q (.tup []) h8)
 (∃ q13 : Option SL, cellsAt h8 p1 1 = some [.sl q13] ∧
 AC Tryz.prog 204 [.sl q13, .int .i64 (wrapK .i64 (Int.tdiv (wrapK .i64 (n3 - 1)) 2)), .int .i64 n3] h8 fun v11 h12 => v11 = .tup [] ∧
 (True) ∧ I4 [.int .i64 (wrapK .i64 (Int.tdiv (wrapK .i64 (n3 - 1)) 2))] h12 ∧ m5 [.int .i64 (wrapK .i64 (Int.tdiv (wrapK .i64 (n3 - 1)) 2))] h12 < m5 [.int .i64 n3] h6))
theorem ac117 {p1 : PA} {n2 : Int} {h : Heap} {Q : AV → Heap → Prop} (hk : vc117 p1 n2 h Q) : AC Tryz.prog 117 [.iface 133 (.ptr (some p1)), .int .i64 n2] h Q :=
 AC_by (H := hintsOf [] [(0, [1], [])]) (by kernel_rfl) (by kernel_rfl) hk
def vc202 (q1 : Option SL) (h : Heap) (Q : AV → Heap → Prop) : Prop :=
 Q (.int .i64 (slLen q1 : Int)) h
theorem ac202 {q1 : Option SL} {h : Heap} {Q : AV → Heap → Prop} (hk : vc202 q1 h Q) : AC Tryz.prog 202 [.sl q1] h Q :=
 AC_by (H := hintsOf [] []) (by kernel_rfl) (by kernel_rfl) hk
def vc203 (q1 : Option SL) (n2 : Int) (n3 : Int) (h : Heap) (Q : AV → Heap → Prop) : Prop :=
 vIdx q1 n2 1 fun p4 =>
 ∃ p5 : Option PA, cellsAt h p4 1 = some [.ptr p5] ∧
 vPtr p5 fun p6 =>
 ∃ n7 n8 : Int, ∃ n9 n10 : Int, cellsAt h ⟨p6.b, p6.o + 0⟩ 4 = some [.int .i64 n7, .int .i64 n8, .int .i64 n9, .int .i64 n10] ∧
 vIdx q1 n3 1 fun p11 =>
 ∃ p12 : Option PA, cellsAt h p11 1 = some [.ptr p12] ∧
 vPtr p12 fun p13 =>
 ∃ n14 n15 : Int, ∃ n16 n17 : Int, cellsAt h ⟨p13.b, p13.o + 0⟩ 4 = some [.int .i64 n14, .int .i64 n15, .int .i64 n16, .int .i64 n17] ∧
 AC Tryz.prog 47 [.agg [.int .i64 n7, .int .i64 n8, .int .i64 n9, .int .i64 n10], .agg [.int .i64 n14, .int .i64 n15, .int .i64 n16, .int .i64 n17]] h fun v18 h19 => ∃ n20 : Int, v18 = .int .i64 n20 ∧
 Q (.bool (decide (n20 < 0))) h19
theorem ac203 {q1 : Option SL} {n2 : Int} {n3 : Int} {h : Heap} {Q : AV → Heap → Prop} (hk : vc203 q1 n2 n3 h Q) : AC Tryz.prog 203 [.sl q1, .int .i64 n2, .int .i64 n3] h Q :=
 AC_by (H := hintsOf [] []) (by kernel_rfl) (by kernel_rfl) hk
def vc204 (q1 : Option SL) (n2 : Int) (n3 : Int) (h : Heap) (Q : AV → Heap → Prop) : Prop :=
 vIdx q1 n3 1 fun p4 =>
 ∃ p5 : Option PA, cellsAt h p4 1 = some [.ptr p5] ∧
 vIdx q1 n2 1 fun p6 =>
 ∃ p7 : Option PA, cellsAt h p6 1 = some [.ptr p7] ∧
 vIdx q1 n2 1 fun p8 =>
 PStore h p8 [.ptr p5] fun h9 =>
 vIdx q1 n3 1 fun p10 =>
 PStore h9 p10 [.ptr p7] fun h11 =>
 Q (.tup []) h11
theorem ac204 {q1 : Option SL} {n2 : Int} {n3 : Int} {h : Heap} {Q : AV → Heap → Prop} (hk : vc204 q1 n2 n3 h Q) : AC Tryz.prog 204 [.sl q1, .int .i64 n2, .int .i64 n3] h Q :=
 AC_by (H := hintsOf [] []) (by kernel_rfl) (by kernel_rfl) hk
def vc205 (p1 : Option PA) (h : Heap) (Q : AV → Heap → Prop) : Prop :=
 vPtr p1 fun p2 =>
 ∃ q3 : Option SL, cellsAt h ⟨p2.b, p2.o + 0⟩ 1 = some [.sl q3] ∧
 vif ((slLen q3 : Int) == 0)
 (Q (.int .i64 4) h)
 (vPtr p1 fun p4 =>
 ∃ q5 : Option SL, cellsAt h ⟨p4.b, p4.o + 0⟩ 1 = some [.sl q5] ∧
 PSlice 4 q5 1 none none fun q6 =>
 vPtr p1 fun p7 =>
 PStore h ⟨p7.b, p7.o + 0⟩ [.sl q6] fun h8 =>
 Q (.int .i64 0) h8)
theorem ac205 {p1 : Option PA} {h : Heap} {Q : AV → Heap → Prop} (hk : vc205 p1 h Q) : AC Tryz.prog 205 [.ptr p1] h Q :=
 AC_by (H := hintsOf [] []) (by kernel_rfl) (by kernel_rfl) hk
def vc206 (p1 : Option PA) (h : Heap) (Q : AV → Heap → Prop) : Prop :=
 vPtr p1 fun p2 =>
 ∃ q3 : Option SL, cellsAt h ⟨p2.b, p2.o + 0⟩ 1 = some [.sl q3] ∧
 vif ((slLen q3 : Int) == 0)
 (Q (.tup [.agg [.int .i64 0, .int .i64 0, .int .i64 0, .int .i64 0], .bool false]) h)
 (vPtr p1 fun p4 =>
 ∃ q5 : Option SL, cellsAt h ⟨p4.b, p4.o + 0⟩ 1 = some [.sl q5] ∧
 vIdx q5 0 4 fun p6 =>
 ∃ n7 n8 : Int, ∃ n9 n10 : Int, cellsAt h p6 4 = some [.int .i64 n7, .int .i64 n8, .int .i64 n9, .int .i64 n10] ∧
 Q (.tup [.agg [.int .i64 n7, .int .i64 n8, .int .i64 n9, .int .i64 n10], .bool true]) h)
theorem ac206 {p1 : Option PA} {h : Heap} {Q : AV → Heap → Prop} (hk : vc206 p1 h Q) : AC Tryz.prog 206 [.ptr p1] h Q :=
 AC_by (H := hintsOf [2] []) (by kernel_rfl) (by kernel_rfl) hk
def vc207 (p1 : Option PA) (h : Heap) (Q : AV → Heap → Prop) : Prop :=
 vPtr p1 fun p2 =>
 ∃ q3 : Option SL, cellsAt h p2 1 = some [.sl q3] ∧
 vPtr p1 fun p4 =>
 ∃ q5 : Option SL, cellsAt h p4 1 = some [.sl q5] ∧
 vIdx q5 (wrapK .i64 ((slLen q3 : Int) - 1)) 1 fun p6 =>
 ∃ p7 : Option PA, cellsAt h p6 1 = some [.ptr p7] ∧
 vPtr p1 fun p8 =>
 ∃ q9 : Option SL, cellsAt h p8 1 = some [.sl q9] ∧
 PSlice 1 q9 0 (some (wrapK .i64 ((slLen q3 : Int) - 1))) none fun q10 =>
 vPtr p1 fun p11 =>
 PStore h p11 [.sl q10] fun h12 =>
 Q (.iface 158 (.ptr p7)) h12
theorem ac207 {p1 : Option PA} {h : Heap} {Q : AV → Heap → Prop} (hk : vc207 p1 h Q) : AC Tryz.prog 207 [.ptr p1] h Q :=
 AC_by (H := hintsOf [] []) (by kernel_rfl) (by kernel_rfl) hk
def vc7 (q1 : Option SL) (q2 : Option SL) (n3 : Int) (n4 : Int) (n5 : Int) (n6 : Int) (n7 : Int) (n8 : Int) (n9 : Int) (n10 : Int) (h : Heap) (Q : AV → Heap → Prop) : Prop :=
 AC Tryz.prog 26 [.sl q1] h fun v11 h12 => ∃ b13 : Bool, v11 = .bool b13 ∧
 vif b13
 (AC Tryz.prog 29 [] h12 fun v14 h15 => ∃ b16 : Bool, v14 = .bool b16 ∧
 Q (.bool b16) h15)
 (vif (decide ((slLen q1 : Int) > 60))
 (AC Tryz.prog 29 [] h12 fun v17 h18 => ∃ b19 : Bool, v17 = .bool b19 ∧
 Q (.bool b19) h18)
 (AC Tryz.prog 27 [.sl q1] h12 fun v20 h21 => ∃ n22 : Int, v20 = .int .i64 n22 ∧
 vif (n22 != 0)
 (AC Tryz.prog 29 [] h21 fun v23 h24 => ∃ b25 : Bool, v23 = .bool b25 ∧
 Q (.bool b25) h24)
 (vif (decide ((slLen q2 : Int) > 300))
 (AC Tryz.prog 29 [] h21 fun v26 h27 => ∃ b28 : Bool, v26 = .bool b28 ∧
 Q (.bool b28) h27)
 (AC Tryz.prog 28 [.sl q2] h21 fun v29 h30 => ∃ n31 : Int, v29 = .int .i64 n31 ∧
 vif (n31 != 0)
 (AC Tryz.prog 29 [] h30 fun v32 h33 => ∃ b34 : Bool, v32 = .bool b34 ∧
 Q (.bool b34) h33)
 (AC Tryz.prog 11 [.sl q2, .int .i64 2] h30 fun v35 h36 => ∃ p37 : Option PA, v35 = .ptr p37 ∧
 AC Tryz.prog 29 [] h36 fun v38 h39 => ∃ b40 : Bool, v38 = .bool b40 ∧
 vif (!b40)
 (Q (.bool false) h39)
 (vif (p37.isNone)
 (Q (.bool false) h39)
 (vPtr p37 fun p41 =>
 ∃ p42 : Option PA, cellsAt h39 ⟨p41.b, p41.o + 2⟩ 1 = some [.ptr p42] ∧
 vPtr p37 fun p43 =>
 ∃ p44 : Option PA, cellsAt h39 ⟨p43.b, p43.o + 1⟩ 1 = some [.ptr p44] ∧
 AC Tryz.prog 13 [.ptr p42, .ptr p44, .agg [.int .i64 n3, .int .i64 n4, .int .i64 n5, .int .i64 n6]] h39 fun v45 h46 => ∃ p47 : Option PA, ∃ n48 : Int, v45 = .tup [.ptr p47, .int .i64 n48] ∧
 vPtr p37 fun p49 =>
 ∃ p50 : Option PA, cellsAt h46 ⟨p49.b, p49.o + 2⟩ 1 = some [.ptr p50] ∧
 vPtr p37 fun p51 =>
 ∃ p52 : Option PA, cellsAt h46 ⟨p51.b, p51.o + 1⟩ 1 = some [.ptr p52] ∧
 AC Tryz.prog 13 [.ptr p50, .ptr p52, .agg [.int .i64 n7, .int .i64 n8, .int .i64 n9, .int .i64 n10]] h46 fun v53 h54 => ∃ p55 : Option PA, ∃ n56 : Int, v53 = .tup [.ptr p55, .int .i64 n56] ∧
 vif (n48 != 0)
 (Q (.bool false) h54)
 (vif (n56 != 0)
 (Q (.bool false) h54)
 (PNew [.ptr p47, .ptr p55] true h54 fun a57 h58 =>
 AC Tryz.prog 30 [.sl q1, .sl (some ⟨a57, 0, 2, 2, 0⟩)] h58 fun v59 h60 => ∃ p61 : Option PA, ∃ n62 : Int, v59 = .tup [.ptr p61, .int .i64 n62] ∧
 vif (n62 != 0)
 (Q (.bool false) h60)
 (vif (p61.isNone)
 (Q (.bool false) h60)
 (AC Tryz.prog 31 [.ptr p61] h60 fun v63 h64 => ∃ q65 : Option SL, ∃ n66 : Int, v63 = .tup [.sl q65, .int .i64 n66] ∧
 vPtr p37 fun p67 =>
 ∃ q68 : Option SL, cellsAt h64 ⟨p67.b, p67.o + 3⟩ 1 = some [.sl q68] ∧
 vPtr p37 fun p69 =>
 ∃ q70 : Option SL, cellsAt h64 ⟨p69.b, p69.o + 3⟩ 1 = some [.sl q70] ∧
 PNew [] true h64 fun a71 h72 =>
 (LV.val (.agg [.int .i64 n7, .int .i64 n8, .int .i64 n9, .int .i64 n10]) = LV.val (.agg [.int .i64 n7, .int .i64 n8, .int .i64 n9, .int .i64 n10])) ∧
 (∃ q100 : Option SL, cellsAt h72 ⟨p69.b, p69.o + 3⟩ 1 = some [.sl q100] ∧
 LV.val (.sl q100) = LV.val (.sl q70)) ∧
 (LV.val (.agg [.int .i64 n3, .int .i64 n4, .int .i64 n5, .int .i64 n6]) = LV.val (.agg [.int .i64 n3, .int .i64 n4, .int .i64 n5, .int .i64 n6])) ∧
 (∃ q99 : Option SL, cellsAt h72 ⟨p67.b, p67.o + 3⟩ 1 = some [.sl q99] ∧
 LV.val (.sl q99) = LV.val (.sl q68)) ∧
 PAppendS 1 24 (some ⟨a71, 0, 0, 0, 0⟩) q1 h72 fun q73 h74 =>
 (LV.val (.agg [.int .i64 n7, .int .i64 n8, .int .i64 n9, .int .i64 n10]) = LV.val (.agg [.int .i64 n7, .int .i64 n8, .int .i64 n9, .int .i64 n10])) ∧
 (∃ q98 : Option SL, cellsAt h74 ⟨p69.b, p69.o + 3⟩ 1 = some [.sl q98] ∧
 LV.val (.sl q98) = LV.val (.sl q70)) ∧
 (LV.val (.agg [.int .i64 n3, .int .i64 n4, .int .i64 n5, .int .i64 n6]) = LV.val (.agg [.int .i64 n3, .int .i64 n4, .int .i64 n5, .int .i64 n6])) ∧
 (∃ q97 : Option SL, cellsAt h74 ⟨p67.b, p67.o + 3⟩ 1 = some [.sl q97] ∧
 LV.val (.sl q97) = LV.val (.sl q68)) ∧
 AC Tryz.prog 33 [.sl q68, .agg [.int .i64 n3, .int .i64 n4, .int .i64 n5, .int .i64 n6]] h74 fun v75 h76 => ∃ q77 : Option SL, v75 = .sl q77 ∧
 (LV.val (.agg [.int .i64 n7, .int .i64 n8, .int .i64 n9, .int .i64 n10]) = LV.val (.agg [.int .i64 n7, .int .i64 n8, .int .i64 n9, .int .i64 n10])) ∧
 (∃ q96 : Option SL, cellsAt h76 ⟨p69.b, p69.o + 3⟩ 1 = some [.sl q96] ∧
 LV.val (.sl q96) = LV.val (.sl q70)) ∧
 AC Tryz.prog 33 [.sl q70, .agg [.int .i64 n7, .int .i64 n8, .int .i64 n9, .int .i64 n10]] h76 fun v78 h79 => ∃ q80 : Option SL, v78 = .sl q80 ∧
 PNew [.sl q77, .sl q80] true h79 fun a81 h82 =>
 PAppendS 1 24 q73 (some ⟨a81, 0, 2, 2, 0⟩) h82 fun q83 h84 =>
 AC Tryz.prog 32 [.sl q83] h84 fun v85 h86 => ∃ q87 : Option SL, v85 = .sl q87 ∧
 vif (n66 == 0)
 (AC Tryz.prog 18 [.sl q65, .sl q87] h86 fun v88 h89 => ∃ b90 : Bool, v88 = .bool b90 ∧
 vif b90
 (vPtr p37 fun p91 =>
 ∃ p92 : Option PA, cellsAt h89 ⟨p91.b, p91.o + 2⟩ 1 = some [.ptr p92] ∧
 AC Tryz.prog 15 [.ptr p92] h89 fun v93 h94 => ∃ n95 : Int, v93 = .int .i64 n95 ∧
 Q (.bool (n95 == 0)) h94)
 (Q (.bool false) h89))
 (Q (.bool false) h86))))))))))))
theorem ac7 {q1 : Option SL} {q2 : Option SL} {n3 : Int} {n4 : Int} {n5 : Int} {n6 : Int} {n7 : Int} {n8 : Int} {n9 : Int} {n10 : Int} {h : Heap} {Q : AV → Heap → Prop} (hk : vc7 q1 q2 n3 n4 n5 n6 n7 n8 n9 n10 h Q) : AC Tryz.prog 7 [.sl q1, .sl q2, .agg [.int .i64 n3, .int .i64 n4, .int .i64 n5, .int .i64 n6], .agg [.int .i64 n7, .int .i64 n8, .int .i64 n9, .int .i64 n10]] h Q :=
 AC_by (H := hintsOf [6, 7] []) (by kernel_rfl) (by kernel_rfl) hk
end Go.Proofs
