import Derived.Test.YtankijamfedliaaGreatDoorFG10
import Derived.Test.YtankijamfedliaaGreatDoorProg
import Derived.KernelRfl
namespace Go.Proofs
open Go.Ab
set_option maxRecDepth 100000
set_option linter.unusedVariables false
def vc11 (q1 : Option SL) (n2 : Int) (h : Heap) (Q : AV → Heap → Prop) : Prop :=
 AC Tryz.prog 37 [.int .i64 16384] h fun v3 h4 => ∃ p5 : Option PA, ∃ n6 : Int, v3 = .tup [.ptr p5, .int .i64 n6] ∧
 AC Tryz.prog 38 [.int .i64 n2] h4 fun v7 h8 => ∃ p9 : Option PA, ∃ n10 : Int, v7 = .tup [.ptr p9, .int .i64 n10] ∧
 AC Tryz.prog 39 [.sl q1] h8 fun v11 h12 => ∃ q13 : Option SL, v11 = .sl q13 ∧
 vif (n6 != 0)
 (Q (.ptr none) h12)
 (vif (n10 != 0)
 (Q (.ptr none) h12)
 (vif (p5.isNone)
 (Q (.ptr none) h12)
 (vif (p9.isNone)
 (Q (.ptr none) h12)
 (AC Tryz.prog 40 [.ptr p5, .str [115], .int .i64 7, .sl q13] h12 fun v14 h15 => ∃ n16 : Int, v14 = .int .i64 n16 ∧
 vif (n16 != 0)
 (Q (.ptr none) h15)
 (AC Tryz.prog 41 [.ptr p5, .str [115], .int .i64 7] h15 fun v17 h18 => ∃ p19 : Option PA, ∃ n20 : Int, v17 = .tup [.ptr p19, .int .i64 n20] ∧
 vif (n20 != 0)
 (Q (.ptr none) h18)
 (vif (p19.isNone)
 (Q (.ptr none) h18)
 (PNew [.ptr p5, .ptr p19, .ptr p9, .sl q13] true h18 fun a21 h22 =>
 Q (.ptr (some ⟨a21, 0⟩)) h22)))))))
theorem ac11 {q1 : Option SL} {n2 : Int} {h : Heap} {Q : AV → Heap → Prop} (hk : vc11 q1 n2 h Q) : AC Tryz.prog 11 [.sl q1, .int .i64 n2] h Q :=
 AC_by (H := hintsOf [] []) (by kernel_rfl) (by kernel_rfl) hk
end Go.Proofs




namespace Go.Proofs
open Go.Ab
set_option maxRecDepth 100000
set_option linter.unusedVariables false
def vc26 (q1 : Option SL) (h : Heap) (Q : AV → Heap → Prop) : Prop :=
 ∃ (I4 : List AV → Heap → Prop) (m5 : List AV → Heap → Nat), I4 [.int .i64 0, .int .i64 0] h ∧
 ∀ n2 n3 : Int, ∀ h6 : Heap, I4 [.int .i64 n2, .int .i64 n3] h6 →
 vif (decide (n3 < (slLen q1 : Int)))
 (vif (decide (n3 < 70))
 (vIdx q1 n3 1 fun p7 =>
 ∃ q8 : Option SL, cellsAt h6 p7 1 = some [.sl q8] ∧
 vif (decide ((slLen q8 : Int) > 500))
 (Q (.bool true) h6)
 (vIdx q1 n3 1 fun p9 =>
 ∃ q10 : Option SL, cellsAt h6 p9 1 = some [.sl q10] ∧
 (True) ∧ I4 [.int .i64 (wrapK .i64 (n2 + (slLen q10 : Int))), .int .i64 (wrapK .i64 (n3 + 1))] h6 ∧ m5 [.int .i64 (wrapK .i64 (n2 + (slLen q10 : Int))), .int .i64 (wrapK .i64 (n3 + 1))] h6 < m5 [.int .i64 n2, .int .i64 n3] h6))
 (Q (.bool (decide (n2 > 1000))) h6))
 (Q (.bool (decide (n2 > 1000))) h6)
theorem ac26 {q1 : Option SL} {h : Heap} {Q : AV → Heap → Prop} (hk : vc26 q1 h Q) : AC Tryz.prog 26 [.sl q1] h Q :=
 AC_by (H := hintsOf [] [(0, [3, 4], [])]) (by kernel_rfl) (by kernel_rfl) hk
def vc27 (q1 : Option SL) (h : Heap) (Q : AV → Heap → Prop) : Prop :=
 vif (decide ((slLen q1 : Int) > 64))
 (Q (.int .i64 31) h)
 (∃ (I3 : List AV → Heap → Prop) (m4 : List AV → Heap → Nat), I3 [.int .i64 0] h ∧
 ∀ n2 : Int, ∀ h5 : Heap, I3 [.int .i64 n2] h5 →
 vif (decide (n2 < (slLen q1 : Int)))
 (vIdx q1 n2 1 fun p6 =>
 ∃ q7 : Option SL, cellsAt h5 p6 1 = some [.sl q7] ∧
 AC Tryz.prog 60 [.sl q7] h5 fun v8 h9 => ∃ b10 : Bool, v8 = .bool b10 ∧
 vif (!b10)
 (Q (.int .i64 1) h9)
 ((True) ∧ I3 [.int .i64 (wrapK .i64 (n2 + 1))] h9 ∧ m4 [.int .i64 (wrapK .i64 (n2 + 1))] h9 < m4 [.int .i64 n2] h5))
 (Q (.int .i64 0) h5))
theorem ac27 {q1 : Option SL} {h : Heap} {Q : AV → Heap → Prop} (hk : vc27 q1 h Q) : AC Tryz.prog 27 [.sl q1] h Q :=
 AC_by (H := hintsOf [] [(0, [3], [])]) (by kernel_rfl) (by kernel_rfl) hk
def vc30 (q1 : Option SL) (q2 : Option SL) (h : Heap) (Q : AV → Heap → Prop) : Prop :=
 AC Tryz.prog 67 [.sl q1, .sl q2] h fun v3 h4 => ∃ n5 : Int, v3 = .int .i64 n5 ∧
 vif (n5 != 0)
 (Q (.tup [.ptr none, .int .i64 n5]) h4)
 (PNew [.sl none, .sl none, .int .i64 0] true h4 fun a6 h7 =>
 ∃ (I9 : List AV → Heap → Prop) (m10 : List AV → Heap → Nat), I9 [.int .i64 0] h7 ∧
 ∀ n8 : Int, ∀ h11 : Heap, I9 [.int .i64 n8] h11 →
 vif (decide (n8 < (slLen q1 : Int)))
 (vIdx q1 n8 1 fun p12 =>
 ∃ q13 : Option SL, cellsAt h11 p12 1 = some [.sl q13] ∧
 PNew [] true h11 fun a14 h15 =>
 PAppendS 4 32 (some ⟨a14, 0, 0, 0, 0⟩) q13 h15 fun q16 h17 =>
 PNew [.sl q16] true h17 fun a18 h19 =>
 AC Tryz.prog 68 [.ptr (some ⟨a6, 0⟩), .iface 129 (.ptr (some ⟨a18, 0⟩))] h19 fun v20 h21 => v20 = .tup [] ∧
 (True) ∧ I9 [.int .i64 (wrapK .i64 (n8 + 1))] h21 ∧ m10 [.int .i64 (wrapK .i64 (n8 + 1))] h21 < m10 [.int .i64 n8] h11)
 (∃ (I23 : List AV → Heap → Prop) (m24 : List AV → Heap → Nat), I23 [.int .i64 0] h11 ∧
 ∀ n22 : Int, ∀ h25 : Heap, I23 [.int .i64 n22] h25 →
 vif (decide (n22 < (slLen q2 : Int)))
 (vIdx q2 n22 1 fun p26 =>
 ∃ p27 : Option PA, cellsAt h25 p26 1 = some [.ptr p27] ∧
 ∃ q28 : Option SL, cellsAt h25 ⟨a6, 1⟩ 1 = some [.sl q28] ∧
 PNew [.ptr p27] true h25 fun a29 h30 =>
 PAppendS 1 8 q28 (some ⟨a29, 0, 1, 1, 0⟩) h30 fun q31 h32 =>
 PStore h32 ⟨a6, 1⟩ [.sl q31] fun h33 =>
 AC Tryz.prog 68 [.ptr (some ⟨a6, 0⟩), .iface 39 (.ptr p27)] h33 fun v34 h35 => v34 = .tup [] ∧
 (True) ∧ I23 [.int .i64 (wrapK .i64 (n22 + 1))] h35 ∧ m24 [.int .i64 (wrapK .i64 (n22 + 1))] h35 < m24 [.int .i64 n22] h25)
 (AC Tryz.prog 69 [.iface 133 (.ptr (some ⟨a6, 0⟩))] h25 fun v36 h37 => v36 = .tup [] ∧
 Q (.tup [.ptr (some ⟨a6, 0⟩), .int .i64 0]) h37)))
theorem ac30 {q1 : Option SL} {q2 : Option SL} {h : Heap} {Q : AV → Heap → Prop} (hk : vc30 q1 q2 h Q) : AC Tryz.prog 30 [.sl q1, .sl q2] h Q :=
 AC_by (H := hintsOf [] [(0, [22], []), (2, [37], [])]) (by kernel_rfl) (by kernel_rfl) hk
def vc32 (q1 : Option SL) (h : Heap) (Q : AV → Heap → Prop) : Prop :=
 ∃ (I4 : List AV → Heap → Prop) (m5 : List AV → Heap → Nat), I4 [.sl none, .int .i64 0] h ∧
 ∀ q2 : Option SL, ∀ n3 : Int, ∀ h6 : Heap, I4 [.sl q2, .int .i64 n3] h6 →
 vif (decide (n3 < (slLen q1 : Int)))
 (vIdx q1 n3 1 fun p7 =>
 ∃ q8 : Option SL, cellsAt h6 p7 1 = some [.sl q8] ∧
 PAppendS 4 32 q2 q8 h6 fun q9 h10 =>
 (True) ∧ I4 [.sl q9, .int .i64 (wrapK .i64 (n3 + 1))] h10 ∧ m5 [.sl q9, .int .i64 (wrapK .i64 (n3 + 1))] h10 < m5 [.sl q2, .int .i64 n3] h6)
 (AC Tryz.prog 39 [.sl q2] h6 fun v11 h12 => ∃ q13 : Option SL, v11 = .sl q13 ∧
 Q (.sl q13) h12)
theorem ac32 {q1 : Option SL} {h : Heap} {Q : AV → Heap → Prop} (hk : vc32 q1 h Q) : AC Tryz.prog 32 [.sl q1] h Q :=
 AC_by (H := hintsOf [] [(0, [3, 4], [])]) (by kernel_rfl) (by kernel_rfl) hk
def vc34 (p1 : Option PA) (h : Heap) (Q : AV → Heap → Prop) : Prop :=
 vif (p1.isNone)
 (Q (.tup [.agg [.int .i64 0, .int .i64 0, .int .i64 0, .int .i64 0], .bool false, .int .i64 6]) h)
 (AC Tryz.prog 64 [.ptr p1] h fun v2 h3 => ∃ n4 n5 : Int, ∃ n6 n7 : Int, ∃ b8 : Bool, v2 = .tup [.agg [.int .i64 n4, .int .i64 n5, .int .i64 n6, .int .i64 n7], .bool b8] ∧
 vif (!b8)
 (vPtr p1 fun p9 =>
 ∃ n10 : Int, cellsAt h3 ⟨p9.b, p9.o + 2⟩ 1 = some [.int .i64 n10] ∧
 (∃ n12 : Int, cellsAt h3 ⟨p9.b, p9.o + 2⟩ 1 = some [.int .i64 n12] ∧
 LV.val (.int .i64 n12) = LV.val (.int .i64 n10)) ∧
 (∃ n11 : Int, cellsAt h3 ⟨p9.b, p9.o + 2⟩ 1 = some [.int .i64 n11] ∧
 LV.val (.int .i64 n11) = LV.val (.int .i64 n10)) ∧
 Q (.tup [.agg [.int .i64 0, .int .i64 0, .int .i64 0, .int .i64 0], .bool false, .int .i64 n10]) h3)
 (AC Tryz.prog 71 [.ptr p1] h3 fun v13 h14 => v13 = .tup [] ∧
 Q (.tup [.agg [.int .i64 n4, .int .i64 n5, .int .i64 n6, .int .i64 n7], .bool true, .int .i64 0]) h14))
theorem ac34 {p1 : Option PA} {h : Heap} {Q : AV → Heap → Prop} (hk : vc34 p1 h Q) : AC Tryz.prog 34 [.ptr p1] h Q :=
 AC_by (H := hintsOf [2, 5] []) (by kernel_rfl) (by kernel_rfl) hk
def vc35 (p1 : Option PA) (h : Heap) (Q : AV → Heap → Prop) : Prop :=
 vif (p1.isNone)
 (Q (.tup []) h)
 (vPtr p1 fun p2 =>
 ∃ q3 : Option SL, cellsAt h ⟨p2.b, p2.o + 1⟩ 1 = some [.sl q3] ∧
 ∃ (I5 : List AV → Heap → Prop) (m6 : List AV → Heap → Nat), I5 [.int .i64 0] h ∧
 ∀ n4 : Int, ∀ h7 : Heap, I5 [.int .i64 n4] h7 →
 vif (decide (n4 < (slLen q3 : Int)))
 (vIdx q3 n4 1 fun p8 =>
 ∃ p9 : Option PA, cellsAt h7 p8 1 = some [.ptr p9] ∧
 AC Tryz.prog 20 [.ptr p9] h7 fun v10 h11 => v10 = .tup [] ∧
 (True) ∧ I5 [.int .i64 (wrapK .i64 (n4 + 1))] h11 ∧ m6 [.int .i64 (wrapK .i64 (n4 + 1))] h11 < m6 [.int .i64 n4] h7)
 (vPtr p1 fun p12 =>
 PStore h7 ⟨p12.b, p12.o + 0⟩ [.sl none] fun h13 =>
 Q (.tup []) h13))
theorem ac35 {p1 : Option PA} {h : Heap} {Q : AV → Heap → Prop} (hk : vc35 p1 h Q) : AC Tryz.prog 35 [.ptr p1] h Q :=
 AC_by (H := hintsOf [] [(0, [11], [])]) (by kernel_rfl) (by kernel_rfl) hk
def vc36 (p1 : Option PA) (h : Heap) (Q : AV → Heap → Prop) : Prop :=
 vif (p1.isNone)
 (Q (.int .i64 0) h)
 (vPtr p1 fun p2 =>
 ∃ q3 : Option SL, cellsAt h ⟨p2.b, p2.o + 0⟩ 1 = some [.sl q3] ∧
 Q (.int .i64 (slLen q3 : Int)) h)
theorem ac36 {p1 : Option PA} {h : Heap} {Q : AV → Heap → Prop} (hk : vc36 p1 h Q) : AC Tryz.prog 36 [.ptr p1] h Q :=
 AC_by (H := hintsOf [] []) (by kernel_rfl) (by kernel_rfl) hk
def vc64 (p1 : Option PA) (h : Heap) (Q : AV → Heap → Prop) : Prop :=
 vif (p1.isNone)
 (Q (.tup [.agg [.int .i64 0, .int .i64 0, .int .i64 0, .int .i64 0], .bool false]) h)
 (vPtr p1 fun p2 =>
 ∃ n3 : Int, cellsAt h ⟨p2.b, p2.o + 2⟩ 1 = some [.int .i64 n3] ∧
 vif (n3 != 0)
 (Q (.tup [.agg [.int .i64 0, .int .i64 0, .int .i64 0, .int .i64 0], .bool false]) h)
 (vPtr p1 fun p4 =>
 ∃ q5 : Option SL, cellsAt h ⟨p4.b, p4.o + 0⟩ 1 = some [.sl q5] ∧
 vif ((slLen q5 : Int) == 0)
 (Q (.tup [.agg [.int .i64 0, .int .i64 0, .int .i64 0, .int .i64 0], .bool false]) h)
 (vPtr p1 fun p6 =>
 ∃ q7 : Option SL, cellsAt h ⟨p6.b, p6.o + 0⟩ 1 = some [.sl q7] ∧
 vIdx q7 0 1 fun p8 =>
 ∃ p9 : Option PA, cellsAt h p8 1 = some [.ptr p9] ∧
 vPtr p9 fun p10 =>
 ∃ n11 n12 : Int, ∃ n13 n14 : Int, cellsAt h ⟨p10.b, p10.o + 0⟩ 4 = some [.int .i64 n11, .int .i64 n12, .int .i64 n13, .int .i64 n14] ∧
 Q (.tup [.agg [.int .i64 n11, .int .i64 n12, .int .i64 n13, .int .i64 n14], .bool true]) h)))
theorem ac64 {p1 : Option PA} {h : Heap} {Q : AV → Heap → Prop} (hk : vc64 p1 h Q) : AC Tryz.prog 64 [.ptr p1] h Q :=
 AC_by (H := hintsOf [2] []) (by kernel_rfl) (by kernel_rfl) hk
def vc67 (q1 : Option SL) (q2 : Option SL) (h : Heap) (Q : AV → Heap → Prop) : Prop :=
 vif (decide ((wrapK .i64 ((slLen q1 : Int) + (slLen q2 : Int))) > 64))
 (Q (.int .i64 31) h)
 (∃ (I4 : List AV → Heap → Prop) (m5 : List AV → Heap → Nat), I4 [.int .i64 0] h ∧
 ∀ n3 : Int, ∀ h6 : Heap, I4 [.int .i64 n3] h6 →
 vif (decide (n3 < (slLen q1 : Int)))
 (vIdx q1 n3 1 fun p7 =>
 ∃ q8 : Option SL, cellsAt h6 p7 1 = some [.sl q8] ∧
 AC Tryz.prog 74 [.sl q8] h6 fun v9 h10 => ∃ b11 : Bool, v9 = .bool b11 ∧
 vif (!b11)
 (Q (.int .i64 1) h10)
 ((True) ∧ I4 [.int .i64 (wrapK .i64 (n3 + 1))] h10 ∧ m5 [.int .i64 (wrapK .i64 (n3 + 1))] h10 < m5 [.int .i64 n3] h6))
 (∃ (I13 : List AV → Heap → Prop) (m14 : List AV → Heap → Nat), I13 [.int .i64 0] h6 ∧
 ∀ n12 : Int, ∀ h15 : Heap, I13 [.int .i64 n12] h15 →
 vif (decide (n12 < (slLen q2 : Int)))
 (vIdx q2 n12 1 fun p16 =>
 ∃ p17 : Option PA, cellsAt h15 p16 1 = some [.ptr p17] ∧
 vif (p17.isNone)
 (Q (.int .i64 6) h15)
 ((True) ∧ I13 [.int .i64 (wrapK .i64 (n12 + 1))] h15 ∧ m14 [.int .i64 (wrapK .i64 (n12 + 1))] h15 < m14 [.int .i64 n12] h15))
 (Q (.int .i64 0) h15)))
theorem ac67 {q1 : Option SL} {q2 : Option SL} {h : Heap} {Q : AV → Heap → Prop} (hk : vc67 q1 q2 h Q) : AC Tryz.prog 67 [.sl q1, .sl q2] h Q :=
 AC_by (H := hintsOf [] [(0, [17], []), (2, [27], [])]) (by kernel_rfl) (by kernel_rfl) hk
def vc68 (p1 : Option PA) (p2 : PA) (h : Heap) (Q : AV → Heap → Prop) : Prop :=
 AC Tryz.prog 206 [.ptr (some p2)] h fun v3 h4 => ∃ n5 n6 : Int, ∃ n7 n8 : Int, ∃ b9 : Bool, v3 = .tup [.agg [.int .i64 n5, .int .i64 n6, .int .i64 n7, .int .i64 n8], .bool b9] ∧
 vif b9
 (vPtr p1 fun p10 =>
 ∃ q11 : Option SL, cellsAt h4 ⟨p10.b, p10.o + 0⟩ 1 = some [.sl q11] ∧
 PNew [.int .i64 n5, .int .i64 n6, .int .i64 n7, .int .i64 n8, .iface 129 (.ptr (some p2)), .func (.method "Next") [.iface 129 (.ptr (some p2))] []] true h4 fun a12 h13 =>
 (∃ q21 : Option SL, cellsAt h13 ⟨p10.b, p10.o + 0⟩ 1 = some [.sl q21] ∧
 LV.val (.sl q21) = LV.val (.sl q11)) ∧
 PNew [.ptr (some ⟨a12, 0⟩)] true h13 fun a14 h15 =>
 (∃ q20 : Option SL, cellsAt h15 ⟨p10.b, p10.o + 0⟩ 1 = some [.sl q20] ∧
 LV.val (.sl q20) = LV.val (.sl q11)) ∧
 PAppendS 1 8 q11 (some ⟨a14, 0, 1, 1, 0⟩) h15 fun q16 h17 =>
 vPtr p1 fun p18 =>
 PStore h17 ⟨p18.b, p18.o + 0⟩ [.sl q16] fun h19 =>
 Q (.tup []) h19)
 (Q (.tup []) h4)
theorem ac68 {p1 : Option PA} {p2 : PA} {h : Heap} {Q : AV → Heap → Prop} (hk : vc68 p1 p2 h Q) : AC Tryz.prog 68 [.ptr p1, .iface 129 (.ptr (some p2))] h Q :=
 AC_by (H := hintsOf [4] []) (by kernel_rfl) (by kernel_rfl) hk
def vc68c (p1 : Option PA) (p2 : PA) (h : Heap) (Q : AV → Heap → Prop) : Prop :=
 AC Tryz.prog 14 [.ptr (some p2)] h fun v3 h4 => ∃ n5 n6 : Int, ∃ n7 n8 : Int, ∃ b9 : Bool, v3 = .tup [.agg [.int .i64 n5, .int .i64 n6, .int .i64 n7, .int .i64 n8], .bool b9] ∧
 vif b9
 (vPtr p1 fun p10 =>
 ∃ q11 : Option SL, cellsAt h4 ⟨p10.b, p10.o + 0⟩ 1 = some [.sl q11] ∧
 PNew [.int .i64 n5, .int .i64 n6, .int .i64 n7, .int .i64 n8, .iface 39 (.ptr (some p2)), .func (.method "Next") [.iface 39 (.ptr (some p2))] []] true h4 fun a12 h13 =>
 (∃ q21 : Option SL, cellsAt h13 ⟨p10.b, p10.o + 0⟩ 1 = some [.sl q21] ∧
 LV.val (.sl q21) = LV.val (.sl q11)) ∧
 PNew [.ptr (some ⟨a12, 0⟩)] true h13 fun a14 h15 =>
 (∃ q20 : Option SL, cellsAt h15 ⟨p10.b, p10.o + 0⟩ 1 = some [.sl q20] ∧
 LV.val (.sl q20) = LV.val (.sl q11)) ∧
 PAppendS 1 8 q11 (some ⟨a14, 0, 1, 1, 0⟩) h15 fun q16 h17 =>
 vPtr p1 fun p18 =>
 PStore h17 ⟨p18.b, p18.o + 0⟩ [.sl q16] fun h19 =>
 Q (.tup []) h19)
 (Q (.tup []) h4)
theorem ac68c {p1 : Option PA} {p2 : PA} {h : Heap} {Q : AV → Heap → Prop} (hk : vc68c p1 p2 h Q) : AC Tryz.prog 68 [.ptr p1, .iface 39 (.ptr (some p2))] h Q :=
 AC_by (H := hintsOf [4] []) (by kernel_rfl) (by kernel_rfl) hk
def vc69 (p1 : PA) (h : Heap) (Q : AV → Heap → Prop) : Prop :=
 ∃ q4 : Option SL, cellsAt h p1 1 = some [.sl q4] ∧
 AC Tryz.prog 202 [.sl q4] h fun v2 h3 => ∃ n5 : Int, v2 = .int .i64 n5 ∧
 ∃ (I7 : List AV → Heap → Prop) (m8 : List AV → Heap → Nat), I7 [.int .i64 (wrapK .i64 ((wrapK .i64 (Int.tdiv n5 2)) - 1))] h3 ∧
 ∀ n6 : Int, ∀ h9 : Heap, I7 [.int .i64 n6] h9 →
 vif (decide (n6 ≥ 0))
 (AC Tryz.prog 93 [.iface 133 (.ptr (some p1)), .int .i64 n6, .int .i64 n5] h9 fun v10 h11 => ∃ b12 : Bool, v10 = .bool b12 ∧
 (True) ∧ I7 [.int .i64 (wrapK .i64 (n6 - 1))] h11 ∧ m8 [.int .i64 (wrapK .i64 (n6 - 1))] h11 < m8 [.int .i64 n6] h9)
 (Q (.tup []) h9)
theorem ac69 {p1 : PA} {h : Heap} {Q : AV → Heap → Prop} (hk : vc69 p1 h Q) : AC Tryz.prog 69 [.iface 133 (.ptr (some p1))] h Q :=
 AC_by (H := hintsOf [] [(0, [3], [])]) (by kernel_rfl) (by kernel_rfl) hk
def vc71 (p1 : Option PA) (h : Heap) (Q : AV → Heap → Prop) : Prop :=
 vPtr p1 fun p2 =>
 ∃ q3 : Option SL, cellsAt h ⟨p2.b, p2.o + 0⟩ 1 = some [.sl q3] ∧
 vIdx q3 0 1 fun p4 =>
 ∃ p5 : Option PA, cellsAt h p4 1 = some [.ptr p5] ∧
 vPtr p5 fun p6 =>
 ∃ v7 : AV, v7.one = true ∧ cellsAt h ⟨p6.b, p6.o + 5⟩ 1 = some (AV.cells v7) ∧
 vCallF Tryz.prog (AC Tryz.prog) v7 [] h fun v8 h9 => ∃ n10 : Int, v8 = .int .i64 n10 ∧
 vPtr p1 fun p11 =>
 PStore h9 ⟨p11.b, p11.o + 2⟩ [.int .i64 n10] fun h12 =>
 vPtr p5 fun p13 =>
 ∃ v14 : AV, v14.one = true ∧ cellsAt h12 ⟨p13.b, p13.o + 4⟩ 1 = some (AV.cells v14) ∧
 vInvoke Tryz.prog (AC Tryz.prog) v14 "Peek" [] h12 fun v15 h16 => ∃ n17 n18 : Int, ∃ n19 n20 : Int, ∃ b21 : Bool, v15 = .tup [.agg [.int .i64 n17, .int .i64 n18, .int .i64 n19, .int .i64 n20], .bool b21] ∧
 vif (!b21)
 (vPtr p1 fun p22 =>
 AC Tryz.prog 94 [.iface 133 (.ptr (some ⟨p22.b, p22.o + 0⟩))] h16 fun v23 h24 => ∃ v25 : AV, v25.one = true ∧ v23 = v25 ∧
 Q (.tup []) h24)
 (vPtr p5 fun p26 =>
 PStore h16 ⟨p26.b, p26.o + 0⟩ [.int .i64 n17, .int .i64 n18, .int .i64 n19, .int .i64 n20] fun h27 =>
 vPtr p1 fun p28 =>
 AC Tryz.prog 95 [.iface 133 (.ptr (some ⟨p28.b, p28.o + 0⟩)), .int .i64 0] h27 fun v29 h30 => v29 = .tup [] ∧
 Q (.tup []) h30)
theorem ac71 {p1 : Option PA} {h : Heap} {Q : AV → Heap → Prop} (hk : vc71 p1 h Q) : AC Tryz.prog 71 [.ptr p1] h Q :=
 AC_by (H := hintsOf [3] []) (by kernel_rfl) (by kernel_rfl) hk
def vc93 (p1 : PA) (n2 : Int) (n3 : Int) (h : Heap) (Q : AV → Heap → Prop) : Prop :=
 ∃ (I5 : List AV → Heap → Prop) (m6 : List AV → Heap → Nat), I5 [.int .i64 n2] h ∧
 ∀ n4 : Int, ∀ h7 : Heap, I5 [.int .i64 n4] h7 →
 vif (decide ((wrapK .i64 ((wrapK .i64 (2 * n4)) + 1)) ≥ n3))
 (Q (.bool (decide (n4 > n2))) h7)
 (vif (decide ((wrapK .i64 ((wrapK .i64 (2 * n4)) + 1)) < 0))
 (Q (.bool (decide (n4 > n2))) h7)
 (vif (decide ((wrapK .i64 ((wrapK .i64 ((wrapK .i64 (2 * n4)) + 1)) + 1)) < n3))
 (∃ q10 : Option SL, cellsAt h7 p1 1 = some [.sl q10] ∧
 AC Tryz.prog 203 [.sl q10, .int .i64 (wrapK .i64 ((wrapK .i64 ((wrapK .i64 (2 * n4)) + 1)) + 1)), .int .i64 (wrapK .i64 ((wrapK .i64 (2 * n4)) + 1))] h7 fun v8 h9 => ∃ b11 : Bool, v8 = .bool b11 ∧
 vif b11
 (∃ q14 : Option SL, cellsAt h9 p1 1 = some [.sl q14] ∧
 AC Tryz.prog 203 [.sl q14, .int .i64 (wrapK .i64 ((wrapK .i64 ((wrapK .i64 (2 * n4)) + 1)) + 1)), .int .i64 n4] h9 fun v12 h13 => ∃ b15 : Bool, v12 = .bool b15 ∧
 vif (!b15)
 (Q (.bool (decide (n4 > n2))) h13)
 (∃ q18 : Option SL, cellsAt h13 p1 1 = some [.sl q18] ∧
 AC Tryz.prog 204 [.sl q18, .int .i64 n4, .int .i64 (wrapK .i64 ((wrapK .i64 ((wrapK .i64 (2 * n4)) + 1)) + 1))] h13 fun v16 h17 => v16 = .tup [] ∧
 (True) ∧ I5 [.int .i64 (wrapK .i64 ((wrapK .i64 ((wrapK .i64 (2 * n4)) + 1)) + 1))] h17 ∧ m6 [.int .i64 (wrapK .i64 ((wrapK .i64 ((wrapK .i64 (2 * n4)) + 1)) + 1))] h17 < m6 [.int .i64 n4] h7))
 (∃ q21 : Option SL, cellsAt h9 p1 1 = some [.sl q21] ∧
 AC Tryz.prog 203 [.sl q21, .int .i64 (wrapK .i64 ((wrapK .i64 (2 * n4)) + 1)), .int .i64 n4] h9 fun v19 h20 => ∃ b22 : Bool, v19 = .bool b22 ∧
 vif (!b22)
 (Q (.bool (decide (n4 > n2))) h20)
 (∃ q25 : Option SL, cellsAt h20 p1 1 = some [.sl q25] ∧
 AC Tryz.prog 204 [.sl q25, .int .i64 n4, .int .i64 (wrapK .i64 ((wrapK .i64 (2 * n4)) + 1))] h20 fun v23 h24 => v23 = .tup [] ∧
 (True) ∧ I5 [.int .i64 (wrapK .i64 ((wrapK .i64 (2 * n4)) + 1))] h24 ∧ m6 [.int .i64 (wrapK .i64 ((wrapK .i64 (2 * n4)) + 1))] h24 < m6 [.int .i64 n4] h7)))
 (∃ q28 : Option SL, cellsAt h7 p1 1 = some [.sl q28] ∧
 AC Tryz.prog 203 [.sl q28, .int .i64 (wrapK .i64 ((wrapK .i64 (2 * n4)) + 1)), .int .i64 n4] h7 fun v26 h27 => ∃ b29 : Bool, v26 = .bool b29 ∧
 vif (!b29)
 (Q (.bool (decide (n4 > n2))) h27)
 (∃ q32 : Option SL, cellsAt h27 p1 1 = some [.sl q32] ∧
 AC Tryz.prog 204 [.sl q32, .int .i64 n4, .int .i64 (wrapK .i64 ((wrapK .i64 (2 * n4)) + 1))] h27 fun v30 h31 => v30 = .tup [] ∧
 (True) ∧ I5 [.int .i64 (wrapK .i64 ((wrapK .i64 (2 * n4)) + 1))] h31 ∧ m6 [.int .i64 (wrapK .i64 ((wrapK .i64 (2 * n4)) + 1))] h31 < m6 [.int .i64 n4] h7))))
theorem ac93 {p1 : PA} {n2 : Int} {n3 : Int} {h : Heap} {Q : AV → Heap → Prop} (hk : vc93 p1 n2 n3 h Q) : AC Tryz.prog 93 [.iface 133 (.ptr (some p1)), .int .i64 n2, .int .i64 n3] h Q :=
 AC_by (H := hintsOf [] [(0, [7], [])]) (by kernel_rfl) (by kernel_rfl) hk
def vc94 (p1 : PA) (h : Heap) (Q : AV → Heap → Prop) : Prop :=
 ∃ q4 : Option SL, cellsAt h p1 1 = some [.sl q4] ∧
 AC Tryz.prog 202 [.sl q4] h fun v2 h3 => ∃ n5 : Int, v2 = .int .i64 n5 ∧
 ∃ q8 : Option SL, cellsAt h3 p1 1 = some [.sl q8] ∧
 AC Tryz.prog 204 [.sl q8, .int .i64 0, .int .i64 (wrapK .i64 (n5 - 1))] h3 fun v6 h7 => v6 = .tup [] ∧
 AC Tryz.prog 93 [.iface 133 (.ptr (some p1)), .int .i64 0, .int .i64 (wrapK .i64 (n5 - 1))] h7 fun v9 h10 => ∃ b11 : Bool, v9 = .bool b11 ∧
 AC Tryz.prog 207 [.ptr (some p1)] h10 fun v12 h13 => ∃ v14 : AV, v14.one = true ∧ v12 = v14 ∧
 Q (v14) h13
theorem ac94 {p1 : PA} {h : Heap} {Q : AV → Heap → Prop} (hk : vc94 p1 h Q) : AC Tryz.prog 94 [.iface 133 (.ptr (some p1))] h Q :=
 AC_by (H := hintsOf [] []) (by kernel_rfl) (by kernel_rfl) hk
def vc95 (p1 : PA) (n2 : Int) (h : Heap) (Q : AV → Heap → Prop) : Prop :=
 ∃ q5 : Option SL, cellsAt h p1 1 = some [.sl q5] ∧
 AC Tryz.prog 202 [.sl q5] h fun v3 h4 => ∃ n6 : Int, v3 = .int .i64 n6 ∧
 AC Tryz.prog 93 [.iface 133 (.ptr (some p1)), .int .i64 n2, .int .i64 n6] h4 fun v7 h8 => ∃ b9 : Bool, v7 = .bool b9 ∧
 vif (!b9)
 (AC Tryz.prog 117 [.iface 133 (.ptr (some p1)), .int .i64 n2] h8 fun v10 h11 => v10 = .tup [] ∧
 Q (.tup []) h11)
 (Q (.tup []) h8)
theorem ac95 {p1 : PA} {n2 : Int} {h : Heap} {Q : AV → Heap → Prop} (hk : vc95 p1 n2 h Q) : AC Tryz.prog 95 [.iface 133 (.ptr (some p1)), .int .i64 n2] h Q :=
 AC_by (H := hintsOf [] []) (by kernel_rfl) (by kernel_rfl) hk
def vc117 (p1 : PA) (n2 : Int) (h : Heap) (Q : AV → Heap → Prop) : Prop :=
 ∃ (I4 : List AV → Heap → Prop) (m5 : List AV → Heap → Nat), I4 [.int .i64 n2] h ∧
 ∀ n3 : Int, ∀ h6 : Heap, I4 [.int .i64 n3] h6 →
 vif ((wrapK .i64 (Int.tdiv (wrapK .i64 (n3 - 1)) 2)) == n3)
 (Q (.tup []) h6)
 (∃ q9 : Option SL, cellsAt h6 p1 1 = some [.sl q9] ∧
 AC Tryz.prog 203 [.sl q9, .int .i64 n3, .int .i64 (wrapK .i64 (Int.tdiv (wrapK .i64 (n3 - 1)) 2))] h6 fun v7 h8 => ∃ b10 : Bool, v7 = .bool b10 ∧
 vif (!b10)
 (Q (.tup []) h8)
 (∃ q13 : Option SL, cellsAt h8 p1 1 = some [.sl q13] ∧
 AC Tryz.prog 204 [.sl q13, .int .i64 (wrapK .i64 (Int.tdiv (wrapK .i64 (n3 - 1)) 2)), .int .i64 n3] h8 fun v11 h12 => v11 = .tup [] ∧
 (True) ∧ I4 [.int .i64 (wrapK .i64 (Int.tdiv (wrapK .i64 (n3 - 1)) 2))] h12 ∧ m5 [.int .i64 (wrapK .i64 (Int.tdiv (wrapK .i64 (n3 - 1)) 2))] h12 < m5 [.int .i64 n3] h6))
theorem ac117 {p1 : PA} {n2 : Int} {h : Heap} {Q : AV → Heap → Prop} (hk : vc117 p1 n2 h Q) : AC Tryz.prog 117 [.iface 133 (.ptr (some p1)), .int .i64 n2] h Q :=
 AC_by (H := hintsOf [] [(0, [1], [])]) (by kernel_rfl) (by kernel_rfl) hk
def vc202 (q1 : Option SL) (h : Heap) (Q : AV → Heap → Prop) : Prop :=
 Q (.int .i64 (slLen q1 : Int)) h
theorem ac202 {q1 : Option SL} {h : Heap} {Q : AV → Heap → Prop} (hk : vc202 q1 h Q) : AC Tryz.prog 202 [.sl q1] h Q :=
 AC_by (H := hintsOf [] []) (by kernel_rfl) (by kernel_rfl) hk
def vc203 (q1 : Option SL) (n2 : Int) (n3 : Int) (h : Heap) (Q : AV → Heap → Prop) : Prop :=
 vIdx q1 n2 1 fun p4 =>
 ∃ p5 : Option PA, cellsAt h p4 1 = some [.ptr p5] ∧
 vPtr p5 fun p6 =>
 ∃ n7 n8 : Int, ∃ n9 n10 : Int, cellsAt h ⟨p6.b, p6.o + 0⟩ 4 = some [.int .i64 n7, .int .i64 n8, .int .i64 n9, .int .i64 n10] ∧
 vIdx q1 n3 1 fun p11 =>
 ∃ p12 : Option PA, cellsAt h p11 1 = some [.ptr p12] ∧
 vPtr p12 fun p13 =>
 ∃ n14 n15 : Int, ∃ n16 n17 : Int, cellsAt h ⟨p13.b, p13.o + 0⟩ 4 = some [.int .i64 n14, .int .i64 n15, .int .i64 n16, .int .i64 n17] ∧
 AC Tryz.prog 47 [.agg [.int .i64 n7, .int .i64 n8, .int .i64 n9, .int .i64 n10], .agg [.int .i64 n14, .int .i64 n15, .int .i64 n16, .int .i64 n17]] h fun v18 h19 => ∃ n20 : Int, v18 = .int .i64 n20 ∧
 Q (.bool (decide (n20 < 0))) h19
theorem ac203 {q1 : Option SL} {n2 : Int} {n3 : Int} {h : Heap} {Q : AV → Heap → Prop} (hk : vc203 q1 n2 n3 h Q) : AC Tryz.prog 203 [.sl q1, .int .i64 n2, .int .i64 n3] h Q :=
 AC_by (H := hintsOf [] []) (by kernel_rfl) (by kernel_rfl) hk
def vc204 (q1 : Option SL) (n2 : Int) (n3 : Int) (h : Heap) (Q : AV → Heap → Prop) : Prop :=
 vIdx q1 n3 1 fun p4 =>
 ∃ p5 : Option PA, cellsAt h p4 1 = some [.ptr p5] ∧
 vIdx q1 n2 1 fun p6 =>
 ∃ p7 : Option PA, cellsAt h p6 1 = some [.ptr p7] ∧
 vIdx q1 n2 1 fun p8 =>
 PStore h p8 [.ptr p5] fun h9 =>
 vIdx q1 n3 1 fun p10 =>
 PStore h9 p10 [.ptr p7] fun h11 =>
 Q (.tup []) h11
theorem ac204 {q1 : Option SL} {n2 : Int} {n3 : Int} {h : Heap} {Q : AV → Heap → Prop} (hk : vc204 q1 n2 n3 h Q) : AC Tryz.prog 204 [.sl q1, .int .i64 n2, .int .i64 n3] h Q :=
 AC_by (H := hintsOf [] []) (by kernel_rfl) (by kernel_rfl) hk
def vc205 (p1 : Option PA) (h : Heap) (Q : AV → Heap → Prop) : Prop :=
 vPtr p1 fun p2 =>
 ∃ q3 : Option SL, cellsAt h ⟨p2.b, p2.o + 0⟩ 1 = some [.sl q3] ∧
 vif ((slLen q3 : Int) == 0)
 (Q (.int .i64 4) h)
 (vPtr p1 fun p4 =>
 ∃ q5 : Option SL, cellsAt h ⟨p4.b, p4.o + 0⟩ 1 = some [.sl q5] ∧
 PSlice 4 q5 1 none none fun q6 =>
 vPtr p1 fun p7 =>
 PStore h ⟨p7.b, p7.o + 0⟩ [.sl q6] fun h8 =>
 Q (.int .i64 0) h8)
theorem ac205 {p1 : Option PA} {h : Heap} {Q : AV → Heap → Prop} (hk : vc205 p1 h Q) : AC Tryz.prog 205 [.ptr p1] h Q :=
 AC_by (H := hintsOf [] []) (by kernel_rfl) (by kernel_rfl) hk
def vc206 (p1 : Option PA) (h : Heap) (Q : AV → Heap → Prop) : Prop :=
 vPtr p1 fun p2 =>
 ∃ q3 : Option SL, cellsAt h ⟨p2.b, p2.o + 0⟩ 1 = some [.sl q3] ∧
 vif ((slLen q3 : Int) == 0)
 (Q (.tup [.agg [.int .i64 0, .int .i64 0, .int .i64 0, .int .i64 0], .bool false]) h)
 (vPtr p1 fun p4 =>
 ∃ q5 : Option SL, cellsAt h ⟨p4.b, p4.o + 0⟩ 1 = some [.sl q5] ∧
 vIdx q5 0 4 fun p6 =>
 ∃ n7 n8 : Int, ∃ n9 n10 : Int, cellsAt h p6 4 = some [.int .i64 n7, .int .i64 n8, .int .i64 n9, .int .i64 n10] ∧
 Q (.tup [.agg [.int .i64 n7, .int .i64 n8, .int .i64 n9, .int .i64 n10], .bool true]) h)
theorem ac206 {p1 : Option PA} {h : Heap} {Q : AV → Heap → Prop} (hk : vc206 p1 h Q) : AC Tryz.prog 206 [.ptr p1] h Q :=
 AC_by (H := hintsOf [2] []) (by kernel_rfl) (by kernel_rfl) hk
def vc207 (p1 : Option PA) (h : Heap) (Q : AV → Heap → Prop) : Prop :=
 vPtr p1 fun p2 =>
 ∃ q3 : Option SL, cellsAt h p2 1 = some [.sl q3] ∧
 vPtr p1 fun p4 =>
 ∃ q5 : Option SL, cellsAt h p4 1 = some [.sl q5] ∧
 vIdx q5 (wrapK .i64 ((slLen q3 : Int) - 1)) 1 fun p6 =>
 ∃ p7 : Option PA, cellsAt h p6 1 = some [.ptr p7] ∧
 vPtr p1 fun p8 =>
 ∃ q9 : Option SL, cellsAt h p8 1 = some [.sl q9] ∧
 PSlice 1 q9 0 (some (wrapK .i64 ((slLen q3 : Int) - 1))) none fun q10 =>
 vPtr p1 fun p11 =>
 PStore h p11 [.sl q10] fun h12 =>
 Q (.iface 158 (.ptr p7)) h12
theorem ac207 {p1 : Option PA} {h : Heap} {Q : AV → Heap → Prop} (hk : vc207 p1 h Q) : AC Tryz.prog 207 [.ptr p1] h Q :=
 AC_by (H := hintsOf [] []) (by kernel_rfl) (by kernel_rfl) hk
end Go.Proofs

namespace Go.Proofs
open Go.Ab
set_option maxRecDepth 100000
set_option linter.unusedVariables false
def vc8 (q1 : Option SL) (q2 : Option SL) (n3 : Int) (n4 : Int) (h : Heap) (Q : AV → Heap → Prop) : Prop :=
 AC Tryz.prog 26 [.sl q1] h fun v5 h6 => ∃ b7 : Bool, v5 = .bool b7 ∧
 vif b7
 (AC Tryz.prog 29 [] h6 fun v8 h9 => ∃ b10 : Bool, v8 = .bool b10 ∧
 Q (.bool b10) h9)
 (vif (decide ((slLen q1 : Int) > 60))
 (AC Tryz.prog 29 [] h6 fun v11 h12 => ∃ b13 : Bool, v11 = .bool b13 ∧
 Q (.bool b13) h12)
 (AC Tryz.prog 27 [.sl q1] h6 fun v14 h15 => ∃ n16 : Int, v14 = .int .i64 n16 ∧
 vif (n16 != 0)
 (AC Tryz.prog 29 [] h15 fun v17 h18 => ∃ b19 : Bool, v17 = .bool b19 ∧
 Q (.bool b19) h18)
 (vif (decide ((slLen q2 : Int) > 300))
 (AC Tryz.prog 29 [] h15 fun v20 h21 => ∃ b22 : Bool, v20 = .bool b22 ∧
 Q (.bool b22) h21)
 (AC Tryz.prog 28 [.sl q2] h15 fun v23 h24 => ∃ n25 : Int, v23 = .int .i64 n25 ∧
 vif (n25 != 0)
 (AC Tryz.prog 29 [] h24 fun v26 h27 => ∃ b28 : Bool, v26 = .bool b28 ∧
 Q (.bool b28) h27)
 (vif (n4 == 0)
 (AC Tryz.prog 29 [] h24 fun v29 h30 => ∃ b31 : Bool, v29 = .bool b31 ∧
 Q (.bool b31) h30)
 (AC Tryz.prog 11 [.sl q2, .int .i64 2] h24 fun v32 h33 => ∃ p34 : Option PA, v32 = .ptr p34 ∧
 AC Tryz.prog 29 [] h33 fun v35 h36 => ∃ b37 : Bool, v35 = .bool b37 ∧
 vif (!b37)
 (Q (.bool false) h36)
 (vif (p34.isNone)
 (Q (.bool false) h36)
 (vif (decide (n3 < 1))
 (vif (decide (n3 < 1))
 (Q (.bool true) h36)
 (vPtr p34 fun p38 =>
 ∃ p39 : Option PA, cellsAt h36 ⟨p38.b, p38.o + 1⟩ 1 = some [.ptr p39] ∧
 AC Tryz.prog 21 [.ptr p39] h36 fun v40 h41 => ∃ n42 : Int, v40 = .int .i64 n42 ∧
 Q (.bool (decide (n3 ≥ n42))) h41))
 (vPtr p34 fun p43 =>
 ∃ p44 : Option PA, cellsAt h36 ⟨p43.b, p43.o + 1⟩ 1 = some [.ptr p44] ∧
 AC Tryz.prog 21 [.ptr p44] h36 fun v45 h46 => ∃ n47 : Int, v45 = .int .i64 n47 ∧
 vif (decide (n3 ≥ n47))
 (vif (decide (n3 < 1))
 (Q (.bool true) h46)
 (vPtr p34 fun p48 =>
 ∃ p49 : Option PA, cellsAt h46 ⟨p48.b, p48.o + 1⟩ 1 = some [.ptr p49] ∧
 AC Tryz.prog 21 [.ptr p49] h46 fun v50 h51 => ∃ n52 : Int, v50 = .int .i64 n52 ∧
 Q (.bool (decide (n3 ≥ n52))) h51))
 (vPtr p34 fun p53 =>
 ∃ p54 : Option PA, cellsAt h46 ⟨p53.b, p53.o + 0⟩ 1 = some [.ptr p54] ∧
 AC Tryz.prog 24 [.ptr p54, .str [115], .int .i64 n3, .int .i64 100, .int .u32 n4] h46 fun v55 h56 => ∃ n57 : Int, v55 = .int .i64 n57 ∧
 vif (n57 != 0)
 (vif (decide (n3 < 1))
 (Q (.bool true) h56)
 (vPtr p34 fun p58 =>
 ∃ p59 : Option PA, cellsAt h56 ⟨p58.b, p58.o + 1⟩ 1 = some [.ptr p59] ∧
 AC Tryz.prog 21 [.ptr p59] h56 fun v60 h61 => ∃ n62 : Int, v60 = .int .i64 n62 ∧
 Q (.bool (decide (n3 ≥ n62))) h61))
 (vPtr p34 fun p63 =>
 ∃ p64 : Option PA, cellsAt h56 ⟨p63.b, p63.o + 2⟩ 1 = some [.ptr p64] ∧
 vPtr p34 fun p65 =>
 ∃ p66 : Option PA, cellsAt h56 ⟨p65.b, p65.o + 1⟩ 1 = some [.ptr p66] ∧
 AC Tryz.prog 13 [.ptr p64, .ptr p66, .agg [.int .i64 0, .int .i64 0, .int .i64 0, .int .i64 0]] h56 fun v67 h68 => ∃ p69 : Option PA, ∃ n70 : Int, v67 = .tup [.ptr p69, .int .i64 n70] ∧
 vif (n70 != 0)
 (Q (.bool false) h68)
 (PNew [.ptr p69] true h68 fun a71 h72 =>
 AC Tryz.prog 30 [.sl q1, .sl (some ⟨a71, 0, 1, 1, 0⟩)] h72 fun v73 h74 => ∃ p75 : Option PA, ∃ n76 : Int, v73 = .tup [.ptr p75, .int .i64 n76] ∧
 vif (n76 != 0)
 (Q (.bool false) h74)
 (vif (p75.isNone)
 (Q (.bool false) h74)
 (vPtr p34 fun p77 =>
 ∃ q78 : Option SL, cellsAt h74 ⟨p77.b, p77.o + 3⟩ 1 = some [.sl q78] ∧
 (PNew [] true h74 fun a79 h80 =>
 (∃ q171 : Option SL, cellsAt h80 ⟨p77.b, p77.o + 3⟩ 1 = some [.sl q171] ∧
 LV.val (.sl q171) = LV.val (.sl q78)) ∧
 (PAppendS 1 24 (some ⟨a79, 0, 0, 0, 0⟩) q1 h80 fun q81 h82 =>
 (∃ q125 : Option SL, cellsAt h82 ⟨p77.b, p77.o + 3⟩ 1 = some [.sl q125] ∧
 LV.val (.sl q125) = LV.val (.sl q78)) ∧
 PNew [.sl q78] true h82 fun a83 h84 =>
 PAppendS 1 24 q81 (some ⟨a83, 0, 1, 1, 0⟩) h84 fun q85 h86 =>
 AC Tryz.prog 32 [.sl q85] h86 fun v87 h88 => ∃ q89 : Option SL, v87 = .sl q89 ∧
 ∃ (I91 : List AV → Heap → Prop) (m92 : List AV → Heap → Nat), I91 [.int .i64 0] h88 ∧
 ∀ n90 : Int, ∀ h93 : Heap, I91 [.int .i64 n90] h93 →
 vif (decide (n90 < 2000))
 (AC Tryz.prog 34 [.ptr p75] h93 fun v94 h95 => ∃ n96 n97 : Int, ∃ n98 n99 : Int, ∃ b100 : Bool, ∃ n101 : Int, v94 = .tup [.agg [.int .i64 n96, .int .i64 n97, .int .i64 n98, .int .i64 n99], .bool b100, .int .i64 n101] ∧
 vif (!b100)
 (AC Tryz.prog 34 [.ptr p75] h95 fun v102 h103 => ∃ n104 n105 : Int, ∃ n106 n107 : Int, ∃ b108 : Bool, ∃ n109 : Int, v102 = .tup [.agg [.int .i64 n104, .int .i64 n105, .int .i64 n106, .int .i64 n107], .bool b108, .int .i64 n109] ∧
 AC Tryz.prog 35 [.ptr p75] h103 fun v110 h111 => v110 = .tup [] ∧
 vif (n101 == 80)
 (vif (!b108)
 (vif (n109 == 80)
 (vPtr p34 fun p112 =>
 ∃ p113 : Option PA, cellsAt h111 ⟨p112.b, p112.o + 2⟩ 1 = some [.ptr p113] ∧
 AC Tryz.prog 15 [.ptr p113] h111 fun v114 h115 => ∃ n116 : Int, v114 = .int .i64 n116 ∧
 vif (n116 == 0)
 (AC Tryz.prog 36 [.ptr p75] h115 fun v117 h118 => ∃ n119 : Int, v117 = .int .i64 n119 ∧
 Q (.bool (n119 == 0)) h118)
 (Q (.bool false) h115))
 (Q (.bool false) h111))
 (Q (.bool false) h111))
 (Q (.bool false) h111))
 (vif (n101 != 0)
 (Q (.bool false) h95)
 (vif (decide (n90 ≥ (slLen q89 : Int)))
 (Q (.bool false) h95)
 (vIdx q89 n90 4 fun p120 =>
 ∃ n121 n122 : Int, ∃ n123 n124 : Int, cellsAt h95 p120 4 = some [.int .i64 n121, .int .i64 n122, .int .i64 n123, .int .i64 n124] ∧
 vif (!(((n96 == n121) && ((n97 == n122) && true)) && (((n98 == n123) && ((n99 == n124) && true)) && true)))
 (Q (.bool false) h95)
 ((True) ∧ I91 [.int .i64 (wrapK .i64 (n90 + 1))] h95 ∧ m92 [.int .i64 (wrapK .i64 (n90 + 1))] h95 < m92 [.int .i64 n90] h93)))))
 (Q (.bool false) h93)) ∧
 (PNew [.sl q78] true h80 fun a126 h127 =>
 PAppendS 1 24 (some ⟨a79, 0, 0, 0, 0⟩) q1 h127 fun q128 h129 =>
 (∃ q170 : Option SL, cellsAt h129 ⟨p77.b, p77.o + 3⟩ 1 = some [.sl q170] ∧
 LV.val (.sl q170) = LV.val (.sl q78)) ∧
 PAppendS 1 24 q128 (some ⟨a126, 0, 1, 1, 0⟩) h129 fun q130 h131 =>
 AC Tryz.prog 32 [.sl q130] h131 fun v132 h133 => ∃ q134 : Option SL, v132 = .sl q134 ∧
 ∃ (I136 : List AV → Heap → Prop) (m137 : List AV → Heap → Nat), I136 [.int .i64 0] h133 ∧
 ∀ n135 : Int, ∀ h138 : Heap, I136 [.int .i64 n135] h138 →
 vif (decide (n135 < 2000))
 (AC Tryz.prog 34 [.ptr p75] h138 fun v139 h140 => ∃ n141 n142 : Int, ∃ n143 n144 : Int, ∃ b145 : Bool, ∃ n146 : Int, v139 = .tup [.agg [.int .i64 n141, .int .i64 n142, .int .i64 n143, .int .i64 n144], .bool b145, .int .i64 n146] ∧
 vif (!b145)
 (AC Tryz.prog 34 [.ptr p75] h140 fun v147 h148 => ∃ n149 n150 : Int, ∃ n151 n152 : Int, ∃ b153 : Bool, ∃ n154 : Int, v147 = .tup [.agg [.int .i64 n149, .int .i64 n150, .int .i64 n151, .int .i64 n152], .bool b153, .int .i64 n154] ∧
 AC Tryz.prog 35 [.ptr p75] h148 fun v155 h156 => v155 = .tup [] ∧
 vif (n146 == 80)
 (vif (!b153)
 (vif (n154 == 80)
 (vPtr p34 fun p157 =>
 ∃ p158 : Option PA, cellsAt h156 ⟨p157.b, p157.o + 2⟩ 1 = some [.ptr p158] ∧
 AC Tryz.prog 15 [.ptr p158] h156 fun v159 h160 => ∃ n161 : Int, v159 = .int .i64 n161 ∧
 vif (n161 == 0)
 (AC Tryz.prog 36 [.ptr p75] h160 fun v162 h163 => ∃ n164 : Int, v162 = .int .i64 n164 ∧
 Q (.bool (n164 == 0)) h163)
 (Q (.bool false) h160))
 (Q (.bool false) h156))
 (Q (.bool false) h156))
 (Q (.bool false) h156))
 (vif (n146 != 0)
 (Q (.bool false) h140)
 (vif (decide (n135 ≥ (slLen q134 : Int)))
 (Q (.bool false) h140)
 (vIdx q134 n135 4 fun p165 =>
 ∃ n166 n167 : Int, ∃ n168 n169 : Int, cellsAt h140 p165 4 = some [.int .i64 n166, .int .i64 n167, .int .i64 n168, .int .i64 n169] ∧
 vif (!(((n141 == n166) && ((n142 == n167) && true)) && (((n143 == n168) && ((n144 == n169) && true)) && true)))
 (Q (.bool false) h140)
 ((True) ∧ I136 [.int .i64 (wrapK .i64 (n135 + 1))] h140 ∧ m137 [.int .i64 (wrapK .i64 (n135 + 1))] h140 < m137 [.int .i64 n135] h138)))))
 (Q (.bool false) h138))) ∧
 (PNew [.sl q78] true h74 fun a172 h173 =>
 PNew [] true h173 fun a174 h175 =>
 (∃ q219 : Option SL, cellsAt h175 ⟨p77.b, p77.o + 3⟩ 1 = some [.sl q219] ∧
 LV.val (.sl q219) = LV.val (.sl q78)) ∧
 PAppendS 1 24 (some ⟨a174, 0, 0, 0, 0⟩) q1 h175 fun q176 h177 =>
 (∃ q218 : Option SL, cellsAt h177 ⟨p77.b, p77.o + 3⟩ 1 = some [.sl q218] ∧
 LV.val (.sl q218) = LV.val (.sl q78)) ∧
 PAppendS 1 24 q176 (some ⟨a172, 0, 1, 1, 0⟩) h177 fun q178 h179 =>
 AC Tryz.prog 32 [.sl q178] h179 fun v180 h181 => ∃ q182 : Option SL, v180 = .sl q182 ∧
 ∃ (I184 : List AV → Heap → Prop) (m185 : List AV → Heap → Nat), I184 [.int .i64 0] h181 ∧
 ∀ n183 : Int, ∀ h186 : Heap, I184 [.int .i64 n183] h186 →
 vif (decide (n183 < 2000))
 (AC Tryz.prog 34 [.ptr p75] h186 fun v187 h188 => ∃ n189 n190 : Int, ∃ n191 n192 : Int, ∃ b193 : Bool, ∃ n194 : Int, v187 = .tup [.agg [.int .i64 n189, .int .i64 n190, .int .i64 n191, .int .i64 n192], .bool b193, .int .i64 n194] ∧
 vif (!b193)
 (AC Tryz.prog 34 [.ptr p75] h188 fun v195 h196 => ∃ n197 n198 : Int, ∃ n199 n200 : Int, ∃ b201 : Bool, ∃ n202 : Int, v195 = .tup [.agg [.int .i64 n197, .int .i64 n198, .int .i64 n199, .int .i64 n200], .bool b201, .int .i64 n202] ∧
 AC Tryz.prog 35 [.ptr p75] h196 fun v203 h204 => v203 = .tup [] ∧
 vif (n194 == 80)
 (vif (!b201)
 (vif (n202 == 80)
 (vPtr p34 fun p205 =>
 ∃ p206 : Option PA, cellsAt h204 ⟨p205.b, p205.o + 2⟩ 1 = some [.ptr p206] ∧
 AC Tryz.prog 15 [.ptr p206] h204 fun v207 h208 => ∃ n209 : Int, v207 = .int .i64 n209 ∧
 vif (n209 == 0)
 (AC Tryz.prog 36 [.ptr p75] h208 fun v210 h211 => ∃ n212 : Int, v210 = .int .i64 n212 ∧
 Q (.bool (n212 == 0)) h211)
 (Q (.bool false) h208))
 (Q (.bool false) h204))
 (Q (.bool false) h204))
 (Q (.bool false) h204))
 (vif (n194 != 0)
 (Q (.bool false) h188)
 (vif (decide (n183 ≥ (slLen q182 : Int)))
 (Q (.bool false) h188)
 (vIdx q182 n183 4 fun p213 =>
 ∃ n214 n215 : Int, ∃ n216 n217 : Int, cellsAt h188 p213 4 = some [.int .i64 n214, .int .i64 n215, .int .i64 n216, .int .i64 n217] ∧
 vif (!(((n189 == n214) && ((n190 == n215) && true)) && (((n191 == n216) && ((n192 == n217) && true)) && true)))
 (Q (.bool false) h188)
 ((True) ∧ I184 [.int .i64 (wrapK .i64 (n183 + 1))] h188 ∧ m185 [.int .i64 (wrapK .i64 (n183 + 1))] h188 < m185 [.int .i64 n183] h186)))))
 (Q (.bool false) h186))))))))))))))))
theorem ac8 {q1 : Option SL} {q2 : Option SL} {n3 : Int} {n4 : Int} {h : Heap} {Q : AV → Heap → Prop} (hk : vc8 q1 q2 n3 n4 h Q) : AC Tryz.prog 8 [.sl q1, .sl q2, .int .i64 n3, .int .u32 n4] h Q :=
 AC_by (H := hintsOf [16, 19] [(0, [15], [])]) (by kernel_rfl) (by kernel_rfl) hk
end Go.Proofs
