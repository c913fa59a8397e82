/- Conditions, printed. -/
import Derived.Test.YtceplmmmlindnaaEG7
import Derived.Test.YtceplmmmlindnaaProg
import Derived.KernelRfl
namespace Go.Proofs
open Go.Ab
set_option maxRecDepth 100000
set_option linter.unusedVariables false

/-- edit.State).Names: what it asks. -/
def vc31 (p1 : Option PA) (h : Heap) (Q : AV → Heap → Prop) : Prop :=
 AC Try.prog 26 [.ptr p1] (h ++ [.mp [] 0]) fun v2 h3 => ∃ q4 : Option SL, v2 = .sl q4 ∧
 ∃ (I6 : List AV → Heap → Prop) (m7 : List AV → Heap → Nat), I6 [.int .i64 0] h3 ∧
 ∀ n5 : Int, ∀ h8 : Heap, I6 [.int .i64 n5] h8 →
 vif (decide (n5 < (slLen q4 : Int)))
 (vIdx q4 n5 4 fun p9 =>
 ∃ n10 : Int, ∃ n11 : Int, ∃ n12 : Int, ∃ q13 : Option SL, cellsAt h8 p9 4 = some [.int .i64 n10, .int .i64 n11, .int .i64 n12, .sl q13] ∧
 ∃ (I15 : List AV → Heap → Prop) (m16 : List AV → Heap → Nat), I15 [.int .i64 0] h8 ∧
 ∀ n14 : Int, ∀ h17 : Heap, I15 [.int .i64 n14] h17 →
 vif (decide (n14 < (slLen q13 : Int)))
 (vIdx q13 n14 3 fun p18 =>
 ∃ s19 : List UInt8, ∃ n20 : Int, ∃ n21 : Int, cellsAt h17 p18 3 = some [.str s19, .int .i64 n20, .int .i64 n21] ∧
 PUpdate Try.prog 9 (List.length h) (.str s19) (.bool true) h17 fun h22 =>
 ((some [.int .i64 n10, .int .i64 n11, .int .i64 n12, .sl q13] : Option (List AV)) = some [.int .i64 n10, .int .i64 n11, .int .i64 n12, .sl q13] ∧ True) ∧ I15 [.int .i64 (wrapK .i64 (n14 + 1))] h22 ∧ m16 [.int .i64 (wrapK .i64 (n14 + 1))] h22 < m16 [.int .i64 n14] h17)
 ((True) ∧ I6 [.int .i64 (wrapK .i64 (n5 + 1))] h17 ∧ m7 [.int .i64 (wrapK .i64 (n5 + 1))] h17 < m7 [.int .i64 n5] h8))
 (AC Try.prog 85 [.map (some (List.length h))] h8 fun v23 h24 => ∃ v25 : AV, v25.one = true ∧ v23 = v25 ∧
 AC Try.prog 84 [v25] h24 fun v26 h27 => ∃ q28 : Option SL, v26 = .sl q28 ∧
 Q (.sl q28) h27)
theorem ac31 {p1 : Option PA} {h : Heap} {Q : AV → Heap → Prop} (hk : vc31 p1 h Q) : AC Try.prog 31 [.ptr p1] h Q :=
 AC_by (H := hintsOf [5, 7] [(0, [12], []), (2, [19], [])]) (by kernel_rfl) (by kernel_rfl) hk

/-- oxbowref14.Check: what it asks. -/
def vc17 (n1 : Int) (n2 : Int) (n3 : Int) (q4 : Option SL) (h : Heap) (Q : AV → Heap → Prop) : Prop :=
 vif (n1 != 1)
 (vif (n1 != 2)
 (Q (.bool false) h)
 (AC Try.prog 64 [.agg [.int .i64 n2, .int .i64 n3]] h fun v5 h6 => ∃ b7 : Bool, v5 = .bool b7 ∧
 vif (!b7)
 (Q (.bool false) h6)
 (vif (n1 == 2)
 (vif (n3 != 0)
 (Q (.bool false) h6)
 (vif (decide ((slLen q4 : Int) > 256))
 (Q (.bool false) h6)
 (∃ (I9 : List AV → Heap → Prop) (m10 : List AV → Heap → Nat), I9 [.int .i64 0] h6 ∧
 ∀ n8 : Int, ∀ h11 : Heap, I9 [.int .i64 n8] h11 →
 vif (decide (n8 < (slLen q4 : Int)))
 (vIdx q4 n8 3 fun p12 =>
 ∃ s13 : List UInt8, ∃ n14 : Int, ∃ n15 : Int, cellsAt h11 p12 3 = some [.str s13, .int .i64 n14, .int .i64 n15] ∧
 vif (decide ((s13.length : Int) < 1))
 (Q (.bool false) h11)
 (vif (decide ((s13.length : Int) > 24))
 (Q (.bool false) h11)
 (vif (decide (n14 < 1))
 (Q (.bool false) h11)
 (vif (decide (n14 > 2305843009213693952))
 (Q (.bool false) h11)
 (vif (decide (n15 < 0))
 (Q (.bool false) h11)
 (vif (decide (n15 > 16384))
 (Q (.bool false) h11)
 (((some [.int .i64 n1, .int .i64 n2, .int .i64 n3, .sl q4] : Option (List AV)) = some [.int .i64 n1, .int .i64 n2, .int .i64 n3, .sl q4] ∧ True) ∧ I9 [.int .i64 (wrapK .i64 (n8 + 1))] h11 ∧ m10 [.int .i64 (wrapK .i64 (n8 + 1))] h11 < m10 [.int .i64 n8] h11)))))))
 (Q (.bool true) h11))))
 (vif (decide ((slLen q4 : Int) > 256))
 (Q (.bool false) h6)
 (∃ (I17 : List AV → Heap → Prop) (m18 : List AV → Heap → Nat), I17 [.int .i64 0] h6 ∧
 ∀ n16 : Int, ∀ h19 : Heap, I17 [.int .i64 n16] h19 →
 vif (decide (n16 < (slLen q4 : Int)))
 (vIdx q4 n16 3 fun p20 =>
 ∃ s21 : List UInt8, ∃ n22 : Int, ∃ n23 : Int, cellsAt h19 p20 3 = some [.str s21, .int .i64 n22, .int .i64 n23] ∧
 vif (decide ((s21.length : Int) < 1))
 (Q (.bool false) h19)
 (vif (decide ((s21.length : Int) > 24))
 (Q (.bool false) h19)
 (vif (decide (n22 < 1))
 (Q (.bool false) h19)
 (vif (decide (n22 > 2305843009213693952))
 (Q (.bool false) h19)
 (vif (decide (n23 < 0))
 (Q (.bool false) h19)
 (vif (decide (n23 > 16384))
 (Q (.bool false) h19)
 (((some [.int .i64 n1, .int .i64 n2, .int .i64 n3, .sl q4] : Option (List AV)) = some [.int .i64 n1, .int .i64 n2, .int .i64 n3, .sl q4] ∧ True) ∧ I17 [.int .i64 (wrapK .i64 (n16 + 1))] h19 ∧ m18 [.int .i64 (wrapK .i64 (n16 + 1))] h19 < m18 [.int .i64 n16] h19)))))))
 (Q (.bool true) h19))))))
 (AC Try.prog 64 [.agg [.int .i64 n2, .int .i64 n3]] h fun v24 h25 => ∃ b26 : Bool, v24 = .bool b26 ∧
 vif (!b26)
 (Q (.bool false) h25)
 (vif (n1 == 2)
 (vif (n3 != 0)
 (Q (.bool false) h25)
 (vif (decide ((slLen q4 : Int) > 256))
 (Q (.bool false) h25)
 (∃ (I28 : List AV → Heap → Prop) (m29 : List AV → Heap → Nat), I28 [.int .i64 0] h25 ∧
 ∀ n27 : Int, ∀ h30 : Heap, I28 [.int .i64 n27] h30 →
 vif (decide (n27 < (slLen q4 : Int)))
 (vIdx q4 n27 3 fun p31 =>
 ∃ s32 : List UInt8, ∃ n33 : Int, ∃ n34 : Int, cellsAt h30 p31 3 = some [.str s32, .int .i64 n33, .int .i64 n34] ∧
 vif (decide ((s32.length : Int) < 1))
 (Q (.bool false) h30)
 (vif (decide ((s32.length : Int) > 24))
 (Q (.bool false) h30)
 (vif (decide (n33 < 1))
 (Q (.bool false) h30)
 (vif (decide (n33 > 2305843009213693952))
 (Q (.bool false) h30)
 (vif (decide (n34 < 0))
 (Q (.bool false) h30)
 (vif (decide (n34 > 16384))
 (Q (.bool false) h30)
 (((some [.int .i64 n1, .int .i64 n2, .int .i64 n3, .sl q4] : Option (List AV)) = some [.int .i64 n1, .int .i64 n2, .int .i64 n3, .sl q4] ∧ True) ∧ I28 [.int .i64 (wrapK .i64 (n27 + 1))] h30 ∧ m29 [.int .i64 (wrapK .i64 (n27 + 1))] h30 < m29 [.int .i64 n27] h30)))))))
 (Q (.bool true) h30))))
 (vif (decide ((slLen q4 : Int) > 256))
 (Q (.bool false) h25)
 (∃ (I36 : List AV → Heap → Prop) (m37 : List AV → Heap → Nat), I36 [.int .i64 0] h25 ∧
 ∀ n35 : Int, ∀ h38 : Heap, I36 [.int .i64 n35] h38 →
 vif (decide (n35 < (slLen q4 : Int)))
 (vIdx q4 n35 3 fun p39 =>
 ∃ s40 : List UInt8, ∃ n41 : Int, ∃ n42 : Int, cellsAt h38 p39 3 = some [.str s40, .int .i64 n41, .int .i64 n42] ∧
 vif (decide ((s40.length : Int) < 1))
 (Q (.bool false) h38)
 (vif (decide ((s40.length : Int) > 24))
 (Q (.bool false) h38)
 (vif (decide (n41 < 1))
 (Q (.bool false) h38)
 (vif (decide (n41 > 2305843009213693952))
 (Q (.bool false) h38)
 (vif (decide (n42 < 0))
 (Q (.bool false) h38)
 (vif (decide (n42 > 16384))
 (Q (.bool false) h38)
 (((some [.int .i64 n1, .int .i64 n2, .int .i64 n3, .sl q4] : Option (List AV)) = some [.int .i64 n1, .int .i64 n2, .int .i64 n3, .sl q4] ∧ True) ∧ I36 [.int .i64 (wrapK .i64 (n35 + 1))] h38 ∧ m37 [.int .i64 (wrapK .i64 (n35 + 1))] h38 < m37 [.int .i64 n35] h38)))))))
 (Q (.bool true) h38)))))
theorem ac17 {n1 : Int} {n2 : Int} {n3 : Int} {q4 : Option SL} {h : Heap} {Q : AV → Heap → Prop} (hk : vc17 n1 n2 n3 q4 h Q) : AC Try.prog 17 [.agg [.int .i64 n1, .int .i64 n2, .int .i64 n3, .sl q4]] h Q :=
 AC_by (H := hintsOf [1, 4] [(0, [3], [])]) (by kernel_rfl) (by kernel_rfl) hk

/-- oxbowref04.Check: what it asks. -/
def vc64 (n1 : Int) (n2 : Int) (h : Heap) (Q : AV → Heap → Prop) : Prop :=
 vif (decide (n1 ≥ 0))
 (vif (decide (n1 < 65536))
 (vif (decide (n2 ≥ 0))
 (Q (.bool (decide (n2 < 65536))) h)
 (Q (.bool false) h))
 (Q (.bool false) h))
 (Q (.bool false) h)
theorem ac64 {n1 : Int} {n2 : Int} {h : Heap} {Q : AV → Heap → Prop} (hk : vc64 n1 n2 h Q) : AC Try.prog 64 [.agg [.int .i64 n1, .int .i64 n2]] h Q :=
 AC_by (H := hintsOf [1] []) (by kernel_rfl) (by kernel_rfl) hk

/-- oxbowref14.State).Goes: what it asks. -/
def vc81 (p1 : Option PA) (n2 : Int) (n3 : Int) (n4 : Int) (q5 : Option SL) (h : Heap) (Q : AV → Heap → Prop) : Prop :=
 vPtr p1 fun p6 =>
 ∃ q7 : Option SL, cellsAt h ⟨p6.b, p6.o + 0⟩ 1 = some [.sl q7] ∧
 vif (n3 == (slLen q7 : Int))
 (vif (n2 == 2)
 (Q (.bool true) h)
 (vPtr p1 fun p8 =>
 ∃ b9 : Bool, cellsAt h ⟨p8.b, p8.o + 5⟩ 1 = some [.bool b9] ∧
 vif (!b9)
 (Q (.bool true) h)
 (vPtr p1 fun p10 =>
 ∃ n11 : Int, cellsAt h ⟨p10.b, ((p10.o + 1) + 1) + 1⟩ 1 = some [.int .i64 n11] ∧
 Q (.bool (decide (n4 > n11))) h)))
 (Q (.bool false) h)
theorem ac81 {p1 : Option PA} {n2 : Int} {n3 : Int} {n4 : Int} {q5 : Option SL} {h : Heap} {Q : AV → Heap → Prop} (hk : vc81 p1 n2 n3 n4 q5 h Q) : AC Try.prog 81 [.ptr p1, .agg [.int .i64 n2, .int .i64 n3, .int .i64 n4, .sl q5]] h Q :=
 AC_by (H := hintsOf [3] []) (by kernel_rfl) (by kernel_rfl) hk

/-- oxbowref14.State).Apply: what it asks. -/
def vc24 (p1 : Option PA) (n2 : Int) (n3 : Int) (n4 : Int) (q5 : Option SL) (h : Heap) (Q : AV → Heap → Prop) : Prop :=
 AC Try.prog 17 [.agg [.int .i64 n2, .int .i64 n3, .int .i64 n4, .sl q5]] h fun v6 h7 => ∃ b8 : Bool, v6 = .bool b8 ∧
 vif (!b8)
 (Q (.int .i64 140) h7)
 (AC Try.prog 81 [.ptr p1, .agg [.int .i64 n2, .int .i64 n3, .int .i64 n4, .sl q5]] h7 fun v9 h10 => ∃ b11 : Bool, v9 = .bool b11 ∧
 vif (!b11)
 (Q (.int .i64 1) h10)
 (vif (n2 == 2)
 (vPtr p1 fun p12 =>
 ∃ q13 : Option SL, cellsAt h10 ⟨p12.b, p12.o + 0⟩ 1 = some [.sl q13] ∧
 (PNew [] true h10 fun a14 h15 =>
 (LV.val (.agg [.int .i64 n2, .int .i64 n3, .int .i64 n4, .sl q5]) = LV.val (.agg [.int .i64 n2, .int .i64 n3, .int .i64 n4, .sl q5])) ∧
 (∃ q42 : Option SL, cellsAt h15 ⟨p12.b, p12.o + 0⟩ 1 = some [.sl q42] ∧
 LV.val (.sl q42) = LV.val (.sl q13)) ∧
 (PAppendS 4 48 (some ⟨a14, 0, 0, 0, 0⟩) q13 h15 fun q16 h17 =>
 (LV.val (.agg [.int .i64 n2, .int .i64 n3, .int .i64 n4, .sl q5]) = LV.val (.agg [.int .i64 n2, .int .i64 n3, .int .i64 n4, .sl q5])) ∧
 PNew [.int .i64 n2, .int .i64 n3, .int .i64 n4, .sl q5] true h17 fun a18 h19 =>
 (∃ q28 : Option SL, cellsAt h19 ⟨p12.b, p12.o + 0⟩ 1 = some [.sl q28] ∧
 LV.val (.sl q28) = LV.val (.sl q13)) ∧
 PAppendS 4 48 q16 (some ⟨a18, 0, 1, 1, 0⟩) h19 fun q20 h21 =>
 vPtr p1 fun p22 =>
 PStore h21 ⟨p22.b, p22.o + 0⟩ [.sl q20] fun h23 =>
 vPtr p1 fun p24 =>
 PStore h23 ⟨p24.b, p24.o + 1⟩ [.int .i64 0, .int .i64 0, .int .i64 0, .sl none] fun h25 =>
 vPtr p1 fun p26 =>
 PStore h25 ⟨p26.b, p26.o + 5⟩ [.bool false] fun h27 =>
 Q (.int .i64 0) h27) ∧
 (PNew [.int .i64 n2, .int .i64 n3, .int .i64 n4, .sl q5] true h15 fun a29 h30 =>
 (∃ q41 : Option SL, cellsAt h30 ⟨p12.b, p12.o + 0⟩ 1 = some [.sl q41] ∧
 LV.val (.sl q41) = LV.val (.sl q13)) ∧
 PAppendS 4 48 (some ⟨a14, 0, 0, 0, 0⟩) q13 h30 fun q31 h32 =>
 (LV.val (.agg [.int .i64 n2, .int .i64 n3, .int .i64 n4, .sl q5]) = LV.val (.agg [.int .i64 n2, .int .i64 n3, .int .i64 n4, .sl q5])) ∧
 PAppendS 4 48 q31 (some ⟨a29, 0, 1, 1, 0⟩) h32 fun q33 h34 =>
 vPtr p1 fun p35 =>
 PStore h34 ⟨p35.b, p35.o + 0⟩ [.sl q33] fun h36 =>
 vPtr p1 fun p37 =>
 PStore h36 ⟨p37.b, p37.o + 1⟩ [.int .i64 0, .int .i64 0, .int .i64 0, .sl none] fun h38 =>
 vPtr p1 fun p39 =>
 PStore h38 ⟨p39.b, p39.o + 5⟩ [.bool false] fun h40 =>
 Q (.int .i64 0) h40)) ∧
 (PNew [.int .i64 n2, .int .i64 n3, .int .i64 n4, .sl q5] true h10 fun a43 h44 =>
 (∃ q58 : Option SL, cellsAt h44 ⟨p12.b, p12.o + 0⟩ 1 = some [.sl q58] ∧
 LV.val (.sl q58) = LV.val (.sl q13)) ∧
 PNew [] true h44 fun a45 h46 =>
 (LV.val (.agg [.int .i64 n2, .int .i64 n3, .int .i64 n4, .sl q5]) = LV.val (.agg [.int .i64 n2, .int .i64 n3, .int .i64 n4, .sl q5])) ∧
 (∃ q57 : Option SL, cellsAt h46 ⟨p12.b, p12.o + 0⟩ 1 = some [.sl q57] ∧
 LV.val (.sl q57) = LV.val (.sl q13)) ∧
 PAppendS 4 48 (some ⟨a45, 0, 0, 0, 0⟩) q13 h46 fun q47 h48 =>
 (LV.val (.agg [.int .i64 n2, .int .i64 n3, .int .i64 n4, .sl q5]) = LV.val (.agg [.int .i64 n2, .int .i64 n3, .int .i64 n4, .sl q5])) ∧
 PAppendS 4 48 q47 (some ⟨a43, 0, 1, 1, 0⟩) h48 fun q49 h50 =>
 vPtr p1 fun p51 =>
 PStore h50 ⟨p51.b, p51.o + 0⟩ [.sl q49] fun h52 =>
 vPtr p1 fun p53 =>
 PStore h52 ⟨p53.b, p53.o + 1⟩ [.int .i64 0, .int .i64 0, .int .i64 0, .sl none] fun h54 =>
 vPtr p1 fun p55 =>
 PStore h54 ⟨p55.b, p55.o + 5⟩ [.bool false] fun h56 =>
 Q (.int .i64 0) h56))
 (vPtr p1 fun p59 =>
 PStore h10 ⟨p59.b, p59.o + 1⟩ [.int .i64 n2, .int .i64 n3, .int .i64 n4, .sl q5] fun h60 =>
 vPtr p1 fun p61 =>
 PStore h60 ⟨p61.b, p61.o + 5⟩ [.bool true] fun h62 =>
 Q (.int .i64 0) h62)))
theorem ac24 {p1 : Option PA} {n2 : Int} {n3 : Int} {n4 : Int} {q5 : Option SL} {h : Heap} {Q : AV → Heap → Prop} (hk : vc24 p1 n2 n3 n4 q5 h Q) : AC Try.prog 24 [.ptr p1, .agg [.int .i64 n2, .int .i64 n3, .int .i64 n4, .sl q5]] h Q :=
 AC_by (H := hintsOf [3] []) (by kernel_rfl) (by kernel_rfl) hk

/-- oxbowref14.State).Edits: what it asks. -/
def vc82 (p1 : Option PA) (h : Heap) (Q : AV → Heap → Prop) : Prop :=
 PNew [] true h fun a2 h3 =>
 vPtr p1 fun p4 =>
 ∃ q5 : Option SL, cellsAt h3 ⟨p4.b, p4.o + 0⟩ 1 = some [.sl q5] ∧
 PAppendS 4 48 (some ⟨a2, 0, 0, 0, 0⟩) q5 h3 fun q6 h7 =>
 vPtr p1 fun p8 =>
 ∃ b9 : Bool, cellsAt h7 ⟨p8.b, p8.o + 5⟩ 1 = some [.bool b9] ∧
 vif b9
 (vPtr p1 fun p10 =>
 ∃ n11 : Int, ∃ n12 : Int, ∃ n13 : Int, ∃ q14 : Option SL, cellsAt h7 ⟨p10.b, p10.o + 1⟩ 4 = some [.int .i64 n11, .int .i64 n12, .int .i64 n13, .sl q14] ∧
 PNew [.int .i64 n11, .int .i64 n12, .int .i64 n13, .sl q14] true h7 fun a15 h16 =>
 PAppendS 4 48 q6 (some ⟨a15, 0, 1, 1, 0⟩) h16 fun q17 h18 =>
 Q (.sl q17) h18)
 (Q (.sl q6) h7)
theorem ac82 {p1 : Option PA} {h : Heap} {Q : AV → Heap → Prop} (hk : vc82 p1 h Q) : AC Try.prog 82 [.ptr p1] h Q :=
 AC_by (H := hintsOf [] []) (by kernel_rfl) (by kernel_rfl) hk

/-- oxbowref14.State).Names: what it asks. -/
def vc83 (p1 : Option PA) (h : Heap) (Q : AV → Heap → Prop) : Prop :=
 AC Try.prog 82 [.ptr p1] h fun v2 h3 => ∃ q4 : Option SL, v2 = .sl q4 ∧
 ∃ (I7 : List AV → Heap → Prop) (m8 : List AV → Heap → Nat), I7 [.sl none, .int .i64 0] h3 ∧
 ∀ q5 : Option SL, ∀ n6 : Int, ∀ h9 : Heap, I7 [.sl q5, .int .i64 n6] h9 →
 vif (decide (n6 < (slLen q4 : Int)))
 (∃ (I12 : List AV → Heap → Prop) (m13 : List AV → Heap → Nat), I12 [.sl q5, .int .i64 0] h9 ∧
 ∀ q10 : Option SL, ∀ n11 : Int, ∀ h14 : Heap, I12 [.sl q10, .int .i64 n11] h14 →
 vIdx q4 n6 4 fun p15 =>
 ∃ q16 : Option SL, cellsAt h14 ⟨p15.b, p15.o + 3⟩ 1 = some [.sl q16] ∧
 vif (decide (n11 < (slLen q16 : Int)))
 (vIdx q4 n6 4 fun p17 =>
 ∃ q18 : Option SL, cellsAt h14 ⟨p17.b, p17.o + 3⟩ 1 = some [.sl q18] ∧
 vIdx q18 n11 3 fun p19 =>
 ∃ s20 : List UInt8, cellsAt h14 ⟨p19.b, p19.o + 0⟩ 1 = some [.str s20] ∧
 ∃ (I22 : List AV → Heap → Prop) (m23 : List AV → Heap → Nat), I22 [.int .i64 0] h14 ∧
 ∀ n21 : Int, ∀ h24 : Heap, I22 [.int .i64 n21] h24 →
 vif (decide (n21 < (slLen q10 : Int)))
 (vIdx q10 n21 1 fun p25 =>
 ∃ s26 : List UInt8, cellsAt h24 p25 1 = some [.str s26] ∧
 vif (bytesLess s26 s20)
 ((True) ∧ I22 [.int .i64 (wrapK .i64 (n21 + 1))] h24 ∧ m23 [.int .i64 (wrapK .i64 (n21 + 1))] h24 < m23 [.int .i64 n21] h24)
 (vif (n21 == (slLen q10 : Int))
 (PSlice 1 q10 0 (some n21) none fun q27 =>
 PSlice 1 q10 n21 none none fun q28 =>
 (PNew [] true h24 fun a29 h30 =>
 (PAppendS 1 16 (some ⟨a29, 0, 0, 0, 0⟩) q27 h30 fun q31 h32 =>
 PNew [.str s20] true h32 fun a33 h34 =>
 PAppendS 1 16 q31 (some ⟨a33, 0, 1, 1, 0⟩) h34 fun q35 h36 =>
 PAppendS 1 16 q35 q28 h36 fun q37 h38 =>
 (True) ∧ I12 [.sl q37, .int .i64 (wrapK .i64 (n11 + 1))] h38 ∧ m13 [.sl q37, .int .i64 (wrapK .i64 (n11 + 1))] h38 < m13 [.sl q10, .int .i64 n11] h14) ∧
 (PNew [.str s20] true h30 fun a39 h40 =>
 PAppendS 1 16 (some ⟨a29, 0, 0, 0, 0⟩) q27 h40 fun q41 h42 =>
 PAppendS 1 16 q41 (some ⟨a39, 0, 1, 1, 0⟩) h42 fun q43 h44 =>
 PAppendS 1 16 q43 q28 h44 fun q45 h46 =>
 (True) ∧ I12 [.sl q45, .int .i64 (wrapK .i64 (n11 + 1))] h46 ∧ m13 [.sl q45, .int .i64 (wrapK .i64 (n11 + 1))] h46 < m13 [.sl q10, .int .i64 n11] h14)) ∧
 (PNew [.str s20] true h24 fun a47 h48 =>
 PNew [] true h48 fun a49 h50 =>
 PAppendS 1 16 (some ⟨a49, 0, 0, 0, 0⟩) q27 h50 fun q51 h52 =>
 PAppendS 1 16 q51 (some ⟨a47, 0, 1, 1, 0⟩) h52 fun q53 h54 =>
 PAppendS 1 16 q53 q28 h54 fun q55 h56 =>
 (True) ∧ I12 [.sl q55, .int .i64 (wrapK .i64 (n11 + 1))] h56 ∧ m13 [.sl q55, .int .i64 (wrapK .i64 (n11 + 1))] h56 < m13 [.sl q10, .int .i64 n11] h14))
 (vIdx q10 n21 1 fun p57 =>
 ∃ s58 : List UInt8, cellsAt h24 p57 1 = some [.str s58] ∧
 vif (!(s58 == s20))
 (PSlice 1 q10 0 (some n21) none fun q59 =>
 PSlice 1 q10 n21 none none fun q60 =>
 (PNew [] true h24 fun a61 h62 =>
 (PAppendS 1 16 (some ⟨a61, 0, 0, 0, 0⟩) q59 h62 fun q63 h64 =>
 PNew [.str s20] true h64 fun a65 h66 =>
 PAppendS 1 16 q63 (some ⟨a65, 0, 1, 1, 0⟩) h66 fun q67 h68 =>
 PAppendS 1 16 q67 q60 h68 fun q69 h70 =>
 (True) ∧ I12 [.sl q69, .int .i64 (wrapK .i64 (n11 + 1))] h70 ∧ m13 [.sl q69, .int .i64 (wrapK .i64 (n11 + 1))] h70 < m13 [.sl q10, .int .i64 n11] h14) ∧
 (PNew [.str s20] true h62 fun a71 h72 =>
 PAppendS 1 16 (some ⟨a61, 0, 0, 0, 0⟩) q59 h72 fun q73 h74 =>
 PAppendS 1 16 q73 (some ⟨a71, 0, 1, 1, 0⟩) h74 fun q75 h76 =>
 PAppendS 1 16 q75 q60 h76 fun q77 h78 =>
 (True) ∧ I12 [.sl q77, .int .i64 (wrapK .i64 (n11 + 1))] h78 ∧ m13 [.sl q77, .int .i64 (wrapK .i64 (n11 + 1))] h78 < m13 [.sl q10, .int .i64 n11] h14)) ∧
 (PNew [.str s20] true h24 fun a79 h80 =>
 PNew [] true h80 fun a81 h82 =>
 PAppendS 1 16 (some ⟨a81, 0, 0, 0, 0⟩) q59 h82 fun q83 h84 =>
 PAppendS 1 16 q83 (some ⟨a79, 0, 1, 1, 0⟩) h84 fun q85 h86 =>
 PAppendS 1 16 q85 q60 h86 fun q87 h88 =>
 (True) ∧ I12 [.sl q87, .int .i64 (wrapK .i64 (n11 + 1))] h88 ∧ m13 [.sl q87, .int .i64 (wrapK .i64 (n11 + 1))] h88 < m13 [.sl q10, .int .i64 n11] h14))
 ((True) ∧ I12 [.sl q10, .int .i64 (wrapK .i64 (n11 + 1))] h24 ∧ m13 [.sl q10, .int .i64 (wrapK .i64 (n11 + 1))] h24 < m13 [.sl q10, .int .i64 n11] h14))))
 (vif (n21 == (slLen q10 : Int))
 (PSlice 1 q10 0 (some n21) none fun q89 =>
 PSlice 1 q10 n21 none none fun q90 =>
 (PNew [] true h24 fun a91 h92 =>
 (PAppendS 1 16 (some ⟨a91, 0, 0, 0, 0⟩) q89 h92 fun q93 h94 =>
 PNew [.str s20] true h94 fun a95 h96 =>
 PAppendS 1 16 q93 (some ⟨a95, 0, 1, 1, 0⟩) h96 fun q97 h98 =>
 PAppendS 1 16 q97 q90 h98 fun q99 h100 =>
 (True) ∧ I12 [.sl q99, .int .i64 (wrapK .i64 (n11 + 1))] h100 ∧ m13 [.sl q99, .int .i64 (wrapK .i64 (n11 + 1))] h100 < m13 [.sl q10, .int .i64 n11] h14) ∧
 (PNew [.str s20] true h92 fun a101 h102 =>
 PAppendS 1 16 (some ⟨a91, 0, 0, 0, 0⟩) q89 h102 fun q103 h104 =>
 PAppendS 1 16 q103 (some ⟨a101, 0, 1, 1, 0⟩) h104 fun q105 h106 =>
 PAppendS 1 16 q105 q90 h106 fun q107 h108 =>
 (True) ∧ I12 [.sl q107, .int .i64 (wrapK .i64 (n11 + 1))] h108 ∧ m13 [.sl q107, .int .i64 (wrapK .i64 (n11 + 1))] h108 < m13 [.sl q10, .int .i64 n11] h14)) ∧
 (PNew [.str s20] true h24 fun a109 h110 =>
 PNew [] true h110 fun a111 h112 =>
 PAppendS 1 16 (some ⟨a111, 0, 0, 0, 0⟩) q89 h112 fun q113 h114 =>
 PAppendS 1 16 q113 (some ⟨a109, 0, 1, 1, 0⟩) h114 fun q115 h116 =>
 PAppendS 1 16 q115 q90 h116 fun q117 h118 =>
 (True) ∧ I12 [.sl q117, .int .i64 (wrapK .i64 (n11 + 1))] h118 ∧ m13 [.sl q117, .int .i64 (wrapK .i64 (n11 + 1))] h118 < m13 [.sl q10, .int .i64 n11] h14))
 (vIdx q10 n21 1 fun p119 =>
 ∃ s120 : List UInt8, cellsAt h24 p119 1 = some [.str s120] ∧
 vif (!(s120 == s20))
 (PSlice 1 q10 0 (some n21) none fun q121 =>
 PSlice 1 q10 n21 none none fun q122 =>
 (PNew [] true h24 fun a123 h124 =>
 (PAppendS 1 16 (some ⟨a123, 0, 0, 0, 0⟩) q121 h124 fun q125 h126 =>
 PNew [.str s20] true h126 fun a127 h128 =>
 PAppendS 1 16 q125 (some ⟨a127, 0, 1, 1, 0⟩) h128 fun q129 h130 =>
 PAppendS 1 16 q129 q122 h130 fun q131 h132 =>
 (True) ∧ I12 [.sl q131, .int .i64 (wrapK .i64 (n11 + 1))] h132 ∧ m13 [.sl q131, .int .i64 (wrapK .i64 (n11 + 1))] h132 < m13 [.sl q10, .int .i64 n11] h14) ∧
 (PNew [.str s20] true h124 fun a133 h134 =>
 PAppendS 1 16 (some ⟨a123, 0, 0, 0, 0⟩) q121 h134 fun q135 h136 =>
 PAppendS 1 16 q135 (some ⟨a133, 0, 1, 1, 0⟩) h136 fun q137 h138 =>
 PAppendS 1 16 q137 q122 h138 fun q139 h140 =>
 (True) ∧ I12 [.sl q139, .int .i64 (wrapK .i64 (n11 + 1))] h140 ∧ m13 [.sl q139, .int .i64 (wrapK .i64 (n11 + 1))] h140 < m13 [.sl q10, .int .i64 n11] h14)) ∧
 (PNew [.str s20] true h24 fun a141 h142 =>
 PNew [] true h142 fun a143 h144 =>
 PAppendS 1 16 (some ⟨a143, 0, 0, 0, 0⟩) q121 h144 fun q145 h146 =>
 PAppendS 1 16 q145 (some ⟨a141, 0, 1, 1, 0⟩) h146 fun q147 h148 =>
 PAppendS 1 16 q147 q122 h148 fun q149 h150 =>
 (True) ∧ I12 [.sl q149, .int .i64 (wrapK .i64 (n11 + 1))] h150 ∧ m13 [.sl q149, .int .i64 (wrapK .i64 (n11 + 1))] h150 < m13 [.sl q10, .int .i64 n11] h14))
 ((True) ∧ I12 [.sl q10, .int .i64 (wrapK .i64 (n11 + 1))] h24 ∧ m13 [.sl q10, .int .i64 (wrapK .i64 (n11 + 1))] h24 < m13 [.sl q10, .int .i64 n11] h14))))
 ((True) ∧ I7 [.sl q10, .int .i64 (wrapK .i64 (n6 + 1))] h14 ∧ m8 [.sl q10, .int .i64 (wrapK .i64 (n6 + 1))] h14 < m8 [.sl q5, .int .i64 n6] h9))
 (Q (.sl q5) h9)
theorem ac83 {p1 : Option PA} {h : Heap} {Q : AV → Heap → Prop} (hk : vc83 p1 h Q) : AC Try.prog 83 [.ptr p1] h Q :=
 AC_by (H := hintsOf [] [(0, [3, 5], []), (2, [3, 6], []), (4, [8], [])]) (by kernel_rfl) (by kernel_rfl) hk

/-- oxbowlaw14.alike: what it asks. -/
def vc25 (p1 : Option PA) (p2 : Option PA) (n3 : Int) (h : Heap) (Q : AV → Heap → Prop) : Prop :=
 AC Try.prog 27 [.ptr p1] h fun v4 h5 => ∃ n6 : Int, ∃ n7 : Int, ∃ n8 : Int, ∃ q9 : Option SL, ∃ b10 : Bool, v4 = .tup [.agg [.int .i64 n6, .int .i64 n7, .int .i64 n8, .sl q9], .bool b10] ∧
 AC Try.prog 30 [.ptr p1, .int .i64 n3] h5 fun v11 h12 => ∃ n13 : Int, ∃ n14 : Int, ∃ n15 : Int, ∃ q16 : Option SL, ∃ b17 : Bool, v11 = .tup [.agg [.int .i64 n13, .int .i64 n14, .int .i64 n15, .sl q16], .bool b17] ∧
 vPtr p2 fun p18 =>
 ∃ q19 : Option SL, cellsAt h12 ⟨p18.b, p18.o + 0⟩ 1 = some [.sl q19] ∧
 AC Try.prog 29 [.ptr p1] h12 fun v20 h21 => ∃ n22 : Int, v20 = .int .i64 n22 ∧
 (∃ q133 : Option SL, cellsAt h21 ⟨p18.b, p18.o + 0⟩ 1 = some [.sl q133] ∧
 LV.val (.sl q133) = LV.val (.sl q19)) ∧
 vif (n22 != (slLen q19 : Int))
 (Q (.bool false) h21)
 (vPtr p2 fun p23 =>
 ∃ b24 : Bool, cellsAt h21 ⟨p23.b, p23.o + 5⟩ 1 = some [.bool b24] ∧
 vif (!(b10 == b24))
 (Q (.bool false) h21)
 (vPtr p2 fun p25 =>
 ∃ n26 : Int, ∃ n27 : Int, ∃ n28 : Int, ∃ q29 : Option SL, cellsAt h21 ⟨p25.b, p25.o + 1⟩ 4 = some [.int .i64 n26, .int .i64 n27, .int .i64 n28, .sl q29] ∧
 AC Try.prog 16 [.agg [.int .i64 n6, .int .i64 n7, .int .i64 n8, .sl q9], .agg [.int .i64 n26, .int .i64 n27, .int .i64 n28, .sl q29]] h21 fun v30 h31 => ∃ b32 : Bool, v30 = .bool b32 ∧
 vif (!b32)
 (Q (.bool false) h31)
 (AC Try.prog 26 [.ptr p1] h31 fun v33 h34 => ∃ q35 : Option SL, v33 = .sl q35 ∧
 AC Try.prog 82 [.ptr p2] h34 fun v36 h37 => ∃ q38 : Option SL, v36 = .sl q38 ∧
 AC Try.prog 28 [.sl q35, .sl q38] h37 fun v39 h40 => ∃ b41 : Bool, v39 = .bool b41 ∧
 vif (!b41)
 (Q (.bool false) h40)
 (vif (decide (n3 ≥ 0))
 (vPtr p2 fun p42 =>
 ∃ q43 : Option SL, cellsAt h40 ⟨p42.b, p42.o + 0⟩ 1 = some [.sl q43] ∧
 vif (!(b17 == (decide (n3 < (slLen q43 : Int)))))
 (Q (.bool false) h40)
 (vif (decide (n3 < (slLen q43 : Int)))
 (vPtr p2 fun p44 =>
 ∃ q45 : Option SL, cellsAt h40 ⟨p44.b, p44.o + 0⟩ 1 = some [.sl q45] ∧
 vIdx q45 n3 4 fun p46 =>
 ∃ n47 : Int, ∃ n48 : Int, ∃ n49 : Int, ∃ q50 : Option SL, cellsAt h40 p46 4 = some [.int .i64 n47, .int .i64 n48, .int .i64 n49, .sl q50] ∧
 AC Try.prog 16 [.agg [.int .i64 n13, .int .i64 n14, .int .i64 n15, .sl q16], .agg [.int .i64 n47, .int .i64 n48, .int .i64 n49, .sl q50]] h40 fun v51 h52 => ∃ b53 : Bool, v51 = .bool b53 ∧
 vif (!b53)
 (Q (.bool false) h52)
 (vif (!(decide (n3 < (slLen q43 : Int))))
 (AC Try.prog 16 [.agg [.int .i64 n13, .int .i64 n14, .int .i64 n15, .sl q16], .agg [.int .i64 0, .int .i64 0, .int .i64 0, .sl none]] h52 fun v54 h55 => ∃ b56 : Bool, v54 = .bool b56 ∧
 vif (!b56)
 (Q (.bool false) h55)
 (AC Try.prog 31 [.ptr p1] h55 fun v57 h58 => ∃ q59 : Option SL, v57 = .sl q59 ∧
 AC Try.prog 83 [.ptr p2] h58 fun v60 h61 => ∃ q62 : Option SL, v60 = .sl q62 ∧
 vif ((slLen q59 : Int) != (slLen q62 : Int))
 (Q (.bool false) h61)
 (∃ (I64 : List AV → Heap → Prop) (m65 : List AV → Heap → Nat), I64 [.int .i64 0] h61 ∧
 ∀ n63 : Int, ∀ h66 : Heap, I64 [.int .i64 n63] h66 →
 vif (decide (n63 < (slLen q59 : Int)))
 (vIdx q59 n63 1 fun p67 =>
 ∃ s68 : List UInt8, cellsAt h66 p67 1 = some [.str s68] ∧
 vIdx q62 n63 1 fun p69 =>
 ∃ s70 : List UInt8, cellsAt h66 p69 1 = some [.str s70] ∧
 vif (!(s68 == s70))
 (Q (.bool false) h66)
 (((some [.int .i64 n13, .int .i64 n14, .int .i64 n15, .sl q16] : Option (List AV)) = some [.int .i64 n13, .int .i64 n14, .int .i64 n15, .sl q16] ∧ (some [.int .i64 n6, .int .i64 n7, .int .i64 n8, .sl q9] : Option (List AV)) = some [.int .i64 n6, .int .i64 n7, .int .i64 n8, .sl q9] ∧ True) ∧ I64 [.int .i64 (wrapK .i64 (n63 + 1))] h66 ∧ m65 [.int .i64 (wrapK .i64 (n63 + 1))] h66 < m65 [.int .i64 n63] h66))
 (Q (.bool true) h66))))
 (AC Try.prog 31 [.ptr p1] h52 fun v71 h72 => ∃ q73 : Option SL, v71 = .sl q73 ∧
 AC Try.prog 83 [.ptr p2] h72 fun v74 h75 => ∃ q76 : Option SL, v74 = .sl q76 ∧
 vif ((slLen q73 : Int) != (slLen q76 : Int))
 (Q (.bool false) h75)
 (∃ (I78 : List AV → Heap → Prop) (m79 : List AV → Heap → Nat), I78 [.int .i64 0] h75 ∧
 ∀ n77 : Int, ∀ h80 : Heap, I78 [.int .i64 n77] h80 →
 vif (decide (n77 < (slLen q73 : Int)))
 (vIdx q73 n77 1 fun p81 =>
 ∃ s82 : List UInt8, cellsAt h80 p81 1 = some [.str s82] ∧
 vIdx q76 n77 1 fun p83 =>
 ∃ s84 : List UInt8, cellsAt h80 p83 1 = some [.str s84] ∧
 vif (!(s82 == s84))
 (Q (.bool false) h80)
 (((some [.int .i64 n13, .int .i64 n14, .int .i64 n15, .sl q16] : Option (List AV)) = some [.int .i64 n13, .int .i64 n14, .int .i64 n15, .sl q16] ∧ (some [.int .i64 n6, .int .i64 n7, .int .i64 n8, .sl q9] : Option (List AV)) = some [.int .i64 n6, .int .i64 n7, .int .i64 n8, .sl q9] ∧ True) ∧ I78 [.int .i64 (wrapK .i64 (n77 + 1))] h80 ∧ m79 [.int .i64 (wrapK .i64 (n77 + 1))] h80 < m79 [.int .i64 n77] h80))
 (Q (.bool true) h80)))))
 (vif (!(decide (n3 < (slLen q43 : Int))))
 (AC Try.prog 16 [.agg [.int .i64 n13, .int .i64 n14, .int .i64 n15, .sl q16], .agg [.int .i64 0, .int .i64 0, .int .i64 0, .sl none]] h40 fun v85 h86 => ∃ b87 : Bool, v85 = .bool b87 ∧
 vif (!b87)
 (Q (.bool false) h86)
 (AC Try.prog 31 [.ptr p1] h86 fun v88 h89 => ∃ q90 : Option SL, v88 = .sl q90 ∧
 AC Try.prog 83 [.ptr p2] h89 fun v91 h92 => ∃ q93 : Option SL, v91 = .sl q93 ∧
 vif ((slLen q90 : Int) != (slLen q93 : Int))
 (Q (.bool false) h92)
 (∃ (I95 : List AV → Heap → Prop) (m96 : List AV → Heap → Nat), I95 [.int .i64 0] h92 ∧
 ∀ n94 : Int, ∀ h97 : Heap, I95 [.int .i64 n94] h97 →
 vif (decide (n94 < (slLen q90 : Int)))
 (vIdx q90 n94 1 fun p98 =>
 ∃ s99 : List UInt8, cellsAt h97 p98 1 = some [.str s99] ∧
 vIdx q93 n94 1 fun p100 =>
 ∃ s101 : List UInt8, cellsAt h97 p100 1 = some [.str s101] ∧
 vif (!(s99 == s101))
 (Q (.bool false) h97)
 (((some [.int .i64 n13, .int .i64 n14, .int .i64 n15, .sl q16] : Option (List AV)) = some [.int .i64 n13, .int .i64 n14, .int .i64 n15, .sl q16] ∧ (some [.int .i64 n6, .int .i64 n7, .int .i64 n8, .sl q9] : Option (List AV)) = some [.int .i64 n6, .int .i64 n7, .int .i64 n8, .sl q9] ∧ True) ∧ I95 [.int .i64 (wrapK .i64 (n94 + 1))] h97 ∧ m96 [.int .i64 (wrapK .i64 (n94 + 1))] h97 < m96 [.int .i64 n94] h97))
 (Q (.bool true) h97))))
 (AC Try.prog 31 [.ptr p1] h40 fun v102 h103 => ∃ q104 : Option SL, v102 = .sl q104 ∧
 AC Try.prog 83 [.ptr p2] h103 fun v105 h106 => ∃ q107 : Option SL, v105 = .sl q107 ∧
 vif ((slLen q104 : Int) != (slLen q107 : Int))
 (Q (.bool false) h106)
 (∃ (I109 : List AV → Heap → Prop) (m110 : List AV → Heap → Nat), I109 [.int .i64 0] h106 ∧
 ∀ n108 : Int, ∀ h111 : Heap, I109 [.int .i64 n108] h111 →
 vif (decide (n108 < (slLen q104 : Int)))
 (vIdx q104 n108 1 fun p112 =>
 ∃ s113 : List UInt8, cellsAt h111 p112 1 = some [.str s113] ∧
 vIdx q107 n108 1 fun p114 =>
 ∃ s115 : List UInt8, cellsAt h111 p114 1 = some [.str s115] ∧
 vif (!(s113 == s115))
 (Q (.bool false) h111)
 (((some [.int .i64 n13, .int .i64 n14, .int .i64 n15, .sl q16] : Option (List AV)) = some [.int .i64 n13, .int .i64 n14, .int .i64 n15, .sl q16] ∧ (some [.int .i64 n6, .int .i64 n7, .int .i64 n8, .sl q9] : Option (List AV)) = some [.int .i64 n6, .int .i64 n7, .int .i64 n8, .sl q9] ∧ True) ∧ I109 [.int .i64 (wrapK .i64 (n108 + 1))] h111 ∧ m110 [.int .i64 (wrapK .i64 (n108 + 1))] h111 < m110 [.int .i64 n108] h111))
 (Q (.bool true) h111))))))
 (vif (!(b17 == false))
 (Q (.bool false) h40)
 (AC Try.prog 16 [.agg [.int .i64 n13, .int .i64 n14, .int .i64 n15, .sl q16], .agg [.int .i64 0, .int .i64 0, .int .i64 0, .sl none]] h40 fun v116 h117 => ∃ b118 : Bool, v116 = .bool b118 ∧
 vif (!b118)
 (Q (.bool false) h117)
 (AC Try.prog 31 [.ptr p1] h117 fun v119 h120 => ∃ q121 : Option SL, v119 = .sl q121 ∧
 AC Try.prog 83 [.ptr p2] h120 fun v122 h123 => ∃ q124 : Option SL, v122 = .sl q124 ∧
 vif ((slLen q121 : Int) != (slLen q124 : Int))
 (Q (.bool false) h123)
 (∃ (I126 : List AV → Heap → Prop) (m127 : List AV → Heap → Nat), I126 [.int .i64 0] h123 ∧
 ∀ n125 : Int, ∀ h128 : Heap, I126 [.int .i64 n125] h128 →
 vif (decide (n125 < (slLen q121 : Int)))
 (vIdx q121 n125 1 fun p129 =>
 ∃ s130 : List UInt8, cellsAt h128 p129 1 = some [.str s130] ∧
 vIdx q124 n125 1 fun p131 =>
 ∃ s132 : List UInt8, cellsAt h128 p131 1 = some [.str s132] ∧
 vif (!(s130 == s132))
 (Q (.bool false) h128)
 (((some [.int .i64 n13, .int .i64 n14, .int .i64 n15, .sl q16] : Option (List AV)) = some [.int .i64 n13, .int .i64 n14, .int .i64 n15, .sl q16] ∧ (some [.int .i64 n6, .int .i64 n7, .int .i64 n8, .sl q9] : Option (List AV)) = some [.int .i64 n6, .int .i64 n7, .int .i64 n8, .sl q9] ∧ True) ∧ I126 [.int .i64 (wrapK .i64 (n125 + 1))] h128 ∧ m127 [.int .i64 (wrapK .i64 (n125 + 1))] h128 < m127 [.int .i64 n125] h128))
 (Q (.bool true) h128)))))))))
theorem ac25 {p1 : Option PA} {p2 : Option PA} {n3 : Int} {h : Heap} {Q : AV → Heap → Prop} (hk : vc25 p1 p2 n3 h Q) : AC Try.prog 25 [.ptr p1, .ptr p2, .int .i64 n3] h Q :=
 AC_by (H := hintsOf [7, 9] [(0, [14], [])]) (by kernel_rfl) (by kernel_rfl) hk

/-- oxbowlaw14.EditApplies: what it asks. -/
def vc5 (q1 : Option SL) (n2 : Int) (h : Heap) (Q : AV → Heap → Prop) : Prop :=
 AC Try.prog 22 [] h fun v3 h4 => ∃ p5 : Option PA, v3 = .ptr p5 ∧
 PNew [.sl none, .int .i64 0, .int .i64 0, .int .i64 0, .sl none, .bool false] true h4 fun a6 h7 =>
 AC Try.prog 13 [] h7 fun v8 h9 => ∃ b10 : Bool, v8 = .bool b10 ∧
 vif (!b10)
 (Q (.bool false) h9)
 (vif (p5.isNone)
 (Q (.bool false) h9)
 (∃ (I12 : List AV → Heap → Prop) (m13 : List AV → Heap → Nat), I12 [.int .i64 0] h9 ∧
 ∀ n11 : Int, ∀ h14 : Heap, I12 [.int .i64 n11] h14 →
 vif (decide (n11 < (slLen q1 : Int)))
 (vif (decide (n11 < 60))
 (vIdx q1 n11 4 fun p15 =>
 ∃ n16 : Int, ∃ n17 : Int, ∃ n18 : Int, ∃ q19 : Option SL, cellsAt h14 p15 4 = some [.int .i64 n16, .int .i64 n17, .int .i64 n18, .sl q19] ∧
 AC Try.prog 12 [.agg [.int .i64 n16, .int .i64 n17, .int .i64 n18, .sl q19]] h14 fun v20 h21 => ∃ b22 : Bool, v20 = .bool b22 ∧
 vif b22
 ((True) ∧ I12 [.int .i64 (wrapK .i64 (n11 + 1))] h21 ∧ m13 [.int .i64 (wrapK .i64 (n11 + 1))] h21 < m13 [.int .i64 n11] h14)
 (vIdx q1 n11 4 fun p23 =>
 ∃ n24 : Int, ∃ n25 : Int, ∃ n26 : Int, ∃ q27 : Option SL, cellsAt h21 p23 4 = some [.int .i64 n24, .int .i64 n25, .int .i64 n26, .sl q27] ∧
 vIdx q1 n11 4 fun p28 =>
 ∃ n29 : Int, ∃ n30 : Int, ∃ n31 : Int, ∃ q32 : Option SL, cellsAt h21 p28 4 = some [.int .i64 n29, .int .i64 n30, .int .i64 n31, .sl q32] ∧
 AC Try.prog 23 [.ptr p5, .agg [.int .i64 n24, .int .i64 n25, .int .i64 n26, .sl q27]] h21 fun v33 h34 => ∃ n35 : Int, v33 = .int .i64 n35 ∧
 (∃ n42 : Int, ∃ n43 : Int, ∃ n44 : Int, ∃ q45 : Option SL, cellsAt h34 p28 4 = some [.int .i64 n42, .int .i64 n43, .int .i64 n44, .sl q45] ∧
 LV.val (.agg [.int .i64 n42, .int .i64 n43, .int .i64 n44, .sl q45]) = LV.val (.agg [.int .i64 n29, .int .i64 n30, .int .i64 n31, .sl q32])) ∧
 AC Try.prog 24 [.ptr (some ⟨a6, 0⟩), .agg [.int .i64 n29, .int .i64 n30, .int .i64 n31, .sl q32]] h34 fun v36 h37 => ∃ n38 : Int, v36 = .int .i64 n38 ∧
 vif (n35 != n38)
 (Q (.bool false) h37)
 (AC Try.prog 25 [.ptr p5, .ptr (some ⟨a6, 0⟩), .int .i64 n2] h37 fun v39 h40 => ∃ b41 : Bool, v39 = .bool b41 ∧
 vif (!b41)
 (Q (.bool false) h40)
 ((True) ∧ I12 [.int .i64 (wrapK .i64 (n11 + 1))] h40 ∧ m13 [.int .i64 (wrapK .i64 (n11 + 1))] h40 < m13 [.int .i64 n11] h14))))
 (Q (.bool true) h14))
 (Q (.bool true) h14)))
theorem ac5 {q1 : Option SL} {n2 : Int} {h : Heap} {Q : AV → Heap → Prop} (hk : vc5 q1 n2 h Q) : AC Try.prog 5 [.sl q1, .int .i64 n2] h Q :=
 AC_by (H := hintsOf [] [(0, [7], [])]) (by kernel_rfl) (by kernel_rfl) hk

end Go.Proofs
