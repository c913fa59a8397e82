/- Conditions, printed. -/
import Derived.Test.YtfafgnmlnhklaaaGreatAG7
import Derived.Test.YtfafgnmlnhklaaaGreatProg
import Derived.KernelRfl
namespace Go.Proofs
open Go.Ab
set_option maxRecDepth 100000
set_option linter.unusedVariables false

/-- oxbowlaw19.EvalTells: what it asks. -/
def vc3 (q1 : Option SL) (n2 : Int) (q3 : Option SL) (h : Heap) (Q : AV → Heap → Prop) : Prop :=
 AC Tryz.prog 7 [.agg [.sl q1, .int .i64 n2], .sl q3] h fun v4 h5 => ∃ b6 : Bool, v4 = .bool b6 ∧
 vif b6
 (AC Tryz.prog 8 [] h5 fun v7 h8 => ∃ b9 : Bool, v7 = .bool b9 ∧
 Q (.bool b9) h8)
 (AC Tryz.prog 9 [.agg [.sl q1, .int .i64 n2], .sl q3] h5 fun v10 h11 => ∃ q12 : Option SL, ∃ n13 : Int, ∃ q14 : Option SL, ∃ n15 : Int, v10 = .tup [.agg [.sl q12, .int .i64 n13, .sl q14], .int .i64 n15] ∧
 AC Tryz.prog 10 [.agg [.sl q1, .int .i64 n2], .sl q3] h11 fun v16 h17 => ∃ q18 : Option SL, ∃ n19 : Int, ∃ q20 : Option SL, ∃ n21 : Int, v16 = .tup [.agg [.sl q18, .int .i64 n19, .sl q20], .int .i64 n21] ∧
 AC Tryz.prog 11 [.agg [.sl q1, .int .i64 n2], .sl q3] h17 fun v22 h23 => ∃ q24 : Option SL, ∃ n25 : Int, v22 = .tup [.sl q24, .int .i64 n25] ∧
 AC Tryz.prog 8 [] h23 fun v26 h27 => ∃ b28 : Bool, v26 = .bool b28 ∧
 vif (!b28)
 (Q (.bool false) h27)
 (vif (n15 != n21)
 (Q (.bool false) h27)
 (vif (n25 != n21)
 (Q (.bool false) h27)
 (AC Tryz.prog 12 [.agg [.sl q12, .int .i64 n13, .sl q14], .agg [.sl q18, .int .i64 n19, .sl q20]] h27 fun v29 h30 => ∃ b31 : Bool, v29 = .bool b31 ∧
 vif (!b31)
 (Q (.bool false) h30)
 (vif (n21 != 0)
 (Q (.bool ((slLen q24 : Int) == 0)) h30)
 (AC Tryz.prog 13 [.agg [.sl q1, .int .i64 n2], .sl q3] h30 fun v32 h33 => ∃ q34 : Option SL, ∃ q35 : Option SL, ∃ n36 : Int, v32 = .tup [.sl q34, .sl q35, .int .i64 n36] ∧
 AC Tryz.prog 14 [.sl q24, .sl q34] h33 fun v37 h38 => ∃ b39 : Bool, v37 = .bool b39 ∧
 Q (.bool b39) h38))))))
theorem ac3 {q1 : Option SL} {n2 : Int} {q3 : Option SL} {h : Heap} {Q : AV → Heap → Prop} (hk : vc3 q1 n2 q3 h Q) : AC Tryz.prog 3 [.agg [.sl q1, .int .i64 n2], .sl q3] h Q :=
 AC_by (H := hintsOf [2, 5, 7] []) (by kernel_rfl) (by kernel_rfl) hk

/-- oxbowlaw19.EvalGoes: what it asks. -/
def vc4 (q1 : Option SL) (n2 : Int) (q3 : Option SL) (h : Heap) (Q : AV → Heap → Prop) : Prop :=
 AC Tryz.prog 7 [.agg [.sl q1, .int .i64 n2], .sl q3] h fun v4 h5 => ∃ b6 : Bool, v4 = .bool b6 ∧
 vif b6
 (AC Tryz.prog 8 [] h5 fun v7 h8 => ∃ b9 : Bool, v7 = .bool b9 ∧
 Q (.bool b9) h8)
 (AC Tryz.prog 9 [.agg [.sl q1, .int .i64 n2], .sl q3] h5 fun v10 h11 => ∃ q12 : Option SL, ∃ n13 : Int, ∃ q14 : Option SL, ∃ n15 : Int, v10 = .tup [.agg [.sl q12, .int .i64 n13, .sl q14], .int .i64 n15] ∧
 AC Tryz.prog 15 [.agg [.sl q1, .int .i64 n2]] h11 fun v16 h17 => ∃ n18 : Int, v16 = .int .i64 n18 ∧
 AC Tryz.prog 8 [] h17 fun v19 h20 => ∃ b21 : Bool, v19 = .bool b21 ∧
 vif (!b21)
 (AC Tryz.prog 8 [] h20 fun v22 h23 => ∃ b24 : Bool, v22 = .bool b24 ∧
 Q (.bool b24) h23)
 (vif (n15 != 0)
 (AC Tryz.prog 8 [] h20 fun v25 h26 => ∃ b27 : Bool, v25 = .bool b27 ∧
 Q (.bool b27) h26)
 (vif (decide (n18 < 0))
 (AC Tryz.prog 8 [] h20 fun v28 h29 => ∃ b30 : Bool, v28 = .bool b30 ∧
 Q (.bool b30) h29)
 (AC Tryz.prog 11 [.agg [.sl q1, .int .i64 n2], .sl q3] h20 fun v31 h32 => ∃ q33 : Option SL, ∃ n34 : Int, v31 = .tup [.sl q33, .int .i64 n34] ∧
 vif (n34 != 0)
 (Q (.bool false) h32)
 (vif ((slLen q14 : Int) != (wrapK .i64 (n13 + 1)))
 (Q (.bool false) h32)
 (vIdx q1 n18 6 fun p35 =>
 ∃ n36 : Int, cellsAt h32 ⟨p35.b, p35.o + 4⟩ 1 = some [.int .i64 n36] ∧
 vif (decide (n13 > n36))
 (Q (.bool false) h32)
 (∃ (I38 : List AV → Heap → Prop) (m39 : List AV → Heap → Nat), I38 [.int .i64 0] h32 ∧
 ∀ n37 : Int, ∀ h40 : Heap, I38 [.int .i64 n37] h40 →
 vif (decide (n37 < (slLen q14 : Int)))
 (vIdx q1 n18 6 fun p41 =>
 ∃ n42 : Int, cellsAt h40 ⟨p41.b, p41.o + 4⟩ 1 = some [.int .i64 n42] ∧
 vif (n37 == n42)
 (vIdx q33 n18 1 fun p43 =>
 ∃ q44 : Option SL, cellsAt h40 p43 1 = some [.sl q44] ∧
 vIdx q14 n13 1 fun p45 =>
 ∃ q46 : Option SL, cellsAt h40 p45 1 = some [.sl q46] ∧
 AC Tryz.prog 17 [.sl q44, .sl q46] h40 fun v47 h48 => ∃ b49 : Bool, v47 = .bool b49 ∧
 Q (.bool b49) h48)
 (PSlice 1 q33 0 (some n18) none fun q50 =>
 vIdx q14 n37 1 fun p51 =>
 ∃ q52 : Option SL, cellsAt h40 p51 1 = some [.sl q52] ∧
 AC Tryz.prog 16 [.agg [.sl q1, .int .i64 n2], .sl q50, .sl q52] h40 fun v53 h54 => ∃ q55 : Option SL, ∃ n56 : Int, v53 = .tup [.sl q55, .int .i64 n56] ∧
 vif (n56 != 0)
 (Q (.bool false) h54)
 (vif (decide (n37 < n13))
 (vIdx q14 (wrapK .i64 (n37 + 1)) 1 fun p57 =>
 ∃ q58 : Option SL, cellsAt h54 p57 1 = some [.sl q58] ∧
 AC Tryz.prog 17 [.sl q55, .sl q58] h54 fun v59 h60 => ∃ b61 : Bool, v59 = .bool b61 ∧
 vif (!b61)
 (Q (.bool false) h60)
 (vIdx q14 n37 1 fun p62 =>
 ∃ q63 : Option SL, cellsAt h60 p62 1 = some [.sl q63] ∧
 AC Tryz.prog 18 [.sl q55, .sl q63] h60 fun v64 h65 => ∃ b66 : Bool, v64 = .bool b66 ∧
 vif b66
 (Q (.bool false) h65)
 (vif (n37 == n13)
 (vIdx q14 n37 1 fun p67 =>
 ∃ q68 : Option SL, cellsAt h65 p67 1 = some [.sl q68] ∧
 AC Tryz.prog 18 [.sl q55, .sl q68] h65 fun v69 h70 => ∃ b71 : Bool, v69 = .bool b71 ∧
 vif (!b71)
 (Q (.bool false) h70)
 (((some [.sl q12, .int .i64 n13, .sl q14] : Option (List AV)) = some [.sl q12, .int .i64 n13, .sl q14] ∧ (some [.sl q1, .int .i64 n2] : Option (List AV)) = some [.sl q1, .int .i64 n2] ∧ True) ∧ I38 [.int .i64 (wrapK .i64 (n37 + 1))] h70 ∧ m39 [.int .i64 (wrapK .i64 (n37 + 1))] h70 < m39 [.int .i64 n37] h40))
 (((some [.sl q12, .int .i64 n13, .sl q14] : Option (List AV)) = some [.sl q12, .int .i64 n13, .sl q14] ∧ (some [.sl q1, .int .i64 n2] : Option (List AV)) = some [.sl q1, .int .i64 n2] ∧ True) ∧ I38 [.int .i64 (wrapK .i64 (n37 + 1))] h65 ∧ m39 [.int .i64 (wrapK .i64 (n37 + 1))] h65 < m39 [.int .i64 n37] h40))))
 (vif (n37 == n13)
 (vIdx q14 n37 1 fun p72 =>
 ∃ q73 : Option SL, cellsAt h54 p72 1 = some [.sl q73] ∧
 AC Tryz.prog 18 [.sl q55, .sl q73] h54 fun v74 h75 => ∃ b76 : Bool, v74 = .bool b76 ∧
 vif (!b76)
 (Q (.bool false) h75)
 (((some [.sl q12, .int .i64 n13, .sl q14] : Option (List AV)) = some [.sl q12, .int .i64 n13, .sl q14] ∧ (some [.sl q1, .int .i64 n2] : Option (List AV)) = some [.sl q1, .int .i64 n2] ∧ True) ∧ I38 [.int .i64 (wrapK .i64 (n37 + 1))] h75 ∧ m39 [.int .i64 (wrapK .i64 (n37 + 1))] h75 < m39 [.int .i64 n37] h40))
 (((some [.sl q12, .int .i64 n13, .sl q14] : Option (List AV)) = some [.sl q12, .int .i64 n13, .sl q14] ∧ (some [.sl q1, .int .i64 n2] : Option (List AV)) = some [.sl q1, .int .i64 n2] ∧ True) ∧ I38 [.int .i64 (wrapK .i64 (n37 + 1))] h54 ∧ m39 [.int .i64 (wrapK .i64 (n37 + 1))] h54 < m39 [.int .i64 n37] h40)))))
 (vIdx q33 n18 1 fun p77 =>
 ∃ q78 : Option SL, cellsAt h40 p77 1 = some [.sl q78] ∧
 vIdx q14 n13 1 fun p79 =>
 ∃ q80 : Option SL, cellsAt h40 p79 1 = some [.sl q80] ∧
 AC Tryz.prog 17 [.sl q78, .sl q80] h40 fun v81 h82 => ∃ b83 : Bool, v81 = .bool b83 ∧
 Q (.bool b83) h82))))))))
theorem ac4 {q1 : Option SL} {n2 : Int} {q3 : Option SL} {h : Heap} {Q : AV → Heap → Prop} (hk : vc4 q1 n2 q3 h Q) : AC Tryz.prog 4 [.agg [.sl q1, .int .i64 n2], .sl q3] h Q :=
 AC_by (H := hintsOf [2, 5] [(0, [10], [])]) (by kernel_rfl) (by kernel_rfl) hk

/-- oxbowlaw19.EvalOrder: what it asks. -/
def vc5 (q1 : Option SL) (n2 : Int) (q3 : Option SL) (h : Heap) (Q : AV → Heap → Prop) : Prop :=
 AC Tryz.prog 7 [.agg [.sl q1, .int .i64 n2], .sl q3] h fun v4 h5 => ∃ b6 : Bool, v4 = .bool b6 ∧
 vif b6
 (AC Tryz.prog 8 [] h5 fun v7 h8 => ∃ b9 : Bool, v7 = .bool b9 ∧
 Q (.bool b9) h8)
 (∃ (I12 : List AV → Heap → Prop) (m13 : List AV → Heap → Nat), I12 [.sl none, .int .i64 0] h5 ∧
 ∀ q10 : Option SL, ∀ n11 : Int, ∀ h14 : Heap, I12 [.sl q10, .int .i64 n11] h14 →
 vif (decide (n11 < (slLen q3 : Int)))
 (vIdx q3 n11 1 fun p15 =>
 ∃ q16 : Option SL, cellsAt h14 p15 1 = some [.sl q16] ∧
 AC Tryz.prog 19 [.sl q16] h14 fun v17 h18 => ∃ q19 : Option SL, v17 = .sl q19 ∧
 PNew [.sl q19] true h18 fun a20 h21 =>
 PAppendS 1 24 q10 (some ⟨a20, 0, 1, 1, 0⟩) h21 fun q22 h23 =>
 ((some [.sl q1, .int .i64 n2] : Option (List AV)) = some [.sl q1, .int .i64 n2] ∧ True) ∧ I12 [.sl q22, .int .i64 (wrapK .i64 (n11 + 1))] h23 ∧ m13 [.sl q22, .int .i64 (wrapK .i64 (n11 + 1))] h23 < m13 [.sl q10, .int .i64 n11] h14)
 (AC Tryz.prog 9 [.agg [.sl q1, .int .i64 n2], .sl q3] h14 fun v24 h25 => ∃ q26 : Option SL, ∃ n27 : Int, ∃ q28 : Option SL, ∃ n29 : Int, v24 = .tup [.agg [.sl q26, .int .i64 n27, .sl q28], .int .i64 n29] ∧
 AC Tryz.prog 9 [.agg [.sl q1, .int .i64 n2], .sl q10] h25 fun v30 h31 => ∃ q32 : Option SL, ∃ n33 : Int, ∃ q34 : Option SL, ∃ n35 : Int, v30 = .tup [.agg [.sl q32, .int .i64 n33, .sl q34], .int .i64 n35] ∧
 AC Tryz.prog 8 [] h31 fun v36 h37 => ∃ b38 : Bool, v36 = .bool b38 ∧
 vif b38
 (vif (n29 == n35)
 (AC Tryz.prog 12 [.agg [.sl q26, .int .i64 n27, .sl q28], .agg [.sl q32, .int .i64 n33, .sl q34]] h37 fun v39 h40 => ∃ b41 : Bool, v39 = .bool b41 ∧
 Q (.bool b41) h40)
 (Q (.bool false) h37))
 (Q (.bool false) h37)))
theorem ac5 {q1 : Option SL} {n2 : Int} {q3 : Option SL} {h : Heap} {Q : AV → Heap → Prop} (hk : vc5 q1 n2 q3 h Q) : AC Tryz.prog 5 [.agg [.sl q1, .int .i64 n2], .sl q3] h Q :=
 AC_by (H := hintsOf [2, 7, 9] [(0, [5, 6], [])]) (by kernel_rfl) (by kernel_rfl) hk

/-- oxbowlaw18.OperApplies: what it asks. -/
def vc6 (n1 : Int) (q2 : Option SL) (n3 : Int) (n4 : Int) (n5 : Int) (q6 : Option SL) (q7 : Option SL) (h : Heap) (Q : AV → Heap → Prop) : Prop :=
 AC Tryz.prog 20 [.sl q7] h fun v8 h9 => ∃ b10 : Bool, v8 = .bool b10 ∧
 vif b10
 (AC Tryz.prog 21 [] h9 fun v11 h12 => ∃ b13 : Bool, v11 = .bool b13 ∧
 Q (.bool b13) h12)
 (vif (decide ((slLen q2 : Int) > 100))
 (AC Tryz.prog 21 [] h9 fun v14 h15 => ∃ b16 : Bool, v14 = .bool b16 ∧
 Q (.bool b16) h15)
 (AC Tryz.prog 22 [.agg [.int .i64 n1, .sl q2, .int .i64 n3, .int .i64 n4, .int .i64 n5, .sl q6], .sl q7] h9 fun v17 h18 => ∃ q19 : Option SL, ∃ n20 : Int, v17 = .tup [.sl q19, .int .i64 n20] ∧
 AC Tryz.prog 23 [.agg [.int .i64 n1, .sl q2, .int .i64 n3, .int .i64 n4, .int .i64 n5, .sl q6], .sl q7] h18 fun v21 h22 => ∃ q23 : Option SL, ∃ n24 : Int, v21 = .tup [.sl q23, .int .i64 n24] ∧
 AC Tryz.prog 21 [] h22 fun v25 h26 => ∃ b27 : Bool, v25 = .bool b27 ∧
 vif b27
 (vif (n20 == n24)
 (AC Tryz.prog 17 [.sl q19, .sl q23] h26 fun v28 h29 => ∃ b30 : Bool, v28 = .bool b30 ∧
 vif b30
 (AC Tryz.prog 24 [.agg [.int .i64 n1, .sl q2, .int .i64 n3, .int .i64 n4, .int .i64 n5, .sl q6]] h29 fun v31 h32 => ∃ b33 : Bool, v31 = .bool b33 ∧
 (LV.val (.agg [.int .i64 n1, .sl q2, .int .i64 n3, .int .i64 n4, .int .i64 n5, .sl q6]) = LV.val (.agg [.int .i64 n1, .sl q2, .int .i64 n3, .int .i64 n4, .int .i64 n5, .sl q6])) ∧
 AC Tryz.prog 25 [.agg [.int .i64 n1, .sl q2, .int .i64 n3, .int .i64 n4, .int .i64 n5, .sl q6]] h32 fun v34 h35 => ∃ b36 : Bool, v34 = .bool b36 ∧
 Q (.bool (b33 == b36)) h35)
 ((LV.val (.tup []) = LV.val (.tup [])) ∧
 Q (.bool false) h29))
 ((LV.val (.tup []) = LV.val (.tup [])) ∧
 Q (.bool false) h26))
 ((LV.val (.tup []) = LV.val (.tup [])) ∧
 Q (.bool false) h26)))
theorem ac6 {n1 : Int} {q2 : Option SL} {n3 : Int} {n4 : Int} {n5 : Int} {q6 : Option SL} {q7 : Option SL} {h : Heap} {Q : AV → Heap → Prop} (hk : vc6 n1 q2 n3 n4 n5 q6 q7 h Q) : AC Tryz.prog 6 [.agg [.int .i64 n1, .sl q2, .int .i64 n3, .int .i64 n4, .int .i64 n5, .sl q6], .sl q7] h Q :=
 AC_by (H := hintsOf [2] []) (by kernel_rfl) (by kernel_rfl) hk

/-- oxbowlaw19.large: what it asks. -/
def vc7 (q1 : Option SL) (n2 : Int) (q3 : Option SL) (h : Heap) (Q : AV → Heap → Prop) : Prop :=
 AC Tryz.prog 26 [.sl q1, .int .i64 0] h fun v4 h5 => ∃ b6 : Bool, v4 = .bool b6 ∧
 vif b6
 (Q (.bool true) h5)
 (vif (decide ((slLen q3 : Int) > 10))
 (Q (.bool true) h5)
 (∃ (I8 : List AV → Heap → Prop) (m9 : List AV → Heap → Nat), I8 [.int .i64 0] h5 ∧
 ∀ n7 : Int, ∀ h10 : Heap, I8 [.int .i64 n7] h10 →
 vif (decide (n7 < (slLen q3 : Int)))
 (vIdx q3 n7 1 fun p11 =>
 ∃ q12 : Option SL, cellsAt h10 p11 1 = some [.sl q12] ∧
 vif (decide ((slLen q12 : Int) > 5000))
 (Q (.bool true) h10)
 (vIdx q3 n7 1 fun p13 =>
 ∃ q14 : Option SL, cellsAt h10 p13 1 = some [.sl q14] ∧
 vif (decide ((slLen q14 : Int) > 60))
 (vIdx q3 n7 1 fun p15 =>
 ∃ q16 : Option SL, cellsAt h10 p15 1 = some [.sl q16] ∧
 vif (decide ((slLen q16 : Int) ≤ 4096))
 (Q (.bool true) h10)
 (((some [.sl q1, .int .i64 n2] : Option (List AV)) = some [.sl q1, .int .i64 n2] ∧ True) ∧ I8 [.int .i64 (wrapK .i64 (n7 + 1))] h10 ∧ m9 [.int .i64 (wrapK .i64 (n7 + 1))] h10 < m9 [.int .i64 n7] h10))
 (((some [.sl q1, .int .i64 n2] : Option (List AV)) = some [.sl q1, .int .i64 n2] ∧ True) ∧ I8 [.int .i64 (wrapK .i64 (n7 + 1))] h10 ∧ m9 [.int .i64 (wrapK .i64 (n7 + 1))] h10 < m9 [.int .i64 n7] h10)))
 (Q (.bool false) h10)))
theorem ac7 {q1 : Option SL} {n2 : Int} {q3 : Option SL} {h : Heap} {Q : AV → Heap → Prop} (hk : vc7 q1 n2 q3 h Q) : AC Tryz.prog 7 [.agg [.sl q1, .int .i64 n2], .sl q3] h Q :=
 AC_by (H := hintsOf [2] [(0, [5], [])]) (by kernel_rfl) (by kernel_rfl) hk

/-- eval.Eval: what it asks. -/
def vc9 (q1 : Option SL) (n2 : Int) (q3 : Option SL) (h : Heap) (Q : AV → Heap → Prop) : Prop :=
 AC Tryz.prog 29 [.agg [.sl q1, .int .i64 n2], .sl q3] h fun v4 h5 => ∃ p6 : Option PA, ∃ n7 : Int, v4 = .tup [.ptr p6, .int .i64 n7] ∧
 vif (n7 != 0)
 (Q (.tup [.agg [.sl none, .int .i64 0, .sl none], .int .i64 n7]) h5)
 (vPtr p6 fun p8 =>
 ∃ q9 : Option SL, cellsAt h5 ⟨p8.b, p8.o + 0 + 0⟩ 1 = some [.sl q9] ∧
 vPtr p6 fun p10 =>
 ∃ q11 : Option SL, cellsAt h5 ⟨p10.b, p10.o + 3⟩ 1 = some [.sl q11] ∧
 vPtr p6 fun p12 =>
 ∃ q13 : Option SL, cellsAt h5 ⟨p12.b, p12.o + 3⟩ 1 = some [.sl q13] ∧
 AC Tryz.prog 30 [.sl q9] h5 fun v14 h15 => ∃ q16 : Option SL, v14 = .sl q16 ∧
 (∃ q25 : Option SL, cellsAt h15 ⟨p12.b, p12.o + 3⟩ 1 = some [.sl q25] ∧
 LV.val (.sl q25) = LV.val (.sl q13)) ∧
 (∃ q24 : Option SL, cellsAt h15 ⟨p10.b, p10.o + 3⟩ 1 = some [.sl q24] ∧
 LV.val (.sl q24) = LV.val (.sl q11)) ∧
 (LV.val (.int .i64 n2) = LV.val (.int .i64 n2)) ∧
 vIdx q16 n2 1 fun p17 =>
 ∃ q18 : Option SL, cellsAt h15 p17 1 = some [.sl q18] ∧
 AC Tryz.prog 30 [.sl q13] h15 fun v19 h20 => ∃ q21 : Option SL, v19 = .sl q21 ∧
 (∃ q23 : Option SL, cellsAt h20 p17 1 = some [.sl q23] ∧
 LV.val (.sl q23) = LV.val (.sl q18)) ∧
 (∃ q22 : Option SL, cellsAt h20 ⟨p10.b, p10.o + 3⟩ 1 = some [.sl q22] ∧
 LV.val (.sl q22) = LV.val (.sl q11)) ∧
 (LV.val (.int .i64 n2) = LV.val (.int .i64 n2)) ∧
 Q (.tup [.agg [.sl q18, .int .i64 (maxI2 0 (wrapK .i64 ((slLen q11 : Int) - 1))), .sl q21], .int .i64 0]) h20)
theorem ac9 {q1 : Option SL} {n2 : Int} {q3 : Option SL} {h : Heap} {Q : AV → Heap → Prop} (hk : vc9 q1 n2 q3 h Q) : AC Tryz.prog 9 [.agg [.sl q1, .int .i64 n2], .sl q3] h Q :=
 AC_by (H := hintsOf [2, 4] []) (by kernel_rfl) (by kernel_rfl) hk

/-- oxbowref19.Eval: what it asks. -/
def vc10 (q1 : Option SL) (n2 : Int) (q3 : Option SL) (h : Heap) (Q : AV → Heap → Prop) : Prop :=
 AC Tryz.prog 31 [.agg [.sl q1, .int .i64 n2]] h fun v4 h5 => ∃ b6 : Bool, v4 = .bool b6 ∧
 vif (!b6)
 (Q (.tup [.agg [.sl none, .int .i64 0, .sl none], .int .i64 170]) h5)
 (AC Tryz.prog 32 [.sl q3] h5 fun v7 h8 => ∃ n9 : Int, v7 = .int .i64 n9 ∧
 vif (n9 != 0)
 (Q (.tup [.agg [.sl none, .int .i64 0, .sl none], .int .i64 n9]) h8)
 (AC Tryz.prog 13 [.agg [.sl q1, .int .i64 n2], .sl q3] h8 fun v10 h11 => ∃ q12 : Option SL, ∃ q13 : Option SL, ∃ n14 : Int, v10 = .tup [.sl q12, .sl q13, .int .i64 n14] ∧
 vif (n14 != 0)
 (Q (.tup [.agg [.sl none, .int .i64 0, .sl none], .int .i64 n14]) h11)
 (vIdx q12 n2 1 fun p15 =>
 ∃ q16 : Option SL, cellsAt h11 p15 1 = some [.sl q16] ∧
 vif (decide ((slLen q13 : Int) > 0))
 (Q (.tup [.agg [.sl q16, .int .i64 (wrapK .i64 ((slLen q13 : Int) - 1)), .sl q13], .int .i64 0]) h11)
 (Q (.tup [.agg [.sl q16, .int .i64 0, .sl q13], .int .i64 0]) h11))))
theorem ac10 {q1 : Option SL} {n2 : Int} {q3 : Option SL} {h : Heap} {Q : AV → Heap → Prop} (hk : vc10 q1 n2 q3 h Q) : AC Tryz.prog 10 [.agg [.sl q1, .int .i64 n2], .sl q3] h Q :=
 AC_by (H := hintsOf [2, 4, 10] []) (by kernel_rfl) (by kernel_rfl) hk

/-- eval.Bags: what it asks. -/
def vc11 (q1 : Option SL) (n2 : Int) (q3 : Option SL) (h : Heap) (Q : AV → Heap → Prop) : Prop :=
 AC Tryz.prog 29 [.agg [.sl q1, .int .i64 n2], .sl q3] h fun v4 h5 => ∃ p6 : Option PA, ∃ n7 : Int, v4 = .tup [.ptr p6, .int .i64 n7] ∧
 vif (n7 != 0)
 (Q (.tup [.sl none, .int .i64 n7]) h5)
 (vPtr p6 fun p8 =>
 ∃ q9 : Option SL, cellsAt h5 ⟨p8.b, p8.o + 0 + 0⟩ 1 = some [.sl q9] ∧
 AC Tryz.prog 30 [.sl q9] h5 fun v10 h11 => ∃ q12 : Option SL, v10 = .sl q12 ∧
 Q (.tup [.sl q12, .int .i64 0]) h11)
theorem ac11 {q1 : Option SL} {n2 : Int} {q3 : Option SL} {h : Heap} {Q : AV → Heap → Prop} (hk : vc11 q1 n2 q3 h Q) : AC Tryz.prog 11 [.agg [.sl q1, .int .i64 n2], .sl q3] h Q :=
 AC_by (H := hintsOf [2] []) (by kernel_rfl) (by kernel_rfl) hk

/-- oxbowref19.Same: what it asks. -/
def vc12 (q1 : Option SL) (n2 : Int) (q3 : Option SL) (q4 : Option SL) (n5 : Int) (q6 : Option SL) (h : Heap) (Q : AV → Heap → Prop) : Prop :=
 vif (n2 == n5)
 (AC Tryz.prog 17 [.sl q1, .sl q4] h fun v7 h8 => ∃ b9 : Bool, v7 = .bool b9 ∧
 vif b9
 (AC Tryz.prog 14 [.sl q3, .sl q6] h8 fun v10 h11 => ∃ b12 : Bool, v10 = .bool b12 ∧
 Q (.bool b12) h11)
 (Q (.bool false) h8))
 (Q (.bool false) h)
theorem ac12 {q1 : Option SL} {n2 : Int} {q3 : Option SL} {q4 : Option SL} {n5 : Int} {q6 : Option SL} {h : Heap} {Q : AV → Heap → Prop} (hk : vc12 q1 n2 q3 q4 n5 q6 h Q) : AC Tryz.prog 12 [.agg [.sl q1, .int .i64 n2, .sl q3], .agg [.sl q4, .int .i64 n5, .sl q6]] h Q :=
 AC_by (H := hintsOf [2, 3] []) (by kernel_rfl) (by kernel_rfl) hk

/-- oxbowref19.Bags: what it asks. -/
def vc13 (q1 : Option SL) (n2 : Int) (q3 : Option SL) (h : Heap) (Q : AV → Heap → Prop) : Prop :=
 ∃ (I7 : List AV → Heap → Prop) (m8 : List AV → Heap → Nat), I7 [.sl none, .sl none, .int .i64 0] h ∧
 ∀ q4 : Option SL, ∀ q5 : Option SL, ∀ n6 : Int, ∀ h9 : Heap, I7 [.sl q4, .sl q5, .int .i64 n6] h9 →
 vif (decide (n6 < (slLen q1 : Int)))
 (vIdx q1 n6 6 fun p10 =>
 ∃ n11 : Int, ∃ q12 : Option SL, ∃ n13 : Int, ∃ n14 : Int, ∃ n15 : Int, ∃ q16 : Option SL, cellsAt h9 p10 6 = some [.int .i64 n11, .sl q12, .int .i64 n13, .int .i64 n14, .int .i64 n15, .sl q16] ∧
 vif (n11 == 1)
 (vif (decide (n15 < (slLen q3 : Int)))
 (vIdx q3 n15 1 fun p17 =>
 ∃ q18 : Option SL, cellsAt h9 p17 1 = some [.sl q18] ∧
 AC Tryz.prog 19 [.sl q18] h9 fun v19 h20 => ∃ q21 : Option SL, v19 = .sl q21 ∧
 PNew [.sl q21] true h20 fun a22 h23 =>
 PAppendS 1 24 q4 (some ⟨a22, 0, 1, 1, 0⟩) h23 fun q24 h25 =>
 ((some [.sl q1, .int .i64 n2] : Option (List AV)) = some [.sl q1, .int .i64 n2] ∧ True) ∧ I7 [.sl q24, .sl q5, .int .i64 (wrapK .i64 (n6 + 1))] h25 ∧ m8 [.sl q24, .sl q5, .int .i64 (wrapK .i64 (n6 + 1))] h25 < m8 [.sl q4, .sl q5, .int .i64 n6] h9)
 (PNew [.sl none] true h9 fun a26 h27 =>
 PAppendS 1 24 q4 (some ⟨a26, 0, 1, 1, 0⟩) h27 fun q28 h29 =>
 ((some [.sl q1, .int .i64 n2] : Option (List AV)) = some [.sl q1, .int .i64 n2] ∧ True) ∧ I7 [.sl q28, .sl q5, .int .i64 (wrapK .i64 (n6 + 1))] h29 ∧ m8 [.sl q28, .sl q5, .int .i64 (wrapK .i64 (n6 + 1))] h29 < m8 [.sl q4, .sl q5, .int .i64 n6] h9))
 (vif (n11 == 9)
 (vIdx q12 0 1 fun p30 =>
 ∃ n31 : Int, cellsAt h9 p30 1 = some [.int .i64 n31] ∧
 vIdx q4 n31 1 fun p32 =>
 ∃ q33 : Option SL, cellsAt h9 p32 1 = some [.sl q33] ∧
 AC Tryz.prog 33 [.agg [.int .i64 n11, .sl q12, .int .i64 n13, .int .i64 n14, .int .i64 n15, .sl q16], .sl q4, .sl q33] h9 fun v34 h35 => ∃ q36 : Option SL, ∃ n37 : Int, v34 = .tup [.sl q36, .int .i64 n37] ∧
 vif (n37 == 0)
 (vIdx q36 (wrapK .i64 ((slLen q36 : Int) - 1)) 1 fun p38 =>
 ∃ q39 : Option SL, cellsAt h35 p38 1 = some [.sl q39] ∧
 vif (n37 != 0)
 (Q (.tup [.sl none, .sl none, .int .i64 n37]) h35)
 (PNew [.sl q39] true h35 fun a40 h41 =>
 PAppendS 1 24 q4 (some ⟨a40, 0, 1, 1, 0⟩) h41 fun q42 h43 =>
 ((some [.sl q1, .int .i64 n2] : Option (List AV)) = some [.sl q1, .int .i64 n2] ∧ True) ∧ I7 [.sl q42, .sl q36, .int .i64 (wrapK .i64 (n6 + 1))] h43 ∧ m8 [.sl q42, .sl q36, .int .i64 (wrapK .i64 (n6 + 1))] h43 < m8 [.sl q4, .sl q5, .int .i64 n6] h9))
 (vif (n37 != 0)
 (Q (.tup [.sl none, .sl none, .int .i64 n37]) h35)
 (PNew [.sl none] true h35 fun a44 h45 =>
 PAppendS 1 24 q4 (some ⟨a44, 0, 1, 1, 0⟩) h45 fun q46 h47 =>
 ((some [.sl q1, .int .i64 n2] : Option (List AV)) = some [.sl q1, .int .i64 n2] ∧ True) ∧ I7 [.sl q46, .sl q36, .int .i64 (wrapK .i64 (n6 + 1))] h47 ∧ m8 [.sl q46, .sl q36, .int .i64 (wrapK .i64 (n6 + 1))] h47 < m8 [.sl q4, .sl q5, .int .i64 n6] h9)))
 (AC Tryz.prog 34 [.agg [.int .i64 n11, .sl q12, .int .i64 n13, .int .i64 n14, .int .i64 n15, .sl q16], .sl q4] h9 fun v48 h49 => ∃ q50 : Option SL, v48 = .sl q50 ∧
 (LV.val (.agg [.int .i64 n11, .sl q12, .int .i64 n13, .int .i64 n14, .int .i64 n15, .sl q16]) = LV.val (.agg [.int .i64 n11, .sl q12, .int .i64 n13, .int .i64 n14, .int .i64 n15, .sl q16])) ∧
 AC Tryz.prog 23 [.agg [.int .i64 n11, .sl q12, .int .i64 n13, .int .i64 n14, .int .i64 n15, .sl q16], .sl q50] h49 fun v51 h52 => ∃ q53 : Option SL, ∃ n54 : Int, v51 = .tup [.sl q53, .int .i64 n54] ∧
 vif (n54 != 0)
 (Q (.tup [.sl none, .sl none, .int .i64 n54]) h52)
 (PNew [.sl q53] true h52 fun a55 h56 =>
 PAppendS 1 24 q4 (some ⟨a55, 0, 1, 1, 0⟩) h56 fun q57 h58 =>
 ((some [.sl q1, .int .i64 n2] : Option (List AV)) = some [.sl q1, .int .i64 n2] ∧ True) ∧ I7 [.sl q57, .sl q5, .int .i64 (wrapK .i64 (n6 + 1))] h58 ∧ m8 [.sl q57, .sl q5, .int .i64 (wrapK .i64 (n6 + 1))] h58 < m8 [.sl q4, .sl q5, .int .i64 n6] h9))))
 (Q (.tup [.sl q4, .sl q5, .int .i64 0]) h9)
theorem ac13 {q1 : Option SL} {n2 : Int} {q3 : Option SL} {h : Heap} {Q : AV → Heap → Prop} (hk : vc13 q1 n2 q3 h Q) : AC Tryz.prog 13 [.agg [.sl q1, .int .i64 n2], .sl q3] h Q :=
 AC_by (H := hintsOf [2, 10] [(0, [7, 8, 9], [])]) (by kernel_rfl) (by kernel_rfl) hk

/-- oxbowref19.SameBags: what it asks. -/
def vc14 (q1 : Option SL) (q2 : Option SL) (h : Heap) (Q : AV → Heap → Prop) : Prop :=
 vif ((slLen q1 : Int) != (slLen q2 : Int))
 (Q (.bool false) h)
 (∃ (I4 : List AV → Heap → Prop) (m5 : List AV → Heap → Nat), I4 [.int .i64 0] h ∧
 ∀ n3 : Int, ∀ h6 : Heap, I4 [.int .i64 n3] h6 →
 vif (decide (n3 < (slLen q1 : Int)))
 (vIdx q1 n3 1 fun p7 =>
 ∃ q8 : Option SL, cellsAt h6 p7 1 = some [.sl q8] ∧
 vIdx q2 n3 1 fun p9 =>
 ∃ q10 : Option SL, cellsAt h6 p9 1 = some [.sl q10] ∧
 AC Tryz.prog 17 [.sl q8, .sl q10] h6 fun v11 h12 => ∃ b13 : Bool, v11 = .bool b13 ∧
 vif (!b13)
 (Q (.bool false) h12)
 ((True) ∧ I4 [.int .i64 (wrapK .i64 (n3 + 1))] h12 ∧ m5 [.int .i64 (wrapK .i64 (n3 + 1))] h12 < m5 [.int .i64 n3] h6))
 (Q (.bool true) h6))
theorem ac14 {q1 : Option SL} {q2 : Option SL} {h : Heap} {Q : AV → Heap → Prop} (hk : vc14 q1 q2 h Q) : AC Tryz.prog 14 [.sl q1, .sl q2] h Q :=
 AC_by (H := hintsOf [] [(0, [5], [])]) (by kernel_rfl) (by kernel_rfl) hk

/-- oxbowref17.Loop: what it asks. -/
def vc15 (q1 : Option SL) (n2 : Int) (h : Heap) (Q : AV → Heap → Prop) : Prop :=
 ∃ (I4 : List AV → Heap → Prop) (m5 : List AV → Heap → Nat), I4 [.int .i64 0] h ∧
 ∀ n3 : Int, ∀ h6 : Heap, I4 [.int .i64 n3] h6 →
 vif (decide (n3 < (slLen q1 : Int)))
 (vIdx q1 n3 6 fun p7 =>
 ∃ n8 : Int, cellsAt h6 ⟨p7.b, p7.o + 0⟩ 1 = some [.int .i64 n8] ∧
 vif (n8 == 9)
 (Q (.int .i64 n3) h6)
 (((some [.sl q1, .int .i64 n2] : Option (List AV)) = some [.sl q1, .int .i64 n2] ∧ True) ∧ I4 [.int .i64 (wrapK .i64 (n3 + 1))] h6 ∧ m5 [.int .i64 (wrapK .i64 (n3 + 1))] h6 < m5 [.int .i64 n3] h6))
 (Q (.int .i64 (-1)) h6)
theorem ac15 {q1 : Option SL} {n2 : Int} {h : Heap} {Q : AV → Heap → Prop} (hk : vc15 q1 n2 h Q) : AC Tryz.prog 15 [.agg [.sl q1, .int .i64 n2]] h Q :=
 AC_by (H := hintsOf [1] [(0, [3], [])]) (by kernel_rfl) (by kernel_rfl) hk

/-- eval.Round: what it asks. -/
def vc16 (q1 : Option SL) (n2 : Int) (q3 : Option SL) (q4 : Option SL) (h : Heap) (Q : AV → Heap → Prop) : Prop :=
 AC Tryz.prog 35 [.agg [.sl q1, .int .i64 n2]] h fun v5 h6 => ∃ n7 : Int, v5 = .int .i64 n7 ∧
 vif (n7 != 0)
 (Q (.tup [.sl none, .int .i64 n7]) h6)
 (AC Tryz.prog 36 [.agg [.sl q1, .int .i64 n2]] h6 fun v8 h9 => ∃ n10 : Int, ∃ b11 : Bool, v8 = .tup [.int .i64 n10, .bool b11] ∧
 vif (!b11)
 (Q (.tup [.sl none, .int .i64 1]) h9)
 (vif ((slLen q3 : Int) != n10)
 (Q (.tup [.sl none, .int .i64 1]) h9)
 (AC Tryz.prog 30 [.sl q3] h9 fun v12 h13 => ∃ q14 : Option SL, v12 = .sl q14 ∧
 PNew [.sl q4] true h13 fun a15 h16 =>
 PAppendS 1 24 q14 (some ⟨a15, 0, 1, 1, 0⟩) h16 fun q17 h18 =>
 ∃ (I20 : List AV → Heap → Prop) (m21 : List AV → Heap → Nat), I20 [.int .i64 0] h18 ∧
 ∀ n19 : Int, ∀ h22 : Heap, I20 [.int .i64 n19] h22 →
 vif (decide (n19 < (slLen q17 : Int)))
 (vIdx q17 n19 1 fun p23 =>
 ∃ q24 : Option SL, cellsAt h22 p23 1 = some [.sl q24] ∧
 AC Tryz.prog 37 [.sl q24] h22 fun v25 h26 => ∃ n27 : Int, v25 = .int .i64 n27 ∧
 vif (n27 != 0)
 (Q (.tup [.sl none, .int .i64 n27]) h26)
 (((some [.sl q1, .int .i64 n2] : Option (List AV)) = some [.sl q1, .int .i64 n2] ∧ True) ∧ I20 [.int .i64 (wrapK .i64 (n19 + 1))] h26 ∧ m21 [.int .i64 (wrapK .i64 (n19 + 1))] h26 < m21 [.int .i64 n19] h22))
 (vIdx q1 n10 6 fun p28 =>
 ∃ q29 : Option SL, cellsAt h22 ⟨p28.b, p28.o + 5⟩ 1 = some [.sl q29] ∧
 AC Tryz.prog 38 [.agg [.sl q3, .sl q4], .sl q29] h22 fun v30 h31 => ∃ q32 : Option SL, ∃ n33 : Int, v30 = .tup [.sl q32, .int .i64 n33] ∧
 PNew [] true h31 fun a34 h35 =>
 PAppendS 2 16 (some ⟨a34, 0, 0, 0, 0⟩) q32 h35 fun q36 h37 =>
 Q (.tup [.sl q36, .int .i64 n33]) h37))))
theorem ac16 {q1 : Option SL} {n2 : Int} {q3 : Option SL} {q4 : Option SL} {h : Heap} {Q : AV → Heap → Prop} (hk : vc16 q1 n2 q3 q4 h Q) : AC Tryz.prog 16 [.agg [.sl q1, .int .i64 n2], .sl q3, .sl q4] h Q :=
 AC_by (H := hintsOf [3] [(0, [40], [])]) (by kernel_rfl) (by kernel_rfl) hk

/-- oxbowref03.Exact: what it asks. -/
def vc17 (q1 : Option SL) (q2 : Option SL) (h : Heap) (Q : AV → Heap → Prop) : Prop :=
 vif ((slLen q1 : Int) != (slLen q2 : Int))
 (Q (.bool false) h)
 (∃ (I4 : List AV → Heap → Prop) (m5 : List AV → Heap → Nat), I4 [.int .i64 0] h ∧
 ∀ n3 : Int, ∀ h6 : Heap, I4 [.int .i64 n3] h6 →
 vif (decide (n3 < (slLen q1 : Int)))
 (vIdx q1 n3 2 fun p7 =>
 ∃ n8 : Int, ∃ n9 : Int, cellsAt h6 p7 2 = some [.int .i64 n8, .int .i64 n9] ∧
 vIdx q2 n3 2 fun p10 =>
 ∃ n11 : Int, ∃ n12 : Int, cellsAt h6 p10 2 = some [.int .i64 n11, .int .i64 n12] ∧
 vif (!((n8 == n11) && ((n9 == n12) && true)))
 (Q (.bool false) h6)
 ((True) ∧ I4 [.int .i64 (wrapK .i64 (n3 + 1))] h6 ∧ m5 [.int .i64 (wrapK .i64 (n3 + 1))] h6 < m5 [.int .i64 n3] h6))
 (Q (.bool true) h6))
theorem ac17 {q1 : Option SL} {q2 : Option SL} {h : Heap} {Q : AV → Heap → Prop} (hk : vc17 q1 q2 h Q) : AC Tryz.prog 17 [.sl q1, .sl q2] h Q :=
 AC_by (H := hintsOf [] [(0, [5], [])]) (by kernel_rfl) (by kernel_rfl) hk

/-- oxbowref03.Same: what it asks. -/
def vc18 (q1 : Option SL) (q2 : Option SL) (h : Heap) (Q : AV → Heap → Prop) : Prop :=
 vif ((slLen q1 : Int) == (slLen q2 : Int))
 (AC Tryz.prog 19 [.sl q1] h fun v3 h4 => ∃ q5 : Option SL, v3 = .sl q5 ∧
 AC Tryz.prog 19 [.sl q2] h4 fun v6 h7 => ∃ q8 : Option SL, v6 = .sl q8 ∧
 AC Tryz.prog 17 [.sl q5, .sl q8] h7 fun v9 h10 => ∃ b11 : Bool, v9 = .bool b11 ∧
 Q (.bool b11) h10)
 (Q (.bool false) h)
theorem ac18 {q1 : Option SL} {q2 : Option SL} {h : Heap} {Q : AV → Heap → Prop} (hk : vc18 q1 q2 h Q) : AC Tryz.prog 18 [.sl q1, .sl q2] h Q :=
 AC_by (H := hintsOf [] []) (by kernel_rfl) (by kernel_rfl) hk

/-- oxbowref03.Sort: what it asks. -/
def vc19 (q1 : Option SL) (h : Heap) (Q : AV → Heap → Prop) : Prop :=
 vif (decide ((slLen q1 : Int) < 2))
 (PNew [] true h fun a2 h3 =>
 PAppendS 2 16 (some ⟨a2, 0, 0, 0, 0⟩) q1 h3 fun q4 h5 =>
 Q (.sl q4) h5)
 (PSlice 2 q1 0 (some (wrapK .i64 (Int.tdiv (slLen q1 : Int) 2))) none fun q6 =>
 PSlice 2 q1 (wrapK .i64 (Int.tdiv (slLen q1 : Int) 2)) none none fun q7 =>
 AC Tryz.prog 19 [.sl q6] h fun v8 h9 => ∃ q10 : Option SL, v8 = .sl q10 ∧
 AC Tryz.prog 19 [.sl q7] h9 fun v11 h12 => ∃ q13 : Option SL, v11 = .sl q13 ∧
 ∃ (I17 : List AV → Heap → Prop) (m18 : List AV → Heap → Nat), I17 [.sl q10, .sl q13, .sl none] h12 ∧
 ∀ q14 : Option SL, ∀ q15 : Option SL, ∀ q16 : Option SL, ∀ h19 : Heap, I17 [.sl q14, .sl q15, .sl q16] h19 →
 vif (decide ((slLen q14 : Int) > 0))
 (vif ((slLen q15 : Int) == 0)
 (vIdx q14 0 2 fun p20 =>
 ∃ n21 : Int, ∃ n22 : Int, cellsAt h19 p20 2 = some [.int .i64 n21, .int .i64 n22] ∧
 PNew [.int .i64 n21, .int .i64 n22] true h19 fun a23 h24 =>
 PAppendS 2 16 q16 (some ⟨a23, 0, 1, 1, 0⟩) h24 fun q25 h26 =>
 PSlice 2 q14 1 none none fun q27 =>
 (True) ∧ I17 [.sl q27, .sl q15, .sl q25] h26 ∧ m18 [.sl q27, .sl q15, .sl q25] h26 < m18 [.sl q14, .sl q15, .sl q16] h19)
 (vif (decide ((slLen q14 : Int) > 0))
 (vIdx q14 0 2 fun p28 =>
 ∃ n29 : Int, ∃ n30 : Int, cellsAt h19 p28 2 = some [.int .i64 n29, .int .i64 n30] ∧
 vIdx q15 0 2 fun p31 =>
 ∃ n32 : Int, ∃ n33 : Int, cellsAt h19 p31 2 = some [.int .i64 n32, .int .i64 n33] ∧
 AC Tryz.prog 39 [.agg [.int .i64 n29, .int .i64 n30], .agg [.int .i64 n32, .int .i64 n33]] h19 fun v34 h35 => ∃ n36 : Int, v34 = .int .i64 n36 ∧
 vif (decide (n36 ≤ 0))
 (vIdx q14 0 2 fun p37 =>
 ∃ n38 : Int, ∃ n39 : Int, cellsAt h35 p37 2 = some [.int .i64 n38, .int .i64 n39] ∧
 PNew [.int .i64 n38, .int .i64 n39] true h35 fun a40 h41 =>
 PAppendS 2 16 q16 (some ⟨a40, 0, 1, 1, 0⟩) h41 fun q42 h43 =>
 PSlice 2 q14 1 none none fun q44 =>
 (True) ∧ I17 [.sl q44, .sl q15, .sl q42] h43 ∧ m18 [.sl q44, .sl q15, .sl q42] h43 < m18 [.sl q14, .sl q15, .sl q16] h19)
 (vIdx q15 0 2 fun p45 =>
 ∃ n46 : Int, ∃ n47 : Int, cellsAt h35 p45 2 = some [.int .i64 n46, .int .i64 n47] ∧
 PNew [.int .i64 n46, .int .i64 n47] true h35 fun a48 h49 =>
 PAppendS 2 16 q16 (some ⟨a48, 0, 1, 1, 0⟩) h49 fun q50 h51 =>
 PSlice 2 q15 1 none none fun q52 =>
 (True) ∧ I17 [.sl q14, .sl q52, .sl q50] h51 ∧ m18 [.sl q14, .sl q52, .sl q50] h51 < m18 [.sl q14, .sl q15, .sl q16] h19))
 (vIdx q15 0 2 fun p53 =>
 ∃ n54 : Int, ∃ n55 : Int, cellsAt h19 p53 2 = some [.int .i64 n54, .int .i64 n55] ∧
 PNew [.int .i64 n54, .int .i64 n55] true h19 fun a56 h57 =>
 PAppendS 2 16 q16 (some ⟨a56, 0, 1, 1, 0⟩) h57 fun q58 h59 =>
 PSlice 2 q15 1 none none fun q60 =>
 (True) ∧ I17 [.sl q14, .sl q60, .sl q58] h59 ∧ m18 [.sl q14, .sl q60, .sl q58] h59 < m18 [.sl q14, .sl q15, .sl q16] h19)))
 (vif (decide ((slLen q15 : Int) > 0))
 (vif ((slLen q15 : Int) == 0)
 (vIdx q14 0 2 fun p61 =>
 ∃ n62 : Int, ∃ n63 : Int, cellsAt h19 p61 2 = some [.int .i64 n62, .int .i64 n63] ∧
 PNew [.int .i64 n62, .int .i64 n63] true h19 fun a64 h65 =>
 PAppendS 2 16 q16 (some ⟨a64, 0, 1, 1, 0⟩) h65 fun q66 h67 =>
 PSlice 2 q14 1 none none fun q68 =>
 (True) ∧ I17 [.sl q68, .sl q15, .sl q66] h67 ∧ m18 [.sl q68, .sl q15, .sl q66] h67 < m18 [.sl q14, .sl q15, .sl q16] h19)
 (vif (decide ((slLen q14 : Int) > 0))
 (vIdx q14 0 2 fun p69 =>
 ∃ n70 : Int, ∃ n71 : Int, cellsAt h19 p69 2 = some [.int .i64 n70, .int .i64 n71] ∧
 vIdx q15 0 2 fun p72 =>
 ∃ n73 : Int, ∃ n74 : Int, cellsAt h19 p72 2 = some [.int .i64 n73, .int .i64 n74] ∧
 AC Tryz.prog 39 [.agg [.int .i64 n70, .int .i64 n71], .agg [.int .i64 n73, .int .i64 n74]] h19 fun v75 h76 => ∃ n77 : Int, v75 = .int .i64 n77 ∧
 vif (decide (n77 ≤ 0))
 (vIdx q14 0 2 fun p78 =>
 ∃ n79 : Int, ∃ n80 : Int, cellsAt h76 p78 2 = some [.int .i64 n79, .int .i64 n80] ∧
 PNew [.int .i64 n79, .int .i64 n80] true h76 fun a81 h82 =>
 PAppendS 2 16 q16 (some ⟨a81, 0, 1, 1, 0⟩) h82 fun q83 h84 =>
 PSlice 2 q14 1 none none fun q85 =>
 (True) ∧ I17 [.sl q85, .sl q15, .sl q83] h84 ∧ m18 [.sl q85, .sl q15, .sl q83] h84 < m18 [.sl q14, .sl q15, .sl q16] h19)
 (vIdx q15 0 2 fun p86 =>
 ∃ n87 : Int, ∃ n88 : Int, cellsAt h76 p86 2 = some [.int .i64 n87, .int .i64 n88] ∧
 PNew [.int .i64 n87, .int .i64 n88] true h76 fun a89 h90 =>
 PAppendS 2 16 q16 (some ⟨a89, 0, 1, 1, 0⟩) h90 fun q91 h92 =>
 PSlice 2 q15 1 none none fun q93 =>
 (True) ∧ I17 [.sl q14, .sl q93, .sl q91] h92 ∧ m18 [.sl q14, .sl q93, .sl q91] h92 < m18 [.sl q14, .sl q15, .sl q16] h19))
 (vIdx q15 0 2 fun p94 =>
 ∃ n95 : Int, ∃ n96 : Int, cellsAt h19 p94 2 = some [.int .i64 n95, .int .i64 n96] ∧
 PNew [.int .i64 n95, .int .i64 n96] true h19 fun a97 h98 =>
 PAppendS 2 16 q16 (some ⟨a97, 0, 1, 1, 0⟩) h98 fun q99 h100 =>
 PSlice 2 q15 1 none none fun q101 =>
 (True) ∧ I17 [.sl q14, .sl q101, .sl q99] h100 ∧ m18 [.sl q14, .sl q101, .sl q99] h100 < m18 [.sl q14, .sl q15, .sl q16] h19)))
 (Q (.sl q16) h19)))
theorem ac19 {q1 : Option SL} {h : Heap} {Q : AV → Heap → Prop} (hk : vc19 q1 h Q) : AC Tryz.prog 19 [.sl q1] h Q :=
 AC_by (H := hintsOf [] [(0, [3, 4, 5], [])]) (by kernel_rfl) (by kernel_rfl) hk

/-- oxbowlaw18.large: what it asks. -/
def vc20 (q1 : Option SL) (h : Heap) (Q : AV → Heap → Prop) : Prop :=
 vif (decide ((slLen q1 : Int) > 10))
 (Q (.bool true) h)
 (∃ (I3 : List AV → Heap → Prop) (m4 : List AV → Heap → Nat), I3 [.int .i64 0] h ∧
 ∀ n2 : Int, ∀ h5 : Heap, I3 [.int .i64 n2] h5 →
 vif (decide (n2 < (slLen q1 : Int)))
 (vIdx q1 n2 1 fun p6 =>
 ∃ q7 : Option SL, cellsAt h5 p6 1 = some [.sl q7] ∧
 vif (decide ((slLen q7 : Int) > 5000))
 (Q (.bool true) h5)
 ((True) ∧ I3 [.int .i64 (wrapK .i64 (n2 + 1))] h5 ∧ m4 [.int .i64 (wrapK .i64 (n2 + 1))] h5 < m4 [.int .i64 n2] h5))
 (Q (.bool false) h5))
theorem ac20 {q1 : Option SL} {h : Heap} {Q : AV → Heap → Prop} (hk : vc20 q1 h Q) : AC Tryz.prog 20 [.sl q1] h Q :=
 AC_by (H := hintsOf [] [(0, [3], [])]) (by kernel_rfl) (by kernel_rfl) hk

/-- oper.Apply: what it asks. -/
def vc22 (n1 : Int) (q2 : Option SL) (n3 : Int) (n4 : Int) (n5 : Int) (q6 : Option SL) (q7 : Option SL) (h : Heap) (Q : AV → Heap → Prop) : Prop :=
 AC Tryz.prog 24 [.agg [.int .i64 n1, .sl q2, .int .i64 n3, .int .i64 n4, .int .i64 n5, .sl q6]] h fun v8 h9 => ∃ b10 : Bool, v8 = .bool b10 ∧
 vif (!b10)
 (Q (.tup [.sl none, .int .i64 1]) h9)
 (vif ((slLen q7 : Int) != (slLen q2 : Int))
 (Q (.tup [.sl none, .int .i64 1]) h9)
 (∃ (I12 : List AV → Heap → Prop) (m13 : List AV → Heap → Nat), I12 [.int .i64 0] h9 ∧
 ∀ n11 : Int, ∀ h14 : Heap, I12 [.int .i64 n11] h14 →
 vif (decide (n11 < (slLen q7 : Int)))
 (vIdx q7 n11 1 fun p15 =>
 ∃ q16 : Option SL, cellsAt h14 p15 1 = some [.sl q16] ∧
 AC Tryz.prog 37 [.sl q16] h14 fun v17 h18 => ∃ n19 : Int, v17 = .int .i64 n19 ∧
 vif (n19 != 0)
 (Q (.tup [.sl none, .int .i64 n19]) h18)
 (((some [.int .i64 n1, .sl q2, .int .i64 n3, .int .i64 n4, .int .i64 n5, .sl q6] : Option (List AV)) = some [.int .i64 n1, .sl q2, .int .i64 n3, .int .i64 n4, .int .i64 n5, .sl q6] ∧ True) ∧ I12 [.int .i64 (wrapK .i64 (n11 + 1))] h18 ∧ m13 [.int .i64 (wrapK .i64 (n11 + 1))] h18 < m13 [.int .i64 n11] h14))
 (PNew [.sl none, .bool false] true h14 fun a20 h21 =>
 AC Tryz.prog 43 [.ptr (some ⟨a20, 0⟩), .agg [.int .i64 n1, .sl q2, .int .i64 n3, .int .i64 n4, .int .i64 n5, .sl q6], .sl q7] h21 fun v22 h23 => v22 = .tup [] ∧
 ∃ b24 : Bool, cellsAt h23 ⟨a20, 1⟩ 1 = some [.bool b24] ∧
 vif b24
 (Q (.tup [.sl none, .int .i64 31]) h23)
 (∃ q25 : Option SL, cellsAt h23 ⟨a20, 0⟩ 1 = some [.sl q25] ∧
 AC Tryz.prog 44 [.sl q25] h23 fun v26 h27 => ∃ q28 : Option SL, ∃ n29 : Int, v26 = .tup [.sl q28, .int .i64 n29] ∧
 Q (.tup [.sl q28, .int .i64 n29]) h27))))
theorem ac22 {n1 : Int} {q2 : Option SL} {n3 : Int} {n4 : Int} {n5 : Int} {q6 : Option SL} {q7 : Option SL} {h : Heap} {Q : AV → Heap → Prop} (hk : vc22 n1 q2 n3 n4 n5 q6 q7 h Q) : AC Tryz.prog 22 [.agg [.int .i64 n1, .sl q2, .int .i64 n3, .int .i64 n4, .int .i64 n5, .sl q6], .sl q7] h Q :=
 AC_by (H := hintsOf [2] [(0, [23], [])]) (by kernel_rfl) (by kernel_rfl) hk

/-- oxbowref18.Apply: what it asks. -/
def vc23 (n1 : Int) (q2 : Option SL) (n3 : Int) (n4 : Int) (n5 : Int) (q6 : Option SL) (q7 : Option SL) (h : Heap) (Q : AV → Heap → Prop) : Prop :=
 AC Tryz.prog 25 [.agg [.int .i64 n1, .sl q2, .int .i64 n3, .int .i64 n4, .int .i64 n5, .sl q6]] h fun v8 h9 => ∃ b10 : Bool, v8 = .bool b10 ∧
 vif (!b10)
 (Q (.tup [.sl none, .int .i64 1]) h9)
 (vif ((slLen q7 : Int) != (slLen q2 : Int))
 (Q (.tup [.sl none, .int .i64 1]) h9)
 (∃ (I12 : List AV → Heap → Prop) (m13 : List AV → Heap → Nat), I12 [.int .i64 0] h9 ∧
 ∀ n11 : Int, ∀ h14 : Heap, I12 [.int .i64 n11] h14 →
 vif (decide (n11 < (slLen q7 : Int)))
 (vIdx q7 n11 1 fun p15 =>
 ∃ q16 : Option SL, cellsAt h14 p15 1 = some [.sl q16] ∧
 AC Tryz.prog 45 [.sl q16] h14 fun v17 h18 => ∃ n19 : Int, v17 = .int .i64 n19 ∧
 vif (n19 != 0)
 (Q (.tup [.sl none, .int .i64 n19]) h18)
 (((some [.int .i64 n1, .sl q2, .int .i64 n3, .int .i64 n4, .int .i64 n5, .sl q6] : Option (List AV)) = some [.int .i64 n1, .sl q2, .int .i64 n3, .int .i64 n4, .int .i64 n5, .sl q6] ∧ True) ∧ I12 [.int .i64 (wrapK .i64 (n11 + 1))] h18 ∧ m13 [.int .i64 (wrapK .i64 (n11 + 1))] h18 < m13 [.int .i64 n11] h14))
 (AC Tryz.prog 46 [.agg [.int .i64 n1, .sl q2, .int .i64 n3, .int .i64 n4, .int .i64 n5, .sl q6], .sl q7] h14 fun v20 h21 => ∃ q22 : Option SL, v20 = .sl q22 ∧
 vif (decide ((slLen q22 : Int) > 4096))
 (Q (.tup [.sl none, .int .i64 31]) h21)
 (AC Tryz.prog 19 [.sl q22] h21 fun v23 h24 => ∃ q25 : Option SL, v23 = .sl q25 ∧
 Q (.tup [.sl q25, .int .i64 0]) h24))))
theorem ac23 {n1 : Int} {q2 : Option SL} {n3 : Int} {n4 : Int} {n5 : Int} {q6 : Option SL} {q7 : Option SL} {h : Heap} {Q : AV → Heap → Prop} (hk : vc23 n1 q2 n3 n4 n5 q6 q7 h Q) : AC Tryz.prog 23 [.agg [.int .i64 n1, .sl q2, .int .i64 n3, .int .i64 n4, .int .i64 n5, .sl q6], .sl q7] h Q :=
 AC_by (H := hintsOf [2] [(0, [6], [])]) (by kernel_rfl) (by kernel_rfl) hk

/-- oper.Is: what it asks. -/
def vc24 (n1 : Int) (q2 : Option SL) (n3 : Int) (n4 : Int) (n5 : Int) (q6 : Option SL) (h : Heap) (Q : AV → Heap → Prop) : Prop :=
 vif (decide (n1 < 2))
 ((LV.val (.tup []) = LV.val (.tup [])) ∧
 Q (.bool false) h)
 (vif (decide (n1 > 8))
 ((LV.val (.tup []) = LV.val (.tup [])) ∧
 Q (.bool false) h)
 (AC Tryz.prog 47 [.int .i64 n1] h fun v7 h8 => ∃ n9 : Int, v7 = .int .i64 n9 ∧
 (LV.val (.sl q2) = LV.val (.sl q2)) ∧
 vif ((slLen q2 : Int) != n9)
 (Q (.bool false) h8)
 (vif (decide ((slLen q6 : Int) > 0))
 (Q (.bool false) h8)
 (vif (n5 != 0)
 (Q (.bool false) h8)
 (vif (n1 == 7)
 (Q (.bool ((n3 == 0) && ((n4 == 0) && true))) h8)
 (vif (n1 == 8)
 (Q (.bool ((n3 == 0) && ((n4 == 0) && true))) h8)
 (AC Tryz.prog 48 [.agg [.int .i64 n3, .int .i64 n4]] h8 fun v10 h11 => ∃ n12 : Int, v10 = .int .i64 n12 ∧
 (LV.val (.int .i64 n1) = LV.val (.int .i64 n1)) ∧
 Q (.bool (n12 == (wrapK .i64 ((wrapK .i64 (n1 - 2)) + 1)))) h11)))))))
theorem ac24 {n1 : Int} {q2 : Option SL} {n3 : Int} {n4 : Int} {n5 : Int} {q6 : Option SL} {h : Heap} {Q : AV → Heap → Prop} (hk : vc24 n1 q2 n3 n4 n5 q6 h Q) : AC Tryz.prog 24 [.agg [.int .i64 n1, .sl q2, .int .i64 n3, .int .i64 n4, .int .i64 n5, .sl q6]] h Q :=
 AC_by (H := hintsOf [1] []) (by kernel_rfl) (by kernel_rfl) hk

/-- oxbowref18.Is: what it asks. -/
def vc25 (n1 : Int) (q2 : Option SL) (n3 : Int) (n4 : Int) (n5 : Int) (q6 : Option SL) (h : Heap) (Q : AV → Heap → Prop) : Prop :=
 vif (decide (n1 < 2))
 ((LV.val (.tup []) = LV.val (.tup [])) ∧
 Q (.bool false) h)
 (vif (decide (n1 > 8))
 ((LV.val (.tup []) = LV.val (.tup [])) ∧
 Q (.bool false) h)
 (AC Tryz.prog 49 [.int .i64 n1] h fun v7 h8 => ∃ n9 : Int, v7 = .int .i64 n9 ∧
 (LV.val (.sl q2) = LV.val (.sl q2)) ∧
 vif ((slLen q2 : Int) != n9)
 (Q (.bool false) h8)
 (vif (decide ((slLen q6 : Int) > 0))
 (Q (.bool false) h8)
 (vif (n5 != 0)
 (Q (.bool false) h8)
 (vif (n1 == 7)
 (Q (.bool ((n3 == 0) && ((n4 == 0) && true))) h8)
 (vif (n1 == 8)
 (Q (.bool ((n3 == 0) && ((n4 == 0) && true))) h8)
 (AC Tryz.prog 50 [.agg [.int .i64 n3, .int .i64 n4]] h8 fun v10 h11 => ∃ n12 : Int, v10 = .int .i64 n12 ∧
 (LV.val (.int .i64 n1) = LV.val (.int .i64 n1)) ∧
 Q (.bool (n12 == (wrapK .i64 ((wrapK .i64 (n1 - 2)) + 1)))) h11)))))))
theorem ac25 {n1 : Int} {q2 : Option SL} {n3 : Int} {n4 : Int} {n5 : Int} {q6 : Option SL} {h : Heap} {Q : AV → Heap → Prop} (hk : vc25 n1 q2 n3 n4 n5 q6 h Q) : AC Tryz.prog 25 [.agg [.int .i64 n1, .sl q2, .int .i64 n3, .int .i64 n4, .int .i64 n5, .sl q6]] h Q :=
 AC_by (H := hintsOf [1] []) (by kernel_rfl) (by kernel_rfl) hk

/-- oxbowref17.Deep: what it asks. -/
def vc26 (q1 : Option SL) (n2 : Int) (h : Heap) (Q : AV → Heap → Prop) : Prop :=
 vif (decide ((slLen q1 : Int) > 40))
 (Q (.bool true) h)
 (vif (decide (n2 > 3))
 (Q (.bool true) h)
 (∃ (I4 : List AV → Heap → Prop) (m5 : List AV → Heap → Nat), I4 [.int .i64 0] h ∧
 ∀ n3 : Int, ∀ h6 : Heap, I4 [.int .i64 n3] h6 →
 vif (decide (n3 < (slLen q1 : Int)))
 (vIdx q1 n3 6 fun p7 =>
 ∃ q8 : Option SL, cellsAt h6 ⟨p7.b, p7.o + 1⟩ 1 = some [.sl q8] ∧
 vif (decide ((slLen q8 : Int) > 40))
 (Q (.bool true) h6)
 (vIdx q1 n3 6 fun p9 =>
 ∃ q10 : Option SL, cellsAt h6 ⟨p9.b, p9.o + 5⟩ 1 = some [.sl q10] ∧
 vif (decide ((slLen q10 : Int) > 0))
 (vIdx q1 n3 6 fun p11 =>
 ∃ q12 : Option SL, cellsAt h6 ⟨p11.b, p11.o + 5⟩ 1 = some [.sl q12] ∧
 AC Tryz.prog 26 [.sl q12, .int .i64 (wrapK .i64 (n2 + 1))] h6 fun v13 h14 => ∃ b15 : Bool, v13 = .bool b15 ∧
 vif b15
 (Q (.bool true) h14)
 ((True) ∧ I4 [.int .i64 (wrapK .i64 (n3 + 1))] h14 ∧ m5 [.int .i64 (wrapK .i64 (n3 + 1))] h14 < m5 [.int .i64 n3] h6))
 ((True) ∧ I4 [.int .i64 (wrapK .i64 (n3 + 1))] h6 ∧ m5 [.int .i64 (wrapK .i64 (n3 + 1))] h6 < m5 [.int .i64 n3] h6)))
 (Q (.bool false) h6)))
theorem ac26 {q1 : Option SL} {n2 : Int} {h : Heap} {Q : AV → Heap → Prop} (hk : vc26 q1 n2 h Q) : AC Tryz.prog 26 [.sl q1, .int .i64 n2] h Q :=
 AC_by (H := hintsOf [] [(0, [5], [])]) (by kernel_rfl) (by kernel_rfl) hk

/-- eval.run: what it asks. -/
def vc29 (q1 : Option SL) (n2 : Int) (q3 : Option SL) (h : Heap) (Q : AV → Heap → Prop) : Prop :=
 AC Tryz.prog 35 [.agg [.sl q1, .int .i64 n2]] h fun v4 h5 => ∃ n6 : Int, v4 = .int .i64 n6 ∧
 vif (n6 != 0)
 (Q (.tup [.ptr none, .int .i64 n6]) h5)
 (vif (decide ((slLen q3 : Int) > 4))
 (Q (.tup [.ptr none, .int .i64 1]) h5)
 (∃ (I8 : List AV → Heap → Prop) (m9 : List AV → Heap → Nat), I8 [.int .i64 0] h5 ∧
 ∀ n7 : Int, ∀ h10 : Heap, I8 [.int .i64 n7] h10 →
 vif (decide (n7 < (slLen q3 : Int)))
 (vIdx q3 n7 1 fun p11 =>
 ∃ q12 : Option SL, cellsAt h10 p11 1 = some [.sl q12] ∧
 AC Tryz.prog 37 [.sl q12] h10 fun v13 h14 => ∃ n15 : Int, v13 = .int .i64 n15 ∧
 vif (n15 != 0)
 (Q (.tup [.ptr none, .int .i64 n15]) h14)
 (((some [.sl q1, .int .i64 n2] : Option (List AV)) = some [.sl q1, .int .i64 n2] ∧ True) ∧ I8 [.int .i64 (wrapK .i64 (n7 + 1))] h14 ∧ m9 [.int .i64 (wrapK .i64 (n7 + 1))] h14 < m9 [.int .i64 n7] h10))
 (PNew [.sl none, .nilfunc, .sl q3, .sl none] true h10 fun a16 h17 =>
 PStore h17 ⟨a16, 1⟩ [.func (.func 51) [.ptr (some ⟨a16, 0⟩)] []] fun h18 =>
 AC Tryz.prog 52 [.ptr (some ⟨a16, 0⟩), .sl q1] h18 fun v19 h20 => ∃ n21 : Int, v19 = .int .i64 n21 ∧
 vif (n21 != 0)
 (Q (.tup [.ptr none, .int .i64 n21]) h20)
 (Q (.tup [.ptr (some ⟨a16, 0⟩), .int .i64 0]) h20))))
theorem ac29 {q1 : Option SL} {n2 : Int} {q3 : Option SL} {h : Heap} {Q : AV → Heap → Prop} (hk : vc29 q1 n2 q3 h Q) : AC Tryz.prog 29 [.agg [.sl q1, .int .i64 n2], .sl q3] h Q :=
 AC_by (H := hintsOf [2] [(0, [22], [])]) (by kernel_rfl) (by kernel_rfl) hk

/-- eval.copies: what it asks. -/
def vc30 (q1 : Option SL) (h : Heap) (Q : AV → Heap → Prop) : Prop :=
 ∃ (I4 : List AV → Heap → Prop) (m5 : List AV → Heap → Nat), I4 [.sl none, .int .i64 0] h ∧
 ∀ q2 : Option SL, ∀ n3 : Int, ∀ h6 : Heap, I4 [.sl q2, .int .i64 n3] h6 →
 vif (decide (n3 < (slLen q1 : Int)))
 (vIdx q1 n3 1 fun p7 =>
 ∃ q8 : Option SL, cellsAt h6 p7 1 = some [.sl q8] ∧
 PNew [] true h6 fun a9 h10 =>
 PAppendS 2 16 (some ⟨a9, 0, 0, 0, 0⟩) q8 h10 fun q11 h12 =>
 PNew [.sl q11] true h12 fun a13 h14 =>
 PAppendS 1 24 q2 (some ⟨a13, 0, 1, 1, 0⟩) h14 fun q15 h16 =>
 (True) ∧ I4 [.sl q15, .int .i64 (wrapK .i64 (n3 + 1))] h16 ∧ m5 [.sl q15, .int .i64 (wrapK .i64 (n3 + 1))] h16 < m5 [.sl q2, .int .i64 n3] h6)
 (Q (.sl q2) h6)
theorem ac30 {q1 : Option SL} {h : Heap} {Q : AV → Heap → Prop} (hk : vc30 q1 h Q) : AC Tryz.prog 30 [.sl q1] h Q :=
 AC_by (H := hintsOf [] [(0, [3, 8], [])]) (by kernel_rfl) (by kernel_rfl) hk

/-- oxbowref17.Check: what it asks. -/
def vc31 (q1 : Option SL) (n2 : Int) (h : Heap) (Q : AV → Heap → Prop) : Prop :=
 vif (decide ((slLen q1 : Int) < 1))
 (Q (.bool false) h)
 (vif (decide ((slLen q1 : Int) > 32))
 (Q (.bool false) h)
 (vif (decide (n2 < 0))
 (Q (.bool false) h)
 (vif (decide (n2 ≥ (slLen q1 : Int)))
 (Q (.bool false) h)
 (∃ (I5 : List AV → Heap → Prop) (m6 : List AV → Heap → Nat), I5 [.int .i64 0, .int .i64 0] h ∧
 ∀ n3 : Int, ∀ n4 : Int, ∀ h7 : Heap, I5 [.int .i64 n3, .int .i64 n4] h7 →
 vif (decide (n4 < (slLen q1 : Int)))
 (vIdx q1 n4 6 fun p8 =>
 ∃ n9 : Int, ∃ q10 : Option SL, ∃ n11 : Int, ∃ n12 : Int, ∃ n13 : Int, ∃ q14 : Option SL, cellsAt h7 p8 6 = some [.int .i64 n9, .sl q10, .int .i64 n11, .int .i64 n12, .int .i64 n13, .sl q14] ∧
 AC Tryz.prog 53 [.agg [.int .i64 n9, .sl q10, .int .i64 n11, .int .i64 n12, .int .i64 n13, .sl q14], .int .i64 n4, .int .i64 (-1)] h7 fun v15 h16 => ∃ b17 : Bool, v15 = .bool b17 ∧
 vif (!b17)
 (Q (.bool false) h16)
 (vIdx q1 n4 6 fun p18 =>
 ∃ n19 : Int, cellsAt h16 ⟨p18.b, p18.o + 0⟩ 1 = some [.int .i64 n19] ∧
 vif (n19 == 9)
 (((some [.sl q1, .int .i64 n2] : Option (List AV)) = some [.sl q1, .int .i64 n2] ∧ True) ∧ I5 [.int .i64 (wrapK .i64 (n3 + 1)), .int .i64 (wrapK .i64 (n4 + 1))] h16 ∧ m6 [.int .i64 (wrapK .i64 (n3 + 1)), .int .i64 (wrapK .i64 (n4 + 1))] h16 < m6 [.int .i64 n3, .int .i64 n4] h7)
 (((some [.sl q1, .int .i64 n2] : Option (List AV)) = some [.sl q1, .int .i64 n2] ∧ True) ∧ I5 [.int .i64 n3, .int .i64 (wrapK .i64 (n4 + 1))] h16 ∧ m6 [.int .i64 n3, .int .i64 (wrapK .i64 (n4 + 1))] h16 < m6 [.int .i64 n3, .int .i64 n4] h7)))
 (Q (.bool (decide (n3 ≤ 1))) h7)))))
theorem ac31 {q1 : Option SL} {n2 : Int} {h : Heap} {Q : AV → Heap → Prop} (hk : vc31 q1 n2 h Q) : AC Tryz.prog 31 [.agg [.sl q1, .int .i64 n2]] h Q :=
 AC_by (H := hintsOf [1] [(0, [3, 4], [])]) (by kernel_rfl) (by kernel_rfl) hk

/-- oxbowref19.May: what it asks. -/
def vc32 (q1 : Option SL) (h : Heap) (Q : AV → Heap → Prop) : Prop :=
 vif (decide ((slLen q1 : Int) > 4))
 (Q (.int .i64 1) h)
 (∃ (I3 : List AV → Heap → Prop) (m4 : List AV → Heap → Nat), I3 [.int .i64 0] h ∧
 ∀ n2 : Int, ∀ h5 : Heap, I3 [.int .i64 n2] h5 →
 vif (decide (n2 < (slLen q1 : Int)))
 (vIdx q1 n2 1 fun p6 =>
 ∃ q7 : Option SL, cellsAt h5 p6 1 = some [.sl q7] ∧
 AC Tryz.prog 45 [.sl q7] h5 fun v8 h9 => ∃ n10 : Int, v8 = .int .i64 n10 ∧
 vif (n10 != 0)
 (Q (.int .i64 n10) h9)
 ((True) ∧ I3 [.int .i64 (wrapK .i64 (n2 + 1))] h9 ∧ m4 [.int .i64 (wrapK .i64 (n2 + 1))] h9 < m4 [.int .i64 n2] h5))
 (Q (.int .i64 0) h5))
theorem ac32 {q1 : Option SL} {h : Heap} {Q : AV → Heap → Prop} (hk : vc32 q1 h Q) : AC Tryz.prog 32 [.sl q1] h Q :=
 AC_by (H := hintsOf [] [(0, [3], [])]) (by kernel_rfl) (by kernel_rfl) hk

/-- oxbowref19.loop: what it asks. -/
def vc33 (n1 : Int) (q2 : Option SL) (n3 : Int) (n4 : Int) (n5 : Int) (q6 : Option SL) (q7 : Option SL) (q8 : Option SL) (h : Heap) (Q : AV → Heap → Prop) : Prop :=
 PNew [.sl q8] true h fun a9 h10 =>
 ∃ (I14 : List AV → Heap → Prop) (m15 : List AV → Heap → Nat), I14 [.sl q8, .sl (some ⟨a9, 0, 1, 1, 0⟩), .int .i64 0] h10 ∧
 ∀ q11 : Option SL, ∀ q12 : Option SL, ∀ n13 : Int, ∀ h16 : Heap, I14 [.sl q11, .sl q12, .int .i64 n13] h16 →
 vif (decide (n13 < n5))
 (AC Tryz.prog 54 [.sl q6, .sl q7, .sl q11] h16 fun v17 h18 => ∃ q19 : Option SL, ∃ n20 : Int, v17 = .tup [.sl q19, .int .i64 n20] ∧
 vif (n20 != 0)
 (Q (.tup [.sl none, .int .i64 n20]) h18)
 (AC Tryz.prog 18 [.sl q11, .sl q19] h18 fun v21 h22 => ∃ b23 : Bool, v21 = .bool b23 ∧
 vif b23
 (Q (.tup [.sl q12, .int .i64 0]) h22)
 (PNew [.sl q19] true h22 fun a24 h25 =>
 PAppendS 1 24 q12 (some ⟨a24, 0, 1, 1, 0⟩) h25 fun q26 h27 =>
 ((some [.int .i64 n1, .sl q2, .int .i64 n3, .int .i64 n4, .int .i64 n5, .sl q6] : Option (List AV)) = some [.int .i64 n1, .sl q2, .int .i64 n3, .int .i64 n4, .int .i64 n5, .sl q6] ∧ True) ∧ I14 [.sl q19, .sl q26, .int .i64 (wrapK .i64 (n13 + 1))] h27 ∧ m15 [.sl q19, .sl q26, .int .i64 (wrapK .i64 (n13 + 1))] h27 < m15 [.sl q11, .sl q12, .int .i64 n13] h16)))
 (Q (.tup [.sl q12, .int .i64 0]) h16)
theorem ac33 {n1 : Int} {q2 : Option SL} {n3 : Int} {n4 : Int} {n5 : Int} {q6 : Option SL} {q7 : Option SL} {q8 : Option SL} {h : Heap} {Q : AV → Heap → Prop} (hk : vc33 n1 q2 n3 n4 n5 q6 q7 q8 h Q) : AC Tryz.prog 33 [.agg [.int .i64 n1, .sl q2, .int .i64 n3, .int .i64 n4, .int .i64 n5, .sl q6], .sl q7, .sl q8] h Q :=
 AC_by (H := hintsOf [3] [(0, [2, 8, 9], [])]) (by kernel_rfl) (by kernel_rfl) hk

/-- oxbowref19.ins: what it asks. -/
def vc34 (n1 : Int) (q2 : Option SL) (n3 : Int) (n4 : Int) (n5 : Int) (q6 : Option SL) (q7 : Option SL) (h : Heap) (Q : AV → Heap → Prop) : Prop :=
 ∃ (I10 : List AV → Heap → Prop) (m11 : List AV → Heap → Nat), I10 [.sl none, .int .i64 0] h ∧
 ∀ q8 : Option SL, ∀ n9 : Int, ∀ h12 : Heap, I10 [.sl q8, .int .i64 n9] h12 →
 vif (decide (n9 < (slLen q2 : Int)))
 (vIdx q2 n9 1 fun p13 =>
 ∃ n14 : Int, cellsAt h12 p13 1 = some [.int .i64 n14] ∧
 vIdx q7 n14 1 fun p15 =>
 ∃ q16 : Option SL, cellsAt h12 p15 1 = some [.sl q16] ∧
 PNew [.sl q16] true h12 fun a17 h18 =>
 PAppendS 1 24 q8 (some ⟨a17, 0, 1, 1, 0⟩) h18 fun q19 h20 =>
 ((some [.int .i64 n1, .sl q2, .int .i64 n3, .int .i64 n4, .int .i64 n5, .sl q6] : Option (List AV)) = some [.int .i64 n1, .sl q2, .int .i64 n3, .int .i64 n4, .int .i64 n5, .sl q6] ∧ True) ∧ I10 [.sl q19, .int .i64 (wrapK .i64 (n9 + 1))] h20 ∧ m11 [.sl q19, .int .i64 (wrapK .i64 (n9 + 1))] h20 < m11 [.sl q8, .int .i64 n9] h12)
 (Q (.sl q8) h12)
theorem ac34 {n1 : Int} {q2 : Option SL} {n3 : Int} {n4 : Int} {n5 : Int} {q6 : Option SL} {q7 : Option SL} {h : Heap} {Q : AV → Heap → Prop} (hk : vc34 n1 q2 n3 n4 n5 q6 q7 h Q) : AC Tryz.prog 34 [.agg [.int .i64 n1, .sl q2, .int .i64 n3, .int .i64 n4, .int .i64 n5, .sl q6], .sl q7] h Q :=
 AC_by (H := hintsOf [2] [(0, [5, 6], [])]) (by kernel_rfl) (by kernel_rfl) hk

/-- graph.Check: what it asks. -/
def vc35 (q1 : Option SL) (n2 : Int) (h : Heap) (Q : AV → Heap → Prop) : Prop :=
 AC Tryz.prog 55 [.sl q1, .int .i64 (-1)] h fun v3 h4 => ∃ b5 : Bool, v3 = .bool b5 ∧
 vif (!b5)
 (Q (.int .i64 170) h4)
 (vif (decide (n2 < 0))
 (Q (.int .i64 170) h4)
 (vif (decide (n2 ≥ (slLen q1 : Int)))
 (Q (.int .i64 170) h4)
 (AC Tryz.prog 56 [.agg [.sl q1, .int .i64 n2]] h4 fun v6 h7 => ∃ n8 : Int, v6 = .int .i64 n8 ∧
 vif (decide (n8 > 1))
 (Q (.int .i64 170) h7)
 (Q (.int .i64 0) h7))))
theorem ac35 {q1 : Option SL} {n2 : Int} {h : Heap} {Q : AV → Heap → Prop} (hk : vc35 q1 n2 h Q) : AC Tryz.prog 35 [.agg [.sl q1, .int .i64 n2]] h Q :=
 AC_by (H := hintsOf [1] []) (by kernel_rfl) (by kernel_rfl) hk

/-- graph.Loop: what it asks. -/
def vc36 (q1 : Option SL) (n2 : Int) (h : Heap) (Q : AV → Heap → Prop) : Prop :=
 AC Tryz.prog 35 [.agg [.sl q1, .int .i64 n2]] h fun v3 h4 => ∃ n5 : Int, v3 = .int .i64 n5 ∧
 vif (n5 != 0)
 (Q (.tup [.int .i64 0, .bool false]) h4)
 (AC Tryz.prog 57 [.sl q1, .func (.func 58) [] []] h4 fun v6 h7 => ∃ n8 : Int, v6 = .int .i64 n8 ∧
 Q (.tup [.int .i64 (maxI2 n8 0), .bool (decide (n8 ≥ 0))]) h7)
theorem ac36 {q1 : Option SL} {n2 : Int} {h : Heap} {Q : AV → Heap → Prop} (hk : vc36 q1 n2 h Q) : AC Tryz.prog 36 [.agg [.sl q1, .int .i64 n2]] h Q :=
 AC_by (H := hintsOf [1] []) (by kernel_rfl) (by kernel_rfl) hk

/-- rec.May: what it asks. -/
def vc37 (q1 : Option SL) (h : Heap) (Q : AV → Heap → Prop) : Prop :=
 AC Tryz.prog 59 [.sl q1, .func (.func 60) [] []] h fun v2 h3 => ∃ b4 : Bool, v2 = .bool b4 ∧
 vif b4
 (Q (.int .i64 30) h3)
 (vif (decide ((slLen q1 : Int) > 4096))
 (Q (.int .i64 31) h3)
 (Q (.int .i64 0) h3))
theorem ac37 {q1 : Option SL} {h : Heap} {Q : AV → Heap → Prop} (hk : vc37 q1 h Q) : AC Tryz.prog 37 [.sl q1] h Q :=
 AC_by (H := hintsOf [] []) (by kernel_rfl) (by kernel_rfl) hk

/-- eval.round).body: what it asks. -/
def vc38 (q1 : Option SL) (q2 : Option SL) (q3 : Option SL) (h : Heap) (Q : AV → Heap → Prop) : Prop :=
 PNew [.sl none, .func (.func 62) [.agg [.sl q1, .sl q2]] []] true h fun a4 h5 =>
 AC Tryz.prog 52 [.ptr (some ⟨a4, 0⟩), .sl q3] h5 fun v6 h7 => ∃ n8 : Int, v6 = .int .i64 n8 ∧
 vif (n8 != 0)
 (Q (.tup [.sl none, .int .i64 n8]) h7)
 (∃ q9 : Option SL, cellsAt h7 ⟨a4, 0⟩ 1 = some [.sl q9] ∧
 ∃ q10 : Option SL, cellsAt h7 ⟨a4, 0⟩ 1 = some [.sl q10] ∧
 vIdx q9 (wrapK .i64 ((slLen q10 : Int) - 1)) 1 fun p11 =>
 ∃ q12 : Option SL, cellsAt h7 p11 1 = some [.sl q12] ∧
 Q (.tup [.sl q12, .int .i64 0]) h7)
theorem ac38 {q1 : Option SL} {q2 : Option SL} {q3 : Option SL} {h : Heap} {Q : AV → Heap → Prop} (hk : vc38 q1 q2 q3 h Q) : AC Tryz.prog 38 [.agg [.sl q1, .sl q2], .sl q3] h Q :=
 AC_by (H := hintsOf [2] []) (by kernel_rfl) (by kernel_rfl) hk

/-- oxbowref03.Compare: what it asks. -/
def vc39 (n1 : Int) (n2 : Int) (n3 : Int) (n4 : Int) (h : Heap) (Q : AV → Heap → Prop) : Prop :=
 vif (decide (n1 < n3))
 (Q (.int .i64 (-1)) h)
 (vif (n1 == n3)
 (vif (decide (n2 < n4))
 (Q (.int .i64 (-1)) h)
 (vif ((n1 == n3) && ((n2 == n4) && true))
 (Q (.int .i64 0) h)
 (Q (.int .i64 1) h)))
 (vif ((n1 == n3) && ((n2 == n4) && true))
 (Q (.int .i64 0) h)
 (Q (.int .i64 1) h)))
theorem ac39 {n1 : Int} {n2 : Int} {n3 : Int} {n4 : Int} {h : Heap} {Q : AV → Heap → Prop} (hk : vc39 n1 n2 n3 n4 h Q) : AC Tryz.prog 39 [.agg [.int .i64 n1, .int .i64 n2], .agg [.int .i64 n3, .int .i64 n4]] h Q :=
 AC_by (H := hintsOf [2, 3] []) (by kernel_rfl) (by kernel_rfl) hk

/-- oper.maker).apply: what it asks. -/
def vc43 (p1 : Option PA) (n2 : Int) (q3 : Option SL) (n4 : Int) (n5 : Int) (n6 : Int) (q7 : Option SL) (q8 : Option SL) (h : Heap) (Q : AV → Heap → Prop) : Prop :=
 vif (n2 == 5)
 (vIdx q8 0 1 fun p9 =>
 ∃ q10 : Option SL, cellsAt h p9 1 = some [.sl q10] ∧
 AC Tryz.prog 69 [.ptr p1, .agg [.int .i64 n4, .int .i64 n5], .sl q10] h fun v11 h12 => v11 = .tup [] ∧
 Q (.tup []) h12)
 (vif (n2 == 6)
 (vIdx q8 0 1 fun p13 =>
 ∃ q14 : Option SL, cellsAt h p13 1 = some [.sl q14] ∧
 vIdx q8 1 1 fun p15 =>
 ∃ q16 : Option SL, cellsAt h p15 1 = some [.sl q16] ∧
 AC Tryz.prog 70 [.ptr p1, .agg [.int .i64 n4, .int .i64 n5], .sl q14, .sl q16] h fun v17 h18 => v17 = .tup [] ∧
 Q (.tup []) h18)
 (vif (n2 == 7)
 (vIdx q8 0 1 fun p19 =>
 ∃ q20 : Option SL, cellsAt h p19 1 = some [.sl q20] ∧
 AC Tryz.prog 71 [.sl q20] h fun v21 h22 => ∃ q23 : Option SL, ∃ n24 : Int, v21 = .tup [.sl q23, .int .i64 n24] ∧
 AC Tryz.prog 72 [.ptr p1, .sl q23] h22 fun v25 h26 => v25 = .tup [] ∧
 Q (.tup []) h26)
 (vif (n2 == 8)
 (vIdx q8 0 1 fun p27 =>
 ∃ q28 : Option SL, cellsAt h p27 1 = some [.sl q28] ∧
 AC Tryz.prog 72 [.ptr p1, .sl q28] h fun v29 h30 => v29 = .tup [] ∧
 vIdx q8 1 1 fun p31 =>
 ∃ q32 : Option SL, cellsAt h30 p31 1 = some [.sl q32] ∧
 AC Tryz.prog 72 [.ptr p1, .sl q32] h30 fun v33 h34 => v33 = .tup [] ∧
 Q (.tup []) h34)
 (vIdx q8 0 1 fun p35 =>
 ∃ q36 : Option SL, cellsAt h p35 1 = some [.sl q36] ∧
 ∃ (I38 : List AV → Heap → Prop) (m39 : List AV → Heap → Nat), I38 [.int .i64 0] h ∧
 ∀ n37 : Int, ∀ h40 : Heap, I38 [.int .i64 n37] h40 →
 vif (decide (n37 < (slLen q36 : Int)))
 (vIdx q36 n37 2 fun p41 =>
 ∃ n42 : Int, ∃ n43 : Int, cellsAt h40 p41 2 = some [.int .i64 n42, .int .i64 n43] ∧
 AC Tryz.prog 73 [.ptr p1, .agg [.int .i64 n2, .sl q3, .int .i64 n4, .int .i64 n5, .int .i64 n6, .sl q7], .agg [.int .i64 n42, .int .i64 n43]] h40 fun v44 h45 => v44 = .tup [] ∧
 ((some [.int .i64 n2, .sl q3, .int .i64 n4, .int .i64 n5, .int .i64 n6, .sl q7] : Option (List AV)) = some [.int .i64 n2, .sl q3, .int .i64 n4, .int .i64 n5, .int .i64 n6, .sl q7] ∧ True) ∧ I38 [.int .i64 (wrapK .i64 (n37 + 1))] h45 ∧ m39 [.int .i64 (wrapK .i64 (n37 + 1))] h45 < m39 [.int .i64 n37] h40)
 (Q (.tup []) h40)))))
theorem ac43 {p1 : Option PA} {n2 : Int} {q3 : Option SL} {n4 : Int} {n5 : Int} {n6 : Int} {q7 : Option SL} {q8 : Option SL} {h : Heap} {Q : AV → Heap → Prop} (hk : vc43 p1 n2 q3 n4 n5 n6 q7 q8 h Q) : AC Tryz.prog 43 [.ptr p1, .agg [.int .i64 n2, .sl q3, .int .i64 n4, .int .i64 n5, .int .i64 n6, .sl q7], .sl q8] h Q :=
 AC_by (H := hintsOf [4, 9] [(1, [16], [])]) (by kernel_rfl) (by kernel_rfl) hk

/-- rec.Sort: what it asks. -/
def vc44 (q1 : Option SL) (h : Heap) (Q : AV → Heap → Prop) : Prop :=
 AC Tryz.prog 37 [.sl q1] h fun v2 h3 => ∃ n4 : Int, v2 = .int .i64 n4 ∧
 vif (n4 != 0)
 (Q (.tup [.sl none, .int .i64 n4]) h3)
 (AC Tryz.prog 74 [.sl q1] h3 fun v5 h6 => ∃ q7 : Option SL, v5 = .sl q7 ∧
 Q (.tup [.sl q7, .int .i64 0]) h6)
theorem ac44 {q1 : Option SL} {h : Heap} {Q : AV → Heap → Prop} (hk : vc44 q1 h Q) : AC Tryz.prog 44 [.sl q1] h Q :=
 AC_by (H := hintsOf [] []) (by kernel_rfl) (by kernel_rfl) hk

/-- oxbowref03.May: what it asks. -/
def vc45 (q1 : Option SL) (h : Heap) (Q : AV → Heap → Prop) : Prop :=
 ∃ (I3 : List AV → Heap → Prop) (m4 : List AV → Heap → Nat), I3 [.int .i64 0] h ∧
 ∀ n2 : Int, ∀ h5 : Heap, I3 [.int .i64 n2] h5 →
 vif (decide (n2 < (slLen q1 : Int)))
 (vIdx q1 n2 2 fun p6 =>
 ∃ n7 : Int, ∃ n8 : Int, cellsAt h5 p6 2 = some [.int .i64 n7, .int .i64 n8] ∧
 AC Tryz.prog 75 [.agg [.int .i64 n7, .int .i64 n8]] h5 fun v9 h10 => ∃ b11 : Bool, v9 = .bool b11 ∧
 vif (!b11)
 (Q (.int .i64 30) h10)
 ((True) ∧ I3 [.int .i64 (wrapK .i64 (n2 + 1))] h10 ∧ m4 [.int .i64 (wrapK .i64 (n2 + 1))] h10 < m4 [.int .i64 n2] h5))
 (vif (decide ((slLen q1 : Int) > 4096))
 (Q (.int .i64 31) h5)
 (Q (.int .i64 0) h5))
theorem ac45 {q1 : Option SL} {h : Heap} {Q : AV → Heap → Prop} (hk : vc45 q1 h Q) : AC Tryz.prog 45 [.sl q1] h Q :=
 AC_by (H := hintsOf [] [(0, [3], [])]) (by kernel_rfl) (by kernel_rfl) hk

/-- oxbowref18.made: what it asks. -/
def vc46 (n1 : Int) (q2 : Option SL) (n3 : Int) (n4 : Int) (n5 : Int) (q6 : Option SL) (q7 : Option SL) (h : Heap) (Q : AV → Heap → Prop) : Prop :=
 vif (n1 == 5)
 (vIdx q7 0 1 fun p8 =>
 ∃ q9 : Option SL, cellsAt h p8 1 = some [.sl q9] ∧
 AC Tryz.prog 76 [.sl q9] h fun v10 h11 => ∃ q12 : Option SL, v10 = .sl q12 ∧
 ∃ (I15 : List AV → Heap → Prop) (m16 : List AV → Heap → Nat), I15 [.sl none, .int .i64 0] h11 ∧
 ∀ q13 : Option SL, ∀ n14 : Int, ∀ h17 : Heap, I15 [.sl q13, .int .i64 n14] h17 →
 vif (decide (n14 < (slLen q12 : Int)))
 (vIdx q12 n14 1 fun p18 =>
 ∃ q19 : Option SL, cellsAt h17 p18 1 = some [.sl q19] ∧
 AC Tryz.prog 77 [.agg [.int .i64 n3, .int .i64 n4], .sl q19] h17 fun v20 h21 => ∃ n22 : Int, ∃ n23 : Int, v20 = .agg [.int .i64 n22, .int .i64 n23] ∧
 PNew [.int .i64 n22, .int .i64 n23] true h21 fun a24 h25 =>
 PAppendS 2 16 q13 (some ⟨a24, 0, 1, 1, 0⟩) h25 fun q26 h27 =>
 ((some [.int .i64 n1, .sl q2, .int .i64 n3, .int .i64 n4, .int .i64 n5, .sl q6] : Option (List AV)) = some [.int .i64 n1, .sl q2, .int .i64 n3, .int .i64 n4, .int .i64 n5, .sl q6] ∧ True) ∧ I15 [.sl q26, .int .i64 (wrapK .i64 (n14 + 1))] h27 ∧ m16 [.sl q26, .int .i64 (wrapK .i64 (n14 + 1))] h27 < m16 [.sl q13, .int .i64 n14] h17)
 (Q (.sl q13) h17))
 (vif (n1 == 6)
 (vIdx q7 0 1 fun p28 =>
 ∃ q29 : Option SL, cellsAt h p28 1 = some [.sl q29] ∧
 vIdx q7 1 1 fun p30 =>
 ∃ q31 : Option SL, cellsAt h p30 1 = some [.sl q31] ∧
 AC Tryz.prog 78 [.agg [.int .i64 n3, .int .i64 n4], .sl q29, .sl q31] h fun v32 h33 => ∃ q34 : Option SL, v32 = .sl q34 ∧
 Q (.sl q34) h33)
 (vif (n1 == 7)
 (vIdx q7 0 1 fun p35 =>
 ∃ q36 : Option SL, cellsAt h p35 1 = some [.sl q36] ∧
 AC Tryz.prog 79 [.sl q36] h fun v37 h38 => ∃ q39 : Option SL, v37 = .sl q39 ∧
 Q (.sl q39) h38)
 (vif (n1 == 8)
 (vIdx q7 0 1 fun p40 =>
 ∃ q41 : Option SL, cellsAt h p40 1 = some [.sl q41] ∧
 vIdx q7 1 1 fun p42 =>
 ∃ q43 : Option SL, cellsAt h p42 1 = some [.sl q43] ∧
 PNew [] true h fun a44 h45 =>
 (∃ q52 : Option SL, cellsAt h45 p42 1 = some [.sl q52] ∧
 LV.val (.sl q52) = LV.val (.sl q43)) ∧
 (∃ q51 : Option SL, cellsAt h45 p40 1 = some [.sl q51] ∧
 LV.val (.sl q51) = LV.val (.sl q41)) ∧
 PAppendS 2 16 (some ⟨a44, 0, 0, 0, 0⟩) q41 h45 fun q46 h47 =>
 (∃ q50 : Option SL, cellsAt h47 p42 1 = some [.sl q50] ∧
 LV.val (.sl q50) = LV.val (.sl q43)) ∧
 PAppendS 2 16 q46 q43 h47 fun q48 h49 =>
 Q (.sl q48) h49)
 (∃ (I55 : List AV → Heap → Prop) (m56 : List AV → Heap → Nat), I55 [.sl none, .int .i64 0] h ∧
 ∀ q53 : Option SL, ∀ n54 : Int, ∀ h57 : Heap, I55 [.sl q53, .int .i64 n54] h57 →
 vIdx q7 0 1 fun p58 =>
 ∃ q59 : Option SL, cellsAt h57 p58 1 = some [.sl q59] ∧
 vif (decide (n54 < (slLen q59 : Int)))
 (vIdx q7 0 1 fun p60 =>
 ∃ q61 : Option SL, cellsAt h57 p60 1 = some [.sl q61] ∧
 vIdx q61 n54 2 fun p62 =>
 ∃ n63 : Int, ∃ n64 : Int, cellsAt h57 p62 2 = some [.int .i64 n63, .int .i64 n64] ∧
 AC Tryz.prog 80 [.agg [.int .i64 n1, .sl q2, .int .i64 n3, .int .i64 n4, .int .i64 n5, .sl q6], .agg [.int .i64 n63, .int .i64 n64]] h57 fun v65 h66 => ∃ q67 : Option SL, v65 = .sl q67 ∧
 PAppendS 2 16 q53 q67 h66 fun q68 h69 =>
 ((some [.int .i64 n1, .sl q2, .int .i64 n3, .int .i64 n4, .int .i64 n5, .sl q6] : Option (List AV)) = some [.int .i64 n1, .sl q2, .int .i64 n3, .int .i64 n4, .int .i64 n5, .sl q6] ∧ True) ∧ I55 [.sl q68, .int .i64 (wrapK .i64 (n54 + 1))] h69 ∧ m56 [.sl q68, .int .i64 (wrapK .i64 (n54 + 1))] h69 < m56 [.sl q53, .int .i64 n54] h57)
 (Q (.sl q53) h57)))))
theorem ac46 {n1 : Int} {q2 : Option SL} {n3 : Int} {n4 : Int} {n5 : Int} {q6 : Option SL} {q7 : Option SL} {h : Heap} {Q : AV → Heap → Prop} (hk : vc46 n1 q2 n3 n4 n5 q6 q7 h Q) : AC Tryz.prog 46 [.agg [.int .i64 n1, .sl q2, .int .i64 n3, .int .i64 n4, .int .i64 n5, .sl q6], .sl q7] h Q :=
 AC_by (H := hintsOf [2] [(1, [5, 7], []), (3, [5, 8], [])]) (by kernel_rfl) (by kernel_rfl) hk

/-- graph.Arity: what it asks. -/
def vc47 (n1 : Int) (h : Heap) (Q : AV → Heap → Prop) : Prop :=
 AC Tryz.prog 81 [.int .i64 n1] h fun v2 h3 => ∃ n4 : Int, ∃ n5 : Int, ∃ b6 : Bool, v2 = .tup [.agg [.int .i64 n4, .int .i64 n5], .bool b6] ∧
 Q (.int .i64 n4) h3
theorem ac47 {n1 : Int} {h : Heap} {Q : AV → Heap → Prop} (hk : vc47 n1 h Q) : AC Tryz.prog 47 [.int .i64 n1] h Q :=
 AC_by (H := hintsOf [3] []) (by kernel_rfl) (by kernel_rfl) hk

/-- fn.Family: what it asks. -/
def vc48 (n1 : Int) (n2 : Int) (h : Heap) (Q : AV → Heap → Prop) : Prop :=
 AC Tryz.prog 82 [.agg [.int .i64 n1, .int .i64 n2]] h fun v3 h4 => ∃ n5 : Int, v3 = .int .i64 n5 ∧
 vif (n5 != 0)
 (Q (.int .i64 0) h4)
 (AC Tryz.prog 83 [.int .i64 n1] h4 fun v6 h7 => ∃ n8 : Int, v6 = .int .i64 n8 ∧
 Q (.int .i64 n8) h7)
theorem ac48 {n1 : Int} {n2 : Int} {h : Heap} {Q : AV → Heap → Prop} (hk : vc48 n1 n2 h Q) : AC Tryz.prog 48 [.agg [.int .i64 n1, .int .i64 n2]] h Q :=
 AC_by (H := hintsOf [1] []) (by kernel_rfl) (by kernel_rfl) hk

/-- oxbowref17.Arity: what it asks. -/
def vc49 (n1 : Int) (h : Heap) (Q : AV → Heap → Prop) : Prop :=
 vif (n1 == 2)
 (Q (.int .i64 1) h)
 (vif (n1 == 3)
 (Q (.int .i64 1) h)
 (vif (n1 == 4)
 (Q (.int .i64 1) h)
 (vif (n1 == 5)
 (Q (.int .i64 1) h)
 (vif (n1 == 7)
 (Q (.int .i64 1) h)
 (vif (n1 == 9)
 (Q (.int .i64 1) h)
 (vif (n1 == 6)
 (Q (.int .i64 2) h)
 (vif (n1 == 8)
 (Q (.int .i64 2) h)
 (Q (.int .i64 0) h))))))))
theorem ac49 {n1 : Int} {h : Heap} {Q : AV → Heap → Prop} (hk : vc49 n1 h Q) : AC Tryz.prog 49 [.int .i64 n1] h Q :=
 AC_by (H := hintsOf [] []) (by kernel_rfl) (by kernel_rfl) hk

/-- oxbowref16.Family: what it asks. -/
def vc50 (n1 : Int) (n2 : Int) (h : Heap) (Q : AV → Heap → Prop) : Prop :=
 vif (decide (n2 < 0))
 (Q (.int .i64 0) h)
 (vif (decide (n2 ≥ 1048576))
 (Q (.int .i64 0) h)
 (vif (n1 == 1)
 (Q (.int .i64 1) h)
 (vif (n1 == 2)
 (Q (.int .i64 1) h)
 (vif (n1 == 7)
 (Q (.int .i64 1) h)
 (vif (n1 == 8)
 (Q (.int .i64 1) h)
 (vif (n1 == 4)
 (vif (decide (n2 ≥ 1))
 (Q (.int .i64 1) h)
 (vif (n2 != 0)
 (Q (.int .i64 0) h)
 (vif (n1 == 3)
 (Q (.int .i64 1) h)
 (vif (n1 == 12)
 (Q (.int .i64 2) h)
 (vif (n1 == 15)
 (Q (.int .i64 3) h)
 (vif (n1 == 16)
 (Q (.int .i64 4) h)
 (vif (n1 == 17)
 (Q (.int .i64 4) h)
 (vif (n1 == 18)
 (Q (.int .i64 4) h)
 (vif (n1 == 19)
 (Q (.int .i64 4) h)
 (vif (n1 == 20)
 (Q (.int .i64 5) h)
 (vif (n1 == 21)
 (Q (.int .i64 5) h)
 (vif (n1 == 22)
 (Q (.int .i64 5) h)
 (vif (n1 == 23)
 (Q (.int .i64 5) h)
 (Q (.int .i64 0) h))))))))))))))
 (vif (n1 == 5)
 (vif (decide (n2 ≥ 1))
 (Q (.int .i64 1) h)
 (vif (n2 != 0)
 (Q (.int .i64 0) h)
 (vif (n1 == 3)
 (Q (.int .i64 1) h)
 (vif (n1 == 12)
 (Q (.int .i64 2) h)
 (vif (n1 == 15)
 (Q (.int .i64 3) h)
 (vif (n1 == 16)
 (Q (.int .i64 4) h)
 (vif (n1 == 17)
 (Q (.int .i64 4) h)
 (vif (n1 == 18)
 (Q (.int .i64 4) h)
 (vif (n1 == 19)
 (Q (.int .i64 4) h)
 (vif (n1 == 20)
 (Q (.int .i64 5) h)
 (vif (n1 == 21)
 (Q (.int .i64 5) h)
 (vif (n1 == 22)
 (Q (.int .i64 5) h)
 (vif (n1 == 23)
 (Q (.int .i64 5) h)
 (Q (.int .i64 0) h))))))))))))))
 (vif (n1 == 6)
 (vif (decide (n2 ≥ 1))
 (Q (.int .i64 1) h)
 (vif (n2 != 0)
 (Q (.int .i64 0) h)
 (vif (n1 == 3)
 (Q (.int .i64 1) h)
 (vif (n1 == 12)
 (Q (.int .i64 2) h)
 (vif (n1 == 15)
 (Q (.int .i64 3) h)
 (vif (n1 == 16)
 (Q (.int .i64 4) h)
 (vif (n1 == 17)
 (Q (.int .i64 4) h)
 (vif (n1 == 18)
 (Q (.int .i64 4) h)
 (vif (n1 == 19)
 (Q (.int .i64 4) h)
 (vif (n1 == 20)
 (Q (.int .i64 5) h)
 (vif (n1 == 21)
 (Q (.int .i64 5) h)
 (vif (n1 == 22)
 (Q (.int .i64 5) h)
 (vif (n1 == 23)
 (Q (.int .i64 5) h)
 (Q (.int .i64 0) h))))))))))))))
 (vif (n1 == 9)
 (Q (.int .i64 2) h)
 (vif (n1 == 10)
 (Q (.int .i64 2) h)
 (vif (n1 == 11)
 (Q (.int .i64 2) h)
 (vif (n1 == 13)
 (vif (decide (n2 ≤ 8))
 (Q (.int .i64 3) h)
 (vif (n2 != 0)
 (Q (.int .i64 0) h)
 (vif (n1 == 3)
 (Q (.int .i64 1) h)
 (vif (n1 == 12)
 (Q (.int .i64 2) h)
 (vif (n1 == 15)
 (Q (.int .i64 3) h)
 (vif (n1 == 16)
 (Q (.int .i64 4) h)
 (vif (n1 == 17)
 (Q (.int .i64 4) h)
 (vif (n1 == 18)
 (Q (.int .i64 4) h)
 (vif (n1 == 19)
 (Q (.int .i64 4) h)
 (vif (n1 == 20)
 (Q (.int .i64 5) h)
 (vif (n1 == 21)
 (Q (.int .i64 5) h)
 (vif (n1 == 22)
 (Q (.int .i64 5) h)
 (vif (n1 == 23)
 (Q (.int .i64 5) h)
 (Q (.int .i64 0) h))))))))))))))
 (vif (n1 == 14)
 (vif (decide (n2 ≤ 8))
 (Q (.int .i64 3) h)
 (vif (n2 != 0)
 (Q (.int .i64 0) h)
 (vif (n1 == 3)
 (Q (.int .i64 1) h)
 (vif (n1 == 12)
 (Q (.int .i64 2) h)
 (vif (n1 == 15)
 (Q (.int .i64 3) h)
 (vif (n1 == 16)
 (Q (.int .i64 4) h)
 (vif (n1 == 17)
 (Q (.int .i64 4) h)
 (vif (n1 == 18)
 (Q (.int .i64 4) h)
 (vif (n1 == 19)
 (Q (.int .i64 4) h)
 (vif (n1 == 20)
 (Q (.int .i64 5) h)
 (vif (n1 == 21)
 (Q (.int .i64 5) h)
 (vif (n1 == 22)
 (Q (.int .i64 5) h)
 (vif (n1 == 23)
 (Q (.int .i64 5) h)
 (Q (.int .i64 0) h))))))))))))))
 (vif (n2 != 0)
 (Q (.int .i64 0) h)
 (vif (n1 == 3)
 (Q (.int .i64 1) h)
 (vif (n1 == 12)
 (Q (.int .i64 2) h)
 (vif (n1 == 15)
 (Q (.int .i64 3) h)
 (vif (n1 == 16)
 (Q (.int .i64 4) h)
 (vif (n1 == 17)
 (Q (.int .i64 4) h)
 (vif (n1 == 18)
 (Q (.int .i64 4) h)
 (vif (n1 == 19)
 (Q (.int .i64 4) h)
 (vif (n1 == 20)
 (Q (.int .i64 5) h)
 (vif (n1 == 21)
 (Q (.int .i64 5) h)
 (vif (n1 == 22)
 (Q (.int .i64 5) h)
 (vif (n1 == 23)
 (Q (.int .i64 5) h)
 (Q (.int .i64 0) h))))))))))))))))))))))))))
theorem ac50 {n1 : Int} {n2 : Int} {h : Heap} {Q : AV → Heap → Prop} (hk : vc50 n1 n2 h Q) : AC Tryz.prog 50 [.agg [.int .i64 n1, .int .i64 n2]] h Q :=
 AC_by (H := hintsOf [1] []) (by kernel_rfl) (by kernel_rfl) hk

/-- eval.whole).node: what it asks. -/
def vc51 (p1 : Option PA) (n2 : Int) (q3 : Option SL) (n4 : Int) (n5 : Int) (n6 : Int) (q7 : Option SL) (h : Heap) (Q : AV → Heap → Prop) : Prop :=
 vif (n2 == 9)
 (AC Tryz.prog 84 [.ptr p1, .agg [.int .i64 n2, .sl q3, .int .i64 n4, .int .i64 n5, .int .i64 n6, .sl q7]] h fun v8 h9 => ∃ q10 : Option SL, ∃ n11 : Int, v8 = .tup [.sl q10, .int .i64 n11] ∧
 Q (.tup [.sl q10, .int .i64 n11]) h9)
 (vPtr p1 fun p12 =>
 ∃ q13 : Option SL, cellsAt h ⟨p12.b, p12.o + 2⟩ 1 = some [.sl q13] ∧
 vif (decide (n6 ≥ (slLen q13 : Int)))
 (Q (.tup [.sl none, .int .i64 0]) h)
 (vPtr p1 fun p14 =>
 ∃ q15 : Option SL, cellsAt h ⟨p14.b, p14.o + 2⟩ 1 = some [.sl q15] ∧
 vIdx q15 n6 1 fun p16 =>
 ∃ q17 : Option SL, cellsAt h p16 1 = some [.sl q17] ∧
 AC Tryz.prog 44 [.sl q17] h fun v18 h19 => ∃ q20 : Option SL, ∃ n21 : Int, v18 = .tup [.sl q20, .int .i64 n21] ∧
 Q (.tup [.sl q20, .int .i64 n21]) h19))
theorem ac51 {p1 : Option PA} {n2 : Int} {q3 : Option SL} {n4 : Int} {n5 : Int} {n6 : Int} {q7 : Option SL} {h : Heap} {Q : AV → Heap → Prop} (hk : vc51 p1 n2 q3 n4 n5 n6 q7 h Q) : AC Tryz.prog 51 [.ptr p1, .agg [.int .i64 n2, .sl q3, .int .i64 n4, .int .i64 n5, .int .i64 n6, .sl q7]] h Q :=
 AC_by (H := hintsOf [3] []) (by kernel_rfl) (by kernel_rfl) hk

/-- eval.maker).all: what it asks. -/
def vc52 (p1 : Option PA) (q2 : Option SL) (h : Heap) (Q : AV → Heap → Prop) : Prop :=
 ∃ (I4 : List AV → Heap → Prop) (m5 : List AV → Heap → Nat), I4 [.int .i64 0] h ∧
 ∀ n3 : Int, ∀ h6 : Heap, I4 [.int .i64 n3] h6 →
 vif (decide (n3 < (slLen q2 : Int)))
 (vIdx q2 n3 6 fun p7 =>
 ∃ n8 : Int, ∃ q9 : Option SL, ∃ n10 : Int, ∃ n11 : Int, ∃ n12 : Int, ∃ q13 : Option SL, cellsAt h6 p7 6 = some [.int .i64 n8, .sl q9, .int .i64 n10, .int .i64 n11, .int .i64 n12, .sl q13] ∧
 vPtr p1 fun p14 =>
 ∃ v15 : AV, v15.one = true ∧ cellsAt h6 ⟨p14.b, p14.o + 1⟩ 1 = some (AV.cells v15) ∧
 AC Tryz.prog 24 [.agg [.int .i64 n8, .sl q9, .int .i64 n10, .int .i64 n11, .int .i64 n12, .sl q13]] h6 fun v16 h17 => ∃ b18 : Bool, v16 = .bool b18 ∧
 vif b18
 (AC Tryz.prog 85 [.ptr p1, .agg [.int .i64 n8, .sl q9, .int .i64 n10, .int .i64 n11, .int .i64 n12, .sl q13]] h17 fun v19 h20 => ∃ q21 : Option SL, ∃ n22 : Int, v19 = .tup [.sl q21, .int .i64 n22] ∧
 vif (n22 != 0)
 (Q (.int .i64 n22) h20)
 (vPtr p1 fun p23 =>
 ∃ q24 : Option SL, cellsAt h20 ⟨p23.b, p23.o + 0⟩ 1 = some [.sl q24] ∧
 PNew [.sl q21] true h20 fun a25 h26 =>
 PAppendS 1 24 q24 (some ⟨a25, 0, 1, 1, 0⟩) h26 fun q27 h28 =>
 vPtr p1 fun p29 =>
 PStore h28 ⟨p29.b, p29.o + 0⟩ [.sl q27] fun h30 =>
 (True) ∧ I4 [.int .i64 (wrapK .i64 (n3 + 1))] h30 ∧ m5 [.int .i64 (wrapK .i64 (n3 + 1))] h30 < m5 [.int .i64 n3] h6))
 (vCallF Tryz.prog (AC Tryz.prog) v15 [.agg [.int .i64 n8, .sl q9, .int .i64 n10, .int .i64 n11, .int .i64 n12, .sl q13]] h17 fun v31 h32 => ∃ q33 : Option SL, ∃ n34 : Int, v31 = .tup [.sl q33, .int .i64 n34] ∧
 vif (n34 != 0)
 (Q (.int .i64 n34) h32)
 (vPtr p1 fun p35 =>
 ∃ q36 : Option SL, cellsAt h32 ⟨p35.b, p35.o + 0⟩ 1 = some [.sl q36] ∧
 PNew [.sl q33] true h32 fun a37 h38 =>
 PAppendS 1 24 q36 (some ⟨a37, 0, 1, 1, 0⟩) h38 fun q39 h40 =>
 vPtr p1 fun p41 =>
 PStore h40 ⟨p41.b, p41.o + 0⟩ [.sl q39] fun h42 =>
 (True) ∧ I4 [.int .i64 (wrapK .i64 (n3 + 1))] h42 ∧ m5 [.int .i64 (wrapK .i64 (n3 + 1))] h42 < m5 [.int .i64 n3] h6)))
 (Q (.int .i64 0) h6)
theorem ac52 {p1 : Option PA} {q2 : Option SL} {h : Heap} {Q : AV → Heap → Prop} (hk : vc52 p1 q2 h Q) : AC Tryz.prog 52 [.ptr p1, .sl q2] h Q :=
 AC_by (H := hintsOf [6] [(0, [12], [])]) (by kernel_rfl) (by kernel_rfl) hk

/-- oxbowref17.node: what it asks. -/
def vc53 (n1 : Int) (q2 : Option SL) (n3 : Int) (n4 : Int) (n5 : Int) (q6 : Option SL) (n7 : Int) (n8 : Int) (h : Heap) (Q : AV → Heap → Prop) : Prop :=
 vif (decide (n1 < 1))
 ((LV.val (.tup []) = LV.val (.tup [])) ∧
 Q (.bool false) h)
 (vif (decide (n1 > 11))
 ((LV.val (.tup []) = LV.val (.tup [])) ∧
 Q (.bool false) h)
 (AC Tryz.prog 49 [.int .i64 n1] h fun v9 h10 => ∃ n11 : Int, v9 = .int .i64 n11 ∧
 (LV.val (.sl q2) = LV.val (.sl q2)) ∧
 vif ((slLen q2 : Int) != n11)
 (Q (.bool false) h10)
 (∃ (I13 : List AV → Heap → Prop) (m14 : List AV → Heap → Nat), I13 [.int .i64 0] h10 ∧
 ∀ n12 : Int, ∀ h15 : Heap, I13 [.int .i64 n12] h15 →
 vif (decide (n12 < (slLen q2 : Int)))
 (vIdx q2 n12 1 fun p16 =>
 ∃ n17 : Int, cellsAt h15 p16 1 = some [.int .i64 n17] ∧
 vif (decide (n17 < 0))
 (Q (.bool false) h15)
 (vIdx q2 n12 1 fun p18 =>
 ∃ n19 : Int, cellsAt h15 p18 1 = some [.int .i64 n19] ∧
 vif (decide (n19 ≥ n7))
 (Q (.bool false) h15)
 (((some [.int .i64 n1, .sl q2, .int .i64 n3, .int .i64 n4, .int .i64 n5, .sl q6] : Option (List AV)) = some [.int .i64 n1, .sl q2, .int .i64 n3, .int .i64 n4, .int .i64 n5, .sl q6] ∧ True) ∧ I13 [.int .i64 (wrapK .i64 (n12 + 1))] h15 ∧ m14 [.int .i64 (wrapK .i64 (n12 + 1))] h15 < m14 [.int .i64 n12] h15)))
 (AC Tryz.prog 86 [.int .i64 n1] h15 fun v20 h21 => ∃ n22 : Int, v20 = .int .i64 n22 ∧
 vif (decide (n22 > 0))
 (AC Tryz.prog 50 [.agg [.int .i64 n3, .int .i64 n4]] h21 fun v23 h24 => ∃ n25 : Int, v23 = .int .i64 n25 ∧
 (LV.val (.int .i64 n1) = LV.val (.int .i64 n1)) ∧
 AC Tryz.prog 86 [.int .i64 n1] h24 fun v26 h27 => ∃ n28 : Int, v26 = .int .i64 n28 ∧
 vif (n25 != n28)
 (Q (.bool false) h27)
 (AC Tryz.prog 86 [.int .i64 n1] h27 fun v29 h30 => ∃ n31 : Int, v29 = .int .i64 n31 ∧
 vif (n31 == 0)
 (vif (!((n3 == 0) && ((n4 == 0) && true)))
 (Q (.bool false) h30)
 (vif (n1 != 9)
 (vif (decide ((slLen q6 : Int) > 0))
 (Q (.bool false) h30)
 (vif (n1 == 1)
 (vif (decide (n8 < 0))
 (vif (decide (n5 ≥ 0))
 (Q (.bool (decide (n5 < 4))) h30)
 (Q (.bool false) h30))
 (Q (.bool false) h30))
 (vif (n1 == 9)
 (vif (decide (n8 < 0))
 (vif (decide (n5 ≥ 1))
 (vif (decide (n5 ≤ 64))
 (AC Tryz.prog 87 [.sl q6, .int .i64 n7] h30 fun v32 h33 => ∃ b34 : Bool, v32 = .bool b34 ∧
 Q (.bool b34) h33)
 (Q (.bool false) h30))
 (Q (.bool false) h30))
 (Q (.bool false) h30))
 (vif (n1 == 10)
 (vif (decide (n8 ≥ 0))
 (Q (.bool (n5 == 0)) h30)
 (Q (.bool false) h30))
 (vif (n1 == 11)
 (vif (decide (n8 ≥ 0))
 (vif (decide (n5 ≥ 0))
 (Q (.bool (decide (n5 < n8))) h30)
 (Q (.bool false) h30))
 (Q (.bool false) h30))
 (Q (.bool (n5 == 0)) h30))))))
 (vif (n1 == 1)
 (vif (decide (n8 < 0))
 (vif (decide (n5 ≥ 0))
 (Q (.bool (decide (n5 < 4))) h30)
 (Q (.bool false) h30))
 (Q (.bool false) h30))
 (vif (n1 == 9)
 (vif (decide (n8 < 0))
 (vif (decide (n5 ≥ 1))
 (vif (decide (n5 ≤ 64))
 (AC Tryz.prog 87 [.sl q6, .int .i64 n7] h30 fun v35 h36 => ∃ b37 : Bool, v35 = .bool b37 ∧
 Q (.bool b37) h36)
 (Q (.bool false) h30))
 (Q (.bool false) h30))
 (Q (.bool false) h30))
 (vif (n1 == 10)
 (vif (decide (n8 ≥ 0))
 (Q (.bool (n5 == 0)) h30)
 (Q (.bool false) h30))
 (vif (n1 == 11)
 (vif (decide (n8 ≥ 0))
 (vif (decide (n5 ≥ 0))
 (Q (.bool (decide (n5 < n8))) h30)
 (Q (.bool false) h30))
 (Q (.bool false) h30))
 (Q (.bool (n5 == 0)) h30)))))))
 (vif (n1 != 9)
 (vif (decide ((slLen q6 : Int) > 0))
 (Q (.bool false) h30)
 (vif (n1 == 1)
 (vif (decide (n8 < 0))
 (vif (decide (n5 ≥ 0))
 (Q (.bool (decide (n5 < 4))) h30)
 (Q (.bool false) h30))
 (Q (.bool false) h30))
 (vif (n1 == 9)
 (vif (decide (n8 < 0))
 (vif (decide (n5 ≥ 1))
 (vif (decide (n5 ≤ 64))
 (AC Tryz.prog 87 [.sl q6, .int .i64 n7] h30 fun v38 h39 => ∃ b40 : Bool, v38 = .bool b40 ∧
 Q (.bool b40) h39)
 (Q (.bool false) h30))
 (Q (.bool false) h30))
 (Q (.bool false) h30))
 (vif (n1 == 10)
 (vif (decide (n8 ≥ 0))
 (Q (.bool (n5 == 0)) h30)
 (Q (.bool false) h30))
 (vif (n1 == 11)
 (vif (decide (n8 ≥ 0))
 (vif (decide (n5 ≥ 0))
 (Q (.bool (decide (n5 < n8))) h30)
 (Q (.bool false) h30))
 (Q (.bool false) h30))
 (Q (.bool (n5 == 0)) h30))))))
 (vif (n1 == 1)
 (vif (decide (n8 < 0))
 (vif (decide (n5 ≥ 0))
 (Q (.bool (decide (n5 < 4))) h30)
 (Q (.bool false) h30))
 (Q (.bool false) h30))
 (vif (n1 == 9)
 (vif (decide (n8 < 0))
 (vif (decide (n5 ≥ 1))
 (vif (decide (n5 ≤ 64))
 (AC Tryz.prog 87 [.sl q6, .int .i64 n7] h30 fun v41 h42 => ∃ b43 : Bool, v41 = .bool b43 ∧
 Q (.bool b43) h42)
 (Q (.bool false) h30))
 (Q (.bool false) h30))
 (Q (.bool false) h30))
 (vif (n1 == 10)
 (vif (decide (n8 ≥ 0))
 (Q (.bool (n5 == 0)) h30)
 (Q (.bool false) h30))
 (vif (n1 == 11)
 (vif (decide (n8 ≥ 0))
 (vif (decide (n5 ≥ 0))
 (Q (.bool (decide (n5 < n8))) h30)
 (Q (.bool false) h30))
 (Q (.bool false) h30))
 (Q (.bool (n5 == 0)) h30))))))))
 ((LV.val (.tup []) = LV.val (.tup [])) ∧
 AC Tryz.prog 86 [.int .i64 n1] h21 fun v44 h45 => ∃ n46 : Int, v44 = .int .i64 n46 ∧
 vif (n46 == 0)
 (vif (!((n3 == 0) && ((n4 == 0) && true)))
 (Q (.bool false) h45)
 (vif (n1 != 9)
 (vif (decide ((slLen q6 : Int) > 0))
 (Q (.bool false) h45)
 (vif (n1 == 1)
 (vif (decide (n8 < 0))
 (vif (decide (n5 ≥ 0))
 (Q (.bool (decide (n5 < 4))) h45)
 (Q (.bool false) h45))
 (Q (.bool false) h45))
 (vif (n1 == 9)
 (vif (decide (n8 < 0))
 (vif (decide (n5 ≥ 1))
 (vif (decide (n5 ≤ 64))
 (AC Tryz.prog 87 [.sl q6, .int .i64 n7] h45 fun v47 h48 => ∃ b49 : Bool, v47 = .bool b49 ∧
 Q (.bool b49) h48)
 (Q (.bool false) h45))
 (Q (.bool false) h45))
 (Q (.bool false) h45))
 (vif (n1 == 10)
 (vif (decide (n8 ≥ 0))
 (Q (.bool (n5 == 0)) h45)
 (Q (.bool false) h45))
 (vif (n1 == 11)
 (vif (decide (n8 ≥ 0))
 (vif (decide (n5 ≥ 0))
 (Q (.bool (decide (n5 < n8))) h45)
 (Q (.bool false) h45))
 (Q (.bool false) h45))
 (Q (.bool (n5 == 0)) h45))))))
 (vif (n1 == 1)
 (vif (decide (n8 < 0))
 (vif (decide (n5 ≥ 0))
 (Q (.bool (decide (n5 < 4))) h45)
 (Q (.bool false) h45))
 (Q (.bool false) h45))
 (vif (n1 == 9)
 (vif (decide (n8 < 0))
 (vif (decide (n5 ≥ 1))
 (vif (decide (n5 ≤ 64))
 (AC Tryz.prog 87 [.sl q6, .int .i64 n7] h45 fun v50 h51 => ∃ b52 : Bool, v50 = .bool b52 ∧
 Q (.bool b52) h51)
 (Q (.bool false) h45))
 (Q (.bool false) h45))
 (Q (.bool false) h45))
 (vif (n1 == 10)
 (vif (decide (n8 ≥ 0))
 (Q (.bool (n5 == 0)) h45)
 (Q (.bool false) h45))
 (vif (n1 == 11)
 (vif (decide (n8 ≥ 0))
 (vif (decide (n5 ≥ 0))
 (Q (.bool (decide (n5 < n8))) h45)
 (Q (.bool false) h45))
 (Q (.bool false) h45))
 (Q (.bool (n5 == 0)) h45)))))))
 (vif (n1 != 9)
 (vif (decide ((slLen q6 : Int) > 0))
 (Q (.bool false) h45)
 (vif (n1 == 1)
 (vif (decide (n8 < 0))
 (vif (decide (n5 ≥ 0))
 (Q (.bool (decide (n5 < 4))) h45)
 (Q (.bool false) h45))
 (Q (.bool false) h45))
 (vif (n1 == 9)
 (vif (decide (n8 < 0))
 (vif (decide (n5 ≥ 1))
 (vif (decide (n5 ≤ 64))
 (AC Tryz.prog 87 [.sl q6, .int .i64 n7] h45 fun v53 h54 => ∃ b55 : Bool, v53 = .bool b55 ∧
 Q (.bool b55) h54)
 (Q (.bool false) h45))
 (Q (.bool false) h45))
 (Q (.bool false) h45))
 (vif (n1 == 10)
 (vif (decide (n8 ≥ 0))
 (Q (.bool (n5 == 0)) h45)
 (Q (.bool false) h45))
 (vif (n1 == 11)
 (vif (decide (n8 ≥ 0))
 (vif (decide (n5 ≥ 0))
 (Q (.bool (decide (n5 < n8))) h45)
 (Q (.bool false) h45))
 (Q (.bool false) h45))
 (Q (.bool (n5 == 0)) h45))))))
 (vif (n1 == 1)
 (vif (decide (n8 < 0))
 (vif (decide (n5 ≥ 0))
 (Q (.bool (decide (n5 < 4))) h45)
 (Q (.bool false) h45))
 (Q (.bool false) h45))
 (vif (n1 == 9)
 (vif (decide (n8 < 0))
 (vif (decide (n5 ≥ 1))
 (vif (decide (n5 ≤ 64))
 (AC Tryz.prog 87 [.sl q6, .int .i64 n7] h45 fun v56 h57 => ∃ b58 : Bool, v56 = .bool b58 ∧
 Q (.bool b58) h57)
 (Q (.bool false) h45))
 (Q (.bool false) h45))
 (Q (.bool false) h45))
 (vif (n1 == 10)
 (vif (decide (n8 ≥ 0))
 (Q (.bool (n5 == 0)) h45)
 (Q (.bool false) h45))
 (vif (n1 == 11)
 (vif (decide (n8 ≥ 0))
 (vif (decide (n5 ≥ 0))
 (Q (.bool (decide (n5 < n8))) h45)
 (Q (.bool false) h45))
 (Q (.bool false) h45))
 (Q (.bool (n5 == 0)) h45)))))))))))
theorem ac53 {n1 : Int} {q2 : Option SL} {n3 : Int} {n4 : Int} {n5 : Int} {q6 : Option SL} {n7 : Int} {n8 : Int} {h : Heap} {Q : AV → Heap → Prop} (hk : vc53 n1 q2 n3 n4 n5 q6 n7 n8 h Q) : AC Tryz.prog 53 [.agg [.int .i64 n1, .sl q2, .int .i64 n3, .int .i64 n4, .int .i64 n5, .sl q6], .int .i64 n7, .int .i64 n8] h Q :=
 AC_by (H := hintsOf [3] [(0, [7], [])]) (by kernel_rfl) (by kernel_rfl) hk

/-- oxbowref19.Round: what it asks. -/
def vc54 (q1 : Option SL) (q2 : Option SL) (q3 : Option SL) (h : Heap) (Q : AV → Heap → Prop) : Prop :=
 ∃ (I6 : List AV → Heap → Prop) (m7 : List AV → Heap → Nat), I6 [.sl none, .int .i64 0] h ∧
 ∀ q4 : Option SL, ∀ n5 : Int, ∀ h8 : Heap, I6 [.sl q4, .int .i64 n5] h8 →
 vif (decide (n5 < (slLen q1 : Int)))
 (vIdx q1 n5 6 fun p9 =>
 ∃ n10 : Int, ∃ q11 : Option SL, ∃ n12 : Int, ∃ n13 : Int, ∃ n14 : Int, ∃ q15 : Option SL, cellsAt h8 p9 6 = some [.int .i64 n10, .sl q11, .int .i64 n12, .int .i64 n13, .int .i64 n14, .sl q15] ∧
 vif (n10 == 10)
 (AC Tryz.prog 19 [.sl q3] h8 fun v16 h17 => ∃ q18 : Option SL, v16 = .sl q18 ∧
 PNew [.sl q18] true h17 fun a19 h20 =>
 PAppendS 1 24 q4 (some ⟨a19, 0, 1, 1, 0⟩) h20 fun q21 h22 =>
 (True) ∧ I6 [.sl q21, .int .i64 (wrapK .i64 (n5 + 1))] h22 ∧ m7 [.sl q21, .int .i64 (wrapK .i64 (n5 + 1))] h22 < m7 [.sl q4, .int .i64 n5] h8)
 (vif (n10 == 11)
 (vIdx q2 n14 1 fun p23 =>
 ∃ q24 : Option SL, cellsAt h8 p23 1 = some [.sl q24] ∧
 AC Tryz.prog 19 [.sl q24] h8 fun v25 h26 => ∃ q27 : Option SL, v25 = .sl q27 ∧
 PNew [.sl q27] true h26 fun a28 h29 =>
 PAppendS 1 24 q4 (some ⟨a28, 0, 1, 1, 0⟩) h29 fun q30 h31 =>
 (True) ∧ I6 [.sl q30, .int .i64 (wrapK .i64 (n5 + 1))] h31 ∧ m7 [.sl q30, .int .i64 (wrapK .i64 (n5 + 1))] h31 < m7 [.sl q4, .int .i64 n5] h8)
 (AC Tryz.prog 34 [.agg [.int .i64 n10, .sl q11, .int .i64 n12, .int .i64 n13, .int .i64 n14, .sl q15], .sl q4] h8 fun v32 h33 => ∃ q34 : Option SL, v32 = .sl q34 ∧
 (LV.val (.agg [.int .i64 n10, .sl q11, .int .i64 n12, .int .i64 n13, .int .i64 n14, .sl q15]) = LV.val (.agg [.int .i64 n10, .sl q11, .int .i64 n12, .int .i64 n13, .int .i64 n14, .sl q15])) ∧
 AC Tryz.prog 23 [.agg [.int .i64 n10, .sl q11, .int .i64 n12, .int .i64 n13, .int .i64 n14, .sl q15], .sl q34] h33 fun v35 h36 => ∃ q37 : Option SL, ∃ n38 : Int, v35 = .tup [.sl q37, .int .i64 n38] ∧
 vif (n38 != 0)
 (Q (.tup [.sl none, .int .i64 n38]) h36)
 (PNew [.sl q37] true h36 fun a39 h40 =>
 PAppendS 1 24 q4 (some ⟨a39, 0, 1, 1, 0⟩) h40 fun q41 h42 =>
 (True) ∧ I6 [.sl q41, .int .i64 (wrapK .i64 (n5 + 1))] h42 ∧ m7 [.sl q41, .int .i64 (wrapK .i64 (n5 + 1))] h42 < m7 [.sl q4, .int .i64 n5] h8))))
 (vIdx q4 (wrapK .i64 ((slLen q4 : Int) - 1)) 1 fun p43 =>
 ∃ q44 : Option SL, cellsAt h8 p43 1 = some [.sl q44] ∧
 Q (.tup [.sl q44, .int .i64 0]) h8)
theorem ac54 {q1 : Option SL} {q2 : Option SL} {q3 : Option SL} {h : Heap} {Q : AV → Heap → Prop} (hk : vc54 q1 q2 q3 h Q) : AC Tryz.prog 54 [.sl q1, .sl q2, .sl q3] h Q :=
 AC_by (H := hintsOf [10] [(0, [8, 9], [])]) (by kernel_rfl) (by kernel_rfl) hk

/-- graph.list: what it asks. -/
def vc55 (q1 : Option SL) (n2 : Int) (h : Heap) (Q : AV → Heap → Prop) : Prop :=
 vif (decide ((slLen q1 : Int) < 1))
 (Q (.bool false) h)
 (vif (decide ((slLen q1 : Int) > 32))
 (Q (.bool false) h)
 (∃ (I4 : List AV → Heap → Prop) (m5 : List AV → Heap → Nat), I4 [.int .i64 0] h ∧
 ∀ n3 : Int, ∀ h6 : Heap, I4 [.int .i64 n3] h6 →
 vif (decide (n3 < (slLen q1 : Int)))
 (vIdx q1 n3 6 fun p7 =>
 ∃ n8 : Int, ∃ q9 : Option SL, ∃ n10 : Int, ∃ n11 : Int, ∃ n12 : Int, ∃ q13 : Option SL, cellsAt h6 p7 6 = some [.int .i64 n8, .sl q9, .int .i64 n10, .int .i64 n11, .int .i64 n12, .sl q13] ∧
 AC Tryz.prog 88 [.agg [.int .i64 n8, .sl q9, .int .i64 n10, .int .i64 n11, .int .i64 n12, .sl q13], .int .i64 n3, .int .i64 n2] h6 fun v14 h15 => ∃ b16 : Bool, v14 = .bool b16 ∧
 vif (!b16)
 (Q (.bool false) h15)
 ((True) ∧ I4 [.int .i64 (wrapK .i64 (n3 + 1))] h15 ∧ m5 [.int .i64 (wrapK .i64 (n3 + 1))] h15 < m5 [.int .i64 n3] h6))
 (Q (.bool true) h6)))
theorem ac55 {q1 : Option SL} {n2 : Int} {h : Heap} {Q : AV → Heap → Prop} (hk : vc55 q1 n2 h Q) : AC Tryz.prog 55 [.sl q1, .int .i64 n2] h Q :=
 AC_by (H := hintsOf [6] [(0, [17], [])]) (by kernel_rfl) (by kernel_rfl) hk

/-- graph.loops: what it asks. -/
def vc56 (q1 : Option SL) (n2 : Int) (h : Heap) (Q : AV → Heap → Prop) : Prop :=
 ∃ (I5 : List AV → Heap → Prop) (m6 : List AV → Heap → Nat), I5 [.int .i64 0, .int .i64 0] h ∧
 ∀ n3 : Int, ∀ n4 : Int, ∀ h7 : Heap, I5 [.int .i64 n3, .int .i64 n4] h7 →
 vif (decide (n4 < (slLen q1 : Int)))
 (vIdx q1 n4 6 fun p8 =>
 ∃ n9 : Int, ∃ q10 : Option SL, ∃ n11 : Int, ∃ n12 : Int, ∃ n13 : Int, ∃ q14 : Option SL, cellsAt h7 p8 6 = some [.int .i64 n9, .sl q10, .int .i64 n11, .int .i64 n12, .int .i64 n13, .sl q14] ∧
 vif (n9 == 9)
 (((some [.sl q1, .int .i64 n2] : Option (List AV)) = some [.sl q1, .int .i64 n2] ∧ True) ∧ I5 [.int .i64 (wrapK .i64 (n3 + 1)), .int .i64 (wrapK .i64 (n4 + 1))] h7 ∧ m6 [.int .i64 (wrapK .i64 (n3 + 1)), .int .i64 (wrapK .i64 (n4 + 1))] h7 < m6 [.int .i64 n3, .int .i64 n4] h7)
 (((some [.sl q1, .int .i64 n2] : Option (List AV)) = some [.sl q1, .int .i64 n2] ∧ True) ∧ I5 [.int .i64 n3, .int .i64 (wrapK .i64 (n4 + 1))] h7 ∧ m6 [.int .i64 n3, .int .i64 (wrapK .i64 (n4 + 1))] h7 < m6 [.int .i64 n3, .int .i64 n4] h7))
 (Q (.int .i64 n3) h7)
theorem ac56 {q1 : Option SL} {n2 : Int} {h : Heap} {Q : AV → Heap → Prop} (hk : vc56 q1 n2 h Q) : AC Tryz.prog 56 [.agg [.sl q1, .int .i64 n2]] h Q :=
 AC_by (H := hintsOf [1, 5] [(0, [3, 9], [])]) (by kernel_rfl) (by kernel_rfl) hk

/-- slices.IndexFunc: what it asks. -/
def vc57 (q1 : Option SL) (h : Heap) (Q : AV → Heap → Prop) : Prop :=
 ∃ (I3 : List AV → Heap → Prop) (m4 : List AV → Heap → Nat), I3 [.int .i64 0] h ∧
 ∀ n2 : Int, ∀ h5 : Heap, I3 [.int .i64 n2] h5 →
 vif (decide (n2 < (slLen q1 : Int)))
 (vIdx q1 n2 6 fun p6 =>
 ∃ n7 : Int, ∃ q8 : Option SL, ∃ n9 : Int, ∃ n10 : Int, ∃ n11 : Int, ∃ q12 : Option SL, cellsAt h5 p6 6 = some [.int .i64 n7, .sl q8, .int .i64 n9, .int .i64 n10, .int .i64 n11, .sl q12] ∧
 AC Tryz.prog 58 [.agg [.int .i64 n7, .sl q8, .int .i64 n9, .int .i64 n10, .int .i64 n11, .sl q12]] h5 fun v13 h14 => ∃ b15 : Bool, v13 = .bool b15 ∧
 vif b15
 (Q (.int .i64 n2) h14)
 ((True) ∧ I3 [.int .i64 (wrapK .i64 (n2 + 1))] h14 ∧ m4 [.int .i64 (wrapK .i64 (n2 + 1))] h14 < m4 [.int .i64 n2] h5))
 (Q (.int .i64 (-1)) h5)
theorem ac57 {q1 : Option SL} {h : Heap} {Q : AV → Heap → Prop} (hk : vc57 q1 h Q) : AC Tryz.prog 57 [.sl q1, .func (.func 58) [] []] h Q :=
 AC_by (H := hintsOf [] [(0, [8], [])]) (by kernel_rfl) (by kernel_rfl) hk

/-- graph.Loop$1: what it asks. -/
def vc58 (n1 : Int) (q2 : Option SL) (n3 : Int) (n4 : Int) (n5 : Int) (q6 : Option SL) (h : Heap) (Q : AV → Heap → Prop) : Prop :=
 Q (.bool (n1 == 9)) h
theorem ac58 {n1 : Int} {q2 : Option SL} {n3 : Int} {n4 : Int} {n5 : Int} {q6 : Option SL} {h : Heap} {Q : AV → Heap → Prop} (hk : vc58 n1 q2 n3 n4 n5 q6 h Q) : AC Tryz.prog 58 [.agg [.int .i64 n1, .sl q2, .int .i64 n3, .int .i64 n4, .int .i64 n5, .sl q6]] h Q :=
 AC_by (H := hintsOf [1] []) (by kernel_rfl) (by kernel_rfl) hk

/-- rec.Check: what it asks. -/
def vc61 (n1 : Int) (n2 : Int) (h : Heap) (Q : AV → Heap → Prop) : Prop :=
 AC Tryz.prog 90 [.int .i64 n1] h fun v3 h4 => ∃ b5 : Bool, v3 = .bool b5 ∧
 vif (!b5)
 (Q (.int .i64 30) h4)
 (AC Tryz.prog 90 [.int .i64 n2] h4 fun v6 h7 => ∃ b8 : Bool, v6 = .bool b8 ∧
 vif (!b8)
 (Q (.int .i64 30) h7)
 (Q (.int .i64 0) h7))
theorem ac61 {n1 : Int} {n2 : Int} {h : Heap} {Q : AV → Heap → Prop} (hk : vc61 n1 n2 h Q) : AC Tryz.prog 61 [.agg [.int .i64 n1, .int .i64 n2]] h Q :=
 AC_by (H := hintsOf [1] []) (by kernel_rfl) (by kernel_rfl) hk

/-- slices.ContainsFunc: what it asks. -/
def vc59 (q1 : Option SL) (h : Heap) (Q : AV → Heap → Prop) : Prop :=
 AC Tryz.prog 89 [.sl q1, .func (.func 60) [] []] h fun v2 h3 => ∃ n4 : Int, v2 = .int .i64 n4 ∧
 Q (.bool (decide (n4 ≥ 0))) h3
theorem ac59 {q1 : Option SL} {h : Heap} {Q : AV → Heap → Prop} (hk : vc59 q1 h Q) : AC Tryz.prog 59 [.sl q1, .func (.func 60) [] []] h Q :=
 AC_by (H := hintsOf [] []) (by kernel_rfl) (by kernel_rfl) hk

/-- slices.ContainsFuncf: what it asks. -/
def vc59f (q1 : Option SL) (p2 : PA) (h : Heap) (Q : AV → Heap → Prop) : Prop :=
 AC Tryz.prog 89 [.sl q1, .func (.func 121) [] [.ptr (some p2)]] h fun v3 h4 => ∃ n5 : Int, v3 = .int .i64 n5 ∧
 Q (.bool (decide (n5 ≥ 0))) h4
theorem ac59f {q1 : Option SL} {p2 : PA} {h : Heap} {Q : AV → Heap → Prop} (hk : vc59f q1 p2 h Q) : AC Tryz.prog 59 [.sl q1, .func (.func 121) [] [.ptr (some p2)]] h Q :=
 AC_by (H := hintsOf [] []) (by kernel_rfl) (by kernel_rfl) hk

/-- rec.May$1: what it asks. -/
def vc60 (n1 : Int) (n2 : Int) (h : Heap) (Q : AV → Heap → Prop) : Prop :=
 AC Tryz.prog 61 [.agg [.int .i64 n1, .int .i64 n2]] h fun v3 h4 => ∃ n5 : Int, v3 = .int .i64 n5 ∧
 Q (.bool (n5 != 0)) h4
theorem ac60 {n1 : Int} {n2 : Int} {h : Heap} {Q : AV → Heap → Prop} (hk : vc60 n1 n2 h Q) : AC Tryz.prog 60 [.agg [.int .i64 n1, .int .i64 n2]] h Q :=
 AC_by (H := hintsOf [1] []) (by kernel_rfl) (by kernel_rfl) hk

/-- eval.round).node: what it asks. -/
def vc62 (q1 : Option SL) (q2 : Option SL) (n3 : Int) (q4 : Option SL) (n5 : Int) (n6 : Int) (n7 : Int) (q8 : Option SL) (h : Heap) (Q : AV → Heap → Prop) : Prop :=
 vif (n3 == 11)
 (vIdx q1 n7 1 fun p9 =>
 ∃ q10 : Option SL, cellsAt h p9 1 = some [.sl q10] ∧
 AC Tryz.prog 44 [.sl q10] h fun v11 h12 => ∃ q13 : Option SL, ∃ n14 : Int, v11 = .tup [.sl q13, .int .i64 n14] ∧
 Q (.tup [.sl q13, .int .i64 n14]) h12)
 (AC Tryz.prog 44 [.sl q2] h fun v15 h16 => ∃ q17 : Option SL, ∃ n18 : Int, v15 = .tup [.sl q17, .int .i64 n18] ∧
 Q (.tup [.sl q17, .int .i64 n18]) h16)
theorem ac62 {q1 : Option SL} {q2 : Option SL} {n3 : Int} {q4 : Option SL} {n5 : Int} {n6 : Int} {n7 : Int} {q8 : Option SL} {h : Heap} {Q : AV → Heap → Prop} (hk : vc62 q1 q2 n3 q4 n5 n6 n7 q8 h Q) : AC Tryz.prog 62 [.agg [.sl q1, .sl q2], .agg [.int .i64 n3, .sl q4, .int .i64 n5, .int .i64 n6, .int .i64 n7, .sl q8]] h Q :=
 AC_by (H := hintsOf [2, 3] []) (by kernel_rfl) (by kernel_rfl) hk

/-- oper.byKey: what it asks. -/
def vc65 (q1 : Option SL) (h : Heap) (Q : AV → Heap → Prop) : Prop :=
 ∃ (I3 : List AV → Heap → Prop) (m4 : List AV → Heap → Nat), I3 [.int .i64 0] (h ++ [.mp [] 0]) ∧
 ∀ n2 : Int, ∀ h5 : Heap, I3 [.int .i64 n2] h5 →
 vif (decide (n2 < (slLen q1 : Int)))
 (vIdx q1 n2 2 fun p6 =>
 ∃ n7 : Int, ∃ n8 : Int, cellsAt h5 p6 2 = some [.int .i64 n7, .int .i64 n8] ∧
 PLookup Tryz.prog 3 28 (some (List.length h)) (.int .i64 n7) false h5 fun v9 =>
 ∃ q10 : Option SL, v9 = .sl q10 ∧
 PNew [.int .i64 n7, .int .i64 n8] true h5 fun a11 h12 =>
 (PLookup Tryz.prog 3 28 (some (List.length h)) (.int .i64 n7) false h12 fun v16 =>
 ∃ q17 : Option SL, v16 = .sl q17 ∧
 LV.val (.sl q17) = LV.val (.sl q10)) ∧
 (LV.val (.int .i64 n7) = LV.val (.int .i64 n7)) ∧
 (LV.val (.int .i64 n7) = LV.val (.int .i64 n7)) ∧
 PAppendS 2 16 q10 (some ⟨a11, 0, 1, 1, 0⟩) h12 fun q13 h14 =>
 (LV.val (.int .i64 n7) = LV.val (.int .i64 n7)) ∧
 PUpdate Tryz.prog 3 (List.length h) (.int .i64 n7) (.sl q13) h14 fun h15 =>
 (True) ∧ I3 [.int .i64 (wrapK .i64 (n2 + 1))] h15 ∧ m4 [.int .i64 (wrapK .i64 (n2 + 1))] h15 < m4 [.int .i64 n2] h5)
 (Q (.map (some (List.length h))) h5)
theorem ac65 {q1 : Option SL} {h : Heap} {Q : AV → Heap → Prop} (hk : vc65 q1 h Q) : AC Tryz.prog 65 [.sl q1] h Q :=
 AC_by (H := hintsOf [5] [(0, [9], [])]) (by kernel_rfl) (by kernel_rfl) hk

/-- slices.Clone: what it asks. -/
def vc67 (q1 : Option SL) (h : Heap) (Q : AV → Heap → Prop) : Prop :=
 vif (q1.isNone)
 (Q (.sl none) h)
 (PNew [] true h fun a2 h3 =>
 PAppendS 2 16 (some ⟨a2, 0, 0, 0, 0⟩) q1 h3 fun q4 h5 =>
 Q (.sl q4) h5)
theorem ac67 {q1 : Option SL} {h : Heap} {Q : AV → Heap → Prop} (hk : vc67 q1 h Q) : AC Tryz.prog 67 [.sl q1] h Q :=
 AC_by (H := hintsOf [] []) (by kernel_rfl) (by kernel_rfl) hk

/-- oper.maker).fold: what it asks. -/
def vc69 (p1 : Option PA) (n2 : Int) (n3 : Int) (q4 : Option SL) (h : Heap) (Q : AV → Heap → Prop) : Prop :=
 AC Tryz.prog 94 [.sl q4] h fun v5 h6 => ∃ q7 : Option SL, ∃ n8 : Int, v5 = .tup [.sl q7, .int .i64 n8] ∧
 ∃ (I10 : List AV → Heap → Prop) (m11 : List AV → Heap → Nat), I10 [.int .i64 0] h6 ∧
 ∀ n9 : Int, ∀ h12 : Heap, I10 [.int .i64 n9] h12 →
 vif (decide (n9 < (slLen q7 : Int)))
 (vIdx q7 n9 1 fun p13 =>
 ∃ q14 : Option SL, cellsAt h12 p13 1 = some [.sl q14] ∧
 AC Tryz.prog 95 [.agg [.int .i64 n2, .int .i64 n3], .sl q14] h12 fun v15 h16 => ∃ n17 : Int, ∃ n18 : Int, ∃ n19 : Int, v15 = .tup [.agg [.int .i64 n17, .int .i64 n18], .int .i64 n19] ∧
 PNew [.int .i64 n17, .int .i64 n18] true h16 fun a20 h21 =>
 AC Tryz.prog 72 [.ptr p1, .sl (some ⟨a20, 0, 1, 1, 0⟩)] h21 fun v22 h23 => v22 = .tup [] ∧
 ((some [.int .i64 n2, .int .i64 n3] : Option (List AV)) = some [.int .i64 n2, .int .i64 n3] ∧ True) ∧ I10 [.int .i64 (wrapK .i64 (n9 + 1))] h23 ∧ m11 [.int .i64 (wrapK .i64 (n9 + 1))] h23 < m11 [.int .i64 n9] h12)
 (Q (.tup []) h12)
theorem ac69 {p1 : Option PA} {n2 : Int} {n3 : Int} {q4 : Option SL} {h : Heap} {Q : AV → Heap → Prop} (hk : vc69 p1 n2 n3 q4 h Q) : AC Tryz.prog 69 [.ptr p1, .agg [.int .i64 n2, .int .i64 n3], .sl q4] h Q :=
 AC_by (H := hintsOf [4, 10] [(0, [19], [])]) (by kernel_rfl) (by kernel_rfl) hk

/-- oper.maker).pair: what it asks. -/
def vc70 (p1 : Option PA) (n2 : Int) (n3 : Int) (q4 : Option SL) (q5 : Option SL) (h : Heap) (Q : AV → Heap → Prop) : Prop :=
 AC Tryz.prog 65 [.sl q5] h fun v6 h7 => ∃ m8 : Option Nat, v6 = .map m8 ∧
 ∃ (I10 : List AV → Heap → Prop) (m11 : List AV → Heap → Nat), I10 [.int .i64 0] h7 ∧
 ∀ n9 : Int, ∀ h12 : Heap, I10 [.int .i64 n9] h12 →
 vif (decide (n9 < (slLen q4 : Int)))
 (vIdx q4 n9 2 fun p13 =>
 ∃ n14 : Int, ∃ n15 : Int, cellsAt h12 p13 2 = some [.int .i64 n14, .int .i64 n15] ∧
 PLookup Tryz.prog 3 28 m8 (.int .i64 n14) false h12 fun v16 =>
 ∃ q17 : Option SL, v16 = .sl q17 ∧
 ∃ (I19 : List AV → Heap → Prop) (m20 : List AV → Heap → Nat), I19 [.int .i64 0] h12 ∧
 ∀ n18 : Int, ∀ h21 : Heap, I19 [.int .i64 n18] h21 →
 vif (decide (n18 < (slLen q17 : Int)))
 (vIdx q17 n18 2 fun p22 =>
 ∃ n23 : Int, ∃ n24 : Int, cellsAt h21 p22 2 = some [.int .i64 n23, .int .i64 n24] ∧
 vPtr p1 fun p25 =>
 ∃ b26 : Bool, cellsAt h21 ⟨p25.b, p25.o + 1⟩ 1 = some [.bool b26] ∧
 vif b26
 (Q (.tup []) h21)
 (AC Tryz.prog 96 [.agg [.int .i64 n2, .int .i64 n3], .agg [.int .i64 n14, .int .i64 n15], .agg [.int .i64 n23, .int .i64 n24]] h21 fun v27 h28 => ∃ n29 : Int, ∃ n30 : Int, ∃ n31 : Int, v27 = .tup [.agg [.int .i64 n29, .int .i64 n30], .int .i64 n31] ∧
 PNew [.int .i64 n29, .int .i64 n30] true h28 fun a32 h33 =>
 AC Tryz.prog 72 [.ptr p1, .sl (some ⟨a32, 0, 1, 1, 0⟩)] h33 fun v34 h35 => v34 = .tup [] ∧
 ((some [.int .i64 n14, .int .i64 n15] : Option (List AV)) = some [.int .i64 n14, .int .i64 n15] ∧ (some [.int .i64 n2, .int .i64 n3] : Option (List AV)) = some [.int .i64 n2, .int .i64 n3] ∧ True) ∧ I19 [.int .i64 (wrapK .i64 (n18 + 1))] h35 ∧ m20 [.int .i64 (wrapK .i64 (n18 + 1))] h35 < m20 [.int .i64 n18] h21))
 (((some [.int .i64 n2, .int .i64 n3] : Option (List AV)) = some [.int .i64 n2, .int .i64 n3] ∧ True) ∧ I10 [.int .i64 (wrapK .i64 (n9 + 1))] h21 ∧ m11 [.int .i64 (wrapK .i64 (n9 + 1))] h21 < m11 [.int .i64 n9] h12))
 (Q (.tup []) h12)
theorem ac70 {p1 : Option PA} {n2 : Int} {n3 : Int} {q4 : Option SL} {q5 : Option SL} {h : Heap} {Q : AV → Heap → Prop} (hk : vc70 p1 n2 n3 q4 q5 h Q) : AC Tryz.prog 70 [.ptr p1, .agg [.int .i64 n2, .int .i64 n3], .sl q4, .sl q5] h Q :=
 AC_by (H := hintsOf [5, 10, 12, 13] [(0, [19], []), (2, [28], [])]) (by kernel_rfl) (by kernel_rfl) hk

/-- rec.Distinct: what it asks. -/
def vc71 (q1 : Option SL) (h : Heap) (Q : AV → Heap → Prop) : Prop :=
 AC Tryz.prog 44 [.sl q1] h fun v2 h3 => ∃ q4 : Option SL, ∃ n5 : Int, v2 = .tup [.sl q4, .int .i64 n5] ∧
 AC Tryz.prog 97 [.sl q4] h3 fun v6 h7 => ∃ q8 : Option SL, v6 = .sl q8 ∧
 Q (.tup [.sl q8, .int .i64 n5]) h7
theorem ac71 {q1 : Option SL} {h : Heap} {Q : AV → Heap → Prop} (hk : vc71 q1 h Q) : AC Tryz.prog 71 [.sl q1] h Q :=
 AC_by (H := hintsOf [] []) (by kernel_rfl) (by kernel_rfl) hk

/-- oper.maker).add: what it asks. -/
def vc72 (p1 : Option PA) (q2 : Option SL) (h : Heap) (Q : AV → Heap → Prop) : Prop :=
 vPtr p1 fun p3 =>
 ∃ q4 : Option SL, cellsAt h ⟨p3.b, p3.o + 0⟩ 1 = some [.sl q4] ∧
 PAppendS 2 16 q4 q2 h fun q5 h6 =>
 vPtr p1 fun p7 =>
 PStore h6 ⟨p7.b, p7.o + 0⟩ [.sl q5] fun h8 =>
 vPtr p1 fun p9 =>
 ∃ b10 : Bool, cellsAt h8 ⟨p9.b, p9.o + 1⟩ 1 = some [.bool b10] ∧
 vif b10
 (vPtr p1 fun p11 =>
 PStore h8 ⟨p11.b, p11.o + 1⟩ [.bool true] fun h12 =>
 Q (.tup []) h12)
 (vPtr p1 fun p13 =>
 ∃ q14 : Option SL, cellsAt h8 ⟨p13.b, p13.o + 0⟩ 1 = some [.sl q14] ∧
 vPtr p1 fun p15 =>
 PStore h8 ⟨p15.b, p15.o + 1⟩ [.bool (decide ((slLen q14 : Int) > 4096))] fun h16 =>
 Q (.tup []) h16)
theorem ac72 {p1 : Option PA} {q2 : Option SL} {h : Heap} {Q : AV → Heap → Prop} (hk : vc72 p1 q2 h Q) : AC Tryz.prog 72 [.ptr p1, .sl q2] h Q :=
 AC_by (H := hintsOf [] []) (by kernel_rfl) (by kernel_rfl) hk

/-- oper.maker).single: what it asks. -/
def vc73 (p1 : Option PA) (n2 : Int) (q3 : Option SL) (n4 : Int) (n5 : Int) (n6 : Int) (q7 : Option SL) (n8 : Int) (n9 : Int) (h : Heap) (Q : AV → Heap → Prop) : Prop :=
 vif (n2 == 2)
 (AC Tryz.prog 98 [.agg [.int .i64 n4, .int .i64 n5], .agg [.int .i64 n8, .int .i64 n9]] h fun v10 h11 => ∃ n12 : Int, ∃ n13 : Int, ∃ n14 : Int, v10 = .tup [.agg [.int .i64 n12, .int .i64 n13], .int .i64 n14] ∧
 PNew [.int .i64 n12, .int .i64 n13] true h11 fun a15 h16 =>
 AC Tryz.prog 72 [.ptr p1, .sl (some ⟨a15, 0, 1, 1, 0⟩)] h16 fun v17 h18 => v17 = .tup [] ∧
 Q (.tup []) h18)
 (vif (n2 == 3)
 (AC Tryz.prog 99 [.agg [.int .i64 n4, .int .i64 n5], .agg [.int .i64 n8, .int .i64 n9]] h fun v19 h20 => ∃ b21 : Bool, ∃ n22 : Int, v19 = .tup [.bool b21, .int .i64 n22] ∧
 vif b21
 (PNew [.int .i64 n8, .int .i64 n9] true h20 fun a23 h24 =>
 AC Tryz.prog 72 [.ptr p1, .sl (some ⟨a23, 0, 1, 1, 0⟩)] h24 fun v25 h26 => v25 = .tup [] ∧
 Q (.tup []) h26)
 (Q (.tup []) h20))
 (vif (n2 == 4)
 (AC Tryz.prog 100 [.agg [.int .i64 n4, .int .i64 n5], .agg [.int .i64 n8, .int .i64 n9]] h fun v27 h28 => ∃ q29 : Option SL, ∃ n30 : Int, v27 = .tup [.sl q29, .int .i64 n30] ∧
 AC Tryz.prog 72 [.ptr p1, .sl q29] h28 fun v31 h32 => v31 = .tup [] ∧
 Q (.tup []) h32)
 (Q (.tup []) h)))
theorem ac73 {p1 : Option PA} {n2 : Int} {q3 : Option SL} {n4 : Int} {n5 : Int} {n6 : Int} {q7 : Option SL} {n8 : Int} {n9 : Int} {h : Heap} {Q : AV → Heap → Prop} (hk : vc73 p1 n2 q3 n4 n5 n6 q7 n8 n9 h Q) : AC Tryz.prog 73 [.ptr p1, .agg [.int .i64 n2, .sl q3, .int .i64 n4, .int .i64 n5, .int .i64 n6, .sl q7], .agg [.int .i64 n8, .int .i64 n9]] h Q :=
 AC_by (H := hintsOf [4, 5, 6] []) (by kernel_rfl) (by kernel_rfl) hk

/-- rec.sorted: what it asks. -/
def vc74 (q1 : Option SL) (h : Heap) (Q : AV → Heap → Prop) : Prop :=
 AC Tryz.prog 67 [.sl q1] h fun v2 h3 => ∃ q4 : Option SL, v2 = .sl q4 ∧
 AC Tryz.prog 101 [.sl q4, .func (.func 102) [] []] h3 fun v5 h6 => v5 = .tup [] ∧
 Q (.sl q4) h6
theorem ac74 {q1 : Option SL} {h : Heap} {Q : AV → Heap → Prop} (hk : vc74 q1 h Q) : AC Tryz.prog 74 [.sl q1] h Q :=
 AC_by (H := hintsOf [] []) (by kernel_rfl) (by kernel_rfl) hk

/-- oxbowref03.Check: what it asks. -/
def vc75 (n1 : Int) (n2 : Int) (h : Heap) (Q : AV → Heap → Prop) : Prop :=
 vif (decide (n1 ≥ 0))
 (vif (decide (n1 < 1048576))
 (vif (decide (n2 ≥ 0))
 (Q (.bool (decide (n2 < 1048576))) h)
 (Q (.bool false) h))
 (Q (.bool false) h))
 (Q (.bool false) h)
theorem ac75 {n1 : Int} {n2 : Int} {h : Heap} {Q : AV → Heap → Prop} (hk : vc75 n1 n2 h Q) : AC Tryz.prog 75 [.agg [.int .i64 n1, .int .i64 n2]] h Q :=
 AC_by (H := hintsOf [1] []) (by kernel_rfl) (by kernel_rfl) hk

/-- oxbowref03.Groups: what it asks. -/
def vc76 (q1 : Option SL) (h : Heap) (Q : AV → Heap → Prop) : Prop :=
 AC Tryz.prog 19 [.sl q1] h fun v2 h3 => ∃ q4 : Option SL, v2 = .sl q4 ∧
 ∃ (I7 : List AV → Heap → Prop) (m8 : List AV → Heap → Nat), I7 [.sl none, .int .i64 0] h3 ∧
 ∀ q5 : Option SL, ∀ n6 : Int, ∀ h9 : Heap, I7 [.sl q5, .int .i64 n6] h9 →
 vif (decide (n6 < (slLen q4 : Int)))
 (vif (decide ((slLen q5 : Int) > 0))
 (vIdx q5 (wrapK .i64 ((slLen q5 : Int) - 1)) 1 fun p10 =>
 ∃ q11 : Option SL, cellsAt h9 p10 1 = some [.sl q11] ∧
 vIdx q11 0 2 fun p12 =>
 ∃ n13 : Int, cellsAt h9 ⟨p12.b, p12.o + 0⟩ 1 = some [.int .i64 n13] ∧
 vIdx q4 n6 2 fun p14 =>
 ∃ n15 : Int, cellsAt h9 ⟨p14.b, p14.o + 0⟩ 1 = some [.int .i64 n15] ∧
 vif (n13 == n15)
 (vIdx q5 (wrapK .i64 ((slLen q5 : Int) - 1)) 1 fun p16 =>
 ∃ q17 : Option SL, cellsAt h9 p16 1 = some [.sl q17] ∧
 vIdx q4 n6 2 fun p18 =>
 ∃ n19 : Int, ∃ n20 : Int, cellsAt h9 p18 2 = some [.int .i64 n19, .int .i64 n20] ∧
 PNew [.int .i64 n19, .int .i64 n20] true h9 fun a21 h22 =>
 (∃ q27 : Option SL, cellsAt h22 p16 1 = some [.sl q27] ∧
 LV.val (.sl q27) = LV.val (.sl q17)) ∧
 PAppendS 2 16 q17 (some ⟨a21, 0, 1, 1, 0⟩) h22 fun q23 h24 =>
 vIdx q5 (wrapK .i64 ((slLen q5 : Int) - 1)) 1 fun p25 =>
 PStore h24 p25 [.sl q23] fun h26 =>
 (True) ∧ I7 [.sl q5, .int .i64 (wrapK .i64 (n6 + 1))] h26 ∧ m8 [.sl q5, .int .i64 (wrapK .i64 (n6 + 1))] h26 < m8 [.sl q5, .int .i64 n6] h9)
 (vIdx q4 n6 2 fun p28 =>
 ∃ n29 : Int, ∃ n30 : Int, cellsAt h9 p28 2 = some [.int .i64 n29, .int .i64 n30] ∧
 PNew [.int .i64 n29, .int .i64 n30] true h9 fun a31 h32 =>
 PNew [.sl (some ⟨a31, 0, 1, 1, 0⟩)] true h32 fun a33 h34 =>
 PAppendS 1 24 q5 (some ⟨a33, 0, 1, 1, 0⟩) h34 fun q35 h36 =>
 (True) ∧ I7 [.sl q35, .int .i64 (wrapK .i64 (n6 + 1))] h36 ∧ m8 [.sl q35, .int .i64 (wrapK .i64 (n6 + 1))] h36 < m8 [.sl q5, .int .i64 n6] h9))
 (vIdx q4 n6 2 fun p37 =>
 ∃ n38 : Int, ∃ n39 : Int, cellsAt h9 p37 2 = some [.int .i64 n38, .int .i64 n39] ∧
 PNew [.int .i64 n38, .int .i64 n39] true h9 fun a40 h41 =>
 PNew [.sl (some ⟨a40, 0, 1, 1, 0⟩)] true h41 fun a42 h43 =>
 PAppendS 1 24 q5 (some ⟨a42, 0, 1, 1, 0⟩) h43 fun q44 h45 =>
 (True) ∧ I7 [.sl q44, .int .i64 (wrapK .i64 (n6 + 1))] h45 ∧ m8 [.sl q44, .int .i64 (wrapK .i64 (n6 + 1))] h45 < m8 [.sl q5, .int .i64 n6] h9))
 (Q (.sl q5) h9)
theorem ac76 {q1 : Option SL} {h : Heap} {Q : AV → Heap → Prop} (hk : vc76 q1 h Q) : AC Tryz.prog 76 [.sl q1] h Q :=
 AC_by (H := hintsOf [] [(0, [4, 5], [])]) (by kernel_rfl) (by kernel_rfl) hk

/-- oxbowref16.Fold: what it asks. -/
def vc77 (n1 : Int) (n2 : Int) (q3 : Option SL) (h : Heap) (Q : AV → Heap → Prop) : Prop :=
 vIdx q3 0 2 fun p4 =>
 ∃ n5 : Int, cellsAt h ⟨p4.b, p4.o + 0⟩ 1 = some [.int .i64 n5] ∧
 vIdx q3 0 2 fun p6 =>
 ∃ n7 : Int, cellsAt h ⟨p6.b, p6.o + 1⟩ 1 = some [.int .i64 n7] ∧
 (∃ n23 : Int, cellsAt h ⟨p6.b, p6.o + 1⟩ 1 = some [.int .i64 n23] ∧
 LV.val (.int .i64 n23) = LV.val (.int .i64 n7)) ∧
 (∃ n22 : Int, cellsAt h ⟨p4.b, p4.o + 0⟩ 1 = some [.int .i64 n22] ∧
 LV.val (.int .i64 n22) = LV.val (.int .i64 n5)) ∧
 vif (n1 == 19)
 (AC Tryz.prog 103 [.int .i64 (slLen q3 : Int)] h fun v8 h9 => ∃ n10 : Int, v8 = .int .i64 n10 ∧
 Q (.agg [.int .i64 n5, .int .i64 n10]) h9)
 (∃ (I14 : List AV → Heap → Prop) (m15 : List AV → Heap → Nat), I14 [.int .i64 1, .int .i64 n5, .int .i64 n7] h ∧
 ∀ n11 : Int, ∀ n12 : Int, ∀ n13 : Int, ∀ h16 : Heap, I14 [.int .i64 n11, .int .i64 n12, .int .i64 n13] h16 →
 vif (decide (n11 < (slLen q3 : Int)))
 (vIdx q3 n11 2 fun p17 =>
 ∃ n18 : Int, cellsAt h16 ⟨p17.b, p17.o + 1⟩ 1 = some [.int .i64 n18] ∧
 vif (n1 == 16)
 (AC Tryz.prog 103 [.int .i64 (wrapK .i64 (n13 + n18))] h16 fun v19 h20 => ∃ n21 : Int, v19 = .int .i64 n21 ∧
 (True ∧ (some [.int .i64 0, .int .i64 0] : Option (List AV)) = some [.int .i64 0, .int .i64 0] ∧ (some [.int .i64 n1, .int .i64 n2] : Option (List AV)) = some [.int .i64 n1, .int .i64 n2] ∧ True) ∧ I14 [.int .i64 (wrapK .i64 (n11 + 1)), .int .i64 n12, .int .i64 n21] h20 ∧ m15 [.int .i64 (wrapK .i64 (n11 + 1)), .int .i64 n12, .int .i64 n21] h20 < m15 [.int .i64 n11, .int .i64 n12, .int .i64 n13] h16)
 (vif (n1 == 17)
 (vif (decide (n18 < n13))
 ((True ∧ (some [.int .i64 0, .int .i64 0] : Option (List AV)) = some [.int .i64 0, .int .i64 0] ∧ (some [.int .i64 n1, .int .i64 n2] : Option (List AV)) = some [.int .i64 n1, .int .i64 n2] ∧ True) ∧ I14 [.int .i64 (wrapK .i64 (n11 + 1)), .int .i64 n12, .int .i64 n18] h16 ∧ m15 [.int .i64 (wrapK .i64 (n11 + 1)), .int .i64 n12, .int .i64 n18] h16 < m15 [.int .i64 n11, .int .i64 n12, .int .i64 n13] h16)
 (vif (n1 == 18)
 (vif (decide (n18 > n13))
 ((True ∧ (some [.int .i64 0, .int .i64 0] : Option (List AV)) = some [.int .i64 0, .int .i64 0] ∧ (some [.int .i64 n1, .int .i64 n2] : Option (List AV)) = some [.int .i64 n1, .int .i64 n2] ∧ True) ∧ I14 [.int .i64 (wrapK .i64 (n11 + 1)), .int .i64 n12, .int .i64 n18] h16 ∧ m15 [.int .i64 (wrapK .i64 (n11 + 1)), .int .i64 n12, .int .i64 n18] h16 < m15 [.int .i64 n11, .int .i64 n12, .int .i64 n13] h16)
 ((True ∧ (some [.int .i64 0, .int .i64 0] : Option (List AV)) = some [.int .i64 0, .int .i64 0] ∧ (some [.int .i64 n1, .int .i64 n2] : Option (List AV)) = some [.int .i64 n1, .int .i64 n2] ∧ True) ∧ I14 [.int .i64 (wrapK .i64 (n11 + 1)), .int .i64 n12, .int .i64 n13] h16 ∧ m15 [.int .i64 (wrapK .i64 (n11 + 1)), .int .i64 n12, .int .i64 n13] h16 < m15 [.int .i64 n11, .int .i64 n12, .int .i64 n13] h16))
 ((True ∧ (some [.int .i64 0, .int .i64 0] : Option (List AV)) = some [.int .i64 0, .int .i64 0] ∧ (some [.int .i64 n1, .int .i64 n2] : Option (List AV)) = some [.int .i64 n1, .int .i64 n2] ∧ True) ∧ I14 [.int .i64 (wrapK .i64 (n11 + 1)), .int .i64 n12, .int .i64 n13] h16 ∧ m15 [.int .i64 (wrapK .i64 (n11 + 1)), .int .i64 n12, .int .i64 n13] h16 < m15 [.int .i64 n11, .int .i64 n12, .int .i64 n13] h16)))
 (vif (n1 == 18)
 (vif (decide (n18 > n13))
 ((True ∧ (some [.int .i64 0, .int .i64 0] : Option (List AV)) = some [.int .i64 0, .int .i64 0] ∧ (some [.int .i64 n1, .int .i64 n2] : Option (List AV)) = some [.int .i64 n1, .int .i64 n2] ∧ True) ∧ I14 [.int .i64 (wrapK .i64 (n11 + 1)), .int .i64 n12, .int .i64 n18] h16 ∧ m15 [.int .i64 (wrapK .i64 (n11 + 1)), .int .i64 n12, .int .i64 n18] h16 < m15 [.int .i64 n11, .int .i64 n12, .int .i64 n13] h16)
 ((True ∧ (some [.int .i64 0, .int .i64 0] : Option (List AV)) = some [.int .i64 0, .int .i64 0] ∧ (some [.int .i64 n1, .int .i64 n2] : Option (List AV)) = some [.int .i64 n1, .int .i64 n2] ∧ True) ∧ I14 [.int .i64 (wrapK .i64 (n11 + 1)), .int .i64 n12, .int .i64 n13] h16 ∧ m15 [.int .i64 (wrapK .i64 (n11 + 1)), .int .i64 n12, .int .i64 n13] h16 < m15 [.int .i64 n11, .int .i64 n12, .int .i64 n13] h16))
 ((True ∧ (some [.int .i64 0, .int .i64 0] : Option (List AV)) = some [.int .i64 0, .int .i64 0] ∧ (some [.int .i64 n1, .int .i64 n2] : Option (List AV)) = some [.int .i64 n1, .int .i64 n2] ∧ True) ∧ I14 [.int .i64 (wrapK .i64 (n11 + 1)), .int .i64 n12, .int .i64 n13] h16 ∧ m15 [.int .i64 (wrapK .i64 (n11 + 1)), .int .i64 n12, .int .i64 n13] h16 < m15 [.int .i64 n11, .int .i64 n12, .int .i64 n13] h16))))
 (Q (.agg [.int .i64 n12, .int .i64 n13]) h16))
theorem ac77 {n1 : Int} {n2 : Int} {q3 : Option SL} {h : Heap} {Q : AV → Heap → Prop} (hk : vc77 n1 n2 q3 h Q) : AC Tryz.prog 77 [.agg [.int .i64 n1, .int .i64 n2], .sl q3] h Q :=
 AC_by (H := hintsOf [2, 4, 5] [(0, [6], [2])]) (by kernel_rfl) (by kernel_rfl) hk

/-- oxbowref18.pairs: what it asks. -/
def vc78 (n1 : Int) (n2 : Int) (q3 : Option SL) (q4 : Option SL) (h : Heap) (Q : AV → Heap → Prop) : Prop :=
 ∃ (I7 : List AV → Heap → Prop) (m8 : List AV → Heap → Nat), I7 [.sl none, .int .i64 0] h ∧
 ∀ q5 : Option SL, ∀ n6 : Int, ∀ h9 : Heap, I7 [.sl q5, .int .i64 n6] h9 →
 vif (decide (n6 < (slLen q3 : Int)))
 (∃ (I12 : List AV → Heap → Prop) (m13 : List AV → Heap → Nat), I12 [.sl q5, .int .i64 0] h9 ∧
 ∀ q10 : Option SL, ∀ n11 : Int, ∀ h14 : Heap, I12 [.sl q10, .int .i64 n11] h14 →
 vif (decide (n11 < (slLen q4 : Int)))
 (vIdx q3 n6 2 fun p15 =>
 ∃ n16 : Int, cellsAt h14 ⟨p15.b, p15.o + 0⟩ 1 = some [.int .i64 n16] ∧
 vIdx q4 n11 2 fun p17 =>
 ∃ n18 : Int, cellsAt h14 ⟨p17.b, p17.o + 0⟩ 1 = some [.int .i64 n18] ∧
 vif (n16 == n18)
 (vIdx q3 n6 2 fun p19 =>
 ∃ n20 : Int, ∃ n21 : Int, cellsAt h14 p19 2 = some [.int .i64 n20, .int .i64 n21] ∧
 vIdx q4 n11 2 fun p22 =>
 ∃ n23 : Int, ∃ n24 : Int, cellsAt h14 p22 2 = some [.int .i64 n23, .int .i64 n24] ∧
 AC Tryz.prog 104 [.agg [.int .i64 n1, .int .i64 n2], .agg [.int .i64 n20, .int .i64 n21], .agg [.int .i64 n23, .int .i64 n24]] h14 fun v25 h26 => ∃ n27 : Int, ∃ n28 : Int, v25 = .agg [.int .i64 n27, .int .i64 n28] ∧
 PNew [.int .i64 n27, .int .i64 n28] true h26 fun a29 h30 =>
 PAppendS 2 16 q10 (some ⟨a29, 0, 1, 1, 0⟩) h30 fun q31 h32 =>
 vif (decide ((slLen q31 : Int) > 4096))
 (Q (.sl q31) h32)
 (((some [.int .i64 n1, .int .i64 n2] : Option (List AV)) = some [.int .i64 n1, .int .i64 n2] ∧ True) ∧ I12 [.sl q31, .int .i64 (wrapK .i64 (n11 + 1))] h32 ∧ m13 [.sl q31, .int .i64 (wrapK .i64 (n11 + 1))] h32 < m13 [.sl q10, .int .i64 n11] h14))
 (((some [.int .i64 n1, .int .i64 n2] : Option (List AV)) = some [.int .i64 n1, .int .i64 n2] ∧ True) ∧ I12 [.sl q10, .int .i64 (wrapK .i64 (n11 + 1))] h14 ∧ m13 [.sl q10, .int .i64 (wrapK .i64 (n11 + 1))] h14 < m13 [.sl q10, .int .i64 n11] h14))
 (((some [.int .i64 n1, .int .i64 n2] : Option (List AV)) = some [.int .i64 n1, .int .i64 n2] ∧ True) ∧ I7 [.sl q10, .int .i64 (wrapK .i64 (n6 + 1))] h14 ∧ m8 [.sl q10, .int .i64 (wrapK .i64 (n6 + 1))] h14 < m8 [.sl q5, .int .i64 n6] h9))
 (Q (.sl q5) h9)
theorem ac78 {n1 : Int} {n2 : Int} {q3 : Option SL} {q4 : Option SL} {h : Heap} {Q : AV → Heap → Prop} (hk : vc78 n1 n2 q3 q4 h Q) : AC Tryz.prog 78 [.agg [.int .i64 n1, .int .i64 n2], .sl q3, .sl q4] h Q :=
 AC_by (H := hintsOf [3] [(0, [7, 8], []), (2, [7, 9], [])]) (by kernel_rfl) (by kernel_rfl) hk

/-- oxbowref03.Distinct: what it asks. -/
def vc79 (q1 : Option SL) (h : Heap) (Q : AV → Heap → Prop) : Prop :=
 AC Tryz.prog 19 [.sl q1] h fun v2 h3 => ∃ q4 : Option SL, v2 = .sl q4 ∧
 ∃ (I7 : List AV → Heap → Prop) (m8 : List AV → Heap → Nat), I7 [.sl none, .int .i64 0] h3 ∧
 ∀ q5 : Option SL, ∀ n6 : Int, ∀ h9 : Heap, I7 [.sl q5, .int .i64 n6] h9 →
 vif (decide (n6 < (slLen q4 : Int)))
 (vif (n6 == 0)
 (vIdx q4 n6 2 fun p10 =>
 ∃ n11 : Int, ∃ n12 : Int, cellsAt h9 p10 2 = some [.int .i64 n11, .int .i64 n12] ∧
 PNew [.int .i64 n11, .int .i64 n12] true h9 fun a13 h14 =>
 PAppendS 2 16 q5 (some ⟨a13, 0, 1, 1, 0⟩) h14 fun q15 h16 =>
 (True) ∧ I7 [.sl q15, .int .i64 (wrapK .i64 (n6 + 1))] h16 ∧ m8 [.sl q15, .int .i64 (wrapK .i64 (n6 + 1))] h16 < m8 [.sl q5, .int .i64 n6] h9)
 (vIdx q4 n6 2 fun p17 =>
 ∃ n18 : Int, ∃ n19 : Int, cellsAt h9 p17 2 = some [.int .i64 n18, .int .i64 n19] ∧
 vIdx q4 (wrapK .i64 (n6 - 1)) 2 fun p20 =>
 ∃ n21 : Int, ∃ n22 : Int, cellsAt h9 p20 2 = some [.int .i64 n21, .int .i64 n22] ∧
 vif (!((n18 == n21) && ((n19 == n22) && true)))
 (vIdx q4 n6 2 fun p23 =>
 ∃ n24 : Int, ∃ n25 : Int, cellsAt h9 p23 2 = some [.int .i64 n24, .int .i64 n25] ∧
 PNew [.int .i64 n24, .int .i64 n25] true h9 fun a26 h27 =>
 PAppendS 2 16 q5 (some ⟨a26, 0, 1, 1, 0⟩) h27 fun q28 h29 =>
 (True) ∧ I7 [.sl q28, .int .i64 (wrapK .i64 (n6 + 1))] h29 ∧ m8 [.sl q28, .int .i64 (wrapK .i64 (n6 + 1))] h29 < m8 [.sl q5, .int .i64 n6] h9)
 ((True) ∧ I7 [.sl q5, .int .i64 (wrapK .i64 (n6 + 1))] h9 ∧ m8 [.sl q5, .int .i64 (wrapK .i64 (n6 + 1))] h9 < m8 [.sl q5, .int .i64 n6] h9)))
 (Q (.sl q5) h9)
theorem ac79 {q1 : Option SL} {h : Heap} {Q : AV → Heap → Prop} (hk : vc79 q1 h Q) : AC Tryz.prog 79 [.sl q1] h Q :=
 AC_by (H := hintsOf [] [(0, [4, 5], [])]) (by kernel_rfl) (by kernel_rfl) hk

/-- oxbowref18.one: what it asks. -/
def vc80 (n1 : Int) (q2 : Option SL) (n3 : Int) (n4 : Int) (n5 : Int) (q6 : Option SL) (n7 : Int) (n8 : Int) (h : Heap) (Q : AV → Heap → Prop) : Prop :=
 vif (n1 == 2)
 (AC Tryz.prog 105 [.agg [.int .i64 n3, .int .i64 n4], .agg [.int .i64 n7, .int .i64 n8]] h fun v9 h10 => ∃ n11 : Int, ∃ n12 : Int, v9 = .agg [.int .i64 n11, .int .i64 n12] ∧
 PNew [.int .i64 n11, .int .i64 n12] true h10 fun a13 h14 =>
 Q (.sl (some ⟨a13, 0, 1, 1, 0⟩)) h14)
 (vif (n1 == 3)
 (AC Tryz.prog 106 [.agg [.int .i64 n3, .int .i64 n4], .agg [.int .i64 n7, .int .i64 n8]] h fun v15 h16 => ∃ b17 : Bool, v15 = .bool b17 ∧
 vif b17
 (PNew [.int .i64 n7, .int .i64 n8] true h16 fun a18 h19 =>
 Q (.sl (some ⟨a18, 0, 1, 1, 0⟩)) h19)
 (Q (.sl none) h16))
 (AC Tryz.prog 107 [.agg [.int .i64 n3, .int .i64 n4], .agg [.int .i64 n7, .int .i64 n8]] h fun v20 h21 => ∃ q22 : Option SL, v20 = .sl q22 ∧
 Q (.sl q22) h21))
theorem ac80 {n1 : Int} {q2 : Option SL} {n3 : Int} {n4 : Int} {n5 : Int} {q6 : Option SL} {n7 : Int} {n8 : Int} {h : Heap} {Q : AV → Heap → Prop} (hk : vc80 n1 q2 n3 n4 n5 q6 n7 n8 h Q) : AC Tryz.prog 80 [.agg [.int .i64 n1, .sl q2, .int .i64 n3, .int .i64 n4, .int .i64 n5, .sl q6], .agg [.int .i64 n7, .int .i64 n8]] h Q :=
 AC_by (H := hintsOf [2, 3] []) (by kernel_rfl) (by kernel_rfl) hk

/-- graph.needs: what it asks. -/
def vc81 (n1 : Int) (h : Heap) (Q : AV → Heap → Prop) : Prop :=
 vif (n1 == 1)
 (Q (.tup [.agg [.int .i64 0, .int .i64 0], .bool true]) h)
 (vif (n1 == 10)
 (Q (.tup [.agg [.int .i64 0, .int .i64 0], .bool true]) h)
 (vif (n1 == 11)
 (Q (.tup [.agg [.int .i64 0, .int .i64 0], .bool true]) h)
 (vif (n1 == 2)
 (Q (.tup [.agg [.int .i64 1, .int .i64 (wrapK .i64 ((wrapK .i64 (n1 - 2)) + 1))], .bool true]) h)
 (vif (n1 == 3)
 (Q (.tup [.agg [.int .i64 1, .int .i64 (wrapK .i64 ((wrapK .i64 (n1 - 2)) + 1))], .bool true]) h)
 (vif (n1 == 4)
 (Q (.tup [.agg [.int .i64 1, .int .i64 (wrapK .i64 ((wrapK .i64 (n1 - 2)) + 1))], .bool true]) h)
 (vif (n1 == 5)
 (Q (.tup [.agg [.int .i64 1, .int .i64 (wrapK .i64 ((wrapK .i64 (n1 - 2)) + 1))], .bool true]) h)
 (vif (n1 == 6)
 (Q (.tup [.agg [.int .i64 2, .int .i64 5], .bool true]) h)
 (vif (n1 == 7)
 (Q (.tup [.agg [.int .i64 1, .int .i64 0], .bool true]) h)
 (vif (n1 == 9)
 (Q (.tup [.agg [.int .i64 1, .int .i64 0], .bool true]) h)
 (vif (n1 == 8)
 (Q (.tup [.agg [.int .i64 2, .int .i64 0], .bool true]) h)
 (Q (.tup [.agg [.int .i64 0, .int .i64 0], .bool false]) h)))))))))))
theorem ac81 {n1 : Int} {h : Heap} {Q : AV → Heap → Prop} (hk : vc81 n1 h Q) : AC Tryz.prog 81 [.int .i64 n1] h Q :=
 AC_by (H := hintsOf [2] []) (by kernel_rfl) (by kernel_rfl) hk

/-- fn.Check: what it asks. -/
def vc82 (n1 : Int) (n2 : Int) (h : Heap) (Q : AV → Heap → Prop) : Prop :=
 AC Tryz.prog 108 [.int .i64 n1] h fun v3 h4 => ∃ n5 : Int, ∃ n6 : Int, v3 = .tup [.int .i64 n5, .int .i64 n6] ∧
 AC Tryz.prog 83 [.int .i64 n1] h4 fun v7 h8 => ∃ n9 : Int, v7 = .int .i64 n9 ∧
 vif (n9 == 0)
 (Q (.int .i64 160) h8)
 (vif (decide (n2 < n5))
 (Q (.int .i64 160) h8)
 (vif (decide (n2 > n6))
 (Q (.int .i64 160) h8)
 (Q (.int .i64 0) h8)))
theorem ac82 {n1 : Int} {n2 : Int} {h : Heap} {Q : AV → Heap → Prop} (hk : vc82 n1 n2 h Q) : AC Tryz.prog 82 [.agg [.int .i64 n1, .int .i64 n2]] h Q :=
 AC_by (H := hintsOf [1] []) (by kernel_rfl) (by kernel_rfl) hk

/-- fn.family: what it asks. -/
def vc83 (n1 : Int) (h : Heap) (Q : AV → Heap → Prop) : Prop :=
 vif (decide (n1 < 1))
 (Q (.int .i64 0) h)
 (vif (decide (n1 ≤ 8))
 (Q (.int .i64 1) h)
 (vif (decide (n1 ≤ 12))
 (Q (.int .i64 2) h)
 (vif (decide (n1 ≤ 15))
 (Q (.int .i64 3) h)
 (vif (decide (n1 ≤ 19))
 (Q (.int .i64 4) h)
 (vif (decide (n1 ≤ 23))
 (Q (.int .i64 5) h)
 (Q (.int .i64 0) h))))))
theorem ac83 {n1 : Int} {h : Heap} {Q : AV → Heap → Prop} (hk : vc83 n1 h Q) : AC Tryz.prog 83 [.int .i64 n1] h Q :=
 AC_by (H := hintsOf [] []) (by kernel_rfl) (by kernel_rfl) hk

/-- eval.whole).loop: what it asks. -/
def vc84 (p1 : Option PA) (n2 : Int) (q3 : Option SL) (n4 : Int) (n5 : Int) (n6 : Int) (q7 : Option SL) (h : Heap) (Q : AV → Heap → Prop) : Prop :=
 vPtr p1 fun p8 =>
 ∃ q9 : Option SL, cellsAt h ⟨p8.b, p8.o + 0 + 0⟩ 1 = some [.sl q9] ∧
 vIdx q3 0 1 fun p10 =>
 ∃ n11 : Int, cellsAt h p10 1 = some [.int .i64 n11] ∧
 vIdx q9 n11 1 fun p12 =>
 ∃ q13 : Option SL, cellsAt h p12 1 = some [.sl q13] ∧
 PNew [.sl q13] true h fun a14 h15 =>
 vPtr p1 fun p16 =>
 PStore h15 ⟨p16.b, p16.o + 3⟩ [.sl (some ⟨a14, 0, 1, 1, 0⟩)] fun h17 =>
 ∃ (I20 : List AV → Heap → Prop) (m21 : List AV → Heap → Nat), I20 [.sl q13, .int .i64 0] h17 ∧
 ∀ q18 : Option SL, ∀ n19 : Int, ∀ h22 : Heap, I20 [.sl q18, .int .i64 n19] h22 →
 vif (decide (n19 < n6))
 (vPtr p1 fun p23 =>
 ∃ q24 : Option SL, cellsAt h22 ⟨p23.b, p23.o + 0 + 0⟩ 1 = some [.sl q24] ∧
 AC Tryz.prog 38 [.agg [.sl q24, .sl q18], .sl q7] h22 fun v25 h26 => ∃ q27 : Option SL, ∃ n28 : Int, v25 = .tup [.sl q27, .int .i64 n28] ∧
 vif (n28 != 0)
 (Q (.tup [.sl none, .int .i64 n28]) h26)
 (AC Tryz.prog 109 [.sl q18, .sl q27] h26 fun v29 h30 => ∃ b31 : Bool, v29 = .bool b31 ∧
 vif b31
 (Q (.tup [.sl q18, .int .i64 0]) h30)
 (vPtr p1 fun p32 =>
 ∃ q33 : Option SL, cellsAt h30 ⟨p32.b, p32.o + 3⟩ 1 = some [.sl q33] ∧
 PNew [.sl q27] true h30 fun a34 h35 =>
 PAppendS 1 24 q33 (some ⟨a34, 0, 1, 1, 0⟩) h35 fun q36 h37 =>
 vPtr p1 fun p38 =>
 PStore h37 ⟨p38.b, p38.o + 3⟩ [.sl q36] fun h39 =>
 ((some [.int .i64 n2, .sl q3, .int .i64 n4, .int .i64 n5, .int .i64 n6, .sl q7] : Option (List AV)) = some [.int .i64 n2, .sl q3, .int .i64 n4, .int .i64 n5, .int .i64 n6, .sl q7] ∧ True) ∧ I20 [.sl q27, .int .i64 (wrapK .i64 (n19 + 1))] h39 ∧ m21 [.sl q27, .int .i64 (wrapK .i64 (n19 + 1))] h39 < m21 [.sl q18, .int .i64 n19] h22)))
 (Q (.tup [.sl q18, .int .i64 0]) h22)
theorem ac84 {p1 : Option PA} {n2 : Int} {q3 : Option SL} {n4 : Int} {n5 : Int} {n6 : Int} {q7 : Option SL} {h : Heap} {Q : AV → Heap → Prop} (hk : vc84 p1 n2 q3 n4 n5 n6 q7 h Q) : AC Tryz.prog 84 [.ptr p1, .agg [.int .i64 n2, .sl q3, .int .i64 n4, .int .i64 n5, .int .i64 n6, .sl q7]] h Q :=
 AC_by (H := hintsOf [3] [(0, [6, 27], [])]) (by kernel_rfl) (by kernel_rfl) hk

/-- eval.maker).apply: what it asks. -/
def vc85 (p1 : Option PA) (n2 : Int) (q3 : Option SL) (n4 : Int) (n5 : Int) (n6 : Int) (q7 : Option SL) (h : Heap) (Q : AV → Heap → Prop) : Prop :=
 AC Tryz.prog 110 [.ptr p1, .agg [.int .i64 n2, .sl q3, .int .i64 n4, .int .i64 n5, .int .i64 n6, .sl q7]] h fun v8 h9 => ∃ q10 : Option SL, v8 = .sl q10 ∧
 (LV.val (.agg [.int .i64 n2, .sl q3, .int .i64 n4, .int .i64 n5, .int .i64 n6, .sl q7]) = LV.val (.agg [.int .i64 n2, .sl q3, .int .i64 n4, .int .i64 n5, .int .i64 n6, .sl q7])) ∧
 AC Tryz.prog 22 [.agg [.int .i64 n2, .sl q3, .int .i64 n4, .int .i64 n5, .int .i64 n6, .sl q7], .sl q10] h9 fun v11 h12 => ∃ q13 : Option SL, ∃ n14 : Int, v11 = .tup [.sl q13, .int .i64 n14] ∧
 Q (.tup [.sl q13, .int .i64 n14]) h12
theorem ac85 {p1 : Option PA} {n2 : Int} {q3 : Option SL} {n4 : Int} {n5 : Int} {n6 : Int} {q7 : Option SL} {h : Heap} {Q : AV → Heap → Prop} (hk : vc85 p1 n2 q3 n4 n5 n6 q7 h Q) : AC Tryz.prog 85 [.ptr p1, .agg [.int .i64 n2, .sl q3, .int .i64 n4, .int .i64 n5, .int .i64 n6, .sl q7]] h Q :=
 AC_by (H := hintsOf [3] []) (by kernel_rfl) (by kernel_rfl) hk

/-- oxbowref17.family: what it asks. -/
def vc86 (n1 : Int) (h : Heap) (Q : AV → Heap → Prop) : Prop :=
 vif (n1 == 2)
 (Q (.int .i64 1) h)
 (vif (n1 == 3)
 (Q (.int .i64 2) h)
 (vif (n1 == 4)
 (Q (.int .i64 3) h)
 (vif (n1 == 5)
 (Q (.int .i64 4) h)
 (vif (n1 == 6)
 (Q (.int .i64 5) h)
 (Q (.int .i64 0) h)))))
theorem ac86 {n1 : Int} {h : Heap} {Q : AV → Heap → Prop} (hk : vc86 n1 h Q) : AC Tryz.prog 86 [.int .i64 n1] h Q :=
 AC_by (H := hintsOf [] []) (by kernel_rfl) (by kernel_rfl) hk

/-- oxbowref17.body: what it asks. -/
def vc87 (q1 : Option SL) (n2 : Int) (h : Heap) (Q : AV → Heap → Prop) : Prop :=
 vif (decide ((slLen q1 : Int) < 1))
 (Q (.bool false) h)
 (vif (decide ((slLen q1 : Int) > 32))
 (Q (.bool false) h)
 (∃ (I4 : List AV → Heap → Prop) (m5 : List AV → Heap → Nat), I4 [.int .i64 0] h ∧
 ∀ n3 : Int, ∀ h6 : Heap, I4 [.int .i64 n3] h6 →
 vif (decide (n3 < (slLen q1 : Int)))
 (vIdx q1 n3 6 fun p7 =>
 ∃ n8 : Int, ∃ q9 : Option SL, ∃ n10 : Int, ∃ n11 : Int, ∃ n12 : Int, ∃ q13 : Option SL, cellsAt h6 p7 6 = some [.int .i64 n8, .sl q9, .int .i64 n10, .int .i64 n11, .int .i64 n12, .sl q13] ∧
 AC Tryz.prog 53 [.agg [.int .i64 n8, .sl q9, .int .i64 n10, .int .i64 n11, .int .i64 n12, .sl q13], .int .i64 n3, .int .i64 n2] h6 fun v14 h15 => ∃ b16 : Bool, v14 = .bool b16 ∧
 vif (!b16)
 (Q (.bool false) h15)
 ((True) ∧ I4 [.int .i64 (wrapK .i64 (n3 + 1))] h15 ∧ m5 [.int .i64 (wrapK .i64 (n3 + 1))] h15 < m5 [.int .i64 n3] h6))
 (Q (.bool true) h6)))
theorem ac87 {q1 : Option SL} {n2 : Int} {h : Heap} {Q : AV → Heap → Prop} (hk : vc87 q1 n2 h Q) : AC Tryz.prog 87 [.sl q1, .int .i64 n2] h Q :=
 AC_by (H := hintsOf [] [(0, [5], [])]) (by kernel_rfl) (by kernel_rfl) hk

/-- graph.node: what it asks. -/
def vc88 (n1 : Int) (q2 : Option SL) (n3 : Int) (n4 : Int) (n5 : Int) (q6 : Option SL) (n7 : Int) (n8 : Int) (h : Heap) (Q : AV → Heap → Prop) : Prop :=
 PNew [.int .i64 n7] true h fun a9 h10 =>
 AC Tryz.prog 81 [.int .i64 n1] h10 fun v11 h12 => ∃ n13 : Int, ∃ n14 : Int, ∃ b15 : Bool, v11 = .tup [.agg [.int .i64 n13, .int .i64 n14], .bool b15] ∧
 PNew [.nilfunc] true h12 fun a16 h17 =>
 PStore h17 ⟨a16, 0⟩ [.func (.func 111) [] [.ptr (some ⟨a9, 0⟩)]] fun h18 =>
 vif (!b15)
 (Q (.bool false) h18)
 (vif ((slLen q2 : Int) != n13)
 (Q (.bool false) h18)
 (AC Tryz.prog 112 [.sl q2, .func (.func 113) [] [.ptr (some ⟨a16, 0⟩)]] h18 fun v19 h20 => ∃ b21 : Bool, v19 = .bool b21 ∧
 vif b21
 (Q (.bool false) h20)
 (AC Tryz.prog 114 [.agg [.int .i64 n1, .sl q2, .int .i64 n3, .int .i64 n4, .int .i64 n5, .sl q6], .int .i64 n14] h20 fun v22 h23 => ∃ b24 : Bool, v22 = .bool b24 ∧
 vif (!b24)
 (Q (.bool false) h23)
 (AC Tryz.prog 115 [.agg [.int .i64 n1, .sl q2, .int .i64 n3, .int .i64 n4, .int .i64 n5, .sl q6], .int .i64 n8] h23 fun v25 h26 => ∃ b27 : Bool, v25 = .bool b27 ∧
 vif (!b27)
 (Q (.bool false) h26)
 (vif (n1 != 9)
 (Q (.bool ((slLen q6 : Int) == 0)) h26)
 (∃ n28 : Int, cellsAt h26 ⟨a9, 0⟩ 1 = some [.int .i64 n28] ∧
 AC Tryz.prog 55 [.sl q6, .int .i64 n28] h26 fun v29 h30 => ∃ b31 : Bool, v29 = .bool b31 ∧
 Q (.bool b31) h30))))))
theorem ac88 {n1 : Int} {q2 : Option SL} {n3 : Int} {n4 : Int} {n5 : Int} {q6 : Option SL} {n7 : Int} {n8 : Int} {h : Heap} {Q : AV → Heap → Prop} (hk : vc88 n1 q2 n3 n4 n5 q6 n7 n8 h Q) : AC Tryz.prog 88 [.agg [.int .i64 n1, .sl q2, .int .i64 n3, .int .i64 n4, .int .i64 n5, .sl q6], .int .i64 n7, .int .i64 n8] h Q :=
 AC_by (H := hintsOf [3, 7] []) (by kernel_rfl) (by kernel_rfl) hk

/-- slices.IndexFunc: what it asks. -/
def vc89 (q1 : Option SL) (h : Heap) (Q : AV → Heap → Prop) : Prop :=
 ∃ (I3 : List AV → Heap → Prop) (m4 : List AV → Heap → Nat), I3 [.int .i64 0] h ∧
 ∀ n2 : Int, ∀ h5 : Heap, I3 [.int .i64 n2] h5 →
 vif (decide (n2 < (slLen q1 : Int)))
 (vIdx q1 n2 2 fun p6 =>
 ∃ n7 : Int, ∃ n8 : Int, cellsAt h5 p6 2 = some [.int .i64 n7, .int .i64 n8] ∧
 AC Tryz.prog 60 [.agg [.int .i64 n7, .int .i64 n8]] h5 fun v9 h10 => ∃ b11 : Bool, v9 = .bool b11 ∧
 vif b11
 (Q (.int .i64 n2) h10)
 ((True) ∧ I3 [.int .i64 (wrapK .i64 (n2 + 1))] h10 ∧ m4 [.int .i64 (wrapK .i64 (n2 + 1))] h10 < m4 [.int .i64 n2] h5))
 (Q (.int .i64 (-1)) h5)
theorem ac89 {q1 : Option SL} {h : Heap} {Q : AV → Heap → Prop} (hk : vc89 q1 h Q) : AC Tryz.prog 89 [.sl q1, .func (.func 60) [] []] h Q :=
 AC_by (H := hintsOf [] [(0, [8], [])]) (by kernel_rfl) (by kernel_rfl) hk

/-- slices.IndexFunck: what it asks. -/
def vc89k (q1 : Option SL) (p2 : PA) (h : Heap) (Q : AV → Heap → Prop) : Prop :=
 ∃ (I4 : List AV → Heap → Prop) (m5 : List AV → Heap → Nat), I4 [.int .i64 0] h ∧
 ∀ n3 : Int, ∀ h6 : Heap, I4 [.int .i64 n3] h6 →
 vif (decide (n3 < (slLen q1 : Int)))
 (vIdx q1 n3 2 fun p7 =>
 ∃ n8 : Int, ∃ n9 : Int, cellsAt h6 p7 2 = some [.int .i64 n8, .int .i64 n9] ∧
 AC Tryz.prog 119 [.agg [.int .i64 n8, .int .i64 n9], .ptr (some p2)] h6 fun v10 h11 => ∃ b12 : Bool, v10 = .bool b12 ∧
 vif b12
 (Q (.int .i64 n3) h11)
 ((True) ∧ I4 [.int .i64 (wrapK .i64 (n3 + 1))] h11 ∧ m5 [.int .i64 (wrapK .i64 (n3 + 1))] h11 < m5 [.int .i64 n3] h6))
 (Q (.int .i64 (-1)) h6)
theorem ac89k {q1 : Option SL} {p2 : PA} {h : Heap} {Q : AV → Heap → Prop} (hk : vc89k q1 p2 h Q) : AC Tryz.prog 89 [.sl q1, .func (.func 119) [] [.ptr (some p2)]] h Q :=
 AC_by (H := hintsOf [] [(0, [8], [])]) (by kernel_rfl) (by kernel_rfl) hk

/-- slices.IndexFuncf: what it asks. -/
def vc89f (q1 : Option SL) (p2 : PA) (h : Heap) (Q : AV → Heap → Prop) : Prop :=
 ∃ (I4 : List AV → Heap → Prop) (m5 : List AV → Heap → Nat), I4 [.int .i64 0] h ∧
 ∀ n3 : Int, ∀ h6 : Heap, I4 [.int .i64 n3] h6 →
 vif (decide (n3 < (slLen q1 : Int)))
 (vIdx q1 n3 2 fun p7 =>
 ∃ n8 : Int, ∃ n9 : Int, cellsAt h6 p7 2 = some [.int .i64 n8, .int .i64 n9] ∧
 AC Tryz.prog 121 [.agg [.int .i64 n8, .int .i64 n9], .ptr (some p2)] h6 fun v10 h11 => ∃ b12 : Bool, v10 = .bool b12 ∧
 vif b12
 (Q (.int .i64 n3) h11)
 ((True) ∧ I4 [.int .i64 (wrapK .i64 (n3 + 1))] h11 ∧ m5 [.int .i64 (wrapK .i64 (n3 + 1))] h11 < m5 [.int .i64 n3] h6))
 (Q (.int .i64 (-1)) h6)
theorem ac89f {q1 : Option SL} {p2 : PA} {h : Heap} {Q : AV → Heap → Prop} (hk : vc89f q1 p2 h Q) : AC Tryz.prog 89 [.sl q1, .func (.func 121) [] [.ptr (some p2)]] h Q :=
 AC_by (H := hintsOf [] [(0, [8], [])]) (by kernel_rfl) (by kernel_rfl) hk

/-- rec.within: what it asks. -/
def vc90 (n1 : Int) (h : Heap) (Q : AV → Heap → Prop) : Prop :=
 vif (decide (n1 ≥ 0))
 (Q (.bool (decide (n1 ≤ 1048575))) h)
 (Q (.bool false) h)
theorem ac90 {n1 : Int} {h : Heap} {Q : AV → Heap → Prop} (hk : vc90 n1 h Q) : AC Tryz.prog 90 [.int .i64 n1] h Q :=
 AC_by (H := hintsOf [] []) (by kernel_rfl) (by kernel_rfl) hk

/-- rec.Groups: what it asks. -/
def vc94 (q1 : Option SL) (h : Heap) (Q : AV → Heap → Prop) : Prop :=
 AC Tryz.prog 44 [.sl q1] h fun v2 h3 => ∃ q4 : Option SL, ∃ n5 : Int, v2 = .tup [.sl q4, .int .i64 n5] ∧
 PNew [.sl none] true h3 fun a6 h7 =>
 PStore h7 ⟨a6, 0⟩ [.sl q4] fun h8 =>
 ∃ (I10 : List AV → Heap → Prop) (m11 : List AV → Heap → Nat), I10 [.sl none] h8 ∧
 ∀ q9 : Option SL, ∀ h12 : Heap, I10 [.sl q9] h12 →
 ∃ q13 : Option SL, cellsAt h12 ⟨a6, 0⟩ 1 = some [.sl q13] ∧
 vif (decide ((slLen q13 : Int) > 0))
 (∃ q14 : Option SL, cellsAt h12 ⟨a6, 0⟩ 1 = some [.sl q14] ∧
 AC Tryz.prog 89 [.sl q14, .func (.func 119) [] [.ptr (some ⟨a6, 0⟩)]] h12 fun v15 h16 => ∃ n17 : Int, v15 = .int .i64 n17 ∧
 vif (decide (n17 < 0))
 (∃ q18 : Option SL, cellsAt h16 ⟨a6, 0⟩ 1 = some [.sl q18] ∧
 ∃ q19 : Option SL, cellsAt h16 ⟨a6, 0⟩ 1 = some [.sl q19] ∧
 PSlice 2 q19 0 (some (slLen q18 : Int)) none fun q20 =>
 AC Tryz.prog 67 [.sl q20] h16 fun v21 h22 => ∃ q23 : Option SL, v21 = .sl q23 ∧
 PNew [.sl q23] true h22 fun a24 h25 =>
 PAppendS 1 24 q9 (some ⟨a24, 0, 1, 1, 0⟩) h25 fun q26 h27 =>
 ∃ q28 : Option SL, cellsAt h27 ⟨a6, 0⟩ 1 = some [.sl q28] ∧
 PSlice 2 q28 (slLen q18 : Int) none none fun q29 =>
 PStore h27 ⟨a6, 0⟩ [.sl q29] fun h30 =>
 (True) ∧ I10 [.sl q26] h30 ∧ m11 [.sl q26] h30 < m11 [.sl q9] h12)
 (∃ q31 : Option SL, cellsAt h16 ⟨a6, 0⟩ 1 = some [.sl q31] ∧
 PSlice 2 q31 0 (some n17) none fun q32 =>
 AC Tryz.prog 67 [.sl q32] h16 fun v33 h34 => ∃ q35 : Option SL, v33 = .sl q35 ∧
 PNew [.sl q35] true h34 fun a36 h37 =>
 PAppendS 1 24 q9 (some ⟨a36, 0, 1, 1, 0⟩) h37 fun q38 h39 =>
 ∃ q40 : Option SL, cellsAt h39 ⟨a6, 0⟩ 1 = some [.sl q40] ∧
 PSlice 2 q40 n17 none none fun q41 =>
 PStore h39 ⟨a6, 0⟩ [.sl q41] fun h42 =>
 (True) ∧ I10 [.sl q38] h42 ∧ m11 [.sl q38] h42 < m11 [.sl q9] h12))
 (Q (.tup [.sl q9, .int .i64 n5]) h12)
theorem ac94 {q1 : Option SL} {h : Heap} {Q : AV → Heap → Prop} (hk : vc94 q1 h Q) : AC Tryz.prog 94 [.sl q1] h Q :=
 AC_by (H := hintsOf [] [(0, [6], [])]) (by kernel_rfl) (by kernel_rfl) hk

/-- fn.Fold: what it asks. -/
def vc95 (n1 : Int) (n2 : Int) (q3 : Option SL) (h : Heap) (Q : AV → Heap → Prop) : Prop :=
 PNew [.sl q3] true h fun a4 h5 =>
 ∃ q6 : Option SL, cellsAt h5 ⟨a4, 0⟩ 1 = some [.sl q6] ∧
 AC Tryz.prog 120 [.agg [.int .i64 n1, .int .i64 n2], .int .i64 4, .sl q6] h5 fun v7 h8 => ∃ n9 : Int, v7 = .int .i64 n9 ∧
 vif (n9 != 0)
 (Q (.tup [.agg [.int .i64 0, .int .i64 0], .int .i64 n9]) h8)
 (∃ q10 : Option SL, cellsAt h8 ⟨a4, 0⟩ 1 = some [.sl q10] ∧
 vif ((slLen q10 : Int) == 0)
 (Q (.tup [.agg [.int .i64 0, .int .i64 0], .int .i64 1]) h8)
 (∃ q11 : Option SL, cellsAt h8 ⟨a4, 0⟩ 1 = some [.sl q11] ∧
 AC Tryz.prog 59 [.sl q11, .func (.func 121) [] [.ptr (some ⟨a4, 0⟩)]] h8 fun v12 h13 => ∃ b14 : Bool, v12 = .bool b14 ∧
 vif b14
 (Q (.tup [.agg [.int .i64 0, .int .i64 0], .int .i64 1]) h13)
 (∃ q15 : Option SL, cellsAt h13 ⟨a4, 0⟩ 1 = some [.sl q15] ∧
 vIdx q15 0 2 fun p16 =>
 ∃ n17 : Int, ∃ n18 : Int, cellsAt h13 p16 2 = some [.int .i64 n17, .int .i64 n18] ∧
 ∃ q19 : Option SL, cellsAt h13 ⟨a4, 0⟩ 1 = some [.sl q19] ∧
 PSlice 2 q19 1 none none fun q20 =>
 ∃ (I24 : List AV → Heap → Prop) (m25 : List AV → Heap → Nat), I24 [.int .i64 0, .int .i64 n17, .int .i64 n18] h13 ∧
 ∀ n21 : Int, ∀ n22 : Int, ∀ n23 : Int, ∀ h26 : Heap, I24 [.int .i64 n21, .int .i64 n22, .int .i64 n23] h26 →
 vif (decide (n21 < (slLen q20 : Int)))
 (vIdx q20 n21 2 fun p27 =>
 ∃ n28 : Int, ∃ n29 : Int, cellsAt h26 p27 2 = some [.int .i64 n28, .int .i64 n29] ∧
 AC Tryz.prog 122 [.agg [.int .i64 n1, .int .i64 n2], .int .i64 n23, .int .i64 n29] h26 fun v30 h31 => ∃ n32 : Int, v30 = .int .i64 n32 ∧
 (True ∧ (some [.int .i64 0, .int .i64 0] : Option (List AV)) = some [.int .i64 0, .int .i64 0] ∧ (some [.int .i64 n1, .int .i64 n2] : Option (List AV)) = some [.int .i64 n1, .int .i64 n2] ∧ True) ∧ I24 [.int .i64 (wrapK .i64 (n21 + 1)), .int .i64 n22, .int .i64 n32] h31 ∧ m25 [.int .i64 (wrapK .i64 (n21 + 1)), .int .i64 n22, .int .i64 n32] h31 < m25 [.int .i64 n21, .int .i64 n22, .int .i64 n23] h26)
 (vif (n1 == 19)
 (∃ q33 : Option SL, cellsAt h26 ⟨a4, 0⟩ 1 = some [.sl q33] ∧
 AC Tryz.prog 123 [.int .i64 (slLen q33 : Int)] h26 fun v34 h35 => ∃ n36 : Int, v34 = .int .i64 n36 ∧
 Q (.tup [.agg [.int .i64 n22, .int .i64 n36], .int .i64 0]) h35)
 (Q (.tup [.agg [.int .i64 n22, .int .i64 n23], .int .i64 0]) h26)))))
theorem ac95 {n1 : Int} {n2 : Int} {q3 : Option SL} {h : Heap} {Q : AV → Heap → Prop} (hk : vc95 n1 n2 q3 h Q) : AC Tryz.prog 95 [.agg [.int .i64 n1, .int .i64 n2], .sl q3] h Q :=
 AC_by (H := hintsOf [2, 4, 7, 9] [(0, [32], [2])]) (by kernel_rfl) (by kernel_rfl) hk

/-- fn.Pair: what it asks. -/
def vc96 (n1 : Int) (n2 : Int) (n3 : Int) (n4 : Int) (n5 : Int) (n6 : Int) (h : Heap) (Q : AV → Heap → Prop) : Prop :=
 PNew [.int .i64 n3, .int .i64 n4, .int .i64 n5, .int .i64 n6] true h fun a7 h8 =>
 AC Tryz.prog 120 [.agg [.int .i64 n1, .int .i64 n2], .int .i64 5, .sl (some ⟨a7, 0, 2, 2, 0⟩)] h8 fun v9 h10 => ∃ n11 : Int, v9 = .int .i64 n11 ∧
 vif (n11 != 0)
 (Q (.tup [.agg [.int .i64 0, .int .i64 0], .int .i64 n11]) h10)
 (vif (n3 != n5)
 (Q (.tup [.agg [.int .i64 0, .int .i64 0], .int .i64 1]) h10)
 (vif (n1 == 20)
 (Q (.tup [.agg [.int .i64 n3, .int .i64 n4], .int .i64 0]) h10)
 (vif (n1 == 21)
 (Q (.tup [.agg [.int .i64 n5, .int .i64 n6], .int .i64 0]) h10)
 (vif (n1 == 22)
 (AC Tryz.prog 123 [.int .i64 (wrapK .i64 (n4 + n6))] h10 fun v12 h13 => ∃ n14 : Int, v12 = .int .i64 n14 ∧
 (LV.val (.int .i64 n3) = LV.val (.int .i64 n3)) ∧
 Q (.tup [.agg [.int .i64 n3, .int .i64 n14], .int .i64 0]) h13)
 (Q (.tup [.agg [.int .i64 n4, .int .i64 n6], .int .i64 0]) h10)))))
theorem ac96 {n1 : Int} {n2 : Int} {n3 : Int} {n4 : Int} {n5 : Int} {n6 : Int} {h : Heap} {Q : AV → Heap → Prop} (hk : vc96 n1 n2 n3 n4 n5 n6 h Q) : AC Tryz.prog 96 [.agg [.int .i64 n1, .int .i64 n2], .agg [.int .i64 n3, .int .i64 n4], .agg [.int .i64 n5, .int .i64 n6]] h Q :=
 AC_by (H := hintsOf [3, 4, 5, 6] []) (by kernel_rfl) (by kernel_rfl) hk

/-- slices.Compact: what it asks. -/
def vc97 (q1 : Option SL) (h : Heap) (Q : AV → Heap → Prop) : Prop :=
 vif (decide ((slLen q1 : Int) < 2))
 (Q (.sl q1) h)
 (∃ (I3 : List AV → Heap → Prop) (m4 : List AV → Heap → Nat), I3 [.int .i64 1] h ∧
 ∀ n2 : Int, ∀ h5 : Heap, I3 [.int .i64 n2] h5 →
 vif (decide (n2 < (slLen q1 : Int)))
 (vIdx q1 n2 2 fun p6 =>
 ∃ n7 : Int, ∃ n8 : Int, cellsAt h5 p6 2 = some [.int .i64 n7, .int .i64 n8] ∧
 vIdx q1 (wrapK .i64 (n2 - 1)) 2 fun p9 =>
 ∃ n10 : Int, ∃ n11 : Int, cellsAt h5 p9 2 = some [.int .i64 n10, .int .i64 n11] ∧
 vif ((n7 == n10) && ((n8 == n11) && true))
 (PSlice 2 q1 n2 none none fun q12 =>
 ∃ (I15 : List AV → Heap → Prop) (m16 : List AV → Heap → Nat), I15 [.int .i64 n2, .int .i64 1] h5 ∧
 ∀ n13 : Int, ∀ n14 : Int, ∀ h17 : Heap, I15 [.int .i64 n13, .int .i64 n14] h17 →
 vif (decide (n14 < (slLen q12 : Int)))
 (vIdx q12 n14 2 fun p18 =>
 ∃ n19 : Int, ∃ n20 : Int, cellsAt h17 p18 2 = some [.int .i64 n19, .int .i64 n20] ∧
 vIdx q12 (wrapK .i64 (n14 - 1)) 2 fun p21 =>
 ∃ n22 : Int, ∃ n23 : Int, cellsAt h17 p21 2 = some [.int .i64 n22, .int .i64 n23] ∧
 vif (!((n19 == n22) && ((n20 == n23) && true)))
 (vIdx q12 n14 2 fun p24 =>
 ∃ n25 : Int, ∃ n26 : Int, cellsAt h17 p24 2 = some [.int .i64 n25, .int .i64 n26] ∧
 vIdx q1 n13 2 fun p27 =>
 PStore h17 p27 [.int .i64 n25, .int .i64 n26] fun h28 =>
 (True) ∧ I15 [.int .i64 (wrapK .i64 (n13 + 1)), .int .i64 (wrapK .i64 (n14 + 1))] h28 ∧ m16 [.int .i64 (wrapK .i64 (n13 + 1)), .int .i64 (wrapK .i64 (n14 + 1))] h28 < m16 [.int .i64 n13, .int .i64 n14] h17)
 ((True) ∧ I15 [.int .i64 n13, .int .i64 (wrapK .i64 (n14 + 1))] h17 ∧ m16 [.int .i64 n13, .int .i64 (wrapK .i64 (n14 + 1))] h17 < m16 [.int .i64 n13, .int .i64 n14] h17))
 (PSlice 2 q1 n13 none none fun q29 =>
 PClear [.int .i64 0, .int .i64 0] q29 h17 fun h30 =>
 PSlice 2 q1 0 (some n13) none fun q31 =>
 Q (.sl q31) h30))
 ((True) ∧ I3 [.int .i64 (wrapK .i64 (n2 + 1))] h5 ∧ m4 [.int .i64 (wrapK .i64 (n2 + 1))] h5 < m4 [.int .i64 n2] h5))
 (Q (.sl q1) h5))
theorem ac97 {q1 : Option SL} {h : Heap} {Q : AV → Heap → Prop} (hk : vc97 q1 h Q) : AC Tryz.prog 97 [.sl q1] h Q :=
 AC_by (H := hintsOf [] [(0, [3], []), (2, [3, 5], [])]) (by kernel_rfl) (by kernel_rfl) hk

/-- fn.Map: what it asks. -/
def vc98 (n1 : Int) (n2 : Int) (n3 : Int) (n4 : Int) (h : Heap) (Q : AV → Heap → Prop) : Prop :=
 PNew [.int .i64 n3, .int .i64 n4] true h fun a5 h6 =>
 AC Tryz.prog 120 [.agg [.int .i64 n1, .int .i64 n2], .int .i64 1, .sl (some ⟨a5, 0, 1, 1, 0⟩)] h6 fun v7 h8 => ∃ n9 : Int, v7 = .int .i64 n9 ∧
 vif (n9 != 0)
 (Q (.tup [.agg [.int .i64 0, .int .i64 0], .int .i64 n9]) h8)
 (vif (n1 == 1)
 (AC Tryz.prog 123 [.int .i64 (wrapK .i64 (n4 + n2))] h8 fun v10 h11 => ∃ n12 : Int, v10 = .int .i64 n12 ∧
 Q (.tup [.agg [.int .i64 n3, .int .i64 n12], .int .i64 0]) h11)
 (vif (n1 == 2)
 (AC Tryz.prog 123 [.int .i64 (wrapK .i64 (n4 * n2))] h8 fun v13 h14 => ∃ n15 : Int, v13 = .int .i64 n15 ∧
 Q (.tup [.agg [.int .i64 n3, .int .i64 n15], .int .i64 0]) h14)
 (vif (n1 == 3)
 (AC Tryz.prog 124 [.agg [.int .i64 n3, .int .i64 n4]] h8 fun v16 h17 => ∃ n18 : Int, ∃ n19 : Int, v16 = .agg [.int .i64 n18, .int .i64 n19] ∧
 Q (.tup [.agg [.int .i64 n18, .int .i64 n19], .int .i64 0]) h17)
 (vif (n1 == 4)
 (need (!(n2 == 0))
 (Q (.tup [.agg [.int .i64 (Int.tmod n3 n2), .int .i64 n4], .int .i64 0]) h8))
 (vif (n1 == 5)
 (need (!(n2 == 0))
 (Q (.tup [.agg [.int .i64 n3, .int .i64 (Int.tmod n4 n2)], .int .i64 0]) h8))
 (vif (n1 == 6)
 (need (!(n2 == 0))
 (Q (.tup [.agg [.int .i64 (wrapK .i64 (Int.tdiv n4 n2)), .int .i64 n4], .int .i64 0]) h8))
 (vif (n1 == 7)
 (Q (.tup [.agg [.int .i64 n3, .int .i64 (minI n4 n2)], .int .i64 0]) h8)
 (vif (n1 == 8)
 (Q (.tup [.agg [.int .i64 n3, .int .i64 (maxI2 n4 n2)], .int .i64 0]) h8)
 (Q (.tup [.agg [.int .i64 n3, .int .i64 n4], .int .i64 0]) h8)))))))))
theorem ac98 {n1 : Int} {n2 : Int} {n3 : Int} {n4 : Int} {h : Heap} {Q : AV → Heap → Prop} (hk : vc98 n1 n2 n3 n4 h Q) : AC Tryz.prog 98 [.agg [.int .i64 n1, .int .i64 n2], .agg [.int .i64 n3, .int .i64 n4]] h Q :=
 AC_by (H := hintsOf [2, 3, 4] []) (by kernel_rfl) (by kernel_rfl) hk

/-- fn.Test: what it asks. -/
def vc99 (n1 : Int) (n2 : Int) (n3 : Int) (n4 : Int) (h : Heap) (Q : AV → Heap → Prop) : Prop :=
 PNew [.int .i64 n3, .int .i64 n4] true h fun a5 h6 =>
 AC Tryz.prog 120 [.agg [.int .i64 n1, .int .i64 n2], .int .i64 2, .sl (some ⟨a5, 0, 1, 1, 0⟩)] h6 fun v7 h8 => ∃ n9 : Int, v7 = .int .i64 n9 ∧
 vif (n9 != 0)
 (Q (.tup [.bool false, .int .i64 n9]) h8)
 (vif (n1 == 9)
 (Q (.tup [.bool (decide (n4 < n2)), .int .i64 0]) h8)
 (vif (n1 == 10)
 (Q (.tup [.bool (decide (n4 > n2)), .int .i64 0]) h8)
 (vif (n1 == 11)
 (Q (.tup [.bool (n3 == n2), .int .i64 0]) h8)
 (Q (.tup [.bool ((bitsAnd .i64 n4 1) == 1), .int .i64 0]) h8))))
theorem ac99 {n1 : Int} {n2 : Int} {n3 : Int} {n4 : Int} {h : Heap} {Q : AV → Heap → Prop} (hk : vc99 n1 n2 n3 n4 h Q) : AC Tryz.prog 99 [.agg [.int .i64 n1, .int .i64 n2], .agg [.int .i64 n3, .int .i64 n4]] h Q :=
 AC_by (H := hintsOf [2, 3] []) (by kernel_rfl) (by kernel_rfl) hk

/-- fn.Spread: what it asks. -/
def vc100 (n1 : Int) (n2 : Int) (n3 : Int) (n4 : Int) (h : Heap) (Q : AV → Heap → Prop) : Prop :=
 PNew [.int .i64 n3, .int .i64 n4] true h fun a5 h6 =>
 AC Tryz.prog 120 [.agg [.int .i64 n1, .int .i64 n2], .int .i64 3, .sl (some ⟨a5, 0, 1, 1, 0⟩)] h6 fun v7 h8 => ∃ n9 : Int, v7 = .int .i64 n9 ∧
 vif (n9 != 0)
 (Q (.tup [.sl none, .int .i64 n9]) h8)
 (vif (n1 == 15)
 (AC Tryz.prog 124 [.agg [.int .i64 n3, .int .i64 n4]] h8 fun v10 h11 => ∃ n12 : Int, ∃ n13 : Int, v10 = .agg [.int .i64 n12, .int .i64 n13] ∧
 (LV.val (.agg [.int .i64 n3, .int .i64 n4]) = LV.val (.agg [.int .i64 n3, .int .i64 n4])) ∧
 PNew [.int .i64 n3, .int .i64 n4, .int .i64 n12, .int .i64 n13] true h11 fun a14 h15 =>
 Q (.tup [.sl (some ⟨a14, 0, 2, 2, 0⟩), .int .i64 0]) h15)
 (PNew [.int .i64 n3, .int .i64 n4] true h8 fun a16 h17 =>
 AC Tryz.prog 125 [.sl (some ⟨a16, 0, 1, 1, 0⟩), .int .i64 n2] h17 fun v18 h19 => ∃ q20 : Option SL, v18 = .sl q20 ∧
 vif (n1 == 14)
 (∃ (I22 : List AV → Heap → Prop) (m23 : List AV → Heap → Nat), I22 [.int .i64 0] h19 ∧
 ∀ n21 : Int, ∀ h24 : Heap, I22 [.int .i64 n21] h24 →
 vif (decide (n21 < (slLen q20 : Int)))
 (AC Tryz.prog 123 [.int .i64 (wrapK .i64 (n4 + n21))] h24 fun v25 h26 => ∃ n27 : Int, v25 = .int .i64 n27 ∧
 vIdx q20 n21 2 fun p28 =>
 PStore h26 ⟨p28.b, p28.o + 1⟩ [.int .i64 n27] fun h29 =>
 ((some [.int .i64 n3, .int .i64 n4] : Option (List AV)) = some [.int .i64 n3, .int .i64 n4] ∧ (some [.int .i64 n1, .int .i64 n2] : Option (List AV)) = some [.int .i64 n1, .int .i64 n2] ∧ True) ∧ I22 [.int .i64 (wrapK .i64 (n21 + 1))] h29 ∧ m23 [.int .i64 (wrapK .i64 (n21 + 1))] h29 < m23 [.int .i64 n21] h24)
 (Q (.tup [.sl q20, .int .i64 0]) h24))
 (Q (.tup [.sl q20, .int .i64 0]) h19)))
theorem ac100 {n1 : Int} {n2 : Int} {n3 : Int} {n4 : Int} {h : Heap} {Q : AV → Heap → Prop} (hk : vc100 n1 n2 n3 n4 h Q) : AC Tryz.prog 100 [.agg [.int .i64 n1, .int .i64 n2], .agg [.int .i64 n3, .int .i64 n4]] h Q :=
 AC_by (H := hintsOf [2, 3] [(0, [33], [])]) (by kernel_rfl) (by kernel_rfl) hk

/-- rec.Compare: what it asks. -/
def vc102 (n1 : Int) (n2 : Int) (n3 : Int) (n4 : Int) (h : Heap) (Q : AV → Heap → Prop) : Prop :=
 AC Tryz.prog 128 [.int .i64 n1, .int .i64 n3] h fun v5 h6 => ∃ n7 : Int, v5 = .int .i64 n7 ∧
 (LV.val (.int .i64 n4) = LV.val (.int .i64 n4)) ∧
 (LV.val (.int .i64 n2) = LV.val (.int .i64 n2)) ∧
 AC Tryz.prog 128 [.int .i64 n2, .int .i64 n4] h6 fun v8 h9 => ∃ n10 : Int, v8 = .int .i64 n10 ∧
 PNew [.int .i64 n7, .int .i64 n10] true h9 fun a11 h12 =>
 AC Tryz.prog 127 [.sl (some ⟨a11, 0, 2, 2, 0⟩)] h12 fun v13 h14 => ∃ n15 : Int, v13 = .int .i64 n15 ∧
 Q (.int .i64 n15) h14
theorem ac102 {n1 : Int} {n2 : Int} {n3 : Int} {n4 : Int} {h : Heap} {Q : AV → Heap → Prop} (hk : vc102 n1 n2 n3 n4 h Q) : AC Tryz.prog 102 [.agg [.int .i64 n1, .int .i64 n2], .agg [.int .i64 n3, .int .i64 n4]] h Q :=
 AC_by (H := hintsOf [2, 3] []) (by kernel_rfl) (by kernel_rfl) hk

/-- oxbowref16.mod: what it asks. -/
def vc103 (n1 : Int) (h : Heap) (Q : AV → Heap → Prop) : Prop :=
 Q (.int .i64 (Int.tmod n1 1048576)) h
theorem ac103 {n1 : Int} {h : Heap} {Q : AV → Heap → Prop} (hk : vc103 n1 h Q) : AC Tryz.prog 103 [.int .i64 n1] h Q :=
 AC_by (H := hintsOf [] []) (by kernel_rfl) (by kernel_rfl) hk

/-- oxbowref16.Pair: what it asks. -/
def vc104 (n1 : Int) (n2 : Int) (n3 : Int) (n4 : Int) (n5 : Int) (n6 : Int) (h : Heap) (Q : AV → Heap → Prop) : Prop :=
 vif (n1 == 20)
 (Q (.agg [.int .i64 n3, .int .i64 n4]) h)
 (vif (n1 == 21)
 (Q (.agg [.int .i64 n5, .int .i64 n6]) h)
 (vif (n1 == 22)
 (AC Tryz.prog 103 [.int .i64 (wrapK .i64 (n4 + n6))] h fun v7 h8 => ∃ n9 : Int, v7 = .int .i64 n9 ∧
 (LV.val (.int .i64 n3) = LV.val (.int .i64 n3)) ∧
 Q (.agg [.int .i64 n3, .int .i64 n9]) h8)
 (Q (.agg [.int .i64 n4, .int .i64 n6]) h)))
theorem ac104 {n1 : Int} {n2 : Int} {n3 : Int} {n4 : Int} {n5 : Int} {n6 : Int} {h : Heap} {Q : AV → Heap → Prop} (hk : vc104 n1 n2 n3 n4 n5 n6 h Q) : AC Tryz.prog 104 [.agg [.int .i64 n1, .int .i64 n2], .agg [.int .i64 n3, .int .i64 n4], .agg [.int .i64 n5, .int .i64 n6]] h Q :=
 AC_by (H := hintsOf [3, 4, 5, 6] []) (by kernel_rfl) (by kernel_rfl) hk

/-- oxbowref16.Map: what it asks. -/
def vc105 (n1 : Int) (n2 : Int) (n3 : Int) (n4 : Int) (h : Heap) (Q : AV → Heap → Prop) : Prop :=
 vif (n1 == 1)
 (AC Tryz.prog 103 [.int .i64 (wrapK .i64 (n4 + n2))] h fun v5 h6 => ∃ n7 : Int, v5 = .int .i64 n7 ∧
 Q (.agg [.int .i64 n3, .int .i64 n7]) h6)
 (vif (n1 == 2)
 (AC Tryz.prog 103 [.int .i64 (wrapK .i64 (n4 * n2))] h fun v8 h9 => ∃ n10 : Int, v8 = .int .i64 n10 ∧
 Q (.agg [.int .i64 n3, .int .i64 n10]) h9)
 (vif (n1 == 3)
 (Q (.agg [.int .i64 n4, .int .i64 n3]) h)
 (vif (n1 == 4)
 (need (!(n2 == 0))
 (Q (.agg [.int .i64 (Int.tmod n3 n2), .int .i64 n4]) h))
 (vif (n1 == 5)
 (need (!(n2 == 0))
 (Q (.agg [.int .i64 n3, .int .i64 (Int.tmod n4 n2)]) h))
 (vif (n1 == 6)
 (need (!(n2 == 0))
 (Q (.agg [.int .i64 (wrapK .i64 (Int.tdiv n4 n2)), .int .i64 n4]) h))
 (vif (n1 == 7)
 (vif (decide (n2 < n4))
 (Q (.agg [.int .i64 n3, .int .i64 n2]) h)
 (Q (.agg [.int .i64 n3, .int .i64 n4]) h))
 (vif (n1 == 8)
 (vif (decide (n2 > n4))
 (Q (.agg [.int .i64 n3, .int .i64 n2]) h)
 (Q (.agg [.int .i64 n3, .int .i64 n4]) h))
 (Q (.agg [.int .i64 n3, .int .i64 n4]) h))))))))
theorem ac105 {n1 : Int} {n2 : Int} {n3 : Int} {n4 : Int} {h : Heap} {Q : AV → Heap → Prop} (hk : vc105 n1 n2 n3 n4 h Q) : AC Tryz.prog 105 [.agg [.int .i64 n1, .int .i64 n2], .agg [.int .i64 n3, .int .i64 n4]] h Q :=
 AC_by (H := hintsOf [2, 3, 4] []) (by kernel_rfl) (by kernel_rfl) hk

/-- oxbowref16.Test: what it asks. -/
def vc106 (n1 : Int) (n2 : Int) (n3 : Int) (n4 : Int) (h : Heap) (Q : AV → Heap → Prop) : Prop :=
 vif (n1 == 9)
 (Q (.bool (decide (n4 < n2))) h)
 (vif (n1 == 10)
 (Q (.bool (decide (n4 > n2))) h)
 (vif (n1 == 11)
 (Q (.bool (n3 == n2)) h)
 (Q (.bool ((Int.tmod n4 2) == 1)) h)))
theorem ac106 {n1 : Int} {n2 : Int} {n3 : Int} {n4 : Int} {h : Heap} {Q : AV → Heap → Prop} (hk : vc106 n1 n2 n3 n4 h Q) : AC Tryz.prog 106 [.agg [.int .i64 n1, .int .i64 n2], .agg [.int .i64 n3, .int .i64 n4]] h Q :=
 AC_by (H := hintsOf [2, 3] []) (by kernel_rfl) (by kernel_rfl) hk

/-- oxbowref16.Spread: what it asks. -/
def vc107 (n1 : Int) (n2 : Int) (n3 : Int) (n4 : Int) (h : Heap) (Q : AV → Heap → Prop) : Prop :=
 vif (n1 == 15)
 (PNew [.int .i64 n3, .int .i64 n4, .int .i64 n4, .int .i64 n3] true h fun a5 h6 =>
 Q (.sl (some ⟨a5, 0, 2, 2, 0⟩)) h6)
 (∃ (I9 : List AV → Heap → Prop) (m10 : List AV → Heap → Nat), I9 [.sl none, .int .i64 0] h ∧
 ∀ q7 : Option SL, ∀ n8 : Int, ∀ h11 : Heap, I9 [.sl q7, .int .i64 n8] h11 →
 vif (decide (n8 < n2))
 (vif (n1 == 14)
 (AC Tryz.prog 103 [.int .i64 (wrapK .i64 (n4 + n8))] h11 fun v12 h13 => ∃ n14 : Int, v12 = .int .i64 n14 ∧
 PNew [.int .i64 n3, .int .i64 n14] true h13 fun a15 h16 =>
 PAppendS 2 16 q7 (some ⟨a15, 0, 1, 1, 0⟩) h16 fun q17 h18 =>
 ((some [.int .i64 n3, .int .i64 n4] : Option (List AV)) = some [.int .i64 n3, .int .i64 n4] ∧ (some [.int .i64 n1, .int .i64 n2] : Option (List AV)) = some [.int .i64 n1, .int .i64 n2] ∧ True) ∧ I9 [.sl q17, .int .i64 (wrapK .i64 (n8 + 1))] h18 ∧ m10 [.sl q17, .int .i64 (wrapK .i64 (n8 + 1))] h18 < m10 [.sl q7, .int .i64 n8] h11)
 (PNew [.int .i64 n3, .int .i64 n4] true h11 fun a19 h20 =>
 PAppendS 2 16 q7 (some ⟨a19, 0, 1, 1, 0⟩) h20 fun q21 h22 =>
 ((some [.int .i64 n3, .int .i64 n4] : Option (List AV)) = some [.int .i64 n3, .int .i64 n4] ∧ (some [.int .i64 n1, .int .i64 n2] : Option (List AV)) = some [.int .i64 n1, .int .i64 n2] ∧ True) ∧ I9 [.sl q21, .int .i64 (wrapK .i64 (n8 + 1))] h22 ∧ m10 [.sl q21, .int .i64 (wrapK .i64 (n8 + 1))] h22 < m10 [.sl q7, .int .i64 n8] h11))
 (Q (.sl q7) h11))
theorem ac107 {n1 : Int} {n2 : Int} {n3 : Int} {n4 : Int} {h : Heap} {Q : AV → Heap → Prop} (hk : vc107 n1 n2 n3 n4 h Q) : AC Tryz.prog 107 [.agg [.int .i64 n1, .int .i64 n2], .agg [.int .i64 n3, .int .i64 n4]] h Q :=
 AC_by (H := hintsOf [2, 3, 7] [(0, [5, 6], [])]) (by kernel_rfl) (by kernel_rfl) hk

/-- fn.bounds: what it asks. -/
def vc108 (n1 : Int) (h : Heap) (Q : AV → Heap → Prop) : Prop :=
 vif (n1 == 4)
 (Q (.tup [.int .i64 1, .int .i64 1048575]) h)
 (vif (n1 == 5)
 (Q (.tup [.int .i64 1, .int .i64 1048575]) h)
 (vif (n1 == 6)
 (Q (.tup [.int .i64 1, .int .i64 1048575]) h)
 (vif (n1 == 1)
 (Q (.tup [.int .i64 0, .int .i64 1048575]) h)
 (vif (n1 == 2)
 (Q (.tup [.int .i64 0, .int .i64 1048575]) h)
 (vif (n1 == 7)
 (Q (.tup [.int .i64 0, .int .i64 1048575]) h)
 (vif (n1 == 8)
 (Q (.tup [.int .i64 0, .int .i64 1048575]) h)
 (vif (n1 == 9)
 (Q (.tup [.int .i64 0, .int .i64 1048575]) h)
 (vif (n1 == 10)
 (Q (.tup [.int .i64 0, .int .i64 1048575]) h)
 (vif (n1 == 11)
 (Q (.tup [.int .i64 0, .int .i64 1048575]) h)
 (vif (n1 == 13)
 (Q (.tup [.int .i64 0, .int .i64 8]) h)
 (vif (n1 == 14)
 (Q (.tup [.int .i64 0, .int .i64 8]) h)
 (Q (.tup [.int .i64 0, .int .i64 0]) h))))))))))))
theorem ac108 {n1 : Int} {h : Heap} {Q : AV → Heap → Prop} (hk : vc108 n1 h Q) : AC Tryz.prog 108 [.int .i64 n1] h Q :=
 AC_by (H := hintsOf [] []) (by kernel_rfl) (by kernel_rfl) hk

/-- rec.Same: what it asks. -/
def vc109 (q1 : Option SL) (q2 : Option SL) (h : Heap) (Q : AV → Heap → Prop) : Prop :=
 AC Tryz.prog 74 [.sl q1] h fun v3 h4 => ∃ q5 : Option SL, v3 = .sl q5 ∧
 AC Tryz.prog 74 [.sl q2] h4 fun v6 h7 => ∃ q8 : Option SL, v6 = .sl q8 ∧
 AC Tryz.prog 129 [.sl q5, .sl q8] h7 fun v9 h10 => ∃ b11 : Bool, v9 = .bool b11 ∧
 Q (.bool b11) h10
theorem ac109 {q1 : Option SL} {q2 : Option SL} {h : Heap} {Q : AV → Heap → Prop} (hk : vc109 q1 q2 h Q) : AC Tryz.prog 109 [.sl q1, .sl q2] h Q :=
 AC_by (H := hintsOf [] []) (by kernel_rfl) (by kernel_rfl) hk

/-- eval.maker).ins: what it asks. -/
def vc110 (p1 : Option PA) (n2 : Int) (q3 : Option SL) (n4 : Int) (n5 : Int) (n6 : Int) (q7 : Option SL) (h : Heap) (Q : AV → Heap → Prop) : Prop :=
 ∃ (I10 : List AV → Heap → Prop) (m11 : List AV → Heap → Nat), I10 [.sl none, .int .i64 0] h ∧
 ∀ q8 : Option SL, ∀ n9 : Int, ∀ h12 : Heap, I10 [.sl q8, .int .i64 n9] h12 →
 vif (decide (n9 < (slLen q3 : Int)))
 (vIdx q3 n9 1 fun p13 =>
 ∃ n14 : Int, cellsAt h12 p13 1 = some [.int .i64 n14] ∧
 vPtr p1 fun p15 =>
 ∃ q16 : Option SL, cellsAt h12 ⟨p15.b, p15.o + 0⟩ 1 = some [.sl q16] ∧
 vIdx q16 n14 1 fun p17 =>
 ∃ q18 : Option SL, cellsAt h12 p17 1 = some [.sl q18] ∧
 PNew [.sl q18] true h12 fun a19 h20 =>
 PAppendS 1 24 q8 (some ⟨a19, 0, 1, 1, 0⟩) h20 fun q21 h22 =>
 ((some [.int .i64 n2, .sl q3, .int .i64 n4, .int .i64 n5, .int .i64 n6, .sl q7] : Option (List AV)) = some [.int .i64 n2, .sl q3, .int .i64 n4, .int .i64 n5, .int .i64 n6, .sl q7] ∧ True) ∧ I10 [.sl q21, .int .i64 (wrapK .i64 (n9 + 1))] h22 ∧ m11 [.sl q21, .int .i64 (wrapK .i64 (n9 + 1))] h22 < m11 [.sl q8, .int .i64 n9] h12)
 (Q (.sl q8) h12)
theorem ac110 {p1 : Option PA} {n2 : Int} {q3 : Option SL} {n4 : Int} {n5 : Int} {n6 : Int} {q7 : Option SL} {h : Heap} {Q : AV → Heap → Prop} (hk : vc110 p1 n2 q3 n4 n5 n6 q7 h Q) : AC Tryz.prog 110 [.ptr p1, .agg [.int .i64 n2, .sl q3, .int .i64 n4, .int .i64 n5, .int .i64 n6, .sl q7]] h Q :=
 AC_by (H := hintsOf [3] [(0, [5, 11], [])]) (by kernel_rfl) (by kernel_rfl) hk

/-- graph.node$1: what it asks. -/
def vc111 (n1 : Int) (p2 : PA) (h : Heap) (Q : AV → Heap → Prop) : Prop :=
 vif (decide (n1 ≥ 0))
 (∃ n3 : Int, cellsAt h p2 1 = some [.int .i64 n3] ∧
 Q (.bool (decide (n1 < n3))) h)
 (Q (.bool false) h)
theorem ac111 {n1 : Int} {p2 : PA} {h : Heap} {Q : AV → Heap → Prop} (hk : vc111 n1 p2 h Q) : AC Tryz.prog 111 [.int .i64 n1, .ptr (some p2)] h Q :=
 AC_by (H := hintsOf [] []) (by kernel_rfl) (by kernel_rfl) hk

/-- slices.ContainsFunc: what it asks. -/
def vc112 (q1 : Option SL) (p2 : PA) (h : Heap) (Q : AV → Heap → Prop) : Prop :=
 AC Tryz.prog 130 [.sl q1, .func (.func 113) [] [.ptr (some p2)]] h fun v3 h4 => ∃ n5 : Int, v3 = .int .i64 n5 ∧
 Q (.bool (decide (n5 ≥ 0))) h4
theorem ac112 {q1 : Option SL} {p2 : PA} {h : Heap} {Q : AV → Heap → Prop} (hk : vc112 q1 p2 h Q) : AC Tryz.prog 112 [.sl q1, .func (.func 113) [] [.ptr (some p2)]] h Q :=
 AC_by (H := hintsOf [] []) (by kernel_rfl) (by kernel_rfl) hk

/-- graph.node$2: what it asks. -/
def vc113 (n1 : Int) (p2 : PA) (h : Heap) (Q : AV → Heap → Prop) : Prop :=
 ∃ v3 : AV, v3.one = true ∧ cellsAt h p2 1 = some (AV.cells v3) ∧
 vCallF Tryz.prog (AC Tryz.prog) v3 [.int .i64 n1] h fun v4 h5 => ∃ b6 : Bool, v4 = .bool b6 ∧
 Q (.bool (!b6)) h5
theorem ac113 {n1 : Int} {p2 : PA} {h : Heap} {Q : AV → Heap → Prop} (hk : vc113 n1 p2 h Q) : AC Tryz.prog 113 [.int .i64 n1, .ptr (some p2)] h Q :=
 AC_by (H := hintsOf [] []) (by kernel_rfl) (by kernel_rfl) hk

/-- graph.function: what it asks. -/
def vc114 (n1 : Int) (q2 : Option SL) (n3 : Int) (n4 : Int) (n5 : Int) (q6 : Option SL) (n7 : Int) (h : Heap) (Q : AV → Heap → Prop) : Prop :=
 vif (n7 == 0)
 (Q (.bool ((n3 == 0) && ((n4 == 0) && true))) h)
 (AC Tryz.prog 48 [.agg [.int .i64 n3, .int .i64 n4]] h fun v8 h9 => ∃ n10 : Int, v8 = .int .i64 n10 ∧
 Q (.bool (n10 == n7)) h9)
theorem ac114 {n1 : Int} {q2 : Option SL} {n3 : Int} {n4 : Int} {n5 : Int} {q6 : Option SL} {n7 : Int} {h : Heap} {Q : AV → Heap → Prop} (hk : vc114 n1 q2 n3 n4 n5 q6 n7 h Q) : AC Tryz.prog 114 [.agg [.int .i64 n1, .sl q2, .int .i64 n3, .int .i64 n4, .int .i64 n5, .sl q6], .int .i64 n7] h Q :=
 AC_by (H := hintsOf [2] []) (by kernel_rfl) (by kernel_rfl) hk

/-- graph.number: what it asks. -/
def vc115 (n1 : Int) (q2 : Option SL) (n3 : Int) (n4 : Int) (n5 : Int) (q6 : Option SL) (n7 : Int) (h : Heap) (Q : AV → Heap → Prop) : Prop :=
 vif (n1 == 1)
 (vif (!(n7 != (-1)))
 (vif (decide (n5 ≥ 0))
 (Q (.bool (decide (n5 < 4))) h)
 (Q (.bool false) h))
 (Q (.bool false) h))
 (vif (n1 == 9)
 (vif (!(n7 != (-1)))
 (vif (decide (n5 ≥ 1))
 (Q (.bool (decide (n5 ≤ 64))) h)
 (Q (.bool false) h))
 (Q (.bool false) h))
 (vif (n1 == 10)
 (vif (n7 != (-1))
 (Q (.bool (n5 == 0)) h)
 (Q (.bool false) h))
 (vif (n1 == 11)
 (vif (n7 != (-1))
 (vif (decide (n5 ≥ 0))
 (Q (.bool (decide (n5 < n7))) h)
 (Q (.bool false) h))
 (Q (.bool false) h))
 (Q (.bool (n5 == 0)) h))))
theorem ac115 {n1 : Int} {q2 : Option SL} {n3 : Int} {n4 : Int} {n5 : Int} {q6 : Option SL} {n7 : Int} {h : Heap} {Q : AV → Heap → Prop} (hk : vc115 n1 q2 n3 n4 n5 q6 n7 h Q) : AC Tryz.prog 115 [.agg [.int .i64 n1, .sl q2, .int .i64 n3, .int .i64 n4, .int .i64 n5, .sl q6], .int .i64 n7] h Q :=
 AC_by (H := hintsOf [2] []) (by kernel_rfl) (by kernel_rfl) hk

/-- rec.Groups$1: what it asks. -/
def vc119 (n1 : Int) (n2 : Int) (p3 : PA) (h : Heap) (Q : AV → Heap → Prop) : Prop :=
 ∃ q4 : Option SL, cellsAt h p3 1 = some [.sl q4] ∧
 vIdx q4 0 2 fun p5 =>
 ∃ n6 : Int, cellsAt h ⟨p5.b, p5.o + 0⟩ 1 = some [.int .i64 n6] ∧
 Q (.bool (n1 != n6)) h
theorem ac119 {n1 : Int} {n2 : Int} {p3 : PA} {h : Heap} {Q : AV → Heap → Prop} (hk : vc119 n1 n2 p3 h Q) : AC Tryz.prog 119 [.agg [.int .i64 n1, .int .i64 n2], .ptr (some p3)] h Q :=
 AC_by (H := hintsOf [2] []) (by kernel_rfl) (by kernel_rfl) hk

/-- fn.may: what it asks. -/
def vc120 (n1 : Int) (n2 : Int) (n3 : Int) (q4 : Option SL) (h : Heap) (Q : AV → Heap → Prop) : Prop :=
 AC Tryz.prog 48 [.agg [.int .i64 n1, .int .i64 n2]] h fun v5 h6 => ∃ n7 : Int, v5 = .int .i64 n7 ∧
 vif (n7 != n3)
 (Q (.int .i64 160) h6)
 (∃ (I9 : List AV → Heap → Prop) (m10 : List AV → Heap → Nat), I9 [.int .i64 0] h6 ∧
 ∀ n8 : Int, ∀ h11 : Heap, I9 [.int .i64 n8] h11 →
 vif (decide (n8 < (slLen q4 : Int)))
 (vIdx q4 n8 2 fun p12 =>
 ∃ n13 : Int, ∃ n14 : Int, cellsAt h11 p12 2 = some [.int .i64 n13, .int .i64 n14] ∧
 AC Tryz.prog 61 [.agg [.int .i64 n13, .int .i64 n14]] h11 fun v15 h16 => ∃ n17 : Int, v15 = .int .i64 n17 ∧
 vif (n17 != 0)
 (Q (.int .i64 n17) h16)
 (((some [.int .i64 n1, .int .i64 n2] : Option (List AV)) = some [.int .i64 n1, .int .i64 n2] ∧ True) ∧ I9 [.int .i64 (wrapK .i64 (n8 + 1))] h16 ∧ m10 [.int .i64 (wrapK .i64 (n8 + 1))] h16 < m10 [.int .i64 n8] h11))
 (Q (.int .i64 0) h11))
theorem ac120 {n1 : Int} {n2 : Int} {n3 : Int} {q4 : Option SL} {h : Heap} {Q : AV → Heap → Prop} (hk : vc120 n1 n2 n3 q4 h Q) : AC Tryz.prog 120 [.agg [.int .i64 n1, .int .i64 n2], .int .i64 n3, .sl q4] h Q :=
 AC_by (H := hintsOf [3, 8] [(0, [16], [])]) (by kernel_rfl) (by kernel_rfl) hk

/-- fn.Fold$1: what it asks. -/
def vc121 (n1 : Int) (n2 : Int) (p3 : PA) (h : Heap) (Q : AV → Heap → Prop) : Prop :=
 ∃ q4 : Option SL, cellsAt h p3 1 = some [.sl q4] ∧
 vIdx q4 0 2 fun p5 =>
 ∃ n6 : Int, cellsAt h ⟨p5.b, p5.o + 0⟩ 1 = some [.int .i64 n6] ∧
 Q (.bool (n1 != n6)) h
theorem ac121 {n1 : Int} {n2 : Int} {p3 : PA} {h : Heap} {Q : AV → Heap → Prop} (hk : vc121 n1 n2 p3 h Q) : AC Tryz.prog 121 [.agg [.int .i64 n1, .int .i64 n2], .ptr (some p3)] h Q :=
 AC_by (H := hintsOf [2] []) (by kernel_rfl) (by kernel_rfl) hk

/-- fn.fold: what it asks. -/
def vc122 (n1 : Int) (n2 : Int) (n3 : Int) (n4 : Int) (h : Heap) (Q : AV → Heap → Prop) : Prop :=
 vif (n1 == 17)
 (Q (.int .i64 (minI n3 n4)) h)
 (vif (n1 == 18)
 (Q (.int .i64 (maxI2 n3 n4)) h)
 (AC Tryz.prog 123 [.int .i64 (wrapK .i64 (n3 + n4))] h fun v5 h6 => ∃ n7 : Int, v5 = .int .i64 n7 ∧
 Q (.int .i64 n7) h6))
theorem ac122 {n1 : Int} {n2 : Int} {n3 : Int} {n4 : Int} {h : Heap} {Q : AV → Heap → Prop} (hk : vc122 n1 n2 n3 n4 h Q) : AC Tryz.prog 122 [.agg [.int .i64 n1, .int .i64 n2], .int .i64 n3, .int .i64 n4] h Q :=
 AC_by (H := hintsOf [3] []) (by kernel_rfl) (by kernel_rfl) hk

/-- fn.wrap: what it asks. -/
def vc123 (n1 : Int) (h : Heap) (Q : AV → Heap → Prop) : Prop :=
 Q (.int .i64 (bitsAnd .i64 n1 1048575)) h
theorem ac123 {n1 : Int} {h : Heap} {Q : AV → Heap → Prop} (hk : vc123 n1 h Q) : AC Tryz.prog 123 [.int .i64 n1] h Q :=
 AC_by (H := hintsOf [] []) (by kernel_rfl) (by kernel_rfl) hk

/-- fn.swap: what it asks. -/
def vc124 (n1 : Int) (n2 : Int) (h : Heap) (Q : AV → Heap → Prop) : Prop :=
 Q (.agg [.int .i64 n2, .int .i64 n1]) h
theorem ac124 {n1 : Int} {n2 : Int} {h : Heap} {Q : AV → Heap → Prop} (hk : vc124 n1 n2 h Q) : AC Tryz.prog 124 [.agg [.int .i64 n1, .int .i64 n2]] h Q :=
 AC_by (H := hintsOf [1, 2] []) (by kernel_rfl) (by kernel_rfl) hk

/-- slices.Repeat: what it asks. -/
def vc125 (q1 : Option SL) (n2 : Int) (h : Heap) (Q : AV → Heap → Prop) : Prop :=
 vif (decide (n2 < 0))
 (False)
 (AC Tryz.prog 142 [.int .u64 (wrapK .u64 (slLen q1 : Int)), .int .u64 (wrapK .u64 n2)] h fun v3 h4 => ∃ n5 : Int, ∃ n6 : Int, v3 = .tup [.int .u64 n5, .int .u64 n6] ∧
 vif (decide (n5 > 0))
 (False)
 (vif (decide (n6 > 9223372036854775807))
 (False)
 (PMake [.int .i64 0, .int .i64 0] 16 (wrapK .i64 n6) (wrapK .i64 n6) h4 fun q7 h8 =>
 PCopyS 2 q7 q1 h8 fun n9 h10 =>
 ∃ (I12 : List AV → Heap → Prop) (m13 : List AV → Heap → Nat), I12 [.int .i64 n9] h10 ∧
 ∀ n11 : Int, ∀ h14 : Heap, I12 [.int .i64 n11] h14 →
 vif (decide (n11 < (slLen q7 : Int)))
 (PSlice 2 q7 n11 none none fun q15 =>
 PSlice 2 q7 0 (some n11) none fun q16 =>
 PCopyS 2 q15 q16 h14 fun n17 h18 =>
 (True) ∧ I12 [.int .i64 (wrapK .i64 (n11 + n17))] h18 ∧ m13 [.int .i64 (wrapK .i64 (n11 + n17))] h18 < m13 [.int .i64 n11] h14)
 (Q (.sl q7) h14))))
theorem ac125 {q1 : Option SL} {n2 : Int} {h : Heap} {Q : AV → Heap → Prop} (hk : vc125 q1 n2 h Q) : AC Tryz.prog 125 [.sl q1, .int .i64 n2] h Q :=
 AC_by (H := hintsOf [] [(0, [8], [])]) (by kernel_rfl) (by kernel_rfl) hk

/-- cmp.Or: what it asks. -/
def vc127 (q1 : Option SL) (h : Heap) (Q : AV → Heap → Prop) : Prop :=
 ∃ (I3 : List AV → Heap → Prop) (m4 : List AV → Heap → Nat), I3 [.int .i64 0] h ∧
 ∀ n2 : Int, ∀ h5 : Heap, I3 [.int .i64 n2] h5 →
 vif (decide (n2 < (slLen q1 : Int)))
 (vIdx q1 n2 1 fun p6 =>
 ∃ n7 : Int, cellsAt h5 p6 1 = some [.int .i64 n7] ∧
 vif (n7 != 0)
 (Q (.int .i64 n7) h5)
 ((True) ∧ I3 [.int .i64 (wrapK .i64 (n2 + 1))] h5 ∧ m4 [.int .i64 (wrapK .i64 (n2 + 1))] h5 < m4 [.int .i64 n2] h5))
 (Q (.int .i64 0) h5)
theorem ac127 {q1 : Option SL} {h : Heap} {Q : AV → Heap → Prop} (hk : vc127 q1 h Q) : AC Tryz.prog 127 [.sl q1] h Q :=
 AC_by (H := hintsOf [] [(0, [8], [])]) (by kernel_rfl) (by kernel_rfl) hk

/-- cmp.Compare: what it asks. -/
def vc128 (n1 : Int) (n2 : Int) (h : Heap) (Q : AV → Heap → Prop) : Prop :=
 AC Tryz.prog 151 [.int .i64 n1] h fun v3 h4 => ∃ b5 : Bool, v3 = .bool b5 ∧
 AC Tryz.prog 151 [.int .i64 n2] h4 fun v6 h7 => ∃ b8 : Bool, v6 = .bool b8 ∧
 vif b5
 (vif b8
 (Q (.int .i64 0) h7)
 (Q (.int .i64 (-1)) h7))
 (vif b8
 (Q (.int .i64 1) h7)
 (vif (decide (n1 < n2))
 (Q (.int .i64 (-1)) h7)
 (vif (decide (n1 > n2))
 (Q (.int .i64 1) h7)
 (Q (.int .i64 0) h7))))
theorem ac128 {n1 : Int} {n2 : Int} {h : Heap} {Q : AV → Heap → Prop} (hk : vc128 n1 n2 h Q) : AC Tryz.prog 128 [.int .i64 n1, .int .i64 n2] h Q :=
 AC_by (H := hintsOf [] []) (by kernel_rfl) (by kernel_rfl) hk

/-- slices.Equal: what it asks. -/
def vc129 (q1 : Option SL) (q2 : Option SL) (h : Heap) (Q : AV → Heap → Prop) : Prop :=
 vif ((slLen q1 : Int) != (slLen q2 : Int))
 (Q (.bool false) h)
 (∃ (I4 : List AV → Heap → Prop) (m5 : List AV → Heap → Nat), I4 [.int .i64 0] h ∧
 ∀ n3 : Int, ∀ h6 : Heap, I4 [.int .i64 n3] h6 →
 vif (decide (n3 < (slLen q1 : Int)))
 (vIdx q1 n3 2 fun p7 =>
 ∃ n8 : Int, ∃ n9 : Int, cellsAt h6 p7 2 = some [.int .i64 n8, .int .i64 n9] ∧
 vIdx q2 n3 2 fun p10 =>
 ∃ n11 : Int, ∃ n12 : Int, cellsAt h6 p10 2 = some [.int .i64 n11, .int .i64 n12] ∧
 vif (!((n8 == n11) && ((n9 == n12) && true)))
 (Q (.bool false) h6)
 ((True) ∧ I4 [.int .i64 (wrapK .i64 (n3 + 1))] h6 ∧ m5 [.int .i64 (wrapK .i64 (n3 + 1))] h6 < m5 [.int .i64 n3] h6))
 (Q (.bool true) h6))
theorem ac129 {q1 : Option SL} {q2 : Option SL} {h : Heap} {Q : AV → Heap → Prop} (hk : vc129 q1 q2 h Q) : AC Tryz.prog 129 [.sl q1, .sl q2] h Q :=
 AC_by (H := hintsOf [] [(0, [13], [])]) (by kernel_rfl) (by kernel_rfl) hk

/-- slices.IndexFunc: what it asks. -/
def vc130 (q1 : Option SL) (p2 : PA) (h : Heap) (Q : AV → Heap → Prop) : Prop :=
 ∃ (I4 : List AV → Heap → Prop) (m5 : List AV → Heap → Nat), I4 [.int .i64 0] h ∧
 ∀ n3 : Int, ∀ h6 : Heap, I4 [.int .i64 n3] h6 →
 vif (decide (n3 < (slLen q1 : Int)))
 (vIdx q1 n3 1 fun p7 =>
 ∃ n8 : Int, cellsAt h6 p7 1 = some [.int .i64 n8] ∧
 AC Tryz.prog 113 [.int .i64 n8, .ptr (some p2)] h6 fun v9 h10 => ∃ b11 : Bool, v9 = .bool b11 ∧
 vif b11
 (Q (.int .i64 n3) h10)
 ((True) ∧ I4 [.int .i64 (wrapK .i64 (n3 + 1))] h10 ∧ m5 [.int .i64 (wrapK .i64 (n3 + 1))] h10 < m5 [.int .i64 n3] h6))
 (Q (.int .i64 (-1)) h6)
theorem ac130 {q1 : Option SL} {p2 : PA} {h : Heap} {Q : AV → Heap → Prop} (hk : vc130 q1 p2 h Q) : AC Tryz.prog 130 [.sl q1, .func (.func 113) [] [.ptr (some p2)]] h Q :=
 AC_by (H := hintsOf [] [(0, [8], [])]) (by kernel_rfl) (by kernel_rfl) hk

/-- bits.Mul: what it asks. -/
def vc142 (n1 : Int) (n2 : Int) (h : Heap) (Q : AV → Heap → Prop) : Prop :=
 AC Tryz.prog 158 [.int .u64 n1, .int .u64 n2] h fun v3 h4 => ∃ n5 : Int, ∃ n6 : Int, v3 = .tup [.int .u64 n5, .int .u64 n6] ∧
 Q (.tup [.int .u64 n5, .int .u64 n6]) h4
theorem ac142 {n1 : Int} {n2 : Int} {h : Heap} {Q : AV → Heap → Prop} (hk : vc142 n1 n2 h Q) : AC Tryz.prog 142 [.int .u64 n1, .int .u64 n2] h Q :=
 AC_by (H := hintsOf [] []) (by kernel_rfl) (by kernel_rfl) hk

/-- cmp.isNaN: what it asks. -/
def vc151 (n1 : Int) (h : Heap) (Q : AV → Heap → Prop) : Prop :=
 Q (.bool (n1 != n1)) h
theorem ac151 {n1 : Int} {h : Heap} {Q : AV → Heap → Prop} (hk : vc151 n1 h Q) : AC Tryz.prog 151 [.int .i64 n1] h Q :=
 AC_by (H := hintsOf [] []) (by kernel_rfl) (by kernel_rfl) hk

/-- bits.Mul32: what it asks. -/
def vc157 (n1 : Int) (n2 : Int) (h : Heap) (Q : AV → Heap → Prop) : Prop :=
 Q (.tup [.int .u32 (wrapK .u32 (shrK .u64 (wrapK .u64 ((wrapK .u64 n1) * (wrapK .u64 n2))) 32)), .int .u32 (wrapK .u32 (wrapK .u64 ((wrapK .u64 n1) * (wrapK .u64 n2))))]) h
theorem ac157 {n1 : Int} {n2 : Int} {h : Heap} {Q : AV → Heap → Prop} (hk : vc157 n1 n2 h Q) : AC Tryz.prog 157 [.int .u32 n1, .int .u32 n2] h Q :=
 AC_by (H := hintsOf [] []) (by kernel_rfl) (by kernel_rfl) hk

/-- bits.Mul64: what it asks. -/
def vc158 (n1 : Int) (n2 : Int) (h : Heap) (Q : AV → Heap → Prop) : Prop :=
 Q (.tup [.int .u64 (wrapK .u64 ((wrapK .u64 ((wrapK .u64 ((shrK .u64 n1 32) * (shrK .u64 n2 32))) + (shrK .u64 (wrapK .u64 ((wrapK .u64 ((shrK .u64 n1 32) * (bitsAnd .u64 n2 4294967295))) + (shrK .u64 (wrapK .u64 ((bitsAnd .u64 n1 4294967295) * (bitsAnd .u64 n2 4294967295))) 32))) 32))) + (shrK .u64 (wrapK .u64 ((bitsAnd .u64 (wrapK .u64 ((wrapK .u64 ((shrK .u64 n1 32) * (bitsAnd .u64 n2 4294967295))) + (shrK .u64 (wrapK .u64 ((bitsAnd .u64 n1 4294967295) * (bitsAnd .u64 n2 4294967295))) 32))) 4294967295) + (wrapK .u64 ((bitsAnd .u64 n1 4294967295) * (shrK .u64 n2 32))))) 32))), .int .u64 (wrapK .u64 (n1 * n2))]) h
theorem ac158 {n1 : Int} {n2 : Int} {h : Heap} {Q : AV → Heap → Prop} (hk : vc158 n1 n2 h Q) : AC Tryz.prog 158 [.int .u64 n1, .int .u64 n2] h Q :=
 AC_by (H := hintsOf [] []) (by kernel_rfl) (by kernel_rfl) hk

end Go.Proofs
