/- Conditions, printed. -/
import Derived.Test.YtfafgnmlnhklaaaBG7
import Derived.Test.YtfafgnmlnhklaaaProg
import Derived.KernelRfl
namespace Go.Proofs
open Go.Ab
set_option maxRecDepth 100000
set_option linter.unusedVariables false

/-- oxbowlaw18.OperParts: what it asks. -/
def vc4 (q1 : Option SL) (n2 : Int) (h : Heap) (Q : AV → Heap → Prop) : Prop :=
 vif (decide ((slLen q1 : Int) > 3000))
 (AC Try.prog 14 [] h fun v3 h4 => ∃ b5 : Bool, v3 = .bool b5 ∧
 Q (.bool b5) h4)
 (AC Try.prog 15 [.sl q1] h fun v6 h7 => ∃ q8 : Option SL, v6 = .sl q8 ∧
 PNew [.int .i64 n2] true h7 fun a9 h10 =>
 AC Try.prog 16 [.sl q1, .func (.func 17) [.ptr (some ⟨a9, 0⟩)] []] h10 fun v11 h12 => ∃ q13 : Option SL, v11 = .sl q13 ∧
 ∃ (I16 : List AV → Heap → Prop) (m17 : List AV → Heap → Nat), I16 [.sl none, .int .i64 0] h12 ∧
 ∀ q14 : Option SL, ∀ n15 : Int, ∀ h18 : Heap, I16 [.sl q14, .int .i64 n15] h18 →
 vif (decide (n15 < (slLen q1 : Int)))
 (vIdx q1 n15 2 fun p19 =>
 ∃ n20 : Int, cellsAt h18 ⟨p19.b, p19.o + 0⟩ 1 = some [.int .i64 n20] ∧
 vif (decide (n20 < n2))
 (vIdx q1 n15 2 fun p21 =>
 ∃ n22 : Int, ∃ n23 : Int, cellsAt h18 p21 2 = some [.int .i64 n22, .int .i64 n23] ∧
 PNew [.int .i64 n22, .int .i64 n23] true h18 fun a24 h25 =>
 PAppendS 2 16 q14 (some ⟨a24, 0, 1, 1, 0⟩) h25 fun q26 h27 =>
 (True) ∧ I16 [.sl q26, .int .i64 (wrapK .i64 (n15 + 1))] h27 ∧ m17 [.sl q26, .int .i64 (wrapK .i64 (n15 + 1))] h27 < m17 [.sl q14, .int .i64 n15] h18)
 ((True) ∧ I16 [.sl q14, .int .i64 (wrapK .i64 (n15 + 1))] h18 ∧ m17 [.sl q14, .int .i64 (wrapK .i64 (n15 + 1))] h18 < m17 [.sl q14, .int .i64 n15] h18))
 (AC Try.prog 14 [] h18 fun v28 h29 => ∃ b30 : Bool, v28 = .bool b30 ∧
 vif (!b30)
 (Q (.bool false) h29)
 (AC Try.prog 13 [.sl q13, .sl q14] h29 fun v31 h32 => ∃ b33 : Bool, v31 = .bool b33 ∧
 vif (!b33)
 (Q (.bool false) h32)
 (∃ (I35 : List AV → Heap → Prop) (m36 : List AV → Heap → Nat), I35 [.int .i64 1] h32 ∧
 ∀ n34 : Int, ∀ h37 : Heap, I35 [.int .i64 n34] h37 →
 vif (decide (n34 < (slLen q8 : Int)))
 (vIdx q8 (wrapK .i64 (n34 - 1)) 1 fun p38 =>
 ∃ n39 : Int, cellsAt h37 p38 1 = some [.int .i64 n39] ∧
 vIdx q8 n34 1 fun p40 =>
 ∃ n41 : Int, cellsAt h37 p40 1 = some [.int .i64 n41] ∧
 vif (decide (n39 ≥ n41))
 (Q (.bool false) h37)
 ((True) ∧ I35 [.int .i64 (wrapK .i64 (n34 + 1))] h37 ∧ m36 [.int .i64 (wrapK .i64 (n34 + 1))] h37 < m36 [.int .i64 n34] h37))
 (∃ (I43 : List AV → Heap → Prop) (m44 : List AV → Heap → Nat), I43 [.int .i64 0] h37 ∧
 ∀ n42 : Int, ∀ h45 : Heap, I43 [.int .i64 n42] h45 →
 vif (decide (n42 < (slLen q1 : Int)))
 (vIdx q1 n42 2 fun p46 =>
 ∃ n47 : Int, cellsAt h45 ⟨p46.b, p46.o + 0⟩ 1 = some [.int .i64 n47] ∧
 AC Try.prog 18 [.sl q8, .int .i64 n47] h45 fun v48 h49 => ∃ b50 : Bool, v48 = .bool b50 ∧
 vif (!b50)
 (Q (.bool false) h49)
 ((True) ∧ I43 [.int .i64 (wrapK .i64 (n42 + 1))] h49 ∧ m44 [.int .i64 (wrapK .i64 (n42 + 1))] h49 < m44 [.int .i64 n42] h45))
 (∃ (I52 : List AV → Heap → Prop) (m53 : List AV → Heap → Nat), I52 [.int .i64 0] h45 ∧
 ∀ n51 : Int, ∀ h54 : Heap, I52 [.int .i64 n51] h54 →
 vif (decide (n51 < (slLen q8 : Int)))
 (vIdx q8 n51 1 fun p55 =>
 ∃ n56 : Int, cellsAt h54 p55 1 = some [.int .i64 n56] ∧
 AC Try.prog 19 [.sl q1, .int .i64 n56] h54 fun v57 h58 => ∃ b59 : Bool, v57 = .bool b59 ∧
 vif (!b59)
 (Q (.bool false) h58)
 ((True) ∧ I52 [.int .i64 (wrapK .i64 (n51 + 1))] h58 ∧ m53 [.int .i64 (wrapK .i64 (n51 + 1))] h58 < m53 [.int .i64 n51] h54))
 (Q (.bool true) h54)))))))
theorem ac4 {q1 : Option SL} {n2 : Int} {h : Heap} {Q : AV → Heap → Prop} (hk : vc4 q1 n2 h Q) : AC Try.prog 4 [.sl q1, .int .i64 n2] h Q :=
 AC_by (H := hintsOf [] [(0, [8, 9], []), (2, [10], []), (4, [11], []), (6, [12], [])]) (by kernel_rfl) (by kernel_rfl) hk

/-- oxbowlaw18.OperShards: what it asks. -/
def vc5 (n1 : Int) (q2 : Option SL) (n3 : Int) (n4 : Int) (n5 : Int) (q6 : Option SL) (q7 : Option SL) (n8 : Int) (h : Heap) (Q : AV → Heap → Prop) : Prop :=
 AC Try.prog 20 [.sl q7] h fun v9 h10 => ∃ b11 : Bool, v9 = .bool b11 ∧
 vif b11
 (AC Try.prog 14 [] h10 fun v12 h13 => ∃ b14 : Bool, v12 = .bool b14 ∧
 Q (.bool b14) h13)
 (vif (decide (n8 < 1))
 (AC Try.prog 14 [] h10 fun v15 h16 => ∃ b17 : Bool, v15 = .bool b17 ∧
 Q (.bool b17) h16)
 (vif (decide (n8 > 9))
 (AC Try.prog 14 [] h10 fun v18 h19 => ∃ b20 : Bool, v18 = .bool b20 ∧
 Q (.bool b20) h19)
 (AC Try.prog 21 [.agg [.int .i64 n1, .sl q2, .int .i64 n3, .int .i64 n4, .int .i64 n5, .sl q6], .sl q7] h10 fun v21 h22 => ∃ q23 : Option SL, ∃ n24 : Int, v21 = .tup [.sl q23, .int .i64 n24] ∧
 AC Try.prog 14 [] h22 fun v25 h26 => ∃ b27 : Bool, v25 = .bool b27 ∧
 vif (!b27)
 (AC Try.prog 14 [] h26 fun v28 h29 => ∃ b30 : Bool, v28 = .bool b30 ∧
 Q (.bool b30) h29)
 (vif (n24 != 0)
 (AC Try.prog 14 [] h26 fun v31 h32 => ∃ b33 : Bool, v31 = .bool b33 ∧
 Q (.bool b33) h32)
 (∃ (I36 : List AV → Heap → Prop) (m37 : List AV → Heap → Nat), I36 [.sl none, .int .i64 0] h26 ∧
 ∀ q34 : Option SL, ∀ n35 : Int, ∀ h38 : Heap, I36 [.sl q34, .int .i64 n35] h38 →
 vif (decide (n35 < n8))
 (PNew [.int .i64 n8, .int .i64 n35] true h38 fun a39 h40 =>
 ∃ (I43 : List AV → Heap → Prop) (m44 : List AV → Heap → Nat), I43 [.sl none, .int .i64 0] h40 ∧
 ∀ q41 : Option SL, ∀ n42 : Int, ∀ h45 : Heap, I43 [.sl q41, .int .i64 n42] h45 →
 vif (decide (n42 < (slLen q7 : Int)))
 (vIdx q7 n42 1 fun p46 =>
 ∃ q47 : Option SL, cellsAt h45 p46 1 = some [.sl q47] ∧
 AC Try.prog 16 [.sl q47, .func (.func 22) [.ptr (some ⟨a39, 0⟩)] []] h45 fun v48 h49 => ∃ q50 : Option SL, v48 = .sl q50 ∧
 PNew [.sl q50] true h49 fun a51 h52 =>
 PAppendS 1 24 q41 (some ⟨a51, 0, 1, 1, 0⟩) h52 fun q53 h54 =>
 ((some [.int .i64 n1, .sl q2, .int .i64 n3, .int .i64 n4, .int .i64 n5, .sl q6] : Option (List AV)) = some [.int .i64 n1, .sl q2, .int .i64 n3, .int .i64 n4, .int .i64 n5, .sl q6] ∧ True) ∧ I43 [.sl q53, .int .i64 (wrapK .i64 (n42 + 1))] h54 ∧ m44 [.sl q53, .int .i64 (wrapK .i64 (n42 + 1))] h54 < m44 [.sl q41, .int .i64 n42] h45)
 (AC Try.prog 21 [.agg [.int .i64 n1, .sl q2, .int .i64 n3, .int .i64 n4, .int .i64 n5, .sl q6], .sl q41] h45 fun v55 h56 => ∃ q57 : Option SL, ∃ n58 : Int, v55 = .tup [.sl q57, .int .i64 n58] ∧
 vif (n58 != 0)
 (Q (.bool false) h56)
 (PAppendS 2 16 q34 q57 h56 fun q59 h60 =>
 ((some [.int .i64 n1, .sl q2, .int .i64 n3, .int .i64 n4, .int .i64 n5, .sl q6] : Option (List AV)) = some [.int .i64 n1, .sl q2, .int .i64 n3, .int .i64 n4, .int .i64 n5, .sl q6] ∧ True) ∧ I36 [.sl q59, .int .i64 (wrapK .i64 (n35 + 1))] h60 ∧ m37 [.sl q59, .int .i64 (wrapK .i64 (n35 + 1))] h60 < m37 [.sl q34, .int .i64 n35] h38)))
 (AC Try.prog 23 [.sl q34, .sl q23] h38 fun v61 h62 => ∃ b63 : Bool, v61 = .bool b63 ∧
 Q (.bool b63) h62))))))
theorem ac5 {n1 : Int} {q2 : Option SL} {n3 : Int} {n4 : Int} {n5 : Int} {q6 : Option SL} {q7 : Option SL} {n8 : Int} {h : Heap} {Q : AV → Heap → Prop} (hk : vc5 n1 q2 n3 n4 n5 q6 q7 n8 h Q) : AC Try.prog 5 [.agg [.int .i64 n1, .sl q2, .int .i64 n3, .int .i64 n4, .int .i64 n5, .sl q6], .sl q7, .int .i64 n8] h Q :=
 AC_by (H := hintsOf [3] [(0, [9, 10], []), (2, [12, 13], [])]) (by kernel_rfl) (by kernel_rfl) hk

/-- oxbowlaw18.OperCuts: what it asks. -/
def vc6 (n1 : Int) (q2 : Option SL) (n3 : Int) (n4 : Int) (n5 : Int) (q6 : Option SL) (q7 : Option SL) (q8 : Option SL) (h : Heap) (Q : AV → Heap → Prop) : Prop :=
 AC Try.prog 20 [.sl q7] h fun v9 h10 => ∃ b11 : Bool, v9 = .bool b11 ∧
 vif b11
 (AC Try.prog 14 [] h10 fun v12 h13 => ∃ b14 : Bool, v12 = .bool b14 ∧
 Q (.bool b14) h13)
 (vif (n1 == 5)
 (AC Try.prog 14 [] h10 fun v15 h16 => ∃ b17 : Bool, v15 = .bool b17 ∧
 Q (.bool b17) h16)
 (vif (n1 == 6)
 (AC Try.prog 14 [] h10 fun v18 h19 => ∃ b20 : Bool, v18 = .bool b20 ∧
 Q (.bool b20) h19)
 (vif (n1 == 7)
 (AC Try.prog 14 [] h10 fun v21 h22 => ∃ b23 : Bool, v21 = .bool b23 ∧
 Q (.bool b23) h22)
 (AC Try.prog 21 [.agg [.int .i64 n1, .sl q2, .int .i64 n3, .int .i64 n4, .int .i64 n5, .sl q6], .sl q7] h10 fun v24 h25 => ∃ q26 : Option SL, ∃ n27 : Int, v24 = .tup [.sl q26, .int .i64 n27] ∧
 AC Try.prog 14 [] h25 fun v28 h29 => ∃ b30 : Bool, v28 = .bool b30 ∧
 vif (!b30)
 (AC Try.prog 14 [] h29 fun v31 h32 => ∃ b33 : Bool, v31 = .bool b33 ∧
 Q (.bool b33) h32)
 (vif (n27 != 0)
 (AC Try.prog 14 [] h29 fun v34 h35 => ∃ b36 : Bool, v34 = .bool b36 ∧
 Q (.bool b36) h35)
 (∃ (I40 : List AV → Heap → Prop) (m41 : List AV → Heap → Nat), I40 [.sl none, .sl none, .int .i64 0] h29 ∧
 ∀ q37 : Option SL, ∀ q38 : Option SL, ∀ n39 : Int, ∀ h42 : Heap, I40 [.sl q37, .sl q38, .int .i64 n39] h42 →
 vif (decide (n39 < (slLen q7 : Int)))
 (vif (decide (n39 < (slLen q8 : Int)))
 (vIdx q8 n39 1 fun p43 =>
 ∃ n44 : Int, cellsAt h42 p43 1 = some [.int .i64 n44] ∧
 vif (decide (n44 ≥ 0))
 (vIdx q8 n39 1 fun p45 =>
 ∃ n46 : Int, cellsAt h42 p45 1 = some [.int .i64 n46] ∧
 vIdx q7 n39 1 fun p47 =>
 ∃ q48 : Option SL, cellsAt h42 p47 1 = some [.sl q48] ∧
 vif (decide (n46 ≤ (slLen q48 : Int)))
 (vIdx q8 n39 1 fun p49 =>
 ∃ n50 : Int, cellsAt h42 p49 1 = some [.int .i64 n50] ∧
 vIdx q7 n39 1 fun p51 =>
 ∃ q52 : Option SL, cellsAt h42 p51 1 = some [.sl q52] ∧
 PSlice 2 q52 0 (some n50) none fun q53 =>
 PNew [.sl q53] true h42 fun a54 h55 =>
 PAppendS 1 24 q37 (some ⟨a54, 0, 1, 1, 0⟩) h55 fun q56 h57 =>
 vIdx q7 n39 1 fun p58 =>
 ∃ q59 : Option SL, cellsAt h57 p58 1 = some [.sl q59] ∧
 PSlice 2 q59 n50 none none fun q60 =>
 PNew [.sl q60] true h57 fun a61 h62 =>
 PAppendS 1 24 q38 (some ⟨a61, 0, 1, 1, 0⟩) h62 fun q63 h64 =>
 ((some [.int .i64 n1, .sl q2, .int .i64 n3, .int .i64 n4, .int .i64 n5, .sl q6] : Option (List AV)) = some [.int .i64 n1, .sl q2, .int .i64 n3, .int .i64 n4, .int .i64 n5, .sl q6] ∧ True) ∧ I40 [.sl q56, .sl q63, .int .i64 (wrapK .i64 (n39 + 1))] h64 ∧ m41 [.sl q56, .sl q63, .int .i64 (wrapK .i64 (n39 + 1))] h64 < m41 [.sl q37, .sl q38, .int .i64 n39] h42)
 (vIdx q7 n39 1 fun p65 =>
 ∃ q66 : Option SL, cellsAt h42 p65 1 = some [.sl q66] ∧
 PSlice 2 q66 0 (some 0) none fun q67 =>
 PNew [.sl q67] true h42 fun a68 h69 =>
 PAppendS 1 24 q37 (some ⟨a68, 0, 1, 1, 0⟩) h69 fun q70 h71 =>
 vIdx q7 n39 1 fun p72 =>
 ∃ q73 : Option SL, cellsAt h71 p72 1 = some [.sl q73] ∧
 PSlice 2 q73 0 none none fun q74 =>
 PNew [.sl q74] true h71 fun a75 h76 =>
 PAppendS 1 24 q38 (some ⟨a75, 0, 1, 1, 0⟩) h76 fun q77 h78 =>
 ((some [.int .i64 n1, .sl q2, .int .i64 n3, .int .i64 n4, .int .i64 n5, .sl q6] : Option (List AV)) = some [.int .i64 n1, .sl q2, .int .i64 n3, .int .i64 n4, .int .i64 n5, .sl q6] ∧ True) ∧ I40 [.sl q70, .sl q77, .int .i64 (wrapK .i64 (n39 + 1))] h78 ∧ m41 [.sl q70, .sl q77, .int .i64 (wrapK .i64 (n39 + 1))] h78 < m41 [.sl q37, .sl q38, .int .i64 n39] h42))
 (vIdx q7 n39 1 fun p79 =>
 ∃ q80 : Option SL, cellsAt h42 p79 1 = some [.sl q80] ∧
 PSlice 2 q80 0 (some 0) none fun q81 =>
 PNew [.sl q81] true h42 fun a82 h83 =>
 PAppendS 1 24 q37 (some ⟨a82, 0, 1, 1, 0⟩) h83 fun q84 h85 =>
 vIdx q7 n39 1 fun p86 =>
 ∃ q87 : Option SL, cellsAt h85 p86 1 = some [.sl q87] ∧
 PSlice 2 q87 0 none none fun q88 =>
 PNew [.sl q88] true h85 fun a89 h90 =>
 PAppendS 1 24 q38 (some ⟨a89, 0, 1, 1, 0⟩) h90 fun q91 h92 =>
 ((some [.int .i64 n1, .sl q2, .int .i64 n3, .int .i64 n4, .int .i64 n5, .sl q6] : Option (List AV)) = some [.int .i64 n1, .sl q2, .int .i64 n3, .int .i64 n4, .int .i64 n5, .sl q6] ∧ True) ∧ I40 [.sl q84, .sl q91, .int .i64 (wrapK .i64 (n39 + 1))] h92 ∧ m41 [.sl q84, .sl q91, .int .i64 (wrapK .i64 (n39 + 1))] h92 < m41 [.sl q37, .sl q38, .int .i64 n39] h42))
 (vIdx q7 n39 1 fun p93 =>
 ∃ q94 : Option SL, cellsAt h42 p93 1 = some [.sl q94] ∧
 PSlice 2 q94 0 (some 0) none fun q95 =>
 PNew [.sl q95] true h42 fun a96 h97 =>
 PAppendS 1 24 q37 (some ⟨a96, 0, 1, 1, 0⟩) h97 fun q98 h99 =>
 vIdx q7 n39 1 fun p100 =>
 ∃ q101 : Option SL, cellsAt h99 p100 1 = some [.sl q101] ∧
 PSlice 2 q101 0 none none fun q102 =>
 PNew [.sl q102] true h99 fun a103 h104 =>
 PAppendS 1 24 q38 (some ⟨a103, 0, 1, 1, 0⟩) h104 fun q105 h106 =>
 ((some [.int .i64 n1, .sl q2, .int .i64 n3, .int .i64 n4, .int .i64 n5, .sl q6] : Option (List AV)) = some [.int .i64 n1, .sl q2, .int .i64 n3, .int .i64 n4, .int .i64 n5, .sl q6] ∧ True) ∧ I40 [.sl q98, .sl q105, .int .i64 (wrapK .i64 (n39 + 1))] h106 ∧ m41 [.sl q98, .sl q105, .int .i64 (wrapK .i64 (n39 + 1))] h106 < m41 [.sl q37, .sl q38, .int .i64 n39] h42))
 (AC Try.prog 21 [.agg [.int .i64 n1, .sl q2, .int .i64 n3, .int .i64 n4, .int .i64 n5, .sl q6], .sl q37] h42 fun v107 h108 => ∃ q109 : Option SL, ∃ n110 : Int, v107 = .tup [.sl q109, .int .i64 n110] ∧
 AC Try.prog 21 [.agg [.int .i64 n1, .sl q2, .int .i64 n3, .int .i64 n4, .int .i64 n5, .sl q6], .sl q38] h108 fun v111 h112 => ∃ q113 : Option SL, ∃ n114 : Int, v111 = .tup [.sl q113, .int .i64 n114] ∧
 vif (n110 == 0)
 (vif (n114 == 0)
 (PAppendS 2 16 q109 q113 h112 fun q115 h116 =>
 AC Try.prog 23 [.sl q115, .sl q26] h116 fun v117 h118 => ∃ b119 : Bool, v117 = .bool b119 ∧
 Q (.bool b119) h118)
 (Q (.bool false) h112))
 (Q (.bool false) h112))))))))
theorem ac6 {n1 : Int} {q2 : Option SL} {n3 : Int} {n4 : Int} {n5 : Int} {q6 : Option SL} {q7 : Option SL} {q8 : Option SL} {h : Heap} {Q : AV → Heap → Prop} (hk : vc6 n1 q2 n3 n4 n5 q6 q7 q8 h Q) : AC Try.prog 6 [.agg [.int .i64 n1, .sl q2, .int .i64 n3, .int .i64 n4, .int .i64 n5, .sl q6], .sl q7, .sl q8] h Q :=
 AC_by (H := hintsOf [3] [(0, [9, 10, 11], [])]) (by kernel_rfl) (by kernel_rfl) hk

/-- oxbowlaw18.OperOrder: what it asks. -/
def vc7 (n1 : Int) (q2 : Option SL) (n3 : Int) (n4 : Int) (n5 : Int) (q6 : Option SL) (q7 : Option SL) (h : Heap) (Q : AV → Heap → Prop) : Prop :=
 AC Try.prog 20 [.sl q7] h fun v8 h9 => ∃ b10 : Bool, v8 = .bool b10 ∧
 vif b10
 (AC Try.prog 14 [] h9 fun v11 h12 => ∃ b13 : Bool, v11 = .bool b13 ∧
 Q (.bool b13) h12)
 (∃ (I16 : List AV → Heap → Prop) (m17 : List AV → Heap → Nat), I16 [.sl none, .int .i64 0] h9 ∧
 ∀ q14 : Option SL, ∀ n15 : Int, ∀ h18 : Heap, I16 [.sl q14, .int .i64 n15] h18 →
 vif (decide (n15 < (slLen q7 : Int)))
 (vIdx q7 n15 1 fun p19 =>
 ∃ q20 : Option SL, cellsAt h18 p19 1 = some [.sl q20] ∧
 AC Try.prog 24 [.sl q20] h18 fun v21 h22 => ∃ q23 : Option SL, v21 = .sl q23 ∧
 PNew [.sl q23] true h22 fun a24 h25 =>
 PAppendS 1 24 q14 (some ⟨a24, 0, 1, 1, 0⟩) h25 fun q26 h27 =>
 ((some [.int .i64 n1, .sl q2, .int .i64 n3, .int .i64 n4, .int .i64 n5, .sl q6] : Option (List AV)) = some [.int .i64 n1, .sl q2, .int .i64 n3, .int .i64 n4, .int .i64 n5, .sl q6] ∧ True) ∧ I16 [.sl q26, .int .i64 (wrapK .i64 (n15 + 1))] h27 ∧ m17 [.sl q26, .int .i64 (wrapK .i64 (n15 + 1))] h27 < m17 [.sl q14, .int .i64 n15] h18)
 (AC Try.prog 21 [.agg [.int .i64 n1, .sl q2, .int .i64 n3, .int .i64 n4, .int .i64 n5, .sl q6], .sl q7] h18 fun v28 h29 => ∃ q30 : Option SL, ∃ n31 : Int, v28 = .tup [.sl q30, .int .i64 n31] ∧
 AC Try.prog 21 [.agg [.int .i64 n1, .sl q2, .int .i64 n3, .int .i64 n4, .int .i64 n5, .sl q6], .sl q14] h29 fun v32 h33 => ∃ q34 : Option SL, ∃ n35 : Int, v32 = .tup [.sl q34, .int .i64 n35] ∧
 AC Try.prog 14 [] h33 fun v36 h37 => ∃ b38 : Bool, v36 = .bool b38 ∧
 vif b38
 (vif (n31 == n35)
 (AC Try.prog 13 [.sl q30, .sl q34] h37 fun v39 h40 => ∃ b41 : Bool, v39 = .bool b41 ∧
 Q (.bool b41) h40)
 (Q (.bool false) h37))
 (Q (.bool false) h37)))
theorem ac7 {n1 : Int} {q2 : Option SL} {n3 : Int} {n4 : Int} {n5 : Int} {q6 : Option SL} {q7 : Option SL} {h : Heap} {Q : AV → Heap → Prop} (hk : vc7 n1 q2 n3 n4 n5 q6 q7 h Q) : AC Try.prog 7 [.agg [.int .i64 n1, .sl q2, .int .i64 n3, .int .i64 n4, .int .i64 n5, .sl q6], .sl q7] h Q :=
 AC_by (H := hintsOf [2] [(0, [5, 6], [])]) (by kernel_rfl) (by kernel_rfl) hk

/-- oxbowlaw18.OperOnce: what it asks. -/
def vc8 (q1 : Option SL) (q2 : Option SL) (h : Heap) (Q : AV → Heap → Prop) : Prop :=
 vif (decide ((slLen q1 : Int) > 2000))
 (AC Try.prog 14 [] h fun v3 h4 => ∃ b5 : Bool, v3 = .bool b5 ∧
 Q (.bool b5) h4)
 (vif (decide ((slLen q2 : Int) > 2000))
 (AC Try.prog 14 [] h fun v6 h7 => ∃ b8 : Bool, v6 = .bool b8 ∧
 Q (.bool b8) h7)
 (AC Try.prog 25 [.sl q1] h fun v9 h10 => ∃ n11 : Int, v9 = .int .i64 n11 ∧
 vif (n11 != 0)
 (AC Try.prog 14 [] h10 fun v12 h13 => ∃ b14 : Bool, v12 = .bool b14 ∧
 Q (.bool b14) h13)
 (AC Try.prog 25 [.sl q2] h10 fun v15 h16 => ∃ n17 : Int, v15 = .int .i64 n17 ∧
 vif (n17 != 0)
 (AC Try.prog 14 [] h16 fun v18 h19 => ∃ b20 : Bool, v18 = .bool b20 ∧
 Q (.bool b20) h19)
 (PNew [.int .i64 0] true h16 fun a21 h22 =>
 PNew [.int .i64 0, .int .i64 1] true h22 fun a23 h24 =>
 PNew [.sl q1] true h24 fun a25 h26 =>
 AC Try.prog 21 [.agg [.int .i64 7, .sl (some ⟨a21, 0, 1, 1, 0⟩), .int .i64 0, .int .i64 0, .int .i64 0, .sl none], .sl (some ⟨a25, 0, 1, 1, 0⟩)] h26 fun v27 h28 => ∃ q29 : Option SL, ∃ n30 : Int, v27 = .tup [.sl q29, .int .i64 n30] ∧
 PNew [.sl q29] true h28 fun a31 h32 =>
 AC Try.prog 21 [.agg [.int .i64 7, .sl (some ⟨a21, 0, 1, 1, 0⟩), .int .i64 0, .int .i64 0, .int .i64 0, .sl none], .sl (some ⟨a31, 0, 1, 1, 0⟩)] h32 fun v33 h34 => ∃ q35 : Option SL, ∃ n36 : Int, v33 = .tup [.sl q35, .int .i64 n36] ∧
 PNew [.sl q1, .sl q2] true h34 fun a37 h38 =>
 AC Try.prog 21 [.agg [.int .i64 8, .sl (some ⟨a23, 0, 2, 2, 0⟩), .int .i64 0, .int .i64 0, .int .i64 0, .sl none], .sl (some ⟨a37, 0, 2, 2, 0⟩)] h38 fun v39 h40 => ∃ q41 : Option SL, ∃ n42 : Int, v39 = .tup [.sl q41, .int .i64 n42] ∧
 PNew [.sl q2, .sl q1] true h40 fun a43 h44 =>
 AC Try.prog 21 [.agg [.int .i64 8, .sl (some ⟨a23, 0, 2, 2, 0⟩), .int .i64 0, .int .i64 0, .int .i64 0, .sl none], .sl (some ⟨a43, 0, 2, 2, 0⟩)] h44 fun v45 h46 => ∃ q47 : Option SL, ∃ n48 : Int, v45 = .tup [.sl q47, .int .i64 n48] ∧
 AC Try.prog 14 [] h46 fun v49 h50 => ∃ b51 : Bool, v49 = .bool b51 ∧
 vif b51
 (vif (n30 == 0)
 (vif (n36 == 0)
 (AC Try.prog 13 [.sl q29, .sl q35] h50 fun v52 h53 => ∃ b54 : Bool, v52 = .bool b54 ∧
 vif b54
 (vif (n42 == 0)
 (vif (n48 == 0)
 (AC Try.prog 13 [.sl q41, .sl q47] h53 fun v55 h56 => ∃ b57 : Bool, v55 = .bool b57 ∧
 vif b57
 (Q (.bool ((slLen q41 : Int) == (wrapK .i64 ((slLen q1 : Int) + (slLen q2 : Int))))) h56)
 (Q (.bool false) h56))
 (Q (.bool false) h53))
 (Q (.bool false) h53))
 (Q (.bool false) h53))
 (Q (.bool false) h50))
 (Q (.bool false) h50))
 (Q (.bool false) h50)))))
theorem ac8 {q1 : Option SL} {q2 : Option SL} {h : Heap} {Q : AV → Heap → Prop} (hk : vc8 q1 q2 h Q) : AC Try.prog 8 [.sl q1, .sl q2] h Q :=
 AC_by (H := hintsOf [5, 6] []) (by kernel_rfl) (by kernel_rfl) hk

/-- oxbowref03.Exact: what it asks. -/
def vc13 (q1 : Option SL) (q2 : Option SL) (h : Heap) (Q : AV → Heap → Prop) : Prop :=
 vif ((slLen q1 : Int) != (slLen q2 : Int))
 (Q (.bool false) h)
 (∃ (I4 : List AV → Heap → Prop) (m5 : List AV → Heap → Nat), I4 [.int .i64 0] h ∧
 ∀ n3 : Int, ∀ h6 : Heap, I4 [.int .i64 n3] h6 →
 vif (decide (n3 < (slLen q1 : Int)))
 (vIdx q1 n3 2 fun p7 =>
 ∃ n8 : Int, ∃ n9 : Int, cellsAt h6 p7 2 = some [.int .i64 n8, .int .i64 n9] ∧
 vIdx q2 n3 2 fun p10 =>
 ∃ n11 : Int, ∃ n12 : Int, cellsAt h6 p10 2 = some [.int .i64 n11, .int .i64 n12] ∧
 vif (!((n8 == n11) && ((n9 == n12) && true)))
 (Q (.bool false) h6)
 ((True) ∧ I4 [.int .i64 (wrapK .i64 (n3 + 1))] h6 ∧ m5 [.int .i64 (wrapK .i64 (n3 + 1))] h6 < m5 [.int .i64 n3] h6))
 (Q (.bool true) h6))
theorem ac13 {q1 : Option SL} {q2 : Option SL} {h : Heap} {Q : AV → Heap → Prop} (hk : vc13 q1 q2 h Q) : AC Try.prog 13 [.sl q1, .sl q2] h Q :=
 AC_by (H := hintsOf [] [(0, [5], [])]) (by kernel_rfl) (by kernel_rfl) hk

/-- oper.Partc: what it asks. -/
def vc16c (q1 : Option SL) (p2 : PA) (h : Heap) (Q : AV → Heap → Prop) : Prop :=
 PNew [.func (.func 17) [.ptr (some p2)] []] true h fun a3 h4 =>
 AC Try.prog 36 [.sl q1] h4 fun v5 h6 => ∃ q7 : Option SL, v5 = .sl q7 ∧
 AC Try.prog 35 [.sl q7, .func (.func 37) [] [.ptr (some ⟨a3, 0⟩)]] h6 fun v8 h9 => ∃ q10 : Option SL, v8 = .sl q10 ∧
 Q (.sl q10) h9
theorem ac16c {q1 : Option SL} {p2 : PA} {h : Heap} {Q : AV → Heap → Prop} (hk : vc16c q1 p2 h Q) : AC Try.prog 16 [.sl q1, .func (.func 17) [.ptr (some p2)] []] h Q :=
 AC_by (H := hintsOf [] []) (by kernel_rfl) (by kernel_rfl) hk

/-- oper.Partr: what it asks. -/
def vc16r (q1 : Option SL) (p2 : PA) (h : Heap) (Q : AV → Heap → Prop) : Prop :=
 PNew [.func (.func 22) [.ptr (some p2)] []] true h fun a3 h4 =>
 AC Try.prog 36 [.sl q1] h4 fun v5 h6 => ∃ q7 : Option SL, v5 = .sl q7 ∧
 AC Try.prog 35 [.sl q7, .func (.func 37) [] [.ptr (some ⟨a3, 0⟩)]] h6 fun v8 h9 => ∃ q10 : Option SL, v8 = .sl q10 ∧
 Q (.sl q10) h9
theorem ac16r {q1 : Option SL} {p2 : PA} {h : Heap} {Q : AV → Heap → Prop} (hk : vc16r q1 p2 h Q) : AC Try.prog 16 [.sl q1, .func (.func 22) [.ptr (some p2)] []] h Q :=
 AC_by (H := hintsOf [] []) (by kernel_rfl) (by kernel_rfl) hk

/-- oxbowlaw18.chooser).keep: what it asks. -/
def vc17 (p1 : Option PA) (n2 : Int) (h : Heap) (Q : AV → Heap → Prop) : Prop :=
 vPtr p1 fun p3 =>
 ∃ n4 : Int, cellsAt h ⟨p3.b, p3.o + 0⟩ 1 = some [.int .i64 n4] ∧
 Q (.bool (decide (n2 < n4))) h
theorem ac17 {p1 : Option PA} {n2 : Int} {h : Heap} {Q : AV → Heap → Prop} (hk : vc17 p1 n2 h Q) : AC Try.prog 17 [.ptr p1, .int .i64 n2] h Q :=
 AC_by (H := hintsOf [] []) (by kernel_rfl) (by kernel_rfl) hk

/-- oxbowlaw18.has: what it asks. -/
def vc18 (q1 : Option SL) (n2 : Int) (h : Heap) (Q : AV → Heap → Prop) : Prop :=
 ∃ (I4 : List AV → Heap → Prop) (m5 : List AV → Heap → Nat), I4 [.int .i64 0] h ∧
 ∀ n3 : Int, ∀ h6 : Heap, I4 [.int .i64 n3] h6 →
 vif (decide (n3 < (slLen q1 : Int)))
 (vIdx q1 n3 1 fun p7 =>
 ∃ n8 : Int, cellsAt h6 p7 1 = some [.int .i64 n8] ∧
 vif (n8 == n2)
 (Q (.bool true) h6)
 ((True) ∧ I4 [.int .i64 (wrapK .i64 (n3 + 1))] h6 ∧ m5 [.int .i64 (wrapK .i64 (n3 + 1))] h6 < m5 [.int .i64 n3] h6))
 (Q (.bool false) h6)
theorem ac18 {q1 : Option SL} {n2 : Int} {h : Heap} {Q : AV → Heap → Prop} (hk : vc18 q1 n2 h Q) : AC Try.prog 18 [.sl q1, .int .i64 n2] h Q :=
 AC_by (H := hintsOf [] [(0, [5], [])]) (by kernel_rfl) (by kernel_rfl) hk

/-- oxbowlaw18.some: what it asks. -/
def vc19 (q1 : Option SL) (n2 : Int) (h : Heap) (Q : AV → Heap → Prop) : Prop :=
 ∃ (I4 : List AV → Heap → Prop) (m5 : List AV → Heap → Nat), I4 [.int .i64 0] h ∧
 ∀ n3 : Int, ∀ h6 : Heap, I4 [.int .i64 n3] h6 →
 vif (decide (n3 < (slLen q1 : Int)))
 (vIdx q1 n3 2 fun p7 =>
 ∃ n8 : Int, cellsAt h6 ⟨p7.b, p7.o + 0⟩ 1 = some [.int .i64 n8] ∧
 vif (n8 == n2)
 (Q (.bool true) h6)
 ((True) ∧ I4 [.int .i64 (wrapK .i64 (n3 + 1))] h6 ∧ m5 [.int .i64 (wrapK .i64 (n3 + 1))] h6 < m5 [.int .i64 n3] h6))
 (Q (.bool false) h6)
theorem ac19 {q1 : Option SL} {n2 : Int} {h : Heap} {Q : AV → Heap → Prop} (hk : vc19 q1 n2 h Q) : AC Try.prog 19 [.sl q1, .int .i64 n2] h Q :=
 AC_by (H := hintsOf [] [(0, [5], [])]) (by kernel_rfl) (by kernel_rfl) hk

/-- oxbowlaw18.large: what it asks. -/
def vc20 (q1 : Option SL) (h : Heap) (Q : AV → Heap → Prop) : Prop :=
 vif (decide ((slLen q1 : Int) > 10))
 (Q (.bool true) h)
 (∃ (I3 : List AV → Heap → Prop) (m4 : List AV → Heap → Nat), I3 [.int .i64 0] h ∧
 ∀ n2 : Int, ∀ h5 : Heap, I3 [.int .i64 n2] h5 →
 vif (decide (n2 < (slLen q1 : Int)))
 (vIdx q1 n2 1 fun p6 =>
 ∃ q7 : Option SL, cellsAt h5 p6 1 = some [.sl q7] ∧
 vif (decide ((slLen q7 : Int) > 5000))
 (Q (.bool true) h5)
 ((True) ∧ I3 [.int .i64 (wrapK .i64 (n2 + 1))] h5 ∧ m4 [.int .i64 (wrapK .i64 (n2 + 1))] h5 < m4 [.int .i64 n2] h5))
 (Q (.bool false) h5))
theorem ac20 {q1 : Option SL} {h : Heap} {Q : AV → Heap → Prop} (hk : vc20 q1 h Q) : AC Try.prog 20 [.sl q1] h Q :=
 AC_by (H := hintsOf [] [(0, [3], [])]) (by kernel_rfl) (by kernel_rfl) hk

/-- oper.Apply: what it asks. -/
def vc21 (n1 : Int) (q2 : Option SL) (n3 : Int) (n4 : Int) (n5 : Int) (q6 : Option SL) (q7 : Option SL) (h : Heap) (Q : AV → Heap → Prop) : Prop :=
 AC Try.prog 31 [.agg [.int .i64 n1, .sl q2, .int .i64 n3, .int .i64 n4, .int .i64 n5, .sl q6]] h fun v8 h9 => ∃ b10 : Bool, v8 = .bool b10 ∧
 vif (!b10)
 (Q (.tup [.sl none, .int .i64 1]) h9)
 (vif ((slLen q7 : Int) != (slLen q2 : Int))
 (Q (.tup [.sl none, .int .i64 1]) h9)
 (∃ (I12 : List AV → Heap → Prop) (m13 : List AV → Heap → Nat), I12 [.int .i64 0] h9 ∧
 ∀ n11 : Int, ∀ h14 : Heap, I12 [.int .i64 n11] h14 →
 vif (decide (n11 < (slLen q7 : Int)))
 (vIdx q7 n11 1 fun p15 =>
 ∃ q16 : Option SL, cellsAt h14 p15 1 = some [.sl q16] ∧
 AC Try.prog 38 [.sl q16] h14 fun v17 h18 => ∃ n19 : Int, v17 = .int .i64 n19 ∧
 vif (n19 != 0)
 (Q (.tup [.sl none, .int .i64 n19]) h18)
 (((some [.int .i64 n1, .sl q2, .int .i64 n3, .int .i64 n4, .int .i64 n5, .sl q6] : Option (List AV)) = some [.int .i64 n1, .sl q2, .int .i64 n3, .int .i64 n4, .int .i64 n5, .sl q6] ∧ True) ∧ I12 [.int .i64 (wrapK .i64 (n11 + 1))] h18 ∧ m13 [.int .i64 (wrapK .i64 (n11 + 1))] h18 < m13 [.int .i64 n11] h14))
 (PNew [.sl none, .bool false] true h14 fun a20 h21 =>
 AC Try.prog 39 [.ptr (some ⟨a20, 0⟩), .agg [.int .i64 n1, .sl q2, .int .i64 n3, .int .i64 n4, .int .i64 n5, .sl q6], .sl q7] h21 fun v22 h23 => v22 = .tup [] ∧
 ∃ b24 : Bool, cellsAt h23 ⟨a20, 1⟩ 1 = some [.bool b24] ∧
 vif b24
 (Q (.tup [.sl none, .int .i64 31]) h23)
 (∃ q25 : Option SL, cellsAt h23 ⟨a20, 0⟩ 1 = some [.sl q25] ∧
 AC Try.prog 40 [.sl q25] h23 fun v26 h27 => ∃ q28 : Option SL, ∃ n29 : Int, v26 = .tup [.sl q28, .int .i64 n29] ∧
 Q (.tup [.sl q28, .int .i64 n29]) h27))))
theorem ac21 {n1 : Int} {q2 : Option SL} {n3 : Int} {n4 : Int} {n5 : Int} {q6 : Option SL} {q7 : Option SL} {h : Heap} {Q : AV → Heap → Prop} (hk : vc21 n1 q2 n3 n4 n5 q6 q7 h Q) : AC Try.prog 21 [.agg [.int .i64 n1, .sl q2, .int .i64 n3, .int .i64 n4, .int .i64 n5, .sl q6], .sl q7] h Q :=
 AC_by (H := hintsOf [2] [(0, [23], [])]) (by kernel_rfl) (by kernel_rfl) hk

/-- oxbowlaw18.rest).keep: what it asks. -/
def vc22 (p1 : Option PA) (n2 : Int) (h : Heap) (Q : AV → Heap → Prop) : Prop :=
 vPtr p1 fun p3 =>
 ∃ n4 : Int, cellsAt h ⟨p3.b, p3.o + 0⟩ 1 = some [.int .i64 n4] ∧
 need (!(n4 == 0))
 (vPtr p1 fun p5 =>
 ∃ n6 : Int, cellsAt h ⟨p5.b, p5.o + 1⟩ 1 = some [.int .i64 n6] ∧
 Q (.bool ((Int.tmod n2 n4) == n6)) h)
theorem ac22 {p1 : Option PA} {n2 : Int} {h : Heap} {Q : AV → Heap → Prop} (hk : vc22 p1 n2 h Q) : AC Try.prog 22 [.ptr p1, .int .i64 n2] h Q :=
 AC_by (H := hintsOf [] []) (by kernel_rfl) (by kernel_rfl) hk

/-- oxbowref03.Same: what it asks. -/
def vc23 (q1 : Option SL) (q2 : Option SL) (h : Heap) (Q : AV → Heap → Prop) : Prop :=
 vif ((slLen q1 : Int) == (slLen q2 : Int))
 (AC Try.prog 24 [.sl q1] h fun v3 h4 => ∃ q5 : Option SL, v3 = .sl q5 ∧
 AC Try.prog 24 [.sl q2] h4 fun v6 h7 => ∃ q8 : Option SL, v6 = .sl q8 ∧
 AC Try.prog 13 [.sl q5, .sl q8] h7 fun v9 h10 => ∃ b11 : Bool, v9 = .bool b11 ∧
 Q (.bool b11) h10)
 (Q (.bool false) h)
theorem ac23 {q1 : Option SL} {q2 : Option SL} {h : Heap} {Q : AV → Heap → Prop} (hk : vc23 q1 q2 h Q) : AC Try.prog 23 [.sl q1, .sl q2] h Q :=
 AC_by (H := hintsOf [] []) (by kernel_rfl) (by kernel_rfl) hk

/-- oxbowref03.Sort: what it asks. -/
def vc24 (q1 : Option SL) (h : Heap) (Q : AV → Heap → Prop) : Prop :=
 vif (decide ((slLen q1 : Int) < 2))
 (PNew [] true h fun a2 h3 =>
 PAppendS 2 16 (some ⟨a2, 0, 0, 0, 0⟩) q1 h3 fun q4 h5 =>
 Q (.sl q4) h5)
 (PSlice 2 q1 0 (some (wrapK .i64 (Int.tdiv (slLen q1 : Int) 2))) none fun q6 =>
 PSlice 2 q1 (wrapK .i64 (Int.tdiv (slLen q1 : Int) 2)) none none fun q7 =>
 AC Try.prog 24 [.sl q6] h fun v8 h9 => ∃ q10 : Option SL, v8 = .sl q10 ∧
 AC Try.prog 24 [.sl q7] h9 fun v11 h12 => ∃ q13 : Option SL, v11 = .sl q13 ∧
 ∃ (I17 : List AV → Heap → Prop) (m18 : List AV → Heap → Nat), I17 [.sl q10, .sl q13, .sl none] h12 ∧
 ∀ q14 : Option SL, ∀ q15 : Option SL, ∀ q16 : Option SL, ∀ h19 : Heap, I17 [.sl q14, .sl q15, .sl q16] h19 →
 vif (decide ((slLen q14 : Int) > 0))
 (vif ((slLen q15 : Int) == 0)
 (vIdx q14 0 2 fun p20 =>
 ∃ n21 : Int, ∃ n22 : Int, cellsAt h19 p20 2 = some [.int .i64 n21, .int .i64 n22] ∧
 PNew [.int .i64 n21, .int .i64 n22] true h19 fun a23 h24 =>
 PAppendS 2 16 q16 (some ⟨a23, 0, 1, 1, 0⟩) h24 fun q25 h26 =>
 PSlice 2 q14 1 none none fun q27 =>
 (True) ∧ I17 [.sl q27, .sl q15, .sl q25] h26 ∧ m18 [.sl q27, .sl q15, .sl q25] h26 < m18 [.sl q14, .sl q15, .sl q16] h19)
 (vif (decide ((slLen q14 : Int) > 0))
 (vIdx q14 0 2 fun p28 =>
 ∃ n29 : Int, ∃ n30 : Int, cellsAt h19 p28 2 = some [.int .i64 n29, .int .i64 n30] ∧
 vIdx q15 0 2 fun p31 =>
 ∃ n32 : Int, ∃ n33 : Int, cellsAt h19 p31 2 = some [.int .i64 n32, .int .i64 n33] ∧
 AC Try.prog 41 [.agg [.int .i64 n29, .int .i64 n30], .agg [.int .i64 n32, .int .i64 n33]] h19 fun v34 h35 => ∃ n36 : Int, v34 = .int .i64 n36 ∧
 vif (decide (n36 ≤ 0))
 (vIdx q14 0 2 fun p37 =>
 ∃ n38 : Int, ∃ n39 : Int, cellsAt h35 p37 2 = some [.int .i64 n38, .int .i64 n39] ∧
 PNew [.int .i64 n38, .int .i64 n39] true h35 fun a40 h41 =>
 PAppendS 2 16 q16 (some ⟨a40, 0, 1, 1, 0⟩) h41 fun q42 h43 =>
 PSlice 2 q14 1 none none fun q44 =>
 (True) ∧ I17 [.sl q44, .sl q15, .sl q42] h43 ∧ m18 [.sl q44, .sl q15, .sl q42] h43 < m18 [.sl q14, .sl q15, .sl q16] h19)
 (vIdx q15 0 2 fun p45 =>
 ∃ n46 : Int, ∃ n47 : Int, cellsAt h35 p45 2 = some [.int .i64 n46, .int .i64 n47] ∧
 PNew [.int .i64 n46, .int .i64 n47] true h35 fun a48 h49 =>
 PAppendS 2 16 q16 (some ⟨a48, 0, 1, 1, 0⟩) h49 fun q50 h51 =>
 PSlice 2 q15 1 none none fun q52 =>
 (True) ∧ I17 [.sl q14, .sl q52, .sl q50] h51 ∧ m18 [.sl q14, .sl q52, .sl q50] h51 < m18 [.sl q14, .sl q15, .sl q16] h19))
 (vIdx q15 0 2 fun p53 =>
 ∃ n54 : Int, ∃ n55 : Int, cellsAt h19 p53 2 = some [.int .i64 n54, .int .i64 n55] ∧
 PNew [.int .i64 n54, .int .i64 n55] true h19 fun a56 h57 =>
 PAppendS 2 16 q16 (some ⟨a56, 0, 1, 1, 0⟩) h57 fun q58 h59 =>
 PSlice 2 q15 1 none none fun q60 =>
 (True) ∧ I17 [.sl q14, .sl q60, .sl q58] h59 ∧ m18 [.sl q14, .sl q60, .sl q58] h59 < m18 [.sl q14, .sl q15, .sl q16] h19)))
 (vif (decide ((slLen q15 : Int) > 0))
 (vif ((slLen q15 : Int) == 0)
 (vIdx q14 0 2 fun p61 =>
 ∃ n62 : Int, ∃ n63 : Int, cellsAt h19 p61 2 = some [.int .i64 n62, .int .i64 n63] ∧
 PNew [.int .i64 n62, .int .i64 n63] true h19 fun a64 h65 =>
 PAppendS 2 16 q16 (some ⟨a64, 0, 1, 1, 0⟩) h65 fun q66 h67 =>
 PSlice 2 q14 1 none none fun q68 =>
 (True) ∧ I17 [.sl q68, .sl q15, .sl q66] h67 ∧ m18 [.sl q68, .sl q15, .sl q66] h67 < m18 [.sl q14, .sl q15, .sl q16] h19)
 (vif (decide ((slLen q14 : Int) > 0))
 (vIdx q14 0 2 fun p69 =>
 ∃ n70 : Int, ∃ n71 : Int, cellsAt h19 p69 2 = some [.int .i64 n70, .int .i64 n71] ∧
 vIdx q15 0 2 fun p72 =>
 ∃ n73 : Int, ∃ n74 : Int, cellsAt h19 p72 2 = some [.int .i64 n73, .int .i64 n74] ∧
 AC Try.prog 41 [.agg [.int .i64 n70, .int .i64 n71], .agg [.int .i64 n73, .int .i64 n74]] h19 fun v75 h76 => ∃ n77 : Int, v75 = .int .i64 n77 ∧
 vif (decide (n77 ≤ 0))
 (vIdx q14 0 2 fun p78 =>
 ∃ n79 : Int, ∃ n80 : Int, cellsAt h76 p78 2 = some [.int .i64 n79, .int .i64 n80] ∧
 PNew [.int .i64 n79, .int .i64 n80] true h76 fun a81 h82 =>
 PAppendS 2 16 q16 (some ⟨a81, 0, 1, 1, 0⟩) h82 fun q83 h84 =>
 PSlice 2 q14 1 none none fun q85 =>
 (True) ∧ I17 [.sl q85, .sl q15, .sl q83] h84 ∧ m18 [.sl q85, .sl q15, .sl q83] h84 < m18 [.sl q14, .sl q15, .sl q16] h19)
 (vIdx q15 0 2 fun p86 =>
 ∃ n87 : Int, ∃ n88 : Int, cellsAt h76 p86 2 = some [.int .i64 n87, .int .i64 n88] ∧
 PNew [.int .i64 n87, .int .i64 n88] true h76 fun a89 h90 =>
 PAppendS 2 16 q16 (some ⟨a89, 0, 1, 1, 0⟩) h90 fun q91 h92 =>
 PSlice 2 q15 1 none none fun q93 =>
 (True) ∧ I17 [.sl q14, .sl q93, .sl q91] h92 ∧ m18 [.sl q14, .sl q93, .sl q91] h92 < m18 [.sl q14, .sl q15, .sl q16] h19))
 (vIdx q15 0 2 fun p94 =>
 ∃ n95 : Int, ∃ n96 : Int, cellsAt h19 p94 2 = some [.int .i64 n95, .int .i64 n96] ∧
 PNew [.int .i64 n95, .int .i64 n96] true h19 fun a97 h98 =>
 PAppendS 2 16 q16 (some ⟨a97, 0, 1, 1, 0⟩) h98 fun q99 h100 =>
 PSlice 2 q15 1 none none fun q101 =>
 (True) ∧ I17 [.sl q14, .sl q101, .sl q99] h100 ∧ m18 [.sl q14, .sl q101, .sl q99] h100 < m18 [.sl q14, .sl q15, .sl q16] h19)))
 (Q (.sl q16) h19)))
theorem ac24 {q1 : Option SL} {h : Heap} {Q : AV → Heap → Prop} (hk : vc24 q1 h Q) : AC Try.prog 24 [.sl q1] h Q :=
 AC_by (H := hintsOf [] [(0, [3, 4, 5], [])]) (by kernel_rfl) (by kernel_rfl) hk

/-- oxbowref03.May: what it asks. -/
def vc25 (q1 : Option SL) (h : Heap) (Q : AV → Heap → Prop) : Prop :=
 ∃ (I3 : List AV → Heap → Prop) (m4 : List AV → Heap → Nat), I3 [.int .i64 0] h ∧
 ∀ n2 : Int, ∀ h5 : Heap, I3 [.int .i64 n2] h5 →
 vif (decide (n2 < (slLen q1 : Int)))
 (vIdx q1 n2 2 fun p6 =>
 ∃ n7 : Int, ∃ n8 : Int, cellsAt h5 p6 2 = some [.int .i64 n7, .int .i64 n8] ∧
 AC Try.prog 42 [.agg [.int .i64 n7, .int .i64 n8]] h5 fun v9 h10 => ∃ b11 : Bool, v9 = .bool b11 ∧
 vif (!b11)
 (Q (.int .i64 30) h10)
 ((True) ∧ I3 [.int .i64 (wrapK .i64 (n2 + 1))] h10 ∧ m4 [.int .i64 (wrapK .i64 (n2 + 1))] h10 < m4 [.int .i64 n2] h5))
 (vif (decide ((slLen q1 : Int) > 4096))
 (Q (.int .i64 31) h5)
 (Q (.int .i64 0) h5))
theorem ac25 {q1 : Option SL} {h : Heap} {Q : AV → Heap → Prop} (hk : vc25 q1 h Q) : AC Try.prog 25 [.sl q1] h Q :=
 AC_by (H := hintsOf [] [(0, [3], [])]) (by kernel_rfl) (by kernel_rfl) hk

/-- oxbowlaw18.two: what it asks. -/
def vc30 (n1 : Int) (h : Heap) (Q : AV → Heap → Prop) : Prop :=
 Q (.bool (n1 == 2)) h
theorem ac30 {n1 : Int} {h : Heap} {Q : AV → Heap → Prop} (hk : vc30 n1 h Q) : AC Try.prog 30 [.int .i64 n1] h Q :=
 AC_by (H := hintsOf [] []) (by kernel_rfl) (by kernel_rfl) hk

/-- oper.Is: what it asks. -/
def vc31 (n1 : Int) (q2 : Option SL) (n3 : Int) (n4 : Int) (n5 : Int) (q6 : Option SL) (h : Heap) (Q : AV → Heap → Prop) : Prop :=
 vif (decide (n1 < 2))
 ((LV.val (.tup []) = LV.val (.tup [])) ∧
 Q (.bool false) h)
 (vif (decide (n1 > 8))
 ((LV.val (.tup []) = LV.val (.tup [])) ∧
 Q (.bool false) h)
 (AC Try.prog 48 [.int .i64 n1] h fun v7 h8 => ∃ n9 : Int, v7 = .int .i64 n9 ∧
 (LV.val (.sl q2) = LV.val (.sl q2)) ∧
 vif ((slLen q2 : Int) != n9)
 (Q (.bool false) h8)
 (vif (decide ((slLen q6 : Int) > 0))
 (Q (.bool false) h8)
 (vif (n5 != 0)
 (Q (.bool false) h8)
 (vif (n1 == 7)
 (Q (.bool ((n3 == 0) && ((n4 == 0) && true))) h8)
 (vif (n1 == 8)
 (Q (.bool ((n3 == 0) && ((n4 == 0) && true))) h8)
 (AC Try.prog 49 [.agg [.int .i64 n3, .int .i64 n4]] h8 fun v10 h11 => ∃ n12 : Int, v10 = .int .i64 n12 ∧
 (LV.val (.int .i64 n1) = LV.val (.int .i64 n1)) ∧
 Q (.bool (n12 == (wrapK .i64 ((wrapK .i64 (n1 - 2)) + 1)))) h11)))))))
theorem ac31 {n1 : Int} {q2 : Option SL} {n3 : Int} {n4 : Int} {n5 : Int} {q6 : Option SL} {h : Heap} {Q : AV → Heap → Prop} (hk : vc31 n1 q2 n3 n4 n5 q6 h Q) : AC Try.prog 31 [.agg [.int .i64 n1, .sl q2, .int .i64 n3, .int .i64 n4, .int .i64 n5, .sl q6]] h Q :=
 AC_by (H := hintsOf [1] []) (by kernel_rfl) (by kernel_rfl) hk

/-- oper.byKey: what it asks. -/
def vc34 (q1 : Option SL) (h : Heap) (Q : AV → Heap → Prop) : Prop :=
 ∃ (I3 : List AV → Heap → Prop) (m4 : List AV → Heap → Nat), I3 [.int .i64 0] (h ++ [.mp [] 0]) ∧
 ∀ n2 : Int, ∀ h5 : Heap, I3 [.int .i64 n2] h5 →
 vif (decide (n2 < (slLen q1 : Int)))
 (vIdx q1 n2 2 fun p6 =>
 ∃ n7 : Int, ∃ n8 : Int, cellsAt h5 p6 2 = some [.int .i64 n7, .int .i64 n8] ∧
 PLookup Try.prog 3 24 (some (List.length h)) (.int .i64 n7) false h5 fun v9 =>
 ∃ q10 : Option SL, v9 = .sl q10 ∧
 PNew [.int .i64 n7, .int .i64 n8] true h5 fun a11 h12 =>
 (PLookup Try.prog 3 24 (some (List.length h)) (.int .i64 n7) false h12 fun v16 =>
 ∃ q17 : Option SL, v16 = .sl q17 ∧
 LV.val (.sl q17) = LV.val (.sl q10)) ∧
 (LV.val (.int .i64 n7) = LV.val (.int .i64 n7)) ∧
 (LV.val (.int .i64 n7) = LV.val (.int .i64 n7)) ∧
 PAppendS 2 16 q10 (some ⟨a11, 0, 1, 1, 0⟩) h12 fun q13 h14 =>
 (LV.val (.int .i64 n7) = LV.val (.int .i64 n7)) ∧
 PUpdate Try.prog 3 (List.length h) (.int .i64 n7) (.sl q13) h14 fun h15 =>
 (True) ∧ I3 [.int .i64 (wrapK .i64 (n2 + 1))] h15 ∧ m4 [.int .i64 (wrapK .i64 (n2 + 1))] h15 < m4 [.int .i64 n2] h5)
 (Q (.map (some (List.length h))) h5)
theorem ac34 {q1 : Option SL} {h : Heap} {Q : AV → Heap → Prop} (hk : vc34 q1 h Q) : AC Try.prog 34 [.sl q1] h Q :=
 AC_by (H := hintsOf [5] [(0, [9], [])]) (by kernel_rfl) (by kernel_rfl) hk

/-- graph.needs: what it asks. -/
def vc70 (n1 : Int) (h : Heap) (Q : AV → Heap → Prop) : Prop :=
 vif (n1 == 1)
 (Q (.tup [.agg [.int .i64 0, .int .i64 0], .bool true]) h)
 (vif (n1 == 10)
 (Q (.tup [.agg [.int .i64 0, .int .i64 0], .bool true]) h)
 (vif (n1 == 11)
 (Q (.tup [.agg [.int .i64 0, .int .i64 0], .bool true]) h)
 (vif (n1 == 2)
 (Q (.tup [.agg [.int .i64 1, .int .i64 (wrapK .i64 ((wrapK .i64 (n1 - 2)) + 1))], .bool true]) h)
 (vif (n1 == 3)
 (Q (.tup [.agg [.int .i64 1, .int .i64 (wrapK .i64 ((wrapK .i64 (n1 - 2)) + 1))], .bool true]) h)
 (vif (n1 == 4)
 (Q (.tup [.agg [.int .i64 1, .int .i64 (wrapK .i64 ((wrapK .i64 (n1 - 2)) + 1))], .bool true]) h)
 (vif (n1 == 5)
 (Q (.tup [.agg [.int .i64 1, .int .i64 (wrapK .i64 ((wrapK .i64 (n1 - 2)) + 1))], .bool true]) h)
 (vif (n1 == 6)
 (Q (.tup [.agg [.int .i64 2, .int .i64 5], .bool true]) h)
 (vif (n1 == 7)
 (Q (.tup [.agg [.int .i64 1, .int .i64 0], .bool true]) h)
 (vif (n1 == 9)
 (Q (.tup [.agg [.int .i64 1, .int .i64 0], .bool true]) h)
 (vif (n1 == 8)
 (Q (.tup [.agg [.int .i64 2, .int .i64 0], .bool true]) h)
 (Q (.tup [.agg [.int .i64 0, .int .i64 0], .bool false]) h)))))))))))
theorem ac70 {n1 : Int} {h : Heap} {Q : AV → Heap → Prop} (hk : vc70 n1 h Q) : AC Try.prog 70 [.int .i64 n1] h Q :=
 AC_by (H := hintsOf [2] []) (by kernel_rfl) (by kernel_rfl) hk

/-- slices.DeleteFunc: what it asks. -/
def vc35 (q1 : Option SL) (p2 : PA) (h : Heap) (Q : AV → Heap → Prop) : Prop :=
 AC Try.prog 53 [.sl q1, .func (.func 37) [] [.ptr (some p2)]] h fun v3 h4 => ∃ n5 : Int, v3 = .int .i64 n5 ∧
 vif (n5 == (-1))
 (Q (.sl q1) h4)
 (∃ (I8 : List AV → Heap → Prop) (m9 : List AV → Heap → Nat), I8 [.int .i64 n5, .int .i64 (wrapK .i64 (n5 + 1))] h4 ∧
 ∀ n6 : Int, ∀ n7 : Int, ∀ h10 : Heap, I8 [.int .i64 n6, .int .i64 n7] h10 →
 vif (decide (n7 < (slLen q1 : Int)))
 (vIdx q1 n7 2 fun p11 =>
 ∃ n12 : Int, ∃ n13 : Int, cellsAt h10 p11 2 = some [.int .i64 n12, .int .i64 n13] ∧
 AC Try.prog 37 [.agg [.int .i64 n12, .int .i64 n13], .ptr (some p2)] h10 fun v14 h15 => ∃ b16 : Bool, v14 = .bool b16 ∧
 vif (!b16)
 (vIdx q1 n6 2 fun p17 =>
 PStore h15 p17 [.int .i64 n12, .int .i64 n13] fun h18 =>
 (True) ∧ I8 [.int .i64 (wrapK .i64 (n6 + 1)), .int .i64 (wrapK .i64 (n7 + 1))] h18 ∧ m9 [.int .i64 (wrapK .i64 (n6 + 1)), .int .i64 (wrapK .i64 (n7 + 1))] h18 < m9 [.int .i64 n6, .int .i64 n7] h10)
 ((True) ∧ I8 [.int .i64 n6, .int .i64 (wrapK .i64 (n7 + 1))] h15 ∧ m9 [.int .i64 n6, .int .i64 (wrapK .i64 (n7 + 1))] h15 < m9 [.int .i64 n6, .int .i64 n7] h10))
 (PSlice 2 q1 n6 none none fun q19 =>
 PClear [.int .i64 0, .int .i64 0] q19 h10 fun h20 =>
 PSlice 2 q1 0 (some n6) none fun q21 =>
 Q (.sl q21) h20))
theorem ac35 {q1 : Option SL} {p2 : PA} {h : Heap} {Q : AV → Heap → Prop} (hk : vc35 q1 p2 h Q) : AC Try.prog 35 [.sl q1, .func (.func 37) [] [.ptr (some p2)]] h Q :=
 AC_by (H := hintsOf [7] [(0, [5, 6], [])]) (by kernel_rfl) (by kernel_rfl) hk

/-- slices.Clone: what it asks. -/
def vc36 (q1 : Option SL) (h : Heap) (Q : AV → Heap → Prop) : Prop :=
 vif (q1.isNone)
 (Q (.sl none) h)
 (PNew [] true h fun a2 h3 =>
 PAppendS 2 16 (some ⟨a2, 0, 0, 0, 0⟩) q1 h3 fun q4 h5 =>
 Q (.sl q4) h5)
theorem ac36 {q1 : Option SL} {h : Heap} {Q : AV → Heap → Prop} (hk : vc36 q1 h Q) : AC Try.prog 36 [.sl q1] h Q :=
 AC_by (H := hintsOf [] []) (by kernel_rfl) (by kernel_rfl) hk

/-- oper.Part$1: what it asks. -/
def vc37 (n1 : Int) (n2 : Int) (p3 : PA) (h : Heap) (Q : AV → Heap → Prop) : Prop :=
 ∃ v4 : AV, v4.one = true ∧ cellsAt h p3 1 = some (AV.cells v4) ∧
 vCallF Try.prog (AC Try.prog) v4 [.int .i64 n1] h fun v5 h6 => ∃ b7 : Bool, v5 = .bool b7 ∧
 Q (.bool (!b7)) h6
theorem ac37 {n1 : Int} {n2 : Int} {p3 : PA} {h : Heap} {Q : AV → Heap → Prop} (hk : vc37 n1 n2 p3 h Q) : AC Try.prog 37 [.agg [.int .i64 n1, .int .i64 n2], .ptr (some p3)] h Q :=
 AC_by (H := hintsOf [2] []) (by kernel_rfl) (by kernel_rfl) hk

/-- rec.May: what it asks. -/
def vc38 (q1 : Option SL) (h : Heap) (Q : AV → Heap → Prop) : Prop :=
 AC Try.prog 54 [.sl q1, .func (.func 55) [] []] h fun v2 h3 => ∃ b4 : Bool, v2 = .bool b4 ∧
 vif b4
 (Q (.int .i64 30) h3)
 (vif (decide ((slLen q1 : Int) > 4096))
 (Q (.int .i64 31) h3)
 (Q (.int .i64 0) h3))
theorem ac38 {q1 : Option SL} {h : Heap} {Q : AV → Heap → Prop} (hk : vc38 q1 h Q) : AC Try.prog 38 [.sl q1] h Q :=
 AC_by (H := hintsOf [] []) (by kernel_rfl) (by kernel_rfl) hk

/-- oper.maker).apply: what it asks. -/
def vc39 (p1 : Option PA) (n2 : Int) (q3 : Option SL) (n4 : Int) (n5 : Int) (n6 : Int) (q7 : Option SL) (q8 : Option SL) (h : Heap) (Q : AV → Heap → Prop) : Prop :=
 vif (n2 == 5)
 (vIdx q8 0 1 fun p9 =>
 ∃ q10 : Option SL, cellsAt h p9 1 = some [.sl q10] ∧
 AC Try.prog 57 [.ptr p1, .agg [.int .i64 n4, .int .i64 n5], .sl q10] h fun v11 h12 => v11 = .tup [] ∧
 Q (.tup []) h12)
 (vif (n2 == 6)
 (vIdx q8 0 1 fun p13 =>
 ∃ q14 : Option SL, cellsAt h p13 1 = some [.sl q14] ∧
 vIdx q8 1 1 fun p15 =>
 ∃ q16 : Option SL, cellsAt h p15 1 = some [.sl q16] ∧
 AC Try.prog 58 [.ptr p1, .agg [.int .i64 n4, .int .i64 n5], .sl q14, .sl q16] h fun v17 h18 => v17 = .tup [] ∧
 Q (.tup []) h18)
 (vif (n2 == 7)
 (vIdx q8 0 1 fun p19 =>
 ∃ q20 : Option SL, cellsAt h p19 1 = some [.sl q20] ∧
 AC Try.prog 59 [.sl q20] h fun v21 h22 => ∃ q23 : Option SL, ∃ n24 : Int, v21 = .tup [.sl q23, .int .i64 n24] ∧
 AC Try.prog 60 [.ptr p1, .sl q23] h22 fun v25 h26 => v25 = .tup [] ∧
 Q (.tup []) h26)
 (vif (n2 == 8)
 (vIdx q8 0 1 fun p27 =>
 ∃ q28 : Option SL, cellsAt h p27 1 = some [.sl q28] ∧
 AC Try.prog 60 [.ptr p1, .sl q28] h fun v29 h30 => v29 = .tup [] ∧
 vIdx q8 1 1 fun p31 =>
 ∃ q32 : Option SL, cellsAt h30 p31 1 = some [.sl q32] ∧
 AC Try.prog 60 [.ptr p1, .sl q32] h30 fun v33 h34 => v33 = .tup [] ∧
 Q (.tup []) h34)
 (vIdx q8 0 1 fun p35 =>
 ∃ q36 : Option SL, cellsAt h p35 1 = some [.sl q36] ∧
 ∃ (I38 : List AV → Heap → Prop) (m39 : List AV → Heap → Nat), I38 [.int .i64 0] h ∧
 ∀ n37 : Int, ∀ h40 : Heap, I38 [.int .i64 n37] h40 →
 vif (decide (n37 < (slLen q36 : Int)))
 (vIdx q36 n37 2 fun p41 =>
 ∃ n42 : Int, ∃ n43 : Int, cellsAt h40 p41 2 = some [.int .i64 n42, .int .i64 n43] ∧
 AC Try.prog 61 [.ptr p1, .agg [.int .i64 n2, .sl q3, .int .i64 n4, .int .i64 n5, .int .i64 n6, .sl q7], .agg [.int .i64 n42, .int .i64 n43]] h40 fun v44 h45 => v44 = .tup [] ∧
 ((some [.int .i64 n2, .sl q3, .int .i64 n4, .int .i64 n5, .int .i64 n6, .sl q7] : Option (List AV)) = some [.int .i64 n2, .sl q3, .int .i64 n4, .int .i64 n5, .int .i64 n6, .sl q7] ∧ True) ∧ I38 [.int .i64 (wrapK .i64 (n37 + 1))] h45 ∧ m39 [.int .i64 (wrapK .i64 (n37 + 1))] h45 < m39 [.int .i64 n37] h40)
 (Q (.tup []) h40)))))
theorem ac39 {p1 : Option PA} {n2 : Int} {q3 : Option SL} {n4 : Int} {n5 : Int} {n6 : Int} {q7 : Option SL} {q8 : Option SL} {h : Heap} {Q : AV → Heap → Prop} (hk : vc39 p1 n2 q3 n4 n5 n6 q7 q8 h Q) : AC Try.prog 39 [.ptr p1, .agg [.int .i64 n2, .sl q3, .int .i64 n4, .int .i64 n5, .int .i64 n6, .sl q7], .sl q8] h Q :=
 AC_by (H := hintsOf [4, 9] [(1, [16], [])]) (by kernel_rfl) (by kernel_rfl) hk

/-- rec.Sort: what it asks. -/
def vc40 (q1 : Option SL) (h : Heap) (Q : AV → Heap → Prop) : Prop :=
 AC Try.prog 38 [.sl q1] h fun v2 h3 => ∃ n4 : Int, v2 = .int .i64 n4 ∧
 vif (n4 != 0)
 (Q (.tup [.sl none, .int .i64 n4]) h3)
 (AC Try.prog 62 [.sl q1] h3 fun v5 h6 => ∃ q7 : Option SL, v5 = .sl q7 ∧
 Q (.tup [.sl q7, .int .i64 0]) h6)
theorem ac40 {q1 : Option SL} {h : Heap} {Q : AV → Heap → Prop} (hk : vc40 q1 h Q) : AC Try.prog 40 [.sl q1] h Q :=
 AC_by (H := hintsOf [] []) (by kernel_rfl) (by kernel_rfl) hk

/-- oxbowref03.Compare: what it asks. -/
def vc41 (n1 : Int) (n2 : Int) (n3 : Int) (n4 : Int) (h : Heap) (Q : AV → Heap → Prop) : Prop :=
 vif (decide (n1 < n3))
 (Q (.int .i64 (-1)) h)
 (vif (n1 == n3)
 (vif (decide (n2 < n4))
 (Q (.int .i64 (-1)) h)
 (vif ((n1 == n3) && ((n2 == n4) && true))
 (Q (.int .i64 0) h)
 (Q (.int .i64 1) h)))
 (vif ((n1 == n3) && ((n2 == n4) && true))
 (Q (.int .i64 0) h)
 (Q (.int .i64 1) h)))
theorem ac41 {n1 : Int} {n2 : Int} {n3 : Int} {n4 : Int} {h : Heap} {Q : AV → Heap → Prop} (hk : vc41 n1 n2 n3 n4 h Q) : AC Try.prog 41 [.agg [.int .i64 n1, .int .i64 n2], .agg [.int .i64 n3, .int .i64 n4]] h Q :=
 AC_by (H := hintsOf [2, 3] []) (by kernel_rfl) (by kernel_rfl) hk

/-- oxbowref03.Check: what it asks. -/
def vc42 (n1 : Int) (n2 : Int) (h : Heap) (Q : AV → Heap → Prop) : Prop :=
 vif (decide (n1 ≥ 0))
 (vif (decide (n1 < 1048576))
 (vif (decide (n2 ≥ 0))
 (Q (.bool (decide (n2 < 1048576))) h)
 (Q (.bool false) h))
 (Q (.bool false) h))
 (Q (.bool false) h)
theorem ac42 {n1 : Int} {n2 : Int} {h : Heap} {Q : AV → Heap → Prop} (hk : vc42 n1 n2 h Q) : AC Try.prog 42 [.agg [.int .i64 n1, .int .i64 n2]] h Q :=
 AC_by (H := hintsOf [1] []) (by kernel_rfl) (by kernel_rfl) hk

/-- graph.Arity: what it asks. -/
def vc48 (n1 : Int) (h : Heap) (Q : AV → Heap → Prop) : Prop :=
 AC Try.prog 70 [.int .i64 n1] h fun v2 h3 => ∃ n4 : Int, ∃ n5 : Int, ∃ b6 : Bool, v2 = .tup [.agg [.int .i64 n4, .int .i64 n5], .bool b6] ∧
 Q (.int .i64 n4) h3
theorem ac48 {n1 : Int} {h : Heap} {Q : AV → Heap → Prop} (hk : vc48 n1 h Q) : AC Try.prog 48 [.int .i64 n1] h Q :=
 AC_by (H := hintsOf [3] []) (by kernel_rfl) (by kernel_rfl) hk

/-- fn.Family: what it asks. -/
def vc49 (n1 : Int) (n2 : Int) (h : Heap) (Q : AV → Heap → Prop) : Prop :=
 AC Try.prog 71 [.agg [.int .i64 n1, .int .i64 n2]] h fun v3 h4 => ∃ n5 : Int, v3 = .int .i64 n5 ∧
 vif (n5 != 0)
 (Q (.int .i64 0) h4)
 (AC Try.prog 72 [.int .i64 n1] h4 fun v6 h7 => ∃ n8 : Int, v6 = .int .i64 n8 ∧
 Q (.int .i64 n8) h7)
theorem ac49 {n1 : Int} {n2 : Int} {h : Heap} {Q : AV → Heap → Prop} (hk : vc49 n1 n2 h Q) : AC Try.prog 49 [.agg [.int .i64 n1, .int .i64 n2]] h Q :=
 AC_by (H := hintsOf [1] []) (by kernel_rfl) (by kernel_rfl) hk

/-- slices.IndexFunc: what it asks. -/
def vc53 (q1 : Option SL) (h : Heap) (Q : AV → Heap → Prop) : Prop :=
 ∃ (I3 : List AV → Heap → Prop) (m4 : List AV → Heap → Nat), I3 [.int .i64 0] h ∧
 ∀ n2 : Int, ∀ h5 : Heap, I3 [.int .i64 n2] h5 →
 vif (decide (n2 < (slLen q1 : Int)))
 (vIdx q1 n2 2 fun p6 =>
 ∃ n7 : Int, ∃ n8 : Int, cellsAt h5 p6 2 = some [.int .i64 n7, .int .i64 n8] ∧
 AC Try.prog 55 [.agg [.int .i64 n7, .int .i64 n8]] h5 fun v9 h10 => ∃ b11 : Bool, v9 = .bool b11 ∧
 vif b11
 (Q (.int .i64 n2) h10)
 ((True) ∧ I3 [.int .i64 (wrapK .i64 (n2 + 1))] h10 ∧ m4 [.int .i64 (wrapK .i64 (n2 + 1))] h10 < m4 [.int .i64 n2] h5))
 (Q (.int .i64 (-1)) h5)
theorem ac53 {q1 : Option SL} {h : Heap} {Q : AV → Heap → Prop} (hk : vc53 q1 h Q) : AC Try.prog 53 [.sl q1, .func (.func 55) [] []] h Q :=
 AC_by (H := hintsOf [] [(0, [8], [])]) (by kernel_rfl) (by kernel_rfl) hk

/-- slices.IndexFunck: what it asks. -/
def vc53k (q1 : Option SL) (p2 : PA) (h : Heap) (Q : AV → Heap → Prop) : Prop :=
 ∃ (I4 : List AV → Heap → Prop) (m5 : List AV → Heap → Nat), I4 [.int .i64 0] h ∧
 ∀ n3 : Int, ∀ h6 : Heap, I4 [.int .i64 n3] h6 →
 vif (decide (n3 < (slLen q1 : Int)))
 (vIdx q1 n3 2 fun p7 =>
 ∃ n8 : Int, ∃ n9 : Int, cellsAt h6 p7 2 = some [.int .i64 n8, .int .i64 n9] ∧
 AC Try.prog 101 [.agg [.int .i64 n8, .int .i64 n9], .ptr (some p2)] h6 fun v10 h11 => ∃ b12 : Bool, v10 = .bool b12 ∧
 vif b12
 (Q (.int .i64 n3) h11)
 ((True) ∧ I4 [.int .i64 (wrapK .i64 (n3 + 1))] h11 ∧ m5 [.int .i64 (wrapK .i64 (n3 + 1))] h11 < m5 [.int .i64 n3] h6))
 (Q (.int .i64 (-1)) h6)
theorem ac53k {q1 : Option SL} {p2 : PA} {h : Heap} {Q : AV → Heap → Prop} (hk : vc53k q1 p2 h Q) : AC Try.prog 53 [.sl q1, .func (.func 101) [] [.ptr (some p2)]] h Q :=
 AC_by (H := hintsOf [] [(0, [8], [])]) (by kernel_rfl) (by kernel_rfl) hk

/-- slices.IndexFuncf: what it asks. -/
def vc53f (q1 : Option SL) (p2 : PA) (h : Heap) (Q : AV → Heap → Prop) : Prop :=
 ∃ (I4 : List AV → Heap → Prop) (m5 : List AV → Heap → Nat), I4 [.int .i64 0] h ∧
 ∀ n3 : Int, ∀ h6 : Heap, I4 [.int .i64 n3] h6 →
 vif (decide (n3 < (slLen q1 : Int)))
 (vIdx q1 n3 2 fun p7 =>
 ∃ n8 : Int, ∃ n9 : Int, cellsAt h6 p7 2 = some [.int .i64 n8, .int .i64 n9] ∧
 AC Try.prog 103 [.agg [.int .i64 n8, .int .i64 n9], .ptr (some p2)] h6 fun v10 h11 => ∃ b12 : Bool, v10 = .bool b12 ∧
 vif b12
 (Q (.int .i64 n3) h11)
 ((True) ∧ I4 [.int .i64 (wrapK .i64 (n3 + 1))] h11 ∧ m5 [.int .i64 (wrapK .i64 (n3 + 1))] h11 < m5 [.int .i64 n3] h6))
 (Q (.int .i64 (-1)) h6)
theorem ac53f {q1 : Option SL} {p2 : PA} {h : Heap} {Q : AV → Heap → Prop} (hk : vc53f q1 p2 h Q) : AC Try.prog 53 [.sl q1, .func (.func 103) [] [.ptr (some p2)]] h Q :=
 AC_by (H := hintsOf [] [(0, [8], [])]) (by kernel_rfl) (by kernel_rfl) hk

/-- slices.IndexFuncp: what it asks. -/
def vc53p (q1 : Option SL) (p2 : PA) (h : Heap) (Q : AV → Heap → Prop) : Prop :=
 ∃ (I4 : List AV → Heap → Prop) (m5 : List AV → Heap → Nat), I4 [.int .i64 0] h ∧
 ∀ n3 : Int, ∀ h6 : Heap, I4 [.int .i64 n3] h6 →
 vif (decide (n3 < (slLen q1 : Int)))
 (vIdx q1 n3 2 fun p7 =>
 ∃ n8 : Int, ∃ n9 : Int, cellsAt h6 p7 2 = some [.int .i64 n8, .int .i64 n9] ∧
 AC Try.prog 37 [.agg [.int .i64 n8, .int .i64 n9], .ptr (some p2)] h6 fun v10 h11 => ∃ b12 : Bool, v10 = .bool b12 ∧
 vif b12
 (Q (.int .i64 n3) h11)
 ((True) ∧ I4 [.int .i64 (wrapK .i64 (n3 + 1))] h11 ∧ m5 [.int .i64 (wrapK .i64 (n3 + 1))] h11 < m5 [.int .i64 n3] h6))
 (Q (.int .i64 (-1)) h6)
theorem ac53p {q1 : Option SL} {p2 : PA} {h : Heap} {Q : AV → Heap → Prop} (hk : vc53p q1 p2 h Q) : AC Try.prog 53 [.sl q1, .func (.func 37) [] [.ptr (some p2)]] h Q :=
 AC_by (H := hintsOf [] [(0, [8], [])]) (by kernel_rfl) (by kernel_rfl) hk

/-- slices.ContainsFunc: what it asks. -/
def vc54 (q1 : Option SL) (h : Heap) (Q : AV → Heap → Prop) : Prop :=
 AC Try.prog 53 [.sl q1, .func (.func 55) [] []] h fun v2 h3 => ∃ n4 : Int, v2 = .int .i64 n4 ∧
 Q (.bool (decide (n4 ≥ 0))) h3
theorem ac54 {q1 : Option SL} {h : Heap} {Q : AV → Heap → Prop} (hk : vc54 q1 h Q) : AC Try.prog 54 [.sl q1, .func (.func 55) [] []] h Q :=
 AC_by (H := hintsOf [] []) (by kernel_rfl) (by kernel_rfl) hk

/-- slices.ContainsFuncf: what it asks. -/
def vc54f (q1 : Option SL) (p2 : PA) (h : Heap) (Q : AV → Heap → Prop) : Prop :=
 AC Try.prog 53 [.sl q1, .func (.func 103) [] [.ptr (some p2)]] h fun v3 h4 => ∃ n5 : Int, v3 = .int .i64 n5 ∧
 Q (.bool (decide (n5 ≥ 0))) h4
theorem ac54f {q1 : Option SL} {p2 : PA} {h : Heap} {Q : AV → Heap → Prop} (hk : vc54f q1 p2 h Q) : AC Try.prog 54 [.sl q1, .func (.func 103) [] [.ptr (some p2)]] h Q :=
 AC_by (H := hintsOf [] []) (by kernel_rfl) (by kernel_rfl) hk

/-- rec.May$1: what it asks. -/
def vc55 (n1 : Int) (n2 : Int) (h : Heap) (Q : AV → Heap → Prop) : Prop :=
 AC Try.prog 56 [.agg [.int .i64 n1, .int .i64 n2]] h fun v3 h4 => ∃ n5 : Int, v3 = .int .i64 n5 ∧
 Q (.bool (n5 != 0)) h4
theorem ac55 {n1 : Int} {n2 : Int} {h : Heap} {Q : AV → Heap → Prop} (hk : vc55 n1 n2 h Q) : AC Try.prog 55 [.agg [.int .i64 n1, .int .i64 n2]] h Q :=
 AC_by (H := hintsOf [1] []) (by kernel_rfl) (by kernel_rfl) hk

/-- rec.Check: what it asks. -/
def vc56 (n1 : Int) (n2 : Int) (h : Heap) (Q : AV → Heap → Prop) : Prop :=
 AC Try.prog 76 [.int .i64 n1] h fun v3 h4 => ∃ b5 : Bool, v3 = .bool b5 ∧
 vif (!b5)
 (Q (.int .i64 30) h4)
 (AC Try.prog 76 [.int .i64 n2] h4 fun v6 h7 => ∃ b8 : Bool, v6 = .bool b8 ∧
 vif (!b8)
 (Q (.int .i64 30) h7)
 (Q (.int .i64 0) h7))
theorem ac56 {n1 : Int} {n2 : Int} {h : Heap} {Q : AV → Heap → Prop} (hk : vc56 n1 n2 h Q) : AC Try.prog 56 [.agg [.int .i64 n1, .int .i64 n2]] h Q :=
 AC_by (H := hintsOf [1] []) (by kernel_rfl) (by kernel_rfl) hk

/-- oper.maker).fold: what it asks. -/
def vc57 (p1 : Option PA) (n2 : Int) (n3 : Int) (q4 : Option SL) (h : Heap) (Q : AV → Heap → Prop) : Prop :=
 AC Try.prog 77 [.sl q4] h fun v5 h6 => ∃ q7 : Option SL, ∃ n8 : Int, v5 = .tup [.sl q7, .int .i64 n8] ∧
 ∃ (I10 : List AV → Heap → Prop) (m11 : List AV → Heap → Nat), I10 [.int .i64 0] h6 ∧
 ∀ n9 : Int, ∀ h12 : Heap, I10 [.int .i64 n9] h12 →
 vif (decide (n9 < (slLen q7 : Int)))
 (vIdx q7 n9 1 fun p13 =>
 ∃ q14 : Option SL, cellsAt h12 p13 1 = some [.sl q14] ∧
 AC Try.prog 78 [.agg [.int .i64 n2, .int .i64 n3], .sl q14] h12 fun v15 h16 => ∃ n17 : Int, ∃ n18 : Int, ∃ n19 : Int, v15 = .tup [.agg [.int .i64 n17, .int .i64 n18], .int .i64 n19] ∧
 PNew [.int .i64 n17, .int .i64 n18] true h16 fun a20 h21 =>
 AC Try.prog 60 [.ptr p1, .sl (some ⟨a20, 0, 1, 1, 0⟩)] h21 fun v22 h23 => v22 = .tup [] ∧
 ((some [.int .i64 n2, .int .i64 n3] : Option (List AV)) = some [.int .i64 n2, .int .i64 n3] ∧ True) ∧ I10 [.int .i64 (wrapK .i64 (n9 + 1))] h23 ∧ m11 [.int .i64 (wrapK .i64 (n9 + 1))] h23 < m11 [.int .i64 n9] h12)
 (Q (.tup []) h12)
theorem ac57 {p1 : Option PA} {n2 : Int} {n3 : Int} {q4 : Option SL} {h : Heap} {Q : AV → Heap → Prop} (hk : vc57 p1 n2 n3 q4 h Q) : AC Try.prog 57 [.ptr p1, .agg [.int .i64 n2, .int .i64 n3], .sl q4] h Q :=
 AC_by (H := hintsOf [4, 10] [(0, [19], [])]) (by kernel_rfl) (by kernel_rfl) hk

/-- oper.maker).pair: what it asks. -/
def vc58 (p1 : Option PA) (n2 : Int) (n3 : Int) (q4 : Option SL) (q5 : Option SL) (h : Heap) (Q : AV → Heap → Prop) : Prop :=
 AC Try.prog 34 [.sl q5] h fun v6 h7 => ∃ m8 : Option Nat, v6 = .map m8 ∧
 ∃ (I10 : List AV → Heap → Prop) (m11 : List AV → Heap → Nat), I10 [.int .i64 0] h7 ∧
 ∀ n9 : Int, ∀ h12 : Heap, I10 [.int .i64 n9] h12 →
 vif (decide (n9 < (slLen q4 : Int)))
 (vIdx q4 n9 2 fun p13 =>
 ∃ n14 : Int, ∃ n15 : Int, cellsAt h12 p13 2 = some [.int .i64 n14, .int .i64 n15] ∧
 PLookup Try.prog 3 24 m8 (.int .i64 n14) false h12 fun v16 =>
 ∃ q17 : Option SL, v16 = .sl q17 ∧
 ∃ (I19 : List AV → Heap → Prop) (m20 : List AV → Heap → Nat), I19 [.int .i64 0] h12 ∧
 ∀ n18 : Int, ∀ h21 : Heap, I19 [.int .i64 n18] h21 →
 vif (decide (n18 < (slLen q17 : Int)))
 (vIdx q17 n18 2 fun p22 =>
 ∃ n23 : Int, ∃ n24 : Int, cellsAt h21 p22 2 = some [.int .i64 n23, .int .i64 n24] ∧
 vPtr p1 fun p25 =>
 ∃ b26 : Bool, cellsAt h21 ⟨p25.b, p25.o + 1⟩ 1 = some [.bool b26] ∧
 vif b26
 (Q (.tup []) h21)
 (AC Try.prog 79 [.agg [.int .i64 n2, .int .i64 n3], .agg [.int .i64 n14, .int .i64 n15], .agg [.int .i64 n23, .int .i64 n24]] h21 fun v27 h28 => ∃ n29 : Int, ∃ n30 : Int, ∃ n31 : Int, v27 = .tup [.agg [.int .i64 n29, .int .i64 n30], .int .i64 n31] ∧
 PNew [.int .i64 n29, .int .i64 n30] true h28 fun a32 h33 =>
 AC Try.prog 60 [.ptr p1, .sl (some ⟨a32, 0, 1, 1, 0⟩)] h33 fun v34 h35 => v34 = .tup [] ∧
 ((some [.int .i64 n14, .int .i64 n15] : Option (List AV)) = some [.int .i64 n14, .int .i64 n15] ∧ (some [.int .i64 n2, .int .i64 n3] : Option (List AV)) = some [.int .i64 n2, .int .i64 n3] ∧ True) ∧ I19 [.int .i64 (wrapK .i64 (n18 + 1))] h35 ∧ m20 [.int .i64 (wrapK .i64 (n18 + 1))] h35 < m20 [.int .i64 n18] h21))
 (((some [.int .i64 n2, .int .i64 n3] : Option (List AV)) = some [.int .i64 n2, .int .i64 n3] ∧ True) ∧ I10 [.int .i64 (wrapK .i64 (n9 + 1))] h21 ∧ m11 [.int .i64 (wrapK .i64 (n9 + 1))] h21 < m11 [.int .i64 n9] h12))
 (Q (.tup []) h12)
theorem ac58 {p1 : Option PA} {n2 : Int} {n3 : Int} {q4 : Option SL} {q5 : Option SL} {h : Heap} {Q : AV → Heap → Prop} (hk : vc58 p1 n2 n3 q4 q5 h Q) : AC Try.prog 58 [.ptr p1, .agg [.int .i64 n2, .int .i64 n3], .sl q4, .sl q5] h Q :=
 AC_by (H := hintsOf [5, 10, 12, 13] [(0, [19], []), (2, [28], [])]) (by kernel_rfl) (by kernel_rfl) hk

/-- rec.Distinct: what it asks. -/
def vc59 (q1 : Option SL) (h : Heap) (Q : AV → Heap → Prop) : Prop :=
 AC Try.prog 40 [.sl q1] h fun v2 h3 => ∃ q4 : Option SL, ∃ n5 : Int, v2 = .tup [.sl q4, .int .i64 n5] ∧
 AC Try.prog 80 [.sl q4] h3 fun v6 h7 => ∃ q8 : Option SL, v6 = .sl q8 ∧
 Q (.tup [.sl q8, .int .i64 n5]) h7
theorem ac59 {q1 : Option SL} {h : Heap} {Q : AV → Heap → Prop} (hk : vc59 q1 h Q) : AC Try.prog 59 [.sl q1] h Q :=
 AC_by (H := hintsOf [] []) (by kernel_rfl) (by kernel_rfl) hk

/-- oper.maker).add: what it asks. -/
def vc60 (p1 : Option PA) (q2 : Option SL) (h : Heap) (Q : AV → Heap → Prop) : Prop :=
 vPtr p1 fun p3 =>
 ∃ q4 : Option SL, cellsAt h ⟨p3.b, p3.o + 0⟩ 1 = some [.sl q4] ∧
 PAppendS 2 16 q4 q2 h fun q5 h6 =>
 vPtr p1 fun p7 =>
 PStore h6 ⟨p7.b, p7.o + 0⟩ [.sl q5] fun h8 =>
 vPtr p1 fun p9 =>
 ∃ b10 : Bool, cellsAt h8 ⟨p9.b, p9.o + 1⟩ 1 = some [.bool b10] ∧
 vif b10
 (vPtr p1 fun p11 =>
 PStore h8 ⟨p11.b, p11.o + 1⟩ [.bool true] fun h12 =>
 Q (.tup []) h12)
 (vPtr p1 fun p13 =>
 ∃ q14 : Option SL, cellsAt h8 ⟨p13.b, p13.o + 0⟩ 1 = some [.sl q14] ∧
 vPtr p1 fun p15 =>
 PStore h8 ⟨p15.b, p15.o + 1⟩ [.bool (decide ((slLen q14 : Int) > 4096))] fun h16 =>
 Q (.tup []) h16)
theorem ac60 {p1 : Option PA} {q2 : Option SL} {h : Heap} {Q : AV → Heap → Prop} (hk : vc60 p1 q2 h Q) : AC Try.prog 60 [.ptr p1, .sl q2] h Q :=
 AC_by (H := hintsOf [] []) (by kernel_rfl) (by kernel_rfl) hk

/-- oper.maker).single: what it asks. -/
def vc61 (p1 : Option PA) (n2 : Int) (q3 : Option SL) (n4 : Int) (n5 : Int) (n6 : Int) (q7 : Option SL) (n8 : Int) (n9 : Int) (h : Heap) (Q : AV → Heap → Prop) : Prop :=
 vif (n2 == 2)
 (AC Try.prog 81 [.agg [.int .i64 n4, .int .i64 n5], .agg [.int .i64 n8, .int .i64 n9]] h fun v10 h11 => ∃ n12 : Int, ∃ n13 : Int, ∃ n14 : Int, v10 = .tup [.agg [.int .i64 n12, .int .i64 n13], .int .i64 n14] ∧
 PNew [.int .i64 n12, .int .i64 n13] true h11 fun a15 h16 =>
 AC Try.prog 60 [.ptr p1, .sl (some ⟨a15, 0, 1, 1, 0⟩)] h16 fun v17 h18 => v17 = .tup [] ∧
 Q (.tup []) h18)
 (vif (n2 == 3)
 (AC Try.prog 82 [.agg [.int .i64 n4, .int .i64 n5], .agg [.int .i64 n8, .int .i64 n9]] h fun v19 h20 => ∃ b21 : Bool, ∃ n22 : Int, v19 = .tup [.bool b21, .int .i64 n22] ∧
 vif b21
 (PNew [.int .i64 n8, .int .i64 n9] true h20 fun a23 h24 =>
 AC Try.prog 60 [.ptr p1, .sl (some ⟨a23, 0, 1, 1, 0⟩)] h24 fun v25 h26 => v25 = .tup [] ∧
 Q (.tup []) h26)
 (Q (.tup []) h20))
 (vif (n2 == 4)
 (AC Try.prog 83 [.agg [.int .i64 n4, .int .i64 n5], .agg [.int .i64 n8, .int .i64 n9]] h fun v27 h28 => ∃ q29 : Option SL, ∃ n30 : Int, v27 = .tup [.sl q29, .int .i64 n30] ∧
 AC Try.prog 60 [.ptr p1, .sl q29] h28 fun v31 h32 => v31 = .tup [] ∧
 Q (.tup []) h32)
 (Q (.tup []) h)))
theorem ac61 {p1 : Option PA} {n2 : Int} {q3 : Option SL} {n4 : Int} {n5 : Int} {n6 : Int} {q7 : Option SL} {n8 : Int} {n9 : Int} {h : Heap} {Q : AV → Heap → Prop} (hk : vc61 p1 n2 q3 n4 n5 n6 q7 n8 n9 h Q) : AC Try.prog 61 [.ptr p1, .agg [.int .i64 n2, .sl q3, .int .i64 n4, .int .i64 n5, .int .i64 n6, .sl q7], .agg [.int .i64 n8, .int .i64 n9]] h Q :=
 AC_by (H := hintsOf [4, 5, 6] []) (by kernel_rfl) (by kernel_rfl) hk

/-- rec.sorted: what it asks. -/
def vc62 (q1 : Option SL) (h : Heap) (Q : AV → Heap → Prop) : Prop :=
 AC Try.prog 36 [.sl q1] h fun v2 h3 => ∃ q4 : Option SL, v2 = .sl q4 ∧
 AC Try.prog 84 [.sl q4, .func (.func 85) [] []] h3 fun v5 h6 => v5 = .tup [] ∧
 Q (.sl q4) h6
theorem ac62 {q1 : Option SL} {h : Heap} {Q : AV → Heap → Prop} (hk : vc62 q1 h Q) : AC Try.prog 62 [.sl q1] h Q :=
 AC_by (H := hintsOf [] []) (by kernel_rfl) (by kernel_rfl) hk

/-- fn.Check: what it asks. -/
def vc71 (n1 : Int) (n2 : Int) (h : Heap) (Q : AV → Heap → Prop) : Prop :=
 AC Try.prog 89 [.int .i64 n1] h fun v3 h4 => ∃ n5 : Int, ∃ n6 : Int, v3 = .tup [.int .i64 n5, .int .i64 n6] ∧
 AC Try.prog 72 [.int .i64 n1] h4 fun v7 h8 => ∃ n9 : Int, v7 = .int .i64 n9 ∧
 vif (n9 == 0)
 (Q (.int .i64 160) h8)
 (vif (decide (n2 < n5))
 (Q (.int .i64 160) h8)
 (vif (decide (n2 > n6))
 (Q (.int .i64 160) h8)
 (Q (.int .i64 0) h8)))
theorem ac71 {n1 : Int} {n2 : Int} {h : Heap} {Q : AV → Heap → Prop} (hk : vc71 n1 n2 h Q) : AC Try.prog 71 [.agg [.int .i64 n1, .int .i64 n2]] h Q :=
 AC_by (H := hintsOf [1] []) (by kernel_rfl) (by kernel_rfl) hk

/-- fn.family: what it asks. -/
def vc72 (n1 : Int) (h : Heap) (Q : AV → Heap → Prop) : Prop :=
 vif (decide (n1 < 1))
 (Q (.int .i64 0) h)
 (vif (decide (n1 ≤ 8))
 (Q (.int .i64 1) h)
 (vif (decide (n1 ≤ 12))
 (Q (.int .i64 2) h)
 (vif (decide (n1 ≤ 15))
 (Q (.int .i64 3) h)
 (vif (decide (n1 ≤ 19))
 (Q (.int .i64 4) h)
 (vif (decide (n1 ≤ 23))
 (Q (.int .i64 5) h)
 (Q (.int .i64 0) h))))))
theorem ac72 {n1 : Int} {h : Heap} {Q : AV → Heap → Prop} (hk : vc72 n1 h Q) : AC Try.prog 72 [.int .i64 n1] h Q :=
 AC_by (H := hintsOf [] []) (by kernel_rfl) (by kernel_rfl) hk

/-- rec.within: what it asks. -/
def vc76 (n1 : Int) (h : Heap) (Q : AV → Heap → Prop) : Prop :=
 vif (decide (n1 ≥ 0))
 (Q (.bool (decide (n1 ≤ 1048575))) h)
 (Q (.bool false) h)
theorem ac76 {n1 : Int} {h : Heap} {Q : AV → Heap → Prop} (hk : vc76 n1 h Q) : AC Try.prog 76 [.int .i64 n1] h Q :=
 AC_by (H := hintsOf [] []) (by kernel_rfl) (by kernel_rfl) hk

/-- rec.Groups: what it asks. -/
def vc77 (q1 : Option SL) (h : Heap) (Q : AV → Heap → Prop) : Prop :=
 AC Try.prog 40 [.sl q1] h fun v2 h3 => ∃ q4 : Option SL, ∃ n5 : Int, v2 = .tup [.sl q4, .int .i64 n5] ∧
 PNew [.sl none] true h3 fun a6 h7 =>
 PStore h7 ⟨a6, 0⟩ [.sl q4] fun h8 =>
 ∃ (I10 : List AV → Heap → Prop) (m11 : List AV → Heap → Nat), I10 [.sl none] h8 ∧
 ∀ q9 : Option SL, ∀ h12 : Heap, I10 [.sl q9] h12 →
 ∃ q13 : Option SL, cellsAt h12 ⟨a6, 0⟩ 1 = some [.sl q13] ∧
 vif (decide ((slLen q13 : Int) > 0))
 (∃ q14 : Option SL, cellsAt h12 ⟨a6, 0⟩ 1 = some [.sl q14] ∧
 AC Try.prog 53 [.sl q14, .func (.func 101) [] [.ptr (some ⟨a6, 0⟩)]] h12 fun v15 h16 => ∃ n17 : Int, v15 = .int .i64 n17 ∧
 vif (decide (n17 < 0))
 (∃ q18 : Option SL, cellsAt h16 ⟨a6, 0⟩ 1 = some [.sl q18] ∧
 ∃ q19 : Option SL, cellsAt h16 ⟨a6, 0⟩ 1 = some [.sl q19] ∧
 PSlice 2 q19 0 (some (slLen q18 : Int)) none fun q20 =>
 AC Try.prog 36 [.sl q20] h16 fun v21 h22 => ∃ q23 : Option SL, v21 = .sl q23 ∧
 PNew [.sl q23] true h22 fun a24 h25 =>
 PAppendS 1 24 q9 (some ⟨a24, 0, 1, 1, 0⟩) h25 fun q26 h27 =>
 ∃ q28 : Option SL, cellsAt h27 ⟨a6, 0⟩ 1 = some [.sl q28] ∧
 PSlice 2 q28 (slLen q18 : Int) none none fun q29 =>
 PStore h27 ⟨a6, 0⟩ [.sl q29] fun h30 =>
 (True) ∧ I10 [.sl q26] h30 ∧ m11 [.sl q26] h30 < m11 [.sl q9] h12)
 (∃ q31 : Option SL, cellsAt h16 ⟨a6, 0⟩ 1 = some [.sl q31] ∧
 PSlice 2 q31 0 (some n17) none fun q32 =>
 AC Try.prog 36 [.sl q32] h16 fun v33 h34 => ∃ q35 : Option SL, v33 = .sl q35 ∧
 PNew [.sl q35] true h34 fun a36 h37 =>
 PAppendS 1 24 q9 (some ⟨a36, 0, 1, 1, 0⟩) h37 fun q38 h39 =>
 ∃ q40 : Option SL, cellsAt h39 ⟨a6, 0⟩ 1 = some [.sl q40] ∧
 PSlice 2 q40 n17 none none fun q41 =>
 PStore h39 ⟨a6, 0⟩ [.sl q41] fun h42 =>
 (True) ∧ I10 [.sl q38] h42 ∧ m11 [.sl q38] h42 < m11 [.sl q9] h12))
 (Q (.tup [.sl q9, .int .i64 n5]) h12)
theorem ac77 {q1 : Option SL} {h : Heap} {Q : AV → Heap → Prop} (hk : vc77 q1 h Q) : AC Try.prog 77 [.sl q1] h Q :=
 AC_by (H := hintsOf [] [(0, [6], [])]) (by kernel_rfl) (by kernel_rfl) hk

/-- fn.Fold: what it asks. -/
def vc78 (n1 : Int) (n2 : Int) (q3 : Option SL) (h : Heap) (Q : AV → Heap → Prop) : Prop :=
 PNew [.sl q3] true h fun a4 h5 =>
 ∃ q6 : Option SL, cellsAt h5 ⟨a4, 0⟩ 1 = some [.sl q6] ∧
 AC Try.prog 102 [.agg [.int .i64 n1, .int .i64 n2], .int .i64 4, .sl q6] h5 fun v7 h8 => ∃ n9 : Int, v7 = .int .i64 n9 ∧
 vif (n9 != 0)
 (Q (.tup [.agg [.int .i64 0, .int .i64 0], .int .i64 n9]) h8)
 (∃ q10 : Option SL, cellsAt h8 ⟨a4, 0⟩ 1 = some [.sl q10] ∧
 vif ((slLen q10 : Int) == 0)
 (Q (.tup [.agg [.int .i64 0, .int .i64 0], .int .i64 1]) h8)
 (∃ q11 : Option SL, cellsAt h8 ⟨a4, 0⟩ 1 = some [.sl q11] ∧
 AC Try.prog 54 [.sl q11, .func (.func 103) [] [.ptr (some ⟨a4, 0⟩)]] h8 fun v12 h13 => ∃ b14 : Bool, v12 = .bool b14 ∧
 vif b14
 (Q (.tup [.agg [.int .i64 0, .int .i64 0], .int .i64 1]) h13)
 (∃ q15 : Option SL, cellsAt h13 ⟨a4, 0⟩ 1 = some [.sl q15] ∧
 vIdx q15 0 2 fun p16 =>
 ∃ n17 : Int, ∃ n18 : Int, cellsAt h13 p16 2 = some [.int .i64 n17, .int .i64 n18] ∧
 ∃ q19 : Option SL, cellsAt h13 ⟨a4, 0⟩ 1 = some [.sl q19] ∧
 PSlice 2 q19 1 none none fun q20 =>
 ∃ (I24 : List AV → Heap → Prop) (m25 : List AV → Heap → Nat), I24 [.int .i64 0, .int .i64 n17, .int .i64 n18] h13 ∧
 ∀ n21 : Int, ∀ n22 : Int, ∀ n23 : Int, ∀ h26 : Heap, I24 [.int .i64 n21, .int .i64 n22, .int .i64 n23] h26 →
 vif (decide (n21 < (slLen q20 : Int)))
 (vIdx q20 n21 2 fun p27 =>
 ∃ n28 : Int, ∃ n29 : Int, cellsAt h26 p27 2 = some [.int .i64 n28, .int .i64 n29] ∧
 AC Try.prog 104 [.agg [.int .i64 n1, .int .i64 n2], .int .i64 n23, .int .i64 n29] h26 fun v30 h31 => ∃ n32 : Int, v30 = .int .i64 n32 ∧
 (True ∧ (some [.int .i64 0, .int .i64 0] : Option (List AV)) = some [.int .i64 0, .int .i64 0] ∧ (some [.int .i64 n1, .int .i64 n2] : Option (List AV)) = some [.int .i64 n1, .int .i64 n2] ∧ True) ∧ I24 [.int .i64 (wrapK .i64 (n21 + 1)), .int .i64 n22, .int .i64 n32] h31 ∧ m25 [.int .i64 (wrapK .i64 (n21 + 1)), .int .i64 n22, .int .i64 n32] h31 < m25 [.int .i64 n21, .int .i64 n22, .int .i64 n23] h26)
 (vif (n1 == 19)
 (∃ q33 : Option SL, cellsAt h26 ⟨a4, 0⟩ 1 = some [.sl q33] ∧
 AC Try.prog 105 [.int .i64 (slLen q33 : Int)] h26 fun v34 h35 => ∃ n36 : Int, v34 = .int .i64 n36 ∧
 Q (.tup [.agg [.int .i64 n22, .int .i64 n36], .int .i64 0]) h35)
 (Q (.tup [.agg [.int .i64 n22, .int .i64 n23], .int .i64 0]) h26)))))
theorem ac78 {n1 : Int} {n2 : Int} {q3 : Option SL} {h : Heap} {Q : AV → Heap → Prop} (hk : vc78 n1 n2 q3 h Q) : AC Try.prog 78 [.agg [.int .i64 n1, .int .i64 n2], .sl q3] h Q :=
 AC_by (H := hintsOf [2, 4, 7, 9] [(0, [32], [2])]) (by kernel_rfl) (by kernel_rfl) hk

/-- fn.Pair: what it asks. -/
def vc79 (n1 : Int) (n2 : Int) (n3 : Int) (n4 : Int) (n5 : Int) (n6 : Int) (h : Heap) (Q : AV → Heap → Prop) : Prop :=
 PNew [.int .i64 n3, .int .i64 n4, .int .i64 n5, .int .i64 n6] true h fun a7 h8 =>
 AC Try.prog 102 [.agg [.int .i64 n1, .int .i64 n2], .int .i64 5, .sl (some ⟨a7, 0, 2, 2, 0⟩)] h8 fun v9 h10 => ∃ n11 : Int, v9 = .int .i64 n11 ∧
 vif (n11 != 0)
 (Q (.tup [.agg [.int .i64 0, .int .i64 0], .int .i64 n11]) h10)
 (vif (n3 != n5)
 (Q (.tup [.agg [.int .i64 0, .int .i64 0], .int .i64 1]) h10)
 (vif (n1 == 20)
 (Q (.tup [.agg [.int .i64 n3, .int .i64 n4], .int .i64 0]) h10)
 (vif (n1 == 21)
 (Q (.tup [.agg [.int .i64 n5, .int .i64 n6], .int .i64 0]) h10)
 (vif (n1 == 22)
 (AC Try.prog 105 [.int .i64 (wrapK .i64 (n4 + n6))] h10 fun v12 h13 => ∃ n14 : Int, v12 = .int .i64 n14 ∧
 (LV.val (.int .i64 n3) = LV.val (.int .i64 n3)) ∧
 Q (.tup [.agg [.int .i64 n3, .int .i64 n14], .int .i64 0]) h13)
 (Q (.tup [.agg [.int .i64 n4, .int .i64 n6], .int .i64 0]) h10)))))
theorem ac79 {n1 : Int} {n2 : Int} {n3 : Int} {n4 : Int} {n5 : Int} {n6 : Int} {h : Heap} {Q : AV → Heap → Prop} (hk : vc79 n1 n2 n3 n4 n5 n6 h Q) : AC Try.prog 79 [.agg [.int .i64 n1, .int .i64 n2], .agg [.int .i64 n3, .int .i64 n4], .agg [.int .i64 n5, .int .i64 n6]] h Q :=
 AC_by (H := hintsOf [3, 4, 5, 6] []) (by kernel_rfl) (by kernel_rfl) hk

/-- slices.Compact: what it asks. -/
def vc80 (q1 : Option SL) (h : Heap) (Q : AV → Heap → Prop) : Prop :=
 vif (decide ((slLen q1 : Int) < 2))
 (Q (.sl q1) h)
 (∃ (I3 : List AV → Heap → Prop) (m4 : List AV → Heap → Nat), I3 [.int .i64 1] h ∧
 ∀ n2 : Int, ∀ h5 : Heap, I3 [.int .i64 n2] h5 →
 vif (decide (n2 < (slLen q1 : Int)))
 (vIdx q1 n2 2 fun p6 =>
 ∃ n7 : Int, ∃ n8 : Int, cellsAt h5 p6 2 = some [.int .i64 n7, .int .i64 n8] ∧
 vIdx q1 (wrapK .i64 (n2 - 1)) 2 fun p9 =>
 ∃ n10 : Int, ∃ n11 : Int, cellsAt h5 p9 2 = some [.int .i64 n10, .int .i64 n11] ∧
 vif ((n7 == n10) && ((n8 == n11) && true))
 (PSlice 2 q1 n2 none none fun q12 =>
 ∃ (I15 : List AV → Heap → Prop) (m16 : List AV → Heap → Nat), I15 [.int .i64 n2, .int .i64 1] h5 ∧
 ∀ n13 : Int, ∀ n14 : Int, ∀ h17 : Heap, I15 [.int .i64 n13, .int .i64 n14] h17 →
 vif (decide (n14 < (slLen q12 : Int)))
 (vIdx q12 n14 2 fun p18 =>
 ∃ n19 : Int, ∃ n20 : Int, cellsAt h17 p18 2 = some [.int .i64 n19, .int .i64 n20] ∧
 vIdx q12 (wrapK .i64 (n14 - 1)) 2 fun p21 =>
 ∃ n22 : Int, ∃ n23 : Int, cellsAt h17 p21 2 = some [.int .i64 n22, .int .i64 n23] ∧
 vif (!((n19 == n22) && ((n20 == n23) && true)))
 (vIdx q12 n14 2 fun p24 =>
 ∃ n25 : Int, ∃ n26 : Int, cellsAt h17 p24 2 = some [.int .i64 n25, .int .i64 n26] ∧
 vIdx q1 n13 2 fun p27 =>
 PStore h17 p27 [.int .i64 n25, .int .i64 n26] fun h28 =>
 (True) ∧ I15 [.int .i64 (wrapK .i64 (n13 + 1)), .int .i64 (wrapK .i64 (n14 + 1))] h28 ∧ m16 [.int .i64 (wrapK .i64 (n13 + 1)), .int .i64 (wrapK .i64 (n14 + 1))] h28 < m16 [.int .i64 n13, .int .i64 n14] h17)
 ((True) ∧ I15 [.int .i64 n13, .int .i64 (wrapK .i64 (n14 + 1))] h17 ∧ m16 [.int .i64 n13, .int .i64 (wrapK .i64 (n14 + 1))] h17 < m16 [.int .i64 n13, .int .i64 n14] h17))
 (PSlice 2 q1 n13 none none fun q29 =>
 PClear [.int .i64 0, .int .i64 0] q29 h17 fun h30 =>
 PSlice 2 q1 0 (some n13) none fun q31 =>
 Q (.sl q31) h30))
 ((True) ∧ I3 [.int .i64 (wrapK .i64 (n2 + 1))] h5 ∧ m4 [.int .i64 (wrapK .i64 (n2 + 1))] h5 < m4 [.int .i64 n2] h5))
 (Q (.sl q1) h5))
theorem ac80 {q1 : Option SL} {h : Heap} {Q : AV → Heap → Prop} (hk : vc80 q1 h Q) : AC Try.prog 80 [.sl q1] h Q :=
 AC_by (H := hintsOf [] [(0, [3], []), (2, [3, 5], [])]) (by kernel_rfl) (by kernel_rfl) hk

/-- fn.Map: what it asks. -/
def vc81 (n1 : Int) (n2 : Int) (n3 : Int) (n4 : Int) (h : Heap) (Q : AV → Heap → Prop) : Prop :=
 PNew [.int .i64 n3, .int .i64 n4] true h fun a5 h6 =>
 AC Try.prog 102 [.agg [.int .i64 n1, .int .i64 n2], .int .i64 1, .sl (some ⟨a5, 0, 1, 1, 0⟩)] h6 fun v7 h8 => ∃ n9 : Int, v7 = .int .i64 n9 ∧
 vif (n9 != 0)
 (Q (.tup [.agg [.int .i64 0, .int .i64 0], .int .i64 n9]) h8)
 (vif (n1 == 1)
 (AC Try.prog 105 [.int .i64 (wrapK .i64 (n4 + n2))] h8 fun v10 h11 => ∃ n12 : Int, v10 = .int .i64 n12 ∧
 Q (.tup [.agg [.int .i64 n3, .int .i64 n12], .int .i64 0]) h11)
 (vif (n1 == 2)
 (AC Try.prog 105 [.int .i64 (wrapK .i64 (n4 * n2))] h8 fun v13 h14 => ∃ n15 : Int, v13 = .int .i64 n15 ∧
 Q (.tup [.agg [.int .i64 n3, .int .i64 n15], .int .i64 0]) h14)
 (vif (n1 == 3)
 (AC Try.prog 106 [.agg [.int .i64 n3, .int .i64 n4]] h8 fun v16 h17 => ∃ n18 : Int, ∃ n19 : Int, v16 = .agg [.int .i64 n18, .int .i64 n19] ∧
 Q (.tup [.agg [.int .i64 n18, .int .i64 n19], .int .i64 0]) h17)
 (vif (n1 == 4)
 (need (!(n2 == 0))
 (Q (.tup [.agg [.int .i64 (Int.tmod n3 n2), .int .i64 n4], .int .i64 0]) h8))
 (vif (n1 == 5)
 (need (!(n2 == 0))
 (Q (.tup [.agg [.int .i64 n3, .int .i64 (Int.tmod n4 n2)], .int .i64 0]) h8))
 (vif (n1 == 6)
 (need (!(n2 == 0))
 (Q (.tup [.agg [.int .i64 (wrapK .i64 (Int.tdiv n4 n2)), .int .i64 n4], .int .i64 0]) h8))
 (vif (n1 == 7)
 (Q (.tup [.agg [.int .i64 n3, .int .i64 (minI n4 n2)], .int .i64 0]) h8)
 (vif (n1 == 8)
 (Q (.tup [.agg [.int .i64 n3, .int .i64 (maxI2 n4 n2)], .int .i64 0]) h8)
 (Q (.tup [.agg [.int .i64 n3, .int .i64 n4], .int .i64 0]) h8)))))))))
theorem ac81 {n1 : Int} {n2 : Int} {n3 : Int} {n4 : Int} {h : Heap} {Q : AV → Heap → Prop} (hk : vc81 n1 n2 n3 n4 h Q) : AC Try.prog 81 [.agg [.int .i64 n1, .int .i64 n2], .agg [.int .i64 n3, .int .i64 n4]] h Q :=
 AC_by (H := hintsOf [2, 3, 4] []) (by kernel_rfl) (by kernel_rfl) hk

/-- fn.Test: what it asks. -/
def vc82 (n1 : Int) (n2 : Int) (n3 : Int) (n4 : Int) (h : Heap) (Q : AV → Heap → Prop) : Prop :=
 PNew [.int .i64 n3, .int .i64 n4] true h fun a5 h6 =>
 AC Try.prog 102 [.agg [.int .i64 n1, .int .i64 n2], .int .i64 2, .sl (some ⟨a5, 0, 1, 1, 0⟩)] h6 fun v7 h8 => ∃ n9 : Int, v7 = .int .i64 n9 ∧
 vif (n9 != 0)
 (Q (.tup [.bool false, .int .i64 n9]) h8)
 (vif (n1 == 9)
 (Q (.tup [.bool (decide (n4 < n2)), .int .i64 0]) h8)
 (vif (n1 == 10)
 (Q (.tup [.bool (decide (n4 > n2)), .int .i64 0]) h8)
 (vif (n1 == 11)
 (Q (.tup [.bool (n3 == n2), .int .i64 0]) h8)
 (Q (.tup [.bool ((bitsAnd .i64 n4 1) == 1), .int .i64 0]) h8))))
theorem ac82 {n1 : Int} {n2 : Int} {n3 : Int} {n4 : Int} {h : Heap} {Q : AV → Heap → Prop} (hk : vc82 n1 n2 n3 n4 h Q) : AC Try.prog 82 [.agg [.int .i64 n1, .int .i64 n2], .agg [.int .i64 n3, .int .i64 n4]] h Q :=
 AC_by (H := hintsOf [2, 3] []) (by kernel_rfl) (by kernel_rfl) hk

/-- fn.Spread: what it asks. -/
def vc83 (n1 : Int) (n2 : Int) (n3 : Int) (n4 : Int) (h : Heap) (Q : AV → Heap → Prop) : Prop :=
 PNew [.int .i64 n3, .int .i64 n4] true h fun a5 h6 =>
 AC Try.prog 102 [.agg [.int .i64 n1, .int .i64 n2], .int .i64 3, .sl (some ⟨a5, 0, 1, 1, 0⟩)] h6 fun v7 h8 => ∃ n9 : Int, v7 = .int .i64 n9 ∧
 vif (n9 != 0)
 (Q (.tup [.sl none, .int .i64 n9]) h8)
 (vif (n1 == 15)
 (AC Try.prog 106 [.agg [.int .i64 n3, .int .i64 n4]] h8 fun v10 h11 => ∃ n12 : Int, ∃ n13 : Int, v10 = .agg [.int .i64 n12, .int .i64 n13] ∧
 (LV.val (.agg [.int .i64 n3, .int .i64 n4]) = LV.val (.agg [.int .i64 n3, .int .i64 n4])) ∧
 PNew [.int .i64 n3, .int .i64 n4, .int .i64 n12, .int .i64 n13] true h11 fun a14 h15 =>
 Q (.tup [.sl (some ⟨a14, 0, 2, 2, 0⟩), .int .i64 0]) h15)
 (PNew [.int .i64 n3, .int .i64 n4] true h8 fun a16 h17 =>
 AC Try.prog 107 [.sl (some ⟨a16, 0, 1, 1, 0⟩), .int .i64 n2] h17 fun v18 h19 => ∃ q20 : Option SL, v18 = .sl q20 ∧
 vif (n1 == 14)
 (∃ (I22 : List AV → Heap → Prop) (m23 : List AV → Heap → Nat), I22 [.int .i64 0] h19 ∧
 ∀ n21 : Int, ∀ h24 : Heap, I22 [.int .i64 n21] h24 →
 vif (decide (n21 < (slLen q20 : Int)))
 (AC Try.prog 105 [.int .i64 (wrapK .i64 (n4 + n21))] h24 fun v25 h26 => ∃ n27 : Int, v25 = .int .i64 n27 ∧
 vIdx q20 n21 2 fun p28 =>
 PStore h26 ⟨p28.b, p28.o + 1⟩ [.int .i64 n27] fun h29 =>
 ((some [.int .i64 n3, .int .i64 n4] : Option (List AV)) = some [.int .i64 n3, .int .i64 n4] ∧ (some [.int .i64 n1, .int .i64 n2] : Option (List AV)) = some [.int .i64 n1, .int .i64 n2] ∧ True) ∧ I22 [.int .i64 (wrapK .i64 (n21 + 1))] h29 ∧ m23 [.int .i64 (wrapK .i64 (n21 + 1))] h29 < m23 [.int .i64 n21] h24)
 (Q (.tup [.sl q20, .int .i64 0]) h24))
 (Q (.tup [.sl q20, .int .i64 0]) h19)))
theorem ac83 {n1 : Int} {n2 : Int} {n3 : Int} {n4 : Int} {h : Heap} {Q : AV → Heap → Prop} (hk : vc83 n1 n2 n3 n4 h Q) : AC Try.prog 83 [.agg [.int .i64 n1, .int .i64 n2], .agg [.int .i64 n3, .int .i64 n4]] h Q :=
 AC_by (H := hintsOf [2, 3] [(0, [33], [])]) (by kernel_rfl) (by kernel_rfl) hk

/-- rec.Compare: what it asks. -/
def vc85 (n1 : Int) (n2 : Int) (n3 : Int) (n4 : Int) (h : Heap) (Q : AV → Heap → Prop) : Prop :=
 AC Try.prog 110 [.int .i64 n1, .int .i64 n3] h fun v5 h6 => ∃ n7 : Int, v5 = .int .i64 n7 ∧
 (LV.val (.int .i64 n4) = LV.val (.int .i64 n4)) ∧
 (LV.val (.int .i64 n2) = LV.val (.int .i64 n2)) ∧
 AC Try.prog 110 [.int .i64 n2, .int .i64 n4] h6 fun v8 h9 => ∃ n10 : Int, v8 = .int .i64 n10 ∧
 PNew [.int .i64 n7, .int .i64 n10] true h9 fun a11 h12 =>
 AC Try.prog 109 [.sl (some ⟨a11, 0, 2, 2, 0⟩)] h12 fun v13 h14 => ∃ n15 : Int, v13 = .int .i64 n15 ∧
 Q (.int .i64 n15) h14
theorem ac85 {n1 : Int} {n2 : Int} {n3 : Int} {n4 : Int} {h : Heap} {Q : AV → Heap → Prop} (hk : vc85 n1 n2 n3 n4 h Q) : AC Try.prog 85 [.agg [.int .i64 n1, .int .i64 n2], .agg [.int .i64 n3, .int .i64 n4]] h Q :=
 AC_by (H := hintsOf [2, 3] []) (by kernel_rfl) (by kernel_rfl) hk

/-- rec.Same: what it asks. -/
def vc87 (q1 : Option SL) (q2 : Option SL) (h : Heap) (Q : AV → Heap → Prop) : Prop :=
 AC Try.prog 62 [.sl q1] h fun v3 h4 => ∃ q5 : Option SL, v3 = .sl q5 ∧
 AC Try.prog 62 [.sl q2] h4 fun v6 h7 => ∃ q8 : Option SL, v6 = .sl q8 ∧
 AC Try.prog 116 [.sl q5, .sl q8] h7 fun v9 h10 => ∃ b11 : Bool, v9 = .bool b11 ∧
 Q (.bool b11) h10
theorem ac87 {q1 : Option SL} {q2 : Option SL} {h : Heap} {Q : AV → Heap → Prop} (hk : vc87 q1 q2 h Q) : AC Try.prog 87 [.sl q1, .sl q2] h Q :=
 AC_by (H := hintsOf [] []) (by kernel_rfl) (by kernel_rfl) hk

/-- fn.bounds: what it asks. -/
def vc89 (n1 : Int) (h : Heap) (Q : AV → Heap → Prop) : Prop :=
 vif (n1 == 4)
 (Q (.tup [.int .i64 1, .int .i64 1048575]) h)
 (vif (n1 == 5)
 (Q (.tup [.int .i64 1, .int .i64 1048575]) h)
 (vif (n1 == 6)
 (Q (.tup [.int .i64 1, .int .i64 1048575]) h)
 (vif (n1 == 1)
 (Q (.tup [.int .i64 0, .int .i64 1048575]) h)
 (vif (n1 == 2)
 (Q (.tup [.int .i64 0, .int .i64 1048575]) h)
 (vif (n1 == 7)
 (Q (.tup [.int .i64 0, .int .i64 1048575]) h)
 (vif (n1 == 8)
 (Q (.tup [.int .i64 0, .int .i64 1048575]) h)
 (vif (n1 == 9)
 (Q (.tup [.int .i64 0, .int .i64 1048575]) h)
 (vif (n1 == 10)
 (Q (.tup [.int .i64 0, .int .i64 1048575]) h)
 (vif (n1 == 11)
 (Q (.tup [.int .i64 0, .int .i64 1048575]) h)
 (vif (n1 == 13)
 (Q (.tup [.int .i64 0, .int .i64 8]) h)
 (vif (n1 == 14)
 (Q (.tup [.int .i64 0, .int .i64 8]) h)
 (Q (.tup [.int .i64 0, .int .i64 0]) h))))))))))))
theorem ac89 {n1 : Int} {h : Heap} {Q : AV → Heap → Prop} (hk : vc89 n1 h Q) : AC Try.prog 89 [.int .i64 n1] h Q :=
 AC_by (H := hintsOf [] []) (by kernel_rfl) (by kernel_rfl) hk

/-- rec.Groups$1: what it asks. -/
def vc101 (n1 : Int) (n2 : Int) (p3 : PA) (h : Heap) (Q : AV → Heap → Prop) : Prop :=
 ∃ q4 : Option SL, cellsAt h p3 1 = some [.sl q4] ∧
 vIdx q4 0 2 fun p5 =>
 ∃ n6 : Int, cellsAt h ⟨p5.b, p5.o + 0⟩ 1 = some [.int .i64 n6] ∧
 Q (.bool (n1 != n6)) h
theorem ac101 {n1 : Int} {n2 : Int} {p3 : PA} {h : Heap} {Q : AV → Heap → Prop} (hk : vc101 n1 n2 p3 h Q) : AC Try.prog 101 [.agg [.int .i64 n1, .int .i64 n2], .ptr (some p3)] h Q :=
 AC_by (H := hintsOf [2] []) (by kernel_rfl) (by kernel_rfl) hk

/-- fn.may: what it asks. -/
def vc102 (n1 : Int) (n2 : Int) (n3 : Int) (q4 : Option SL) (h : Heap) (Q : AV → Heap → Prop) : Prop :=
 AC Try.prog 49 [.agg [.int .i64 n1, .int .i64 n2]] h fun v5 h6 => ∃ n7 : Int, v5 = .int .i64 n7 ∧
 vif (n7 != n3)
 (Q (.int .i64 160) h6)
 (∃ (I9 : List AV → Heap → Prop) (m10 : List AV → Heap → Nat), I9 [.int .i64 0] h6 ∧
 ∀ n8 : Int, ∀ h11 : Heap, I9 [.int .i64 n8] h11 →
 vif (decide (n8 < (slLen q4 : Int)))
 (vIdx q4 n8 2 fun p12 =>
 ∃ n13 : Int, ∃ n14 : Int, cellsAt h11 p12 2 = some [.int .i64 n13, .int .i64 n14] ∧
 AC Try.prog 56 [.agg [.int .i64 n13, .int .i64 n14]] h11 fun v15 h16 => ∃ n17 : Int, v15 = .int .i64 n17 ∧
 vif (n17 != 0)
 (Q (.int .i64 n17) h16)
 (((some [.int .i64 n1, .int .i64 n2] : Option (List AV)) = some [.int .i64 n1, .int .i64 n2] ∧ True) ∧ I9 [.int .i64 (wrapK .i64 (n8 + 1))] h16 ∧ m10 [.int .i64 (wrapK .i64 (n8 + 1))] h16 < m10 [.int .i64 n8] h11))
 (Q (.int .i64 0) h11))
theorem ac102 {n1 : Int} {n2 : Int} {n3 : Int} {q4 : Option SL} {h : Heap} {Q : AV → Heap → Prop} (hk : vc102 n1 n2 n3 q4 h Q) : AC Try.prog 102 [.agg [.int .i64 n1, .int .i64 n2], .int .i64 n3, .sl q4] h Q :=
 AC_by (H := hintsOf [3, 8] [(0, [16], [])]) (by kernel_rfl) (by kernel_rfl) hk

/-- fn.Fold$1: what it asks. -/
def vc103 (n1 : Int) (n2 : Int) (p3 : PA) (h : Heap) (Q : AV → Heap → Prop) : Prop :=
 ∃ q4 : Option SL, cellsAt h p3 1 = some [.sl q4] ∧
 vIdx q4 0 2 fun p5 =>
 ∃ n6 : Int, cellsAt h ⟨p5.b, p5.o + 0⟩ 1 = some [.int .i64 n6] ∧
 Q (.bool (n1 != n6)) h
theorem ac103 {n1 : Int} {n2 : Int} {p3 : PA} {h : Heap} {Q : AV → Heap → Prop} (hk : vc103 n1 n2 p3 h Q) : AC Try.prog 103 [.agg [.int .i64 n1, .int .i64 n2], .ptr (some p3)] h Q :=
 AC_by (H := hintsOf [2] []) (by kernel_rfl) (by kernel_rfl) hk

/-- fn.fold: what it asks. -/
def vc104 (n1 : Int) (n2 : Int) (n3 : Int) (n4 : Int) (h : Heap) (Q : AV → Heap → Prop) : Prop :=
 vif (n1 == 17)
 (Q (.int .i64 (minI n3 n4)) h)
 (vif (n1 == 18)
 (Q (.int .i64 (maxI2 n3 n4)) h)
 (AC Try.prog 105 [.int .i64 (wrapK .i64 (n3 + n4))] h fun v5 h6 => ∃ n7 : Int, v5 = .int .i64 n7 ∧
 Q (.int .i64 n7) h6))
theorem ac104 {n1 : Int} {n2 : Int} {n3 : Int} {n4 : Int} {h : Heap} {Q : AV → Heap → Prop} (hk : vc104 n1 n2 n3 n4 h Q) : AC Try.prog 104 [.agg [.int .i64 n1, .int .i64 n2], .int .i64 n3, .int .i64 n4] h Q :=
 AC_by (H := hintsOf [3] []) (by kernel_rfl) (by kernel_rfl) hk

/-- fn.wrap: what it asks. -/
def vc105 (n1 : Int) (h : Heap) (Q : AV → Heap → Prop) : Prop :=
 Q (.int .i64 (bitsAnd .i64 n1 1048575)) h
theorem ac105 {n1 : Int} {h : Heap} {Q : AV → Heap → Prop} (hk : vc105 n1 h Q) : AC Try.prog 105 [.int .i64 n1] h Q :=
 AC_by (H := hintsOf [] []) (by kernel_rfl) (by kernel_rfl) hk

/-- fn.swap: what it asks. -/
def vc106 (n1 : Int) (n2 : Int) (h : Heap) (Q : AV → Heap → Prop) : Prop :=
 Q (.agg [.int .i64 n2, .int .i64 n1]) h
theorem ac106 {n1 : Int} {n2 : Int} {h : Heap} {Q : AV → Heap → Prop} (hk : vc106 n1 n2 h Q) : AC Try.prog 106 [.agg [.int .i64 n1, .int .i64 n2]] h Q :=
 AC_by (H := hintsOf [1, 2] []) (by kernel_rfl) (by kernel_rfl) hk

/-- slices.Repeat: what it asks. -/
def vc107 (q1 : Option SL) (n2 : Int) (h : Heap) (Q : AV → Heap → Prop) : Prop :=
 vif (decide (n2 < 0))
 (False)
 (AC Try.prog 123 [.int .u64 (wrapK .u64 (slLen q1 : Int)), .int .u64 (wrapK .u64 n2)] h fun v3 h4 => ∃ n5 : Int, ∃ n6 : Int, v3 = .tup [.int .u64 n5, .int .u64 n6] ∧
 vif (decide (n5 > 0))
 (False)
 (vif (decide (n6 > 9223372036854775807))
 (False)
 (PMake [.int .i64 0, .int .i64 0] 16 (wrapK .i64 n6) (wrapK .i64 n6) h4 fun q7 h8 =>
 PCopyS 2 q7 q1 h8 fun n9 h10 =>
 ∃ (I12 : List AV → Heap → Prop) (m13 : List AV → Heap → Nat), I12 [.int .i64 n9] h10 ∧
 ∀ n11 : Int, ∀ h14 : Heap, I12 [.int .i64 n11] h14 →
 vif (decide (n11 < (slLen q7 : Int)))
 (PSlice 2 q7 n11 none none fun q15 =>
 PSlice 2 q7 0 (some n11) none fun q16 =>
 PCopyS 2 q15 q16 h14 fun n17 h18 =>
 (True) ∧ I12 [.int .i64 (wrapK .i64 (n11 + n17))] h18 ∧ m13 [.int .i64 (wrapK .i64 (n11 + n17))] h18 < m13 [.int .i64 n11] h14)
 (Q (.sl q7) h14))))
theorem ac107 {q1 : Option SL} {n2 : Int} {h : Heap} {Q : AV → Heap → Prop} (hk : vc107 q1 n2 h Q) : AC Try.prog 107 [.sl q1, .int .i64 n2] h Q :=
 AC_by (H := hintsOf [] [(0, [8], [])]) (by kernel_rfl) (by kernel_rfl) hk

/-- cmp.Or: what it asks. -/
def vc109 (q1 : Option SL) (h : Heap) (Q : AV → Heap → Prop) : Prop :=
 ∃ (I3 : List AV → Heap → Prop) (m4 : List AV → Heap → Nat), I3 [.int .i64 0] h ∧
 ∀ n2 : Int, ∀ h5 : Heap, I3 [.int .i64 n2] h5 →
 vif (decide (n2 < (slLen q1 : Int)))
 (vIdx q1 n2 1 fun p6 =>
 ∃ n7 : Int, cellsAt h5 p6 1 = some [.int .i64 n7] ∧
 vif (n7 != 0)
 (Q (.int .i64 n7) h5)
 ((True) ∧ I3 [.int .i64 (wrapK .i64 (n2 + 1))] h5 ∧ m4 [.int .i64 (wrapK .i64 (n2 + 1))] h5 < m4 [.int .i64 n2] h5))
 (Q (.int .i64 0) h5)
theorem ac109 {q1 : Option SL} {h : Heap} {Q : AV → Heap → Prop} (hk : vc109 q1 h Q) : AC Try.prog 109 [.sl q1] h Q :=
 AC_by (H := hintsOf [] [(0, [8], [])]) (by kernel_rfl) (by kernel_rfl) hk

/-- cmp.Compare: what it asks. -/
def vc110 (n1 : Int) (n2 : Int) (h : Heap) (Q : AV → Heap → Prop) : Prop :=
 AC Try.prog 122 [.int .i64 n1] h fun v3 h4 => ∃ b5 : Bool, v3 = .bool b5 ∧
 AC Try.prog 122 [.int .i64 n2] h4 fun v6 h7 => ∃ b8 : Bool, v6 = .bool b8 ∧
 vif b5
 (vif b8
 (Q (.int .i64 0) h7)
 (Q (.int .i64 (-1)) h7))
 (vif b8
 (Q (.int .i64 1) h7)
 (vif (decide (n1 < n2))
 (Q (.int .i64 (-1)) h7)
 (vif (decide (n1 > n2))
 (Q (.int .i64 1) h7)
 (Q (.int .i64 0) h7))))
theorem ac110 {n1 : Int} {n2 : Int} {h : Heap} {Q : AV → Heap → Prop} (hk : vc110 n1 n2 h Q) : AC Try.prog 110 [.int .i64 n1, .int .i64 n2] h Q :=
 AC_by (H := hintsOf [] []) (by kernel_rfl) (by kernel_rfl) hk

/-- slices.Equal: what it asks. -/
def vc116 (q1 : Option SL) (q2 : Option SL) (h : Heap) (Q : AV → Heap → Prop) : Prop :=
 vif ((slLen q1 : Int) != (slLen q2 : Int))
 (Q (.bool false) h)
 (∃ (I4 : List AV → Heap → Prop) (m5 : List AV → Heap → Nat), I4 [.int .i64 0] h ∧
 ∀ n3 : Int, ∀ h6 : Heap, I4 [.int .i64 n3] h6 →
 vif (decide (n3 < (slLen q1 : Int)))
 (vIdx q1 n3 2 fun p7 =>
 ∃ n8 : Int, ∃ n9 : Int, cellsAt h6 p7 2 = some [.int .i64 n8, .int .i64 n9] ∧
 vIdx q2 n3 2 fun p10 =>
 ∃ n11 : Int, ∃ n12 : Int, cellsAt h6 p10 2 = some [.int .i64 n11, .int .i64 n12] ∧
 vif (!((n8 == n11) && ((n9 == n12) && true)))
 (Q (.bool false) h6)
 ((True) ∧ I4 [.int .i64 (wrapK .i64 (n3 + 1))] h6 ∧ m5 [.int .i64 (wrapK .i64 (n3 + 1))] h6 < m5 [.int .i64 n3] h6))
 (Q (.bool true) h6))
theorem ac116 {q1 : Option SL} {q2 : Option SL} {h : Heap} {Q : AV → Heap → Prop} (hk : vc116 q1 q2 h Q) : AC Try.prog 116 [.sl q1, .sl q2] h Q :=
 AC_by (H := hintsOf [] [(0, [13], [])]) (by kernel_rfl) (by kernel_rfl) hk

/-- cmp.isNaN: what it asks. -/
def vc122 (n1 : Int) (h : Heap) (Q : AV → Heap → Prop) : Prop :=
 Q (.bool (n1 != n1)) h
theorem ac122 {n1 : Int} {h : Heap} {Q : AV → Heap → Prop} (hk : vc122 n1 h Q) : AC Try.prog 122 [.int .i64 n1] h Q :=
 AC_by (H := hintsOf [] []) (by kernel_rfl) (by kernel_rfl) hk

/-- bits.Mul: what it asks. -/
def vc123 (n1 : Int) (n2 : Int) (h : Heap) (Q : AV → Heap → Prop) : Prop :=
 AC Try.prog 135 [.int .u64 n1, .int .u64 n2] h fun v3 h4 => ∃ n5 : Int, ∃ n6 : Int, v3 = .tup [.int .u64 n5, .int .u64 n6] ∧
 Q (.tup [.int .u64 n5, .int .u64 n6]) h4
theorem ac123 {n1 : Int} {n2 : Int} {h : Heap} {Q : AV → Heap → Prop} (hk : vc123 n1 n2 h Q) : AC Try.prog 123 [.int .u64 n1, .int .u64 n2] h Q :=
 AC_by (H := hintsOf [] []) (by kernel_rfl) (by kernel_rfl) hk

/-- bits.Mul32: what it asks. -/
def vc134 (n1 : Int) (n2 : Int) (h : Heap) (Q : AV → Heap → Prop) : Prop :=
 Q (.tup [.int .u32 (wrapK .u32 (shrK .u64 (wrapK .u64 ((wrapK .u64 n1) * (wrapK .u64 n2))) 32)), .int .u32 (wrapK .u32 (wrapK .u64 ((wrapK .u64 n1) * (wrapK .u64 n2))))]) h
theorem ac134 {n1 : Int} {n2 : Int} {h : Heap} {Q : AV → Heap → Prop} (hk : vc134 n1 n2 h Q) : AC Try.prog 134 [.int .u32 n1, .int .u32 n2] h Q :=
 AC_by (H := hintsOf [] []) (by kernel_rfl) (by kernel_rfl) hk

/-- bits.Mul64: what it asks. -/
def vc135 (n1 : Int) (n2 : Int) (h : Heap) (Q : AV → Heap → Prop) : Prop :=
 Q (.tup [.int .u64 (wrapK .u64 ((wrapK .u64 ((wrapK .u64 ((shrK .u64 n1 32) * (shrK .u64 n2 32))) + (shrK .u64 (wrapK .u64 ((wrapK .u64 ((shrK .u64 n1 32) * (bitsAnd .u64 n2 4294967295))) + (shrK .u64 (wrapK .u64 ((bitsAnd .u64 n1 4294967295) * (bitsAnd .u64 n2 4294967295))) 32))) 32))) + (shrK .u64 (wrapK .u64 ((bitsAnd .u64 (wrapK .u64 ((wrapK .u64 ((shrK .u64 n1 32) * (bitsAnd .u64 n2 4294967295))) + (shrK .u64 (wrapK .u64 ((bitsAnd .u64 n1 4294967295) * (bitsAnd .u64 n2 4294967295))) 32))) 4294967295) + (wrapK .u64 ((bitsAnd .u64 n1 4294967295) * (shrK .u64 n2 32))))) 32))), .int .u64 (wrapK .u64 (n1 * n2))]) h
theorem ac135 {n1 : Int} {n2 : Int} {h : Heap} {Q : AV → Heap → Prop} (hk : vc135 n1 n2 h Q) : AC Try.prog 135 [.int .u64 n1, .int .u64 n2] h Q :=
 AC_by (H := hintsOf [] []) (by kernel_rfl) (by kernel_rfl) hk

end Go.Proofs
