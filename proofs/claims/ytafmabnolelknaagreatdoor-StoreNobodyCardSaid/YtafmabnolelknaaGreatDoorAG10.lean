import Derived.Test.YtafmabnolelknaaGreatDoorAG9
import Derived.Test.YtafmabnolelknaaGreatDoorProg
import Derived.KernelRfl
namespace Go.Proofs
open Go.Ab
set_option maxRecDepth 100000
set_option linter.unusedVariables false
def vc5 (n1 : Int) (n2 : Int) (n3 : Int) (n4 : Int) (n5 : Int) (q6 : Option SL) (n7 : Int) (q8 : Option SL) (h : Heap) (Q : AV → Heap → Prop) : Prop :=
 AC Tryz.prog 27 [.ptr none, .agg [.int .i64 n2, .int .i64 n3]] h fun v9 h10 => ∃ q11 : Option SL, ∃ n12 : Int, v9 = .tup [.sl q11, .int .i64 n12] ∧
 AC Tryz.prog 19 [.ptr none] h10 fun v13 h14 => ∃ q15 : Option SL, ∃ n16 : Int, v13 = .tup [.sl q15, .int .i64 n16] ∧
 AC Tryz.prog 17 [.ptr none, .sl q6] h14 fun v17 h18 => ∃ n19 n20 : Int, v17 = .tup [.int .i64 n19, .int .i64 n20] ∧
 AC Tryz.prog 13 [] h18 fun v21 h22 => ∃ b23 : Bool, v21 = .bool b23 ∧
 vif b23
 (AC Tryz.prog 14 [.ptr none, .agg [.int .i64 n2, .int .i64 n3, .int .i64 n4, .int .i64 n5]] h22 fun v24 h25 => ∃ n26 : Int, v24 = .int .i64 n26 ∧
 vif (n26 == 6)
 (AC Tryz.prog 15 [.ptr none] h25 fun v27 h28 => ∃ n29 : Int, v27 = .int .i64 n29 ∧
 vif (n29 == 6)
 (AC Tryz.prog 16 [.ptr none] h28 fun v30 h31 => ∃ n32 : Int, v30 = .int .i64 n32 ∧
 vif (n32 == 6)
 (AC Tryz.prog 28 [.ptr none, .agg [.str [], .int .i64 0, .int .i64 0]] h31 fun v33 h34 => ∃ n35 : Int, v33 = .int .i64 n35 ∧
 vif (n35 == 6)
 (vif (n12 == 6)
 (vif (n16 == 6)
 (vif (n20 == 6)
 (AC Tryz.prog 29 [.ptr none] h34 fun v36 h37 => ∃ n38 : Int, v36 = .int .i64 n38 ∧
 vif (n38 == 6)
 (AC Tryz.prog 23 [.ptr none] h37 fun v39 h40 => ∃ q41 : Option SL, v39 = .sl q41 ∧
 vif ((slLen q41 : Int) == 0)
 (AC Tryz.prog 26 [.ptr none] h40 fun v42 h43 => ∃ n44 : Int, v42 = .int .i64 n44 ∧
 vif (n44 == 0)
 (AC Tryz.prog 24 [.ptr none] h43 fun v45 h46 => ∃ n47 : Int, v45 = .int .i64 n47 ∧
 vif (n47 == 0)
 (AC Tryz.prog 30 [.ptr none] h46 fun v48 h49 => ∃ n50 : Int, v48 = .int .i64 n50 ∧
 Q (.bool (n50 == 0)) h49)
 (Q (.bool false) h46))
 (Q (.bool false) h43))
 (Q (.bool false) h40))
 (Q (.bool false) h37))
 (Q (.bool false) h34))
 (Q (.bool false) h34))
 (Q (.bool false) h34))
 (Q (.bool false) h34))
 (Q (.bool false) h31))
 (Q (.bool false) h28))
 (Q (.bool false) h25))
 (Q (.bool false) h22)
theorem ac5 {n1 : Int} {n2 : Int} {n3 : Int} {n4 : Int} {n5 : Int} {q6 : Option SL} {n7 : Int} {q8 : Option SL} {h : Heap} {Q : AV → Heap → Prop} (hk : vc5 n1 n2 n3 n4 n5 q6 n7 q8 h Q) : AC Tryz.prog 5 [.agg [.int .i64 n1, .int .i64 n2, .int .i64 n3, .int .i64 n4, .int .i64 n5, .sl q6, .int .i64 n7, .sl q8]] h Q :=
 AC_by (H := hintsOf [1] []) (by kernel_rfl) (by kernel_rfl) hk
def vc17 (p1 : Option PA) (q2 : Option SL) (h : Heap) (Q : AV → Heap → Prop) : Prop :=
 AC Tryz.prog 68 [.ptr p1] h fun v3 h4 => ∃ b5 : Bool, v3 = .bool b5 ∧
 vif (!b5)
 (Q (.tup [.int .i64 0, .int .i64 6]) h4)
 (vPtr p1 fun p6 =>
 ∃ p7 : Option PA, cellsAt h4 ⟨p6.b, p6.o + 3⟩ 1 = some [.ptr p7] ∧
 AC Tryz.prog 79 [.ptr p7, .sl q2] h4 fun v8 h9 => ∃ n10 : Int, v8 = .int .i64 n10 ∧
 vPtr p1 fun p11 =>
 ∃ q12 : Option SL, cellsAt h9 ⟨p11.b, p11.o + 4⟩ 1 = some [.sl q12] ∧
 ∃ (I16 : List AV → Heap → Prop) (m17 : List AV → Heap → Nat), I16 [.int .i64 n10, .sl none, .int .i64 0] h9 ∧
 ∀ n13 : Int, ∀ q14 : Option SL, ∀ n15 : Int, ∀ h18 : Heap, I16 [.int .i64 n13, .sl q14, .int .i64 n15] h18 →
 vif (decide (n15 < (slLen q12 : Int)))
 (vIdx q12 n15 5 fun p19 =>
 ∃ p20 : Option PA, ∃ n21 n22 n23 : Int, ∃ q24 : Option SL, cellsAt h18 p19 5 = some [.ptr p20, .int .i64 n21, .int .i64 n22, .int .i64 n23, .sl q24] ∧
 AC Tryz.prog 80 [.sl q2, .agg [.int .i64 n22, .int .i64 n23]] h18 fun v25 h26 => ∃ b27 : Bool, v25 = .bool b27 ∧
 vif b27
 (AC Tryz.prog 81 [.sl q24] h26 fun v28 h29 => ∃ q30 : Option SL, v28 = .sl q30 ∧
 AC Tryz.prog 82 [.sl q2] h29 fun v31 h32 => ∃ q33 : Option SL, v31 = .sl q33 ∧
 PNew [.sl q33] true h32 fun a34 h35 =>
 PAppendS 1 24 q30 (some ⟨a34, 0, 1, 1, 0⟩) h35 fun q36 h37 =>
 PNew [.ptr p20, .int .i64 n21, .int .i64 n22, .int .i64 n23, .sl q36] true h37 fun a38 h39 =>
 PAppendS 5 56 q14 (some ⟨a38, 0, 1, 1, 0⟩) h39 fun q40 h41 =>
 (True) ∧ I16 [.int .i64 n13, .sl q40, .int .i64 (wrapK .i64 (n15 + 1))] h41 ∧ m17 [.int .i64 n13, .sl q40, .int .i64 (wrapK .i64 (n15 + 1))] h41 < m17 [.int .i64 n13, .sl q14, .int .i64 n15] h18)
 (AC Tryz.prog 83 [.ptr p20] h26 fun v42 h43 => ∃ n44 : Int, v42 = .int .i64 n44 ∧
 AC Tryz.prog 78 [.ptr p1, .agg [.ptr p20, .int .i64 n21, .int .i64 n22, .int .i64 n23, .sl q24]] h43 fun v45 h46 => ∃ n47 : Int, v45 = .int .i64 n47 ∧
 vif (n47 != 0)
 (vPtr p1 fun p48 =>
 ∃ q49 : Option SL, cellsAt h46 ⟨p48.b, p48.o + 4⟩ 1 = some [.sl q49] ∧
 PSlice 5 q49 (wrapK .i64 (n15 + 1)) none none fun q50 =>
 PAppendS 5 56 q14 q50 h46 fun q51 h52 =>
 vPtr p1 fun p53 =>
 PStore h52 ⟨p53.b, p53.o + 4⟩ [.sl q51] fun h54 =>
 Q (.tup [.int .i64 (wrapK .i64 (n13 + n44)), .int .i64 n47]) h54)
 ((True) ∧ I16 [.int .i64 (wrapK .i64 (n13 + n44)), .sl q14, .int .i64 (wrapK .i64 (n15 + 1))] h46 ∧ m17 [.int .i64 (wrapK .i64 (n13 + n44)), .sl q14, .int .i64 (wrapK .i64 (n15 + 1))] h46 < m17 [.int .i64 n13, .sl q14, .int .i64 n15] h18)))
 (vPtr p1 fun p55 =>
 PStore h18 ⟨p55.b, p55.o + 4⟩ [.sl q14] fun h56 =>
 Q (.tup [.int .i64 n13, .int .i64 0]) h56))
theorem ac17 {p1 : Option PA} {q2 : Option SL} {h : Heap} {Q : AV → Heap → Prop} (hk : vc17 p1 q2 h Q) : AC Tryz.prog 17 [.ptr p1, .sl q2] h Q :=
 AC_by (H := hintsOf [9] [(0, [6, 7, 25], [])]) (by kernel_rfl) (by kernel_rfl) hk
def vc85 (p1 : Option PA) (q2 : Option SL) (n3 : Int) (n4 : Int) (n5 : Int) (n6 : Int) (v7 : AV) (h : Heap) (Q : AV → Heap → Prop) : Prop :=
 AC Tryz.prog 149 [.ptr p1, .agg [.int .i64 n3, .int .i64 n4, .int .i64 n5, .int .i64 n6]] h fun v8 h9 => ∃ q10 : Option SL, ∃ n11 : Int, v8 = .tup [.sl q10, .int .i64 n11] ∧
 vif (n11 != 0)
 (Q (.tup [.sl none, .int .i64 n11]) h9)
 (PNew [.sl q2] true h9 fun a12 h13 =>
 AC Tryz.prog 150 [.sl (some ⟨a12, 0, 1, 1, 0⟩), .sl q10] h13 fun v14 h15 => ∃ p16 : Option PA, ∃ n17 : Int, v14 = .tup [.ptr p16, .int .i64 n17] ∧
 vif (n17 != 0)
 (Q (.tup [.sl none, .int .i64 n17]) h15)
 (AC Tryz.prog 152 [.ptr p16, v7] h15 fun v18 h19 => ∃ q20 : Option SL, ∃ n21 : Int, v18 = .tup [.sl q20, .int .i64 n21] ∧
 ACD Tryz.prog 151 [.ptr p16] h19 fun _ h22 =>
 Q (.tup [.sl q20, .int .i64 n21]) h22))
theorem ac85 {p1 : Option PA} {q2 : Option SL} {n3 : Int} {n4 : Int} {n5 : Int} {n6 : Int} {v7 : AV} {h : Heap} {Q : AV → Heap → Prop} (hk : vc85 p1 q2 n3 n4 n5 n6 v7 h Q) : AC Tryz.prog 85 [.ptr p1, .sl q2, .agg [.int .i64 n3, .int .i64 n4, .int .i64 n5, .int .i64 n6], v7] h Q :=
 AC_byD (n := 5) (H := hintsOf [6] []) (by kernel_rfl) (by kernel_rfl) hk
end Go.Proofs
