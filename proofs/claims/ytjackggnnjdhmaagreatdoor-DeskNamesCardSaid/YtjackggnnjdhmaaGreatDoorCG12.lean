import Derived.Test.YtjackggnnjdhmaaGreatDoorCG1
import Derived.Test.YtjackggnnjdhmaaGreatDoorCG5
import Derived.Test.YtjackggnnjdhmaaGreatDoorCG8
import Derived.Test.YtjackggnnjdhmaaGreatDoorCG9
import Derived.Test.YtjackggnnjdhmaaGreatDoorCG10
import Derived.Test.YtjackggnnjdhmaaGreatDoorCG11
import Derived.Test.YtjackggnnjdhmaaGreatDoorProg
import Derived.KernelRfl
import Derived.Lib.ItoaNum
import Derived.Sort.Row
import Derived.Lib.LaidU8
import Derived.Test.YtjackggnnjdhmaaGreatDoorRows
import Derived.Test.YtjackggnnjdhmaaGreatDoorCards
import Derived.ChangeSame
import Derived.ChangeVars
import Derived.JoinedOf
import Derived.RowKit
import Derived.RowKitTokens
import Derived.LaidLaws
import Derived.LaidMore
import Derived.Lay
import Derived.LaidOnce
import Derived.Stop.Joined
namespace Go.Proofs
open Go.Ab
set_option maxRecDepth 100000
set_option linter.unusedVariables false
def vc4 (q1 : Option SL) (n2 : Int) (n3 : Int) (n4 : Int) (h : Heap) (Q : AV → Heap → Prop) : Prop :=
 AC Tryz.prog 8 [.sl q1, .int .i64 0] h fun v5 h6 => ∃ b7 : Bool, v5 = .bool b7 ∧
 vif b7
 (AC Tryz.prog 9 [] h6 fun v8 h9 => ∃ b10 : Bool, v8 = .bool b10 ∧
 Q (.bool b10) h9)
 (vif (decide (n3 < 0))
 (AC Tryz.prog 9 [] h6 fun v11 h12 => ∃ b13 : Bool, v11 = .bool b13 ∧
 Q (.bool b13) h12)
 (vif (decide (n3 > 1099511627776))
 (AC Tryz.prog 9 [] h6 fun v14 h15 => ∃ b16 : Bool, v14 = .bool b16 ∧
 Q (.bool b16) h15)
 (vif (decide (n4 > 1099511627776))
 (AC Tryz.prog 9 [] h6 fun v17 h18 => ∃ b19 : Bool, v17 = .bool b19 ∧
 Q (.bool b19) h18)
 (AC Tryz.prog 9 [] h6 fun v20 h21 => ∃ b22 : Bool, v20 = .bool b22 ∧
 vif (!b22)
 ((LV.val (.tup []) = LV.val (.tup [])) ∧
 Q (.bool false) h21)
 (AC Tryz.prog 10 [.agg [.int .i64 n3, .int .i64 n4]] h21 fun v23 h24 => ∃ s25 : List UInt8, v23 = .str s25 ∧
 (LV.val (.agg [.int .i64 n3, .int .i64 n4]) = LV.val (.agg [.int .i64 n3, .int .i64 n4])) ∧
 AC Tryz.prog 11 [.agg [.int .i64 n3, .int .i64 n4]] h24 fun v26 h27 => ∃ s28 : List UInt8, v26 = .str s28 ∧
 vif (!(s25 == s28))
 (Q (.bool false) h27)
 (AC Tryz.prog 12 [.agg [.sl q1, .int .i64 n2]] h27 fun v29 h30 => ∃ q31 : Option SL, v29 = .sl q31 ∧
 AC Tryz.prog 13 [.agg [.sl q1, .int .i64 n2]] h30 fun v32 h33 => ∃ b34 : Bool, v32 = .bool b34 ∧
 vif (!b34)
 (Q (.bool true) h33)
 (∃ (I36 : List AV → Heap → Prop) (m37 : List AV → Heap → Nat), I36 [.int .i64 0] h33 ∧
 ∀ n35 : Int, ∀ h38 : Heap, I36 [.int .i64 n35] h38 →
 vif (decide (n35 < (slLen q31 : Int)))
 (∃ (I40 : List AV → Heap → Prop) (m41 : List AV → Heap → Nat), I40 [.int .i64 0] h38 ∧
 ∀ n39 : Int, ∀ h42 : Heap, I40 [.int .i64 n39] h42 →
 vif (decide (n39 < n35))
 (vIdx q31 n35 2 fun p43 =>
 ∃ n44 n45 : Int, cellsAt h42 p43 2 = some [.int .i64 n44, .int .i64 n45] ∧
 vIdx q31 n39 2 fun p46 =>
 ∃ n47 n48 : Int, cellsAt h42 p46 2 = some [.int .i64 n47, .int .i64 n48] ∧
 AC Tryz.prog 10 [.agg [.int .i64 n44, .int .i64 n45]] h42 fun v49 h50 => ∃ s51 : List UInt8, v49 = .str s51 ∧
 (∃ n55 n56 : Int, cellsAt h50 p46 2 = some [.int .i64 n55, .int .i64 n56] ∧
 LV.val (.agg [.int .i64 n55, .int .i64 n56]) = LV.val (.agg [.int .i64 n47, .int .i64 n48])) ∧
 AC Tryz.prog 10 [.agg [.int .i64 n47, .int .i64 n48]] h50 fun v52 h53 => ∃ s54 : List UInt8, v52 = .str s54 ∧
 vif (s51 == s54)
 (Q (.bool false) h53)
 (((some [.int .i64 n3, .int .i64 n4] : Option (List AV)) = some [.int .i64 n3, .int .i64 n4] ∧ (some [.sl q1, .int .i64 n2] : Option (List AV)) = some [.sl q1, .int .i64 n2] ∧ True) ∧ I40 [.int .i64 (wrapK .i64 (n39 + 1))] h53 ∧ m41 [.int .i64 (wrapK .i64 (n39 + 1))] h53 < m41 [.int .i64 n39] h42))
 (((some [.int .i64 n3, .int .i64 n4] : Option (List AV)) = some [.int .i64 n3, .int .i64 n4] ∧ (some [.sl q1, .int .i64 n2] : Option (List AV)) = some [.sl q1, .int .i64 n2] ∧ True) ∧ I36 [.int .i64 (wrapK .i64 (n35 + 1))] h42 ∧ m37 [.int .i64 (wrapK .i64 (n35 + 1))] h42 < m37 [.int .i64 n35] h38))
 (Q (.bool true) h38))))))))
theorem ac4 {q1 : Option SL} {n2 : Int} {n3 : Int} {n4 : Int} {h : Heap} {Q : AV → Heap → Prop} (hk : vc4 q1 n2 n3 n4 h Q) : AC Tryz.prog 4 [.agg [.sl q1, .int .i64 n2], .agg [.int .i64 n3, .int .i64 n4]] h Q :=
 AC_by (H := hintsOf [2, 3] [(0, [6], []), (2, [7], [])]) (by kernel_rfl) (by kernel_rfl) hk
def vc8 (q1 : Option SL) (n2 : Int) (h : Heap) (Q : AV → Heap → Prop) : Prop :=
 vif (decide ((slLen q1 : Int) > 40))
 (Q (.bool true) h)
 (vif (decide (n2 > 3))
 (Q (.bool true) h)
 (∃ (I4 : List AV → Heap → Prop) (m5 : List AV → Heap → Nat), I4 [.int .i64 0] h ∧
 ∀ n3 : Int, ∀ h6 : Heap, I4 [.int .i64 n3] h6 →
 vif (decide (n3 < (slLen q1 : Int)))
 (vIdx q1 n3 6 fun p7 =>
 ∃ q8 : Option SL, cellsAt h6 ⟨p7.b, p7.o + 1⟩ 1 = some [.sl q8] ∧
 vif (decide ((slLen q8 : Int) > 40))
 (Q (.bool true) h6)
 (vIdx q1 n3 6 fun p9 =>
 ∃ q10 : Option SL, cellsAt h6 ⟨p9.b, p9.o + 5⟩ 1 = some [.sl q10] ∧
 vif (decide ((slLen q10 : Int) > 0))
 (vIdx q1 n3 6 fun p11 =>
 ∃ q12 : Option SL, cellsAt h6 ⟨p11.b, p11.o + 5⟩ 1 = some [.sl q12] ∧
 AC Tryz.prog 8 [.sl q12, .int .i64 (wrapK .i64 (n2 + 1))] h6 fun v13 h14 => ∃ b15 : Bool, v13 = .bool b15 ∧
 vif b15
 (Q (.bool true) h14)
 ((True) ∧ I4 [.int .i64 (wrapK .i64 (n3 + 1))] h14 ∧ m5 [.int .i64 (wrapK .i64 (n3 + 1))] h14 < m5 [.int .i64 n3] h6))
 ((True) ∧ I4 [.int .i64 (wrapK .i64 (n3 + 1))] h6 ∧ m5 [.int .i64 (wrapK .i64 (n3 + 1))] h6 < m5 [.int .i64 n3] h6)))
 (Q (.bool false) h6)))
theorem ac8 {q1 : Option SL} {n2 : Int} {h : Heap} {Q : AV → Heap → Prop} (hk : vc8 q1 n2 h Q) : AC Tryz.prog 8 [.sl q1, .int .i64 n2] h Q :=
 AC_by (H := hintsOf [] [(0, [5], [])]) (by kernel_rfl) (by kernel_rfl) hk
def vc10 (n1 : Int) (n2 : Int) (h : Heap) (Q : AV → Heap → Prop) : Prop :=
 vif (decide (n2 ≥ 0))
 (AC Tryz.prog 24 [.int .i64 n2] h fun v3 h4 => ∃ s5 : List UInt8, v3 = .str s5 ∧
 need (decide ([98].length + s5.length ≤ 9223372036854775807))
 (Q (.str ([98] ++ s5)) h4))
 (AC Tryz.prog 24 [.int .i64 n1] h fun v6 h7 => ∃ s8 : List UInt8, v6 = .str s8 ∧
 need (decide ([110].length + s8.length ≤ 9223372036854775807))
 (Q (.str ([110] ++ s8)) h7))
theorem ac10 {n1 : Int} {n2 : Int} {h : Heap} {Q : AV → Heap → Prop} (hk : vc10 n1 n2 h Q) : AC Tryz.prog 10 [.agg [.int .i64 n1, .int .i64 n2]] h Q :=
 AC_by (H := hintsOf [1] []) (by kernel_rfl) (by kernel_rfl) hk
def vc11 (n1 : Int) (n2 : Int) (h : Heap) (Q : AV → Heap → Prop) : Prop :=
 vif (decide (n2 ≥ 0))
 (AC Tryz.prog 25 [.int .i64 n2] h fun v3 h4 => ∃ s5 : List UInt8, v3 = .str s5 ∧
 need (decide ([98].length + s5.length ≤ 9223372036854775807))
 (Q (.str ([98] ++ s5)) h4))
 (AC Tryz.prog 25 [.int .i64 n1] h fun v6 h7 => ∃ s8 : List UInt8, v6 = .str s8 ∧
 need (decide ([110].length + s8.length ≤ 9223372036854775807))
 (Q (.str ([110] ++ s8)) h7))
theorem ac11 {n1 : Int} {n2 : Int} {h : Heap} {Q : AV → Heap → Prop} (hk : vc11 n1 n2 h Q) : AC Tryz.prog 11 [.agg [.int .i64 n1, .int .i64 n2]] h Q :=
 AC_by (H := hintsOf [1] []) (by kernel_rfl) (by kernel_rfl) hk
def vc12 (q1 : Option SL) (n2 : Int) (h : Heap) (Q : AV → Heap → Prop) : Prop :=
 ∃ (I5 : List AV → Heap → Prop) (m6 : List AV → Heap → Nat), I5 [.sl none, .int .i64 0] h ∧
 ∀ q3 : Option SL, ∀ n4 : Int, ∀ h7 : Heap, I5 [.sl q3, .int .i64 n4] h7 →
 vif (decide (n4 < (slLen q1 : Int)))
 (PNew [.int .i64 n4, .int .i64 (-1)] true h7 fun a8 h9 =>
 PAppendS 2 16 q3 (some ⟨a8, 0, 1, 1, 0⟩) h9 fun q10 h11 =>
 ∃ (I14 : List AV → Heap → Prop) (m15 : List AV → Heap → Nat), I14 [.sl q10, .int .i64 0] h11 ∧
 ∀ q12 : Option SL, ∀ n13 : Int, ∀ h16 : Heap, I14 [.sl q12, .int .i64 n13] h16 →
 vIdx q1 n4 6 fun p17 =>
 ∃ q18 : Option SL, cellsAt h16 ⟨p17.b, p17.o + 5⟩ 1 = some [.sl q18] ∧
 vif (decide (n13 < (slLen q18 : Int)))
 (PNew [.int .i64 n4, .int .i64 n13] true h16 fun a19 h20 =>
 PAppendS 2 16 q12 (some ⟨a19, 0, 1, 1, 0⟩) h20 fun q21 h22 =>
 ((some [.sl q1, .int .i64 n2] : Option (List AV)) = some [.sl q1, .int .i64 n2] ∧ True) ∧ I14 [.sl q21, .int .i64 (wrapK .i64 (n13 + 1))] h22 ∧ m15 [.sl q21, .int .i64 (wrapK .i64 (n13 + 1))] h22 < m15 [.sl q12, .int .i64 n13] h16)
 (((some [.sl q1, .int .i64 n2] : Option (List AV)) = some [.sl q1, .int .i64 n2] ∧ True) ∧ I5 [.sl q12, .int .i64 (wrapK .i64 (n4 + 1))] h16 ∧ m6 [.sl q12, .int .i64 (wrapK .i64 (n4 + 1))] h16 < m6 [.sl q3, .int .i64 n4] h7))
 (Q (.sl q3) h7)
theorem ac12 {q1 : Option SL} {n2 : Int} {h : Heap} {Q : AV → Heap → Prop} (hk : vc12 q1 n2 h Q) : AC Tryz.prog 12 [.agg [.sl q1, .int .i64 n2]] h Q :=
 AC_by (H := hintsOf [1] [(0, [3, 4], []), (2, [3, 5], [])]) (by kernel_rfl) (by kernel_rfl) hk
def vc13 (q1 : Option SL) (n2 : Int) (h : Heap) (Q : AV → Heap → Prop) : Prop :=
 vif (decide ((slLen q1 : Int) < 1))
 (Q (.bool false) h)
 (vif (decide ((slLen q1 : Int) > 32))
 (Q (.bool false) h)
 (vif (decide (n2 < 0))
 (Q (.bool false) h)
 (vif (decide (n2 ≥ (slLen q1 : Int)))
 (Q (.bool false) h)
 (∃ (I5 : List AV → Heap → Prop) (m6 : List AV → Heap → Nat), I5 [.int .i64 0, .int .i64 0] h ∧
 ∀ n3 n4 : Int, ∀ h7 : Heap, I5 [.int .i64 n3, .int .i64 n4] h7 →
 vif (decide (n4 < (slLen q1 : Int)))
 (vIdx q1 n4 6 fun p8 =>
 ∃ n9 : Int, ∃ q10 : Option SL, ∃ n11 n12 n13 : Int, ∃ q14 : Option SL, cellsAt h7 p8 6 = some [.int .i64 n9, .sl q10, .int .i64 n11, .int .i64 n12, .int .i64 n13, .sl q14] ∧
 AC Tryz.prog 26 [.agg [.int .i64 n9, .sl q10, .int .i64 n11, .int .i64 n12, .int .i64 n13, .sl q14], .int .i64 n4, .int .i64 (-1)] h7 fun v15 h16 => ∃ b17 : Bool, v15 = .bool b17 ∧
 vif (!b17)
 (Q (.bool false) h16)
 (vIdx q1 n4 6 fun p18 =>
 ∃ n19 : Int, cellsAt h16 ⟨p18.b, p18.o + 0⟩ 1 = some [.int .i64 n19] ∧
 vif (n19 == 9)
 (((some [.sl q1, .int .i64 n2] : Option (List AV)) = some [.sl q1, .int .i64 n2] ∧ True) ∧ I5 [.int .i64 (wrapK .i64 (n3 + 1)), .int .i64 (wrapK .i64 (n4 + 1))] h16 ∧ m6 [.int .i64 (wrapK .i64 (n3 + 1)), .int .i64 (wrapK .i64 (n4 + 1))] h16 < m6 [.int .i64 n3, .int .i64 n4] h7)
 (((some [.sl q1, .int .i64 n2] : Option (List AV)) = some [.sl q1, .int .i64 n2] ∧ True) ∧ I5 [.int .i64 n3, .int .i64 (wrapK .i64 (n4 + 1))] h16 ∧ m6 [.int .i64 n3, .int .i64 (wrapK .i64 (n4 + 1))] h16 < m6 [.int .i64 n3, .int .i64 n4] h7)))
 (Q (.bool (decide (n3 ≤ 1))) h7)))))
theorem ac13 {q1 : Option SL} {n2 : Int} {h : Heap} {Q : AV → Heap → Prop} (hk : vc13 q1 n2 h Q) : AC Tryz.prog 13 [.agg [.sl q1, .int .i64 n2]] h Q :=
 AC_by (H := hintsOf [1] [(0, [3, 4], [])]) (by kernel_rfl) (by kernel_rfl) hk
def vc25 (n1 : Int) (h : Heap) (Q : AV → Heap → Prop) : Prop :=
 vif (decide (n1 ≥ 0))
 (AC Tryz.prog 57 [.int .i64 n1] h fun v2 h3 => ∃ s4 : List UInt8, v2 = .str s4 ∧
 Q (.str s4) h3)
 (vif (decide (n1 < (-4611686018427387904)))
 (Q (.str []) h)
 (AC Tryz.prog 57 [.int .i64 (wrapK .i64 (0 - n1))] h fun v5 h6 => ∃ s7 : List UInt8, v5 = .str s7 ∧
 need (decide ([45].length + s7.length ≤ 9223372036854775807))
 (Q (.str ([45] ++ s7)) h6)))
theorem ac25 {n1 : Int} {h : Heap} {Q : AV → Heap → Prop} (hk : vc25 n1 h Q) : AC Tryz.prog 25 [.int .i64 n1] h Q :=
 AC_by (H := hintsOf [] []) (by kernel_rfl) (by kernel_rfl) hk
def vc26 (n1 : Int) (q2 : Option SL) (n3 : Int) (n4 : Int) (n5 : Int) (q6 : Option SL) (n7 : Int) (n8 : Int) (h : Heap) (Q : AV → Heap → Prop) : Prop :=
 vif (decide (n1 < 1))
 ((LV.val (.tup []) = LV.val (.tup [])) ∧
 Q (.bool false) h)
 (vif (decide (n1 > 11))
 ((LV.val (.tup []) = LV.val (.tup [])) ∧
 Q (.bool false) h)
 (AC Tryz.prog 58 [.int .i64 n1] h fun v9 h10 => ∃ n11 : Int, v9 = .int .i64 n11 ∧
 (LV.val (.sl q2) = LV.val (.sl q2)) ∧
 vif ((slLen q2 : Int) != n11)
 (Q (.bool false) h10)
 (∃ (I13 : List AV → Heap → Prop) (m14 : List AV → Heap → Nat), I13 [.int .i64 0] h10 ∧
 ∀ n12 : Int, ∀ h15 : Heap, I13 [.int .i64 n12] h15 →
 vif (decide (n12 < (slLen q2 : Int)))
 (vIdx q2 n12 1 fun p16 =>
 ∃ n17 : Int, cellsAt h15 p16 1 = some [.int .i64 n17] ∧
 vif (decide (n17 < 0))
 (Q (.bool false) h15)
 (vIdx q2 n12 1 fun p18 =>
 ∃ n19 : Int, cellsAt h15 p18 1 = some [.int .i64 n19] ∧
 vif (decide (n19 ≥ n7))
 (Q (.bool false) h15)
 (((some [.int .i64 n1, .sl q2, .int .i64 n3, .int .i64 n4, .int .i64 n5, .sl q6] : Option (List AV)) = some [.int .i64 n1, .sl q2, .int .i64 n3, .int .i64 n4, .int .i64 n5, .sl q6] ∧ True) ∧ I13 [.int .i64 (wrapK .i64 (n12 + 1))] h15 ∧ m14 [.int .i64 (wrapK .i64 (n12 + 1))] h15 < m14 [.int .i64 n12] h15)))
 (AC Tryz.prog 59 [.int .i64 n1] h15 fun v20 h21 => ∃ n22 : Int, v20 = .int .i64 n22 ∧
 vif (decide (n22 > 0))
 (AC Tryz.prog 60 [.agg [.int .i64 n3, .int .i64 n4]] h21 fun v23 h24 => ∃ n25 : Int, v23 = .int .i64 n25 ∧
 (LV.val (.int .i64 n1) = LV.val (.int .i64 n1)) ∧
 AC Tryz.prog 59 [.int .i64 n1] h24 fun v26 h27 => ∃ n28 : Int, v26 = .int .i64 n28 ∧
 vif (n25 != n28)
 (Q (.bool false) h27)
 (AC Tryz.prog 59 [.int .i64 n1] h27 fun v29 h30 => ∃ n31 : Int, v29 = .int .i64 n31 ∧
 vif (n31 == 0)
 (vif (!((n3 == 0) && ((n4 == 0) && true)))
 (Q (.bool false) h30)
 (vif (n1 != 9)
 (vif (decide ((slLen q6 : Int) > 0))
 (Q (.bool false) h30)
 (vif (n1 == 1)
 (vif (decide (n8 < 0))
 (vif (decide (n5 ≥ 0))
 (Q (.bool (decide (n5 < 4))) h30)
 (Q (.bool false) h30))
 (Q (.bool false) h30))
 (vif (n1 == 9)
 (vif (decide (n8 < 0))
 (vif (decide (n5 ≥ 1))
 (vif (decide (n5 ≤ 64))
 (AC Tryz.prog 61 [.sl q6, .int .i64 n7] h30 fun v32 h33 => ∃ b34 : Bool, v32 = .bool b34 ∧
 Q (.bool b34) h33)
 (Q (.bool false) h30))
 (Q (.bool false) h30))
 (Q (.bool false) h30))
 (vif (n1 == 10)
 (vif (decide (n8 ≥ 0))
 (Q (.bool (n5 == 0)) h30)
 (Q (.bool false) h30))
 (vif (n1 == 11)
 (vif (decide (n8 ≥ 0))
 (vif (decide (n5 ≥ 0))
 (Q (.bool (decide (n5 < n8))) h30)
 (Q (.bool false) h30))
 (Q (.bool false) h30))
 (Q (.bool (n5 == 0)) h30))))))
 (vif (n1 == 1)
 (vif (decide (n8 < 0))
 (vif (decide (n5 ≥ 0))
 (Q (.bool (decide (n5 < 4))) h30)
 (Q (.bool false) h30))
 (Q (.bool false) h30))
 (vif (n1 == 9)
 (vif (decide (n8 < 0))
 (vif (decide (n5 ≥ 1))
 (vif (decide (n5 ≤ 64))
 (AC Tryz.prog 61 [.sl q6, .int .i64 n7] h30 fun v35 h36 => ∃ b37 : Bool, v35 = .bool b37 ∧
 Q (.bool b37) h36)
 (Q (.bool false) h30))
 (Q (.bool false) h30))
 (Q (.bool false) h30))
 (vif (n1 == 10)
 (vif (decide (n8 ≥ 0))
 (Q (.bool (n5 == 0)) h30)
 (Q (.bool false) h30))
 (vif (n1 == 11)
 (vif (decide (n8 ≥ 0))
 (vif (decide (n5 ≥ 0))
 (Q (.bool (decide (n5 < n8))) h30)
 (Q (.bool false) h30))
 (Q (.bool false) h30))
 (Q (.bool (n5 == 0)) h30)))))))
 (vif (n1 != 9)
 (vif (decide ((slLen q6 : Int) > 0))
 (Q (.bool false) h30)
 (vif (n1 == 1)
 (vif (decide (n8 < 0))
 (vif (decide (n5 ≥ 0))
 (Q (.bool (decide (n5 < 4))) h30)
 (Q (.bool false) h30))
 (Q (.bool false) h30))
 (vif (n1 == 9)
 (vif (decide (n8 < 0))
 (vif (decide (n5 ≥ 1))
 (vif (decide (n5 ≤ 64))
 (AC Tryz.prog 61 [.sl q6, .int .i64 n7] h30 fun v38 h39 => ∃ b40 : Bool, v38 = .bool b40 ∧
 Q (.bool b40) h39)
 (Q (.bool false) h30))
 (Q (.bool false) h30))
 (Q (.bool false) h30))
 (vif (n1 == 10)
 (vif (decide (n8 ≥ 0))
 (Q (.bool (n5 == 0)) h30)
 (Q (.bool false) h30))
 (vif (n1 == 11)
 (vif (decide (n8 ≥ 0))
 (vif (decide (n5 ≥ 0))
 (Q (.bool (decide (n5 < n8))) h30)
 (Q (.bool false) h30))
 (Q (.bool false) h30))
 (Q (.bool (n5 == 0)) h30))))))
 (vif (n1 == 1)
 (vif (decide (n8 < 0))
 (vif (decide (n5 ≥ 0))
 (Q (.bool (decide (n5 < 4))) h30)
 (Q (.bool false) h30))
 (Q (.bool false) h30))
 (vif (n1 == 9)
 (vif (decide (n8 < 0))
 (vif (decide (n5 ≥ 1))
 (vif (decide (n5 ≤ 64))
 (AC Tryz.prog 61 [.sl q6, .int .i64 n7] h30 fun v41 h42 => ∃ b43 : Bool, v41 = .bool b43 ∧
 Q (.bool b43) h42)
 (Q (.bool false) h30))
 (Q (.bool false) h30))
 (Q (.bool false) h30))
 (vif (n1 == 10)
 (vif (decide (n8 ≥ 0))
 (Q (.bool (n5 == 0)) h30)
 (Q (.bool false) h30))
 (vif (n1 == 11)
 (vif (decide (n8 ≥ 0))
 (vif (decide (n5 ≥ 0))
 (Q (.bool (decide (n5 < n8))) h30)
 (Q (.bool false) h30))
 (Q (.bool false) h30))
 (Q (.bool (n5 == 0)) h30))))))))
 ((LV.val (.tup []) = LV.val (.tup [])) ∧
 AC Tryz.prog 59 [.int .i64 n1] h21 fun v44 h45 => ∃ n46 : Int, v44 = .int .i64 n46 ∧
 vif (n46 == 0)
 (vif (!((n3 == 0) && ((n4 == 0) && true)))
 (Q (.bool false) h45)
 (vif (n1 != 9)
 (vif (decide ((slLen q6 : Int) > 0))
 (Q (.bool false) h45)
 (vif (n1 == 1)
 (vif (decide (n8 < 0))
 (vif (decide (n5 ≥ 0))
 (Q (.bool (decide (n5 < 4))) h45)
 (Q (.bool false) h45))
 (Q (.bool false) h45))
 (vif (n1 == 9)
 (vif (decide (n8 < 0))
 (vif (decide (n5 ≥ 1))
 (vif (decide (n5 ≤ 64))
 (AC Tryz.prog 61 [.sl q6, .int .i64 n7] h45 fun v47 h48 => ∃ b49 : Bool, v47 = .bool b49 ∧
 Q (.bool b49) h48)
 (Q (.bool false) h45))
 (Q (.bool false) h45))
 (Q (.bool false) h45))
 (vif (n1 == 10)
 (vif (decide (n8 ≥ 0))
 (Q (.bool (n5 == 0)) h45)
 (Q (.bool false) h45))
 (vif (n1 == 11)
 (vif (decide (n8 ≥ 0))
 (vif (decide (n5 ≥ 0))
 (Q (.bool (decide (n5 < n8))) h45)
 (Q (.bool false) h45))
 (Q (.bool false) h45))
 (Q (.bool (n5 == 0)) h45))))))
 (vif (n1 == 1)
 (vif (decide (n8 < 0))
 (vif (decide (n5 ≥ 0))
 (Q (.bool (decide (n5 < 4))) h45)
 (Q (.bool false) h45))
 (Q (.bool false) h45))
 (vif (n1 == 9)
 (vif (decide (n8 < 0))
 (vif (decide (n5 ≥ 1))
 (vif (decide (n5 ≤ 64))
 (AC Tryz.prog 61 [.sl q6, .int .i64 n7] h45 fun v50 h51 => ∃ b52 : Bool, v50 = .bool b52 ∧
 Q (.bool b52) h51)
 (Q (.bool false) h45))
 (Q (.bool false) h45))
 (Q (.bool false) h45))
 (vif (n1 == 10)
 (vif (decide (n8 ≥ 0))
 (Q (.bool (n5 == 0)) h45)
 (Q (.bool false) h45))
 (vif (n1 == 11)
 (vif (decide (n8 ≥ 0))
 (vif (decide (n5 ≥ 0))
 (Q (.bool (decide (n5 < n8))) h45)
 (Q (.bool false) h45))
 (Q (.bool false) h45))
 (Q (.bool (n5 == 0)) h45)))))))
 (vif (n1 != 9)
 (vif (decide ((slLen q6 : Int) > 0))
 (Q (.bool false) h45)
 (vif (n1 == 1)
 (vif (decide (n8 < 0))
 (vif (decide (n5 ≥ 0))
 (Q (.bool (decide (n5 < 4))) h45)
 (Q (.bool false) h45))
 (Q (.bool false) h45))
 (vif (n1 == 9)
 (vif (decide (n8 < 0))
 (vif (decide (n5 ≥ 1))
 (vif (decide (n5 ≤ 64))
 (AC Tryz.prog 61 [.sl q6, .int .i64 n7] h45 fun v53 h54 => ∃ b55 : Bool, v53 = .bool b55 ∧
 Q (.bool b55) h54)
 (Q (.bool false) h45))
 (Q (.bool false) h45))
 (Q (.bool false) h45))
 (vif (n1 == 10)
 (vif (decide (n8 ≥ 0))
 (Q (.bool (n5 == 0)) h45)
 (Q (.bool false) h45))
 (vif (n1 == 11)
 (vif (decide (n8 ≥ 0))
 (vif (decide (n5 ≥ 0))
 (Q (.bool (decide (n5 < n8))) h45)
 (Q (.bool false) h45))
 (Q (.bool false) h45))
 (Q (.bool (n5 == 0)) h45))))))
 (vif (n1 == 1)
 (vif (decide (n8 < 0))
 (vif (decide (n5 ≥ 0))
 (Q (.bool (decide (n5 < 4))) h45)
 (Q (.bool false) h45))
 (Q (.bool false) h45))
 (vif (n1 == 9)
 (vif (decide (n8 < 0))
 (vif (decide (n5 ≥ 1))
 (vif (decide (n5 ≤ 64))
 (AC Tryz.prog 61 [.sl q6, .int .i64 n7] h45 fun v56 h57 => ∃ b58 : Bool, v56 = .bool b58 ∧
 Q (.bool b58) h57)
 (Q (.bool false) h45))
 (Q (.bool false) h45))
 (Q (.bool false) h45))
 (vif (n1 == 10)
 (vif (decide (n8 ≥ 0))
 (Q (.bool (n5 == 0)) h45)
 (Q (.bool false) h45))
 (vif (n1 == 11)
 (vif (decide (n8 ≥ 0))
 (vif (decide (n5 ≥ 0))
 (Q (.bool (decide (n5 < n8))) h45)
 (Q (.bool false) h45))
 (Q (.bool false) h45))
 (Q (.bool (n5 == 0)) h45)))))))))))
theorem ac26 {n1 : Int} {q2 : Option SL} {n3 : Int} {n4 : Int} {n5 : Int} {q6 : Option SL} {n7 : Int} {n8 : Int} {h : Heap} {Q : AV → Heap → Prop} (hk : vc26 n1 q2 n3 n4 n5 q6 n7 n8 h Q) : AC Tryz.prog 26 [.agg [.int .i64 n1, .sl q2, .int .i64 n3, .int .i64 n4, .int .i64 n5, .sl q6], .int .i64 n7, .int .i64 n8] h Q :=
 AC_by (H := hintsOf [3] [(0, [7], [])]) (by kernel_rfl) (by kernel_rfl) hk
def vc57 (n1 : Int) (h : Heap) (Q : AV → Heap → Prop) : Prop :=
 ∃ (I4 : List AV → Heap → Prop) (m5 : List AV → Heap → Nat), I4 [.int .i64 n1, .str []] h ∧
 ∀ n2 : Int, ∀ s3 : List UInt8, ∀ h6 : Heap, I4 [.int .i64 n2, .str s3] h6 →
 vif (decide (n2 > 0))
 (strSlice [48, 49, 50, 51, 52, 53, 54, 55, 56, 57] (Int.tmod n2 10) (some (wrapK .i64 ((Int.tmod n2 10) + 1))) fun s7 =>
 need (decide (s7.length + s3.length ≤ 9223372036854775807))
 ((True) ∧ I4 [.int .i64 (wrapK .i64 (Int.tdiv n2 10)), .str (s7 ++ s3)] h6 ∧ m5 [.int .i64 (wrapK .i64 (Int.tdiv n2 10)), .str (s7 ++ s3)] h6 < m5 [.int .i64 n2, .str s3] h6))
 (vif (s3 == [])
 (strSlice [48, 49, 50, 51, 52, 53, 54, 55, 56, 57] (Int.tmod n2 10) (some (wrapK .i64 ((Int.tmod n2 10) + 1))) fun s8 =>
 need (decide (s8.length + s3.length ≤ 9223372036854775807))
 ((True) ∧ I4 [.int .i64 (wrapK .i64 (Int.tdiv n2 10)), .str (s8 ++ s3)] h6 ∧ m5 [.int .i64 (wrapK .i64 (Int.tdiv n2 10)), .str (s8 ++ s3)] h6 < m5 [.int .i64 n2, .str s3] h6))
 (Q (.str s3) h6))
theorem ac57 {n1 : Int} {h : Heap} {Q : AV → Heap → Prop} (hk : vc57 n1 h Q) : AC Tryz.prog 57 [.int .i64 n1] h Q :=
 AC_by (H := hintsOf [] [(0, [0, 3], [])]) (by kernel_rfl) (by kernel_rfl) hk
def vc58 (n1 : Int) (h : Heap) (Q : AV → Heap → Prop) : Prop :=
 vif (n1 == 2)
 (Q (.int .i64 1) h)
 (vif (n1 == 3)
 (Q (.int .i64 1) h)
 (vif (n1 == 4)
 (Q (.int .i64 1) h)
 (vif (n1 == 5)
 (Q (.int .i64 1) h)
 (vif (n1 == 7)
 (Q (.int .i64 1) h)
 (vif (n1 == 9)
 (Q (.int .i64 1) h)
 (vif (n1 == 6)
 (Q (.int .i64 2) h)
 (vif (n1 == 8)
 (Q (.int .i64 2) h)
 (Q (.int .i64 0) h))))))))
theorem ac58 {n1 : Int} {h : Heap} {Q : AV → Heap → Prop} (hk : vc58 n1 h Q) : AC Tryz.prog 58 [.int .i64 n1] h Q :=
 AC_by (H := hintsOf [] []) (by kernel_rfl) (by kernel_rfl) hk
def vc59 (n1 : Int) (h : Heap) (Q : AV → Heap → Prop) : Prop :=
 vif (n1 == 2)
 (Q (.int .i64 1) h)
 (vif (n1 == 3)
 (Q (.int .i64 2) h)
 (vif (n1 == 4)
 (Q (.int .i64 3) h)
 (vif (n1 == 5)
 (Q (.int .i64 4) h)
 (vif (n1 == 6)
 (Q (.int .i64 5) h)
 (Q (.int .i64 0) h)))))
theorem ac59 {n1 : Int} {h : Heap} {Q : AV → Heap → Prop} (hk : vc59 n1 h Q) : AC Tryz.prog 59 [.int .i64 n1] h Q :=
 AC_by (H := hintsOf [] []) (by kernel_rfl) (by kernel_rfl) hk
def vc61 (q1 : Option SL) (n2 : Int) (h : Heap) (Q : AV → Heap → Prop) : Prop :=
 vif (decide ((slLen q1 : Int) < 1))
 (Q (.bool false) h)
 (vif (decide ((slLen q1 : Int) > 32))
 (Q (.bool false) h)
 (∃ (I4 : List AV → Heap → Prop) (m5 : List AV → Heap → Nat), I4 [.int .i64 0] h ∧
 ∀ n3 : Int, ∀ h6 : Heap, I4 [.int .i64 n3] h6 →
 vif (decide (n3 < (slLen q1 : Int)))
 (vIdx q1 n3 6 fun p7 =>
 ∃ n8 : Int, ∃ q9 : Option SL, ∃ n10 n11 n12 : Int, ∃ q13 : Option SL, cellsAt h6 p7 6 = some [.int .i64 n8, .sl q9, .int .i64 n10, .int .i64 n11, .int .i64 n12, .sl q13] ∧
 AC Tryz.prog 26 [.agg [.int .i64 n8, .sl q9, .int .i64 n10, .int .i64 n11, .int .i64 n12, .sl q13], .int .i64 n3, .int .i64 n2] h6 fun v14 h15 => ∃ b16 : Bool, v14 = .bool b16 ∧
 vif (!b16)
 (Q (.bool false) h15)
 ((True) ∧ I4 [.int .i64 (wrapK .i64 (n3 + 1))] h15 ∧ m5 [.int .i64 (wrapK .i64 (n3 + 1))] h15 < m5 [.int .i64 n3] h6))
 (Q (.bool true) h6)))
theorem ac61 {q1 : Option SL} {n2 : Int} {h : Heap} {Q : AV → Heap → Prop} (hk : vc61 q1 n2 h Q) : AC Tryz.prog 61 [.sl q1, .int .i64 n2] h Q :=
 AC_by (H := hintsOf [] [(0, [5], [])]) (by kernel_rfl) (by kernel_rfl) hk
def vc60 (n1 : Int) (n2 : Int) (h : Heap) (Q : AV → Heap → Prop) : Prop :=
 vif (decide (n2 < 0))
 (Q (.int .i64 0) h)
 (vif (decide (n2 ≥ 1048576))
 (Q (.int .i64 0) h)
 (vif (n1 == 1)
 (Q (.int .i64 1) h)
 (vif (n1 == 2)
 (Q (.int .i64 1) h)
 (vif (n1 == 7)
 (Q (.int .i64 1) h)
 (vif (n1 == 8)
 (Q (.int .i64 1) h)
 (vif (n1 == 4)
 (vif (decide (n2 ≥ 1))
 (Q (.int .i64 1) h)
 (vif (n2 != 0)
 (Q (.int .i64 0) h)
 (vif (n1 == 3)
 (Q (.int .i64 1) h)
 (vif (n1 == 12)
 (Q (.int .i64 2) h)
 (vif (n1 == 15)
 (Q (.int .i64 3) h)
 (vif (n1 == 16)
 (Q (.int .i64 4) h)
 (vif (n1 == 17)
 (Q (.int .i64 4) h)
 (vif (n1 == 18)
 (Q (.int .i64 4) h)
 (vif (n1 == 19)
 (Q (.int .i64 4) h)
 (vif (n1 == 20)
 (Q (.int .i64 5) h)
 (vif (n1 == 21)
 (Q (.int .i64 5) h)
 (vif (n1 == 22)
 (Q (.int .i64 5) h)
 (vif (n1 == 23)
 (Q (.int .i64 5) h)
 (Q (.int .i64 0) h))))))))))))))
 (vif (n1 == 5)
 (vif (decide (n2 ≥ 1))
 (Q (.int .i64 1) h)
 (vif (n2 != 0)
 (Q (.int .i64 0) h)
 (vif (n1 == 3)
 (Q (.int .i64 1) h)
 (vif (n1 == 12)
 (Q (.int .i64 2) h)
 (vif (n1 == 15)
 (Q (.int .i64 3) h)
 (vif (n1 == 16)
 (Q (.int .i64 4) h)
 (vif (n1 == 17)
 (Q (.int .i64 4) h)
 (vif (n1 == 18)
 (Q (.int .i64 4) h)
 (vif (n1 == 19)
 (Q (.int .i64 4) h)
 (vif (n1 == 20)
 (Q (.int .i64 5) h)
 (vif (n1 == 21)
 (Q (.int .i64 5) h)
 (vif (n1 == 22)
 (Q (.int .i64 5) h)
 (vif (n1 == 23)
 (Q (.int .i64 5) h)
 (Q (.int .i64 0) h))))))))))))))
 (vif (n1 == 6)
 (vif (decide (n2 ≥ 1))
 (Q (.int .i64 1) h)
 (vif (n2 != 0)
 (Q (.int .i64 0) h)
 (vif (n1 == 3)
 (Q (.int .i64 1) h)
 (vif (n1 == 12)
 (Q (.int .i64 2) h)
 (vif (n1 == 15)
 (Q (.int .i64 3) h)
 (vif (n1 == 16)
 (Q (.int .i64 4) h)
 (vif (n1 == 17)
 (Q (.int .i64 4) h)
 (vif (n1 == 18)
 (Q (.int .i64 4) h)
 (vif (n1 == 19)
 (Q (.int .i64 4) h)
 (vif (n1 == 20)
 (Q (.int .i64 5) h)
 (vif (n1 == 21)
 (Q (.int .i64 5) h)
 (vif (n1 == 22)
 (Q (.int .i64 5) h)
 (vif (n1 == 23)
 (Q (.int .i64 5) h)
 (Q (.int .i64 0) h))))))))))))))
 (vif (n1 == 9)
 (Q (.int .i64 2) h)
 (vif (n1 == 10)
 (Q (.int .i64 2) h)
 (vif (n1 == 11)
 (Q (.int .i64 2) h)
 (vif (n1 == 13)
 (vif (decide (n2 ≤ 8))
 (Q (.int .i64 3) h)
 (vif (n2 != 0)
 (Q (.int .i64 0) h)
 (vif (n1 == 3)
 (Q (.int .i64 1) h)
 (vif (n1 == 12)
 (Q (.int .i64 2) h)
 (vif (n1 == 15)
 (Q (.int .i64 3) h)
 (vif (n1 == 16)
 (Q (.int .i64 4) h)
 (vif (n1 == 17)
 (Q (.int .i64 4) h)
 (vif (n1 == 18)
 (Q (.int .i64 4) h)
 (vif (n1 == 19)
 (Q (.int .i64 4) h)
 (vif (n1 == 20)
 (Q (.int .i64 5) h)
 (vif (n1 == 21)
 (Q (.int .i64 5) h)
 (vif (n1 == 22)
 (Q (.int .i64 5) h)
 (vif (n1 == 23)
 (Q (.int .i64 5) h)
 (Q (.int .i64 0) h))))))))))))))
 (vif (n1 == 14)
 (vif (decide (n2 ≤ 8))
 (Q (.int .i64 3) h)
 (vif (n2 != 0)
 (Q (.int .i64 0) h)
 (vif (n1 == 3)
 (Q (.int .i64 1) h)
 (vif (n1 == 12)
 (Q (.int .i64 2) h)
 (vif (n1 == 15)
 (Q (.int .i64 3) h)
 (vif (n1 == 16)
 (Q (.int .i64 4) h)
 (vif (n1 == 17)
 (Q (.int .i64 4) h)
 (vif (n1 == 18)
 (Q (.int .i64 4) h)
 (vif (n1 == 19)
 (Q (.int .i64 4) h)
 (vif (n1 == 20)
 (Q (.int .i64 5) h)
 (vif (n1 == 21)
 (Q (.int .i64 5) h)
 (vif (n1 == 22)
 (Q (.int .i64 5) h)
 (vif (n1 == 23)
 (Q (.int .i64 5) h)
 (Q (.int .i64 0) h))))))))))))))
 (vif (n2 != 0)
 (Q (.int .i64 0) h)
 (vif (n1 == 3)
 (Q (.int .i64 1) h)
 (vif (n1 == 12)
 (Q (.int .i64 2) h)
 (vif (n1 == 15)
 (Q (.int .i64 3) h)
 (vif (n1 == 16)
 (Q (.int .i64 4) h)
 (vif (n1 == 17)
 (Q (.int .i64 4) h)
 (vif (n1 == 18)
 (Q (.int .i64 4) h)
 (vif (n1 == 19)
 (Q (.int .i64 4) h)
 (vif (n1 == 20)
 (Q (.int .i64 5) h)
 (vif (n1 == 21)
 (Q (.int .i64 5) h)
 (vif (n1 == 22)
 (Q (.int .i64 5) h)
 (vif (n1 == 23)
 (Q (.int .i64 5) h)
 (Q (.int .i64 0) h))))))))))))))))))))))))))
theorem ac60 {n1 : Int} {n2 : Int} {h : Heap} {Q : AV → Heap → Prop} (hk : vc60 n1 n2 h Q) : AC Tryz.prog 60 [.agg [.int .i64 n1, .int .i64 n2]] h Q :=
 AC_by (H := hintsOf [1] []) (by kernel_rfl) (by kernel_rfl) hk
end Go.Proofs
namespace Go.Proofs.YtjackggnnjdhmaaGreatDoor
open Go.Ab Go.Proofs
set_option linter.unusedVariables false
set_option linter.unusedSimpArgs false
def left (n : Nat) : List AV → Heap → Nat := fun xs _ => match xs with | [.int _ i] => (n - i).toNat | _ => 0
def Sized : Nat → List NT → Prop
  | 0, _ => False
  | m + 1, l => l.length ≤ 40 ∧ ∀ n ∈ l, n.ins.length ≤ 40 ∧ (n.body ≠ [] → Sized m n.body)
structure Short (l : List NT) : Prop where
  len : l.length ≤ 40
  ins : ∀ n ∈ l, n.ins.length ≤ 40
  bod : ∀ n ∈ l, n.body.length ≤ 40
  bin : ∀ n ∈ l, ∀ m ∈ n.body, m.ins.length ≤ 40
theorem Sized.short {l : List NT} (h : Sized 4 l) : Short l := by
  refine ⟨h.1, fun n hn => (h.2 n hn).1, fun n hn => ?_, fun n hn m hm => ?_⟩
  · cases hb : n.body with
    | nil => simp
    | cons x t => exact hb ▸ ((h.2 n hn).2 (by rw [hb]; simp)).1
  · have := (h.2 n hn).2 (by intro e; rw [e] at hm; simp at hm)
    exact (this.2 m hm).1
section
variable {h : Heap}
theorem d8 : ∀ (d : Nat) {l : List NT} {q : Option SL} {Q : AV → Heap → Prop}, d ≤ 4 → NodesR h q l → (∀ b, (b = false → Sized d l) → Q (.bool b) h) → AC Tryz.prog 8 [.sl q, .int .i64 (4 - d : Int)] h Q := by
  intro d
  induction d with
  | zero => intro l q Q hd R hQ; exact ac8 (by
    unfold vc8
    rw [R.len]
    exact vif_mk (fun _ => hQ _ (by simp)) (fun _ => vif_mk (fun _ => hQ _ (by simp)) (fun g => by simp at g)))
  | succ d ih => intro l q Q hd R hQ; exact ac8 (by
    unfold vc8
    rw [R.len]
    refine vif_mk (fun _ => hQ _ (by simp)) (fun g => vif_mk (fun _ => hQ _ (by simp)) (fun g1 => ?_))
    have g := of_decide_eq_false g
    refine ⟨fun xs h6 => h6 = h ∧ ∃ i : Nat, xs = [.int .i64 i] ∧ i ≤ l.length ∧ ∀ n ∈ l.take i, n.ins.length ≤ 40 ∧ (n.body ≠ [] → Sized d n.body), left l.length, ⟨rfl, 0, rfl, by omega, by simp⟩, ?_⟩
    rintro n3 h6 ⟨rfl, i, hx, hi, ha⟩
    simp only [List.cons.injEq, AV.int.injEq, true_and, and_true] at hx
    subst hx
    refine vif_mk (fun g2 => ?_) (fun g2 => ?_)
    · replace g2 := of_decide_eq_true g2
      have step : ∀ n, l[i]? = some n → n.ins.length ≤ 40 → (n.body ≠ [] → Sized d n.body) → (∀ m ∈ l.take (i + 1), m.ins.length ≤ 40 ∧ (m.body ≠ [] → Sized d m.body)) := fun n hn h1 h2 m hm => by
        rw [List.take_add_one, hn] at hm
        rcases List.mem_append.1 hm with hm | hm
        · exact ha m hm
        · simp only [Option.toList_some, List.mem_singleton] at hm
          subst hm; exact ⟨h1, h2⟩
      rw [wrapK_i64 (n := (i : Int) + 1) ⟨by omega, by omega⟩]
      refine R.idx (i := i) (by omega) rfl fun p c n hn hc Rn => ⟨c.qi, cellsAt_sub (k := 1) (m := 1) hc (by omega), ?_⟩
      rw [Rn.ins.len]
      refine vif_mk (fun _ => hQ _ (by simp)) (fun g3 => ?_)
      have g3 := of_decide_eq_false g3
      refine R.idx (i := i) (by omega) rfl fun p c n2 hn2 hc Rn2 => ⟨c.qb, cellsAt_sub (k := 5) (m := 1) hc (by omega), ?_⟩
      rw [hn] at hn2; cases hn2
      rw [Rn2.body.len]
      refine vif_mk (fun g4 => ?_) (fun g4 => ?_)
      · refine R.idx (i := i) (by omega) rfl fun p c n2 hn2 hc Rn3 => ⟨c.qb, cellsAt_sub (k := 5) (m := 1) hc (by omega), ?_⟩
        rw [hn] at hn2; cases hn2
        have e : wrapK .i64 ((4 - ((d + 1 : Nat) : Int)) + 1) = (4 - (d : Int)) := by rw [wrapK_i64 ⟨by omega, by omega⟩]; omega
        rw [e]
        refine ih (by omega) Rn3.body fun b hb => ⟨b, rfl, vif_mk (fun _ => hQ _ (by simp)) (fun g5 => ?_)⟩
        exact ⟨trivial, ⟨rfl, i + 1, by simp, by omega, step n hn (by omega) (fun _ => hb g5)⟩, by simp only [left]; omega⟩
      · have g4 := of_decide_eq_false g4
        have e : n.body = [] := List.eq_nil_of_length_eq_zero (by omega)
        exact ⟨trivial, ⟨rfl, i + 1, by simp, by omega, step n hn (by omega) (fun hne => absurd e hne)⟩, by simp only [left]; omega⟩
    · replace g2 := of_decide_eq_false g2
      have e : l.take i = l := List.take_of_length_le (by omega)
      rw [e] at ha
      exact hQ _ fun _ => ⟨by omega, ha⟩)
end
section
variable {h : Heap} {Q : AV → Heap → Prop} {q qi qb : Option SL} {op k a A i loop : Int} {n : NT} {c : NC} {l : List NT} {out : Int}
theorem d58 (hQ : ∀ m, Q (.int .i64 m) h) : AC Tryz.prog 58 [.int .i64 op] h Q := ac58 (by
  unfold vc58
  repeat' (first | exact hQ _ | refine vif_mk (fun _ => ?_) (fun _ => ?_)))
theorem d59 (hQ : ∀ m, Q (.int .i64 m) h) : AC Tryz.prog 59 [.int .i64 op] h Q := ac59 (by
  unfold vc59
  repeat' (first | exact hQ _ | refine vif_mk (fun _ => ?_) (fun _ => ?_)))
theorem d60 (hQ : ∀ m, Q (.int .i64 m) h) : AC Tryz.prog 60 [.agg [.int .i64 k, .int .i64 a]] h Q := ac60 (by
  unfold vc60
  repeat' (first | exact hQ _ | refine vif_mk (fun _ => ?_) (fun _ => ?_)))
theorem tail26 (h61 : loop < 0 → op = 9 → ∀ {Q' : AV → Heap → Prop}, (∀ b, Q' (.bool b) h) → AC Tryz.prog 61 [.sl qb, .int .i64 i] h Q') (hq : ∀ b, Q (.bool b) h) :
    vif (op == 1)
     (vif (decide (loop < 0))
     (vif (decide (A ≥ 0))
     (Q (.bool (decide (A < 4))) h)
     (Q (.bool false) h))
     (Q (.bool false) h))
     (vif (op == 9)
     (vif (decide (loop < 0))
     (vif (decide (A ≥ 1))
     (vif (decide (A ≤ 64))
     (AC Tryz.prog 61 [.sl qb, .int .i64 i] h fun v32 h33 => ∃ b34 : Bool, v32 = .bool b34 ∧
     Q (.bool b34) h33)
     (Q (.bool false) h))
     (Q (.bool false) h))
     (Q (.bool false) h))
     (vif (op == 10)
     (vif (decide (loop ≥ 0))
     (Q (.bool (A == 0)) h)
     (Q (.bool false) h))
     (vif (op == 11)
     (vif (decide (loop ≥ 0))
     (vif (decide (A ≥ 0))
     (Q (.bool (decide (A < loop))) h)
     (Q (.bool false) h))
     (Q (.bool false) h))
     (Q (.bool (A == 0)) h)))) := by
  refine vif_mk (fun _ => ?_) (fun _ => vif_mk (fun g9 => ?_) (fun _ => ?_))
  · repeat' (first | exact hq _ | refine vif_mk (fun _ => ?_) (fun _ => ?_))
  · refine vif_mk (fun g => ?_) (fun _ => hq _)
    have g := of_decide_eq_true g
    have g9 : op = 9 := by simpa using g9
    refine vif_mk (fun _ => vif_mk (fun _ => ?_) (fun _ => hq _)) (fun _ => hq _)
    exact h61 g g9 fun b => ⟨b, rfl, hq b⟩
  · repeat' (first | exact hq _ | refine vif_mk (fun _ => ?_) (fun _ => ?_))
theorem cas26 {N : Prop} (h0 : Q (.bool false) h) (hN : (op = 9 ∨ slLen qb = 0) → N) : vif (op != 9) (vif (decide ((slLen qb : Int) > 0)) (Q (.bool false) h) N) N := by
  refine vif_mk (fun _ => vif_mk (fun _ => h0) (fun g => hN (.inr ?_))) (fun g => hN (.inl ?_))
  · have g := of_decide_eq_false g; omega
  · simpa using g
set_option maxRecDepth 20000 in
theorem d26 (R : NodeR h c n) (hi : n.ins.length ≤ 40) (h61 : loop < 0 → c.op = 9 → ∀ {Q' : AV → Heap → Prop}, (∀ b, Q' (.bool b) h) → AC Tryz.prog 61 [.sl c.qb, .int .i64 i] h Q')
    (hQ : ∀ b, (b = true → c.op = 9 ∨ slLen c.qb = 0) → Q (.bool b) h) : AC Tryz.prog 26 [.agg c.cs, .int .i64 i, .int .i64 loop] h Q := ac26 (by
  unfold vc26
  have no : Q (.bool false) h := hQ _ (by simp)
  refine vif_mk (fun _ => ⟨rfl, no⟩) (fun _ => vif_mk (fun _ => ⟨rfl, no⟩) (fun _ => ?_))
  refine d58 fun m => ⟨m, rfl, rfl, ?_⟩
  rw [R.ins.len]
  refine vif_mk (fun _ => no) (fun _ => ?_)
  refine ⟨fun xs h6 => h6 = h ∧ ∃ j : Nat, xs = [.int .i64 j] ∧ j ≤ n.ins.length, left n.ins.length, ⟨rfl, 0, rfl, by omega⟩, ?_⟩
  rintro n3 h6 ⟨rfl, j, hx, hj⟩
  simp only [List.cons.injEq, AV.int.injEq, true_and, and_true] at hx
  subst hx
  refine vif_mk (fun g3 => ?_) (fun g3 => ?_)
  · replace g3 := of_decide_eq_true g3
    have at1 : ∀ {K : PA → Prop}, (∀ p x, cellsAt h6 p 1 = some [.int .i64 x] → K p) → vIdx c.qi (j : Int) 1 K := fun hK => R.ins.idx (E := intE) (by omega) (by omega) fun p y hy hc => hK p y hc
    refine at1 fun p x hp => ⟨x, hp, vif_mk (fun _ => no) (fun _ => at1 fun p x hp => ⟨x, hp, vif_mk (fun _ => no) (fun _ => ?_)⟩)⟩
    rw [wrapK_i64 ⟨by omega, by omega⟩]
    exact ⟨⟨rfl, trivial⟩, ⟨rfl, j + 1, by simp, by omega⟩, by simp only [left]; omega⟩
  · have ok : (c.op = 9 ∨ slLen c.qb = 0) → ∀ b, Q (.bool b) h6 := fun hx b => hQ b fun _ => hx
    have fin := fun hx => tail26 (A := c.A) (i := i) (qb := c.qb) (op := c.op) (loop := loop) (h := h6) h61 (ok hx)
    refine d59 fun m => ⟨m, rfl, vif_mk (fun _ => ?_) (fun _ => ⟨rfl, ?_⟩)⟩
    · refine d60 fun m => ⟨m, rfl, rfl, d59 fun m2 => ⟨m2, rfl, vif_mk (fun _ => no) (fun _ => ?_)⟩⟩
      refine d59 fun m3 => ⟨m3, rfl, vif_mk (fun _ => vif_mk (fun _ => no) (fun _ => ?_)) (fun _ => ?_)⟩
      · exact cas26 no fin
      · exact cas26 no fin
    · refine d59 fun m3 => ⟨m3, rfl, vif_mk (fun _ => vif_mk (fun _ => no) (fun _ => ?_)) (fun _ => ?_)⟩
      · exact cas26 no fin
      · exact cas26 no fin)
theorem d61 {at0 : Int} (R : NodesR h q l) (hl : l.length ≤ 40) (hi : ∀ n ∈ l, n.ins.length ≤ 40) (h0 : 0 ≤ at0) (hQ : ∀ b, Q (.bool b) h) : AC Tryz.prog 61 [.sl q, .int .i64 at0] h Q := ac61 (by
  unfold vc61
  rw [R.len]
  refine vif_mk (fun _ => hQ _) (fun _ => vif_mk (fun _ => hQ _) (fun _ => ?_))
  refine ⟨fun xs h6 => h6 = h ∧ ∃ j : Nat, xs = [.int .i64 j] ∧ j ≤ l.length, left l.length, ⟨rfl, 0, rfl, by omega⟩, ?_⟩
  rintro n3 h6 ⟨rfl, j, hx, hj⟩
  simp only [List.cons.injEq, AV.int.injEq, true_and, and_true] at hx
  subst hx
  refine vif_mk (fun g3 => ?_) (fun g3 => hQ _)
  replace g3 := of_decide_eq_true g3
  refine R.idx6 (i := j) (by omega) rfl fun p c n hn Rn => ?_
  refine d26 (c := c) Rn (hi n (List.mem_of_getElem? hn)) (fun hneg => by omega) fun b hb => ⟨b, rfl, vif_mk (fun _ => hQ _) (fun _ => ?_)⟩
  rw [wrapK_i64 ⟨by omega, by omega⟩]
  exact ⟨trivial, ⟨rfl, j + 1, by simp, by omega⟩, by simp only [left]; omega⟩)
def loops (l : List NT) : Nat := l.countP fun n => n.op == 9
theorem d13 (R : NodesR h q l) (S : Short l) (hQ : ∀ b, (b = true → loops l ≤ 1 ∧ ∀ n ∈ l, n.op = 9 ∨ n.body = []) → Q (.bool b) h) : AC Tryz.prog 13 [.agg [.sl q, .int .i64 out]] h Q := ac13 (by
  unfold vc13
  have no : Q (.bool false) h := hQ _ (by simp)
  have gl := S.len
  rw [R.len]
  refine vif_mk (fun _ => no) (fun _ => vif_mk (fun _ => no) (fun _ => vif_mk (fun _ => no) (fun _ => vif_mk (fun _ => no) (fun _ => ?_))))
  refine ⟨fun xs h6 => h6 = h ∧ ∃ j : Nat, xs = [.int .i64 (loops (l.take j) : Nat), .int .i64 j] ∧ j ≤ l.length ∧ ∀ n ∈ l.take j, n.op = 9 ∨ n.body = [], fun xs _ => match xs with | [_, .int _ i] => (l.length - i).toNat | _ => 0, ⟨rfl, 0, by simp [loops], by omega, by simp⟩, ?_⟩
  rintro n3 n4 h6 ⟨rfl, j, hx, hj, ha⟩
  simp only [List.cons.injEq, AV.int.injEq, true_and, and_true] at hx
  obtain ⟨rfl, rfl⟩ := hx
  refine vif_mk (fun g3 => ?_) (fun g3 => ?_)
  · replace g3 := of_decide_eq_true g3
    have hcl : loops (l.take j) ≤ j := by
      have := List.countP_le_length (p := fun n : NT => n.op == 9) (l := l.take j)
      rw [List.length_take] at this
      unfold loops; omega
    refine R.idx6 (i := j) (by omega) rfl fun p c n hn Rn => ?_
    have hm := List.mem_of_getElem? hn
    refine d26 (c := c) Rn (S.ins n hm) (fun _ _ Q' hQ' => d61 Rn.body (S.bod n hm) (S.bin n hm) (by omega) hQ') fun b hb => ⟨b, rfl, vif_mk (fun _ => no) (fun g5 => ?_)⟩
    have g5 : b = true := by simpa using g5
    have hb := hb g5
    rw [Rn.body.len, Rn.same.1] at hb
    have ha2 : ∀ m ∈ l.take (j + 1), m.op = 9 ∨ m.body = [] := fun m hm2 => by
      rw [List.take_add_one, hn] at hm2
      rcases List.mem_append.1 hm2 with hm2 | hm2
      · exact ha m hm2
      · simp only [Option.toList_some, List.mem_singleton] at hm2
        subst hm2
        exact hb.imp id List.eq_nil_of_length_eq_zero
    have hcnt : loops (l.take (j + 1)) = loops (l.take j) + if n.op == 9 then 1 else 0 := by
      unfold loops
      rw [List.take_add_one, hn, Option.toList_some, List.countP_append, List.countP_singleton]
    refine R.idx (i := j) (by omega) rfl fun p c2 n2 hn2 hc Rn2 => ⟨c2.op, cellsAt_sub (k := 0) (m := 1) hc (by omega), ?_⟩
    rw [hn] at hn2; cases hn2
    rw [Rn2.same.1, wrapK_i64 (n := (j : Int) + 1) ⟨by omega, by omega⟩]
    refine vif_mk (fun g6 => ?_) (fun g6 => ?_)
    · rw [wrapK_i64 ⟨by omega, by omega⟩]
      rw [g6] at hcnt
      refine ⟨⟨rfl, trivial⟩, ⟨rfl, j + 1, by rw [hcnt]; simp, by omega, ha2⟩, by simp only; omega⟩
    · rw [g6] at hcnt
      refine ⟨⟨rfl, trivial⟩, ⟨rfl, j + 1, by rw [hcnt]; simp, by omega, ha2⟩, by simp only; omega⟩
  · replace g3 := of_decide_eq_false g3
    have e : l.take j = l := List.take_of_length_le (by omega)
    rw [e] at ha
    refine hQ _ fun hd => ⟨?_, ha⟩
    have := of_decide_eq_true hd
    rw [e] at this
    omega)
end
def pairE : Enc (Int × Int) := ⟨2, fun r => [.int .i64 r.1, .int .i64 r.2], fun _ => rfl, by omega, fun _ => rfl⟩
def placeF (l : List NT) (i : Nat) : List (Int × Int) := match l[i]? with | some n => ((i : Int), -1) :: (List.range n.body.length).map fun (k : Nat) => ((i : Int), (k : Int)) | none => []
def placesN (l : List NT) (i : Nat) : List (Int × Int) := (List.range i).flatMap (placeF l)
theorem placesN_succ (l : List NT) (i : Nat) : placesN l (i + 1) = placesN l i ++ placeF l i := by
 unfold placesN; rw [List.range_succ, List.flatMap_append, List.flatMap_singleton]
theorem placesN_len {l : List NT} (g : Short l) : ∀ i, (placesN l i).length ≤ 41 * i
 | 0 => Nat.le_refl _
 | i + 1 => by
  have := placesN_len g i
  rw [placesN_succ, List.length_append]
  have h2 : (placeF l i).length ≤ 41 := by
   unfold placeF
   split
   ·rename_i n hn
    have := g.bod n (List.mem_of_getElem? hn)
    simp only [List.length_cons, List.length_map, List.length_range]; omega
   ·simp
  omega
section
variable {h h' : Heap} {Q : AV → Heap → Prop} {l : List NT} {n : NT} {c : NC} {q : Option SL} {out : Int}
set_option maxRecDepth 20000 in
theorem d12 (R : NodesR h q l) (g : Short l) (hQ : ∀ q' h', New pairE h h' q' (placesN l l.length) → Q (.sl q') h') : AC Tryz.prog 12 [.agg [.sl q, .int .i64 out]] h Q := ac12 (by
 unfold vc12
 have gl := g.len
 rw [R.len]
 refine ⟨fun xs h7 => ∃ (i : Nat) (q3 : Option SL), xs = [.sl q3, .int .i64 i] ∧ i ≤ l.length ∧ New pairE h h7 q3 (placesN l i), fun xs _ => match xs with | [_, .int _ i] => (l.length - i).toNat | _ => 0, ⟨0, none, rfl, by omega, New.none⟩, ?_⟩
 rintro q3 n4 h7 ⟨i, _, hx, hi, N⟩
 simp only [List.cons.injEq, AV.sl.injEq, AV.int.injEq, true_and, and_true] at hx
 obtain ⟨rfl, rfl⟩ := hx
 refine vif_mk (fun g1 => ?_) (fun g1 => ?_)
 ·replace g1 := of_decide_eq_true g1
  have hil : i < l.length := by omega
  obtain ⟨n, hn⟩ : ∃ n, l[i]? = some n := ⟨_, List.getElem?_eq_getElem hil⟩
  have gb := g.bod n (List.mem_of_getElem? hn)
  have pl1 := placesN_len g i
  unfold PNew
  have x9 : Ext h7 (h7 ++ [Blk.cells [.int .i64 ((i : Nat) : Int), .int .i64 (-1)] true]) := .app _ _
  refine New.append (E := pairE) (N.ext x9) (HasL.new (E := pairE) (l := [(((i : Nat) : Int), -1)]) (n := 1) rfl (by simp [Enc.all, pairE])) (by simp only [List.length_cons, List.length_nil]; omega) fun q10 h11 N11 => ?_
  refine ⟨fun xs h16 => ∃ (k : Nat) (q12 : Option SL), xs = [.sl q12, .int .i64 k] ∧ k ≤ n.body.length ∧ New pairE h h16 q12 (placesN l i ++ ((i : Int), -1) :: (List.range k).map fun (k : Nat) => ((i : Int), (k : Int))), fun xs _ => match xs with | [_, .int _ k] => (n.body.length - k).toNat | _ => 0, ⟨0, q10, rfl, by omega, N11⟩, ?_⟩
  rintro q12 n13 h16 ⟨k, _, hx, hk, N16⟩
  simp only [List.cons.injEq, AV.sl.injEq, AV.int.injEq, true_and, and_true] at hx
  obtain ⟨rfl, rfl⟩ := hx
  refine (R.mono N16.1).idx (i := i) hil rfl fun p c m hm hc Rm => ⟨c.qb, cellsAt_sub (k := 5) (m := 1) hc (by omega), ?_⟩
  rw [hn] at hm
  cases hm
  rw [Rm.body.len]
  refine vif_mk (fun g2 => ?_) (fun g2 => ?_)
  ·replace g2 := of_decide_eq_true g2
   have x20 : Ext h16 (h16 ++ [Blk.cells [.int .i64 ((i : Nat) : Int), .int .i64 ((k : Nat) : Int)] true]) := .app _ _
   refine New.append (E := pairE) (N16.ext x20) (HasL.new (E := pairE) (l := [(((i : Nat) : Int), ((k : Nat) : Int))]) (n := 1) rfl (by simp [Enc.all, pairE])) (by simp only [List.length_append, List.length_cons, List.length_map, List.length_range, List.length_nil]; omega) fun q21 h22 N22 => ?_
   rw [wrapK_i64 ⟨by omega, by omega⟩]
   refine ⟨⟨rfl, trivial⟩, ⟨k + 1, q21, rfl, by omega, ?_⟩, by simp only; omega⟩
   rw [List.range_succ, List.map_append]
   simp only [List.append_assoc, List.cons_append, List.map_cons, List.map_nil] at N22 ⊢
   exact N22
  ·replace g2 := of_decide_eq_false g2
   have hke : k = n.body.length := by omega
   subst hke
   rw [wrapK_i64 ⟨by omega, by omega⟩]
   refine ⟨⟨rfl, trivial⟩, ⟨i + 1, q12, rfl, by omega, ?_⟩, by simp only; omega⟩
   rw [placesN_succ]
   have : placeF l i = ((i : Int), -1) :: (List.range n.body.length).map fun (k : Nat) => ((i : Int), (k : Int)) := by unfold placeF; rw [hn]
   rw [this]; exact N16
 ·replace g1 := of_decide_eq_false g1
  have hie : i = l.length := by omega
  subst hie
  exact hQ _ _ N)
end
end Go.Proofs.YtjackggnnjdhmaaGreatDoor
namespace Go.Proofs.YtjackggnnjdhmaaGreatDoor
open Go.Ab Go.Proofs
set_option linter.unusedVariables false
set_option linter.unusedSimpArgs false
open Lib (decDigits)
theorem dd_small {u : Nat} (h : u < 10) : decDigits u = [UInt8.ofNat (48 + u)] := by rw [decDigits, dif_pos h]
theorem dd_big {u : Nat} (h : ¬ u < 10) : decDigits u = decDigits (u / 10) ++ [UInt8.ofNat (48 + u % 10)] := by rw [decDigits, dif_neg h]
theorem dd_len (u : Nat) : (decDigits u).length ≤ u + 1 := by
 induction u using Nat.strongRecOn with
 | _ u ih =>
  by_cases h : u < 10
  ·rw [dd_small h]; simp
  ·rw [dd_big h, List.length_append]
   have := ih (u / 10) (by omega)
   simp only [List.length_singleton]
   omega
def valD (l : List UInt8) : Nat := l.foldl (fun n c => n * 10 + (c.toNat - 48)) 0
theorem valD_snoc (l : List UInt8) (c : UInt8) : valD (l ++ [c]) = valD l * 10 + (c.toNat - 48) := by simp [valD, List.foldl_append]
theorem u8_dig {k : Nat} (h : k < 10) : (UInt8.ofNat (48 + k)).toNat = 48 + k := by rw [UInt8.toNat_ofNat']; omega
theorem valD_dd (u : Nat) : valD (decDigits u) = u := by
 induction u using Nat.strongRecOn with
 | _ u ih =>
  by_cases h : u < 10
  ·rw [dd_small h]
   show (0 * 10 + ((UInt8.ofNat (48 + u)).toNat - 48)) = u
   rw [u8_dig h]; omega
  ·rw [dd_big h, valD_snoc, ih (u / 10) (by omega), u8_dig (by omega)]; omega
theorem dd_inj {a b : Nat} (h : decDigits a = decDigits b) : a = b := by rw [← valD_dd a, h, valD_dd]
theorem digs_at : ∀ k : Fin 10, (([48, 49, 50, 51, 52, 53, 54, 55, 56, 57] : List UInt8).take (k.val + 1)).drop k.val = [UInt8.ofNat (48 + k.val)] := by decide
section
variable {h : Heap} {Q : AV → Heap → Prop} {l : List NT} {q : Option SL} {out : Int}
theorem dig {k : Nat} {K : List UInt8 → Prop} (hK : K [UInt8.ofNat (48 + k % 10)]) : strSlice [48, 49, 50, 51, 52, 53, 54, 55, 56, 57] (Int.tmod ((k : Nat) : Int) 10) (some (wrapK .i64 (Int.tmod ((k : Nat) : Int) 10 + 1))) K := by
 have e : Int.tmod ((k : Nat) : Int) 10 = ((k % 10 : Nat) : Int) := by rw [Int.tmod_eq_emod_of_nonneg (by omega)]; omega
 rw [e, wrapK_i64 ⟨by omega, by omega⟩]
 refine ⟨by omega, by simp only [Option.getD_some]; omega, by simp only [Option.getD_some, List.length_cons, List.length_nil]; omega, ?_⟩
 rw [Option.getD_some, show (((k % 10 : Nat) : Int) + 1).toNat = k % 10 + 1 by omega, Int.toNat_natCast]
 have := digs_at ⟨k % 10, by omega⟩
 simp only at this
 rw [this]; exact hK
set_option maxRecDepth 20000 in
theorem d57 {k : Nat} (hk : k ≤ 1099511627776) (hQ : Q (.str (decDigits k)) h) : AC Tryz.prog 57 [.int .i64 (k : Nat)] h Q := ac57 (by
 unfold vc57
 refine ⟨fun xs h7 => h7 = h ∧ ∃ (m : Nat) (s : List UInt8), xs = [.int .i64 m, .str s] ∧ ((s = [] ∧ m = k) ∨ (s ≠ [] ∧ m = 0 ∧ s = decDigits k) ∨ (s ≠ [] ∧ 0 < m ∧ decDigits k = decDigits m ++ s)), fun xs _ => match xs with | [.int _ m, .str s] => m.toNat * 2 + (if s = [] then 1 else 0) | _ => 0, ⟨rfl, k, [], rfl, .inl ⟨rfl, rfl⟩⟩, ?_⟩
 rintro n2 s3 h6 ⟨rfl, m, s, hx, hs⟩
 simp only [List.cons.injEq, AV.int.injEq, AV.str.injEq, true_and, and_true] at hx
 obtain ⟨rfl, rfl⟩ := hx
 have hlk := dd_len k
 have hlen : s3.length ≤ k + 1 := by
  rcases hs with ⟨h1, _⟩ | ⟨_, _, h1⟩ | ⟨_, _, h1⟩
  ·rw [h1]; simp
  ·rw [h1]; exact hlk
  ·have := congrArg List.length h1
   rw [List.length_append] at this
   omega
 have hm : m ≤ k := by
  rcases hs with ⟨_, h1⟩ | ⟨_, h1, _⟩ | ⟨_, _, h1⟩
  ·omega
  ·omega
  ·have h2 := valD_dd k
   have h3 := valD_dd m
   have hge : ∀ (s : List UInt8) (a : Nat), a ≤ s.foldl (fun n c => n * 10 + (c.toNat - 48)) a := by
    intro s
    induction s with
    | nil => intro a; exact Nat.le_refl _
    | cons c s ih =>
     intro a
     rw [List.foldl_cons]
     have := ih (a * 10 + (c.toNat - 48))
     omega
   rw [h1] at h2
   unfold valD at h2 h3
   rw [List.foldl_append, h3] at h2
   have := hge s3 m
   omega
 have hd : wrapK .i64 (Int.tdiv ((m : Nat) : Int) 10) = ((m / 10 : Nat) : Int) := by
  rw [Int.tdiv_eq_ediv_of_nonneg (by omega), wrapK_i64 ⟨by omega, by omega⟩]; omega
 have key : (0 < m ∨ s3 = []) → (([UInt8.ofNat (48 + m % 10)] ++ s3 ≠ [] ∧ m / 10 = 0 ∧ [UInt8.ofNat (48 + m % 10)] ++ s3 = decDigits k) ∨ ([UInt8.ofNat (48 + m % 10)] ++ s3 ≠ [] ∧ 0 < m / 10 ∧ decDigits k = decDigits (m / 10) ++ ([UInt8.ofNat (48 + m % 10)] ++ s3))) := by
  intro hc
  have hdk : decDigits k = decDigits m ++ s3 := by
   rcases hs with ⟨h1, h2⟩ | ⟨h1, h2, _⟩ | ⟨_, _, h1⟩
   ·rw [h1, h2]; simp
   ·rcases hc with hc | hc
    ·omega
    ·exact absurd hc h1
   ·exact h1
  by_cases h10 : m < 10
  ·refine .inl ⟨by simp, by omega, ?_⟩
   rw [hdk, dd_small h10, Nat.mod_eq_of_lt h10]
  ·refine .inr ⟨by simp, by omega, ?_⟩
   rw [hdk, dd_big h10, List.append_assoc]
 have step : (0 < m ∨ s3 = []) → strSlice [48, 49, 50, 51, 52, 53, 54, 55, 56, 57] (Int.tmod ((m : Nat) : Int) 10) (some (wrapK .i64 (Int.tmod ((m : Nat) : Int) 10 + 1))) fun s7 => need (decide (s7.length + s3.length ≤ 9223372036854775807)) (True ∧ (h6 = h6 ∧ ∃ (m2 : Nat) (s : List UInt8), [AV.int .i64 (wrapK .i64 (Int.tdiv ((m : Nat) : Int) 10)), AV.str (s7 ++ s3)] = [.int .i64 m2, .str s] ∧ ((s = [] ∧ m2 = k) ∨ (s ≠ [] ∧ m2 = 0 ∧ s = decDigits k) ∨ (s ≠ [] ∧ 0 < m2 ∧ decDigits k = decDigits m2 ++ s))) ∧
   (match [AV.int .i64 (wrapK .i64 (Int.tdiv ((m : Nat) : Int) 10)), AV.str (s7 ++ s3)] with | [.int _ m, .str s] => m.toNat * 2 + (if s = [] then 1 else 0) | _ => 0) < (match [AV.int .i64 ((m : Nat) : Int), AV.str s3] with | [.int _ m, .str s] => m.toNat * 2 + (if s = [] then 1 else 0) | _ => 0)) := fun hc => by
  refine dig (need_mk (decide_eq_true (by simp only [List.length_cons, List.length_nil]; omega)) ?_)
  rw [hd]
  refine ⟨trivial, ⟨rfl, m / 10, _, rfl, .inr (key hc)⟩, ?_⟩
  simp only [List.cons_append, List.nil_append, Int.toNat_natCast]
  rw [if_neg (by simp)]
  rcases hc with hc | hc
  ·omega
  ·rw [if_pos hc]; omega
 refine vif_mk (fun g => step (.inl (by have := of_decide_eq_true g; omega))) (fun g => vif_mk (fun g2 => step (.inr (by simpa using g2))) (fun g2 => ?_))
 have g := of_decide_eq_false g
 have g2 : s3 ≠ [] := by simpa using g2
 rcases hs with ⟨h1, _⟩ | ⟨_, _, h1⟩ | ⟨_, h1, _⟩
 ·exact absurd h1 g2
 ·rw [h1]; exact hQ
 ·omega)
theorem d25 {n : Int} (h0 : 0 ≤ n) (h1 : n ≤ 1099511627776) (hQ : Q (.str (decDigits n.toNat)) h) : AC Tryz.prog 25 [.int .i64 n] h Q := ac25 (by
 unfold vc25
 refine vif_mk (fun _ => ?_) (fun g => by have := of_decide_eq_false g; omega)
 have := d57 (k := n.toNat) (h := h) (Q := fun v2 h3 => ∃ s4 : List UInt8, v2 = .str s4 ∧ Q (.str s4) h3) (by omega) ⟨_, rfl, hQ⟩
 rwa [show ((n.toNat : Nat) : Int) = n by omega] at this)
def nm (a b : Int) : List UInt8 := if 0 ≤ b then 98 :: decDigits b.toNat else 110 :: decDigits a.toNat
theorem d11 {a b : Int} (ha : 0 ≤ a ∧ a ≤ 1099511627776) (hb : b ≤ 1099511627776) (hQ : Q (.str (nm a b)) h) : AC Tryz.prog 11 [.agg [.int .i64 a, .int .i64 b]] h Q := ac11 (by
 unfold vc11
 refine vif_mk (fun g => ?_) (fun g => ?_)
 ·have g := of_decide_eq_true g
  have hl := dd_len b.toNat
  refine d25 g hb ⟨_, rfl, need_mk (decide_eq_true (by simp only [List.length_cons, List.length_nil]; omega)) ?_⟩
  unfold nm at hQ; rw [if_pos g] at hQ; exact hQ
 ·have g := of_decide_eq_false g
  have hl := dd_len a.toNat
  refine d25 ha.1 ha.2 ⟨_, rfl, need_mk (decide_eq_true (by simp only [List.length_cons, List.length_nil]; omega)) ?_⟩
  unfold nm at hQ; rw [if_neg (by omega)] at hQ; exact hQ)
end
theorem loops_two {l : List NT} {i j : Nat} {a b : NT} (hij : i < j) (ha : l[i]? = some a) (hb : l[j]? = some b) (h1 : a.op = 9) (h2 : b.op = 9) : 2 ≤ loops l := by
 unfold loops
 have e : l = l.take j ++ l.drop j := (List.take_append_drop _ _).symm
 rw [e, List.countP_append]
 have p1 : 0 < (l.take j).countP fun n => n.op == 9 := by
  rw [List.countP_pos_iff]
  refine ⟨a, List.mem_of_getElem? (i := i) (by rw [List.getElem?_take, if_pos hij]; exact ha), by simp [h1]⟩
 have p2 : 0 < (l.drop j).countP fun n => n.op == 9 := by
  rw [List.countP_pos_iff]
  refine ⟨b, List.mem_of_getElem? (i := 0) (by rw [List.getElem?_drop]; exact hb), by simp [h2]⟩
 omega
theorem mem_placeF {l : List NT} {i : Nat} {x : Int × Int} (hx : x ∈ placeF l i) : x = ((i : Int), -1) ∨ ∃ n, l[i]? = some n ∧ ∃ k : Nat, k < n.body.length ∧ x = ((i : Int), (k : Int)) := by
 unfold placeF at hx
 split at hx
 ·rename_i n hn
  rcases List.mem_cons.1 hx with rfl | hx
  ·exact .inl rfl
  ·obtain ⟨k, hk, rfl⟩ := List.mem_map.1 hx
   exact .inr ⟨n, hn, k, List.mem_range.1 hk, rfl⟩
 ·cases hx
theorem nm_n {i j : Nat} (h : nm (i : Int) (-1) = nm (j : Int) (-1)) : i = j := by
 unfold nm at h
 rw [if_neg (by omega), if_neg (by omega), List.cons.injEq] at h
 exact dd_inj h.2
theorem nm_b {a b : Int} {i j : Nat} (h : nm a (i : Int) = nm b (j : Int)) : i = j := by
 unfold nm at h
 rw [if_pos (by omega), if_pos (by omega), List.cons.injEq] at h
 exact dd_inj h.2
theorem nm_nb {a b : Int} {j : Nat} (h : nm a (-1) = nm b (j : Int)) : False := by
 unfold nm at h
 rw [if_neg (by omega), if_pos (by omega), List.cons.injEq] at h
 exact absurd h.1 (by decide)
theorem names_unlike {l : List NT} (h1 : loops l ≤ 1) (h2 : ∀ n ∈ l, n.op = 9 ∨ n.body = []) : (placesN l l.length).Pairwise fun x y => nm x.1 x.2 ≠ nm y.1 y.2 := by
 unfold placesN
 rw [List.pairwise_flatMap]
 refine ⟨fun i _ => ?_, ?_⟩
 ·unfold placeF
  split
  ·refine List.pairwise_cons.2 ⟨fun y hy hnm => ?_, ?_⟩
   ·obtain ⟨k, _, rfl⟩ := List.mem_map.1 hy
    exact nm_nb hnm
   ·rw [List.pairwise_map]
    exact List.pairwise_lt_range.imp fun {a b} hab hnm => absurd (nm_b hnm) (by omega)
  ·exact .nil
 ·refine List.pairwise_lt_range.imp fun {a b} hab x hx y hy hnm => ?_
  rcases mem_placeF hx with rfl | ⟨n, hn, k, hk, rfl⟩ <;> rcases mem_placeF hy with rfl | ⟨n', hn', k', hk', rfl⟩
  ·have := nm_n hnm; omega
  ·exact nm_nb hnm
  ·exact nm_nb hnm.symm
  ·have e1 := (h2 n (List.mem_of_getElem? hn)).resolve_right (by intro e; rw [e] at hk; simp at hk)
   have e2 := (h2 n' (List.mem_of_getElem? hn')).resolve_right (by intro e; rw [e] at hk'; simp at hk')
   have := loops_two hab hn hn' e1 e2
   omega
theorem place_lens {l : List NT} {x : Int × Int} (g : Short l) (hx : x ∈ placesN l l.length) : (0 ≤ x.1 ∧ x.1 ≤ 40) ∧ -1 ≤ x.2 ∧ x.2 ≤ 40 := by
 unfold placesN at hx
 obtain ⟨i, hi, hx⟩ := List.mem_flatMap.1 hx
 have hi := List.mem_range.1 hi
 have gl := g.len
 rcases mem_placeF hx with rfl | ⟨n, hn, k, hk, rfl⟩
 ·simp only; omega
 ·have := g.bod n (List.mem_of_getElem? hn)
  simp only; omega
end Go.Proofs.YtjackggnnjdhmaaGreatDoor
namespace Go.Proofs
open Go.Ab
set_option maxRecDepth 100000
set_option linter.unusedVariables false
def vc24 (n1 : Int) (h : Heap) (Q : AV → Heap → Prop) : Prop :=
 AC Tryz.prog 56 [.int .i64 n1] h fun v2 h3 => ∃ s4 : List UInt8, v2 = .str s4 ∧
 Q (.str s4) h3
theorem ac24 {n1 : Int} {h : Heap} {Q : AV → Heap → Prop} (hk : vc24 n1 h Q) : AC Tryz.prog 24 [.int .i64 n1] h Q :=
 AC_by (H := hintsOf [] []) (by kernel_rfl) (by kernel_rfl) hk
def vc56 (n1 : Int) (h : Heap) (Q : AV → Heap → Prop) : Prop :=
 AC Tryz.prog 117 [.int .i64 n1, .int .i64 10] h fun v2 h3 => ∃ s4 : List UInt8, v2 = .str s4 ∧
 Q (.str s4) h3
theorem ac56 {n1 : Int} {h : Heap} {Q : AV → Heap → Prop} (hk : vc56 n1 h Q) : AC Tryz.prog 56 [.int .i64 n1] h Q :=
 AC_by (H := hintsOf [] []) (by kernel_rfl) (by kernel_rfl) hk
def vc117 (n1 : Int) (n2 : Int) (h : Heap) (Q : AV → Heap → Prop) : Prop :=
 vif (n2 == 10)
 (vif (decide (0 ≤ n1))
 (vif (decide (n1 < 100))
 (AC Tryz.prog 171 [.int .i64 n1] h fun v3 h4 => ∃ s5 : List UInt8, v3 = .str s5 ∧
 Q (.str s5) h4)
 (PNew (List.replicate 24 (AV.int .u8 0)) true h fun a6 h7 =>
 vif (decide (n1 < 0))
 (AC Tryz.prog 172 [.int .u64 (wrapK .u64 (0 - (wrapK .u64 n1)))] h7 fun v8 h9 => ∃ n10 : Int, v8 = .int .i64 n10 ∧
 PSlice 1 (some ⟨a6, 0, 24, 24, 0⟩) 1 (some (wrapK .i64 (1 + n10))) none fun q11 =>
 AC Tryz.prog 173 [.sl q11, .int .u64 (wrapK .u64 (0 - (wrapK .u64 n1)))] h9 fun v12 h13 => v12 = .tup [] ∧
 vif (decide (n1 < 0))
 (PStore h13 ⟨a6, 0⟩ [.int .u8 45] fun h14 =>
 PSlice 1 (some ⟨a6, 0, 24, 24, 0⟩) 0 (some (wrapK .i64 (1 + n10))) none fun q15 =>
 PStr h14 q15 fun s16 =>
 Q (.str s16) h14)
 (PSlice 1 (some ⟨a6, 0, 24, 24, 0⟩) 1 (some (wrapK .i64 (1 + n10))) none fun q17 =>
 PStr h13 q17 fun s18 =>
 Q (.str s18) h13))
 (AC Tryz.prog 172 [.int .u64 (wrapK .u64 n1)] h7 fun v19 h20 => ∃ n21 : Int, v19 = .int .i64 n21 ∧
 PSlice 1 (some ⟨a6, 0, 24, 24, 0⟩) 1 (some (wrapK .i64 (1 + n21))) none fun q22 =>
 AC Tryz.prog 173 [.sl q22, .int .u64 (wrapK .u64 n1)] h20 fun v23 h24 => v23 = .tup [] ∧
 vif (decide (n1 < 0))
 (PStore h24 ⟨a6, 0⟩ [.int .u8 45] fun h25 =>
 PSlice 1 (some ⟨a6, 0, 24, 24, 0⟩) 0 (some (wrapK .i64 (1 + n21))) none fun q26 =>
 PStr h25 q26 fun s27 =>
 Q (.str s27) h25)
 (PSlice 1 (some ⟨a6, 0, 24, 24, 0⟩) 1 (some (wrapK .i64 (1 + n21))) none fun q28 =>
 PStr h24 q28 fun s29 =>
 Q (.str s29) h24))))
 (PNew (List.replicate 24 (AV.int .u8 0)) true h fun a30 h31 =>
 vif (decide (n1 < 0))
 (AC Tryz.prog 172 [.int .u64 (wrapK .u64 (0 - (wrapK .u64 n1)))] h31 fun v32 h33 => ∃ n34 : Int, v32 = .int .i64 n34 ∧
 PSlice 1 (some ⟨a30, 0, 24, 24, 0⟩) 1 (some (wrapK .i64 (1 + n34))) none fun q35 =>
 AC Tryz.prog 173 [.sl q35, .int .u64 (wrapK .u64 (0 - (wrapK .u64 n1)))] h33 fun v36 h37 => v36 = .tup [] ∧
 vif (decide (n1 < 0))
 (PStore h37 ⟨a30, 0⟩ [.int .u8 45] fun h38 =>
 PSlice 1 (some ⟨a30, 0, 24, 24, 0⟩) 0 (some (wrapK .i64 (1 + n34))) none fun q39 =>
 PStr h38 q39 fun s40 =>
 Q (.str s40) h38)
 (PSlice 1 (some ⟨a30, 0, 24, 24, 0⟩) 1 (some (wrapK .i64 (1 + n34))) none fun q41 =>
 PStr h37 q41 fun s42 =>
 Q (.str s42) h37))
 (AC Tryz.prog 172 [.int .u64 (wrapK .u64 n1)] h31 fun v43 h44 => ∃ n45 : Int, v43 = .int .i64 n45 ∧
 PSlice 1 (some ⟨a30, 0, 24, 24, 0⟩) 1 (some (wrapK .i64 (1 + n45))) none fun q46 =>
 AC Tryz.prog 173 [.sl q46, .int .u64 (wrapK .u64 n1)] h44 fun v47 h48 => v47 = .tup [] ∧
 vif (decide (n1 < 0))
 (PStore h48 ⟨a30, 0⟩ [.int .u8 45] fun h49 =>
 PSlice 1 (some ⟨a30, 0, 24, 24, 0⟩) 0 (some (wrapK .i64 (1 + n45))) none fun q50 =>
 PStr h49 q50 fun s51 =>
 Q (.str s51) h49)
 (PSlice 1 (some ⟨a30, 0, 24, 24, 0⟩) 1 (some (wrapK .i64 (1 + n45))) none fun q52 =>
 PStr h48 q52 fun s53 =>
 Q (.str s53) h48))))
 (AC Tryz.prog 174 [.sl none, .int .u64 (wrapK .u64 n1), .int .i64 n2, .bool (decide (n1 < 0)), .bool false] h fun v54 h55 => ∃ q56 : Option SL, ∃ s57 : List UInt8, v54 = .tup [.sl q56, .str s57] ∧
 Q (.str s57) h55)
theorem ac117 {n1 : Int} {n2 : Int} {h : Heap} {Q : AV → Heap → Prop} (hk : vc117 n1 n2 h Q) : AC Tryz.prog 117 [.int .i64 n1, .int .i64 n2] h Q :=
 AC_by (H := hintsOf [] []) (by kernel_rfl) (by kernel_rfl) hk
def vc172 (n1 : Int) (h : Heap) (Q : AV → Heap → Prop) : Prop :=
 AC Tryz.prog 230 [.int .u64 n1] h fun v2 h3 => ∃ n4 : Int, v2 = .int .i64 n4 ∧
 AC Tryz.prog 229 [.int .i64 n4] h3 fun v5 h6 => ∃ n7 : Int, v5 = .int .i64 n7 ∧
 need (decide (0 ≤ n7) && decide (n7 < 20))
 (∃ a8 j9 : Nat, h6[a8]? = some (.gm 0 j9) ∧
 ∃ n10 : Int, cellsAt h6 ⟨j9, n7.toNat * 1⟩ 1 = some [.int .u64 n10] ∧
 AC Tryz.prog 231 [.bool (decide (n1 ≥ n10))] h6 fun v11 h12 => ∃ n13 : Int, v11 = .int .i64 n13 ∧
 Q (.int .i64 (wrapK .i64 (n7 + n13))) h12)
theorem ac172 {n1 : Int} {h : Heap} {Q : AV → Heap → Prop} (hk : vc172 n1 h Q) : AC Tryz.prog 172 [.int .u64 n1] h Q :=
 AC_by (H := hintsOf [] []) (by kernel_rfl) (by kernel_rfl) hk
def vc229 (n1 : Int) (h : Heap) (Q : AV → Heap → Prop) : Prop :=
 Q (.int .i64 (shrK .i64 (wrapK .i64 (n1 * 78913)) 18)) h
theorem ac229 {n1 : Int} {h : Heap} {Q : AV → Heap → Prop} (hk : vc229 n1 h Q) : AC Tryz.prog 229 [.int .i64 n1] h Q :=
 AC_by (H := hintsOf [] []) (by kernel_rfl) (by kernel_rfl) hk
def vc231 (b1 : Bool) (h : Heap) (Q : AV → Heap → Prop) : Prop :=
 vif b1
 (Q (.int .i64 1) h)
 (Q (.int .i64 0) h)
theorem ac231 {b1 : Bool} {h : Heap} {Q : AV → Heap → Prop} (hk : vc231 b1 h Q) : AC Tryz.prog 231 [.bool b1] h Q :=
 AC_by (H := hintsOf [] []) (by kernel_rfl) (by kernel_rfl) hk
end Go.Proofs
namespace Go.Proofs.YtjackggnnjdhmaaGreatDoor
open Go.Ab Go.Proofs Go.Sort
open Lib (decDigits nDigits l10)
set_option linter.unusedVariables false
set_option linter.unusedSimpArgs false
def encU (b : UInt8) : Value := .int .u8 (b.toNat : Int)
theorem putCells_splice {C : Array Value} {o : Nat} {d : Array UInt8} (ho : o + d.size ≤ C.size) : putCells encU o d C = (splice C.toList o (d.toList.map encU)).toArray := by
 apply Array.ext_getElem?
 intro i
 simp only [putCells, splice]
 have e : ∀ (L : List Value), L.toArray[i]? = L[i]? := fun L => List.getElem?_toArray
 rw [Array.getElem?_mapIdx, e (C.toList.take o ++ d.toList.map encU ++ C.toList.drop (o + (d.toList.map encU).length))]
 rcases Nat.lt_or_ge i o with h1 | h1
 ·rw [List.getElem?_append_left (by simp; omega), List.getElem?_append_left (by simp; omega), List.getElem?_take_of_lt h1, Array.getElem?_toList]
  have hi : i < C.size := by omega
  rw [Array.getElem?_eq_getElem hi, Option.map_some, if_neg (by omega)]
 ·rcases Nat.lt_or_ge i (o + d.size) with h2 | h2
  ·have hi : i < C.size := by omega
   rw [List.getElem?_append_left (by simp; omega), List.getElem?_append_right (by simp; omega), Array.getElem?_eq_getElem hi, Option.map_some, if_pos ⟨h1, h2⟩]
   have hl : (C.toList.take o).length = o := by simp; omega
   rw [hl, List.getElem?_map, Array.getElem?_toList, Array.getElem?_eq_getElem (show i - o < d.size by omega), Option.map_some, getElem!_pos d (i - o) (by omega)]
  ·rw [List.getElem?_append_right (by simp; omega)]
   have hl : (C.toList.take o ++ d.toList.map encU).length = o + d.size := by simp; omega
   rw [hl, List.getElem?_drop]
   simp only [List.length_map, Array.length_toList]
   rw [show o + d.size + (i - (o + d.size)) = i by omega, Array.getElem?_toList]
   cases hc : C[i]? with
   | none => rfl
   | some x => rw [Option.map_some, if_neg (by omega)]
section
variable {h : Heap} {Q : AV → Heap → Prop} {a k u : Nat} {c : List AV}
theorem d173 (hb : h[a]? = some (.cells c true)) (hc : (c.drop 1).take k = byteAVs (List.replicate k 0)) (hk : 1 ≤ k) (hk2 : k ≤ 23) (hu : u < 10 ^ k) (hu64 : u < 18446744073709551616) (hn : k = nDigits u)
  (hQ : Q (.tup []) (h.set a (.cells (splice c 1 (byteAVs (decDigits u))) true))) : AC Tryz.prog 173 [.sl (some ⟨a, 1, k, 23, 0⟩), .int .u64 (u : Nat)] h Q := by
 refine ⟨by kernel_rfl, fun μ w vs H hv => ?_⟩
 obtain ⟨v1, v2, rfl, h1, h2⟩ := relL_two hv
 obtain rfl : v2 = .int .u64 (u : Nat) := h2
 obtain ⟨e, c', q, g1, rfl, g3, g4, g5, g6⟩ := h1
 have hc23 : c' = 23 := g5 rfl
 subst hc23
 have he : μ[a]? = some e := g1.resolve_right (by decide)
 have hq := g4.resolve_left (by decide)
 simp only at hq
 subst hq
 obtain ⟨C, t, fz, hC, hCs, hcn, hone, hcell, hfz⟩ := H.blk _ _ _ hb he
 have hfz := hfz rfl
 subst hfz
 have hcl : k ≤ c.length - 1 := by
  have := congrArg List.length hc
  simp [byteAVs] at this
  omega
 have hdl : (decDigits u).length = k := by rw [Lib.decDigits_length, hn]
 have hH : Holds encU w e.r (e.s + 1) (List.replicate k (0 : UInt8)).toArray := by
  intro j hj
  have hj : j < k := by simpa using hj
  have hx : c[1 + j]? = some (.int .u8 0) := by
   have h3 : ((c.drop 1).take k)[j]? = (byteAVs (List.replicate k 0))[j]? := by rw [hc]
   rw [List.getElem?_take_of_lt hj, List.getElem?_drop] at h3
   rw [h3]
   simp [byteAVs, List.getElem?_replicate, hj]
  obtain ⟨y, y1, y2⟩ := hcell _ _ hx
  obtain rfl : y = .int .u8 0 := y2
  constructor
  ·rw [show e.s + 1 + j = e.s + (1 + j) by omega, cell_at hC, y1]
   rw [getElem!_pos _ _ (by simpa using hj)]
   simp [encU]
  ·unfold World.frozen?
   simp [hC]
 show Calls Tryz.prog 173 #[.slice (some ⟨e.r, e.s + 1, none⟩) k 23, .int .u64 (u : Nat)] w _
 have hcall := Any.internal_strconv_formatBase10 Tryz.lays285 e.r (e.s + 1) 23 u (List.replicate k (0 : UInt8)).toArray w hH (by simpa using hu) hu64 (by simp; omega)
 simp only [List.size_toArray, List.length_replicate] at hcall
 refine hcall.mono fun en w' ⟨hen, n, v', dk, hw, F⟩ => ?_
 have hds : dk.size = k := F.size
 have hdk : dk.toList = decDigits u := by
  rw [Lib.decDigits_eq, ← hn]
  apply List.ext_getElem?
  intro i
  rw [Array.getElem?_toList, List.getElem?_map]
  by_cases hi : i < k
  ·rw [List.getElem?_range hi, Option.map_some, Array.getElem?_eq_getElem (by omega)]
   have := F.done i (by omega) hi
   rw [getElem!_pos dk i (by omega)] at this
   rw [this]
  ·rw [List.getElem?_eq_none (by simpa using hi), Array.getElem?_eq_none (by omega)]; rfl
 have hvs : relL μ (byteAVs (decDigits u)) ((decDigits u).map encU) := by
  generalize decDigits u = l
  induction l with
  | nil => rfl
  | cons x l ih => exact ⟨_, _, rfl, rfl, ih⟩
 have hox : oneAll (byteAVs (decDigits u)) = true := by simp [oneAll, byteAVs, AV.one]
 have hxl : (byteAVs (decDigits u)).length = k := by simp [byteAVs, hdl]
 have R := (rel_self H).store hb he (o := 1) (by rw [hxl]; omega) hvs hox hC
 have R2 := R.drawn (w' := w') (by
  rw [hw]
  show w.heap.modify e.r (onCells (putCells encU (e.s + 1) dk)) = (w.setBlk e.r _).heap
  apply Array.ext_getElem?
  intro r
  rw [Array.getElem?_modify]
  by_cases hr : e.r = r
  ·subst hr
   rw [if_pos rfl, hC]
   rw [setBlk_same w e.r _ (heap_lt hC)]
   simp only [Option.map_some, onCells]
   rw [putCells_splice (by rw [hds]; omega), hdk]
  ·rw [if_neg hr, setBlk_other w e.r r _ (fun hh => hr hh.symm)]) (by rw [hw]; rfl) (by rw [hw]; rfl) (by rw [hw]; rfl)
 exact ⟨_, .tup [], _, μ, hen, hQ, R2.evo, R2.heap, ⟨#[], rfl, rfl⟩⟩
end
theorem tab0_at {t : Nat} (ht : t < 20) : (tab0.drop t).take 1 = [.int .u64 ((10 ^ t : Nat) : Int)] := by
 have : t = 0 ∨ t = 1 ∨ t = 2 ∨ t = 3 ∨ t = 4 ∨ t = 5 ∨ t = 6 ∨ t = 7 ∨ t = 8 ∨ t = 9 ∨ t = 10 ∨ t = 11 ∨ t = 12 ∨ t = 13 ∨ t = 14 ∨ t = 15 ∨ t = 16 ∨ t = 17 ∨ t = 18 ∨ t = 19 := by omega
 rcases this with rfl | rfl | rfl | rfl | rfl | rfl | rfl | rfl | rfl | rfl | rfl | rfl | rfl | rfl | rfl | rfl | rfl | rfl | rfl | rfl <;> rfl
theorem l10_sh : ∀ L : Fin 65, shrK .i64 (wrapK .i64 (((L.val : Nat) : Int) * 78913)) 18 = ((l10 L.val : Nat) : Int) := by decide +kernel
section
variable {h : Heap} {Q : AV → Heap → Prop} {u k : Nat}
theorem d230 (hu : u < 18446744073709551616) (hQ : Q (.int .i64 (Lib.bitLen u : Nat)) h) : AC Tryz.prog 230 [.int .u64 (u : Nat)] h Q := by
 refine AC_same (by kernel_rfl) (fun μ w vs hv => ?_) hQ
 obtain ⟨v, rfl, h1⟩ := relL_one hv
 obtain rfl : v = .int .u64 (u : Nat) := h1
 refine (Any.bits_Len64 Tryz.lays129 (u : Nat) w (by omega) (by omega)).mono fun e w' ⟨he, hw⟩ => ⟨⟨_, he, rfl⟩, hw⟩
theorem d172 (h1 : 1 ≤ u) (h2 : u < 18446744073709551616) (hm : h[0]? = some (.gm 0 1)) (ht : h[1]? = some (.cells tab0 false)) (hQ : Q (.int .i64 (nDigits u : Nat)) h) : AC Tryz.prog 172 [.int .u64 (u : Nat)] h Q := ac172 (by
 unfold vc172
 obtain ⟨hnd, h19⟩ := Lib.numDigits_eq u h1 h2
 have hL : Lib.bitLen u ≤ 64 := Lib.bitLen_le u 64 (Nat.le_refl _) h2
 refine d230 h2 ⟨_, rfl, ac229 ?_⟩
 unfold vc229
 have e := l10_sh ⟨Lib.bitLen u, by omega⟩
 simp only at e
 rw [e]
 generalize l10 (Lib.bitLen u) = t at *
 refine ⟨_, rfl, need_mk (by rw [Bool.and_eq_true, decide_eq_true_eq, decide_eq_true_eq]; omega) ⟨0, 1, hm, ((10 ^ t : Nat) : Int), ?_, ac231 ?_⟩⟩
 ·rw [Int.toNat_natCast, Nat.mul_one, cellsAt_mk (p := ⟨1, t⟩) ht (by show t + 1 ≤ 20; omega), tab0_at (show t < 20 by omega)]
 unfold vc231
 refine vif_mk (fun g => ⟨1, rfl, ?_⟩) (fun g => ⟨0, rfl, ?_⟩)
 ·have g := of_decide_eq_true g
  rw [if_pos (by omega)] at hnd
  rw [wrapK_i64 ⟨by omega, by omega⟩, show ((t : Nat) : Int) + 1 = ((t + 1 : Nat) : Int) by omega, hnd]
  exact hQ
 ·have g := of_decide_eq_false g
  rw [if_neg (by omega)] at hnd
  rw [wrapK_i64 ⟨by omega, by omega⟩, show ((t : Nat) : Int) + 0 = ((t + 0 : Nat) : Int) by omega, hnd]
  exact hQ)
theorem lt_nDigits (u : Nat) : u < 10 ^ nDigits u := by
 induction u using Nat.strongRecOn with
 | _ u ih =>
  by_cases h : u < 10
  ·rw [Lib.nDigits_small h]; omega
  ·rw [Lib.nDigits_big h, Nat.pow_succ]
   have := ih (u / 10) (by omega)
   omega
theorem nDigits_pos (u : Nat) : 1 ≤ nDigits u := by
 by_cases h : u < 10
 ·rw [Lib.nDigits_small h]; omega
 ·rw [Lib.nDigits_big h]; omega
theorem nDigits_le : ∀ (m u : Nat), u < 10 ^ m → 1 ≤ m → nDigits u ≤ m := by
 intro m
 induction m with
 | zero => intro u _ h; omega
 | succ m ih =>
  intro u hu _
  by_cases h : u < 10
  ·rw [Lib.nDigits_small h]; omega
  ·rw [Lib.nDigits_big h]
   rcases Nat.eq_zero_or_pos m with h0 | h0
   ·subst h0; simp at hu; omega
   ·have := ih (u / 10) (by rw [Nat.pow_succ] at hu; omega) h0
    omega
set_option maxRecDepth 20000 in
theorem t24 (h1 : 100 ≤ k) (h2 : k ≤ 1099511627776) : AC Tryz.prog 24 [.int .i64 (k : Nat)] (laidHs 0 gsAV) fun x _ => x = .str (decDigits k) := ac24 (by
 unfold vc24
 refine ac56 ?_
 unfold vc56
 refine ac117 ?_
 unfold vc117
 refine vif_mk (fun _ => ?_) (fun g => by simp at g)
 refine vif_mk (fun _ => ?_) (fun g => by replace g := of_decide_eq_false g; omega)
 refine vif_mk (fun g => by replace g := of_decide_eq_true g; omega) (fun _ => ?_)
 unfold PNew
 have hb : (laidHs 0 gsAV ++ [Blk.cells (List.replicate 24 (AV.int .u8 0)) true])[8]? = some (.cells (List.replicate 24 (.int .u8 0)) true) := rfl
 have hm : (laidHs 0 gsAV ++ [Blk.cells (List.replicate 24 (AV.int .u8 0)) true])[0]? = some (.gm 0 1) := rfl
 have ht : (laidHs 0 gsAV ++ [Blk.cells (List.replicate 24 (AV.int .u8 0)) true])[1]? = some (.cells tab0 false) := rfl
 rw [show (laidHs 0 gsAV).length = 8 from rfl]
 generalize laidHs 0 gsAV ++ [Blk.cells (List.replicate 24 (AV.int .u8 0)) true] = h at *
 refine vif_mk (fun g => by replace g := of_decide_eq_true g; omega) (fun _ => ?_)
 rw [wrapK_u64 ⟨by omega, by omega⟩]
 have n1 := nDigits_pos k
 have n2 := nDigits_le 13 k (by omega) (by omega)
 have n3 := lt_nDigits k
 refine d172 (u := k) (by omega) (by omega) hm ht ⟨_, rfl, ?_⟩
 generalize hnd : nDigits k = nd at *
 rw [wrapK_i64 (n := (1 : Int) + ((nd : Nat) : Int)) ⟨by omega, by omega⟩]
 refine ⟨.inl rfl, by decide, by simp only [Option.getD_some]; omega, by simp only [Option.getD_some, Option.getD_none]; omega, by decide, ?_⟩
 have eq1 : (⟨8, 0 + (1 : Int).toNat * 1, ((some ((1 : Int) + ((nd : Nat) : Int))).getD ((24 : Nat) : Int) - 1).toNat, ((none : Option Int).getD ((24 : Nat) : Int) - 1).toNat, if (none : Option Int).isNone then 0 else 0⟩ : SL) = ⟨8, 1, nd, 23, 0⟩ := by
  simp only [Option.getD_some, Option.getD_none]
  rw [show ((1 : Int) + ((nd : Nat) : Int) - 1).toNat = nd by omega]
  rfl
 rw [eq1]
 have hdl : (decDigits k).length = nd := by rw [Lib.decDigits_length, hnd]
 have hz : ((List.replicate 24 (AV.int .u8 0)).drop 1).take nd = byteAVs (List.replicate nd 0) := by
  rw [List.drop_replicate, List.take_replicate]
  simp only [byteAVs, List.map_replicate]
  rw [show min nd (24 - 1) = nd by omega]
  rfl
 refine d173 (a := 8) (c := List.replicate 24 (.int .u8 0)) hb hz n1 (by omega) (by rw [← hnd] at n3 ⊢; exact n3) (by omega) hnd.symm ⟨rfl, ?_⟩
 have hlt := lt_of_get hb
 refine vif_mk (fun g => by replace g := of_decide_eq_true g; omega) (fun _ => ?_)
 refine ⟨.inl rfl, by decide, by simp only [Option.getD_some]; omega, by simp only [Option.getD_some, Option.getD_none]; omega, by decide, ?_⟩
 rw [eq1]
 refine ⟨decDigits k, ?_, _, rfl, _, rfl, rfl⟩
 show cellsAt _ ⟨8, 1⟩ nd = _
 rw [cellsAt_mk (p := ⟨8, 1⟩) (List.getElem?_set_self hlt) (by simp [splice, byteAVs, hdl]; omega)]
 have hxl : (byteAVs (decDigits k)).length = nd := by simp [byteAVs, hdl]
 unfold splice
 rw [List.append_assoc, List.drop_append_of_le_length (by simp), List.drop_take]
 simp only [Nat.sub_self, List.take_zero, List.nil_append]
 rw [List.take_append_of_le_length (by omega), List.take_of_length_le (by omega)])
theorem d24 {n : Int} (L : OverL h) (h0 : 0 ≤ n) (h1 : n ≤ 1099511627776) (hQ : Q (.str (decDigits n.toNat)) h) : AC Tryz.prog 24 [.int .i64 n] h Q := by
 obtain ⟨k, rfl⟩ : ∃ k : Nat, n = k := ⟨n.toNat, by omega⟩
 rw [Int.toNat_natCast] at hQ
 rcases Nat.lt_or_ge k 100 with hk | hk
 ·refine AC_same (by kernel_rfl) (fun μ w vs hv => ?_) hQ
  obtain ⟨v, rfl, h1⟩ := relL_one hv
  obtain rfl : v = .int .i64 (k : Nat) := h1
  exact (Any.strconv_Itoa_small Tryz.lays171 k hk w).mono fun e w' ⟨he, hw⟩ => ⟨⟨_, he, rfl⟩, hw⟩
 ·exact AC_frame_gs (gs := gsAV) (t24 hk (by omega)) (fun _ _ _ h => h) (fun _ _ _ h => h) L hQ
theorem d10 {a b : Int} (L : OverL h) (ha : 0 ≤ a ∧ a ≤ 1099511627776) (hb : b ≤ 1099511627776) (hQ : Q (.str (nm a b)) h) : AC Tryz.prog 10 [.agg [.int .i64 a, .int .i64 b]] h Q := ac10 (by
 unfold vc10
 refine vif_mk (fun g => ?_) (fun g => ?_)
 ·have g := of_decide_eq_true g
  have hl := dd_len b.toNat
  refine d24 L g hb ⟨_, rfl, need_mk (decide_eq_true (by simp only [List.length_cons, List.length_nil]; omega)) ?_⟩
  unfold nm at hQ; rw [if_pos g] at hQ; exact hQ
 ·have g := of_decide_eq_false g
  have hl := dd_len a.toNat
  refine d24 L ha.1 ha.2 ⟨_, rfl, need_mk (decide_eq_true (by simp only [List.length_cons, List.length_nil]; omega)) ?_⟩
  unfold nm at hQ; rw [if_neg (by omega)] at hQ; exact hQ)
end
end Go.Proofs.YtjackggnnjdhmaaGreatDoor
namespace Go.Proofs.YtjackggnnjdhmaaGreatDoor
open Go.Ab Go.Proofs
set_option linter.unusedVariables false
set_option linter.unusedSimpArgs false
section
variable {h : Heap} {Q : AV → Heap → Prop} {l : List NT} {q : Option SL} {out x y : Int}
set_option maxRecDepth 20000 in
theorem s4 (R : NodesR h q l) (LA : ∀ h', Ext h h' → OverL h') (s9 : ∀ {h' : Heap} {Q' : AV → Heap → Prop}, OverL h' → Q' (.bool true) h' → AC Tryz.prog 9 [] h' Q')
  (hQ : ∀ h', Q (.bool true) h') : AC Tryz.prog 4 [.agg [.sl q, .int .i64 out], .agg [.int .i64 x, .int .i64 y]] h Q := ac4 (by
 unfold vc4
 have L0 := LA h (.refl _)
 have e4 : (4 : Int) - ((4 : Nat) : Int) = 0 := rfl
 have deep := fun {Q' : AV → Heap → Prop} => d8 (h := h) 4 (l := l) (q := q) (Q := Q') (Nat.le_refl _) R
 rw [e4] at deep
 refine deep fun b hb => ⟨b, rfl, vif_mk (fun _ => s9 L0 ⟨true, rfl, hQ _⟩) (fun g => ?_)⟩
 have S := (hb g).short
 refine vif_mk (fun _ => s9 L0 ⟨true, rfl, hQ _⟩) (fun g1 => ?_)
 refine vif_mk (fun _ => s9 L0 ⟨true, rfl, hQ _⟩) (fun g2 => ?_)
 refine vif_mk (fun _ => s9 L0 ⟨true, rfl, hQ _⟩) (fun g3 => ?_)
 have g1 := of_decide_eq_false g1
 have g2 := of_decide_eq_false g2
 have g3 := of_decide_eq_false g3
 refine s9 L0 ⟨true, rfl, vif_mk (fun g => by cases g) (fun _ => ?_)⟩
 refine d10 L0 (by omega) (by omega) ⟨_, rfl, rfl, d11 (by omega) (by omega) ⟨_, rfl, vif_mk (fun g => by simp at g) (fun _ => ?_)⟩⟩
 refine d12 R S fun q' h' N => ⟨_, rfl, ?_⟩
 have x1 : Ext h h' := N.1
 have L1 := LA h' x1
 have H := N.hasL
 refine d13 (R.mono x1) S fun b hb => ⟨b, rfl, vif_mk (fun _ => hQ _) (fun g => ?_)⟩
 have g : b = true := by simpa using g
 obtain ⟨h1, h2⟩ := hb g
 have U := names_unlike h1 h2
 have pl := placesN_len S l.length
 have sl := S.len
 have hlen := H.len
 have mem : ∀ z ∈ placesN l l.length, (0 ≤ z.1 ∧ z.1 ≤ 40) ∧ -1 ≤ z.2 ∧ z.2 ≤ 40 := fun z hz => place_lens S hz
 generalize placesN l l.length = P at *
 rw [hlen]
 refine ⟨fun xs h38 => h38 = h' ∧ ∃ i : Nat, xs = [.int .i64 i] ∧ i ≤ P.length, left P.length, ⟨rfl, 0, rfl, by omega⟩, ?_⟩
 rintro n35 h38 ⟨rfl, i, hx, hi⟩
 simp only [List.cons.injEq, AV.int.injEq, true_and, and_true] at hx
 subst hx
 refine vif_mk (fun g4 => ?_) (fun _ => hQ _)
 replace g4 := of_decide_eq_true g4
 have hip : i < P.length := by omega
 refine ⟨fun xs h42 => h42 = h38 ∧ ∃ k : Nat, xs = [.int .i64 k] ∧ k ≤ i, left i, ⟨rfl, 0, rfl, by omega⟩, ?_⟩
 rintro n39 h42 ⟨rfl, k, hx, hk⟩
 simp only [List.cons.injEq, AV.int.injEq, true_and, and_true] at hx
 subst hx
 refine vif_mk (fun g5 => ?_) (fun g5 => ?_)
 ·replace g5 := of_decide_eq_true g5
  have hki : k < i := by omega
  have hne : nm P[k].1 P[k].2 ≠ nm P[i].1 P[i].2 := List.pairwise_iff_getElem.1 U k i (by omega) hip hki
  have m1 := mem _ (List.getElem_mem hip)
  have m2 := mem P[k] (List.getElem_mem _)
  refine H.idx (E := pairE) (by omega) (by omega) fun p1 z1 hz1 hc1 => ?_
  have hz1 : z1 = P[i] := by
   rw [Int.toNat_natCast, List.getElem?_eq_getElem hip] at hz1; exact (Option.some.inj hz1).symm
  subst hz1
  refine ⟨P[i].1, P[i].2, hc1, ?_⟩
  refine H.idx (E := pairE) (by omega) (by omega) fun p2 z2 hz2 hc2 => ?_
  have hz2 : z2 = P[k] := by
   rw [Int.toNat_natCast, List.getElem?_eq_getElem (by omega)] at hz2; exact (Option.some.inj hz2).symm
  subst hz2
  refine ⟨P[k].1, P[k].2, hc2, ?_⟩
  refine d10 L1 (by omega) (by omega) ⟨_, rfl, ⟨P[k].1, P[k].2, hc2, rfl⟩, d10 L1 (by omega) (by omega) ⟨_, rfl, vif_mk (fun g6 => ?_) (fun _ => ?_)⟩⟩
  ·exact absurd (eq_of_beq g6).symm hne
  ·rw [wrapK_i64 ⟨by omega, by omega⟩]
   exact ⟨⟨rfl, rfl, trivial⟩, ⟨rfl, k + 1, by simp, by omega⟩, by simp only [left]; omega⟩
 ·replace g5 := of_decide_eq_false g5
  rw [wrapK_i64 ⟨by omega, by omega⟩]
  exact ⟨⟨rfl, rfl, trivial⟩, ⟨rfl, i + 1, by simp, by omega⟩, by simp only [left]; omega⟩)
end
end Go.Proofs.YtjackggnnjdhmaaGreatDoor
namespace Go.Ab
set_option linter.unusedVariables false
set_option linter.unusedSimpArgs false
theorem laid_cells_v {P : Program} {gi : Nat} {W : World} {nm : String} {ty e : TypeId} {n : Nat} {k : IntKind} {tbl : List Int} (h : Go.Lib.VarReads P W nm (.agg (tbl.map fun n => .lit (.int k n)))) (hg : P.globalNamed nm = some gi) (ht : (P.globals[gi]?).map (·.type) = some ty)
  (hu : P.underlying ty = some (.array n e)) (hc : P.cellsOf e = 1) (hct : P.cellsOf ty = n) (he : P.underlying e = some (.int k)) (hn : tbl.length = n) : ∃ C t fz, W.heap[gi]? = some (.cells C t fz) ∧ C.toList = tbl.map (.int k) := by
 obtain ⟨g, t, cs, fuel, p, hg', ht', hv, hd⟩ := h
 obtain rfl := Option.some.inj (hg.symm.trans hg')
 obtain rfl := Option.some.inj (ht.symm.trans ht')
 obtain ⟨xs, m, _, ex, hcl, hl, hel⟩ := DataW.trod_array hu hd
 rw [hct] at hcl
 have e3 : xs.map (·.1) = tbl.map fun n => (DataW.lit (.int k n) : DataW Unit) := (DataW.agg.inj (Prod.mk.inj ex).1).symm
 simp only [World.var?, hg, Option.bind_some] at hv
 split at hv
 ·rename_i C t' fz hb
  have hv' := Option.some.inj hv
  rw [hv'] at hb
  refine ⟨cs, t', fz, hb, List.ext_getElem? fun r => ?_⟩
  by_cases hr : r < n
  ·have hE := hel r hr
   rw [hc, Nat.mul_one, List.getElem?_eq_getElem (by omega)] at hE
   obtain ⟨z, e1, e2, _⟩ := DataW.trod_int he hE
   have e4 : (xs.map (·.1))[r]? = (tbl.map fun n => (DataW.lit (.int k n) : DataW Unit))[r]? := by rw [e3]
   rw [List.getElem?_map, List.getElem?_map, List.getElem?_eq_getElem (by omega : r < xs.length), List.getElem?_eq_getElem (by omega : r < tbl.length), e2] at e4
   simp only [Option.map_some, Option.some.injEq, DataW.lit.injEq, Lit.int.injEq, true_and] at e4
   have h0 : ((cs.toList.drop r).take 1)[0]? = some (.int k z) := by rw [e1]; rfl
   have h1 : cs.toList[r]? = some (.int k z) := by simpa using h0
   rw [h1, List.getElem?_map, List.getElem?_eq_getElem (by omega : r < tbl.length), e4]
   rfl
  ·rw [List.getElem?_eq_none (by omega), List.getElem?_eq_none (by rw [List.length_map]; omega)]
 ·cases hv
theorem laid_all {W : World} : ∀ (gs : List (Nat × List AV)) (μ : Ren) (h : Heap), HRel μ h W → (∀ (b : Nat) (B : Blk), h[b]? = some B → B.rw = false) → (∀ (b g j : Nat), h[b]? = some (.gm g j) → j < h.length) →
  (∀ (b : Nat) (c : List AV) (r : Bool), h[b]? = some (.cells c r) → ∀ x ∈ c, ∀ (μ μ' : Ren) (y : Value), x.rel μ y → x.rel μ' y) → (∀ (i : Nat) (B : Blk), h[i]? = some B → (∃ g j, B = .gm g j) ∨ ∃ c r, B = .cells c r) →
  (∀ g c, (g, c) ∈ gs → ∃ (k : IntKind) (tbl : List Int) (C : Array Value) (t : TypeId) (fz : Nat × Nat), W.heap[g]? = some (.cells C t fz) ∧ C.toList = tbl.map (.int k) ∧ c = tbl.map (.int k)) →
  ∃ μ1, HRel (μ ++ μ1) (h ++ laidHs h.length gs) W
 | [], μ, h, H, _, _, _, _, _ => ⟨[], by simpa [laidHs] using H⟩
 | (g, c) :: gs, μ, h, H, h1, h2, h3, h4, h5 => by
  obtain ⟨k, tbl, C, t, fz, k1, k2, k3⟩ := h5 g c (by simp)
  have hpl : ∀ x ∈ c, ∀ (μ μ' : Ren) (y : Value), x.rel μ y → x.rel μ' y := by
   intro x hx μ μ' y hr
   rw [k3] at hx
   obtain ⟨z, _, rfl⟩ := List.mem_map.1 hx
   exact hr
  have H' := H.lay h1 (c := c) k1 (by rw [k3, ← Array.length_toList, k2]; simp) (by rw [k3]; simp [oneAll, AV.one]) (fun μ i x hx => by
   rw [k3, List.getElem?_map] at hx
   cases hk : tbl[i]? with
   | none => rw [hk] at hx; cases hx
   | some z =>
    rw [hk] at hx; cases hx
    refine ⟨.int k z, ?_, rfl⟩
    rw [← Array.getElem?_toList, k2, List.getElem?_map, hk]; rfl) h2 h3 h4
  have back : ∀ (b : Nat) (B : Blk), (h ++ [.gm g (h.length + 1), .cells c false])[b]? = some B → h[b]? = some B ∨ B = .gm g (h.length + 1) ∨ B = .cells c false := by
   intro b B hb
   by_cases hi : b < h.length
   ·exact .inl (by rw [← hb, List.getElem?_append_left hi])
   ·rw [List.getElem?_append_right (by omega)] at hb
    have := List.mem_of_getElem? hb
    simp at this
    exact .inr this
  obtain ⟨μ1, H2⟩ := laid_all gs _ _ H' (fun b B hb => by
    rcases back b B hb with h | rfl | rfl
    ·exact h1 b B h
    ·rfl
    ·rfl) (fun b g' j hb => by
    rw [List.length_append]
    rcases back b _ hb with h | h | h
    ·have := h2 b g' j h; omega
    ·cases h; simp
    ·cases h) (fun b c' r hb => by
    rcases back b _ hb with h | h | h
    ·exact h3 b c' r h
    ·cases h
    ·cases h; exact hpl) (fun i B hb => by
    rcases back i B hb with h | rfl | rfl
    ·exact h4 i B h
    ·exact .inl ⟨_, _, rfl⟩
    ·exact .inr ⟨_, _, rfl⟩) (fun g' c' hm => h5 g' c' (by simp [hm]))
  refine ⟨[⟨g, 0, 0⟩, ⟨g, 0, C.size⟩] ++ μ1, ?_⟩
  rw [← List.append_assoc]
  simpa [laidHs, List.append_assoc] using H2
theorem laid_all0 {W : World} {gs : List (Nat × List AV)} (h : ∀ g c, (g, c) ∈ gs → ∃ (k : IntKind) (tbl : List Int) (C : Array Value) (t : TypeId) (fz : Nat × Nat), W.heap[g]? = some (.cells C t fz) ∧ C.toList = tbl.map (.int k) ∧ c = tbl.map (.int k)) : ∃ μ, HRel μ (laidHs 0 gs) W := by
 obtain ⟨μ, H⟩ := laid_all gs [] [] (HRel_nil W) (by simp) (by simp) (by simp) (by simp) h
 exact ⟨μ, by simpa using H⟩
end Go.Ab
namespace Go.Proofs.YtjackggnnjdhmaaGreatDoor
open Go.Ab
open Go.ChangeShapes Go.WideShapes Go.ChangeAt Go.RowKit
set_option linter.unusedVariables false
set_option linter.unusedSimpArgs false
abbrev laidL : List (String × DataW Unit) := Rows.deskNamesRow.laid
def nums (l : List AV) : List Int := l.map fun x => match x with | .int _ n => n | _ => 0
def laidN (i : Nat) : String := (Rows.deskNamesRow.laid.map (·.1)).getD i ""
def laidT : List (String × DataW Unit) := [(laidN 0, .agg ((nums tab1).map fun n => .lit (.int .u32 n))), (laidN 1, .agg ((nums tab0).map fun n => .lit (.int .u64 n))), (laidN 2, .agg ((nums tab3).map fun n => .lit (.int .u8 n))), (laidN 3, .agg ((nums tab2).map fun n => .lit (.int .u8 n))), (laidN 4, Rows.laid_unicode_utf8_first), (laidN 5, Rows.laid_unicode_utf8_acceptRanges)]
theorem laidL_T : laidL = laidT := by kernel_rfl
theorem tab0_T : tab0 = (nums tab0).map (.int .u64) := by kernel_rfl
theorem tab1_T : tab1 = (nums tab1).map (.int .u32) := by kernel_rfl
theorem tab2_T : tab2 = (nums tab2).map (.int .u8) := by kernel_rfl
theorem tab3_T : tab3 = (nums tab3).map (.int .u8) := by kernel_rfl
theorem laid_heap {W : World} (h : laidMet Tryz.prog laidL W) : ∃ μ : Ren, HRel μ (laidHs 0 gsAV) W := by
 rw [laidL_T] at h
 refine laid_all0 fun g c hm => ?_
 have r1 := Go.Lib.laidMet.reads h (n := laidN 0) (d := .agg ((nums tab1).map fun n => .lit (.int .u32 n))) (by simp [laidT])
 have r0 := Go.Lib.laidMet.reads h (n := laidN 1) (d := .agg ((nums tab0).map fun n => .lit (.int .u64 n))) (by simp [laidT])
 have r3 := Go.Lib.laidMet.reads h (n := laidN 2) (d := .agg ((nums tab3).map fun n => .lit (.int .u8 n))) (by simp [laidT])
 have r2 := Go.Lib.laidMet.reads h (n := laidN 3) (d := .agg ((nums tab2).map fun n => .lit (.int .u8 n))) (by simp [laidT])
 simp only [gsAV, List.mem_cons, Prod.mk.injEq, List.not_mem_nil, or_false] at hm
 rcases hm with ⟨rfl, rfl⟩ | ⟨rfl, rfl⟩ | ⟨rfl, rfl⟩ | ⟨rfl, rfl⟩
 ·obtain ⟨C, t, fz, k1, k2⟩ := laid_cells_v (gi := 0) (ty := 347) (e := 217) (n := 20) r0 (by kernel_rfl) (by kernel_rfl) (by kernel_rfl) (by kernel_rfl) (by kernel_rfl) (by kernel_rfl) (by kernel_rfl)
  exact ⟨_, _, C, t, fz, k1, k2, tab0_T⟩
 ·obtain ⟨C, t, fz, k1, k2⟩ := laid_cells_v (gi := 6) (ty := 732) (e := 318) (n := 16) r1 (by kernel_rfl) (by kernel_rfl) (by kernel_rfl) (by kernel_rfl) (by kernel_rfl) (by kernel_rfl) (by kernel_rfl)
  exact ⟨_, _, C, t, fz, k1, k2, tab1_T⟩
 ·obtain ⟨C, t, fz, k1, k2⟩ := laid_cells_v (gi := 5) (ty := 426) (e := 5) (n := 64) r2 (by kernel_rfl) (by kernel_rfl) (by kernel_rfl) (by kernel_rfl) (by kernel_rfl) (by kernel_rfl) (by kernel_rfl)
  exact ⟨_, _, C, t, fz, k1, k2, tab2_T⟩
 ·obtain ⟨C, t, fz, k1, k2⟩ := laid_cells_v (gi := 4) (ty := 510) (e := 5) (n := 32) r3 (by kernel_rfl) (by kernel_rfl) (by kernel_rfl) (by kernel_rfl) (by kernel_rfl) (by kernel_rfl) (by kernel_rfl)
  exact ⟨_, _, C, t, fz, k1, k2, tab3_T⟩
end Go.Proofs.YtjackggnnjdhmaaGreatDoor
namespace Go.Proofs.YtjackggnnjdhmaaGreatDoor
open Go.Ab
open Go.ChangeShapes Go.WideShapes Go.ChangeAt Go.RowKit
set_option maxRecDepth 100000
theorem wi8 (os : Os) : World.layIfaces Tryz.prog (World.holding Tryz.prog os { blocks := #[], args := #[.agg #[.slice none 0 0, .int .i64 0], .agg #[.int .i64 0, .int .i64 0]] }) laidL (World.laidAll Tryz.prog os laidL) = true := by kernel_rfl
end Go.Proofs.YtjackggnnjdhmaaGreatDoor
