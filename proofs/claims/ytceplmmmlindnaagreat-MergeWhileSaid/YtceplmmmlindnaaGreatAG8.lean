/- Conditions, printed. -/
import Derived.Test.YtceplmmmlindnaaGreatAG7
import Derived.Test.YtceplmmmlindnaaGreatProg
import Derived.KernelRfl
namespace Go.Proofs
open Go.Ab
set_option maxRecDepth 100000
set_option linter.unusedVariables false

/-- oxbowlaw11.MergeLists: what it asks. -/
def vc3 (q1 : Option SL) (h : Heap) (Q : AV → Heap → Prop) : Prop :=
 AC Tryz.prog 6 [.sl q1] h fun v2 h3 => ∃ b4 : Bool, v2 = .bool b4 ∧
 vif b4
 (AC Tryz.prog 7 [] h3 fun v5 h6 => ∃ b7 : Bool, v5 = .bool b7 ∧
 Q (.bool b7) h6)
 (AC Tryz.prog 8 [.sl q1] h3 fun v8 h9 => ∃ q10 : Option SL, ∃ n11 : Int, v8 = .tup [.sl q10, .int .i64 n11] ∧
 AC Tryz.prog 9 [.sl q1] h9 fun v12 h13 => ∃ n14 : Int, v12 = .int .i64 n14 ∧
 AC Tryz.prog 7 [] h13 fun v15 h16 => ∃ b17 : Bool, v15 = .bool b17 ∧
 vif b17
 (vif (n11 == n14)
 (vif (n14 != 0)
 (vif ((slLen q10 : Int) == 0)
 (Q (.bool true) h16)
 (vif (n14 == 0)
 (AC Tryz.prog 11 [.sl q1] h16 fun v18 h19 => ∃ q20 : Option SL, v18 = .sl q20 ∧
 AC Tryz.prog 10 [.sl q10, .sl q20] h19 fun v21 h22 => ∃ b23 : Bool, v21 = .bool b23 ∧
 Q (.bool b23) h22)
 (Q (.bool false) h16)))
 (vif (n14 == 0)
 (AC Tryz.prog 11 [.sl q1] h16 fun v24 h25 => ∃ q26 : Option SL, v24 = .sl q26 ∧
 AC Tryz.prog 10 [.sl q10, .sl q26] h25 fun v27 h28 => ∃ b29 : Bool, v27 = .bool b29 ∧
 Q (.bool b29) h28)
 (Q (.bool false) h16)))
 (Q (.bool false) h16))
 (Q (.bool false) h16))
theorem ac3 {q1 : Option SL} {h : Heap} {Q : AV → Heap → Prop} (hk : vc3 q1 h Q) : AC Tryz.prog 3 [.sl q1] h Q :=
 AC_by (H := hintsOf [] []) (by kernel_rfl) (by kernel_rfl) hk

/-- oxbowlaw11.MergeTells: what it asks. -/
def vc4 (q1 : Option SL) (n2 : Int) (h : Heap) (Q : AV → Heap → Prop) : Prop :=
 AC Tryz.prog 6 [.sl q1] h fun v3 h4 => ∃ b5 : Bool, v3 = .bool b5 ∧
 vif b5
 (AC Tryz.prog 7 [] h4 fun v6 h7 => ∃ b8 : Bool, v6 = .bool b8 ∧
 Q (.bool b8) h7)
 (AC Tryz.prog 9 [.sl q1] h4 fun v9 h10 => ∃ n11 : Int, v9 = .int .i64 n11 ∧
 vif (n11 != 0)
 (AC Tryz.prog 7 [] h10 fun v12 h13 => ∃ b14 : Bool, v12 = .bool b14 ∧
 Q (.bool b14) h13)
 (AC Tryz.prog 12 [.sl q1, .sl none] h10 fun v15 h16 => ∃ p17 : Option PA, ∃ n18 : Int, v15 = .tup [.ptr p17, .int .i64 n18] ∧
 AC Tryz.prog 11 [.sl q1] h16 fun v19 h20 => ∃ q21 : Option SL, v19 = .sl q21 ∧
 AC Tryz.prog 7 [] h20 fun v22 h23 => ∃ b24 : Bool, v22 = .bool b24 ∧
 vif (!b24)
 (Q (.bool false) h23)
 (vif (n18 != 0)
 (Q (.bool false) h23)
 (vif (p17.isNone)
 (Q (.bool false) h23)
 (∃ (I26 : List AV → Heap → Prop) (m27 : List AV → Heap → Nat), I26 [.int .i64 0] h23 ∧
 ∀ n25 : Int, ∀ h28 : Heap, I26 [.int .i64 n25] h28 →
 vif (decide (n25 < (slLen q21 : Int)))
 (vif (n25 != n2)
 (AC Tryz.prog 13 [.ptr p17] h28 fun v29 h30 => ∃ n31 : Int, ∃ n32 : Int, ∃ n33 : Int, ∃ n34 : Int, ∃ b35 : Bool, v29 = .tup [.agg [.int .i64 n31, .int .i64 n32, .int .i64 n33, .int .i64 n34], .bool b35] ∧
 AC Tryz.prog 14 [.ptr p17] h30 fun v36 h37 => ∃ n38 : Int, ∃ n39 : Int, ∃ n40 : Int, ∃ n41 : Int, ∃ b42 : Bool, ∃ n43 : Int, v36 = .tup [.agg [.int .i64 n38, .int .i64 n39, .int .i64 n40, .int .i64 n41], .bool b42, .int .i64 n43] ∧
 vif (!b35)
 (Q (.bool false) h37)
 (vif (!b42)
 (Q (.bool false) h37)
 (vif (n43 != 0)
 (Q (.bool false) h37)
 (vIdx q21 n25 4 fun p44 =>
 ∃ n45 : Int, ∃ n46 : Int, ∃ n47 : Int, ∃ n48 : Int, cellsAt h37 p44 4 = some [.int .i64 n45, .int .i64 n46, .int .i64 n47, .int .i64 n48] ∧
 vif (!(((n31 == n45) && ((n32 == n46) && true)) && (((n33 == n47) && ((n34 == n48) && true)) && true)))
 (Q (.bool false) h37)
 (vif (!(((n38 == n31) && ((n39 == n32) && true)) && (((n40 == n33) && ((n41 == n34) && true)) && true)))
 (Q (.bool false) h37)
 ((True) ∧ I26 [.int .i64 (wrapK .i64 (n25 + 1))] h37 ∧ m27 [.int .i64 (wrapK .i64 (n25 + 1))] h37 < m27 [.int .i64 n25] h28))))))
 (AC Tryz.prog 15 [.ptr p17] h28 fun v49 h50 => ∃ n51 : Int, v49 = .int .i64 n51 ∧
 vif (decide (n51 < 0))
 (Q (.bool false) h50)
 (AC Tryz.prog 15 [.ptr p17] h50 fun v52 h53 => ∃ n54 : Int, v52 = .int .i64 n54 ∧
 vif (decide (n54 > (slLen q1 : Int)))
 (Q (.bool false) h53)
 (AC Tryz.prog 15 [.ptr p17] h53 fun v55 h56 => ∃ n57 : Int, v55 = .int .i64 n57 ∧
 vif (!((n57 == 0) == (n25 == (slLen q21 : Int))))
 (Q (.bool false) h56)
 (AC Tryz.prog 16 [.ptr p17] h56 fun v58 h59 => ∃ q60 : Option SL, ∃ n61 : Int, v58 = .tup [.sl q60, .int .i64 n61] ∧
 AC Tryz.prog 13 [.ptr p17] h59 fun v62 h63 => ∃ n64 : Int, ∃ n65 : Int, ∃ n66 : Int, ∃ n67 : Int, ∃ b68 : Bool, v62 = .tup [.agg [.int .i64 n64, .int .i64 n65, .int .i64 n66, .int .i64 n67], .bool b68] ∧
 AC Tryz.prog 14 [.ptr p17] h63 fun v69 h70 => ∃ n71 : Int, ∃ n72 : Int, ∃ n73 : Int, ∃ n74 : Int, ∃ b75 : Bool, ∃ n76 : Int, v69 = .tup [.agg [.int .i64 n71, .int .i64 n72, .int .i64 n73, .int .i64 n74], .bool b75, .int .i64 n76] ∧
 vif (n61 == 0)
 (PSlice 4 q21 n25 none none fun q77 =>
 AC Tryz.prog 10 [.sl q60, .sl q77] h70 fun v78 h79 => ∃ b80 : Bool, v78 = .bool b80 ∧
 vif b80
 (vif (!b68)
 (vif (!b75)
 (Q (.bool (n76 == 0)) h79)
 (Q (.bool false) h79))
 (Q (.bool false) h79))
 (Q (.bool false) h79))
 (Q (.bool false) h70))))))
 (AC Tryz.prog 15 [.ptr p17] h28 fun v81 h82 => ∃ n83 : Int, v81 = .int .i64 n83 ∧
 vif (decide (n83 < 0))
 (Q (.bool false) h82)
 (AC Tryz.prog 15 [.ptr p17] h82 fun v84 h85 => ∃ n86 : Int, v84 = .int .i64 n86 ∧
 vif (decide (n86 > (slLen q1 : Int)))
 (Q (.bool false) h85)
 (AC Tryz.prog 15 [.ptr p17] h85 fun v87 h88 => ∃ n89 : Int, v87 = .int .i64 n89 ∧
 vif (!((n89 == 0) == (n25 == (slLen q21 : Int))))
 (Q (.bool false) h88)
 (AC Tryz.prog 16 [.ptr p17] h88 fun v90 h91 => ∃ q92 : Option SL, ∃ n93 : Int, v90 = .tup [.sl q92, .int .i64 n93] ∧
 AC Tryz.prog 13 [.ptr p17] h91 fun v94 h95 => ∃ n96 : Int, ∃ n97 : Int, ∃ n98 : Int, ∃ n99 : Int, ∃ b100 : Bool, v94 = .tup [.agg [.int .i64 n96, .int .i64 n97, .int .i64 n98, .int .i64 n99], .bool b100] ∧
 AC Tryz.prog 14 [.ptr p17] h95 fun v101 h102 => ∃ n103 : Int, ∃ n104 : Int, ∃ n105 : Int, ∃ n106 : Int, ∃ b107 : Bool, ∃ n108 : Int, v101 = .tup [.agg [.int .i64 n103, .int .i64 n104, .int .i64 n105, .int .i64 n106], .bool b107, .int .i64 n108] ∧
 vif (n93 == 0)
 (PSlice 4 q21 n25 none none fun q109 =>
 AC Tryz.prog 10 [.sl q92, .sl q109] h102 fun v110 h111 => ∃ b112 : Bool, v110 = .bool b112 ∧
 vif b112
 (vif (!b100)
 (vif (!b107)
 (Q (.bool (n108 == 0)) h111)
 (Q (.bool false) h111))
 (Q (.bool false) h111))
 (Q (.bool false) h111))
 (Q (.bool false) h102))))))))))
theorem ac4 {q1 : Option SL} {n2 : Int} {h : Heap} {Q : AV → Heap → Prop} (hk : vc4 q1 n2 h Q) : AC Tryz.prog 4 [.sl q1, .int .i64 n2] h Q :=
 AC_by (H := hintsOf [9, 11, 16, 18] [(0, [8], [])]) (by kernel_rfl) (by kernel_rfl) hk

/-- oxbowlaw11.MergeWhile: what it asks. -/
def vc5 (q1 : Option SL) (n2 : Int) (h : Heap) (Q : AV → Heap → Prop) : Prop :=
 AC Tryz.prog 6 [.sl q1] h fun v3 h4 => ∃ b5 : Bool, v3 = .bool b5 ∧
 vif b5
 (AC Tryz.prog 7 [] h4 fun v6 h7 => ∃ b8 : Bool, v6 = .bool b8 ∧
 Q (.bool b8) h7)
 (AC Tryz.prog 9 [.sl q1] h4 fun v9 h10 => ∃ n11 : Int, v9 = .int .i64 n11 ∧
 vif (n11 != 0)
 (AC Tryz.prog 7 [] h10 fun v12 h13 => ∃ b14 : Bool, v12 = .bool b14 ∧
 Q (.bool b14) h13)
 (AC Tryz.prog 12 [.sl q1, .sl none] h10 fun v15 h16 => ∃ p17 : Option PA, ∃ n18 : Int, v15 = .tup [.ptr p17, .int .i64 n18] ∧
 AC Tryz.prog 7 [] h16 fun v19 h20 => ∃ b21 : Bool, v19 = .bool b21 ∧
 vif (!b21)
 (Q (.bool false) h20)
 (vif (n18 != 0)
 (Q (.bool false) h20)
 (vif (p17.isNone)
 (Q (.bool false) h20)
 (AC Tryz.prog 11 [.sl q1] h20 fun v22 h23 => ∃ q24 : Option SL, v22 = .sl q24 ∧
 ∃ (I26 : List AV → Heap → Prop) (m27 : List AV → Heap → Nat), I26 [.int .i64 0] h23 ∧
 ∀ n25 : Int, ∀ h28 : Heap, I26 [.int .i64 n25] h28 →
 vif (decide (n25 < (slLen q24 : Int)))
 (vIdx q24 n25 4 fun p29 =>
 ∃ n30 : Int, cellsAt h28 ⟨p29.b, p29.o + 2 + 0⟩ 1 = some [.int .i64 n30] ∧
 vif (decide (n30 < n2))
 ((True) ∧ I26 [.int .i64 (wrapK .i64 (n25 + 1))] h28 ∧ m27 [.int .i64 (wrapK .i64 (n25 + 1))] h28 < m27 [.int .i64 n25] h28)
 (PNew [.int .i64 n2] true h28 fun a31 h32 =>
 AC Tryz.prog 17 [.ptr p17, .func (.func 18) [.ptr (some ⟨a31, 0⟩)] []] h32 fun v33 h34 => ∃ q35 : Option SL, ∃ n36 : Int, v33 = .tup [.sl q35, .int .i64 n36] ∧
 AC Tryz.prog 16 [.ptr p17] h34 fun v37 h38 => ∃ q39 : Option SL, ∃ n40 : Int, v37 = .tup [.sl q39, .int .i64 n40] ∧
 vif (n36 == 0)
 (PSlice 4 q24 0 (some n25) none fun q41 =>
 AC Tryz.prog 10 [.sl q35, .sl q41] h38 fun v42 h43 => ∃ b44 : Bool, v42 = .bool b44 ∧
 vif b44
 (vif (n40 == 0)
 (PSlice 4 q24 n25 none none fun q45 =>
 AC Tryz.prog 10 [.sl q39, .sl q45] h43 fun v46 h47 => ∃ b48 : Bool, v46 = .bool b48 ∧
 Q (.bool b48) h47)
 (Q (.bool false) h43))
 (Q (.bool false) h43))
 (Q (.bool false) h38)))
 (PNew [.int .i64 n2] true h28 fun a49 h50 =>
 AC Tryz.prog 17 [.ptr p17, .func (.func 18) [.ptr (some ⟨a49, 0⟩)] []] h50 fun v51 h52 => ∃ q53 : Option SL, ∃ n54 : Int, v51 = .tup [.sl q53, .int .i64 n54] ∧
 AC Tryz.prog 16 [.ptr p17] h52 fun v55 h56 => ∃ q57 : Option SL, ∃ n58 : Int, v55 = .tup [.sl q57, .int .i64 n58] ∧
 vif (n54 == 0)
 (PSlice 4 q24 0 (some n25) none fun q59 =>
 AC Tryz.prog 10 [.sl q53, .sl q59] h56 fun v60 h61 => ∃ b62 : Bool, v60 = .bool b62 ∧
 vif b62
 (vif (n58 == 0)
 (PSlice 4 q24 n25 none none fun q63 =>
 AC Tryz.prog 10 [.sl q57, .sl q63] h61 fun v64 h65 => ∃ b66 : Bool, v64 = .bool b66 ∧
 Q (.bool b66) h65)
 (Q (.bool false) h61))
 (Q (.bool false) h61))
 (Q (.bool false) h56)))))))
theorem ac5 {q1 : Option SL} {n2 : Int} {h : Heap} {Q : AV → Heap → Prop} (hk : vc5 q1 n2 h Q) : AC Tryz.prog 5 [.sl q1, .int .i64 n2] h Q :=
 AC_by (H := hintsOf [] [(0, [8], [])]) (by kernel_rfl) (by kernel_rfl) hk

/-- oxbowlaw11.large: what it asks. -/
def vc6 (q1 : Option SL) (h : Heap) (Q : AV → Heap → Prop) : Prop :=
 ∃ (I4 : List AV → Heap → Prop) (m5 : List AV → Heap → Nat), I4 [.int .i64 0, .int .i64 0] h ∧
 ∀ n2 : Int, ∀ n3 : Int, ∀ h6 : Heap, I4 [.int .i64 n2, .int .i64 n3] h6 →
 vif (decide (n3 < (slLen q1 : Int)))
 (vif (decide (n3 < 70))
 (vIdx q1 n3 1 fun p7 =>
 ∃ q8 : Option SL, cellsAt h6 p7 1 = some [.sl q8] ∧
 vif (decide ((slLen q8 : Int) > 500))
 (Q (.bool true) h6)
 (vIdx q1 n3 1 fun p9 =>
 ∃ q10 : Option SL, cellsAt h6 p9 1 = some [.sl q10] ∧
 (True) ∧ I4 [.int .i64 (wrapK .i64 (n2 + (slLen q10 : Int))), .int .i64 (wrapK .i64 (n3 + 1))] h6 ∧ m5 [.int .i64 (wrapK .i64 (n2 + (slLen q10 : Int))), .int .i64 (wrapK .i64 (n3 + 1))] h6 < m5 [.int .i64 n2, .int .i64 n3] h6))
 (Q (.bool (decide (n2 > 1000))) h6))
 (Q (.bool (decide (n2 > 1000))) h6)
theorem ac6 {q1 : Option SL} {h : Heap} {Q : AV → Heap → Prop} (hk : vc6 q1 h Q) : AC Tryz.prog 6 [.sl q1] h Q :=
 AC_by (H := hintsOf [] [(0, [3, 4], [])]) (by kernel_rfl) (by kernel_rfl) hk

/-- merge.Lists: what it asks. -/
def vc8 (q1 : Option SL) (h : Heap) (Q : AV → Heap → Prop) : Prop :=
 AC Tryz.prog 12 [.sl q1, .sl none] h fun v2 h3 => ∃ p4 : Option PA, ∃ n5 : Int, v2 = .tup [.ptr p4, .int .i64 n5] ∧
 vif (n5 != 0)
 (Q (.tup [.sl none, .int .i64 n5]) h3)
 (AC Tryz.prog 16 [.ptr p4] h3 fun v6 h7 => ∃ q8 : Option SL, ∃ n9 : Int, v6 = .tup [.sl q8, .int .i64 n9] ∧
 Q (.tup [.sl q8, .int .i64 n9]) h7)
theorem ac8 {q1 : Option SL} {h : Heap} {Q : AV → Heap → Prop} (hk : vc8 q1 h Q) : AC Tryz.prog 8 [.sl q1] h Q :=
 AC_by (H := hintsOf [] []) (by kernel_rfl) (by kernel_rfl) hk

/-- oxbowref11.May: what it asks. -/
def vc9 (q1 : Option SL) (h : Heap) (Q : AV → Heap → Prop) : Prop :=
 vif (decide ((slLen q1 : Int) > 64))
 (Q (.int .i64 31) h)
 (∃ (I3 : List AV → Heap → Prop) (m4 : List AV → Heap → Nat), I3 [.int .i64 0] h ∧
 ∀ n2 : Int, ∀ h5 : Heap, I3 [.int .i64 n2] h5 →
 vif (decide (n2 < (slLen q1 : Int)))
 (vIdx q1 n2 1 fun p6 =>
 ∃ q7 : Option SL, cellsAt h5 p6 1 = some [.sl q7] ∧
 AC Tryz.prog 21 [.sl q7] h5 fun v8 h9 => ∃ b10 : Bool, v8 = .bool b10 ∧
 vif (!b10)
 (Q (.int .i64 1) h9)
 ((True) ∧ I3 [.int .i64 (wrapK .i64 (n2 + 1))] h9 ∧ m4 [.int .i64 (wrapK .i64 (n2 + 1))] h9 < m4 [.int .i64 n2] h5))
 (Q (.int .i64 0) h5))
theorem ac9 {q1 : Option SL} {h : Heap} {Q : AV → Heap → Prop} (hk : vc9 q1 h Q) : AC Tryz.prog 9 [.sl q1] h Q :=
 AC_by (H := hintsOf [] [(0, [3], [])]) (by kernel_rfl) (by kernel_rfl) hk

/-- oxbowref07.Same: what it asks. -/
def vc10 (q1 : Option SL) (q2 : Option SL) (h : Heap) (Q : AV → Heap → Prop) : Prop :=
 vif ((slLen q1 : Int) != (slLen q2 : Int))
 (Q (.bool false) h)
 (∃ (I4 : List AV → Heap → Prop) (m5 : List AV → Heap → Nat), I4 [.int .i64 0] h ∧
 ∀ n3 : Int, ∀ h6 : Heap, I4 [.int .i64 n3] h6 →
 vif (decide (n3 < (slLen q1 : Int)))
 (vIdx q1 n3 4 fun p7 =>
 ∃ n8 : Int, ∃ n9 : Int, ∃ n10 : Int, ∃ n11 : Int, cellsAt h6 p7 4 = some [.int .i64 n8, .int .i64 n9, .int .i64 n10, .int .i64 n11] ∧
 vIdx q2 n3 4 fun p12 =>
 ∃ n13 : Int, ∃ n14 : Int, ∃ n15 : Int, ∃ n16 : Int, cellsAt h6 p12 4 = some [.int .i64 n13, .int .i64 n14, .int .i64 n15, .int .i64 n16] ∧
 vif (!(((n8 == n13) && ((n9 == n14) && true)) && (((n10 == n15) && ((n11 == n16) && true)) && true)))
 (Q (.bool false) h6)
 ((True) ∧ I4 [.int .i64 (wrapK .i64 (n3 + 1))] h6 ∧ m5 [.int .i64 (wrapK .i64 (n3 + 1))] h6 < m5 [.int .i64 n3] h6))
 (Q (.bool true) h6))
theorem ac10 {q1 : Option SL} {q2 : Option SL} {h : Heap} {Q : AV → Heap → Prop} (hk : vc10 q1 q2 h Q) : AC Tryz.prog 10 [.sl q1, .sl q2] h Q :=
 AC_by (H := hintsOf [] [(0, [5], [])]) (by kernel_rfl) (by kernel_rfl) hk

/-- oxbowref11.All: what it asks. -/
def vc11 (q1 : Option SL) (h : Heap) (Q : AV → Heap → Prop) : Prop :=
 ∃ (I4 : List AV → Heap → Prop) (m5 : List AV → Heap → Nat), I4 [.sl none, .int .i64 0] h ∧
 ∀ q2 : Option SL, ∀ n3 : Int, ∀ h6 : Heap, I4 [.sl q2, .int .i64 n3] h6 →
 vif (decide (n3 < (slLen q1 : Int)))
 (vIdx q1 n3 1 fun p7 =>
 ∃ q8 : Option SL, cellsAt h6 p7 1 = some [.sl q8] ∧
 PAppendS 4 32 q2 q8 h6 fun q9 h10 =>
 (True) ∧ I4 [.sl q9, .int .i64 (wrapK .i64 (n3 + 1))] h10 ∧ m5 [.sl q9, .int .i64 (wrapK .i64 (n3 + 1))] h10 < m5 [.sl q2, .int .i64 n3] h6)
 (AC Tryz.prog 22 [.sl q2] h6 fun v11 h12 => ∃ q13 : Option SL, v11 = .sl q13 ∧
 Q (.sl q13) h12)
theorem ac11 {q1 : Option SL} {h : Heap} {Q : AV → Heap → Prop} (hk : vc11 q1 h Q) : AC Tryz.prog 11 [.sl q1] h Q :=
 AC_by (H := hintsOf [] [(0, [3, 4], [])]) (by kernel_rfl) (by kernel_rfl) hk

/-- merge.New: what it asks. -/
def vc12 (q1 : Option SL) (q2 : Option SL) (h : Heap) (Q : AV → Heap → Prop) : Prop :=
 AC Tryz.prog 23 [.sl q1, .sl q2] h fun v3 h4 => ∃ n5 : Int, v3 = .int .i64 n5 ∧
 vif (n5 != 0)
 (Q (.tup [.ptr none, .int .i64 n5]) h4)
 (PNew [.sl none, .sl none, .int .i64 0] true h4 fun a6 h7 =>
 ∃ (I9 : List AV → Heap → Prop) (m10 : List AV → Heap → Nat), I9 [.int .i64 0] h7 ∧
 ∀ n8 : Int, ∀ h11 : Heap, I9 [.int .i64 n8] h11 →
 vif (decide (n8 < (slLen q1 : Int)))
 (vIdx q1 n8 1 fun p12 =>
 ∃ q13 : Option SL, cellsAt h11 p12 1 = some [.sl q13] ∧
 PNew [] true h11 fun a14 h15 =>
 PAppendS 4 32 (some ⟨a14, 0, 0, 0, 0⟩) q13 h15 fun q16 h17 =>
 PNew [.sl q16] true h17 fun a18 h19 =>
 AC Tryz.prog 24 [.ptr (some ⟨a6, 0⟩), .iface 63 (.ptr (some ⟨a18, 0⟩))] h19 fun v20 h21 => v20 = .tup [] ∧
 (True) ∧ I9 [.int .i64 (wrapK .i64 (n8 + 1))] h21 ∧ m10 [.int .i64 (wrapK .i64 (n8 + 1))] h21 < m10 [.int .i64 n8] h11)
 (∃ (I23 : List AV → Heap → Prop) (m24 : List AV → Heap → Nat), I23 [.int .i64 0] h11 ∧
 ∀ n22 : Int, ∀ h25 : Heap, I23 [.int .i64 n22] h25 →
 vif (decide (n22 < (slLen q2 : Int)))
 (vIdx q2 n22 1 fun p26 =>
 ∃ p27 : Option PA, cellsAt h25 p26 1 = some [.ptr p27] ∧
 ∃ q28 : Option SL, cellsAt h25 ⟨a6, 1⟩ 1 = some [.sl q28] ∧
 PNew [.ptr p27] true h25 fun a29 h30 =>
 PAppendS 1 8 q28 (some ⟨a29, 0, 1, 1, 0⟩) h30 fun q31 h32 =>
 PStore h32 ⟨a6, 1⟩ [.sl q31] fun h33 =>
 AC Tryz.prog 24 [.ptr (some ⟨a6, 0⟩), .iface 66 (.ptr p27)] h33 fun v34 h35 => v34 = .tup [] ∧
 (True) ∧ I23 [.int .i64 (wrapK .i64 (n22 + 1))] h35 ∧ m24 [.int .i64 (wrapK .i64 (n22 + 1))] h35 < m24 [.int .i64 n22] h25)
 (AC Tryz.prog 25 [.iface 68 (.ptr (some ⟨a6, 0⟩))] h25 fun v36 h37 => v36 = .tup [] ∧
 Q (.tup [.ptr (some ⟨a6, 0⟩), .int .i64 0]) h37)))
theorem ac12 {q1 : Option SL} {q2 : Option SL} {h : Heap} {Q : AV → Heap → Prop} (hk : vc12 q1 q2 h Q) : AC Tryz.prog 12 [.sl q1, .sl q2] h Q :=
 AC_by (H := hintsOf [] [(0, [22], []), (2, [37], [])]) (by kernel_rfl) (by kernel_rfl) hk

/-- merge.Merger).Peek: what it asks. -/
def vc13 (p1 : Option PA) (h : Heap) (Q : AV → Heap → Prop) : Prop :=
 vif (p1.isNone)
 (Q (.tup [.agg [.int .i64 0, .int .i64 0, .int .i64 0, .int .i64 0], .bool false]) h)
 (vPtr p1 fun p2 =>
 ∃ n3 : Int, cellsAt h ⟨p2.b, p2.o + 2⟩ 1 = some [.int .i64 n3] ∧
 vif (n3 != 0)
 (Q (.tup [.agg [.int .i64 0, .int .i64 0, .int .i64 0, .int .i64 0], .bool false]) h)
 (vPtr p1 fun p4 =>
 ∃ q5 : Option SL, cellsAt h ⟨p4.b, p4.o + 0⟩ 1 = some [.sl q5] ∧
 vif ((slLen q5 : Int) == 0)
 (Q (.tup [.agg [.int .i64 0, .int .i64 0, .int .i64 0, .int .i64 0], .bool false]) h)
 (vPtr p1 fun p6 =>
 ∃ q7 : Option SL, cellsAt h ⟨p6.b, p6.o + 0⟩ 1 = some [.sl q7] ∧
 vIdx q7 0 1 fun p8 =>
 ∃ p9 : Option PA, cellsAt h p8 1 = some [.ptr p9] ∧
 vPtr p9 fun p10 =>
 ∃ n11 : Int, ∃ n12 : Int, ∃ n13 : Int, ∃ n14 : Int, cellsAt h ⟨p10.b, p10.o + 0⟩ 4 = some [.int .i64 n11, .int .i64 n12, .int .i64 n13, .int .i64 n14] ∧
 Q (.tup [.agg [.int .i64 n11, .int .i64 n12, .int .i64 n13, .int .i64 n14], .bool true]) h)))
theorem ac13 {p1 : Option PA} {h : Heap} {Q : AV → Heap → Prop} (hk : vc13 p1 h Q) : AC Tryz.prog 13 [.ptr p1] h Q :=
 AC_by (H := hintsOf [2] []) (by kernel_rfl) (by kernel_rfl) hk

/-- merge.Merger).Next: what it asks. -/
def vc14 (p1 : Option PA) (h : Heap) (Q : AV → Heap → Prop) : Prop :=
 vif (p1.isNone)
 (Q (.tup [.agg [.int .i64 0, .int .i64 0, .int .i64 0, .int .i64 0], .bool false, .int .i64 6]) h)
 (AC Tryz.prog 13 [.ptr p1] h fun v2 h3 => ∃ n4 : Int, ∃ n5 : Int, ∃ n6 : Int, ∃ n7 : Int, ∃ b8 : Bool, v2 = .tup [.agg [.int .i64 n4, .int .i64 n5, .int .i64 n6, .int .i64 n7], .bool b8] ∧
 vif (!b8)
 (vPtr p1 fun p9 =>
 ∃ n10 : Int, cellsAt h3 ⟨p9.b, p9.o + 2⟩ 1 = some [.int .i64 n10] ∧
 (∃ n12 : Int, cellsAt h3 ⟨p9.b, p9.o + 2⟩ 1 = some [.int .i64 n12] ∧
 LV.val (.int .i64 n12) = LV.val (.int .i64 n10)) ∧
 (∃ n11 : Int, cellsAt h3 ⟨p9.b, p9.o + 2⟩ 1 = some [.int .i64 n11] ∧
 LV.val (.int .i64 n11) = LV.val (.int .i64 n10)) ∧
 Q (.tup [.agg [.int .i64 0, .int .i64 0, .int .i64 0, .int .i64 0], .bool false, .int .i64 n10]) h3)
 (AC Tryz.prog 26 [.ptr p1] h3 fun v13 h14 => v13 = .tup [] ∧
 Q (.tup [.agg [.int .i64 n4, .int .i64 n5, .int .i64 n6, .int .i64 n7], .bool true, .int .i64 0]) h14))
theorem ac14 {p1 : Option PA} {h : Heap} {Q : AV → Heap → Prop} (hk : vc14 p1 h Q) : AC Tryz.prog 14 [.ptr p1] h Q :=
 AC_by (H := hintsOf [2, 5] []) (by kernel_rfl) (by kernel_rfl) hk

/-- merge.Merger).Left: what it asks. -/
def vc15 (p1 : Option PA) (h : Heap) (Q : AV → Heap → Prop) : Prop :=
 vif (p1.isNone)
 (Q (.int .i64 0) h)
 (vPtr p1 fun p2 =>
 ∃ q3 : Option SL, cellsAt h ⟨p2.b, p2.o + 0⟩ 1 = some [.sl q3] ∧
 Q (.int .i64 (slLen q3 : Int)) h)
theorem ac15 {p1 : Option PA} {h : Heap} {Q : AV → Heap → Prop} (hk : vc15 p1 h Q) : AC Tryz.prog 15 [.ptr p1] h Q :=
 AC_by (H := hintsOf [] []) (by kernel_rfl) (by kernel_rfl) hk

/-- merge.Merger).Rest: what it asks. -/
def vc16 (p1 : Option PA) (h : Heap) (Q : AV → Heap → Prop) : Prop :=
 AC Tryz.prog 17 [.ptr p1, .func (.func 27) [] []] h fun v2 h3 => ∃ q4 : Option SL, ∃ n5 : Int, v2 = .tup [.sl q4, .int .i64 n5] ∧
 Q (.tup [.sl q4, .int .i64 n5]) h3
theorem ac16 {p1 : Option PA} {h : Heap} {Q : AV → Heap → Prop} (hk : vc16 p1 h Q) : AC Tryz.prog 16 [.ptr p1] h Q :=
 AC_by (H := hintsOf [] []) (by kernel_rfl) (by kernel_rfl) hk

/-- merge.Merger).While: what it asks. -/
def vc17 (p1 : Option PA) (v2 : AV) (h : Heap) (Q : AV → Heap → Prop) : Prop :=
 vif (p1.isNone)
 (Q (.tup [.sl none, .int .i64 6]) h)
 (∃ (I4 : List AV → Heap → Prop) (m5 : List AV → Heap → Nat), I4 [.sl none] h ∧
 ∀ q3 : Option SL, ∀ h6 : Heap, I4 [.sl q3] h6 →
 AC Tryz.prog 13 [.ptr p1] h6 fun v7 h8 => ∃ n9 : Int, ∃ n10 : Int, ∃ n11 : Int, ∃ n12 : Int, ∃ b13 : Bool, v7 = .tup [.agg [.int .i64 n9, .int .i64 n10, .int .i64 n11, .int .i64 n12], .bool b13] ∧
 vif (!b13)
 (vPtr p1 fun p14 =>
 ∃ n15 : Int, cellsAt h8 ⟨p14.b, p14.o + 2⟩ 1 = some [.int .i64 n15] ∧
 vif (n15 != 0)
 (vPtr p1 fun p16 =>
 ∃ n17 : Int, cellsAt h8 ⟨p16.b, p16.o + 2⟩ 1 = some [.int .i64 n17] ∧
 (∃ n18 : Int, cellsAt h8 ⟨p16.b, p16.o + 2⟩ 1 = some [.int .i64 n18] ∧
 LV.val (.int .i64 n18) = LV.val (.int .i64 n17)) ∧
 Q (.tup [.sl none, .int .i64 n17]) h8)
 (Q (.tup [.sl q3, .int .i64 0]) h8))
 (vCallF Tryz.prog (AC Tryz.prog) v2 [.agg [.int .i64 n9, .int .i64 n10, .int .i64 n11, .int .i64 n12]] h8 fun v19 h20 => ∃ b21 : Bool, v19 = .bool b21 ∧
 vif (!b21)
 (vPtr p1 fun p22 =>
 ∃ n23 : Int, cellsAt h20 ⟨p22.b, p22.o + 2⟩ 1 = some [.int .i64 n23] ∧
 vif (n23 != 0)
 (vPtr p1 fun p24 =>
 ∃ n25 : Int, cellsAt h20 ⟨p24.b, p24.o + 2⟩ 1 = some [.int .i64 n25] ∧
 (∃ n26 : Int, cellsAt h20 ⟨p24.b, p24.o + 2⟩ 1 = some [.int .i64 n26] ∧
 LV.val (.int .i64 n26) = LV.val (.int .i64 n25)) ∧
 Q (.tup [.sl none, .int .i64 n25]) h20)
 (Q (.tup [.sl q3, .int .i64 0]) h20))
 (PNew [.int .i64 n9, .int .i64 n10, .int .i64 n11, .int .i64 n12] true h20 fun a27 h28 =>
 PAppendS 4 32 q3 (some ⟨a27, 0, 1, 1, 0⟩) h28 fun q29 h30 =>
 AC Tryz.prog 26 [.ptr p1] h30 fun v31 h32 => v31 = .tup [] ∧
 (True) ∧ I4 [.sl q29] h32 ∧ m5 [.sl q29] h32 < m5 [.sl q3] h6)))
theorem ac17 {p1 : Option PA} {v2 : AV} {h : Heap} {Q : AV → Heap → Prop} (hk : vc17 p1 v2 h Q) : AC Tryz.prog 17 [.ptr p1, v2] h Q :=
 AC_by (H := hintsOf [8] [(0, [6], [])]) (by kernel_rfl) (by kernel_rfl) hk

/-- oxbowlaw11.chooser).below: what it asks. -/
def vc18 (p1 : Option PA) (n2 : Int) (n3 : Int) (n4 : Int) (n5 : Int) (h : Heap) (Q : AV → Heap → Prop) : Prop :=
 vPtr p1 fun p6 =>
 ∃ n7 : Int, cellsAt h ⟨p6.b, p6.o + 0⟩ 1 = some [.int .i64 n7] ∧
 Q (.bool (decide (n4 < n7))) h
theorem ac18 {p1 : Option PA} {n2 : Int} {n3 : Int} {n4 : Int} {n5 : Int} {h : Heap} {Q : AV → Heap → Prop} (hk : vc18 p1 n2 n3 n4 n5 h Q) : AC Tryz.prog 18 [.ptr p1, .agg [.int .i64 n2, .int .i64 n3, .int .i64 n4, .int .i64 n5]] h Q :=
 AC_by (H := hintsOf [3] []) (by kernel_rfl) (by kernel_rfl) hk

/-- oxbowlaw11.below: what it asks. -/
def vc20 (n1 : Int) (n2 : Int) (n3 : Int) (n4 : Int) (h : Heap) (Q : AV → Heap → Prop) : Prop :=
 Q (.bool (decide (n3 < 3))) h
theorem ac20 {n1 : Int} {n2 : Int} {n3 : Int} {n4 : Int} {h : Heap} {Q : AV → Heap → Prop} (hk : vc20 n1 n2 n3 n4 h Q) : AC Tryz.prog 20 [.agg [.int .i64 n1, .int .i64 n2, .int .i64 n3, .int .i64 n4]] h Q :=
 AC_by (H := hintsOf [1] []) (by kernel_rfl) (by kernel_rfl) hk

/-- oxbowref07.Sorted: what it asks. -/
def vc21 (q1 : Option SL) (h : Heap) (Q : AV → Heap → Prop) : Prop :=
 ∃ (I3 : List AV → Heap → Prop) (m4 : List AV → Heap → Nat), I3 [.int .i64 1] h ∧
 ∀ n2 : Int, ∀ h5 : Heap, I3 [.int .i64 n2] h5 →
 vif (decide (n2 < (slLen q1 : Int)))
 (vIdx q1 (wrapK .i64 (n2 - 1)) 4 fun p6 =>
 ∃ n7 : Int, ∃ n8 : Int, ∃ n9 : Int, ∃ n10 : Int, cellsAt h5 p6 4 = some [.int .i64 n7, .int .i64 n8, .int .i64 n9, .int .i64 n10] ∧
 vIdx q1 n2 4 fun p11 =>
 ∃ n12 : Int, ∃ n13 : Int, ∃ n14 : Int, ∃ n15 : Int, cellsAt h5 p11 4 = some [.int .i64 n12, .int .i64 n13, .int .i64 n14, .int .i64 n15] ∧
 AC Tryz.prog 28 [.agg [.int .i64 n7, .int .i64 n8, .int .i64 n9, .int .i64 n10], .agg [.int .i64 n12, .int .i64 n13, .int .i64 n14, .int .i64 n15]] h5 fun v16 h17 => ∃ n18 : Int, v16 = .int .i64 n18 ∧
 vif (decide (n18 > 0))
 (Q (.bool false) h17)
 ((True) ∧ I3 [.int .i64 (wrapK .i64 (n2 + 1))] h17 ∧ m4 [.int .i64 (wrapK .i64 (n2 + 1))] h17 < m4 [.int .i64 n2] h5))
 (Q (.bool true) h5)
theorem ac21 {q1 : Option SL} {h : Heap} {Q : AV → Heap → Prop} (hk : vc21 q1 h Q) : AC Tryz.prog 21 [.sl q1] h Q :=
 AC_by (H := hintsOf [] [(0, [3], [])]) (by kernel_rfl) (by kernel_rfl) hk

/-- oxbowref07.Sort: what it asks. -/
def vc22 (q1 : Option SL) (h : Heap) (Q : AV → Heap → Prop) : Prop :=
 vif (decide ((slLen q1 : Int) < 2))
 (PNew [] true h fun a2 h3 =>
 PAppendS 4 32 (some ⟨a2, 0, 0, 0, 0⟩) q1 h3 fun q4 h5 =>
 Q (.sl q4) h5)
 (PSlice 4 q1 0 (some (wrapK .i64 (Int.tdiv (slLen q1 : Int) 2))) none fun q6 =>
 PSlice 4 q1 (wrapK .i64 (Int.tdiv (slLen q1 : Int) 2)) none none fun q7 =>
 AC Tryz.prog 22 [.sl q6] h fun v8 h9 => ∃ q10 : Option SL, v8 = .sl q10 ∧
 AC Tryz.prog 22 [.sl q7] h9 fun v11 h12 => ∃ q13 : Option SL, v11 = .sl q13 ∧
 ∃ (I17 : List AV → Heap → Prop) (m18 : List AV → Heap → Nat), I17 [.sl q10, .sl q13, .sl none] h12 ∧
 ∀ q14 : Option SL, ∀ q15 : Option SL, ∀ q16 : Option SL, ∀ h19 : Heap, I17 [.sl q14, .sl q15, .sl q16] h19 →
 vif (decide ((slLen q14 : Int) > 0))
 (vif ((slLen q15 : Int) == 0)
 (vIdx q14 0 4 fun p20 =>
 ∃ n21 : Int, ∃ n22 : Int, ∃ n23 : Int, ∃ n24 : Int, cellsAt h19 p20 4 = some [.int .i64 n21, .int .i64 n22, .int .i64 n23, .int .i64 n24] ∧
 PNew [.int .i64 n21, .int .i64 n22, .int .i64 n23, .int .i64 n24] true h19 fun a25 h26 =>
 PAppendS 4 32 q16 (some ⟨a25, 0, 1, 1, 0⟩) h26 fun q27 h28 =>
 PSlice 4 q14 1 none none fun q29 =>
 (True) ∧ I17 [.sl q29, .sl q15, .sl q27] h28 ∧ m18 [.sl q29, .sl q15, .sl q27] h28 < m18 [.sl q14, .sl q15, .sl q16] h19)
 (vif (decide ((slLen q14 : Int) > 0))
 (vIdx q14 0 4 fun p30 =>
 ∃ n31 : Int, ∃ n32 : Int, ∃ n33 : Int, ∃ n34 : Int, cellsAt h19 p30 4 = some [.int .i64 n31, .int .i64 n32, .int .i64 n33, .int .i64 n34] ∧
 vIdx q15 0 4 fun p35 =>
 ∃ n36 : Int, ∃ n37 : Int, ∃ n38 : Int, ∃ n39 : Int, cellsAt h19 p35 4 = some [.int .i64 n36, .int .i64 n37, .int .i64 n38, .int .i64 n39] ∧
 AC Tryz.prog 28 [.agg [.int .i64 n31, .int .i64 n32, .int .i64 n33, .int .i64 n34], .agg [.int .i64 n36, .int .i64 n37, .int .i64 n38, .int .i64 n39]] h19 fun v40 h41 => ∃ n42 : Int, v40 = .int .i64 n42 ∧
 vif (decide (n42 ≤ 0))
 (vIdx q14 0 4 fun p43 =>
 ∃ n44 : Int, ∃ n45 : Int, ∃ n46 : Int, ∃ n47 : Int, cellsAt h41 p43 4 = some [.int .i64 n44, .int .i64 n45, .int .i64 n46, .int .i64 n47] ∧
 PNew [.int .i64 n44, .int .i64 n45, .int .i64 n46, .int .i64 n47] true h41 fun a48 h49 =>
 PAppendS 4 32 q16 (some ⟨a48, 0, 1, 1, 0⟩) h49 fun q50 h51 =>
 PSlice 4 q14 1 none none fun q52 =>
 (True) ∧ I17 [.sl q52, .sl q15, .sl q50] h51 ∧ m18 [.sl q52, .sl q15, .sl q50] h51 < m18 [.sl q14, .sl q15, .sl q16] h19)
 (vIdx q15 0 4 fun p53 =>
 ∃ n54 : Int, ∃ n55 : Int, ∃ n56 : Int, ∃ n57 : Int, cellsAt h41 p53 4 = some [.int .i64 n54, .int .i64 n55, .int .i64 n56, .int .i64 n57] ∧
 PNew [.int .i64 n54, .int .i64 n55, .int .i64 n56, .int .i64 n57] true h41 fun a58 h59 =>
 PAppendS 4 32 q16 (some ⟨a58, 0, 1, 1, 0⟩) h59 fun q60 h61 =>
 PSlice 4 q15 1 none none fun q62 =>
 (True) ∧ I17 [.sl q14, .sl q62, .sl q60] h61 ∧ m18 [.sl q14, .sl q62, .sl q60] h61 < m18 [.sl q14, .sl q15, .sl q16] h19))
 (vIdx q15 0 4 fun p63 =>
 ∃ n64 : Int, ∃ n65 : Int, ∃ n66 : Int, ∃ n67 : Int, cellsAt h19 p63 4 = some [.int .i64 n64, .int .i64 n65, .int .i64 n66, .int .i64 n67] ∧
 PNew [.int .i64 n64, .int .i64 n65, .int .i64 n66, .int .i64 n67] true h19 fun a68 h69 =>
 PAppendS 4 32 q16 (some ⟨a68, 0, 1, 1, 0⟩) h69 fun q70 h71 =>
 PSlice 4 q15 1 none none fun q72 =>
 (True) ∧ I17 [.sl q14, .sl q72, .sl q70] h71 ∧ m18 [.sl q14, .sl q72, .sl q70] h71 < m18 [.sl q14, .sl q15, .sl q16] h19)))
 (vif (decide ((slLen q15 : Int) > 0))
 (vif ((slLen q15 : Int) == 0)
 (vIdx q14 0 4 fun p73 =>
 ∃ n74 : Int, ∃ n75 : Int, ∃ n76 : Int, ∃ n77 : Int, cellsAt h19 p73 4 = some [.int .i64 n74, .int .i64 n75, .int .i64 n76, .int .i64 n77] ∧
 PNew [.int .i64 n74, .int .i64 n75, .int .i64 n76, .int .i64 n77] true h19 fun a78 h79 =>
 PAppendS 4 32 q16 (some ⟨a78, 0, 1, 1, 0⟩) h79 fun q80 h81 =>
 PSlice 4 q14 1 none none fun q82 =>
 (True) ∧ I17 [.sl q82, .sl q15, .sl q80] h81 ∧ m18 [.sl q82, .sl q15, .sl q80] h81 < m18 [.sl q14, .sl q15, .sl q16] h19)
 (vif (decide ((slLen q14 : Int) > 0))
 (vIdx q14 0 4 fun p83 =>
 ∃ n84 : Int, ∃ n85 : Int, ∃ n86 : Int, ∃ n87 : Int, cellsAt h19 p83 4 = some [.int .i64 n84, .int .i64 n85, .int .i64 n86, .int .i64 n87] ∧
 vIdx q15 0 4 fun p88 =>
 ∃ n89 : Int, ∃ n90 : Int, ∃ n91 : Int, ∃ n92 : Int, cellsAt h19 p88 4 = some [.int .i64 n89, .int .i64 n90, .int .i64 n91, .int .i64 n92] ∧
 AC Tryz.prog 28 [.agg [.int .i64 n84, .int .i64 n85, .int .i64 n86, .int .i64 n87], .agg [.int .i64 n89, .int .i64 n90, .int .i64 n91, .int .i64 n92]] h19 fun v93 h94 => ∃ n95 : Int, v93 = .int .i64 n95 ∧
 vif (decide (n95 ≤ 0))
 (vIdx q14 0 4 fun p96 =>
 ∃ n97 : Int, ∃ n98 : Int, ∃ n99 : Int, ∃ n100 : Int, cellsAt h94 p96 4 = some [.int .i64 n97, .int .i64 n98, .int .i64 n99, .int .i64 n100] ∧
 PNew [.int .i64 n97, .int .i64 n98, .int .i64 n99, .int .i64 n100] true h94 fun a101 h102 =>
 PAppendS 4 32 q16 (some ⟨a101, 0, 1, 1, 0⟩) h102 fun q103 h104 =>
 PSlice 4 q14 1 none none fun q105 =>
 (True) ∧ I17 [.sl q105, .sl q15, .sl q103] h104 ∧ m18 [.sl q105, .sl q15, .sl q103] h104 < m18 [.sl q14, .sl q15, .sl q16] h19)
 (vIdx q15 0 4 fun p106 =>
 ∃ n107 : Int, ∃ n108 : Int, ∃ n109 : Int, ∃ n110 : Int, cellsAt h94 p106 4 = some [.int .i64 n107, .int .i64 n108, .int .i64 n109, .int .i64 n110] ∧
 PNew [.int .i64 n107, .int .i64 n108, .int .i64 n109, .int .i64 n110] true h94 fun a111 h112 =>
 PAppendS 4 32 q16 (some ⟨a111, 0, 1, 1, 0⟩) h112 fun q113 h114 =>
 PSlice 4 q15 1 none none fun q115 =>
 (True) ∧ I17 [.sl q14, .sl q115, .sl q113] h114 ∧ m18 [.sl q14, .sl q115, .sl q113] h114 < m18 [.sl q14, .sl q15, .sl q16] h19))
 (vIdx q15 0 4 fun p116 =>
 ∃ n117 : Int, ∃ n118 : Int, ∃ n119 : Int, ∃ n120 : Int, cellsAt h19 p116 4 = some [.int .i64 n117, .int .i64 n118, .int .i64 n119, .int .i64 n120] ∧
 PNew [.int .i64 n117, .int .i64 n118, .int .i64 n119, .int .i64 n120] true h19 fun a121 h122 =>
 PAppendS 4 32 q16 (some ⟨a121, 0, 1, 1, 0⟩) h122 fun q123 h124 =>
 PSlice 4 q15 1 none none fun q125 =>
 (True) ∧ I17 [.sl q14, .sl q125, .sl q123] h124 ∧ m18 [.sl q14, .sl q125, .sl q123] h124 < m18 [.sl q14, .sl q15, .sl q16] h19)))
 (Q (.sl q16) h19)))
theorem ac22 {q1 : Option SL} {h : Heap} {Q : AV → Heap → Prop} (hk : vc22 q1 h Q) : AC Tryz.prog 22 [.sl q1] h Q :=
 AC_by (H := hintsOf [] [(0, [3, 4, 5], [])]) (by kernel_rfl) (by kernel_rfl) hk

/-- merge.may: what it asks. -/
def vc23 (q1 : Option SL) (q2 : Option SL) (h : Heap) (Q : AV → Heap → Prop) : Prop :=
 vif (decide ((wrapK .i64 ((slLen q1 : Int) + (slLen q2 : Int))) > 64))
 (Q (.int .i64 31) h)
 (∃ (I4 : List AV → Heap → Prop) (m5 : List AV → Heap → Nat), I4 [.int .i64 0] h ∧
 ∀ n3 : Int, ∀ h6 : Heap, I4 [.int .i64 n3] h6 →
 vif (decide (n3 < (slLen q1 : Int)))
 (vIdx q1 n3 1 fun p7 =>
 ∃ q8 : Option SL, cellsAt h6 p7 1 = some [.sl q8] ∧
 AC Tryz.prog 29 [.sl q8] h6 fun v9 h10 => ∃ b11 : Bool, v9 = .bool b11 ∧
 vif (!b11)
 (Q (.int .i64 1) h10)
 ((True) ∧ I4 [.int .i64 (wrapK .i64 (n3 + 1))] h10 ∧ m5 [.int .i64 (wrapK .i64 (n3 + 1))] h10 < m5 [.int .i64 n3] h6))
 (∃ (I13 : List AV → Heap → Prop) (m14 : List AV → Heap → Nat), I13 [.int .i64 0] h6 ∧
 ∀ n12 : Int, ∀ h15 : Heap, I13 [.int .i64 n12] h15 →
 vif (decide (n12 < (slLen q2 : Int)))
 (vIdx q2 n12 1 fun p16 =>
 ∃ p17 : Option PA, cellsAt h15 p16 1 = some [.ptr p17] ∧
 vif (p17.isNone)
 (Q (.int .i64 6) h15)
 ((True) ∧ I13 [.int .i64 (wrapK .i64 (n12 + 1))] h15 ∧ m14 [.int .i64 (wrapK .i64 (n12 + 1))] h15 < m14 [.int .i64 n12] h15))
 (Q (.int .i64 0) h15)))
theorem ac23 {q1 : Option SL} {q2 : Option SL} {h : Heap} {Q : AV → Heap → Prop} (hk : vc23 q1 q2 h Q) : AC Tryz.prog 23 [.sl q1, .sl q2] h Q :=
 AC_by (H := hintsOf [] [(0, [17], []), (2, [27], [])]) (by kernel_rfl) (by kernel_rfl) hk

/-- merge.Merger).add: what it asks. -/
def vc24 (p1 : Option PA) (p2 : PA) (h : Heap) (Q : AV → Heap → Prop) : Prop :=
 AC Tryz.prog 64 [.ptr (some p2)] h fun v3 h4 => ∃ n5 : Int, ∃ n6 : Int, ∃ n7 : Int, ∃ n8 : Int, ∃ b9 : Bool, v3 = .tup [.agg [.int .i64 n5, .int .i64 n6, .int .i64 n7, .int .i64 n8], .bool b9] ∧
 vif b9
 (vPtr p1 fun p10 =>
 ∃ q11 : Option SL, cellsAt h4 ⟨p10.b, p10.o + 0⟩ 1 = some [.sl q11] ∧
 PNew [.int .i64 n5, .int .i64 n6, .int .i64 n7, .int .i64 n8, .iface 63 (.ptr (some p2)), .func (.method "Next") [.iface 63 (.ptr (some p2))] []] true h4 fun a12 h13 =>
 (∃ q21 : Option SL, cellsAt h13 ⟨p10.b, p10.o + 0⟩ 1 = some [.sl q21] ∧
 LV.val (.sl q21) = LV.val (.sl q11)) ∧
 PNew [.ptr (some ⟨a12, 0⟩)] true h13 fun a14 h15 =>
 (∃ q20 : Option SL, cellsAt h15 ⟨p10.b, p10.o + 0⟩ 1 = some [.sl q20] ∧
 LV.val (.sl q20) = LV.val (.sl q11)) ∧
 PAppendS 1 8 q11 (some ⟨a14, 0, 1, 1, 0⟩) h15 fun q16 h17 =>
 vPtr p1 fun p18 =>
 PStore h17 ⟨p18.b, p18.o + 0⟩ [.sl q16] fun h19 =>
 Q (.tup []) h19)
 (Q (.tup []) h4)
theorem ac24 {p1 : Option PA} {p2 : PA} {h : Heap} {Q : AV → Heap → Prop} (hk : vc24 p1 p2 h Q) : AC Tryz.prog 24 [.ptr p1, .iface 63 (.ptr (some p2))] h Q :=
 AC_by (H := hintsOf [4] []) (by kernel_rfl) (by kernel_rfl) hk

/-- heap.Init: what it asks. -/
def vc25 (p1 : PA) (h : Heap) (Q : AV → Heap → Prop) : Prop :=
 ∃ q4 : Option SL, cellsAt h p1 1 = some [.sl q4] ∧
 AC Tryz.prog 60 [.sl q4] h fun v2 h3 => ∃ n5 : Int, v2 = .int .i64 n5 ∧
 ∃ (I7 : List AV → Heap → Prop) (m8 : List AV → Heap → Nat), I7 [.int .i64 (wrapK .i64 ((wrapK .i64 (Int.tdiv n5 2)) - 1))] h3 ∧
 ∀ n6 : Int, ∀ h9 : Heap, I7 [.int .i64 n6] h9 →
 vif (decide (n6 ≥ 0))
 (AC Tryz.prog 30 [.iface 68 (.ptr (some p1)), .int .i64 n6, .int .i64 n5] h9 fun v10 h11 => ∃ b12 : Bool, v10 = .bool b12 ∧
 (True) ∧ I7 [.int .i64 (wrapK .i64 (n6 - 1))] h11 ∧ m8 [.int .i64 (wrapK .i64 (n6 - 1))] h11 < m8 [.int .i64 n6] h9)
 (Q (.tup []) h9)
theorem ac25 {p1 : PA} {h : Heap} {Q : AV → Heap → Prop} (hk : vc25 p1 h Q) : AC Tryz.prog 25 [.iface 68 (.ptr (some p1))] h Q :=
 AC_by (H := hintsOf [] [(0, [3], [])]) (by kernel_rfl) (by kernel_rfl) hk

/-- merge.Merger).advance: what it asks. -/
def vc26 (p1 : Option PA) (h : Heap) (Q : AV → Heap → Prop) : Prop :=
 vPtr p1 fun p2 =>
 ∃ q3 : Option SL, cellsAt h ⟨p2.b, p2.o + 0⟩ 1 = some [.sl q3] ∧
 vIdx q3 0 1 fun p4 =>
 ∃ p5 : Option PA, cellsAt h p4 1 = some [.ptr p5] ∧
 vPtr p5 fun p6 =>
 ∃ v7 : AV, v7.one = true ∧ cellsAt h ⟨p6.b, p6.o + 5⟩ 1 = some (AV.cells v7) ∧
 vCallF Tryz.prog (AC Tryz.prog) v7 [] h fun v8 h9 => ∃ n10 : Int, v8 = .int .i64 n10 ∧
 vPtr p1 fun p11 =>
 PStore h9 ⟨p11.b, p11.o + 2⟩ [.int .i64 n10] fun h12 =>
 vPtr p5 fun p13 =>
 ∃ v14 : AV, v14.one = true ∧ cellsAt h12 ⟨p13.b, p13.o + 4⟩ 1 = some (AV.cells v14) ∧
 vInvoke Tryz.prog (AC Tryz.prog) v14 "Peek" [] h12 fun v15 h16 => ∃ n17 : Int, ∃ n18 : Int, ∃ n19 : Int, ∃ n20 : Int, ∃ b21 : Bool, v15 = .tup [.agg [.int .i64 n17, .int .i64 n18, .int .i64 n19, .int .i64 n20], .bool b21] ∧
 vif (!b21)
 (vPtr p1 fun p22 =>
 AC Tryz.prog 31 [.iface 68 (.ptr (some ⟨p22.b, p22.o + 0⟩))] h16 fun v23 h24 => ∃ v25 : AV, v25.one = true ∧ v23 = v25 ∧
 Q (.tup []) h24)
 (vPtr p5 fun p26 =>
 PStore h16 ⟨p26.b, p26.o + 0⟩ [.int .i64 n17, .int .i64 n18, .int .i64 n19, .int .i64 n20] fun h27 =>
 vPtr p1 fun p28 =>
 AC Tryz.prog 32 [.iface 68 (.ptr (some ⟨p28.b, p28.o + 0⟩)), .int .i64 0] h27 fun v29 h30 => v29 = .tup [] ∧
 Q (.tup []) h30)
theorem ac26 {p1 : Option PA} {h : Heap} {Q : AV → Heap → Prop} (hk : vc26 p1 h Q) : AC Tryz.prog 26 [.ptr p1] h Q :=
 AC_by (H := hintsOf [3] []) (by kernel_rfl) (by kernel_rfl) hk

/-- merge.Merger).Rest$1: what it asks. -/
def vc27 (n1 : Int) (n2 : Int) (n3 : Int) (n4 : Int) (h : Heap) (Q : AV → Heap → Prop) : Prop :=
 Q (.bool true) h
theorem ac27 {n1 : Int} {n2 : Int} {n3 : Int} {n4 : Int} {h : Heap} {Q : AV → Heap → Prop} (hk : vc27 n1 n2 n3 n4 h Q) : AC Tryz.prog 27 [.agg [.int .i64 n1, .int .i64 n2, .int .i64 n3, .int .i64 n4]] h Q :=
 AC_by (H := hintsOf [1] []) (by kernel_rfl) (by kernel_rfl) hk

/-- oxbowref07.Compare: what it asks. -/
def vc28 (n1 : Int) (n2 : Int) (n3 : Int) (n4 : Int) (n5 : Int) (n6 : Int) (n7 : Int) (n8 : Int) (h : Heap) (Q : AV → Heap → Prop) : Prop :=
 AC Tryz.prog 33 [.agg [.int .i64 n1, .int .i64 n2], .agg [.int .i64 n5, .int .i64 n6]] h fun v9 h10 => ∃ n11 : Int, v9 = .int .i64 n11 ∧
 vif (n11 != 0)
 (Q (.int .i64 n11) h10)
 (AC Tryz.prog 34 [.agg [.int .i64 n3, .int .i64 n4], .agg [.int .i64 n7, .int .i64 n8]] h10 fun v12 h13 => ∃ n14 : Int, v12 = .int .i64 n14 ∧
 Q (.int .i64 n14) h13)
theorem ac28 {n1 : Int} {n2 : Int} {n3 : Int} {n4 : Int} {n5 : Int} {n6 : Int} {n7 : Int} {n8 : Int} {h : Heap} {Q : AV → Heap → Prop} (hk : vc28 n1 n2 n3 n4 n5 n6 n7 n8 h Q) : AC Tryz.prog 28 [.agg [.int .i64 n1, .int .i64 n2, .int .i64 n3, .int .i64 n4], .agg [.int .i64 n5, .int .i64 n6, .int .i64 n7, .int .i64 n8]] h Q :=
 AC_by (H := hintsOf [2, 3] []) (by kernel_rfl) (by kernel_rfl) hk

/-- entry.Sorted: what it asks. -/
def vc29 (q1 : Option SL) (h : Heap) (Q : AV → Heap → Prop) : Prop :=
 AC Tryz.prog 35 [.sl q1, .func (.func 36) [] []] h fun v2 h3 => ∃ b4 : Bool, v2 = .bool b4 ∧
 Q (.bool b4) h3
theorem ac29 {q1 : Option SL} {h : Heap} {Q : AV → Heap → Prop} (hk : vc29 q1 h Q) : AC Tryz.prog 29 [.sl q1] h Q :=
 AC_by (H := hintsOf [] []) (by kernel_rfl) (by kernel_rfl) hk

/-- heap.down: what it asks. -/
def vc30 (p1 : PA) (n2 : Int) (n3 : Int) (h : Heap) (Q : AV → Heap → Prop) : Prop :=
 ∃ (I5 : List AV → Heap → Prop) (m6 : List AV → Heap → Nat), I5 [.int .i64 n2] h ∧
 ∀ n4 : Int, ∀ h7 : Heap, I5 [.int .i64 n4] h7 →
 vif (decide ((wrapK .i64 ((wrapK .i64 (2 * n4)) + 1)) ≥ n3))
 (Q (.bool (decide (n4 > n2))) h7)
 (vif (decide ((wrapK .i64 ((wrapK .i64 (2 * n4)) + 1)) < 0))
 (Q (.bool (decide (n4 > n2))) h7)
 (vif (decide ((wrapK .i64 ((wrapK .i64 ((wrapK .i64 (2 * n4)) + 1)) + 1)) < n3))
 (∃ q10 : Option SL, cellsAt h7 p1 1 = some [.sl q10] ∧
 AC Tryz.prog 61 [.sl q10, .int .i64 (wrapK .i64 ((wrapK .i64 ((wrapK .i64 (2 * n4)) + 1)) + 1)), .int .i64 (wrapK .i64 ((wrapK .i64 (2 * n4)) + 1))] h7 fun v8 h9 => ∃ b11 : Bool, v8 = .bool b11 ∧
 vif b11
 (∃ q14 : Option SL, cellsAt h9 p1 1 = some [.sl q14] ∧
 AC Tryz.prog 61 [.sl q14, .int .i64 (wrapK .i64 ((wrapK .i64 ((wrapK .i64 (2 * n4)) + 1)) + 1)), .int .i64 n4] h9 fun v12 h13 => ∃ b15 : Bool, v12 = .bool b15 ∧
 vif (!b15)
 (Q (.bool (decide (n4 > n2))) h13)
 (∃ q18 : Option SL, cellsAt h13 p1 1 = some [.sl q18] ∧
 AC Tryz.prog 62 [.sl q18, .int .i64 n4, .int .i64 (wrapK .i64 ((wrapK .i64 ((wrapK .i64 (2 * n4)) + 1)) + 1))] h13 fun v16 h17 => v16 = .tup [] ∧
 (True) ∧ I5 [.int .i64 (wrapK .i64 ((wrapK .i64 ((wrapK .i64 (2 * n4)) + 1)) + 1))] h17 ∧ m6 [.int .i64 (wrapK .i64 ((wrapK .i64 ((wrapK .i64 (2 * n4)) + 1)) + 1))] h17 < m6 [.int .i64 n4] h7))
 (∃ q21 : Option SL, cellsAt h9 p1 1 = some [.sl q21] ∧
 AC Tryz.prog 61 [.sl q21, .int .i64 (wrapK .i64 ((wrapK .i64 (2 * n4)) + 1)), .int .i64 n4] h9 fun v19 h20 => ∃ b22 : Bool, v19 = .bool b22 ∧
 vif (!b22)
 (Q (.bool (decide (n4 > n2))) h20)
 (∃ q25 : Option SL, cellsAt h20 p1 1 = some [.sl q25] ∧
 AC Tryz.prog 62 [.sl q25, .int .i64 n4, .int .i64 (wrapK .i64 ((wrapK .i64 (2 * n4)) + 1))] h20 fun v23 h24 => v23 = .tup [] ∧
 (True) ∧ I5 [.int .i64 (wrapK .i64 ((wrapK .i64 (2 * n4)) + 1))] h24 ∧ m6 [.int .i64 (wrapK .i64 ((wrapK .i64 (2 * n4)) + 1))] h24 < m6 [.int .i64 n4] h7)))
 (∃ q28 : Option SL, cellsAt h7 p1 1 = some [.sl q28] ∧
 AC Tryz.prog 61 [.sl q28, .int .i64 (wrapK .i64 ((wrapK .i64 (2 * n4)) + 1)), .int .i64 n4] h7 fun v26 h27 => ∃ b29 : Bool, v26 = .bool b29 ∧
 vif (!b29)
 (Q (.bool (decide (n4 > n2))) h27)
 (∃ q32 : Option SL, cellsAt h27 p1 1 = some [.sl q32] ∧
 AC Tryz.prog 62 [.sl q32, .int .i64 n4, .int .i64 (wrapK .i64 ((wrapK .i64 (2 * n4)) + 1))] h27 fun v30 h31 => v30 = .tup [] ∧
 (True) ∧ I5 [.int .i64 (wrapK .i64 ((wrapK .i64 (2 * n4)) + 1))] h31 ∧ m6 [.int .i64 (wrapK .i64 ((wrapK .i64 (2 * n4)) + 1))] h31 < m6 [.int .i64 n4] h7))))
theorem ac30 {p1 : PA} {n2 : Int} {n3 : Int} {h : Heap} {Q : AV → Heap → Prop} (hk : vc30 p1 n2 n3 h Q) : AC Tryz.prog 30 [.iface 68 (.ptr (some p1)), .int .i64 n2, .int .i64 n3] h Q :=
 AC_by (H := hintsOf [] [(0, [7], [])]) (by kernel_rfl) (by kernel_rfl) hk

/-- heap.Pop: what it asks. -/
def vc31 (p1 : PA) (h : Heap) (Q : AV → Heap → Prop) : Prop :=
 ∃ q4 : Option SL, cellsAt h p1 1 = some [.sl q4] ∧
 AC Tryz.prog 60 [.sl q4] h fun v2 h3 => ∃ n5 : Int, v2 = .int .i64 n5 ∧
 ∃ q8 : Option SL, cellsAt h3 p1 1 = some [.sl q8] ∧
 AC Tryz.prog 62 [.sl q8, .int .i64 0, .int .i64 (wrapK .i64 (n5 - 1))] h3 fun v6 h7 => v6 = .tup [] ∧
 AC Tryz.prog 30 [.iface 68 (.ptr (some p1)), .int .i64 0, .int .i64 (wrapK .i64 (n5 - 1))] h7 fun v9 h10 => ∃ b11 : Bool, v9 = .bool b11 ∧
 AC Tryz.prog 123 [.ptr (some p1)] h10 fun v12 h13 => ∃ v14 : AV, v14.one = true ∧ v12 = v14 ∧
 Q (v14) h13
theorem ac31 {p1 : PA} {h : Heap} {Q : AV → Heap → Prop} (hk : vc31 p1 h Q) : AC Tryz.prog 31 [.iface 68 (.ptr (some p1))] h Q :=
 AC_by (H := hintsOf [] []) (by kernel_rfl) (by kernel_rfl) hk

/-- heap.Fix: what it asks. -/
def vc32 (p1 : PA) (n2 : Int) (h : Heap) (Q : AV → Heap → Prop) : Prop :=
 ∃ q5 : Option SL, cellsAt h p1 1 = some [.sl q5] ∧
 AC Tryz.prog 60 [.sl q5] h fun v3 h4 => ∃ n6 : Int, v3 = .int .i64 n6 ∧
 AC Tryz.prog 30 [.iface 68 (.ptr (some p1)), .int .i64 n2, .int .i64 n6] h4 fun v7 h8 => ∃ b9 : Bool, v7 = .bool b9 ∧
 vif (!b9)
 (AC Tryz.prog 37 [.iface 68 (.ptr (some p1)), .int .i64 n2] h8 fun v10 h11 => v10 = .tup [] ∧
 Q (.tup []) h11)
 (Q (.tup []) h8)
theorem ac32 {p1 : PA} {n2 : Int} {h : Heap} {Q : AV → Heap → Prop} (hk : vc32 p1 n2 h Q) : AC Tryz.prog 32 [.iface 68 (.ptr (some p1)), .int .i64 n2] h Q :=
 AC_by (H := hintsOf [] []) (by kernel_rfl) (by kernel_rfl) hk

/-- oxbowref04.Compare: what it asks. -/
def vc33 (n1 : Int) (n2 : Int) (n3 : Int) (n4 : Int) (h : Heap) (Q : AV → Heap → Prop) : Prop :=
 vif (decide (n1 < n3))
 (Q (.int .i64 (-1)) h)
 (vif (n1 == n3)
 (vif (decide (n2 < n4))
 (Q (.int .i64 (-1)) h)
 (vif ((n1 == n3) && ((n2 == n4) && true))
 (Q (.int .i64 0) h)
 (Q (.int .i64 1) h)))
 (vif ((n1 == n3) && ((n2 == n4) && true))
 (Q (.int .i64 0) h)
 (Q (.int .i64 1) h)))
theorem ac33 {n1 : Int} {n2 : Int} {n3 : Int} {n4 : Int} {h : Heap} {Q : AV → Heap → Prop} (hk : vc33 n1 n2 n3 n4 h Q) : AC Tryz.prog 33 [.agg [.int .i64 n1, .int .i64 n2], .agg [.int .i64 n3, .int .i64 n4]] h Q :=
 AC_by (H := hintsOf [2, 3] []) (by kernel_rfl) (by kernel_rfl) hk

/-- oxbowref03.Compare: what it asks. -/
def vc34 (n1 : Int) (n2 : Int) (n3 : Int) (n4 : Int) (h : Heap) (Q : AV → Heap → Prop) : Prop :=
 vif (decide (n1 < n3))
 (Q (.int .i64 (-1)) h)
 (vif (n1 == n3)
 (vif (decide (n2 < n4))
 (Q (.int .i64 (-1)) h)
 (vif ((n1 == n3) && ((n2 == n4) && true))
 (Q (.int .i64 0) h)
 (Q (.int .i64 1) h)))
 (vif ((n1 == n3) && ((n2 == n4) && true))
 (Q (.int .i64 0) h)
 (Q (.int .i64 1) h)))
theorem ac34 {n1 : Int} {n2 : Int} {n3 : Int} {n4 : Int} {h : Heap} {Q : AV → Heap → Prop} (hk : vc34 n1 n2 n3 n4 h Q) : AC Tryz.prog 34 [.agg [.int .i64 n1, .int .i64 n2], .agg [.int .i64 n3, .int .i64 n4]] h Q :=
 AC_by (H := hintsOf [2, 3] []) (by kernel_rfl) (by kernel_rfl) hk

/-- api.Entry]: what it asks. -/
def vc35 (q1 : Option SL) (h : Heap) (Q : AV → Heap → Prop) : Prop :=
 ∃ (I3 : List AV → Heap → Prop) (m4 : List AV → Heap → Nat), I3 [.int .i64 (wrapK .i64 ((slLen q1 : Int) - 1))] h ∧
 ∀ n2 : Int, ∀ h5 : Heap, I3 [.int .i64 n2] h5 →
 vif (decide (n2 > 0))
 (vIdx q1 n2 4 fun p6 =>
 ∃ n7 : Int, ∃ n8 : Int, ∃ n9 : Int, ∃ n10 : Int, cellsAt h5 p6 4 = some [.int .i64 n7, .int .i64 n8, .int .i64 n9, .int .i64 n10] ∧
 vIdx q1 (wrapK .i64 (n2 - 1)) 4 fun p11 =>
 ∃ n12 : Int, ∃ n13 : Int, ∃ n14 : Int, ∃ n15 : Int, cellsAt h5 p11 4 = some [.int .i64 n12, .int .i64 n13, .int .i64 n14, .int .i64 n15] ∧
 AC Tryz.prog 36 [.agg [.int .i64 n7, .int .i64 n8, .int .i64 n9, .int .i64 n10], .agg [.int .i64 n12, .int .i64 n13, .int .i64 n14, .int .i64 n15]] h5 fun v16 h17 => ∃ n18 : Int, v16 = .int .i64 n18 ∧
 vif (decide (n18 < 0))
 (Q (.bool false) h17)
 ((True) ∧ I3 [.int .i64 (wrapK .i64 (n2 - 1))] h17 ∧ m4 [.int .i64 (wrapK .i64 (n2 - 1))] h17 < m4 [.int .i64 n2] h5))
 (Q (.bool true) h5)
theorem ac35 {q1 : Option SL} {h : Heap} {Q : AV → Heap → Prop} (hk : vc35 q1 h Q) : AC Tryz.prog 35 [.sl q1, .func (.func 36) [] []] h Q :=
 AC_by (H := hintsOf [] [(0, [5], [])]) (by kernel_rfl) (by kernel_rfl) hk

/-- entry.Compare: what it asks. -/
def vc36 (n1 : Int) (n2 : Int) (n3 : Int) (n4 : Int) (n5 : Int) (n6 : Int) (n7 : Int) (n8 : Int) (h : Heap) (Q : AV → Heap → Prop) : Prop :=
 AC Tryz.prog 39 [.agg [.int .i64 n1, .int .i64 n2], .agg [.int .i64 n5, .int .i64 n6]] h fun v9 h10 => ∃ n11 : Int, v9 = .int .i64 n11 ∧
 (LV.val (.agg [.int .i64 n7, .int .i64 n8]) = LV.val (.agg [.int .i64 n7, .int .i64 n8])) ∧
 (LV.val (.agg [.int .i64 n3, .int .i64 n4]) = LV.val (.agg [.int .i64 n3, .int .i64 n4])) ∧
 AC Tryz.prog 40 [.agg [.int .i64 n3, .int .i64 n4], .agg [.int .i64 n7, .int .i64 n8]] h10 fun v12 h13 => ∃ n14 : Int, v12 = .int .i64 n14 ∧
 PNew [.int .i64 n11, .int .i64 n14] true h13 fun a15 h16 =>
 AC Tryz.prog 38 [.sl (some ⟨a15, 0, 2, 2, 0⟩)] h16 fun v17 h18 => ∃ n19 : Int, v17 = .int .i64 n19 ∧
 Q (.int .i64 n19) h18
theorem ac36 {n1 : Int} {n2 : Int} {n3 : Int} {n4 : Int} {n5 : Int} {n6 : Int} {n7 : Int} {n8 : Int} {h : Heap} {Q : AV → Heap → Prop} (hk : vc36 n1 n2 n3 n4 n5 n6 n7 n8 h Q) : AC Tryz.prog 36 [.agg [.int .i64 n1, .int .i64 n2, .int .i64 n3, .int .i64 n4], .agg [.int .i64 n5, .int .i64 n6, .int .i64 n7, .int .i64 n8]] h Q :=
 AC_by (H := hintsOf [2, 3] []) (by kernel_rfl) (by kernel_rfl) hk

/-- heap.up: what it asks. -/
def vc37 (p1 : PA) (n2 : Int) (h : Heap) (Q : AV → Heap → Prop) : Prop :=
 ∃ (I4 : List AV → Heap → Prop) (m5 : List AV → Heap → Nat), I4 [.int .i64 n2] h ∧
 ∀ n3 : Int, ∀ h6 : Heap, I4 [.int .i64 n3] h6 →
 vif ((wrapK .i64 (Int.tdiv (wrapK .i64 (n3 - 1)) 2)) == n3)
 (Q (.tup []) h6)
 (∃ q9 : Option SL, cellsAt h6 p1 1 = some [.sl q9] ∧
 AC Tryz.prog 61 [.sl q9, .int .i64 n3, .int .i64 (wrapK .i64 (Int.tdiv (wrapK .i64 (n3 - 1)) 2))] h6 fun v7 h8 => ∃ b10 : Bool, v7 = .bool b10 ∧
 vif (!b10)
 (Q (.tup []) h8)
 (∃ q13 : Option SL, cellsAt h8 p1 1 = some [.sl q13] ∧
 AC Tryz.prog 62 [.sl q13, .int .i64 (wrapK .i64 (Int.tdiv (wrapK .i64 (n3 - 1)) 2)), .int .i64 n3] h8 fun v11 h12 => v11 = .tup [] ∧
 (True) ∧ I4 [.int .i64 (wrapK .i64 (Int.tdiv (wrapK .i64 (n3 - 1)) 2))] h12 ∧ m5 [.int .i64 (wrapK .i64 (Int.tdiv (wrapK .i64 (n3 - 1)) 2))] h12 < m5 [.int .i64 n3] h6))
theorem ac37 {p1 : PA} {n2 : Int} {h : Heap} {Q : AV → Heap → Prop} (hk : vc37 p1 n2 h Q) : AC Tryz.prog 37 [.iface 68 (.ptr (some p1)), .int .i64 n2] h Q :=
 AC_by (H := hintsOf [] [(0, [1], [])]) (by kernel_rfl) (by kernel_rfl) hk

/-- cmp.Or[int]: what it asks. -/
def vc38 (q1 : Option SL) (h : Heap) (Q : AV → Heap → Prop) : Prop :=
 ∃ (I3 : List AV → Heap → Prop) (m4 : List AV → Heap → Nat), I3 [.int .i64 0] h ∧
 ∀ n2 : Int, ∀ h5 : Heap, I3 [.int .i64 n2] h5 →
 vif (decide (n2 < (slLen q1 : Int)))
 (vIdx q1 n2 1 fun p6 =>
 ∃ n7 : Int, cellsAt h5 p6 1 = some [.int .i64 n7] ∧
 vif (n7 != 0)
 (Q (.int .i64 n7) h5)
 ((True) ∧ I3 [.int .i64 (wrapK .i64 (n2 + 1))] h5 ∧ m4 [.int .i64 (wrapK .i64 (n2 + 1))] h5 < m4 [.int .i64 n2] h5))
 (Q (.int .i64 0) h5)
theorem ac38 {q1 : Option SL} {h : Heap} {Q : AV → Heap → Prop} (hk : vc38 q1 h Q) : AC Tryz.prog 38 [.sl q1] h Q :=
 AC_by (H := hintsOf [] [(0, [8], [])]) (by kernel_rfl) (by kernel_rfl) hk

/-- moment.Compare: what it asks. -/
def vc39 (n1 : Int) (n2 : Int) (n3 : Int) (n4 : Int) (h : Heap) (Q : AV → Heap → Prop) : Prop :=
 AC Tryz.prog 41 [.int .i64 n1, .int .i64 n3] h fun v5 h6 => ∃ n7 : Int, v5 = .int .i64 n7 ∧
 (LV.val (.int .i64 n4) = LV.val (.int .i64 n4)) ∧
 (LV.val (.int .i64 n2) = LV.val (.int .i64 n2)) ∧
 AC Tryz.prog 41 [.int .i64 n2, .int .i64 n4] h6 fun v8 h9 => ∃ n10 : Int, v8 = .int .i64 n10 ∧
 PNew [.int .i64 n7, .int .i64 n10] true h9 fun a11 h12 =>
 AC Tryz.prog 38 [.sl (some ⟨a11, 0, 2, 2, 0⟩)] h12 fun v13 h14 => ∃ n15 : Int, v13 = .int .i64 n15 ∧
 Q (.int .i64 n15) h14
theorem ac39 {n1 : Int} {n2 : Int} {n3 : Int} {n4 : Int} {h : Heap} {Q : AV → Heap → Prop} (hk : vc39 n1 n2 n3 n4 h Q) : AC Tryz.prog 39 [.agg [.int .i64 n1, .int .i64 n2], .agg [.int .i64 n3, .int .i64 n4]] h Q :=
 AC_by (H := hintsOf [2, 3] []) (by kernel_rfl) (by kernel_rfl) hk

/-- rec.Compare: what it asks. -/
def vc40 (n1 : Int) (n2 : Int) (n3 : Int) (n4 : Int) (h : Heap) (Q : AV → Heap → Prop) : Prop :=
 AC Tryz.prog 41 [.int .i64 n1, .int .i64 n3] h fun v5 h6 => ∃ n7 : Int, v5 = .int .i64 n7 ∧
 (LV.val (.int .i64 n4) = LV.val (.int .i64 n4)) ∧
 (LV.val (.int .i64 n2) = LV.val (.int .i64 n2)) ∧
 AC Tryz.prog 41 [.int .i64 n2, .int .i64 n4] h6 fun v8 h9 => ∃ n10 : Int, v8 = .int .i64 n10 ∧
 PNew [.int .i64 n7, .int .i64 n10] true h9 fun a11 h12 =>
 AC Tryz.prog 38 [.sl (some ⟨a11, 0, 2, 2, 0⟩)] h12 fun v13 h14 => ∃ n15 : Int, v13 = .int .i64 n15 ∧
 Q (.int .i64 n15) h14
theorem ac40 {n1 : Int} {n2 : Int} {n3 : Int} {n4 : Int} {h : Heap} {Q : AV → Heap → Prop} (hk : vc40 n1 n2 n3 n4 h Q) : AC Tryz.prog 40 [.agg [.int .i64 n1, .int .i64 n2], .agg [.int .i64 n3, .int .i64 n4]] h Q :=
 AC_by (H := hintsOf [2, 3] []) (by kernel_rfl) (by kernel_rfl) hk

/-- cmp.Compare[int]: what it asks. -/
def vc41 (n1 : Int) (n2 : Int) (h : Heap) (Q : AV → Heap → Prop) : Prop :=
 AC Tryz.prog 42 [.int .i64 n1] h fun v3 h4 => ∃ b5 : Bool, v3 = .bool b5 ∧
 AC Tryz.prog 42 [.int .i64 n2] h4 fun v6 h7 => ∃ b8 : Bool, v6 = .bool b8 ∧
 vif b5
 (vif b8
 (Q (.int .i64 0) h7)
 (Q (.int .i64 (-1)) h7))
 (vif b8
 (Q (.int .i64 1) h7)
 (vif (decide (n1 < n2))
 (Q (.int .i64 (-1)) h7)
 (vif (decide (n1 > n2))
 (Q (.int .i64 1) h7)
 (Q (.int .i64 0) h7))))
theorem ac41 {n1 : Int} {n2 : Int} {h : Heap} {Q : AV → Heap → Prop} (hk : vc41 n1 n2 h Q) : AC Tryz.prog 41 [.int .i64 n1, .int .i64 n2] h Q :=
 AC_by (H := hintsOf [] []) (by kernel_rfl) (by kernel_rfl) hk

/-- cmp.isNaN[int]: what it asks. -/
def vc42 (n1 : Int) (h : Heap) (Q : AV → Heap → Prop) : Prop :=
 Q (.bool (n1 != n1)) h
theorem ac42 {n1 : Int} {h : Heap} {Q : AV → Heap → Prop} (hk : vc42 n1 h Q) : AC Tryz.prog 42 [.int .i64 n1] h Q :=
 AC_by (H := hintsOf [] []) (by kernel_rfl) (by kernel_rfl) hk

/-- merge.heads).Len: what it asks. -/
def vc60 (q1 : Option SL) (h : Heap) (Q : AV → Heap → Prop) : Prop :=
 Q (.int .i64 (slLen q1 : Int)) h
theorem ac60 {q1 : Option SL} {h : Heap} {Q : AV → Heap → Prop} (hk : vc60 q1 h Q) : AC Tryz.prog 60 [.sl q1] h Q :=
 AC_by (H := hintsOf [] []) (by kernel_rfl) (by kernel_rfl) hk

/-- merge.heads).Less: what it asks. -/
def vc61 (q1 : Option SL) (n2 : Int) (n3 : Int) (h : Heap) (Q : AV → Heap → Prop) : Prop :=
 vIdx q1 n2 1 fun p4 =>
 ∃ p5 : Option PA, cellsAt h p4 1 = some [.ptr p5] ∧
 vPtr p5 fun p6 =>
 ∃ n7 : Int, ∃ n8 : Int, ∃ n9 : Int, ∃ n10 : Int, cellsAt h ⟨p6.b, p6.o + 0⟩ 4 = some [.int .i64 n7, .int .i64 n8, .int .i64 n9, .int .i64 n10] ∧
 vIdx q1 n3 1 fun p11 =>
 ∃ p12 : Option PA, cellsAt h p11 1 = some [.ptr p12] ∧
 vPtr p12 fun p13 =>
 ∃ n14 : Int, ∃ n15 : Int, ∃ n16 : Int, ∃ n17 : Int, cellsAt h ⟨p13.b, p13.o + 0⟩ 4 = some [.int .i64 n14, .int .i64 n15, .int .i64 n16, .int .i64 n17] ∧
 AC Tryz.prog 36 [.agg [.int .i64 n7, .int .i64 n8, .int .i64 n9, .int .i64 n10], .agg [.int .i64 n14, .int .i64 n15, .int .i64 n16, .int .i64 n17]] h fun v18 h19 => ∃ n20 : Int, v18 = .int .i64 n20 ∧
 Q (.bool (decide (n20 < 0))) h19
theorem ac61 {q1 : Option SL} {n2 : Int} {n3 : Int} {h : Heap} {Q : AV → Heap → Prop} (hk : vc61 q1 n2 n3 h Q) : AC Tryz.prog 61 [.sl q1, .int .i64 n2, .int .i64 n3] h Q :=
 AC_by (H := hintsOf [] []) (by kernel_rfl) (by kernel_rfl) hk

/-- merge.heads).Swap: what it asks. -/
def vc62 (q1 : Option SL) (n2 : Int) (n3 : Int) (h : Heap) (Q : AV → Heap → Prop) : Prop :=
 vIdx q1 n3 1 fun p4 =>
 ∃ p5 : Option PA, cellsAt h p4 1 = some [.ptr p5] ∧
 vIdx q1 n2 1 fun p6 =>
 ∃ p7 : Option PA, cellsAt h p6 1 = some [.ptr p7] ∧
 vIdx q1 n2 1 fun p8 =>
 PStore h p8 [.ptr p5] fun h9 =>
 vIdx q1 n3 1 fun p10 =>
 PStore h9 p10 [.ptr p7] fun h11 =>
 Q (.tup []) h11
theorem ac62 {q1 : Option SL} {n2 : Int} {n3 : Int} {h : Heap} {Q : AV → Heap → Prop} (hk : vc62 q1 n2 n3 h Q) : AC Tryz.prog 62 [.sl q1, .int .i64 n2, .int .i64 n3] h Q :=
 AC_by (H := hintsOf [] []) (by kernel_rfl) (by kernel_rfl) hk

/-- merge.list).Next: what it asks. -/
def vc63 (p1 : Option PA) (h : Heap) (Q : AV → Heap → Prop) : Prop :=
 vPtr p1 fun p2 =>
 ∃ q3 : Option SL, cellsAt h ⟨p2.b, p2.o + 0⟩ 1 = some [.sl q3] ∧
 vif ((slLen q3 : Int) == 0)
 (Q (.int .i64 4) h)
 (vPtr p1 fun p4 =>
 ∃ q5 : Option SL, cellsAt h ⟨p4.b, p4.o + 0⟩ 1 = some [.sl q5] ∧
 PSlice 4 q5 1 none none fun q6 =>
 vPtr p1 fun p7 =>
 PStore h ⟨p7.b, p7.o + 0⟩ [.sl q6] fun h8 =>
 Q (.int .i64 0) h8)
theorem ac63 {p1 : Option PA} {h : Heap} {Q : AV → Heap → Prop} (hk : vc63 p1 h Q) : AC Tryz.prog 63 [.ptr p1] h Q :=
 AC_by (H := hintsOf [] []) (by kernel_rfl) (by kernel_rfl) hk

/-- merge.list).Peek: what it asks. -/
def vc64 (p1 : Option PA) (h : Heap) (Q : AV → Heap → Prop) : Prop :=
 vPtr p1 fun p2 =>
 ∃ q3 : Option SL, cellsAt h ⟨p2.b, p2.o + 0⟩ 1 = some [.sl q3] ∧
 vif ((slLen q3 : Int) == 0)
 (Q (.tup [.agg [.int .i64 0, .int .i64 0, .int .i64 0, .int .i64 0], .bool false]) h)
 (vPtr p1 fun p4 =>
 ∃ q5 : Option SL, cellsAt h ⟨p4.b, p4.o + 0⟩ 1 = some [.sl q5] ∧
 vIdx q5 0 4 fun p6 =>
 ∃ n7 : Int, ∃ n8 : Int, ∃ n9 : Int, ∃ n10 : Int, cellsAt h p6 4 = some [.int .i64 n7, .int .i64 n8, .int .i64 n9, .int .i64 n10] ∧
 Q (.tup [.agg [.int .i64 n7, .int .i64 n8, .int .i64 n9, .int .i64 n10], .bool true]) h)
theorem ac64 {p1 : Option PA} {h : Heap} {Q : AV → Heap → Prop} (hk : vc64 p1 h Q) : AC Tryz.prog 64 [.ptr p1] h Q :=
 AC_by (H := hintsOf [2] []) (by kernel_rfl) (by kernel_rfl) hk

/-- merge.heads).Pop: what it asks. -/
def vc123 (p1 : Option PA) (h : Heap) (Q : AV → Heap → Prop) : Prop :=
 vPtr p1 fun p2 =>
 ∃ q3 : Option SL, cellsAt h p2 1 = some [.sl q3] ∧
 vPtr p1 fun p4 =>
 ∃ q5 : Option SL, cellsAt h p4 1 = some [.sl q5] ∧
 vIdx q5 (wrapK .i64 ((slLen q3 : Int) - 1)) 1 fun p6 =>
 ∃ p7 : Option PA, cellsAt h p6 1 = some [.ptr p7] ∧
 vPtr p1 fun p8 =>
 ∃ q9 : Option SL, cellsAt h p8 1 = some [.sl q9] ∧
 PSlice 1 q9 0 (some (wrapK .i64 ((slLen q3 : Int) - 1))) none fun q10 =>
 vPtr p1 fun p11 =>
 PStore h p11 [.sl q10] fun h12 =>
 Q (.iface 74 (.ptr p7)) h12
theorem ac123 {p1 : Option PA} {h : Heap} {Q : AV → Heap → Prop} (hk : vc123 p1 h Q) : AC Tryz.prog 123 [.ptr p1] h Q :=
 AC_by (H := hintsOf [] []) (by kernel_rfl) (by kernel_rfl) hk

end Go.Proofs
