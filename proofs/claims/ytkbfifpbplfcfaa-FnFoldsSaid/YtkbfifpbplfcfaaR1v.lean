/- Conditions, printed. -/
import Derived.Test.YtkbfifpbplfcfaaAb18
import Derived.Test.YtkbfifpbplfcfaaProg
import Derived.KernelRfl
namespace Go.Proofs
open Go.Ab
set_option maxRecDepth 100000
set_option linter.unusedVariables false

/-- oxbowlaw16.FnMaps: what it asks. -/
def vc3 (n1 : Int) (n2 : Int) (n3 : Int) (n4 : Int) (h : Heap) (Q : AV → Heap → Prop) : Prop :=
 AC Try.prog 8 [.agg [.int .i64 n1, .int .i64 n2], .agg [.int .i64 n3, .int .i64 n4]] h fun v5 h6 => ∃ n7 : Int, ∃ n8 : Int, ∃ n9 : Int, v5 = .tup [.agg [.int .i64 n7, .int .i64 n8], .int .i64 n9] ∧
 AC Try.prog 9 [] h6 fun v10 h11 => ∃ b12 : Bool, v10 = .bool b12 ∧
 vif (!b12)
 (Q (.bool false) h11)
 (AC Try.prog 10 [.agg [.int .i64 n1, .int .i64 n2], .int .i64 1, .agg [.int .i64 n3, .int .i64 n4]] h11 fun v13 h14 => ∃ n15 : Int, v13 = .int .i64 n15 ∧
 vif (n9 != n15)
 (Q (.bool false) h14)
 (vif (n9 != 0)
 (Q (.bool ((n7 == 0) && ((n8 == 0) && true))) h14)
 (AC Try.prog 11 [.agg [.int .i64 n1, .int .i64 n2], .agg [.int .i64 n3, .int .i64 n4]] h14 fun v16 h17 => ∃ n18 : Int, ∃ n19 : Int, v16 = .agg [.int .i64 n18, .int .i64 n19] ∧
 (LV.val (.agg [.int .i64 n7, .int .i64 n8]) = LV.val (.agg [.int .i64 n7, .int .i64 n8])) ∧
 vif ((n7 == n18) && ((n8 == n19) && true))
 (AC Try.prog 12 [.agg [.int .i64 n7, .int .i64 n8]] h17 fun v20 h21 => ∃ b22 : Bool, v20 = .bool b22 ∧
 Q (.bool b22) h21)
 (Q (.bool false) h17))))
theorem ac3 {n1 : Int} {n2 : Int} {n3 : Int} {n4 : Int} {h : Heap} {Q : AV → Heap → Prop} (hk : vc3 n1 n2 n3 n4 h Q) : AC Try.prog 3 [.agg [.int .i64 n1, .int .i64 n2], .agg [.int .i64 n3, .int .i64 n4]] h Q :=
 AC_by (H := hintsOf [2, 3, 5] []) (by kernel_rfl) (by kernel_rfl) hk

/-- oxbowlaw16.FnTests: what it asks. -/
def vc4 (n1 : Int) (n2 : Int) (n3 : Int) (n4 : Int) (h : Heap) (Q : AV → Heap → Prop) : Prop :=
 AC Try.prog 13 [.agg [.int .i64 n1, .int .i64 n2], .agg [.int .i64 n3, .int .i64 n4]] h fun v5 h6 => ∃ b7 : Bool, ∃ n8 : Int, v5 = .tup [.bool b7, .int .i64 n8] ∧
 AC Try.prog 14 [.agg [.int .i64 n1, .int .i64 n2]] h6 fun v9 h10 => ∃ n11 : Int, v9 = .int .i64 n11 ∧
 vif (n11 == 0)
 (AC Try.prog 9 [] h10 fun v12 h13 => ∃ b14 : Bool, v12 = .bool b14 ∧
 vif b14
 (AC Try.prog 10 [.agg [.int .i64 n1, .int .i64 n2], .int .i64 2, .agg [.int .i64 n3, .int .i64 n4]] h13 fun v15 h16 => ∃ n17 : Int, v15 = .int .i64 n17 ∧
 vif (n8 == n17)
 (vif (n8 == 0)
 (AC Try.prog 15 [.agg [.int .i64 n1, .int .i64 n2], .agg [.int .i64 n3, .int .i64 n4]] h16 fun v18 h19 => ∃ b20 : Bool, v18 = .bool b20 ∧
 vif (b7 == b20)
 (AC Try.prog 16 [.agg [.int .i64 n1, .int .i64 n2]] h19 fun v21 h22 => ∃ n23 : Int, v21 = .int .i64 n23 ∧
 (LV.val (.agg [.int .i64 n1, .int .i64 n2]) = LV.val (.agg [.int .i64 n1, .int .i64 n2])) ∧
 AC Try.prog 14 [.agg [.int .i64 n1, .int .i64 n2]] h22 fun v24 h25 => ∃ n26 : Int, v24 = .int .i64 n26 ∧
 vif (n23 == n26)
 (AC Try.prog 17 [.agg [.int .i64 n1, .int .i64 n2]] h25 fun v27 h28 => ∃ n29 : Int, v27 = .int .i64 n29 ∧
 Q (.bool (n29 == 160)) h28)
 (Q (.bool false) h25))
 ((LV.val (.tup []) = LV.val (.tup [])) ∧
 Q (.bool false) h19))
 (vif (b7 == false)
 (AC Try.prog 16 [.agg [.int .i64 n1, .int .i64 n2]] h16 fun v30 h31 => ∃ n32 : Int, v30 = .int .i64 n32 ∧
 (LV.val (.agg [.int .i64 n1, .int .i64 n2]) = LV.val (.agg [.int .i64 n1, .int .i64 n2])) ∧
 AC Try.prog 14 [.agg [.int .i64 n1, .int .i64 n2]] h31 fun v33 h34 => ∃ n35 : Int, v33 = .int .i64 n35 ∧
 vif (n32 == n35)
 (AC Try.prog 17 [.agg [.int .i64 n1, .int .i64 n2]] h34 fun v36 h37 => ∃ n38 : Int, v36 = .int .i64 n38 ∧
 Q (.bool (n38 == 160)) h37)
 (Q (.bool false) h34))
 ((LV.val (.tup []) = LV.val (.tup [])) ∧
 Q (.bool false) h16)))
 ((LV.val (.tup []) = LV.val (.tup [])) ∧
 Q (.bool false) h16))
 ((LV.val (.tup []) = LV.val (.tup [])) ∧
 Q (.bool false) h13))
 (AC Try.prog 9 [] h10 fun v39 h40 => ∃ b41 : Bool, v39 = .bool b41 ∧
 vif b41
 (AC Try.prog 10 [.agg [.int .i64 n1, .int .i64 n2], .int .i64 2, .agg [.int .i64 n3, .int .i64 n4]] h40 fun v42 h43 => ∃ n44 : Int, v42 = .int .i64 n44 ∧
 vif (n8 == n44)
 (vif (n8 == 0)
 (AC Try.prog 15 [.agg [.int .i64 n1, .int .i64 n2], .agg [.int .i64 n3, .int .i64 n4]] h43 fun v45 h46 => ∃ b47 : Bool, v45 = .bool b47 ∧
 vif (b7 == b47)
 (AC Try.prog 16 [.agg [.int .i64 n1, .int .i64 n2]] h46 fun v48 h49 => ∃ n50 : Int, v48 = .int .i64 n50 ∧
 (LV.val (.agg [.int .i64 n1, .int .i64 n2]) = LV.val (.agg [.int .i64 n1, .int .i64 n2])) ∧
 AC Try.prog 14 [.agg [.int .i64 n1, .int .i64 n2]] h49 fun v51 h52 => ∃ n53 : Int, v51 = .int .i64 n53 ∧
 vif (n50 == n53)
 (AC Try.prog 17 [.agg [.int .i64 n1, .int .i64 n2]] h52 fun v54 h55 => ∃ n56 : Int, v54 = .int .i64 n56 ∧
 Q (.bool (n56 == 0)) h55)
 (Q (.bool false) h52))
 ((LV.val (.tup []) = LV.val (.tup [])) ∧
 Q (.bool false) h46))
 (vif (b7 == false)
 (AC Try.prog 16 [.agg [.int .i64 n1, .int .i64 n2]] h43 fun v57 h58 => ∃ n59 : Int, v57 = .int .i64 n59 ∧
 (LV.val (.agg [.int .i64 n1, .int .i64 n2]) = LV.val (.agg [.int .i64 n1, .int .i64 n2])) ∧
 AC Try.prog 14 [.agg [.int .i64 n1, .int .i64 n2]] h58 fun v60 h61 => ∃ n62 : Int, v60 = .int .i64 n62 ∧
 vif (n59 == n62)
 (AC Try.prog 17 [.agg [.int .i64 n1, .int .i64 n2]] h61 fun v63 h64 => ∃ n65 : Int, v63 = .int .i64 n65 ∧
 Q (.bool (n65 == 0)) h64)
 (Q (.bool false) h61))
 ((LV.val (.tup []) = LV.val (.tup [])) ∧
 Q (.bool false) h43)))
 ((LV.val (.tup []) = LV.val (.tup [])) ∧
 Q (.bool false) h43))
 ((LV.val (.tup []) = LV.val (.tup [])) ∧
 Q (.bool false) h40))
theorem ac4 {n1 : Int} {n2 : Int} {n3 : Int} {n4 : Int} {h : Heap} {Q : AV → Heap → Prop} (hk : vc4 n1 n2 n3 n4 h Q) : AC Try.prog 4 [.agg [.int .i64 n1, .int .i64 n2], .agg [.int .i64 n3, .int .i64 n4]] h Q :=
 AC_by (H := hintsOf [2, 3] []) (by kernel_rfl) (by kernel_rfl) hk

/-- oxbowlaw16.FnSpreads: what it asks. -/
def vc5 (n1 : Int) (n2 : Int) (n3 : Int) (n4 : Int) (h : Heap) (Q : AV → Heap → Prop) : Prop :=
 AC Try.prog 18 [.agg [.int .i64 n1, .int .i64 n2], .agg [.int .i64 n3, .int .i64 n4]] h fun v5 h6 => ∃ q7 : Option SL, ∃ n8 : Int, v5 = .tup [.sl q7, .int .i64 n8] ∧
 AC Try.prog 9 [] h6 fun v9 h10 => ∃ b11 : Bool, v9 = .bool b11 ∧
 vif (!b11)
 (Q (.bool false) h10)
 (AC Try.prog 10 [.agg [.int .i64 n1, .int .i64 n2], .int .i64 3, .agg [.int .i64 n3, .int .i64 n4]] h10 fun v12 h13 => ∃ n14 : Int, v12 = .int .i64 n14 ∧
 vif (n8 != n14)
 (Q (.bool false) h13)
 (vif (n8 != 0)
 (Q (.bool ((slLen q7 : Int) == 0)) h13)
 (AC Try.prog 20 [.agg [.int .i64 n1, .int .i64 n2], .agg [.int .i64 n3, .int .i64 n4]] h13 fun v15 h16 => ∃ q17 : Option SL, v15 = .sl q17 ∧
 AC Try.prog 19 [.sl q7, .sl q17] h16 fun v18 h19 => ∃ b20 : Bool, v18 = .bool b20 ∧
 vif b20
 (vif (decide ((slLen q7 : Int) ≤ 8))
 (AC Try.prog 21 [.sl q7] h19 fun v21 h22 => ∃ n23 : Int, v21 = .int .i64 n23 ∧
 Q (.bool (n23 == 0)) h22)
 (Q (.bool false) h19))
 (Q (.bool false) h19))))
theorem ac5 {n1 : Int} {n2 : Int} {n3 : Int} {n4 : Int} {h : Heap} {Q : AV → Heap → Prop} (hk : vc5 n1 n2 n3 n4 h Q) : AC Try.prog 5 [.agg [.int .i64 n1, .int .i64 n2], .agg [.int .i64 n3, .int .i64 n4]] h Q :=
 AC_by (H := hintsOf [2, 3] []) (by kernel_rfl) (by kernel_rfl) hk

/-- oxbowlaw16.FnFolds: what it asks. -/
def vc6 (n1 : Int) (n2 : Int) (q3 : Option SL) (h : Heap) (Q : AV → Heap → Prop) : Prop :=
 vif (decide ((slLen q3 : Int) > 5000))
 (AC Try.prog 9 [] h fun v4 h5 => ∃ b6 : Bool, v4 = .bool b6 ∧
 Q (.bool b6) h5)
 (AC Try.prog 22 [.agg [.int .i64 n1, .int .i64 n2], .sl q3] h fun v7 h8 => ∃ n9 : Int, ∃ n10 : Int, ∃ n11 : Int, v7 = .tup [.agg [.int .i64 n9, .int .i64 n10], .int .i64 n11] ∧
 (AC Try.prog 23 [.sl q3] h8 fun v12 h13 => ∃ q14 : Option SL, v12 = .sl q14 ∧
 (LV.val (.agg [.int .i64 n1, .int .i64 n2]) = LV.val (.agg [.int .i64 n1, .int .i64 n2])) ∧
 (AC Try.prog 22 [.agg [.int .i64 n1, .int .i64 n2], .sl q14] h13 fun v15 h16 => ∃ n17 : Int, ∃ n18 : Int, ∃ n19 : Int, v15 = .tup [.agg [.int .i64 n17, .int .i64 n18], .int .i64 n19] ∧
 (LV.val (.agg [.int .i64 n1, .int .i64 n2]) = LV.val (.agg [.int .i64 n1, .int .i64 n2])) ∧
 AC Try.prog 9 [] h16 fun v20 h21 => ∃ b22 : Bool, v20 = .bool b22 ∧
 vif (!b22)
 (Q (.bool false) h21)
 (AC Try.prog 24 [.agg [.int .i64 n1, .int .i64 n2], .sl q3] h21 fun v23 h24 => ∃ n25 : Int, v23 = .int .i64 n25 ∧
 vif (n11 != n25)
 (Q (.bool false) h24)
 (vif (n19 != n11)
 (Q (.bool false) h24)
 (vif (!((n9 == n17) && ((n10 == n18) && true)))
 (Q (.bool false) h24)
 (vif (n11 != 0)
 (Q (.bool ((n9 == 0) && ((n10 == 0) && true))) h24)
 (AC Try.prog 25 [.agg [.int .i64 n1, .int .i64 n2], .sl q3] h24 fun v26 h27 => ∃ n28 : Int, ∃ n29 : Int, v26 = .agg [.int .i64 n28, .int .i64 n29] ∧
 (LV.val (.agg [.int .i64 n9, .int .i64 n10]) = LV.val (.agg [.int .i64 n9, .int .i64 n10])) ∧
 vif ((n9 == n28) && ((n10 == n29) && true))
 (AC Try.prog 12 [.agg [.int .i64 n9, .int .i64 n10]] h27 fun v30 h31 => ∃ b32 : Bool, v30 = .bool b32 ∧
 Q (.bool b32) h31)
 (Q (.bool false) h27))))))) ∧
 ((LV.val (.agg [.int .i64 n1, .int .i64 n2]) = LV.val (.agg [.int .i64 n1, .int .i64 n2])) ∧
 AC Try.prog 22 [.agg [.int .i64 n1, .int .i64 n2], .sl q14] h13 fun v33 h34 => ∃ n35 : Int, ∃ n36 : Int, ∃ n37 : Int, v33 = .tup [.agg [.int .i64 n35, .int .i64 n36], .int .i64 n37] ∧
 AC Try.prog 9 [] h34 fun v38 h39 => ∃ b40 : Bool, v38 = .bool b40 ∧
 vif (!b40)
 (Q (.bool false) h39)
 (AC Try.prog 24 [.agg [.int .i64 n1, .int .i64 n2], .sl q3] h39 fun v41 h42 => ∃ n43 : Int, v41 = .int .i64 n43 ∧
 vif (n11 != n43)
 (Q (.bool false) h42)
 (vif (n37 != n11)
 (Q (.bool false) h42)
 (vif (!((n9 == n35) && ((n10 == n36) && true)))
 (Q (.bool false) h42)
 (vif (n11 != 0)
 (Q (.bool ((n9 == 0) && ((n10 == 0) && true))) h42)
 (AC Try.prog 25 [.agg [.int .i64 n1, .int .i64 n2], .sl q3] h42 fun v44 h45 => ∃ n46 : Int, ∃ n47 : Int, v44 = .agg [.int .i64 n46, .int .i64 n47] ∧
 (LV.val (.agg [.int .i64 n9, .int .i64 n10]) = LV.val (.agg [.int .i64 n9, .int .i64 n10])) ∧
 vif ((n9 == n46) && ((n10 == n47) && true))
 (AC Try.prog 12 [.agg [.int .i64 n9, .int .i64 n10]] h45 fun v48 h49 => ∃ b50 : Bool, v48 = .bool b50 ∧
 Q (.bool b50) h49)
 (Q (.bool false) h45)))))))) ∧
 ((LV.val (.agg [.int .i64 n1, .int .i64 n2]) = LV.val (.agg [.int .i64 n1, .int .i64 n2])) ∧
 AC Try.prog 23 [.sl q3] h8 fun v51 h52 => ∃ q53 : Option SL, v51 = .sl q53 ∧
 (LV.val (.agg [.int .i64 n1, .int .i64 n2]) = LV.val (.agg [.int .i64 n1, .int .i64 n2])) ∧
 AC Try.prog 22 [.agg [.int .i64 n1, .int .i64 n2], .sl q53] h52 fun v54 h55 => ∃ n56 : Int, ∃ n57 : Int, ∃ n58 : Int, v54 = .tup [.agg [.int .i64 n56, .int .i64 n57], .int .i64 n58] ∧
 AC Try.prog 9 [] h55 fun v59 h60 => ∃ b61 : Bool, v59 = .bool b61 ∧
 vif (!b61)
 (Q (.bool false) h60)
 (AC Try.prog 24 [.agg [.int .i64 n1, .int .i64 n2], .sl q3] h60 fun v62 h63 => ∃ n64 : Int, v62 = .int .i64 n64 ∧
 vif (n11 != n64)
 (Q (.bool false) h63)
 (vif (n58 != n11)
 (Q (.bool false) h63)
 (vif (!((n9 == n56) && ((n10 == n57) && true)))
 (Q (.bool false) h63)
 (vif (n11 != 0)
 (Q (.bool ((n9 == 0) && ((n10 == 0) && true))) h63)
 (AC Try.prog 25 [.agg [.int .i64 n1, .int .i64 n2], .sl q3] h63 fun v65 h66 => ∃ n67 : Int, ∃ n68 : Int, v65 = .agg [.int .i64 n67, .int .i64 n68] ∧
 (LV.val (.agg [.int .i64 n9, .int .i64 n10]) = LV.val (.agg [.int .i64 n9, .int .i64 n10])) ∧
 vif ((n9 == n67) && ((n10 == n68) && true))
 (AC Try.prog 12 [.agg [.int .i64 n9, .int .i64 n10]] h66 fun v69 h70 => ∃ b71 : Bool, v69 = .bool b71 ∧
 Q (.bool b71) h70)
 (Q (.bool false) h66))))))))
theorem ac6 {n1 : Int} {n2 : Int} {q3 : Option SL} {h : Heap} {Q : AV → Heap → Prop} (hk : vc6 n1 n2 q3 h Q) : AC Try.prog 6 [.agg [.int .i64 n1, .int .i64 n2], .sl q3] h Q :=
 AC_by (H := hintsOf [2, 5, 7] []) (by kernel_rfl) (by kernel_rfl) hk

/-- oxbowlaw16.FnPairs: what it asks. -/
def vc7 (n1 : Int) (n2 : Int) (n3 : Int) (n4 : Int) (n5 : Int) (n6 : Int) (h : Heap) (Q : AV → Heap → Prop) : Prop :=
 AC Try.prog 26 [.agg [.int .i64 n1, .int .i64 n2], .agg [.int .i64 n3, .int .i64 n4], .agg [.int .i64 n5, .int .i64 n6]] h fun v7 h8 => ∃ n9 : Int, ∃ n10 : Int, ∃ n11 : Int, v7 = .tup [.agg [.int .i64 n9, .int .i64 n10], .int .i64 n11] ∧
 AC Try.prog 10 [.agg [.int .i64 n1, .int .i64 n2], .int .i64 5, .agg [.int .i64 n3, .int .i64 n4]] h8 fun v12 h13 => ∃ n14 : Int, v12 = .int .i64 n14 ∧
 vif (n14 == 0)
 (AC Try.prog 10 [.agg [.int .i64 n1, .int .i64 n2], .int .i64 5, .agg [.int .i64 n5, .int .i64 n6]] h13 fun v15 h16 => ∃ n17 : Int, v15 = .int .i64 n17 ∧
 vif (n17 == 0)
 (vif (n3 != n5)
 (AC Try.prog 9 [] h16 fun v18 h19 => ∃ b20 : Bool, v18 = .bool b20 ∧
 vif (!b20)
 (Q (.bool false) h19)
 (vif (n11 != 1)
 (Q (.bool false) h19)
 (vif (n11 != 0)
 (Q (.bool ((n9 == 0) && ((n10 == 0) && true))) h19)
 (AC Try.prog 27 [.agg [.int .i64 n1, .int .i64 n2], .agg [.int .i64 n3, .int .i64 n4], .agg [.int .i64 n5, .int .i64 n6]] h19 fun v21 h22 => ∃ n23 : Int, ∃ n24 : Int, v21 = .agg [.int .i64 n23, .int .i64 n24] ∧
 (LV.val (.agg [.int .i64 n9, .int .i64 n10]) = LV.val (.agg [.int .i64 n9, .int .i64 n10])) ∧
 vif ((n9 == n23) && ((n10 == n24) && true))
 (AC Try.prog 12 [.agg [.int .i64 n9, .int .i64 n10]] h22 fun v25 h26 => ∃ b27 : Bool, v25 = .bool b27 ∧
 Q (.bool b27) h26)
 (Q (.bool false) h22)))))
 (AC Try.prog 9 [] h16 fun v28 h29 => ∃ b30 : Bool, v28 = .bool b30 ∧
 vif (!b30)
 (Q (.bool false) h29)
 (vif (n11 != n17)
 (Q (.bool false) h29)
 (vif (n11 != 0)
 (Q (.bool ((n9 == 0) && ((n10 == 0) && true))) h29)
 (AC Try.prog 27 [.agg [.int .i64 n1, .int .i64 n2], .agg [.int .i64 n3, .int .i64 n4], .agg [.int .i64 n5, .int .i64 n6]] h29 fun v31 h32 => ∃ n33 : Int, ∃ n34 : Int, v31 = .agg [.int .i64 n33, .int .i64 n34] ∧
 (LV.val (.agg [.int .i64 n9, .int .i64 n10]) = LV.val (.agg [.int .i64 n9, .int .i64 n10])) ∧
 vif ((n9 == n33) && ((n10 == n34) && true))
 (AC Try.prog 12 [.agg [.int .i64 n9, .int .i64 n10]] h32 fun v35 h36 => ∃ b37 : Bool, v35 = .bool b37 ∧
 Q (.bool b37) h36)
 (Q (.bool false) h32))))))
 (AC Try.prog 9 [] h16 fun v38 h39 => ∃ b40 : Bool, v38 = .bool b40 ∧
 vif (!b40)
 (Q (.bool false) h39)
 (vif (n11 != n17)
 (Q (.bool false) h39)
 (vif (n11 != 0)
 (Q (.bool ((n9 == 0) && ((n10 == 0) && true))) h39)
 (AC Try.prog 27 [.agg [.int .i64 n1, .int .i64 n2], .agg [.int .i64 n3, .int .i64 n4], .agg [.int .i64 n5, .int .i64 n6]] h39 fun v41 h42 => ∃ n43 : Int, ∃ n44 : Int, v41 = .agg [.int .i64 n43, .int .i64 n44] ∧
 (LV.val (.agg [.int .i64 n9, .int .i64 n10]) = LV.val (.agg [.int .i64 n9, .int .i64 n10])) ∧
 vif ((n9 == n43) && ((n10 == n44) && true))
 (AC Try.prog 12 [.agg [.int .i64 n9, .int .i64 n10]] h42 fun v45 h46 => ∃ b47 : Bool, v45 = .bool b47 ∧
 Q (.bool b47) h46)
 (Q (.bool false) h42))))))
 (vif (n14 == 0)
 (vif (n3 != n5)
 (AC Try.prog 9 [] h13 fun v48 h49 => ∃ b50 : Bool, v48 = .bool b50 ∧
 vif (!b50)
 (Q (.bool false) h49)
 (vif (n11 != 1)
 (Q (.bool false) h49)
 (vif (n11 != 0)
 (Q (.bool ((n9 == 0) && ((n10 == 0) && true))) h49)
 (AC Try.prog 27 [.agg [.int .i64 n1, .int .i64 n2], .agg [.int .i64 n3, .int .i64 n4], .agg [.int .i64 n5, .int .i64 n6]] h49 fun v51 h52 => ∃ n53 : Int, ∃ n54 : Int, v51 = .agg [.int .i64 n53, .int .i64 n54] ∧
 (LV.val (.agg [.int .i64 n9, .int .i64 n10]) = LV.val (.agg [.int .i64 n9, .int .i64 n10])) ∧
 vif ((n9 == n53) && ((n10 == n54) && true))
 (AC Try.prog 12 [.agg [.int .i64 n9, .int .i64 n10]] h52 fun v55 h56 => ∃ b57 : Bool, v55 = .bool b57 ∧
 Q (.bool b57) h56)
 (Q (.bool false) h52)))))
 (AC Try.prog 9 [] h13 fun v58 h59 => ∃ b60 : Bool, v58 = .bool b60 ∧
 vif (!b60)
 (Q (.bool false) h59)
 (vif (n11 != n14)
 (Q (.bool false) h59)
 (vif (n11 != 0)
 (Q (.bool ((n9 == 0) && ((n10 == 0) && true))) h59)
 (AC Try.prog 27 [.agg [.int .i64 n1, .int .i64 n2], .agg [.int .i64 n3, .int .i64 n4], .agg [.int .i64 n5, .int .i64 n6]] h59 fun v61 h62 => ∃ n63 : Int, ∃ n64 : Int, v61 = .agg [.int .i64 n63, .int .i64 n64] ∧
 (LV.val (.agg [.int .i64 n9, .int .i64 n10]) = LV.val (.agg [.int .i64 n9, .int .i64 n10])) ∧
 vif ((n9 == n63) && ((n10 == n64) && true))
 (AC Try.prog 12 [.agg [.int .i64 n9, .int .i64 n10]] h62 fun v65 h66 => ∃ b67 : Bool, v65 = .bool b67 ∧
 Q (.bool b67) h66)
 (Q (.bool false) h62))))))
 (AC Try.prog 9 [] h13 fun v68 h69 => ∃ b70 : Bool, v68 = .bool b70 ∧
 vif (!b70)
 (Q (.bool false) h69)
 (vif (n11 != n14)
 (Q (.bool false) h69)
 (vif (n11 != 0)
 (Q (.bool ((n9 == 0) && ((n10 == 0) && true))) h69)
 (AC Try.prog 27 [.agg [.int .i64 n1, .int .i64 n2], .agg [.int .i64 n3, .int .i64 n4], .agg [.int .i64 n5, .int .i64 n6]] h69 fun v71 h72 => ∃ n73 : Int, ∃ n74 : Int, v71 = .agg [.int .i64 n73, .int .i64 n74] ∧
 (LV.val (.agg [.int .i64 n9, .int .i64 n10]) = LV.val (.agg [.int .i64 n9, .int .i64 n10])) ∧
 vif ((n9 == n73) && ((n10 == n74) && true))
 (AC Try.prog 12 [.agg [.int .i64 n9, .int .i64 n10]] h72 fun v75 h76 => ∃ b77 : Bool, v75 = .bool b77 ∧
 Q (.bool b77) h76)
 (Q (.bool false) h72))))))
theorem ac7 {n1 : Int} {n2 : Int} {n3 : Int} {n4 : Int} {n5 : Int} {n6 : Int} {h : Heap} {Q : AV → Heap → Prop} (hk : vc7 n1 n2 n3 n4 n5 n6 h Q) : AC Try.prog 7 [.agg [.int .i64 n1, .int .i64 n2], .agg [.int .i64 n3, .int .i64 n4], .agg [.int .i64 n5, .int .i64 n6]] h Q :=
 AC_by (H := hintsOf [3, 4, 5, 7] []) (by kernel_rfl) (by kernel_rfl) hk

/-- fn.Map: what it asks. -/
def vc8 (n1 : Int) (n2 : Int) (n3 : Int) (n4 : Int) (h : Heap) (Q : AV → Heap → Prop) : Prop :=
 PNew [.int .i64 n3, .int .i64 n4] true h fun a5 h6 =>
 AC Try.prog 28 [.agg [.int .i64 n1, .int .i64 n2], .int .i64 1, .sl (some ⟨a5, 0, 1, 1, 0⟩)] h6 fun v7 h8 => ∃ n9 : Int, v7 = .int .i64 n9 ∧
 vif (n9 != 0)
 (Q (.tup [.agg [.int .i64 0, .int .i64 0], .int .i64 n9]) h8)
 (vif (n1 == 1)
 (AC Try.prog 29 [.int .i64 (wrapK .i64 (n4 + n2))] h8 fun v10 h11 => ∃ n12 : Int, v10 = .int .i64 n12 ∧
 Q (.tup [.agg [.int .i64 n3, .int .i64 n12], .int .i64 0]) h11)
 (vif (n1 == 2)
 (AC Try.prog 29 [.int .i64 (wrapK .i64 (n4 * n2))] h8 fun v13 h14 => ∃ n15 : Int, v13 = .int .i64 n15 ∧
 Q (.tup [.agg [.int .i64 n3, .int .i64 n15], .int .i64 0]) h14)
 (vif (n1 == 3)
 (AC Try.prog 30 [.agg [.int .i64 n3, .int .i64 n4]] h8 fun v16 h17 => ∃ n18 : Int, ∃ n19 : Int, v16 = .agg [.int .i64 n18, .int .i64 n19] ∧
 Q (.tup [.agg [.int .i64 n18, .int .i64 n19], .int .i64 0]) h17)
 (vif (n1 == 4)
 (need (!(n2 == 0))
 (Q (.tup [.agg [.int .i64 (Int.tmod n3 n2), .int .i64 n4], .int .i64 0]) h8))
 (vif (n1 == 5)
 (need (!(n2 == 0))
 (Q (.tup [.agg [.int .i64 n3, .int .i64 (Int.tmod n4 n2)], .int .i64 0]) h8))
 (vif (n1 == 6)
 (need (!(n2 == 0))
 (Q (.tup [.agg [.int .i64 (wrapK .i64 (Int.tdiv n4 n2)), .int .i64 n4], .int .i64 0]) h8))
 (vif (n1 == 7)
 (Q (.tup [.agg [.int .i64 n3, .int .i64 (minI n4 n2)], .int .i64 0]) h8)
 (vif (n1 == 8)
 (Q (.tup [.agg [.int .i64 n3, .int .i64 (maxI2 n4 n2)], .int .i64 0]) h8)
 (Q (.tup [.agg [.int .i64 n3, .int .i64 n4], .int .i64 0]) h8)))))))))
theorem ac8 {n1 : Int} {n2 : Int} {n3 : Int} {n4 : Int} {h : Heap} {Q : AV → Heap → Prop} (hk : vc8 n1 n2 n3 n4 h Q) : AC Try.prog 8 [.agg [.int .i64 n1, .int .i64 n2], .agg [.int .i64 n3, .int .i64 n4]] h Q :=
 AC_by (H := hintsOf [2, 3, 4] []) (by kernel_rfl) (by kernel_rfl) hk

/-- oxbowlaw16.want: what it asks. -/
def vc10 (n1 : Int) (n2 : Int) (n3 : Int) (n4 : Int) (n5 : Int) (h : Heap) (Q : AV → Heap → Prop) : Prop :=
 AC Try.prog 14 [.agg [.int .i64 n1, .int .i64 n2]] h fun v6 h7 => ∃ n8 : Int, v6 = .int .i64 n8 ∧
 vif (n8 != n3)
 (Q (.int .i64 160) h7)
 (AC Try.prog 12 [.agg [.int .i64 n4, .int .i64 n5]] h7 fun v9 h10 => ∃ b11 : Bool, v9 = .bool b11 ∧
 vif (!b11)
 (Q (.int .i64 30) h10)
 (Q (.int .i64 0) h10))
theorem ac10 {n1 : Int} {n2 : Int} {n3 : Int} {n4 : Int} {n5 : Int} {h : Heap} {Q : AV → Heap → Prop} (hk : vc10 n1 n2 n3 n4 n5 h Q) : AC Try.prog 10 [.agg [.int .i64 n1, .int .i64 n2], .int .i64 n3, .agg [.int .i64 n4, .int .i64 n5]] h Q :=
 AC_by (H := hintsOf [3, 5] []) (by kernel_rfl) (by kernel_rfl) hk

/-- oxbowref16.Map: what it asks. -/
def vc11 (n1 : Int) (n2 : Int) (n3 : Int) (n4 : Int) (h : Heap) (Q : AV → Heap → Prop) : Prop :=
 vif (n1 == 1)
 (AC Try.prog 31 [.int .i64 (wrapK .i64 (n4 + n2))] h fun v5 h6 => ∃ n7 : Int, v5 = .int .i64 n7 ∧
 Q (.agg [.int .i64 n3, .int .i64 n7]) h6)
 (vif (n1 == 2)
 (AC Try.prog 31 [.int .i64 (wrapK .i64 (n4 * n2))] h fun v8 h9 => ∃ n10 : Int, v8 = .int .i64 n10 ∧
 Q (.agg [.int .i64 n3, .int .i64 n10]) h9)
 (vif (n1 == 3)
 (Q (.agg [.int .i64 n4, .int .i64 n3]) h)
 (vif (n1 == 4)
 (need (!(n2 == 0))
 (Q (.agg [.int .i64 (Int.tmod n3 n2), .int .i64 n4]) h))
 (vif (n1 == 5)
 (need (!(n2 == 0))
 (Q (.agg [.int .i64 n3, .int .i64 (Int.tmod n4 n2)]) h))
 (vif (n1 == 6)
 (need (!(n2 == 0))
 (Q (.agg [.int .i64 (wrapK .i64 (Int.tdiv n4 n2)), .int .i64 n4]) h))
 (vif (n1 == 7)
 (vif (decide (n2 < n4))
 (Q (.agg [.int .i64 n3, .int .i64 n2]) h)
 (Q (.agg [.int .i64 n3, .int .i64 n4]) h))
 (vif (n1 == 8)
 (vif (decide (n2 > n4))
 (Q (.agg [.int .i64 n3, .int .i64 n2]) h)
 (Q (.agg [.int .i64 n3, .int .i64 n4]) h))
 (Q (.agg [.int .i64 n3, .int .i64 n4]) h))))))))
theorem ac11 {n1 : Int} {n2 : Int} {n3 : Int} {n4 : Int} {h : Heap} {Q : AV → Heap → Prop} (hk : vc11 n1 n2 n3 n4 h Q) : AC Try.prog 11 [.agg [.int .i64 n1, .int .i64 n2], .agg [.int .i64 n3, .int .i64 n4]] h Q :=
 AC_by (H := hintsOf [2, 3, 4] []) (by kernel_rfl) (by kernel_rfl) hk

/-- oxbowref03.Check: what it asks. -/
def vc12 (n1 : Int) (n2 : Int) (h : Heap) (Q : AV → Heap → Prop) : Prop :=
 vif (decide (n1 ≥ 0))
 (vif (decide (n1 < 1048576))
 (vif (decide (n2 ≥ 0))
 (Q (.bool (decide (n2 < 1048576))) h)
 (Q (.bool false) h))
 (Q (.bool false) h))
 (Q (.bool false) h)
theorem ac12 {n1 : Int} {n2 : Int} {h : Heap} {Q : AV → Heap → Prop} (hk : vc12 n1 n2 h Q) : AC Try.prog 12 [.agg [.int .i64 n1, .int .i64 n2]] h Q :=
 AC_by (H := hintsOf [1] []) (by kernel_rfl) (by kernel_rfl) hk

/-- fn.Test: what it asks. -/
def vc13 (n1 : Int) (n2 : Int) (n3 : Int) (n4 : Int) (h : Heap) (Q : AV → Heap → Prop) : Prop :=
 PNew [.int .i64 n3, .int .i64 n4] true h fun a5 h6 =>
 AC Try.prog 28 [.agg [.int .i64 n1, .int .i64 n2], .int .i64 2, .sl (some ⟨a5, 0, 1, 1, 0⟩)] h6 fun v7 h8 => ∃ n9 : Int, v7 = .int .i64 n9 ∧
 vif (n9 != 0)
 (Q (.tup [.bool false, .int .i64 n9]) h8)
 (vif (n1 == 9)
 (Q (.tup [.bool (decide (n4 < n2)), .int .i64 0]) h8)
 (vif (n1 == 10)
 (Q (.tup [.bool (decide (n4 > n2)), .int .i64 0]) h8)
 (vif (n1 == 11)
 (Q (.tup [.bool (n3 == n2), .int .i64 0]) h8)
 (Q (.tup [.bool ((bitsAnd .i64 n4 1) == 1), .int .i64 0]) h8))))
theorem ac13 {n1 : Int} {n2 : Int} {n3 : Int} {n4 : Int} {h : Heap} {Q : AV → Heap → Prop} (hk : vc13 n1 n2 n3 n4 h Q) : AC Try.prog 13 [.agg [.int .i64 n1, .int .i64 n2], .agg [.int .i64 n3, .int .i64 n4]] h Q :=
 AC_by (H := hintsOf [2, 3] []) (by kernel_rfl) (by kernel_rfl) hk

/-- oxbowref16.Family: what it asks. -/
def vc14 (n1 : Int) (n2 : Int) (h : Heap) (Q : AV → Heap → Prop) : Prop :=
 vif (decide (n2 < 0))
 (Q (.int .i64 0) h)
 (vif (decide (n2 ≥ 1048576))
 (Q (.int .i64 0) h)
 (vif (n1 == 1)
 (Q (.int .i64 1) h)
 (vif (n1 == 2)
 (Q (.int .i64 1) h)
 (vif (n1 == 7)
 (Q (.int .i64 1) h)
 (vif (n1 == 8)
 (Q (.int .i64 1) h)
 (vif (n1 == 4)
 (vif (decide (n2 ≥ 1))
 (Q (.int .i64 1) h)
 (vif (n2 != 0)
 (Q (.int .i64 0) h)
 (vif (n1 == 3)
 (Q (.int .i64 1) h)
 (vif (n1 == 12)
 (Q (.int .i64 2) h)
 (vif (n1 == 15)
 (Q (.int .i64 3) h)
 (vif (n1 == 16)
 (Q (.int .i64 4) h)
 (vif (n1 == 17)
 (Q (.int .i64 4) h)
 (vif (n1 == 18)
 (Q (.int .i64 4) h)
 (vif (n1 == 19)
 (Q (.int .i64 4) h)
 (vif (n1 == 20)
 (Q (.int .i64 5) h)
 (vif (n1 == 21)
 (Q (.int .i64 5) h)
 (vif (n1 == 22)
 (Q (.int .i64 5) h)
 (vif (n1 == 23)
 (Q (.int .i64 5) h)
 (Q (.int .i64 0) h))))))))))))))
 (vif (n1 == 5)
 (vif (decide (n2 ≥ 1))
 (Q (.int .i64 1) h)
 (vif (n2 != 0)
 (Q (.int .i64 0) h)
 (vif (n1 == 3)
 (Q (.int .i64 1) h)
 (vif (n1 == 12)
 (Q (.int .i64 2) h)
 (vif (n1 == 15)
 (Q (.int .i64 3) h)
 (vif (n1 == 16)
 (Q (.int .i64 4) h)
 (vif (n1 == 17)
 (Q (.int .i64 4) h)
 (vif (n1 == 18)
 (Q (.int .i64 4) h)
 (vif (n1 == 19)
 (Q (.int .i64 4) h)
 (vif (n1 == 20)
 (Q (.int .i64 5) h)
 (vif (n1 == 21)
 (Q (.int .i64 5) h)
 (vif (n1 == 22)
 (Q (.int .i64 5) h)
 (vif (n1 == 23)
 (Q (.int .i64 5) h)
 (Q (.int .i64 0) h))))))))))))))
 (vif (n1 == 6)
 (vif (decide (n2 ≥ 1))
 (Q (.int .i64 1) h)
 (vif (n2 != 0)
 (Q (.int .i64 0) h)
 (vif (n1 == 3)
 (Q (.int .i64 1) h)
 (vif (n1 == 12)
 (Q (.int .i64 2) h)
 (vif (n1 == 15)
 (Q (.int .i64 3) h)
 (vif (n1 == 16)
 (Q (.int .i64 4) h)
 (vif (n1 == 17)
 (Q (.int .i64 4) h)
 (vif (n1 == 18)
 (Q (.int .i64 4) h)
 (vif (n1 == 19)
 (Q (.int .i64 4) h)
 (vif (n1 == 20)
 (Q (.int .i64 5) h)
 (vif (n1 == 21)
 (Q (.int .i64 5) h)
 (vif (n1 == 22)
 (Q (.int .i64 5) h)
 (vif (n1 == 23)
 (Q (.int .i64 5) h)
 (Q (.int .i64 0) h))))))))))))))
 (vif (n1 == 9)
 (Q (.int .i64 2) h)
 (vif (n1 == 10)
 (Q (.int .i64 2) h)
 (vif (n1 == 11)
 (Q (.int .i64 2) h)
 (vif (n1 == 13)
 (vif (decide (n2 ≤ 8))
 (Q (.int .i64 3) h)
 (vif (n2 != 0)
 (Q (.int .i64 0) h)
 (vif (n1 == 3)
 (Q (.int .i64 1) h)
 (vif (n1 == 12)
 (Q (.int .i64 2) h)
 (vif (n1 == 15)
 (Q (.int .i64 3) h)
 (vif (n1 == 16)
 (Q (.int .i64 4) h)
 (vif (n1 == 17)
 (Q (.int .i64 4) h)
 (vif (n1 == 18)
 (Q (.int .i64 4) h)
 (vif (n1 == 19)
 (Q (.int .i64 4) h)
 (vif (n1 == 20)
 (Q (.int .i64 5) h)
 (vif (n1 == 21)
 (Q (.int .i64 5) h)
 (vif (n1 == 22)
 (Q (.int .i64 5) h)
 (vif (n1 == 23)
 (Q (.int .i64 5) h)
 (Q (.int .i64 0) h))))))))))))))
 (vif (n1 == 14)
 (vif (decide (n2 ≤ 8))
 (Q (.int .i64 3) h)
 (vif (n2 != 0)
 (Q (.int .i64 0) h)
 (vif (n1 == 3)
 (Q (.int .i64 1) h)
 (vif (n1 == 12)
 (Q (.int .i64 2) h)
 (vif (n1 == 15)
 (Q (.int .i64 3) h)
 (vif (n1 == 16)
 (Q (.int .i64 4) h)
 (vif (n1 == 17)
 (Q (.int .i64 4) h)
 (vif (n1 == 18)
 (Q (.int .i64 4) h)
 (vif (n1 == 19)
 (Q (.int .i64 4) h)
 (vif (n1 == 20)
 (Q (.int .i64 5) h)
 (vif (n1 == 21)
 (Q (.int .i64 5) h)
 (vif (n1 == 22)
 (Q (.int .i64 5) h)
 (vif (n1 == 23)
 (Q (.int .i64 5) h)
 (Q (.int .i64 0) h))))))))))))))
 (vif (n2 != 0)
 (Q (.int .i64 0) h)
 (vif (n1 == 3)
 (Q (.int .i64 1) h)
 (vif (n1 == 12)
 (Q (.int .i64 2) h)
 (vif (n1 == 15)
 (Q (.int .i64 3) h)
 (vif (n1 == 16)
 (Q (.int .i64 4) h)
 (vif (n1 == 17)
 (Q (.int .i64 4) h)
 (vif (n1 == 18)
 (Q (.int .i64 4) h)
 (vif (n1 == 19)
 (Q (.int .i64 4) h)
 (vif (n1 == 20)
 (Q (.int .i64 5) h)
 (vif (n1 == 21)
 (Q (.int .i64 5) h)
 (vif (n1 == 22)
 (Q (.int .i64 5) h)
 (vif (n1 == 23)
 (Q (.int .i64 5) h)
 (Q (.int .i64 0) h))))))))))))))))))))))))))
theorem ac14 {n1 : Int} {n2 : Int} {h : Heap} {Q : AV → Heap → Prop} (hk : vc14 n1 n2 h Q) : AC Try.prog 14 [.agg [.int .i64 n1, .int .i64 n2]] h Q :=
 AC_by (H := hintsOf [1] []) (by kernel_rfl) (by kernel_rfl) hk

/-- oxbowref16.Test: what it asks. -/
def vc15 (n1 : Int) (n2 : Int) (n3 : Int) (n4 : Int) (h : Heap) (Q : AV → Heap → Prop) : Prop :=
 vif (n1 == 9)
 (Q (.bool (decide (n4 < n2))) h)
 (vif (n1 == 10)
 (Q (.bool (decide (n4 > n2))) h)
 (vif (n1 == 11)
 (Q (.bool (n3 == n2)) h)
 (Q (.bool ((Int.tmod n4 2) == 1)) h)))
theorem ac15 {n1 : Int} {n2 : Int} {n3 : Int} {n4 : Int} {h : Heap} {Q : AV → Heap → Prop} (hk : vc15 n1 n2 n3 n4 h Q) : AC Try.prog 15 [.agg [.int .i64 n1, .int .i64 n2], .agg [.int .i64 n3, .int .i64 n4]] h Q :=
 AC_by (H := hintsOf [2, 3] []) (by kernel_rfl) (by kernel_rfl) hk

/-- fn.Family: what it asks. -/
def vc16 (n1 : Int) (n2 : Int) (h : Heap) (Q : AV → Heap → Prop) : Prop :=
 AC Try.prog 17 [.agg [.int .i64 n1, .int .i64 n2]] h fun v3 h4 => ∃ n5 : Int, v3 = .int .i64 n5 ∧
 vif (n5 != 0)
 (Q (.int .i64 0) h4)
 (AC Try.prog 32 [.int .i64 n1] h4 fun v6 h7 => ∃ n8 : Int, v6 = .int .i64 n8 ∧
 Q (.int .i64 n8) h7)
theorem ac16 {n1 : Int} {n2 : Int} {h : Heap} {Q : AV → Heap → Prop} (hk : vc16 n1 n2 h Q) : AC Try.prog 16 [.agg [.int .i64 n1, .int .i64 n2]] h Q :=
 AC_by (H := hintsOf [1] []) (by kernel_rfl) (by kernel_rfl) hk

/-- fn.Check: what it asks. -/
def vc17 (n1 : Int) (n2 : Int) (h : Heap) (Q : AV → Heap → Prop) : Prop :=
 AC Try.prog 33 [.int .i64 n1] h fun v3 h4 => ∃ n5 : Int, ∃ n6 : Int, v3 = .tup [.int .i64 n5, .int .i64 n6] ∧
 AC Try.prog 32 [.int .i64 n1] h4 fun v7 h8 => ∃ n9 : Int, v7 = .int .i64 n9 ∧
 vif (n9 == 0)
 (Q (.int .i64 160) h8)
 (vif (decide (n2 < n5))
 (Q (.int .i64 160) h8)
 (vif (decide (n2 > n6))
 (Q (.int .i64 160) h8)
 (Q (.int .i64 0) h8)))
theorem ac17 {n1 : Int} {n2 : Int} {h : Heap} {Q : AV → Heap → Prop} (hk : vc17 n1 n2 h Q) : AC Try.prog 17 [.agg [.int .i64 n1, .int .i64 n2]] h Q :=
 AC_by (H := hintsOf [1] []) (by kernel_rfl) (by kernel_rfl) hk

/-- fn.Spread: what it asks. -/
def vc18 (n1 : Int) (n2 : Int) (n3 : Int) (n4 : Int) (h : Heap) (Q : AV → Heap → Prop) : Prop :=
 PNew [.int .i64 n3, .int .i64 n4] true h fun a5 h6 =>
 AC Try.prog 28 [.agg [.int .i64 n1, .int .i64 n2], .int .i64 3, .sl (some ⟨a5, 0, 1, 1, 0⟩)] h6 fun v7 h8 => ∃ n9 : Int, v7 = .int .i64 n9 ∧
 vif (n9 != 0)
 (Q (.tup [.sl none, .int .i64 n9]) h8)
 (vif (n1 == 15)
 (AC Try.prog 30 [.agg [.int .i64 n3, .int .i64 n4]] h8 fun v10 h11 => ∃ n12 : Int, ∃ n13 : Int, v10 = .agg [.int .i64 n12, .int .i64 n13] ∧
 (LV.val (.agg [.int .i64 n3, .int .i64 n4]) = LV.val (.agg [.int .i64 n3, .int .i64 n4])) ∧
 PNew [.int .i64 n3, .int .i64 n4, .int .i64 n12, .int .i64 n13] true h11 fun a14 h15 =>
 Q (.tup [.sl (some ⟨a14, 0, 2, 2, 0⟩), .int .i64 0]) h15)
 (PNew [.int .i64 n3, .int .i64 n4] true h8 fun a16 h17 =>
 AC Try.prog 34 [.sl (some ⟨a16, 0, 1, 1, 0⟩), .int .i64 n2] h17 fun v18 h19 => ∃ q20 : Option SL, v18 = .sl q20 ∧
 vif (n1 == 14)
 (∃ (I22 : List AV → Heap → Prop) (m23 : List AV → Heap → Nat), I22 [.int .i64 0] h19 ∧
 ∀ n21 : Int, ∀ h24 : Heap, I22 [.int .i64 n21] h24 →
 vif (decide (n21 < (slLen q20 : Int)))
 (AC Try.prog 29 [.int .i64 (wrapK .i64 (n4 + n21))] h24 fun v25 h26 => ∃ n27 : Int, v25 = .int .i64 n27 ∧
 vIdx q20 n21 2 fun p28 =>
 PStore h26 ⟨p28.b, p28.o + 1⟩ [.int .i64 n27] fun h29 =>
 ((some [.int .i64 n3, .int .i64 n4] : Option (List AV)) = some [.int .i64 n3, .int .i64 n4] ∧ (some [.int .i64 n1, .int .i64 n2] : Option (List AV)) = some [.int .i64 n1, .int .i64 n2] ∧ True) ∧ I22 [.int .i64 (wrapK .i64 (n21 + 1))] h29 ∧ m23 [.int .i64 (wrapK .i64 (n21 + 1))] h29 < m23 [.int .i64 n21] h24)
 (Q (.tup [.sl q20, .int .i64 0]) h24))
 (Q (.tup [.sl q20, .int .i64 0]) h19)))
theorem ac18 {n1 : Int} {n2 : Int} {n3 : Int} {n4 : Int} {h : Heap} {Q : AV → Heap → Prop} (hk : vc18 n1 n2 n3 n4 h Q) : AC Try.prog 18 [.agg [.int .i64 n1, .int .i64 n2], .agg [.int .i64 n3, .int .i64 n4]] h Q :=
 AC_by (H := hintsOf [2, 3] [(0, [33], [])]) (by kernel_rfl) (by kernel_rfl) hk

/-- oxbowref03.Exact: what it asks. -/
def vc19 (q1 : Option SL) (q2 : Option SL) (h : Heap) (Q : AV → Heap → Prop) : Prop :=
 vif ((slLen q1 : Int) != (slLen q2 : Int))
 (Q (.bool false) h)
 (∃ (I4 : List AV → Heap → Prop) (m5 : List AV → Heap → Nat), I4 [.int .i64 0] h ∧
 ∀ n3 : Int, ∀ h6 : Heap, I4 [.int .i64 n3] h6 →
 vif (decide (n3 < (slLen q1 : Int)))
 (vIdx q1 n3 2 fun p7 =>
 ∃ n8 : Int, ∃ n9 : Int, cellsAt h6 p7 2 = some [.int .i64 n8, .int .i64 n9] ∧
 vIdx q2 n3 2 fun p10 =>
 ∃ n11 : Int, ∃ n12 : Int, cellsAt h6 p10 2 = some [.int .i64 n11, .int .i64 n12] ∧
 vif (!((n8 == n11) && ((n9 == n12) && true)))
 (Q (.bool false) h6)
 ((True) ∧ I4 [.int .i64 (wrapK .i64 (n3 + 1))] h6 ∧ m5 [.int .i64 (wrapK .i64 (n3 + 1))] h6 < m5 [.int .i64 n3] h6))
 (Q (.bool true) h6))
theorem ac19 {q1 : Option SL} {q2 : Option SL} {h : Heap} {Q : AV → Heap → Prop} (hk : vc19 q1 q2 h Q) : AC Try.prog 19 [.sl q1, .sl q2] h Q :=
 AC_by (H := hintsOf [] [(0, [5], [])]) (by kernel_rfl) (by kernel_rfl) hk

/-- oxbowref16.Spread: what it asks. -/
def vc20 (n1 : Int) (n2 : Int) (n3 : Int) (n4 : Int) (h : Heap) (Q : AV → Heap → Prop) : Prop :=
 vif (n1 == 15)
 (PNew [.int .i64 n3, .int .i64 n4, .int .i64 n4, .int .i64 n3] true h fun a5 h6 =>
 Q (.sl (some ⟨a5, 0, 2, 2, 0⟩)) h6)
 (∃ (I9 : List AV → Heap → Prop) (m10 : List AV → Heap → Nat), I9 [.sl none, .int .i64 0] h ∧
 ∀ q7 : Option SL, ∀ n8 : Int, ∀ h11 : Heap, I9 [.sl q7, .int .i64 n8] h11 →
 vif (decide (n8 < n2))
 (vif (n1 == 14)
 (AC Try.prog 31 [.int .i64 (wrapK .i64 (n4 + n8))] h11 fun v12 h13 => ∃ n14 : Int, v12 = .int .i64 n14 ∧
 PNew [.int .i64 n3, .int .i64 n14] true h13 fun a15 h16 =>
 PAppendS 2 16 q7 (some ⟨a15, 0, 1, 1, 0⟩) h16 fun q17 h18 =>
 ((some [.int .i64 n3, .int .i64 n4] : Option (List AV)) = some [.int .i64 n3, .int .i64 n4] ∧ (some [.int .i64 n1, .int .i64 n2] : Option (List AV)) = some [.int .i64 n1, .int .i64 n2] ∧ True) ∧ I9 [.sl q17, .int .i64 (wrapK .i64 (n8 + 1))] h18 ∧ m10 [.sl q17, .int .i64 (wrapK .i64 (n8 + 1))] h18 < m10 [.sl q7, .int .i64 n8] h11)
 (PNew [.int .i64 n3, .int .i64 n4] true h11 fun a19 h20 =>
 PAppendS 2 16 q7 (some ⟨a19, 0, 1, 1, 0⟩) h20 fun q21 h22 =>
 ((some [.int .i64 n3, .int .i64 n4] : Option (List AV)) = some [.int .i64 n3, .int .i64 n4] ∧ (some [.int .i64 n1, .int .i64 n2] : Option (List AV)) = some [.int .i64 n1, .int .i64 n2] ∧ True) ∧ I9 [.sl q21, .int .i64 (wrapK .i64 (n8 + 1))] h22 ∧ m10 [.sl q21, .int .i64 (wrapK .i64 (n8 + 1))] h22 < m10 [.sl q7, .int .i64 n8] h11))
 (Q (.sl q7) h11))
theorem ac20 {n1 : Int} {n2 : Int} {n3 : Int} {n4 : Int} {h : Heap} {Q : AV → Heap → Prop} (hk : vc20 n1 n2 n3 n4 h Q) : AC Try.prog 20 [.agg [.int .i64 n1, .int .i64 n2], .agg [.int .i64 n3, .int .i64 n4]] h Q :=
 AC_by (H := hintsOf [2, 3, 7] [(0, [5, 6], [])]) (by kernel_rfl) (by kernel_rfl) hk

/-- oxbowref03.May: what it asks. -/
def vc21 (q1 : Option SL) (h : Heap) (Q : AV → Heap → Prop) : Prop :=
 ∃ (I3 : List AV → Heap → Prop) (m4 : List AV → Heap → Nat), I3 [.int .i64 0] h ∧
 ∀ n2 : Int, ∀ h5 : Heap, I3 [.int .i64 n2] h5 →
 vif (decide (n2 < (slLen q1 : Int)))
 (vIdx q1 n2 2 fun p6 =>
 ∃ n7 : Int, ∃ n8 : Int, cellsAt h5 p6 2 = some [.int .i64 n7, .int .i64 n8] ∧
 AC Try.prog 12 [.agg [.int .i64 n7, .int .i64 n8]] h5 fun v9 h10 => ∃ b11 : Bool, v9 = .bool b11 ∧
 vif (!b11)
 (Q (.int .i64 30) h10)
 ((True) ∧ I3 [.int .i64 (wrapK .i64 (n2 + 1))] h10 ∧ m4 [.int .i64 (wrapK .i64 (n2 + 1))] h10 < m4 [.int .i64 n2] h5))
 (vif (decide ((slLen q1 : Int) > 4096))
 (Q (.int .i64 31) h5)
 (Q (.int .i64 0) h5))
theorem ac21 {q1 : Option SL} {h : Heap} {Q : AV → Heap → Prop} (hk : vc21 q1 h Q) : AC Try.prog 21 [.sl q1] h Q :=
 AC_by (H := hintsOf [] [(0, [3], [])]) (by kernel_rfl) (by kernel_rfl) hk

/-- fn.Fold: what it asks. -/
def vc22 (n1 : Int) (n2 : Int) (q3 : Option SL) (h : Heap) (Q : AV → Heap → Prop) : Prop :=
 PNew [.sl q3] true h fun a4 h5 =>
 ∃ q6 : Option SL, cellsAt h5 ⟨a4, 0⟩ 1 = some [.sl q6] ∧
 AC Try.prog 28 [.agg [.int .i64 n1, .int .i64 n2], .int .i64 4, .sl q6] h5 fun v7 h8 => ∃ n9 : Int, v7 = .int .i64 n9 ∧
 vif (n9 != 0)
 (Q (.tup [.agg [.int .i64 0, .int .i64 0], .int .i64 n9]) h8)
 (∃ q10 : Option SL, cellsAt h8 ⟨a4, 0⟩ 1 = some [.sl q10] ∧
 vif ((slLen q10 : Int) == 0)
 (Q (.tup [.agg [.int .i64 0, .int .i64 0], .int .i64 1]) h8)
 (∃ q11 : Option SL, cellsAt h8 ⟨a4, 0⟩ 1 = some [.sl q11] ∧
 AC Try.prog 35 [.sl q11, .func (.func 36) [] [.ptr (some ⟨a4, 0⟩)]] h8 fun v12 h13 => ∃ b14 : Bool, v12 = .bool b14 ∧
 vif b14
 (Q (.tup [.agg [.int .i64 0, .int .i64 0], .int .i64 1]) h13)
 (∃ q15 : Option SL, cellsAt h13 ⟨a4, 0⟩ 1 = some [.sl q15] ∧
 vIdx q15 0 2 fun p16 =>
 ∃ n17 : Int, ∃ n18 : Int, cellsAt h13 p16 2 = some [.int .i64 n17, .int .i64 n18] ∧
 ∃ q19 : Option SL, cellsAt h13 ⟨a4, 0⟩ 1 = some [.sl q19] ∧
 PSlice 2 q19 1 none none fun q20 =>
 ∃ (I24 : List AV → Heap → Prop) (m25 : List AV → Heap → Nat), I24 [.int .i64 0, .int .i64 n17, .int .i64 n18] h13 ∧
 ∀ n21 : Int, ∀ n22 : Int, ∀ n23 : Int, ∀ h26 : Heap, I24 [.int .i64 n21, .int .i64 n22, .int .i64 n23] h26 →
 vif (decide (n21 < (slLen q20 : Int)))
 (vIdx q20 n21 2 fun p27 =>
 ∃ n28 : Int, ∃ n29 : Int, cellsAt h26 p27 2 = some [.int .i64 n28, .int .i64 n29] ∧
 AC Try.prog 37 [.agg [.int .i64 n1, .int .i64 n2], .int .i64 n23, .int .i64 n29] h26 fun v30 h31 => ∃ n32 : Int, v30 = .int .i64 n32 ∧
 (True ∧ (some [.int .i64 0, .int .i64 0] : Option (List AV)) = some [.int .i64 0, .int .i64 0] ∧ (some [.int .i64 n1, .int .i64 n2] : Option (List AV)) = some [.int .i64 n1, .int .i64 n2] ∧ True) ∧ I24 [.int .i64 (wrapK .i64 (n21 + 1)), .int .i64 n22, .int .i64 n32] h31 ∧ m25 [.int .i64 (wrapK .i64 (n21 + 1)), .int .i64 n22, .int .i64 n32] h31 < m25 [.int .i64 n21, .int .i64 n22, .int .i64 n23] h26)
 (vif (n1 == 19)
 (∃ q33 : Option SL, cellsAt h26 ⟨a4, 0⟩ 1 = some [.sl q33] ∧
 AC Try.prog 29 [.int .i64 (slLen q33 : Int)] h26 fun v34 h35 => ∃ n36 : Int, v34 = .int .i64 n36 ∧
 Q (.tup [.agg [.int .i64 n22, .int .i64 n36], .int .i64 0]) h35)
 (Q (.tup [.agg [.int .i64 n22, .int .i64 n23], .int .i64 0]) h26)))))
theorem ac22 {n1 : Int} {n2 : Int} {q3 : Option SL} {h : Heap} {Q : AV → Heap → Prop} (hk : vc22 n1 n2 q3 h Q) : AC Try.prog 22 [.agg [.int .i64 n1, .int .i64 n2], .sl q3] h Q :=
 AC_by (H := hintsOf [2, 4, 7, 9] [(0, [32], [2])]) (by kernel_rfl) (by kernel_rfl) hk

/-- oxbowref03.Sort: what it asks. -/
def vc23 (q1 : Option SL) (h : Heap) (Q : AV → Heap → Prop) : Prop :=
 vif (decide ((slLen q1 : Int) < 2))
 (PNew [] true h fun a2 h3 =>
 PAppendS 2 16 (some ⟨a2, 0, 0, 0, 0⟩) q1 h3 fun q4 h5 =>
 Q (.sl q4) h5)
 (PSlice 2 q1 0 (some (wrapK .i64 (Int.tdiv (slLen q1 : Int) 2))) none fun q6 =>
 PSlice 2 q1 (wrapK .i64 (Int.tdiv (slLen q1 : Int) 2)) none none fun q7 =>
 AC Try.prog 23 [.sl q6] h fun v8 h9 => ∃ q10 : Option SL, v8 = .sl q10 ∧
 AC Try.prog 23 [.sl q7] h9 fun v11 h12 => ∃ q13 : Option SL, v11 = .sl q13 ∧
 ∃ (I17 : List AV → Heap → Prop) (m18 : List AV → Heap → Nat), I17 [.sl q10, .sl q13, .sl none] h12 ∧
 ∀ q14 : Option SL, ∀ q15 : Option SL, ∀ q16 : Option SL, ∀ h19 : Heap, I17 [.sl q14, .sl q15, .sl q16] h19 →
 vif (decide ((slLen q14 : Int) > 0))
 (vif ((slLen q15 : Int) == 0)
 (vIdx q14 0 2 fun p20 =>
 ∃ n21 : Int, ∃ n22 : Int, cellsAt h19 p20 2 = some [.int .i64 n21, .int .i64 n22] ∧
 PNew [.int .i64 n21, .int .i64 n22] true h19 fun a23 h24 =>
 PAppendS 2 16 q16 (some ⟨a23, 0, 1, 1, 0⟩) h24 fun q25 h26 =>
 PSlice 2 q14 1 none none fun q27 =>
 (True) ∧ I17 [.sl q27, .sl q15, .sl q25] h26 ∧ m18 [.sl q27, .sl q15, .sl q25] h26 < m18 [.sl q14, .sl q15, .sl q16] h19)
 (vif (decide ((slLen q14 : Int) > 0))
 (vIdx q14 0 2 fun p28 =>
 ∃ n29 : Int, ∃ n30 : Int, cellsAt h19 p28 2 = some [.int .i64 n29, .int .i64 n30] ∧
 vIdx q15 0 2 fun p31 =>
 ∃ n32 : Int, ∃ n33 : Int, cellsAt h19 p31 2 = some [.int .i64 n32, .int .i64 n33] ∧
 AC Try.prog 38 [.agg [.int .i64 n29, .int .i64 n30], .agg [.int .i64 n32, .int .i64 n33]] h19 fun v34 h35 => ∃ n36 : Int, v34 = .int .i64 n36 ∧
 vif (decide (n36 ≤ 0))
 (vIdx q14 0 2 fun p37 =>
 ∃ n38 : Int, ∃ n39 : Int, cellsAt h35 p37 2 = some [.int .i64 n38, .int .i64 n39] ∧
 PNew [.int .i64 n38, .int .i64 n39] true h35 fun a40 h41 =>
 PAppendS 2 16 q16 (some ⟨a40, 0, 1, 1, 0⟩) h41 fun q42 h43 =>
 PSlice 2 q14 1 none none fun q44 =>
 (True) ∧ I17 [.sl q44, .sl q15, .sl q42] h43 ∧ m18 [.sl q44, .sl q15, .sl q42] h43 < m18 [.sl q14, .sl q15, .sl q16] h19)
 (vIdx q15 0 2 fun p45 =>
 ∃ n46 : Int, ∃ n47 : Int, cellsAt h35 p45 2 = some [.int .i64 n46, .int .i64 n47] ∧
 PNew [.int .i64 n46, .int .i64 n47] true h35 fun a48 h49 =>
 PAppendS 2 16 q16 (some ⟨a48, 0, 1, 1, 0⟩) h49 fun q50 h51 =>
 PSlice 2 q15 1 none none fun q52 =>
 (True) ∧ I17 [.sl q14, .sl q52, .sl q50] h51 ∧ m18 [.sl q14, .sl q52, .sl q50] h51 < m18 [.sl q14, .sl q15, .sl q16] h19))
 (vIdx q15 0 2 fun p53 =>
 ∃ n54 : Int, ∃ n55 : Int, cellsAt h19 p53 2 = some [.int .i64 n54, .int .i64 n55] ∧
 PNew [.int .i64 n54, .int .i64 n55] true h19 fun a56 h57 =>
 PAppendS 2 16 q16 (some ⟨a56, 0, 1, 1, 0⟩) h57 fun q58 h59 =>
 PSlice 2 q15 1 none none fun q60 =>
 (True) ∧ I17 [.sl q14, .sl q60, .sl q58] h59 ∧ m18 [.sl q14, .sl q60, .sl q58] h59 < m18 [.sl q14, .sl q15, .sl q16] h19)))
 (vif (decide ((slLen q15 : Int) > 0))
 (vif ((slLen q15 : Int) == 0)
 (vIdx q14 0 2 fun p61 =>
 ∃ n62 : Int, ∃ n63 : Int, cellsAt h19 p61 2 = some [.int .i64 n62, .int .i64 n63] ∧
 PNew [.int .i64 n62, .int .i64 n63] true h19 fun a64 h65 =>
 PAppendS 2 16 q16 (some ⟨a64, 0, 1, 1, 0⟩) h65 fun q66 h67 =>
 PSlice 2 q14 1 none none fun q68 =>
 (True) ∧ I17 [.sl q68, .sl q15, .sl q66] h67 ∧ m18 [.sl q68, .sl q15, .sl q66] h67 < m18 [.sl q14, .sl q15, .sl q16] h19)
 (vif (decide ((slLen q14 : Int) > 0))
 (vIdx q14 0 2 fun p69 =>
 ∃ n70 : Int, ∃ n71 : Int, cellsAt h19 p69 2 = some [.int .i64 n70, .int .i64 n71] ∧
 vIdx q15 0 2 fun p72 =>
 ∃ n73 : Int, ∃ n74 : Int, cellsAt h19 p72 2 = some [.int .i64 n73, .int .i64 n74] ∧
 AC Try.prog 38 [.agg [.int .i64 n70, .int .i64 n71], .agg [.int .i64 n73, .int .i64 n74]] h19 fun v75 h76 => ∃ n77 : Int, v75 = .int .i64 n77 ∧
 vif (decide (n77 ≤ 0))
 (vIdx q14 0 2 fun p78 =>
 ∃ n79 : Int, ∃ n80 : Int, cellsAt h76 p78 2 = some [.int .i64 n79, .int .i64 n80] ∧
 PNew [.int .i64 n79, .int .i64 n80] true h76 fun a81 h82 =>
 PAppendS 2 16 q16 (some ⟨a81, 0, 1, 1, 0⟩) h82 fun q83 h84 =>
 PSlice 2 q14 1 none none fun q85 =>
 (True) ∧ I17 [.sl q85, .sl q15, .sl q83] h84 ∧ m18 [.sl q85, .sl q15, .sl q83] h84 < m18 [.sl q14, .sl q15, .sl q16] h19)
 (vIdx q15 0 2 fun p86 =>
 ∃ n87 : Int, ∃ n88 : Int, cellsAt h76 p86 2 = some [.int .i64 n87, .int .i64 n88] ∧
 PNew [.int .i64 n87, .int .i64 n88] true h76 fun a89 h90 =>
 PAppendS 2 16 q16 (some ⟨a89, 0, 1, 1, 0⟩) h90 fun q91 h92 =>
 PSlice 2 q15 1 none none fun q93 =>
 (True) ∧ I17 [.sl q14, .sl q93, .sl q91] h92 ∧ m18 [.sl q14, .sl q93, .sl q91] h92 < m18 [.sl q14, .sl q15, .sl q16] h19))
 (vIdx q15 0 2 fun p94 =>
 ∃ n95 : Int, ∃ n96 : Int, cellsAt h19 p94 2 = some [.int .i64 n95, .int .i64 n96] ∧
 PNew [.int .i64 n95, .int .i64 n96] true h19 fun a97 h98 =>
 PAppendS 2 16 q16 (some ⟨a97, 0, 1, 1, 0⟩) h98 fun q99 h100 =>
 PSlice 2 q15 1 none none fun q101 =>
 (True) ∧ I17 [.sl q14, .sl q101, .sl q99] h100 ∧ m18 [.sl q14, .sl q101, .sl q99] h100 < m18 [.sl q14, .sl q15, .sl q16] h19)))
 (Q (.sl q16) h19)))
theorem ac23 {q1 : Option SL} {h : Heap} {Q : AV → Heap → Prop} (hk : vc23 q1 h Q) : AC Try.prog 23 [.sl q1] h Q :=
 AC_by (H := hintsOf [] [(0, [3, 4, 5], [])]) (by kernel_rfl) (by kernel_rfl) hk

/-- oxbowlaw16.folds: what it asks. -/
def vc24 (n1 : Int) (n2 : Int) (q3 : Option SL) (h : Heap) (Q : AV → Heap → Prop) : Prop :=
 AC Try.prog 14 [.agg [.int .i64 n1, .int .i64 n2]] h fun v4 h5 => ∃ n6 : Int, v4 = .int .i64 n6 ∧
 vif (n6 != 4)
 (Q (.int .i64 160) h5)
 (∃ (I8 : List AV → Heap → Prop) (m9 : List AV → Heap → Nat), I8 [.int .i64 0] h5 ∧
 ∀ n7 : Int, ∀ h10 : Heap, I8 [.int .i64 n7] h10 →
 vif (decide (n7 < (slLen q3 : Int)))
 (vIdx q3 n7 2 fun p11 =>
 ∃ n12 : Int, ∃ n13 : Int, cellsAt h10 p11 2 = some [.int .i64 n12, .int .i64 n13] ∧
 AC Try.prog 12 [.agg [.int .i64 n12, .int .i64 n13]] h10 fun v14 h15 => ∃ b16 : Bool, v14 = .bool b16 ∧
 vif (!b16)
 (Q (.int .i64 30) h15)
 (((some [.int .i64 n1, .int .i64 n2] : Option (List AV)) = some [.int .i64 n1, .int .i64 n2] ∧ True) ∧ I8 [.int .i64 (wrapK .i64 (n7 + 1))] h15 ∧ m9 [.int .i64 (wrapK .i64 (n7 + 1))] h15 < m9 [.int .i64 n7] h10))
 (∃ (I18 : List AV → Heap → Prop) (m19 : List AV → Heap → Nat), I18 [.int .i64 0] h10 ∧
 ∀ n17 : Int, ∀ h20 : Heap, I18 [.int .i64 n17] h20 →
 vif (decide (n17 < (slLen q3 : Int)))
 (vIdx q3 n17 2 fun p21 =>
 ∃ n22 : Int, cellsAt h20 ⟨p21.b, p21.o + 0⟩ 1 = some [.int .i64 n22] ∧
 vIdx q3 0 2 fun p23 =>
 ∃ n24 : Int, cellsAt h20 ⟨p23.b, p23.o + 0⟩ 1 = some [.int .i64 n24] ∧
 vif (n22 != n24)
 (Q (.int .i64 1) h20)
 (((some [.int .i64 n1, .int .i64 n2] : Option (List AV)) = some [.int .i64 n1, .int .i64 n2] ∧ True) ∧ I18 [.int .i64 (wrapK .i64 (n17 + 1))] h20 ∧ m19 [.int .i64 (wrapK .i64 (n17 + 1))] h20 < m19 [.int .i64 n17] h20))
 (vif ((slLen q3 : Int) == 0)
 (Q (.int .i64 1) h20)
 (Q (.int .i64 0) h20))))
theorem ac24 {n1 : Int} {n2 : Int} {q3 : Option SL} {h : Heap} {Q : AV → Heap → Prop} (hk : vc24 n1 n2 q3 h Q) : AC Try.prog 24 [.agg [.int .i64 n1, .int .i64 n2], .sl q3] h Q :=
 AC_by (H := hintsOf [2] [(0, [5], []), (2, [6], [])]) (by kernel_rfl) (by kernel_rfl) hk

/-- oxbowref16.Fold: what it asks. -/
def vc25 (n1 : Int) (n2 : Int) (q3 : Option SL) (h : Heap) (Q : AV → Heap → Prop) : Prop :=
 vIdx q3 0 2 fun p4 =>
 ∃ n5 : Int, cellsAt h ⟨p4.b, p4.o + 0⟩ 1 = some [.int .i64 n5] ∧
 vIdx q3 0 2 fun p6 =>
 ∃ n7 : Int, cellsAt h ⟨p6.b, p6.o + 1⟩ 1 = some [.int .i64 n7] ∧
 (∃ n23 : Int, cellsAt h ⟨p6.b, p6.o + 1⟩ 1 = some [.int .i64 n23] ∧
 LV.val (.int .i64 n23) = LV.val (.int .i64 n7)) ∧
 (∃ n22 : Int, cellsAt h ⟨p4.b, p4.o + 0⟩ 1 = some [.int .i64 n22] ∧
 LV.val (.int .i64 n22) = LV.val (.int .i64 n5)) ∧
 vif (n1 == 19)
 (AC Try.prog 31 [.int .i64 (slLen q3 : Int)] h fun v8 h9 => ∃ n10 : Int, v8 = .int .i64 n10 ∧
 Q (.agg [.int .i64 n5, .int .i64 n10]) h9)
 (∃ (I14 : List AV → Heap → Prop) (m15 : List AV → Heap → Nat), I14 [.int .i64 1, .int .i64 n5, .int .i64 n7] h ∧
 ∀ n11 : Int, ∀ n12 : Int, ∀ n13 : Int, ∀ h16 : Heap, I14 [.int .i64 n11, .int .i64 n12, .int .i64 n13] h16 →
 vif (decide (n11 < (slLen q3 : Int)))
 (vIdx q3 n11 2 fun p17 =>
 ∃ n18 : Int, cellsAt h16 ⟨p17.b, p17.o + 1⟩ 1 = some [.int .i64 n18] ∧
 vif (n1 == 16)
 (AC Try.prog 31 [.int .i64 (wrapK .i64 (n13 + n18))] h16 fun v19 h20 => ∃ n21 : Int, v19 = .int .i64 n21 ∧
 (True ∧ (some [.int .i64 0, .int .i64 0] : Option (List AV)) = some [.int .i64 0, .int .i64 0] ∧ (some [.int .i64 n1, .int .i64 n2] : Option (List AV)) = some [.int .i64 n1, .int .i64 n2] ∧ True) ∧ I14 [.int .i64 (wrapK .i64 (n11 + 1)), .int .i64 n12, .int .i64 n21] h20 ∧ m15 [.int .i64 (wrapK .i64 (n11 + 1)), .int .i64 n12, .int .i64 n21] h20 < m15 [.int .i64 n11, .int .i64 n12, .int .i64 n13] h16)
 (vif (n1 == 17)
 (vif (decide (n18 < n13))
 ((True ∧ (some [.int .i64 0, .int .i64 0] : Option (List AV)) = some [.int .i64 0, .int .i64 0] ∧ (some [.int .i64 n1, .int .i64 n2] : Option (List AV)) = some [.int .i64 n1, .int .i64 n2] ∧ True) ∧ I14 [.int .i64 (wrapK .i64 (n11 + 1)), .int .i64 n12, .int .i64 n18] h16 ∧ m15 [.int .i64 (wrapK .i64 (n11 + 1)), .int .i64 n12, .int .i64 n18] h16 < m15 [.int .i64 n11, .int .i64 n12, .int .i64 n13] h16)
 (vif (n1 == 18)
 (vif (decide (n18 > n13))
 ((True ∧ (some [.int .i64 0, .int .i64 0] : Option (List AV)) = some [.int .i64 0, .int .i64 0] ∧ (some [.int .i64 n1, .int .i64 n2] : Option (List AV)) = some [.int .i64 n1, .int .i64 n2] ∧ True) ∧ I14 [.int .i64 (wrapK .i64 (n11 + 1)), .int .i64 n12, .int .i64 n18] h16 ∧ m15 [.int .i64 (wrapK .i64 (n11 + 1)), .int .i64 n12, .int .i64 n18] h16 < m15 [.int .i64 n11, .int .i64 n12, .int .i64 n13] h16)
 ((True ∧ (some [.int .i64 0, .int .i64 0] : Option (List AV)) = some [.int .i64 0, .int .i64 0] ∧ (some [.int .i64 n1, .int .i64 n2] : Option (List AV)) = some [.int .i64 n1, .int .i64 n2] ∧ True) ∧ I14 [.int .i64 (wrapK .i64 (n11 + 1)), .int .i64 n12, .int .i64 n13] h16 ∧ m15 [.int .i64 (wrapK .i64 (n11 + 1)), .int .i64 n12, .int .i64 n13] h16 < m15 [.int .i64 n11, .int .i64 n12, .int .i64 n13] h16))
 ((True ∧ (some [.int .i64 0, .int .i64 0] : Option (List AV)) = some [.int .i64 0, .int .i64 0] ∧ (some [.int .i64 n1, .int .i64 n2] : Option (List AV)) = some [.int .i64 n1, .int .i64 n2] ∧ True) ∧ I14 [.int .i64 (wrapK .i64 (n11 + 1)), .int .i64 n12, .int .i64 n13] h16 ∧ m15 [.int .i64 (wrapK .i64 (n11 + 1)), .int .i64 n12, .int .i64 n13] h16 < m15 [.int .i64 n11, .int .i64 n12, .int .i64 n13] h16)))
 (vif (n1 == 18)
 (vif (decide (n18 > n13))
 ((True ∧ (some [.int .i64 0, .int .i64 0] : Option (List AV)) = some [.int .i64 0, .int .i64 0] ∧ (some [.int .i64 n1, .int .i64 n2] : Option (List AV)) = some [.int .i64 n1, .int .i64 n2] ∧ True) ∧ I14 [.int .i64 (wrapK .i64 (n11 + 1)), .int .i64 n12, .int .i64 n18] h16 ∧ m15 [.int .i64 (wrapK .i64 (n11 + 1)), .int .i64 n12, .int .i64 n18] h16 < m15 [.int .i64 n11, .int .i64 n12, .int .i64 n13] h16)
 ((True ∧ (some [.int .i64 0, .int .i64 0] : Option (List AV)) = some [.int .i64 0, .int .i64 0] ∧ (some [.int .i64 n1, .int .i64 n2] : Option (List AV)) = some [.int .i64 n1, .int .i64 n2] ∧ True) ∧ I14 [.int .i64 (wrapK .i64 (n11 + 1)), .int .i64 n12, .int .i64 n13] h16 ∧ m15 [.int .i64 (wrapK .i64 (n11 + 1)), .int .i64 n12, .int .i64 n13] h16 < m15 [.int .i64 n11, .int .i64 n12, .int .i64 n13] h16))
 ((True ∧ (some [.int .i64 0, .int .i64 0] : Option (List AV)) = some [.int .i64 0, .int .i64 0] ∧ (some [.int .i64 n1, .int .i64 n2] : Option (List AV)) = some [.int .i64 n1, .int .i64 n2] ∧ True) ∧ I14 [.int .i64 (wrapK .i64 (n11 + 1)), .int .i64 n12, .int .i64 n13] h16 ∧ m15 [.int .i64 (wrapK .i64 (n11 + 1)), .int .i64 n12, .int .i64 n13] h16 < m15 [.int .i64 n11, .int .i64 n12, .int .i64 n13] h16))))
 (Q (.agg [.int .i64 n12, .int .i64 n13]) h16))
theorem ac25 {n1 : Int} {n2 : Int} {q3 : Option SL} {h : Heap} {Q : AV → Heap → Prop} (hk : vc25 n1 n2 q3 h Q) : AC Try.prog 25 [.agg [.int .i64 n1, .int .i64 n2], .sl q3] h Q :=
 AC_by (H := hintsOf [2, 4, 5] [(0, [6], [2])]) (by kernel_rfl) (by kernel_rfl) hk

/-- fn.Pair: what it asks. -/
def vc26 (n1 : Int) (n2 : Int) (n3 : Int) (n4 : Int) (n5 : Int) (n6 : Int) (h : Heap) (Q : AV → Heap → Prop) : Prop :=
 PNew [.int .i64 n3, .int .i64 n4, .int .i64 n5, .int .i64 n6] true h fun a7 h8 =>
 AC Try.prog 28 [.agg [.int .i64 n1, .int .i64 n2], .int .i64 5, .sl (some ⟨a7, 0, 2, 2, 0⟩)] h8 fun v9 h10 => ∃ n11 : Int, v9 = .int .i64 n11 ∧
 vif (n11 != 0)
 (Q (.tup [.agg [.int .i64 0, .int .i64 0], .int .i64 n11]) h10)
 (vif (n3 != n5)
 (Q (.tup [.agg [.int .i64 0, .int .i64 0], .int .i64 1]) h10)
 (vif (n1 == 20)
 (Q (.tup [.agg [.int .i64 n3, .int .i64 n4], .int .i64 0]) h10)
 (vif (n1 == 21)
 (Q (.tup [.agg [.int .i64 n5, .int .i64 n6], .int .i64 0]) h10)
 (vif (n1 == 22)
 (AC Try.prog 29 [.int .i64 (wrapK .i64 (n4 + n6))] h10 fun v12 h13 => ∃ n14 : Int, v12 = .int .i64 n14 ∧
 (LV.val (.int .i64 n3) = LV.val (.int .i64 n3)) ∧
 Q (.tup [.agg [.int .i64 n3, .int .i64 n14], .int .i64 0]) h13)
 (Q (.tup [.agg [.int .i64 n4, .int .i64 n6], .int .i64 0]) h10)))))
theorem ac26 {n1 : Int} {n2 : Int} {n3 : Int} {n4 : Int} {n5 : Int} {n6 : Int} {h : Heap} {Q : AV → Heap → Prop} (hk : vc26 n1 n2 n3 n4 n5 n6 h Q) : AC Try.prog 26 [.agg [.int .i64 n1, .int .i64 n2], .agg [.int .i64 n3, .int .i64 n4], .agg [.int .i64 n5, .int .i64 n6]] h Q :=
 AC_by (H := hintsOf [3, 4, 5, 6] []) (by kernel_rfl) (by kernel_rfl) hk

/-- oxbowref16.Pair: what it asks. -/
def vc27 (n1 : Int) (n2 : Int) (n3 : Int) (n4 : Int) (n5 : Int) (n6 : Int) (h : Heap) (Q : AV → Heap → Prop) : Prop :=
 vif (n1 == 20)
 (Q (.agg [.int .i64 n3, .int .i64 n4]) h)
 (vif (n1 == 21)
 (Q (.agg [.int .i64 n5, .int .i64 n6]) h)
 (vif (n1 == 22)
 (AC Try.prog 31 [.int .i64 (wrapK .i64 (n4 + n6))] h fun v7 h8 => ∃ n9 : Int, v7 = .int .i64 n9 ∧
 (LV.val (.int .i64 n3) = LV.val (.int .i64 n3)) ∧
 Q (.agg [.int .i64 n3, .int .i64 n9]) h8)
 (Q (.agg [.int .i64 n4, .int .i64 n6]) h)))
theorem ac27 {n1 : Int} {n2 : Int} {n3 : Int} {n4 : Int} {n5 : Int} {n6 : Int} {h : Heap} {Q : AV → Heap → Prop} (hk : vc27 n1 n2 n3 n4 n5 n6 h Q) : AC Try.prog 27 [.agg [.int .i64 n1, .int .i64 n2], .agg [.int .i64 n3, .int .i64 n4], .agg [.int .i64 n5, .int .i64 n6]] h Q :=
 AC_by (H := hintsOf [3, 4, 5, 6] []) (by kernel_rfl) (by kernel_rfl) hk

/-- fn.may: what it asks. -/
def vc28 (n1 : Int) (n2 : Int) (n3 : Int) (q4 : Option SL) (h : Heap) (Q : AV → Heap → Prop) : Prop :=
 AC Try.prog 16 [.agg [.int .i64 n1, .int .i64 n2]] h fun v5 h6 => ∃ n7 : Int, v5 = .int .i64 n7 ∧
 vif (n7 != n3)
 (Q (.int .i64 160) h6)
 (∃ (I9 : List AV → Heap → Prop) (m10 : List AV → Heap → Nat), I9 [.int .i64 0] h6 ∧
 ∀ n8 : Int, ∀ h11 : Heap, I9 [.int .i64 n8] h11 →
 vif (decide (n8 < (slLen q4 : Int)))
 (vIdx q4 n8 2 fun p12 =>
 ∃ n13 : Int, ∃ n14 : Int, cellsAt h11 p12 2 = some [.int .i64 n13, .int .i64 n14] ∧
 AC Try.prog 39 [.agg [.int .i64 n13, .int .i64 n14]] h11 fun v15 h16 => ∃ n17 : Int, v15 = .int .i64 n17 ∧
 vif (n17 != 0)
 (Q (.int .i64 n17) h16)
 (((some [.int .i64 n1, .int .i64 n2] : Option (List AV)) = some [.int .i64 n1, .int .i64 n2] ∧ True) ∧ I9 [.int .i64 (wrapK .i64 (n8 + 1))] h16 ∧ m10 [.int .i64 (wrapK .i64 (n8 + 1))] h16 < m10 [.int .i64 n8] h11))
 (Q (.int .i64 0) h11))
theorem ac28 {n1 : Int} {n2 : Int} {n3 : Int} {q4 : Option SL} {h : Heap} {Q : AV → Heap → Prop} (hk : vc28 n1 n2 n3 q4 h Q) : AC Try.prog 28 [.agg [.int .i64 n1, .int .i64 n2], .int .i64 n3, .sl q4] h Q :=
 AC_by (H := hintsOf [3, 8] [(0, [16], [])]) (by kernel_rfl) (by kernel_rfl) hk

/-- fn.wrap: what it asks. -/
def vc29 (n1 : Int) (h : Heap) (Q : AV → Heap → Prop) : Prop :=
 Q (.int .i64 (bitsAnd .i64 n1 1048575)) h
theorem ac29 {n1 : Int} {h : Heap} {Q : AV → Heap → Prop} (hk : vc29 n1 h Q) : AC Try.prog 29 [.int .i64 n1] h Q :=
 AC_by (H := hintsOf [] []) (by kernel_rfl) (by kernel_rfl) hk

/-- fn.swap: what it asks. -/
def vc30 (n1 : Int) (n2 : Int) (h : Heap) (Q : AV → Heap → Prop) : Prop :=
 Q (.agg [.int .i64 n2, .int .i64 n1]) h
theorem ac30 {n1 : Int} {n2 : Int} {h : Heap} {Q : AV → Heap → Prop} (hk : vc30 n1 n2 h Q) : AC Try.prog 30 [.agg [.int .i64 n1, .int .i64 n2]] h Q :=
 AC_by (H := hintsOf [1, 2] []) (by kernel_rfl) (by kernel_rfl) hk

/-- oxbowref16.mod: what it asks. -/
def vc31 (n1 : Int) (h : Heap) (Q : AV → Heap → Prop) : Prop :=
 Q (.int .i64 (Int.tmod n1 1048576)) h
theorem ac31 {n1 : Int} {h : Heap} {Q : AV → Heap → Prop} (hk : vc31 n1 h Q) : AC Try.prog 31 [.int .i64 n1] h Q :=
 AC_by (H := hintsOf [] []) (by kernel_rfl) (by kernel_rfl) hk

/-- fn.family: what it asks. -/
def vc32 (n1 : Int) (h : Heap) (Q : AV → Heap → Prop) : Prop :=
 vif (decide (n1 < 1))
 (Q (.int .i64 0) h)
 (vif (decide (n1 ≤ 8))
 (Q (.int .i64 1) h)
 (vif (decide (n1 ≤ 12))
 (Q (.int .i64 2) h)
 (vif (decide (n1 ≤ 15))
 (Q (.int .i64 3) h)
 (vif (decide (n1 ≤ 19))
 (Q (.int .i64 4) h)
 (vif (decide (n1 ≤ 23))
 (Q (.int .i64 5) h)
 (Q (.int .i64 0) h))))))
theorem ac32 {n1 : Int} {h : Heap} {Q : AV → Heap → Prop} (hk : vc32 n1 h Q) : AC Try.prog 32 [.int .i64 n1] h Q :=
 AC_by (H := hintsOf [] []) (by kernel_rfl) (by kernel_rfl) hk

/-- fn.bounds: what it asks. -/
def vc33 (n1 : Int) (h : Heap) (Q : AV → Heap → Prop) : Prop :=
 vif (n1 == 4)
 (Q (.tup [.int .i64 1, .int .i64 1048575]) h)
 (vif (n1 == 5)
 (Q (.tup [.int .i64 1, .int .i64 1048575]) h)
 (vif (n1 == 6)
 (Q (.tup [.int .i64 1, .int .i64 1048575]) h)
 (vif (n1 == 1)
 (Q (.tup [.int .i64 0, .int .i64 1048575]) h)
 (vif (n1 == 2)
 (Q (.tup [.int .i64 0, .int .i64 1048575]) h)
 (vif (n1 == 7)
 (Q (.tup [.int .i64 0, .int .i64 1048575]) h)
 (vif (n1 == 8)
 (Q (.tup [.int .i64 0, .int .i64 1048575]) h)
 (vif (n1 == 9)
 (Q (.tup [.int .i64 0, .int .i64 1048575]) h)
 (vif (n1 == 10)
 (Q (.tup [.int .i64 0, .int .i64 1048575]) h)
 (vif (n1 == 11)
 (Q (.tup [.int .i64 0, .int .i64 1048575]) h)
 (vif (n1 == 13)
 (Q (.tup [.int .i64 0, .int .i64 8]) h)
 (vif (n1 == 14)
 (Q (.tup [.int .i64 0, .int .i64 8]) h)
 (Q (.tup [.int .i64 0, .int .i64 0]) h))))))))))))
theorem ac33 {n1 : Int} {h : Heap} {Q : AV → Heap → Prop} (hk : vc33 n1 h Q) : AC Try.prog 33 [.int .i64 n1] h Q :=
 AC_by (H := hintsOf [] []) (by kernel_rfl) (by kernel_rfl) hk

/-- api.Rec]: what it asks. -/
def vc34 (q1 : Option SL) (n2 : Int) (h : Heap) (Q : AV → Heap → Prop) : Prop :=
 vif (decide (n2 < 0))
 (False)
 (AC Try.prog 40 [.int .u64 (wrapK .u64 (slLen q1 : Int)), .int .u64 (wrapK .u64 n2)] h fun v3 h4 => ∃ n5 : Int, ∃ n6 : Int, v3 = .tup [.int .u64 n5, .int .u64 n6] ∧
 vif (decide (n5 > 0))
 (False)
 (vif (decide (n6 > 9223372036854775807))
 (False)
 (PMake [.int .i64 0, .int .i64 0] 16 (wrapK .i64 n6) (wrapK .i64 n6) h4 fun q7 h8 =>
 PCopyS 2 q7 q1 h8 fun n9 h10 =>
 ∃ (I12 : List AV → Heap → Prop) (m13 : List AV → Heap → Nat), I12 [.int .i64 n9] h10 ∧
 ∀ n11 : Int, ∀ h14 : Heap, I12 [.int .i64 n11] h14 →
 vif (decide (n11 < (slLen q7 : Int)))
 (PSlice 2 q7 n11 none none fun q15 =>
 PSlice 2 q7 0 (some n11) none fun q16 =>
 PCopyS 2 q15 q16 h14 fun n17 h18 =>
 (True) ∧ I12 [.int .i64 (wrapK .i64 (n11 + n17))] h18 ∧ m13 [.int .i64 (wrapK .i64 (n11 + n17))] h18 < m13 [.int .i64 n11] h14)
 (Q (.sl q7) h14))))
theorem ac34 {q1 : Option SL} {n2 : Int} {h : Heap} {Q : AV → Heap → Prop} (hk : vc34 q1 n2 h Q) : AC Try.prog 34 [.sl q1, .int .i64 n2] h Q :=
 AC_by (H := hintsOf [] [(0, [8], [])]) (by kernel_rfl) (by kernel_rfl) hk

/-- api.Rec]: what it asks. -/
def vc35 (q1 : Option SL) (p2 : PA) (h : Heap) (Q : AV → Heap → Prop) : Prop :=
 AC Try.prog 41 [.sl q1, .func (.func 36) [] [.ptr (some p2)]] h fun v3 h4 => ∃ n5 : Int, v3 = .int .i64 n5 ∧
 Q (.bool (decide (n5 ≥ 0))) h4
theorem ac35 {q1 : Option SL} {p2 : PA} {h : Heap} {Q : AV → Heap → Prop} (hk : vc35 q1 p2 h Q) : AC Try.prog 35 [.sl q1, .func (.func 36) [] [.ptr (some p2)]] h Q :=
 AC_by (H := hintsOf [] []) (by kernel_rfl) (by kernel_rfl) hk

/-- fn.Fold$1: what it asks. -/
def vc36 (n1 : Int) (n2 : Int) (p3 : PA) (h : Heap) (Q : AV → Heap → Prop) : Prop :=
 ∃ q4 : Option SL, cellsAt h p3 1 = some [.sl q4] ∧
 vIdx q4 0 2 fun p5 =>
 ∃ n6 : Int, cellsAt h ⟨p5.b, p5.o + 0⟩ 1 = some [.int .i64 n6] ∧
 Q (.bool (n1 != n6)) h
theorem ac36 {n1 : Int} {n2 : Int} {p3 : PA} {h : Heap} {Q : AV → Heap → Prop} (hk : vc36 n1 n2 p3 h Q) : AC Try.prog 36 [.agg [.int .i64 n1, .int .i64 n2], .ptr (some p3)] h Q :=
 AC_by (H := hintsOf [2] []) (by kernel_rfl) (by kernel_rfl) hk

/-- fn.fold: what it asks. -/
def vc37 (n1 : Int) (n2 : Int) (n3 : Int) (n4 : Int) (h : Heap) (Q : AV → Heap → Prop) : Prop :=
 vif (n1 == 17)
 (Q (.int .i64 (minI n3 n4)) h)
 (vif (n1 == 18)
 (Q (.int .i64 (maxI2 n3 n4)) h)
 (AC Try.prog 29 [.int .i64 (wrapK .i64 (n3 + n4))] h fun v5 h6 => ∃ n7 : Int, v5 = .int .i64 n7 ∧
 Q (.int .i64 n7) h6))
theorem ac37 {n1 : Int} {n2 : Int} {n3 : Int} {n4 : Int} {h : Heap} {Q : AV → Heap → Prop} (hk : vc37 n1 n2 n3 n4 h Q) : AC Try.prog 37 [.agg [.int .i64 n1, .int .i64 n2], .int .i64 n3, .int .i64 n4] h Q :=
 AC_by (H := hintsOf [3] []) (by kernel_rfl) (by kernel_rfl) hk

/-- oxbowref03.Compare: what it asks. -/
def vc38 (n1 : Int) (n2 : Int) (n3 : Int) (n4 : Int) (h : Heap) (Q : AV → Heap → Prop) : Prop :=
 vif (decide (n1 < n3))
 (Q (.int .i64 (-1)) h)
 (vif (n1 == n3)
 (vif (decide (n2 < n4))
 (Q (.int .i64 (-1)) h)
 (vif ((n1 == n3) && ((n2 == n4) && true))
 (Q (.int .i64 0) h)
 (Q (.int .i64 1) h)))
 (vif ((n1 == n3) && ((n2 == n4) && true))
 (Q (.int .i64 0) h)
 (Q (.int .i64 1) h)))
theorem ac38 {n1 : Int} {n2 : Int} {n3 : Int} {n4 : Int} {h : Heap} {Q : AV → Heap → Prop} (hk : vc38 n1 n2 n3 n4 h Q) : AC Try.prog 38 [.agg [.int .i64 n1, .int .i64 n2], .agg [.int .i64 n3, .int .i64 n4]] h Q :=
 AC_by (H := hintsOf [2, 3] []) (by kernel_rfl) (by kernel_rfl) hk

/-- rec.Check: what it asks. -/
def vc39 (n1 : Int) (n2 : Int) (h : Heap) (Q : AV → Heap → Prop) : Prop :=
 AC Try.prog 42 [.int .i64 n1] h fun v3 h4 => ∃ b5 : Bool, v3 = .bool b5 ∧
 vif (!b5)
 (Q (.int .i64 30) h4)
 (AC Try.prog 42 [.int .i64 n2] h4 fun v6 h7 => ∃ b8 : Bool, v6 = .bool b8 ∧
 vif (!b8)
 (Q (.int .i64 30) h7)
 (Q (.int .i64 0) h7))
theorem ac39 {n1 : Int} {n2 : Int} {h : Heap} {Q : AV → Heap → Prop} (hk : vc39 n1 n2 h Q) : AC Try.prog 39 [.agg [.int .i64 n1, .int .i64 n2]] h Q :=
 AC_by (H := hintsOf [1] []) (by kernel_rfl) (by kernel_rfl) hk

/-- bits.Mul: what it asks. -/
def vc40 (n1 : Int) (n2 : Int) (h : Heap) (Q : AV → Heap → Prop) : Prop :=
 AC Try.prog 44 [.int .u64 n1, .int .u64 n2] h fun v3 h4 => ∃ n5 : Int, ∃ n6 : Int, v3 = .tup [.int .u64 n5, .int .u64 n6] ∧
 Q (.tup [.int .u64 n5, .int .u64 n6]) h4
theorem ac40 {n1 : Int} {n2 : Int} {h : Heap} {Q : AV → Heap → Prop} (hk : vc40 n1 n2 h Q) : AC Try.prog 40 [.int .u64 n1, .int .u64 n2] h Q :=
 AC_by (H := hintsOf [] []) (by kernel_rfl) (by kernel_rfl) hk

/-- api.Rec]: what it asks. -/
def vc41 (q1 : Option SL) (p2 : PA) (h : Heap) (Q : AV → Heap → Prop) : Prop :=
 ∃ (I4 : List AV → Heap → Prop) (m5 : List AV → Heap → Nat), I4 [.int .i64 0] h ∧
 ∀ n3 : Int, ∀ h6 : Heap, I4 [.int .i64 n3] h6 →
 vif (decide (n3 < (slLen q1 : Int)))
 (vIdx q1 n3 2 fun p7 =>
 ∃ n8 : Int, ∃ n9 : Int, cellsAt h6 p7 2 = some [.int .i64 n8, .int .i64 n9] ∧
 AC Try.prog 36 [.agg [.int .i64 n8, .int .i64 n9], .ptr (some p2)] h6 fun v10 h11 => ∃ b12 : Bool, v10 = .bool b12 ∧
 vif b12
 (Q (.int .i64 n3) h11)
 ((True) ∧ I4 [.int .i64 (wrapK .i64 (n3 + 1))] h11 ∧ m5 [.int .i64 (wrapK .i64 (n3 + 1))] h11 < m5 [.int .i64 n3] h6))
 (Q (.int .i64 (-1)) h6)
theorem ac41 {q1 : Option SL} {p2 : PA} {h : Heap} {Q : AV → Heap → Prop} (hk : vc41 q1 p2 h Q) : AC Try.prog 41 [.sl q1, .func (.func 36) [] [.ptr (some p2)]] h Q :=
 AC_by (H := hintsOf [] [(0, [8], [])]) (by kernel_rfl) (by kernel_rfl) hk

/-- rec.within: what it asks. -/
def vc42 (n1 : Int) (h : Heap) (Q : AV → Heap → Prop) : Prop :=
 vif (decide (n1 ≥ 0))
 (Q (.bool (decide (n1 ≤ 1048575))) h)
 (Q (.bool false) h)
theorem ac42 {n1 : Int} {h : Heap} {Q : AV → Heap → Prop} (hk : vc42 n1 h Q) : AC Try.prog 42 [.int .i64 n1] h Q :=
 AC_by (H := hintsOf [] []) (by kernel_rfl) (by kernel_rfl) hk

/-- bits.Mul32: what it asks. -/
def vc43 (n1 : Int) (n2 : Int) (h : Heap) (Q : AV → Heap → Prop) : Prop :=
 Q (.tup [.int .u32 (wrapK .u32 (shrK .u64 (wrapK .u64 ((wrapK .u64 n1) * (wrapK .u64 n2))) 32)), .int .u32 (wrapK .u32 (wrapK .u64 ((wrapK .u64 n1) * (wrapK .u64 n2))))]) h
theorem ac43 {n1 : Int} {n2 : Int} {h : Heap} {Q : AV → Heap → Prop} (hk : vc43 n1 n2 h Q) : AC Try.prog 43 [.int .u32 n1, .int .u32 n2] h Q :=
 AC_by (H := hintsOf [] []) (by kernel_rfl) (by kernel_rfl) hk

/-- bits.Mul64: what it asks. -/
def vc44 (n1 : Int) (n2 : Int) (h : Heap) (Q : AV → Heap → Prop) : Prop :=
 Q (.tup [.int .u64 (wrapK .u64 ((wrapK .u64 ((wrapK .u64 ((shrK .u64 n1 32) * (shrK .u64 n2 32))) + (shrK .u64 (wrapK .u64 ((wrapK .u64 ((shrK .u64 n1 32) * (bitsAnd .u64 n2 4294967295))) + (shrK .u64 (wrapK .u64 ((bitsAnd .u64 n1 4294967295) * (bitsAnd .u64 n2 4294967295))) 32))) 32))) + (shrK .u64 (wrapK .u64 ((bitsAnd .u64 (wrapK .u64 ((wrapK .u64 ((shrK .u64 n1 32) * (bitsAnd .u64 n2 4294967295))) + (shrK .u64 (wrapK .u64 ((bitsAnd .u64 n1 4294967295) * (bitsAnd .u64 n2 4294967295))) 32))) 4294967295) + (wrapK .u64 ((bitsAnd .u64 n1 4294967295) * (shrK .u64 n2 32))))) 32))), .int .u64 (wrapK .u64 (n1 * n2))]) h
theorem ac44 {n1 : Int} {n2 : Int} {h : Heap} {Q : AV → Heap → Prop} (hk : vc44 n1 n2 h Q) : AC Try.prog 44 [.int .u64 n1, .int .u64 n2] h Q :=
 AC_by (H := hintsOf [] []) (by kernel_rfl) (by kernel_rfl) hk

/-- oxbowlaw16.lives: what it asks. -/
def vc9  (h : Heap) (Q : AV → Heap → Prop) : Prop :=
 AC Try.prog 8 [.agg [.int .i64 3, .int .i64 0], .agg [.int .i64 3, .int .i64 4]] h fun v1 h2 => ∃ n3 : Int, ∃ n4 : Int, ∃ n5 : Int, v1 = .tup [.agg [.int .i64 n3, .int .i64 n4], .int .i64 n5] ∧
 AC Try.prog 13 [.agg [.int .i64 10, .int .i64 3], .agg [.int .i64 3, .int .i64 4]] h2 fun v6 h7 => ∃ b8 : Bool, ∃ n9 : Int, v6 = .tup [.bool b8, .int .i64 n9] ∧
 AC Try.prog 18 [.agg [.int .i64 14, .int .i64 2], .agg [.int .i64 3, .int .i64 4]] h7 fun v10 h11 => ∃ q12 : Option SL, ∃ n13 : Int, v10 = .tup [.sl q12, .int .i64 n13] ∧
 PNew [.int .i64 3, .int .i64 4, .int .i64 3, .int .i64 5] true h11 fun a14 h15 =>
 AC Try.prog 22 [.agg [.int .i64 16, .int .i64 0], .sl (some ⟨a14, 0, 2, 2, 0⟩)] h15 fun v16 h17 => ∃ n18 : Int, ∃ n19 : Int, ∃ n20 : Int, v16 = .tup [.agg [.int .i64 n18, .int .i64 n19], .int .i64 n20] ∧
 AC Try.prog 26 [.agg [.int .i64 23, .int .i64 0], .agg [.int .i64 3, .int .i64 4], .agg [.int .i64 3, .int .i64 9]] h17 fun v21 h22 => ∃ n23 : Int, ∃ n24 : Int, ∃ n25 : Int, v21 = .tup [.agg [.int .i64 n23, .int .i64 n24], .int .i64 n25] ∧
 AC Try.prog 8 [.agg [.int .i64 16, .int .i64 0], .agg [.int .i64 3, .int .i64 4]] h22 fun v26 h27 => ∃ n28 : Int, ∃ n29 : Int, ∃ n30 : Int, v26 = .tup [.agg [.int .i64 n28, .int .i64 n29], .int .i64 n30] ∧
 AC Try.prog 22 [.agg [.int .i64 16, .int .i64 0], .sl none] h27 fun v31 h32 => ∃ n33 : Int, ∃ n34 : Int, ∃ n35 : Int, v31 = .tup [.agg [.int .i64 n33, .int .i64 n34], .int .i64 n35] ∧
 vif (n5 == 0)
 (vif ((n3 == 4) && ((n4 == 3) && true))
 (vif (n9 == 0)
 (vif b8
 (vif (n13 == 0)
 (vif ((slLen q12 : Int) == 2)
 (vIdx q12 1 2 fun p36 =>
 ∃ n37 : Int, ∃ n38 : Int, cellsAt h32 p36 2 = some [.int .i64 n37, .int .i64 n38] ∧
 vif ((n37 == 3) && ((n38 == 5) && true))
 (vif (n20 == 0)
 (vif ((n18 == 3) && ((n19 == 9) && true))
 (vif (n25 == 0)
 (vif ((n23 == 4) && ((n24 == 9) && true))
 (vif (n30 == 160)
 (vif (n35 == 1)
 (AC Try.prog 16 [.agg [.int .i64 3, .int .i64 1]] h32 fun v39 h40 => ∃ n41 : Int, v39 = .int .i64 n41 ∧
 vif (n41 == 0)
 (AC Try.prog 17 [.agg [.int .i64 1, .int .i64 0]] h40 fun v42 h43 => ∃ n44 : Int, v42 = .int .i64 n44 ∧
 Q (.bool (n44 == 0)) h43)
 (Q (.bool false) h40))
 (Q (.bool false) h32))
 (Q (.bool false) h32))
 (Q (.bool false) h32))
 (Q (.bool false) h32))
 (Q (.bool false) h32))
 (Q (.bool false) h32))
 (Q (.bool false) h32))
 (Q (.bool false) h32))
 (Q (.bool false) h32))
 (Q (.bool false) h32))
 (Q (.bool false) h32))
 (Q (.bool false) h32))
 (Q (.bool false) h32)
theorem ac9  {h : Heap} {Q : AV → Heap → Prop} (hk : vc9  h Q) : AC Try.prog 9 [] h Q :=
 AC_by (H := hintsOf [1, 2, 8, 10, 12, 14] []) (by kernel_rfl) (by kernel_rfl) hk

end Go.Proofs
