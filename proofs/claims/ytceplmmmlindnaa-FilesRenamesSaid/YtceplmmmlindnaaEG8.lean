/- Conditions, printed. -/
import Derived.Test.YtceplmmmlindnaaEG7
import Derived.Test.YtceplmmmlindnaaProg
import Derived.KernelRfl
namespace Go.Proofs
open Go.Ab
set_option maxRecDepth 100000
set_option linter.unusedVariables false

/-- oxbowlaw05.FilesStops: what it asks. -/
def vc8 (n1 : Int) (n2 : Int) (h : Heap) (Q : AV → Heap → Prop) : Prop :=
 AC Try.prog 32 [.int .i64 16384] h fun v3 h4 => ∃ p5 : Option PA, ∃ n6 : Int, v3 = .tup [.ptr p5, .int .i64 n6] ∧
 AC Try.prog 33 [] h4 fun v7 h8 => ∃ b9 : Bool, v7 = .bool b9 ∧
 vif (!b9)
 (AC Try.prog 33 [] h8 fun v10 h11 => ∃ b12 : Bool, v10 = .bool b12 ∧
 Q (.bool b12) h11)
 (vif (n6 != 0)
 (AC Try.prog 33 [] h8 fun v13 h14 => ∃ b15 : Bool, v13 = .bool b15 ∧
 Q (.bool b15) h14)
 (vif (p5.isNone)
 (AC Try.prog 33 [] h8 fun v16 h17 => ∃ b18 : Bool, v16 = .bool b18 ∧
 Q (.bool b18) h17)
 (vif (decide (n1 < 0))
 (AC Try.prog 33 [] h8 fun v19 h20 => ∃ b21 : Bool, v19 = .bool b21 ∧
 Q (.bool b21) h20)
 (vif (decide (n1 > 200))
 (AC Try.prog 33 [] h8 fun v22 h23 => ∃ b24 : Bool, v22 = .bool b24 ∧
 Q (.bool b24) h23)
 (vif (decide (n2 < 0))
 (AC Try.prog 33 [] h8 fun v25 h26 => ∃ b27 : Bool, v25 = .bool b27 ∧
 Q (.bool b27) h26)
 (vif (decide (n2 > 300))
 (AC Try.prog 33 [] h8 fun v28 h29 => ∃ b30 : Bool, v28 = .bool b30 ∧
 Q (.bool b30) h29)
 (AC Try.prog 34 [.ptr p5, .str [97]] h8 fun v31 h32 => ∃ n33 : Int, v31 = .int .i64 n33 ∧
 vif (n33 != 0)
 (Q (.bool false) h32)
 (AC Try.prog 35 [.ptr p5, .int .i64 n1] h32 fun v34 h35 => ∃ n36 : Int, v34 = .int .i64 n36 ∧
 vif (n36 != 0)
 (Q (.bool false) h35)
 (∃ (I38 : List AV → Heap → Prop) (m39 : List AV → Heap → Nat), I38 [.int .i64 0] h35 ∧
 ∀ n37 : Int, ∀ h40 : Heap, I38 [.int .i64 n37] h40 →
 vif (decide (n37 < n2))
 (vif (decide (n37 ≥ n1))
 (AC Try.prog 37 [.int .u8 (wrapK .u8 n37)] h40 fun v41 h42 => ∃ q43 : Option SL, v41 = .sl q43 ∧
 AC Try.prog 36 [.ptr p5, .str [97], .sl q43] h42 fun v44 h45 => ∃ n46 : Int, v44 = .int .i64 n46 ∧
 vif (n46 != 50)
 (Q (.bool false) h45)
 ((True) ∧ I38 [.int .i64 (wrapK .i64 (n37 + 1))] h45 ∧ m39 [.int .i64 (wrapK .i64 (n37 + 1))] h45 < m39 [.int .i64 n37] h40))
 (AC Try.prog 37 [.int .u8 (wrapK .u8 n37)] h40 fun v47 h48 => ∃ q49 : Option SL, v47 = .sl q49 ∧
 AC Try.prog 36 [.ptr p5, .str [97], .sl q49] h48 fun v50 h51 => ∃ n52 : Int, v50 = .int .i64 n52 ∧
 vif (n52 != 0)
 (Q (.bool false) h51)
 ((True) ∧ I38 [.int .i64 (wrapK .i64 (n37 + 1))] h51 ∧ m39 [.int .i64 (wrapK .i64 (n37 + 1))] h51 < m39 [.int .i64 n37] h40)))
 (AC Try.prog 38 [.ptr p5] h40 fun v53 h54 => ∃ b55 : Bool, v53 = .bool b55 ∧
 vif (!(b55 == (decide (n2 > n1))))
 (Q (.bool false) h54)
 (AC Try.prog 39 [.ptr p5, .sl none] h54 fun v56 h57 => v56 = .tup [] ∧
 AC Try.prog 40 [.ptr p5, .str [97]] h57 fun v58 h59 => ∃ n60 : Int, ∃ n61 : Int, v58 = .tup [.int .i64 n60, .int .i64 n61] ∧
 AC Try.prog 38 [.ptr p5] h59 fun v62 h63 => ∃ b64 : Bool, v62 = .bool b64 ∧
 vif (!b64)
 (vif (n61 == 0)
 (vif (n60 == 0)
 (AC Try.prog 37 [.int .u8 1] h63 fun v65 h66 => ∃ q67 : Option SL, v65 = .sl q67 ∧
 AC Try.prog 36 [.ptr p5, .str [97], .sl q67] h66 fun v68 h69 => ∃ n70 : Int, v68 = .int .i64 n70 ∧
 Q (.bool (n70 == 0)) h69)
 (Q (.bool false) h63))
 (Q (.bool false) h63))
 (Q (.bool false) h63))))))))))))
theorem ac8 {n1 : Int} {n2 : Int} {h : Heap} {Q : AV → Heap → Prop} (hk : vc8 n1 n2 h Q) : AC Try.prog 8 [.int .i64 n1, .int .i64 n2] h Q :=
 AC_by (H := hintsOf [] [(0, [7], [])]) (by kernel_rfl) (by kernel_rfl) hk

/-- oxbowlaw05.FilesRenames: what it asks. -/
def vc10 (n1 : Int) (n2 : Int) (n3 : Int) (q4 : Option SL) (h : Heap) (Q : AV → Heap → Prop) : Prop :=
 AC Try.prog 32 [.int .i64 16384] h fun v5 h6 => ∃ p7 : Option PA, ∃ n8 : Int, v5 = .tup [.ptr p7, .int .i64 n8] ∧
 AC Try.prog 33 [] h6 fun v9 h10 => ∃ b11 : Bool, v9 = .bool b11 ∧
 vif (!b11)
 (AC Try.prog 33 [] h10 fun v12 h13 => ∃ b14 : Bool, v12 = .bool b14 ∧
 Q (.bool b14) h13)
 (vif (n8 != 0)
 (AC Try.prog 33 [] h10 fun v15 h16 => ∃ b17 : Bool, v15 = .bool b17 ∧
 Q (.bool b17) h16)
 (vif (p7.isNone)
 (AC Try.prog 33 [] h10 fun v18 h19 => ∃ b20 : Bool, v18 = .bool b20 ∧
 Q (.bool b20) h19)
 (vif (decide (n1 < 0))
 (AC Try.prog 33 [] h10 fun v21 h22 => ∃ b23 : Bool, v21 = .bool b23 ∧
 Q (.bool b23) h22)
 (vif (decide (n1 > 50))
 (AC Try.prog 33 [] h10 fun v24 h25 => ∃ b26 : Bool, v24 = .bool b26 ∧
 Q (.bool b26) h25)
 (vif (decide (n2 < 0))
 (AC Try.prog 33 [] h10 fun v27 h28 => ∃ b29 : Bool, v27 = .bool b29 ∧
 Q (.bool b29) h28)
 (vif (decide (n2 > 50))
 (AC Try.prog 33 [] h10 fun v30 h31 => ∃ b32 : Bool, v30 = .bool b32 ∧
 Q (.bool b32) h31)
 (vif (decide (n3 < 0))
 (AC Try.prog 33 [] h10 fun v33 h34 => ∃ b35 : Bool, v33 = .bool b35 ∧
 Q (.bool b35) h34)
 (vif (decide (n3 > n1))
 (AC Try.prog 33 [] h10 fun v36 h37 => ∃ b38 : Bool, v36 = .bool b38 ∧
 Q (.bool b38) h37)
 (AC Try.prog 34 [.ptr p7, .str [97]] h10 fun v39 h40 => ∃ n41 : Int, v39 = .int .i64 n41 ∧
 vif (n41 != 0)
 (Q (.bool false) h40)
 (AC Try.prog 34 [.ptr p7, .str [98]] h40 fun v42 h43 => ∃ n44 : Int, v42 = .int .i64 n44 ∧
 vif (n44 != 0)
 (Q (.bool false) h43)
 (∃ (I46 : List AV → Heap → Prop) (m47 : List AV → Heap → Nat), I46 [.int .i64 0] h43 ∧
 ∀ n45 : Int, ∀ h48 : Heap, I46 [.int .i64 n45] h48 →
 vif (decide (n45 < n1))
 (vif (n45 == n3)
 (AC Try.prog 43 [.ptr p7, .str [97]] h48 fun v49 h50 => ∃ n51 : Int, v49 = .int .i64 n51 ∧
 vif (n51 != 0)
 (Q (.bool false) h50)
 (AC Try.prog 37 [.int .u8 (wrapK .u8 n45)] h50 fun v52 h53 => ∃ q54 : Option SL, v52 = .sl q54 ∧
 AC Try.prog 36 [.ptr p7, .str [97], .sl q54] h53 fun v55 h56 => ∃ n57 : Int, v55 = .int .i64 n57 ∧
 vif (n57 != 0)
 (Q (.bool false) h56)
 ((True) ∧ I46 [.int .i64 (wrapK .i64 (n45 + 1))] h56 ∧ m47 [.int .i64 (wrapK .i64 (n45 + 1))] h56 < m47 [.int .i64 n45] h48)))
 (AC Try.prog 37 [.int .u8 (wrapK .u8 n45)] h48 fun v58 h59 => ∃ q60 : Option SL, v58 = .sl q60 ∧
 AC Try.prog 36 [.ptr p7, .str [97], .sl q60] h59 fun v61 h62 => ∃ n63 : Int, v61 = .int .i64 n63 ∧
 vif (n63 != 0)
 (Q (.bool false) h62)
 ((True) ∧ I46 [.int .i64 (wrapK .i64 (n45 + 1))] h62 ∧ m47 [.int .i64 (wrapK .i64 (n45 + 1))] h62 < m47 [.int .i64 n45] h48)))
 (∃ (I65 : List AV → Heap → Prop) (m66 : List AV → Heap → Nat), I65 [.int .i64 0] h48 ∧
 ∀ n64 : Int, ∀ h67 : Heap, I65 [.int .i64 n64] h67 →
 vif (decide (n64 < n2))
 (AC Try.prog 37 [.int .u8 200] h67 fun v68 h69 => ∃ q70 : Option SL, v68 = .sl q70 ∧
 AC Try.prog 36 [.ptr p7, .str [98], .sl q70] h69 fun v71 h72 => ∃ n73 : Int, v71 = .int .i64 n73 ∧
 vif (n73 != 0)
 (Q (.bool false) h72)
 ((True) ∧ I65 [.int .i64 (wrapK .i64 (n64 + 1))] h72 ∧ m66 [.int .i64 (wrapK .i64 (n64 + 1))] h72 < m66 [.int .i64 n64] h67))
 (AC Try.prog 47 [.ptr p7] h67 fun v74 h75 => ∃ q76 : Option SL, v74 = .sl q76 ∧
 AC Try.prog 44 [.ptr p7, .str [97], .str [98]] h75 fun v77 h78 => ∃ n79 : Int, v77 = .int .i64 n79 ∧
 vif (n79 != 0)
 (Q (.bool false) h78)
 (vif ((slLen q76 : Int) != (wrapK .i64 ((wrapK .i64 (n1 + n2)) - n3)))
 (vif (decide (n3 < n1))
 (Q (.bool false) h78)
 (AC Try.prog 47 [.ptr p7] h78 fun v80 h81 => ∃ q82 : Option SL, v80 = .sl q82 ∧
 AC Try.prog 40 [.ptr p7, .str [98]] h81 fun v83 h84 => ∃ n85 : Int, ∃ n86 : Int, v83 = .tup [.int .i64 n85, .int .i64 n86] ∧
 AC Try.prog 40 [.ptr p7, .str [97]] h84 fun v87 h88 => ∃ n89 : Int, ∃ n90 : Int, v87 = .tup [.int .i64 n89, .int .i64 n90] ∧
 vif (n86 != 0)
 (Q (.bool false) h88)
 (vif (n85 != n1)
 (Q (.bool false) h88)
 (vif (n90 != 4)
 (Q (.bool false) h88)
 (AC Try.prog 46 [.ptr p7] h88 fun v91 h92 => ∃ q93 : Option SL, v91 = .sl q93 ∧
 vif ((slLen q93 : Int) != 1)
 (Q (.bool false) h92)
 (AC Try.prog 48 [.ptr p7] h92 fun v94 h95 => ∃ n96 : Int, v94 = .int .i64 n96 ∧
 vif (n96 != n1)
 (Q (.bool false) h95)
 (∃ (I98 : List AV → Heap → Prop) (m99 : List AV → Heap → Nat), I98 [.int .i64 0] h95 ∧
 ∀ n97 : Int, ∀ h100 : Heap, I98 [.int .i64 n97] h100 →
 vif (decide (n97 < n1))
 (AC Try.prog 41 [.ptr p7, .str [98], .int .i64 n97] h100 fun v101 h102 => ∃ q103 : Option SL, ∃ n104 : Int, v101 = .tup [.sl q103, .int .i64 n104] ∧
 vif (n104 != 0)
 (Q (.bool false) h102)
 (vIdx q103 0 1 fun p105 =>
 ∃ n106 : Int, cellsAt h102 p105 1 = some [.int .u8 n106] ∧
 vif (n106 != (wrapK .u8 n97))
 (Q (.bool false) h102)
 ((True) ∧ I98 [.int .i64 (wrapK .i64 (n97 + 1))] h102 ∧ m99 [.int .i64 (wrapK .i64 (n97 + 1))] h102 < m99 [.int .i64 n97] h100)))
 (∃ (I108 : List AV → Heap → Prop) (m109 : List AV → Heap → Nat), I108 [.int .i64 0] h100 ∧
 ∀ n107 : Int, ∀ h110 : Heap, I108 [.int .i64 n107] h110 →
 vif (decide (n107 < (slLen q82 : Int)))
 (vIdx q82 n107 2 fun p111 =>
 ∃ s112 : List UInt8, cellsAt h110 ⟨p111.b, p111.o + 0⟩ 1 = some [.str s112] ∧
 vif (!(s112 == [98]))
 (Q (.bool false) h110)
 ((True) ∧ I108 [.int .i64 (wrapK .i64 (n107 + 1))] h110 ∧ m109 [.int .i64 (wrapK .i64 (n107 + 1))] h110 < m109 [.int .i64 n107] h110))
 (AC Try.prog 39 [.ptr p7, .sl q4] h110 fun v113 h114 => v113 = .tup [] ∧
 AC Try.prog 40 [.ptr p7, .str [98]] h114 fun v115 h116 => ∃ n117 : Int, ∃ n118 : Int, v115 = .tup [.int .i64 n117, .int .i64 n118] ∧
 vif (n118 == 0)
 (vif (decide (n117 ≤ n1))
 (vif (decide (n3 ≥ n1))
 (Q (.bool true) h116)
 (Q (.bool (decide (n117 ≥ n3))) h116))
 (Q (.bool false) h116))
 (Q (.bool false) h116))))))))))
 (AC Try.prog 47 [.ptr p7] h78 fun v119 h120 => ∃ q121 : Option SL, v119 = .sl q121 ∧
 AC Try.prog 40 [.ptr p7, .str [98]] h120 fun v122 h123 => ∃ n124 : Int, ∃ n125 : Int, v122 = .tup [.int .i64 n124, .int .i64 n125] ∧
 AC Try.prog 40 [.ptr p7, .str [97]] h123 fun v126 h127 => ∃ n128 : Int, ∃ n129 : Int, v126 = .tup [.int .i64 n128, .int .i64 n129] ∧
 vif (n125 != 0)
 (Q (.bool false) h127)
 (vif (n124 != n1)
 (Q (.bool false) h127)
 (vif (n129 != 4)
 (Q (.bool false) h127)
 (AC Try.prog 46 [.ptr p7] h127 fun v130 h131 => ∃ q132 : Option SL, v130 = .sl q132 ∧
 vif ((slLen q132 : Int) != 1)
 (Q (.bool false) h131)
 (AC Try.prog 48 [.ptr p7] h131 fun v133 h134 => ∃ n135 : Int, v133 = .int .i64 n135 ∧
 vif (n135 != n1)
 (Q (.bool false) h134)
 (∃ (I137 : List AV → Heap → Prop) (m138 : List AV → Heap → Nat), I137 [.int .i64 0] h134 ∧
 ∀ n136 : Int, ∀ h139 : Heap, I137 [.int .i64 n136] h139 →
 vif (decide (n136 < n1))
 (AC Try.prog 41 [.ptr p7, .str [98], .int .i64 n136] h139 fun v140 h141 => ∃ q142 : Option SL, ∃ n143 : Int, v140 = .tup [.sl q142, .int .i64 n143] ∧
 vif (n143 != 0)
 (Q (.bool false) h141)
 (vIdx q142 0 1 fun p144 =>
 ∃ n145 : Int, cellsAt h141 p144 1 = some [.int .u8 n145] ∧
 vif (n145 != (wrapK .u8 n136))
 (Q (.bool false) h141)
 ((True) ∧ I137 [.int .i64 (wrapK .i64 (n136 + 1))] h141 ∧ m138 [.int .i64 (wrapK .i64 (n136 + 1))] h141 < m138 [.int .i64 n136] h139)))
 (∃ (I147 : List AV → Heap → Prop) (m148 : List AV → Heap → Nat), I147 [.int .i64 0] h139 ∧
 ∀ n146 : Int, ∀ h149 : Heap, I147 [.int .i64 n146] h149 →
 vif (decide (n146 < (slLen q121 : Int)))
 (vIdx q121 n146 2 fun p150 =>
 ∃ s151 : List UInt8, cellsAt h149 ⟨p150.b, p150.o + 0⟩ 1 = some [.str s151] ∧
 vif (!(s151 == [98]))
 (Q (.bool false) h149)
 ((True) ∧ I147 [.int .i64 (wrapK .i64 (n146 + 1))] h149 ∧ m148 [.int .i64 (wrapK .i64 (n146 + 1))] h149 < m148 [.int .i64 n146] h149))
 (AC Try.prog 39 [.ptr p7, .sl q4] h149 fun v152 h153 => v152 = .tup [] ∧
 AC Try.prog 40 [.ptr p7, .str [98]] h153 fun v154 h155 => ∃ n156 : Int, ∃ n157 : Int, v154 = .tup [.int .i64 n156, .int .i64 n157] ∧
 vif (n157 == 0)
 (vif (decide (n156 ≤ n1))
 (vif (decide (n3 ≥ n1))
 (Q (.bool true) h155)
 (Q (.bool (decide (n156 ≥ n3))) h155))
 (Q (.bool false) h155))
 (Q (.bool false) h155)))))))))))))))))))))))
theorem ac10 {n1 : Int} {n2 : Int} {n3 : Int} {q4 : Option SL} {h : Heap} {Q : AV → Heap → Prop} (hk : vc10 n1 n2 n3 q4 h Q) : AC Try.prog 10 [.int .i64 n1, .int .i64 n2, .int .i64 n3, .sl q4] h Q :=
 AC_by (H := hintsOf [] [(0, [11], []), (2, [12], []), (4, [19], []), (6, [22], [])]) (by kernel_rfl) (by kernel_rfl) hk

/-- files.New: what it asks. -/
def vc32 (n1 : Int) (h : Heap) (Q : AV → Heap → Prop) : Prop :=
 vif (decide (n1 < 0))
 (Q (.tup [.ptr none, .int .i64 1]) h)
 (vif (decide (n1 > 16384))
 (Q (.tup [.ptr none, .int .i64 1]) h)
 (PNew [.map (some (List.length h)), .sl none, .int .i64 n1, .int .i64 (-1), .bool false] true (h ++ [.mp [] 0]) fun a2 h3 =>
 Q (.tup [.ptr (some ⟨a2, 0⟩), .int .i64 0]) h3))
theorem ac32 {n1 : Int} {h : Heap} {Q : AV → Heap → Prop} (hk : vc32 n1 h Q) : AC Try.prog 32 [.int .i64 n1] h Q :=
 AC_by (H := hintsOf [] []) (by kernel_rfl) (by kernel_rfl) hk

/-- files.Disk).Create: what it asks. -/
def vc34 (p1 : Option PA) (s2 : List UInt8) (h : Heap) (Q : AV → Heap → Prop) : Prop :=
 AC Try.prog 86 [.ptr p1] h fun v3 h4 => ∃ b5 : Bool, v3 = .bool b5 ∧
 vif b5
 (AC Try.prog 87 [.str s2] h4 fun v6 h7 => ∃ b8 : Bool, v6 = .bool b8 ∧
 vif (!b8)
 (Q (.int .i64 1) h7)
 (AC Try.prog 88 [.ptr p1] h7 fun v9 h10 => ∃ n11 : Int, v9 = .int .i64 n11 ∧
 vif (n11 != 0)
 (Q (.int .i64 n11) h10)
 (vPtr p1 fun p12 =>
 ∃ m13 : Option Nat, cellsAt h10 ⟨p12.b, p12.o + 0⟩ 1 = some [.map m13] ∧
 PLookup Try.prog 9 136 m13 (.str s2) false h10 fun v14 =>
 ∃ p15 : Option PA, v14 = .ptr p15 ∧
 vif (!(p15.isNone))
 (Q (.int .i64 5) h10)
 (vPtr p1 fun p16 =>
 ∃ m17 : Option Nat, cellsAt h10 ⟨p16.b, p16.o + 0⟩ 1 = some [.map m17] ∧
 vLenM h10 m17 fun e18 =>
 vif (decide (((e18 : Nat) : Int) ≥ 256))
 (Q (.int .i64 2) h10)
 (AC Try.prog 89 [.ptr p1] h10 fun v19 h20 => ∃ n21 : Int, v19 = .int .i64 n21 ∧
 vif (n21 == 0)
 (vPtr p1 fun p22 =>
 ∃ m23 : Option Nat, cellsAt h20 ⟨p22.b, p22.o + 0⟩ 1 = some [.map m23] ∧
 PNew [.str s2, .sl none, .sl none] true h20 fun a24 h25 =>
 vMap m23 fun a27 => PUpdate Try.prog 9 a27 (.str s2) (.ptr (some ⟨a24, 0⟩)) h25 fun h26 =>
 Q (.int .i64 n21) h26)
 (Q (.int .i64 n21) h20))))))
 (AC Try.prog 88 [.ptr p1] h4 fun v28 h29 => ∃ n30 : Int, v28 = .int .i64 n30 ∧
 vif (n30 != 0)
 (Q (.int .i64 n30) h29)
 (vPtr p1 fun p31 =>
 ∃ m32 : Option Nat, cellsAt h29 ⟨p31.b, p31.o + 0⟩ 1 = some [.map m32] ∧
 PLookup Try.prog 9 136 m32 (.str s2) false h29 fun v33 =>
 ∃ p34 : Option PA, v33 = .ptr p34 ∧
 vif (!(p34.isNone))
 (Q (.int .i64 5) h29)
 (vPtr p1 fun p35 =>
 ∃ m36 : Option Nat, cellsAt h29 ⟨p35.b, p35.o + 0⟩ 1 = some [.map m36] ∧
 vLenM h29 m36 fun e37 =>
 vif (decide (((e37 : Nat) : Int) ≥ 256))
 (Q (.int .i64 2) h29)
 (AC Try.prog 89 [.ptr p1] h29 fun v38 h39 => ∃ n40 : Int, v38 = .int .i64 n40 ∧
 vif (n40 == 0)
 (vPtr p1 fun p41 =>
 ∃ m42 : Option Nat, cellsAt h39 ⟨p41.b, p41.o + 0⟩ 1 = some [.map m42] ∧
 PNew [.str s2, .sl none, .sl none] true h39 fun a43 h44 =>
 vMap m42 fun a46 => PUpdate Try.prog 9 a46 (.str s2) (.ptr (some ⟨a43, 0⟩)) h44 fun h45 =>
 Q (.int .i64 n40) h45)
 (Q (.int .i64 n40) h39)))))
theorem ac34 {p1 : Option PA} {s2 : List UInt8} {h : Heap} {Q : AV → Heap → Prop} (hk : vc34 p1 s2 h Q) : AC Try.prog 34 [.ptr p1, .str s2] h Q :=
 AC_by (H := hintsOf [] []) (by kernel_rfl) (by kernel_rfl) hk

/-- files.Disk).Stop: what it asks. -/
def vc35 (p1 : Option PA) (n2 : Int) (h : Heap) (Q : AV → Heap → Prop) : Prop :=
 AC Try.prog 86 [.ptr p1] h fun v3 h4 => ∃ b5 : Bool, v3 = .bool b5 ∧
 vif (!b5)
 (Q (.int .i64 6) h4)
 (vif (decide (n2 < 0))
 (Q (.int .i64 1) h4)
 (vPtr p1 fun p6 =>
 PStore h4 ⟨p6.b, p6.o + 3⟩ [.int .i64 n2] fun h7 =>
 Q (.int .i64 0) h7))
theorem ac35 {p1 : Option PA} {n2 : Int} {h : Heap} {Q : AV → Heap → Prop} (hk : vc35 p1 n2 h Q) : AC Try.prog 35 [.ptr p1, .int .i64 n2] h Q :=
 AC_by (H := hintsOf [] []) (by kernel_rfl) (by kernel_rfl) hk

/-- files.Disk).Append: what it asks. -/
def vc36 (p1 : Option PA) (s2 : List UInt8) (q3 : Option SL) (h : Heap) (Q : AV → Heap → Prop) : Prop :=
 AC Try.prog 86 [.ptr p1] h fun v4 h5 => ∃ b6 : Bool, v4 = .bool b6 ∧
 vif b6
 (vif ((slLen q3 : Int) != 64)
 (Q (.int .i64 1) h5)
 (AC Try.prog 90 [.ptr p1, .str s2] h5 fun v7 h8 => ∃ p9 : Option PA, ∃ n10 : Int, v7 = .tup [.ptr p9, .int .i64 n10] ∧
 vif (n10 != 0)
 (Q (.int .i64 n10) h8)
 (vPtr p1 fun p11 =>
 ∃ n12 : Int, cellsAt h8 ⟨p11.b, p11.o + 2⟩ 1 = some [.int .i64 n12] ∧
 AC Try.prog 48 [.ptr p1] h8 fun v13 h14 => ∃ n15 : Int, v13 = .int .i64 n15 ∧
 (∃ n33 : Int, cellsAt h14 ⟨p11.b, p11.o + 2⟩ 1 = some [.int .i64 n33] ∧
 LV.val (.int .i64 n33) = LV.val (.int .i64 n12)) ∧
 vif (decide (n15 ≥ n12))
 (Q (.int .i64 2) h14)
 (AC Try.prog 89 [.ptr p1] h14 fun v16 h17 => ∃ n18 : Int, v16 = .int .i64 n18 ∧
 vif (n18 != 0)
 (Q (.int .i64 n18) h17)
 (vPtr p9 fun p19 =>
 ∃ q20 : Option SL, cellsAt h17 ⟨p19.b, p19.o + 1⟩ 1 = some [.sl q20] ∧
 PNew (List.replicate 64 (AV.int .u8 0)) true h17 fun a21 h22 =>
 PAppendS 64 64 q20 (some ⟨a21, 0, 1, 1, 0⟩) h22 fun q23 h24 =>
 vPtr p9 fun p25 =>
 PStore h24 ⟨p25.b, p25.o + 1⟩ [.sl q23] fun h26 =>
 vPtr p9 fun p27 =>
 ∃ q28 : Option SL, cellsAt h26 ⟨p27.b, p27.o + 1⟩ 1 = some [.sl q28] ∧
 vSl q3 fun s29 => need (decide (0 < 64) && decide (64 ≤ s29.len)) (exC .u8 64 fun l30 =>
 cellsAt h26 ⟨s29.b, s29.o⟩ 64 = some l30 ∧
 AC Try.prog 91 [.ptr p1, .ptr p9, .int .i64 (wrapK .i64 ((slLen q28 : Int) - 1)), .agg l30] h26 fun v31 h32 => v31 = .tup [] ∧
 Q (.int .i64 0) h32))))))
 (AC Try.prog 90 [.ptr p1, .str s2] h5 fun v34 h35 => ∃ p36 : Option PA, ∃ n37 : Int, v34 = .tup [.ptr p36, .int .i64 n37] ∧
 vif (n37 != 0)
 (Q (.int .i64 n37) h35)
 (vPtr p1 fun p38 =>
 ∃ n39 : Int, cellsAt h35 ⟨p38.b, p38.o + 2⟩ 1 = some [.int .i64 n39] ∧
 AC Try.prog 48 [.ptr p1] h35 fun v40 h41 => ∃ n42 : Int, v40 = .int .i64 n42 ∧
 (∃ n60 : Int, cellsAt h41 ⟨p38.b, p38.o + 2⟩ 1 = some [.int .i64 n60] ∧
 LV.val (.int .i64 n60) = LV.val (.int .i64 n39)) ∧
 vif (decide (n42 ≥ n39))
 (Q (.int .i64 2) h41)
 (AC Try.prog 89 [.ptr p1] h41 fun v43 h44 => ∃ n45 : Int, v43 = .int .i64 n45 ∧
 vif (n45 != 0)
 (Q (.int .i64 n45) h44)
 (vPtr p36 fun p46 =>
 ∃ q47 : Option SL, cellsAt h44 ⟨p46.b, p46.o + 1⟩ 1 = some [.sl q47] ∧
 PNew (List.replicate 64 (AV.int .u8 0)) true h44 fun a48 h49 =>
 PAppendS 64 64 q47 (some ⟨a48, 0, 1, 1, 0⟩) h49 fun q50 h51 =>
 vPtr p36 fun p52 =>
 PStore h51 ⟨p52.b, p52.o + 1⟩ [.sl q50] fun h53 =>
 vPtr p36 fun p54 =>
 ∃ q55 : Option SL, cellsAt h53 ⟨p54.b, p54.o + 1⟩ 1 = some [.sl q55] ∧
 vSl q3 fun s56 => need (decide (0 < 64) && decide (64 ≤ s56.len)) (exC .u8 64 fun l57 =>
 cellsAt h53 ⟨s56.b, s56.o⟩ 64 = some l57 ∧
 AC Try.prog 91 [.ptr p1, .ptr p36, .int .i64 (wrapK .i64 ((slLen q55 : Int) - 1)), .agg l57] h53 fun v58 h59 => v58 = .tup [] ∧
 Q (.int .i64 0) h59)))))
theorem ac36 {p1 : Option PA} {s2 : List UInt8} {q3 : Option SL} {h : Heap} {Q : AV → Heap → Prop} (hk : vc36 p1 s2 q3 h Q) : AC Try.prog 36 [.ptr p1, .str s2, .sl q3] h Q :=
 AC_by (H := hintsOf [] []) (by kernel_rfl) (by kernel_rfl) hk

/-- oxbowlaw05.Sector: what it asks. -/
def vc37 (n1 : Int) (h : Heap) (Q : AV → Heap → Prop) : Prop :=
 PMake [.int .u8 0] 1 64 64 h fun q2 h3 =>
 ∃ (I5 : List AV → Heap → Prop) (m6 : List AV → Heap → Nat), I5 [.int .i64 0] h3 ∧
 ∀ n4 : Int, ∀ h7 : Heap, I5 [.int .i64 n4] h7 →
 vif (decide (n4 < 64))
 (vIdx q2 n4 1 fun p8 =>
 PStore h7 p8 [.int .u8 n1] fun h9 =>
 (True) ∧ I5 [.int .i64 (wrapK .i64 (n4 + 1))] h9 ∧ m6 [.int .i64 (wrapK .i64 (n4 + 1))] h9 < m6 [.int .i64 n4] h7)
 (Q (.sl q2) h7)
theorem ac37 {n1 : Int} {h : Heap} {Q : AV → Heap → Prop} (hk : vc37 n1 h Q) : AC Try.prog 37 [.int .u8 n1] h Q :=
 AC_by (H := hintsOf [] [(0, [4], [])]) (by kernel_rfl) (by kernel_rfl) hk

/-- files.Disk).Off: what it asks. -/
def vc38 (p1 : Option PA) (h : Heap) (Q : AV → Heap → Prop) : Prop :=
 AC Try.prog 86 [.ptr p1] h fun v2 h3 => ∃ b4 : Bool, v2 = .bool b4 ∧
 vif (!b4)
 (Q (.bool true) h3)
 (vPtr p1 fun p5 =>
 ∃ b6 : Bool, cellsAt h3 ⟨p5.b, p5.o + 4⟩ 1 = some [.bool b6] ∧
 Q (.bool b6) h3)
theorem ac38 {p1 : Option PA} {h : Heap} {Q : AV → Heap → Prop} (hk : vc38 p1 h Q) : AC Try.prog 38 [.ptr p1] h Q :=
 AC_by (H := hintsOf [] []) (by kernel_rfl) (by kernel_rfl) hk

/-- files.Disk).Crash: what it asks. -/
def vc39 (p1 : Option PA) (q2 : Option SL) (h : Heap) (Q : AV → Heap → Prop) : Prop :=
 AC Try.prog 86 [.ptr p1] h fun v3 h4 => ∃ b5 : Bool, v3 = .bool b5 ∧
 vif (!b5)
 (Q (.tup []) h4)
 (vPtr p1 fun p6 =>
 ∃ q7 : Option SL, cellsAt h4 ⟨p6.b, p6.o + 1⟩ 1 = some [.sl q7] ∧
 ∃ (I9 : List AV → Heap → Prop) (m10 : List AV → Heap → Nat), I9 [.int .i64 0] h4 ∧
 ∀ n8 : Int, ∀ h11 : Heap, I9 [.int .i64 n8] h11 →
 vif (decide (n8 < (slLen q7 : Int)))
 (vIdx q7 n8 66 fun p12 =>
 ∃ p13 : Option PA, ∃ n14 : Int, exC .u8 64 fun l15 =>
 cellsAt h11 p12 66 = some ([.ptr p13, .int .i64 n14] ++ (l15)) ∧
 vif (decide (n8 < (slLen q2 : Int)))
 (vIdx q2 n8 1 fun p16 =>
 ∃ n17 : Int, cellsAt h11 p16 1 = some [.int .i64 n17] ∧
 AC Try.prog 92 [.agg ([.ptr p13, .int .i64 n14] ++ (l15)), .int .i64 n17] h11 fun v18 h19 => v18 = .tup [] ∧
 (True) ∧ I9 [.int .i64 (wrapK .i64 (n8 + 1))] h19 ∧ m10 [.int .i64 (wrapK .i64 (n8 + 1))] h19 < m10 [.int .i64 n8] h11)
 ((True) ∧ I9 [.int .i64 (wrapK .i64 (n8 + 1))] h11 ∧ m10 [.int .i64 (wrapK .i64 (n8 + 1))] h11 < m10 [.int .i64 n8] h11))
 (vPtr p1 fun p20 =>
 PStore h11 ⟨p20.b, p20.o + 1⟩ [.sl none] fun h21 =>
 vPtr p1 fun p22 =>
 PStore h21 ⟨p22.b, p22.o + 3⟩ [.int .i64 (-1)] fun h23 =>
 vPtr p1 fun p24 =>
 PStore h23 ⟨p24.b, p24.o + 4⟩ [.bool false] fun h25 =>
 vPtr p1 fun p26 =>
 ∃ m27 : Option Nat, cellsAt h25 ⟨p26.b, p26.o + 0⟩ 1 = some [.map m27] ∧
 vRange m27 h25 fun a28 h29 =>
 ∃ (I30 : List AV → Heap → Prop) (m31 : List AV → Heap → Nat), I30 [] h29 ∧
 ∀ h32 : Heap, I30 [] h32 →
 PNext2 a28 h32 (fun h33 =>
 Q (.tup []) h33) fun v34 v35 h36 =>
 PEntry a28 h36 fun v37 =>
 ∃ s38 : List UInt8, ∃ p39 : Option PA, v37 = .tup [.str s38, .ptr p39] ∧
 vPtr p39 fun p40 =>
 ∃ q41 : Option SL, cellsAt h36 ⟨p40.b, p40.o + 2⟩ 1 = some [.sl q41] ∧
 AC Try.prog 93 [.sl q41] h36 fun v42 h43 => ∃ q44 : Option SL, v42 = .sl q44 ∧
 vPtr p39 fun p45 =>
 PStore h43 ⟨p45.b, p45.o + 1⟩ [.sl q44] fun h46 =>
 (True) ∧ I30 [] h46 ∧ m31 [] h46 < m31 [] h32))
theorem ac39 {p1 : Option PA} {q2 : Option SL} {h : Heap} {Q : AV → Heap → Prop} (hk : vc39 p1 q2 h Q) : AC Try.prog 39 [.ptr p1, .sl q2] h Q :=
 AC_by (H := hintsOf [5, 148131] [(0, [16], []), (2, [], [])]) (by kernel_rfl) (by kernel_rfl) hk

/-- files.Disk).Size: what it asks. -/
def vc40 (p1 : Option PA) (s2 : List UInt8) (h : Heap) (Q : AV → Heap → Prop) : Prop :=
 AC Try.prog 86 [.ptr p1] h fun v3 h4 => ∃ b5 : Bool, v3 = .bool b5 ∧
 vif (!b5)
 (Q (.tup [.int .i64 0, .int .i64 6]) h4)
 (vPtr p1 fun p6 =>
 ∃ m7 : Option Nat, cellsAt h4 ⟨p6.b, p6.o + 0⟩ 1 = some [.map m7] ∧
 PLookup Try.prog 9 136 m7 (.str s2) false h4 fun v8 =>
 ∃ p9 : Option PA, v8 = .ptr p9 ∧
 vif (p9.isNone)
 (Q (.tup [.int .i64 0, .int .i64 4]) h4)
 (vPtr p9 fun p10 =>
 ∃ q11 : Option SL, cellsAt h4 ⟨p10.b, p10.o + 1⟩ 1 = some [.sl q11] ∧
 Q (.tup [.int .i64 (slLen q11 : Int), .int .i64 0]) h4))
theorem ac40 {p1 : Option PA} {s2 : List UInt8} {h : Heap} {Q : AV → Heap → Prop} (hk : vc40 p1 s2 h Q) : AC Try.prog 40 [.ptr p1, .str s2] h Q :=
 AC_by (H := hintsOf [] []) (by kernel_rfl) (by kernel_rfl) hk

/-- files.Disk).Read: what it asks. -/
def vc41 (p1 : Option PA) (s2 : List UInt8) (n3 : Int) (h : Heap) (Q : AV → Heap → Prop) : Prop :=
 AC Try.prog 90 [.ptr p1, .str s2] h fun v4 h5 => ∃ p6 : Option PA, ∃ n7 : Int, v4 = .tup [.ptr p6, .int .i64 n7] ∧
 vif (n7 != 0)
 (Q (.tup [.sl none, .int .i64 n7]) h5)
 (vif (decide (n3 < 0))
 (Q (.tup [.sl none, .int .i64 4]) h5)
 (vPtr p6 fun p8 =>
 ∃ q9 : Option SL, cellsAt h5 ⟨p8.b, p8.o + 1⟩ 1 = some [.sl q9] ∧
 vif (decide (n3 ≥ (slLen q9 : Int)))
 (Q (.tup [.sl none, .int .i64 4]) h5)
 (vPtr p6 fun p10 =>
 ∃ q11 : Option SL, cellsAt h5 ⟨p10.b, p10.o + 1⟩ 1 = some [.sl q11] ∧
 vIdx q11 n3 64 fun p12 =>
 PSlice 1 (some ⟨p12.b, p12.o, 64, 64, 0⟩) 0 none none fun q13 =>
 AC Try.prog 94 [.sl q13] h5 fun v14 h15 => ∃ q16 : Option SL, v14 = .sl q16 ∧
 Q (.tup [.sl q16, .int .i64 0]) h15)))
theorem ac41 {p1 : Option PA} {s2 : List UInt8} {n3 : Int} {h : Heap} {Q : AV → Heap → Prop} (hk : vc41 p1 s2 n3 h Q) : AC Try.prog 41 [.ptr p1, .str s2, .int .i64 n3] h Q :=
 AC_by (H := hintsOf [] []) (by kernel_rfl) (by kernel_rfl) hk

/-- files.Disk).Write: what it asks. -/
def vc42 (p1 : Option PA) (s2 : List UInt8) (n3 : Int) (q4 : Option SL) (h : Heap) (Q : AV → Heap → Prop) : Prop :=
 AC Try.prog 86 [.ptr p1] h fun v5 h6 => ∃ b7 : Bool, v5 = .bool b7 ∧
 vif b7
 (vif ((slLen q4 : Int) != 64)
 (Q (.int .i64 1) h6)
 (AC Try.prog 90 [.ptr p1, .str s2] h6 fun v8 h9 => ∃ p10 : Option PA, ∃ n11 : Int, v8 = .tup [.ptr p10, .int .i64 n11] ∧
 vif (n11 != 0)
 (Q (.int .i64 n11) h9)
 (vif (decide (n3 < 0))
 (Q (.int .i64 4) h9)
 (vPtr p10 fun p12 =>
 ∃ q13 : Option SL, cellsAt h9 ⟨p12.b, p12.o + 1⟩ 1 = some [.sl q13] ∧
 vif (decide (n3 ≥ (slLen q13 : Int)))
 (Q (.int .i64 4) h9)
 (AC Try.prog 89 [.ptr p1] h9 fun v14 h15 => ∃ n16 : Int, v14 = .int .i64 n16 ∧
 vif (n16 != 0)
 (Q (.int .i64 n16) h15)
 (vSl q4 fun s17 => need (decide (0 < 64) && decide (64 ≤ s17.len)) (exC .u8 64 fun l18 =>
 cellsAt h15 ⟨s17.b, s17.o⟩ 64 = some l18 ∧
 AC Try.prog 91 [.ptr p1, .ptr p10, .int .i64 n3, .agg l18] h15 fun v19 h20 => v19 = .tup [] ∧
 Q (.int .i64 0) h20)))))))
 (AC Try.prog 90 [.ptr p1, .str s2] h6 fun v21 h22 => ∃ p23 : Option PA, ∃ n24 : Int, v21 = .tup [.ptr p23, .int .i64 n24] ∧
 vif (n24 != 0)
 (Q (.int .i64 n24) h22)
 (vif (decide (n3 < 0))
 (Q (.int .i64 4) h22)
 (vPtr p23 fun p25 =>
 ∃ q26 : Option SL, cellsAt h22 ⟨p25.b, p25.o + 1⟩ 1 = some [.sl q26] ∧
 vif (decide (n3 ≥ (slLen q26 : Int)))
 (Q (.int .i64 4) h22)
 (AC Try.prog 89 [.ptr p1] h22 fun v27 h28 => ∃ n29 : Int, v27 = .int .i64 n29 ∧
 vif (n29 != 0)
 (Q (.int .i64 n29) h28)
 (vSl q4 fun s30 => need (decide (0 < 64) && decide (64 ≤ s30.len)) (exC .u8 64 fun l31 =>
 cellsAt h28 ⟨s30.b, s30.o⟩ 64 = some l31 ∧
 AC Try.prog 91 [.ptr p1, .ptr p23, .int .i64 n3, .agg l31] h28 fun v32 h33 => v32 = .tup [] ∧
 Q (.int .i64 0) h33))))))
theorem ac42 {p1 : Option PA} {s2 : List UInt8} {n3 : Int} {q4 : Option SL} {h : Heap} {Q : AV → Heap → Prop} (hk : vc42 p1 s2 n3 q4 h Q) : AC Try.prog 42 [.ptr p1, .str s2, .int .i64 n3, .sl q4] h Q :=
 AC_by (H := hintsOf [] []) (by kernel_rfl) (by kernel_rfl) hk

/-- files.Disk).Sync: what it asks. -/
def vc43 (p1 : Option PA) (s2 : List UInt8) (h : Heap) (Q : AV → Heap → Prop) : Prop :=
 AC Try.prog 90 [.ptr p1, .str s2] h fun v3 h4 => ∃ p5 : Option PA, ∃ n6 : Int, v3 = .tup [.ptr p5, .int .i64 n6] ∧
 vif (n6 != 0)
 (Q (.int .i64 n6) h4)
 (AC Try.prog 89 [.ptr p1] h4 fun v7 h8 => ∃ n9 : Int, v7 = .int .i64 n9 ∧
 vif (n9 != 0)
 (Q (.int .i64 n9) h8)
 (vPtr p1 fun p10 =>
 ∃ q11 : Option SL, cellsAt h8 ⟨p10.b, p10.o + 1⟩ 1 = some [.sl q11] ∧
 ∃ (I13 : List AV → Heap → Prop) (m14 : List AV → Heap → Nat), I13 [.int .i64 0] h8 ∧
 ∀ n12 : Int, ∀ h15 : Heap, I13 [.int .i64 n12] h15 →
 vif (decide (n12 < (slLen q11 : Int)))
 (vIdx q11 n12 66 fun p16 =>
 ∃ p17 : Option PA, ∃ n18 : Int, exC .u8 64 fun l19 =>
 cellsAt h15 p16 66 = some ([.ptr p17, .int .i64 n18] ++ (l19)) ∧
 aEq Try.prog 136 h15 (.ptr p17) (.ptr p5) fun b20 =>
 vif b20
 (AC Try.prog 92 [.agg ([.ptr p17, .int .i64 n18] ++ (l19)), .int .i64 64] h15 fun v21 h22 => v21 = .tup [] ∧
 (True) ∧ I13 [.int .i64 (wrapK .i64 (n12 + 1))] h22 ∧ m14 [.int .i64 (wrapK .i64 (n12 + 1))] h22 < m14 [.int .i64 n12] h15)
 ((True) ∧ I13 [.int .i64 (wrapK .i64 (n12 + 1))] h15 ∧ m14 [.int .i64 (wrapK .i64 (n12 + 1))] h15 < m14 [.int .i64 n12] h15))
 (AC Try.prog 95 [.ptr p1, .ptr p5] h15 fun v23 h24 => v23 = .tup [] ∧
 Q (.int .i64 0) h24)))
theorem ac43 {p1 : Option PA} {s2 : List UInt8} {h : Heap} {Q : AV → Heap → Prop} (hk : vc43 p1 s2 h Q) : AC Try.prog 43 [.ptr p1, .str s2] h Q :=
 AC_by (H := hintsOf [9] [(0, [29], [])]) (by kernel_rfl) (by kernel_rfl) hk

/-- files.Disk).Rename: what it asks. -/
def vc44 (p1 : Option PA) (s2 : List UInt8) (s3 : List UInt8) (h : Heap) (Q : AV → Heap → Prop) : Prop :=
 AC Try.prog 86 [.ptr p1] h fun v4 h5 => ∃ b6 : Bool, v4 = .bool b6 ∧
 vif b6
 (AC Try.prog 87 [.str s3] h5 fun v7 h8 => ∃ b9 : Bool, v7 = .bool b9 ∧
 vif (!b9)
 (Q (.int .i64 1) h8)
 (AC Try.prog 90 [.ptr p1, .str s2] h8 fun v10 h11 => ∃ p12 : Option PA, ∃ n13 : Int, v10 = .tup [.ptr p12, .int .i64 n13] ∧
 vif (n13 != 0)
 (Q (.int .i64 n13) h11)
 (AC Try.prog 89 [.ptr p1] h11 fun v14 h15 => ∃ n16 : Int, v14 = .int .i64 n16 ∧
 vif (n16 != 0)
 (Q (.int .i64 n16) h15)
 (vif (s2 == s3)
 (Q (.int .i64 0) h15)
 (vPtr p1 fun p17 =>
 ∃ m18 : Option Nat, cellsAt h15 ⟨p17.b, p17.o + 0⟩ 1 = some [.map m18] ∧
 PLookup Try.prog 9 136 m18 (.str s3) false h15 fun v19 =>
 ∃ p20 : Option PA, v19 = .ptr p20 ∧
 vif (!(p20.isNone))
 (AC Try.prog 95 [.ptr p1, .ptr p20] h15 fun v21 h22 => v21 = .tup [] ∧
 vPtr p1 fun p23 =>
 ∃ m24 : Option Nat, cellsAt h22 ⟨p23.b, p23.o + 0⟩ 1 = some [.map m24] ∧
 PDelete Try.prog 9 m24 (.str s2) h22 fun h25 =>
 vPtr p12 fun p26 =>
 PStore h25 ⟨p26.b, p26.o + 0⟩ [.str s3] fun h27 =>
 vPtr p1 fun p28 =>
 ∃ m29 : Option Nat, cellsAt h27 ⟨p28.b, p28.o + 0⟩ 1 = some [.map m29] ∧
 vMap m29 fun a31 => PUpdate Try.prog 9 a31 (.str s3) (.ptr p12) h27 fun h30 =>
 Q (.int .i64 0) h30)
 (vPtr p1 fun p32 =>
 ∃ m33 : Option Nat, cellsAt h15 ⟨p32.b, p32.o + 0⟩ 1 = some [.map m33] ∧
 PDelete Try.prog 9 m33 (.str s2) h15 fun h34 =>
 vPtr p12 fun p35 =>
 PStore h34 ⟨p35.b, p35.o + 0⟩ [.str s3] fun h36 =>
 vPtr p1 fun p37 =>
 ∃ m38 : Option Nat, cellsAt h36 ⟨p37.b, p37.o + 0⟩ 1 = some [.map m38] ∧
 vMap m38 fun a40 => PUpdate Try.prog 9 a40 (.str s3) (.ptr p12) h36 fun h39 =>
 Q (.int .i64 0) h39))))))
 (AC Try.prog 90 [.ptr p1, .str s2] h5 fun v41 h42 => ∃ p43 : Option PA, ∃ n44 : Int, v41 = .tup [.ptr p43, .int .i64 n44] ∧
 vif (n44 != 0)
 (Q (.int .i64 n44) h42)
 (AC Try.prog 89 [.ptr p1] h42 fun v45 h46 => ∃ n47 : Int, v45 = .int .i64 n47 ∧
 vif (n47 != 0)
 (Q (.int .i64 n47) h46)
 (vif (s2 == s3)
 (Q (.int .i64 0) h46)
 (vPtr p1 fun p48 =>
 ∃ m49 : Option Nat, cellsAt h46 ⟨p48.b, p48.o + 0⟩ 1 = some [.map m49] ∧
 PLookup Try.prog 9 136 m49 (.str s3) false h46 fun v50 =>
 ∃ p51 : Option PA, v50 = .ptr p51 ∧
 vif (!(p51.isNone))
 (AC Try.prog 95 [.ptr p1, .ptr p51] h46 fun v52 h53 => v52 = .tup [] ∧
 vPtr p1 fun p54 =>
 ∃ m55 : Option Nat, cellsAt h53 ⟨p54.b, p54.o + 0⟩ 1 = some [.map m55] ∧
 PDelete Try.prog 9 m55 (.str s2) h53 fun h56 =>
 vPtr p43 fun p57 =>
 PStore h56 ⟨p57.b, p57.o + 0⟩ [.str s3] fun h58 =>
 vPtr p1 fun p59 =>
 ∃ m60 : Option Nat, cellsAt h58 ⟨p59.b, p59.o + 0⟩ 1 = some [.map m60] ∧
 vMap m60 fun a62 => PUpdate Try.prog 9 a62 (.str s3) (.ptr p43) h58 fun h61 =>
 Q (.int .i64 0) h61)
 (vPtr p1 fun p63 =>
 ∃ m64 : Option Nat, cellsAt h46 ⟨p63.b, p63.o + 0⟩ 1 = some [.map m64] ∧
 PDelete Try.prog 9 m64 (.str s2) h46 fun h65 =>
 vPtr p43 fun p66 =>
 PStore h65 ⟨p66.b, p66.o + 0⟩ [.str s3] fun h67 =>
 vPtr p1 fun p68 =>
 ∃ m69 : Option Nat, cellsAt h67 ⟨p68.b, p68.o + 0⟩ 1 = some [.map m69] ∧
 vMap m69 fun a71 => PUpdate Try.prog 9 a71 (.str s3) (.ptr p43) h67 fun h70 =>
 Q (.int .i64 0) h70)))))
theorem ac44 {p1 : Option PA} {s2 : List UInt8} {s3 : List UInt8} {h : Heap} {Q : AV → Heap → Prop} (hk : vc44 p1 s2 s3 h Q) : AC Try.prog 44 [.ptr p1, .str s2, .str s3] h Q :=
 AC_by (H := hintsOf [] []) (by kernel_rfl) (by kernel_rfl) hk

/-- files.Disk).Delete: what it asks. -/
def vc45 (p1 : Option PA) (s2 : List UInt8) (h : Heap) (Q : AV → Heap → Prop) : Prop :=
 AC Try.prog 90 [.ptr p1, .str s2] h fun v3 h4 => ∃ p5 : Option PA, ∃ n6 : Int, v3 = .tup [.ptr p5, .int .i64 n6] ∧
 vif (n6 != 0)
 (Q (.int .i64 n6) h4)
 (AC Try.prog 89 [.ptr p1] h4 fun v7 h8 => ∃ n9 : Int, v7 = .int .i64 n9 ∧
 vif (n9 != 0)
 (Q (.int .i64 n9) h8)
 (AC Try.prog 95 [.ptr p1, .ptr p5] h8 fun v10 h11 => v10 = .tup [] ∧
 vPtr p1 fun p12 =>
 ∃ m13 : Option Nat, cellsAt h11 ⟨p12.b, p12.o + 0⟩ 1 = some [.map m13] ∧
 PDelete Try.prog 9 m13 (.str s2) h11 fun h14 =>
 Q (.int .i64 0) h14))
theorem ac45 {p1 : Option PA} {s2 : List UInt8} {h : Heap} {Q : AV → Heap → Prop} (hk : vc45 p1 s2 h Q) : AC Try.prog 45 [.ptr p1, .str s2] h Q :=
 AC_by (H := hintsOf [] []) (by kernel_rfl) (by kernel_rfl) hk

/-- files.Disk).List: what it asks. -/
def vc46 (p1 : Option PA) (h : Heap) (Q : AV → Heap → Prop) : Prop :=
 AC Try.prog 86 [.ptr p1] h fun v2 h3 => ∃ b4 : Bool, v2 = .bool b4 ∧
 vif (!b4)
 (Q (.sl none) h3)
 (vPtr p1 fun p5 =>
 ∃ m6 : Option Nat, cellsAt h3 ⟨p5.b, p5.o + 0⟩ 1 = some [.map m6] ∧
 AC Try.prog 96 [.map m6] h3 fun v7 h8 => ∃ v9 : AV, v9.one = true ∧ v7 = v9 ∧
 AC Try.prog 84 [v9] h8 fun v10 h11 => ∃ q12 : Option SL, v10 = .sl q12 ∧
 ∃ (I15 : List AV → Heap → Prop) (m16 : List AV → Heap → Nat), I15 [.sl none, .int .i64 0] h11 ∧
 ∀ q13 : Option SL, ∀ n14 : Int, ∀ h17 : Heap, I15 [.sl q13, .int .i64 n14] h17 →
 vif (decide (n14 < (slLen q12 : Int)))
 (vIdx q12 n14 1 fun p18 =>
 ∃ s19 : List UInt8, cellsAt h17 p18 1 = some [.str s19] ∧
 vPtr p1 fun p20 =>
 ∃ m21 : Option Nat, cellsAt h17 ⟨p20.b, p20.o + 0⟩ 1 = some [.map m21] ∧
 PLookup Try.prog 9 136 m21 (.str s19) false h17 fun v22 =>
 ∃ p23 : Option PA, v22 = .ptr p23 ∧
 vPtr p23 fun p24 =>
 ∃ q25 : Option SL, cellsAt h17 ⟨p24.b, p24.o + 1⟩ 1 = some [.sl q25] ∧
 PNew [.str s19, .int .i64 (slLen q25 : Int)] true h17 fun a26 h27 =>
 PAppendS 2 24 q13 (some ⟨a26, 0, 1, 1, 0⟩) h27 fun q28 h29 =>
 (True) ∧ I15 [.sl q28, .int .i64 (wrapK .i64 (n14 + 1))] h29 ∧ m16 [.sl q28, .int .i64 (wrapK .i64 (n14 + 1))] h29 < m16 [.sl q13, .int .i64 n14] h17)
 (Q (.sl q13) h17))
theorem ac46 {p1 : Option PA} {h : Heap} {Q : AV → Heap → Prop} (hk : vc46 p1 h Q) : AC Try.prog 46 [.ptr p1] h Q :=
 AC_by (H := hintsOf [] [(0, [3, 16], [])]) (by kernel_rfl) (by kernel_rfl) hk

/-- files.Disk).Pending: what it asks. -/
def vc47 (p1 : Option PA) (h : Heap) (Q : AV → Heap → Prop) : Prop :=
 AC Try.prog 86 [.ptr p1] h fun v2 h3 => ∃ b4 : Bool, v2 = .bool b4 ∧
 vif (!b4)
 (Q (.sl none) h3)
 (vPtr p1 fun p5 =>
 ∃ q6 : Option SL, cellsAt h3 ⟨p5.b, p5.o + 1⟩ 1 = some [.sl q6] ∧
 ∃ (I9 : List AV → Heap → Prop) (m10 : List AV → Heap → Nat), I9 [.sl none, .int .i64 0] h3 ∧
 ∀ q7 : Option SL, ∀ n8 : Int, ∀ h11 : Heap, I9 [.sl q7, .int .i64 n8] h11 →
 vif (decide (n8 < (slLen q6 : Int)))
 (vIdx q6 n8 66 fun p12 =>
 ∃ p13 : Option PA, ∃ n14 : Int, exC .u8 64 fun l15 =>
 cellsAt h11 p12 66 = some ([.ptr p13, .int .i64 n14] ++ (l15)) ∧
 vPtr p13 fun p16 =>
 ∃ s17 : List UInt8, cellsAt h11 ⟨p16.b, p16.o + 0⟩ 1 = some [.str s17] ∧
 PNew [.str s17, .int .i64 n14] true h11 fun a18 h19 =>
 PAppendS 2 24 q7 (some ⟨a18, 0, 1, 1, 0⟩) h19 fun q20 h21 =>
 (True) ∧ I9 [.sl q20, .int .i64 (wrapK .i64 (n8 + 1))] h21 ∧ m10 [.sl q20, .int .i64 (wrapK .i64 (n8 + 1))] h21 < m10 [.sl q7, .int .i64 n8] h11)
 (Q (.sl q7) h11))
theorem ac47 {p1 : Option PA} {h : Heap} {Q : AV → Heap → Prop} (hk : vc47 p1 h Q) : AC Try.prog 47 [.ptr p1] h Q :=
 AC_by (H := hintsOf [5] [(0, [3, 14], [])]) (by kernel_rfl) (by kernel_rfl) hk

/-- files.Disk).Used: what it asks. -/
def vc48 (p1 : Option PA) (h : Heap) (Q : AV → Heap → Prop) : Prop :=
 AC Try.prog 46 [.ptr p1] h fun v2 h3 => ∃ q4 : Option SL, v2 = .sl q4 ∧
 ∃ (I7 : List AV → Heap → Prop) (m8 : List AV → Heap → Nat), I7 [.int .i64 0, .int .i64 0] h3 ∧
 ∀ n5 : Int, ∀ n6 : Int, ∀ h9 : Heap, I7 [.int .i64 n5, .int .i64 n6] h9 →
 vif (decide (n6 < (slLen q4 : Int)))
 (vIdx q4 n6 2 fun p10 =>
 ∃ s11 : List UInt8, ∃ n12 : Int, cellsAt h9 p10 2 = some [.str s11, .int .i64 n12] ∧
 (True) ∧ I7 [.int .i64 (wrapK .i64 (n5 + n12)), .int .i64 (wrapK .i64 (n6 + 1))] h9 ∧ m8 [.int .i64 (wrapK .i64 (n5 + n12)), .int .i64 (wrapK .i64 (n6 + 1))] h9 < m8 [.int .i64 n5, .int .i64 n6] h9)
 (Q (.int .i64 n5) h9)
theorem ac48 {p1 : Option PA} {h : Heap} {Q : AV → Heap → Prop} (hk : vc48 p1 h Q) : AC Try.prog 48 [.ptr p1] h Q :=
 AC_by (H := hintsOf [5] [(0, [3, 9], [])]) (by kernel_rfl) (by kernel_rfl) hk

/-- files.Disk).made: what it asks. -/
def vc86 (p1 : Option PA) (h : Heap) (Q : AV → Heap → Prop) : Prop :=
 vif (!(p1.isNone))
 (vPtr p1 fun p2 =>
 ∃ m3 : Option Nat, cellsAt h ⟨p2.b, p2.o + 0⟩ 1 = some [.map m3] ∧
 Q (.bool (!(m3.isNone))) h)
 (Q (.bool false) h)
theorem ac86 {p1 : Option PA} {h : Heap} {Q : AV → Heap → Prop} (hk : vc86 p1 h Q) : AC Try.prog 86 [.ptr p1] h Q :=
 AC_by (H := hintsOf [] []) (by kernel_rfl) (by kernel_rfl) hk

/-- files.may: what it asks. -/
def vc87 (s1 : List UInt8) (h : Heap) (Q : AV → Heap → Prop) : Prop :=
 vif (decide ((s1.length : Int) ≥ 1))
 (Q (.bool (decide ((s1.length : Int) ≤ 24))) h)
 (Q (.bool false) h)
theorem ac87 {s1 : List UInt8} {h : Heap} {Q : AV → Heap → Prop} (hk : vc87 s1 h Q) : AC Try.prog 87 [.str s1] h Q :=
 AC_by (H := hintsOf [] []) (by kernel_rfl) (by kernel_rfl) hk

/-- files.Disk).ready: what it asks. -/
def vc88 (p1 : Option PA) (h : Heap) (Q : AV → Heap → Prop) : Prop :=
 AC Try.prog 86 [.ptr p1] h fun v2 h3 => ∃ b4 : Bool, v2 = .bool b4 ∧
 vif (!b4)
 (Q (.int .i64 6) h3)
 (vPtr p1 fun p5 =>
 ∃ b6 : Bool, cellsAt h3 ⟨p5.b, p5.o + 4⟩ 1 = some [.bool b6] ∧
 vif b6
 (Q (.int .i64 50) h3)
 (Q (.int .i64 0) h3))
theorem ac88 {p1 : Option PA} {h : Heap} {Q : AV → Heap → Prop} (hk : vc88 p1 h Q) : AC Try.prog 88 [.ptr p1] h Q :=
 AC_by (H := hintsOf [] []) (by kernel_rfl) (by kernel_rfl) hk

/-- files.Disk).deed: what it asks. -/
def vc89 (p1 : Option PA) (h : Heap) (Q : AV → Heap → Prop) : Prop :=
 vPtr p1 fun p2 =>
 ∃ n3 : Int, cellsAt h ⟨p2.b, p2.o + 3⟩ 1 = some [.int .i64 n3] ∧
 vif (n3 == 0)
 (vPtr p1 fun p4 =>
 PStore h ⟨p4.b, p4.o + 4⟩ [.bool true] fun h5 =>
 Q (.int .i64 50) h5)
 (vPtr p1 fun p6 =>
 ∃ n7 : Int, cellsAt h ⟨p6.b, p6.o + 3⟩ 1 = some [.int .i64 n7] ∧
 vif (decide (n7 > 0))
 (vPtr p1 fun p8 =>
 ∃ n9 : Int, cellsAt h ⟨p8.b, p8.o + 3⟩ 1 = some [.int .i64 n9] ∧
 vPtr p1 fun p10 =>
 PStore h ⟨p10.b, p10.o + 3⟩ [.int .i64 (wrapK .i64 (n9 - 1))] fun h11 =>
 Q (.int .i64 0) h11)
 (Q (.int .i64 0) h))
theorem ac89 {p1 : Option PA} {h : Heap} {Q : AV → Heap → Prop} (hk : vc89 p1 h Q) : AC Try.prog 89 [.ptr p1] h Q :=
 AC_by (H := hintsOf [] []) (by kernel_rfl) (by kernel_rfl) hk

/-- files.Disk).find: what it asks. -/
def vc90 (p1 : Option PA) (s2 : List UInt8) (h : Heap) (Q : AV → Heap → Prop) : Prop :=
 AC Try.prog 88 [.ptr p1] h fun v3 h4 => ∃ n5 : Int, v3 = .int .i64 n5 ∧
 vif (n5 != 0)
 (Q (.tup [.ptr none, .int .i64 n5]) h4)
 (vPtr p1 fun p6 =>
 ∃ m7 : Option Nat, cellsAt h4 ⟨p6.b, p6.o + 0⟩ 1 = some [.map m7] ∧
 PLookup Try.prog 9 136 m7 (.str s2) false h4 fun v8 =>
 ∃ p9 : Option PA, v8 = .ptr p9 ∧
 vif (p9.isNone)
 (Q (.tup [.ptr none, .int .i64 4]) h4)
 (Q (.tup [.ptr p9, .int .i64 0]) h4))
theorem ac90 {p1 : Option PA} {s2 : List UInt8} {h : Heap} {Q : AV → Heap → Prop} (hk : vc90 p1 s2 h Q) : AC Try.prog 90 [.ptr p1, .str s2] h Q :=
 AC_by (H := hintsOf [] []) (by kernel_rfl) (by kernel_rfl) hk

/-- files.Disk).write: what it asks. -/
def vc91 (p1 : Option PA) (p2 : Option PA) (n3 : Int) (l4 : Nat → Int) (h : Heap) (Q : AV → Heap → Prop) : Prop :=
 vPtr p2 fun p5 =>
 ∃ q6 : Option SL, cellsAt h ⟨p5.b, p5.o + 1⟩ 1 = some [.sl q6] ∧
 vIdx q6 n3 64 fun p7 =>
 PStore h p7 (cel .u8 64 l4) fun h8 =>
 vPtr p1 fun p9 =>
 ∃ q10 : Option SL, cellsAt h8 ⟨p9.b, p9.o + 1⟩ 1 = some [.sl q10] ∧
 PNew ([.ptr p2, .int .i64 n3] ++ ((cel .u8 64 l4))) true h8 fun a11 h12 =>
 (∃ q17 : Option SL, cellsAt h12 ⟨p9.b, p9.o + 1⟩ 1 = some [.sl q17] ∧
 LV.val (.sl q17) = LV.val (.sl q10)) ∧
 PAppendS 66 80 q10 (some ⟨a11, 0, 1, 1, 0⟩) h12 fun q13 h14 =>
 vPtr p1 fun p15 =>
 PStore h14 ⟨p15.b, p15.o + 1⟩ [.sl q13] fun h16 =>
 Q (.tup []) h16
theorem ac91 {p1 : Option PA} {p2 : Option PA} {n3 : Int} {l4 : Nat → Int} {h : Heap} {Q : AV → Heap → Prop} (hk : vc91 p1 p2 n3 l4 h Q) : AC Try.prog 91 [.ptr p1, .ptr p2, .int .i64 n3, .agg (cel .u8 64 l4)] h Q :=
 AC_by (H := hintsOf [7] []) (by kernel_rfl) (by kernel_rfl) hk

/-- files.pend).keep: what it asks. -/
def vc92 (p1 : Option PA) (n2 : Int) (l3 : Nat → Int) (n4 : Int) (h : Heap) (Q : AV → Heap → Prop) : Prop :=
 PNew ([.ptr p1, .int .i64 n2] ++ ((cel .u8 64 l3))) true h fun a5 h6 =>
 vif (decide ((minI n4 64) < 1))
 (Q (.tup []) h6)
 (∃ (I7 : List AV → Heap → Prop) (m8 : List AV → Heap → Nat), I7 [] h6 ∧
 ∀ h9 : Heap, I7 [] h9 →
 ∃ p10 : Option PA, cellsAt h9 ⟨a5, 0⟩ 1 = some [.ptr p10] ∧
 vPtr p10 fun p11 =>
 ∃ q12 : Option SL, cellsAt h9 ⟨p11.b, p11.o + 2⟩ 1 = some [.sl q12] ∧
 ∃ n13 : Int, cellsAt h9 ⟨a5, 1⟩ 1 = some [.int .i64 n13] ∧
 vif (decide ((slLen q12 : Int) ≤ n13))
 (∃ p14 : Option PA, cellsAt h9 ⟨a5, 0⟩ 1 = some [.ptr p14] ∧
 ∃ p15 : Option PA, cellsAt h9 ⟨a5, 0⟩ 1 = some [.ptr p15] ∧
 vPtr p15 fun p16 =>
 ∃ q17 : Option SL, cellsAt h9 ⟨p16.b, p16.o + 2⟩ 1 = some [.sl q17] ∧
 PNew (List.replicate 64 (AV.int .u8 0)) true h9 fun a18 h19 =>
 (∃ q27 : Option SL, cellsAt h19 ⟨p16.b, p16.o + 2⟩ 1 = some [.sl q27] ∧
 LV.val (.sl q27) = LV.val (.sl q17)) ∧
 (∃ p26 : Option PA, cellsAt h19 ⟨a5, 0⟩ 1 = some [.ptr p26] ∧
 LV.val (.ptr p26) = LV.val (.ptr p15)) ∧
 (∃ p25 : Option PA, cellsAt h19 ⟨a5, 0⟩ 1 = some [.ptr p25] ∧
 LV.val (.ptr p25) = LV.val (.ptr p14)) ∧
 PAppendS 64 64 q17 (some ⟨a18, 0, 1, 1, 0⟩) h19 fun q20 h21 =>
 (∃ p24 : Option PA, cellsAt h21 ⟨a5, 0⟩ 1 = some [.ptr p24] ∧
 LV.val (.ptr p24) = LV.val (.ptr p14)) ∧
 vPtr p14 fun p22 =>
 PStore h21 ⟨p22.b, p22.o + 2⟩ [.sl q20] fun h23 =>
 (True) ∧ I7 [] h23 ∧ m8 [] h23 < m8 [] h9)
 (∃ p28 : Option PA, cellsAt h9 ⟨a5, 0⟩ 1 = some [.ptr p28] ∧
 vPtr p28 fun p29 =>
 ∃ q30 : Option SL, cellsAt h9 ⟨p29.b, p29.o + 2⟩ 1 = some [.sl q30] ∧
 ∃ n31 : Int, cellsAt h9 ⟨a5, 1⟩ 1 = some [.int .i64 n31] ∧
 vIdx q30 n31 64 fun p32 =>
 PSlice 1 (some ⟨p32.b, p32.o, 64, 64, 0⟩) 0 (some (minI n4 64)) none fun q33 =>
 PSlice 1 (some ⟨a5, 2, 64, 64, 0⟩) 0 (some (minI n4 64)) none fun q34 =>
 PCopyS 1 q33 q34 h9 fun n35 h36 =>
 Q (.tup []) h36))
theorem ac92 {p1 : Option PA} {n2 : Int} {l3 : Nat → Int} {n4 : Int} {h : Heap} {Q : AV → Heap → Prop} (hk : vc92 p1 n2 l3 n4 h Q) : AC Try.prog 92 [.agg ([.ptr p1, .int .i64 n2] ++ ((cel .u8 64 l3))), .int .i64 n4] h Q :=
 AC_by (H := hintsOf [] [(0, [], [])]) (by kernel_rfl) (by kernel_rfl) hk

/-- files.sector]: what it asks. -/
def vc93 (q1 : Option SL) (h : Heap) (Q : AV → Heap → Prop) : Prop :=
 vif (q1.isNone)
 (Q (.sl none) h)
 (PNew [] true h fun a2 h3 =>
 PAppendS 64 64 (some ⟨a2, 0, 0, 0, 0⟩) q1 h3 fun q4 h5 =>
 Q (.sl q4) h5)
theorem ac93 {q1 : Option SL} {h : Heap} {Q : AV → Heap → Prop} (hk : vc93 q1 h Q) : AC Try.prog 93 [.sl q1] h Q :=
 AC_by (H := hintsOf [] []) (by kernel_rfl) (by kernel_rfl) hk

/-- files.Disk).forget: what it asks. -/
def vc95 (p1 : Option PA) (p2 : Option PA) (h : Heap) (Q : AV → Heap → Prop) : Prop :=
 PNew [.ptr p2] true h fun a3 h4 =>
 vPtr p1 fun p5 =>
 ∃ q6 : Option SL, cellsAt h4 ⟨p5.b, p5.o + 1⟩ 1 = some [.sl q6] ∧
 AC Try.prog 123 [.sl q6, .func (.func 124) [] [.ptr (some ⟨a3, 0⟩)]] h4 fun v7 h8 => ∃ q9 : Option SL, v7 = .sl q9 ∧
 vPtr p1 fun p10 =>
 PStore h8 ⟨p10.b, p10.o + 1⟩ [.sl q9] fun h11 =>
 Q (.tup []) h11
theorem ac95 {p1 : Option PA} {p2 : Option PA} {h : Heap} {Q : AV → Heap → Prop} (hk : vc95 p1 p2 h Q) : AC Try.prog 95 [.ptr p1, .ptr p2] h Q :=
 AC_by (H := hintsOf [] []) (by kernel_rfl) (by kernel_rfl) hk

/-- files.pend]: what it asks. -/
def vc123 (q1 : Option SL) (p2 : Option PA) (h : Heap) (Q : AV → Heap → Prop) : Prop :=
 AC Try.prog 136 [.sl q1, .func (.func 124) [] [.ptr p2]] h fun v3 h4 => ∃ n5 : Int, v3 = .int .i64 n5 ∧
 vif (n5 == (-1))
 (Q (.sl q1) h4)
 (∃ (I8 : List AV → Heap → Prop) (m9 : List AV → Heap → Nat), I8 [.int .i64 n5, .int .i64 (wrapK .i64 (n5 + 1))] h4 ∧
 ∀ n6 : Int, ∀ n7 : Int, ∀ h10 : Heap, I8 [.int .i64 n6, .int .i64 n7] h10 →
 vif (decide (n7 < (slLen q1 : Int)))
 (vIdx q1 n7 66 fun p11 =>
 ∃ p12 : Option PA, ∃ n13 : Int, exC .u8 64 fun l14 =>
 cellsAt h10 p11 66 = some ([.ptr p12, .int .i64 n13] ++ (l14)) ∧
 AC Try.prog 124 [.agg ([.ptr p12, .int .i64 n13] ++ (l14)), .ptr p2] h10 fun v15 h16 => ∃ b17 : Bool, v15 = .bool b17 ∧
 vif (!b17)
 (vIdx q1 n6 66 fun p18 =>
 PStore h16 p18 ([.ptr p12, .int .i64 n13] ++ (l14)) fun h19 =>
 (True) ∧ I8 [.int .i64 (wrapK .i64 (n6 + 1)), .int .i64 (wrapK .i64 (n7 + 1))] h19 ∧ m9 [.int .i64 (wrapK .i64 (n6 + 1)), .int .i64 (wrapK .i64 (n7 + 1))] h19 < m9 [.int .i64 n6, .int .i64 n7] h10)
 ((True) ∧ I8 [.int .i64 n6, .int .i64 (wrapK .i64 (n7 + 1))] h16 ∧ m9 [.int .i64 n6, .int .i64 (wrapK .i64 (n7 + 1))] h16 < m9 [.int .i64 n6, .int .i64 n7] h10))
 (PSlice 66 q1 n6 none none fun q20 =>
 PClear ([.ptr none, .int .i64 0] ++ ((List.replicate 64 (AV.int .u8 0)))) q20 h10 fun h21 =>
 PSlice 66 q1 0 (some n6) none fun q22 =>
 Q (.sl q22) h21))
theorem ac123 {q1 : Option SL} {p2 : Option PA} {h : Heap} {Q : AV → Heap → Prop} (hk : vc123 q1 p2 h Q) : AC Try.prog 123 [.sl q1, .func (.func 124) [] [.ptr p2]] h Q :=
 AC_by (H := hintsOf [7] [(0, [5, 6], [])]) (by kernel_rfl) (by kernel_rfl) hk

/-- files.Disk).forget$1: what it asks. -/
def vc124 (p1 : Option PA) (n2 : Int) (l3 : Nat → Int) (p4 : Option PA) (h : Heap) (Q : AV → Heap → Prop) : Prop :=
 vPtr p4 fun p5 =>
 ∃ p6 : Option PA, cellsAt h p5 1 = some [.ptr p6] ∧
 aEq Try.prog 136 h (.ptr p1) (.ptr p6) fun b7 =>
 Q (.bool b7) h
theorem ac124 {p1 : Option PA} {n2 : Int} {l3 : Nat → Int} {p4 : Option PA} {h : Heap} {Q : AV → Heap → Prop} (hk : vc124 p1 n2 l3 p4 h Q) : AC Try.prog 124 [.agg ([.ptr p1, .int .i64 n2] ++ ((cel .u8 64 l3))), .ptr p4] h Q :=
 AC_by (H := hintsOf [2] []) (by kernel_rfl) (by kernel_rfl) hk

/-- files.pend]: what it asks. -/
def vc136 (q1 : Option SL) (p2 : Option PA) (h : Heap) (Q : AV → Heap → Prop) : Prop :=
 ∃ (I4 : List AV → Heap → Prop) (m5 : List AV → Heap → Nat), I4 [.int .i64 0] h ∧
 ∀ n3 : Int, ∀ h6 : Heap, I4 [.int .i64 n3] h6 →
 vif (decide (n3 < (slLen q1 : Int)))
 (vIdx q1 n3 66 fun p7 =>
 ∃ p8 : Option PA, ∃ n9 : Int, exC .u8 64 fun l10 =>
 cellsAt h6 p7 66 = some ([.ptr p8, .int .i64 n9] ++ (l10)) ∧
 AC Try.prog 124 [.agg ([.ptr p8, .int .i64 n9] ++ (l10)), .ptr p2] h6 fun v11 h12 => ∃ b13 : Bool, v11 = .bool b13 ∧
 vif b13
 (Q (.int .i64 n3) h12)
 ((True) ∧ I4 [.int .i64 (wrapK .i64 (n3 + 1))] h12 ∧ m5 [.int .i64 (wrapK .i64 (n3 + 1))] h12 < m5 [.int .i64 n3] h6))
 (Q (.int .i64 (-1)) h6)
theorem ac136 {q1 : Option SL} {p2 : Option PA} {h : Heap} {Q : AV → Heap → Prop} (hk : vc136 q1 p2 h Q) : AC Try.prog 136 [.sl q1, .func (.func 124) [] [.ptr p2]] h Q :=
 AC_by (H := hintsOf [] [(0, [8], [])]) (by kernel_rfl) (by kernel_rfl) hk

end Go.Proofs
