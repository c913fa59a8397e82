/- Conditions, printed. -/
import Derived.Test.YtankijamfedliaaGreatDoorCG10
import Derived.Test.YtankijamfedliaaGreatDoorProg
import Derived.KernelRfl
namespace Go.Proofs
open Go.Ab
set_option maxRecDepth 100000
set_option linter.unusedVariables false

/-- oxbowlaw10.Make: what it asks. -/
def vc11 (q1 : Option SL) (n2 : Int) (h : Heap) (Q : AV → Heap → Prop) : Prop :=
 AC Tryz.prog 37 [.int .i64 16384] h fun v3 h4 => ∃ p5 : Option PA, ∃ n6 : Int, v3 = .tup [.ptr p5, .int .i64 n6] ∧
 AC Tryz.prog 38 [.int .i64 n2] h4 fun v7 h8 => ∃ p9 : Option PA, ∃ n10 : Int, v7 = .tup [.ptr p9, .int .i64 n10] ∧
 AC Tryz.prog 39 [.sl q1] h8 fun v11 h12 => ∃ q13 : Option SL, v11 = .sl q13 ∧
 vif (n6 != 0)
 (Q (.ptr none) h12)
 (vif (n10 != 0)
 (Q (.ptr none) h12)
 (vif (p5.isNone)
 (Q (.ptr none) h12)
 (vif (p9.isNone)
 (Q (.ptr none) h12)
 (AC Tryz.prog 40 [.ptr p5, .str [115], .int .i64 7, .sl q13] h12 fun v14 h15 => ∃ n16 : Int, v14 = .int .i64 n16 ∧
 vif (n16 != 0)
 (Q (.ptr none) h15)
 (AC Tryz.prog 41 [.ptr p5, .str [115], .int .i64 7] h15 fun v17 h18 => ∃ p19 : Option PA, ∃ n20 : Int, v17 = .tup [.ptr p19, .int .i64 n20] ∧
 vif (n20 != 0)
 (Q (.ptr none) h18)
 (vif (p19.isNone)
 (Q (.ptr none) h18)
 (PNew [.ptr p5, .ptr p19, .ptr p9, .sl q13] true h18 fun a21 h22 =>
 Q (.ptr (some ⟨a21, 0⟩)) h22)))))))
theorem ac11 {q1 : Option SL} {n2 : Int} {h : Heap} {Q : AV → Heap → Prop} (hk : vc11 q1 n2 h Q) : AC Tryz.prog 11 [.sl q1, .int .i64 n2] h Q :=
 AC_by (H := hintsOf [] []) (by kernel_rfl) (by kernel_rfl) hk

end Go.Proofs

/- Conditions, printed. -/
namespace Go.Proofs
open Go.Ab
set_option maxRecDepth 100000
set_option linter.unusedVariables false

/-- oxbowlaw10.CursorTells: what it asks. -/
def vc3 (q1 : Option SL) (n2 : Int) (n3 : Int) (n4 : Int) (n5 : Int) (n6 : Int) (h : Heap) (Q : AV → Heap → Prop) : Prop :=
 AC Tryz.prog 9 [.sl q1] h fun v7 h8 => ∃ b9 : Bool, v7 = .bool b9 ∧
 vif b9
 (AC Tryz.prog 10 [] h8 fun v10 h11 => ∃ b12 : Bool, v10 = .bool b12 ∧
 Q (.bool b12) h11)
 (AC Tryz.prog 11 [.sl q1, .int .i64 1] h8 fun v13 h14 => ∃ p15 : Option PA, v13 = .ptr p15 ∧
 AC Tryz.prog 10 [] h14 fun v16 h17 => ∃ b18 : Bool, v16 = .bool b18 ∧
 vif (!b18)
 (Q (.bool false) h17)
 (vif (p15.isNone)
 (Q (.bool false) h17)
 (vPtr p15 fun p19 =>
 ∃ q20 : Option SL, cellsAt h17 ⟨p19.b, p19.o + 3⟩ 1 = some [.sl q20] ∧
 AC Tryz.prog 12 [.sl q20, .agg [.int .i64 n2, .int .i64 n3, .int .i64 n4, .int .i64 n5]] h17 fun v21 h22 => ∃ q23 : Option SL, v21 = .sl q23 ∧
 vPtr p15 fun p24 =>
 ∃ p25 : Option PA, cellsAt h22 ⟨p24.b, p24.o + 2⟩ 1 = some [.ptr p25] ∧
 vPtr p15 fun p26 =>
 ∃ p27 : Option PA, cellsAt h22 ⟨p26.b, p26.o + 1⟩ 1 = some [.ptr p27] ∧
 AC Tryz.prog 13 [.ptr p25, .ptr p27, .agg [.int .i64 n2, .int .i64 n3, .int .i64 n4, .int .i64 n5]] h22 fun v28 h29 => ∃ p30 : Option PA, ∃ n31 : Int, v28 = .tup [.ptr p30, .int .i64 n31] ∧
 vif (n31 != 0)
 (Q (.bool false) h29)
 (vif (p30.isNone)
 (Q (.bool false) h29)
 (∃ (J32 : List AV → Heap → Prop), (∃ (I34 : List AV → Heap → Prop) (m35 : List AV → Heap → Nat), I34 [.int .i64 0] h29 ∧
 ∀ n33 : Int, ∀ h36 : Heap, I34 [.int .i64 n33] h36 →
 vif (decide (n33 < (slLen q23 : Int)))
 (vif (n33 != n6)
 (AC Tryz.prog 14 [.ptr p30] h36 fun v37 h38 => ∃ n39 : Int, ∃ n40 : Int, ∃ n41 : Int, ∃ n42 : Int, ∃ b43 : Bool, v37 = .tup [.agg [.int .i64 n39, .int .i64 n40, .int .i64 n41, .int .i64 n42], .bool b43] ∧
 vif (!b43)
 (Q (.bool false) h38)
 (vIdx q23 n33 4 fun p44 =>
 ∃ n45 : Int, ∃ n46 : Int, ∃ n47 : Int, ∃ n48 : Int, cellsAt h38 p44 4 = some [.int .i64 n45, .int .i64 n46, .int .i64 n47, .int .i64 n48] ∧
 vif (!(((n39 == n45) && ((n40 == n46) && true)) && (((n41 == n47) && ((n42 == n48) && true)) && true)))
 (Q (.bool false) h38)
 (vPtr p15 fun p49 =>
 ∃ p50 : Option PA, cellsAt h38 ⟨p49.b, p49.o + 2⟩ 1 = some [.ptr p50] ∧
 AC Tryz.prog 15 [.ptr p50] h38 fun v51 h52 => ∃ n53 : Int, v51 = .int .i64 n53 ∧
 vif (n53 != 1)
 (Q (.bool false) h52)
 (AC Tryz.prog 16 [.ptr p30] h52 fun v54 h55 => ∃ n56 : Int, v54 = .int .i64 n56 ∧
 vif (n56 != 0)
 (Q (.bool false) h55)
 (((some [.int .i64 n2, .int .i64 n3, .int .i64 n4, .int .i64 n5] : Option (List AV)) = some [.int .i64 n2, .int .i64 n3, .int .i64 n4, .int .i64 n5] ∧ True) ∧ I34 [.int .i64 (wrapK .i64 (n33 + 1))] h55 ∧ m35 [.int .i64 (wrapK .i64 (n33 + 1))] h55 < m35 [.int .i64 n33] h36)))))
 (((some [.int .i64 n2, .int .i64 n3, .int .i64 n4, .int .i64 n5] : Option (List AV)) = some [.int .i64 n2, .int .i64 n3, .int .i64 n4, .int .i64 n5] ∧ True) ∧ J32 [] h36))
 (((some [.int .i64 n2, .int .i64 n3, .int .i64 n4, .int .i64 n5] : Option (List AV)) = some [.int .i64 n2, .int .i64 n3, .int .i64 n4, .int .i64 n5] ∧ True) ∧ J32 [] h36)) ∧
 ∀ h57 : Heap, J32 [] h57 →
 vif (decide (n6 ≥ 0))
 (vif (decide (n6 < (slLen q23 : Int)))
 (PSlice 4 q23 n6 none none fun q58 =>
 AC Tryz.prog 17 [.ptr p30] h57 fun v59 h60 => ∃ q61 : Option SL, ∃ n62 : Int, v59 = .tup [.sl q61, .int .i64 n62] ∧
 AC Tryz.prog 14 [.ptr p30] h60 fun v63 h64 => ∃ n65 : Int, ∃ n66 : Int, ∃ n67 : Int, ∃ n68 : Int, ∃ b69 : Bool, v63 = .tup [.agg [.int .i64 n65, .int .i64 n66, .int .i64 n67, .int .i64 n68], .bool b69] ∧
 vif (n62 == 0)
 (AC Tryz.prog 18 [.sl q61, .sl q58] h64 fun v70 h71 => ∃ b72 : Bool, v70 = .bool b72 ∧
 vif b72
 (vif (!b69)
 (AC Tryz.prog 16 [.ptr p30] h71 fun v73 h74 => ∃ n75 : Int, v73 = .int .i64 n75 ∧
 vif (n75 == 4)
 (vPtr p15 fun p76 =>
 ∃ p77 : Option PA, cellsAt h74 ⟨p76.b, p76.o + 2⟩ 1 = some [.ptr p77] ∧
 AC Tryz.prog 15 [.ptr p77] h74 fun v78 h79 => ∃ n80 : Int, v78 = .int .i64 n80 ∧
 vif (n80 == 0)
 (AC Tryz.prog 19 [.ptr p30] h79 fun v81 h82 => ∃ n83 : Int, v81 = .int .i64 n83 ∧
 Q (.bool (n83 == 0)) h82)
 (Q (.bool false) h79))
 (Q (.bool false) h74))
 (Q (.bool false) h71))
 (Q (.bool false) h71))
 (Q (.bool false) h64))
 (AC Tryz.prog 17 [.ptr p30] h57 fun v84 h85 => ∃ q86 : Option SL, ∃ n87 : Int, v84 = .tup [.sl q86, .int .i64 n87] ∧
 AC Tryz.prog 14 [.ptr p30] h85 fun v88 h89 => ∃ n90 : Int, ∃ n91 : Int, ∃ n92 : Int, ∃ n93 : Int, ∃ b94 : Bool, v88 = .tup [.agg [.int .i64 n90, .int .i64 n91, .int .i64 n92, .int .i64 n93], .bool b94] ∧
 vif (n87 == 0)
 (AC Tryz.prog 18 [.sl q86, .sl none] h89 fun v95 h96 => ∃ b97 : Bool, v95 = .bool b97 ∧
 vif b97
 (vif (!b94)
 (AC Tryz.prog 16 [.ptr p30] h96 fun v98 h99 => ∃ n100 : Int, v98 = .int .i64 n100 ∧
 vif (n100 == 4)
 (vPtr p15 fun p101 =>
 ∃ p102 : Option PA, cellsAt h99 ⟨p101.b, p101.o + 2⟩ 1 = some [.ptr p102] ∧
 AC Tryz.prog 15 [.ptr p102] h99 fun v103 h104 => ∃ n105 : Int, v103 = .int .i64 n105 ∧
 vif (n105 == 0)
 (AC Tryz.prog 19 [.ptr p30] h104 fun v106 h107 => ∃ n108 : Int, v106 = .int .i64 n108 ∧
 Q (.bool (n108 == 0)) h107)
 (Q (.bool false) h104))
 (Q (.bool false) h99))
 (Q (.bool false) h96))
 (Q (.bool false) h96))
 (Q (.bool false) h89)))
 (AC Tryz.prog 17 [.ptr p30] h57 fun v109 h110 => ∃ q111 : Option SL, ∃ n112 : Int, v109 = .tup [.sl q111, .int .i64 n112] ∧
 AC Tryz.prog 14 [.ptr p30] h110 fun v113 h114 => ∃ n115 : Int, ∃ n116 : Int, ∃ n117 : Int, ∃ n118 : Int, ∃ b119 : Bool, v113 = .tup [.agg [.int .i64 n115, .int .i64 n116, .int .i64 n117, .int .i64 n118], .bool b119] ∧
 vif (n112 == 0)
 (AC Tryz.prog 18 [.sl q111, .sl none] h114 fun v120 h121 => ∃ b122 : Bool, v120 = .bool b122 ∧
 vif b122
 (vif (!b119)
 (AC Tryz.prog 16 [.ptr p30] h121 fun v123 h124 => ∃ n125 : Int, v123 = .int .i64 n125 ∧
 vif (n125 == 4)
 (vPtr p15 fun p126 =>
 ∃ p127 : Option PA, cellsAt h124 ⟨p126.b, p126.o + 2⟩ 1 = some [.ptr p127] ∧
 AC Tryz.prog 15 [.ptr p127] h124 fun v128 h129 => ∃ n130 : Int, v128 = .int .i64 n130 ∧
 vif (n130 == 0)
 (AC Tryz.prog 19 [.ptr p30] h129 fun v131 h132 => ∃ n133 : Int, v131 = .int .i64 n133 ∧
 Q (.bool (n133 == 0)) h132)
 (Q (.bool false) h129))
 (Q (.bool false) h124))
 (Q (.bool false) h121))
 (Q (.bool false) h121))
 (Q (.bool false) h114)))))))
theorem ac3 {q1 : Option SL} {n2 : Int} {n3 : Int} {n4 : Int} {n5 : Int} {n6 : Int} {h : Heap} {Q : AV → Heap → Prop} (hk : vc3 q1 n2 n3 n4 n5 n6 h Q) : AC Tryz.prog 3 [.sl q1, .agg [.int .i64 n2, .int .i64 n3, .int .i64 n4, .int .i64 n5], .int .i64 n6] h Q :=
 AC_by (H := hintsCut [4, 12, 17] [(0, [11], [])] [(0, [], [], [])]) (by kernel_rfl) (by kernel_rfl) hk

end Go.Proofs

/- Conditions, printed. -/
namespace Go.Proofs
open Go.Ab
set_option maxRecDepth 100000
set_option linter.unusedVariables false

/-- oxbowlaw10.CursorCloses: what it asks. -/
def vc4 (q1 : Option SL) (n2 : Int) (n3 : Int) (n4 : Int) (n5 : Int) (n6 : Int) (h : Heap) (Q : AV → Heap → Prop) : Prop :=
 AC Tryz.prog 9 [.sl q1] h fun v7 h8 => ∃ b9 : Bool, v7 = .bool b9 ∧
 vif b9
 (AC Tryz.prog 10 [] h8 fun v10 h11 => ∃ b12 : Bool, v10 = .bool b12 ∧
 Q (.bool b12) h11)
 (vif (decide (n6 < 0))
 (AC Tryz.prog 10 [] h8 fun v13 h14 => ∃ b15 : Bool, v13 = .bool b15 ∧
 Q (.bool b15) h14)
 (vif (decide (n6 > 500))
 (AC Tryz.prog 10 [] h8 fun v16 h17 => ∃ b18 : Bool, v16 = .bool b18 ∧
 Q (.bool b18) h17)
 (AC Tryz.prog 11 [.sl q1, .int .i64 2] h8 fun v19 h20 => ∃ p21 : Option PA, v19 = .ptr p21 ∧
 AC Tryz.prog 10 [] h20 fun v22 h23 => ∃ b24 : Bool, v22 = .bool b24 ∧
 vif (!b24)
 (Q (.bool false) h23)
 (vif (p21.isNone)
 (Q (.bool false) h23)
 (vPtr p21 fun p25 =>
 ∃ p26 : Option PA, cellsAt h23 ⟨p25.b, p25.o + 2⟩ 1 = some [.ptr p26] ∧
 vPtr p21 fun p27 =>
 ∃ p28 : Option PA, cellsAt h23 ⟨p27.b, p27.o + 1⟩ 1 = some [.ptr p28] ∧
 AC Tryz.prog 13 [.ptr p26, .ptr p28, .agg [.int .i64 n2, .int .i64 n3, .int .i64 n4, .int .i64 n5]] h23 fun v29 h30 => ∃ p31 : Option PA, ∃ n32 : Int, v29 = .tup [.ptr p31, .int .i64 n32] ∧
 vif (n32 != 0)
 (Q (.bool false) h30)
 (vif (p31.isNone)
 (Q (.bool false) h30)
 (∃ (I34 : List AV → Heap → Prop) (m35 : List AV → Heap → Nat), I34 [.int .i64 0] h30 ∧
 ∀ n33 : Int, ∀ h36 : Heap, I34 [.int .i64 n33] h36 →
 vif (decide (n33 < n6))
 (AC Tryz.prog 16 [.ptr p31] h36 fun v37 h38 => ∃ n39 : Int, v37 = .int .i64 n39 ∧
 ((some [.int .i64 n2, .int .i64 n3, .int .i64 n4, .int .i64 n5] : Option (List AV)) = some [.int .i64 n2, .int .i64 n3, .int .i64 n4, .int .i64 n5] ∧ True) ∧ I34 [.int .i64 (wrapK .i64 (n33 + 1))] h38 ∧ m35 [.int .i64 (wrapK .i64 (n33 + 1))] h38 < m35 [.int .i64 n33] h36)
 (AC Tryz.prog 20 [.ptr p31] h36 fun v40 h41 => v40 = .tup [] ∧
 AC Tryz.prog 20 [.ptr p31] h41 fun v42 h43 => v42 = .tup [] ∧
 AC Tryz.prog 14 [.ptr p31] h43 fun v44 h45 => ∃ n46 : Int, ∃ n47 : Int, ∃ n48 : Int, ∃ n49 : Int, ∃ b50 : Bool, v44 = .tup [.agg [.int .i64 n46, .int .i64 n47, .int .i64 n48, .int .i64 n49], .bool b50] ∧
 AC Tryz.prog 17 [.ptr p31] h45 fun v51 h52 => ∃ q53 : Option SL, ∃ n54 : Int, v51 = .tup [.sl q53, .int .i64 n54] ∧
 vif (!b50)
 (AC Tryz.prog 16 [.ptr p31] h52 fun v55 h56 => ∃ n57 : Int, v55 = .int .i64 n57 ∧
 vif (n57 == 4)
 (vif (n54 == 0)
 (vif ((slLen q53 : Int) == 0)
 (vPtr p21 fun p58 =>
 ∃ p59 : Option PA, cellsAt h56 ⟨p58.b, p58.o + 2⟩ 1 = some [.ptr p59] ∧
 AC Tryz.prog 15 [.ptr p59] h56 fun v60 h61 => ∃ n62 : Int, v60 = .int .i64 n62 ∧
 Q (.bool (n62 == 0)) h61)
 (Q (.bool false) h56))
 (Q (.bool false) h56))
 (Q (.bool false) h56))
 (Q (.bool false) h52)))))))))
theorem ac4 {q1 : Option SL} {n2 : Int} {n3 : Int} {n4 : Int} {n5 : Int} {n6 : Int} {h : Heap} {Q : AV → Heap → Prop} (hk : vc4 q1 n2 n3 n4 n5 n6 h Q) : AC Tryz.prog 4 [.sl q1, .agg [.int .i64 n2, .int .i64 n3, .int .i64 n4, .int .i64 n5], .int .i64 n6] h Q :=
 AC_by (H := hintsOf [4, 11] [(0, [10], [])]) (by kernel_rfl) (by kernel_rfl) hk

end Go.Proofs

/- Conditions, printed. -/
namespace Go.Proofs
open Go.Ab
set_option maxRecDepth 100000
set_option linter.unusedVariables false

/-- oxbowlaw10.CursorPinned: what it asks. -/
def vc5 (q1 : Option SL) (n2 : Int) (n3 : Int) (n4 : Int) (n5 : Int) (n6 : Int) (h : Heap) (Q : AV → Heap → Prop) : Prop :=
 AC Tryz.prog 9 [.sl q1] h fun v7 h8 => ∃ b9 : Bool, v7 = .bool b9 ∧
 vif b9
 (AC Tryz.prog 10 [] h8 fun v10 h11 => ∃ b12 : Bool, v10 = .bool b12 ∧
 Q (.bool b12) h11)
 (AC Tryz.prog 11 [.sl q1, .int .i64 1] h8 fun v13 h14 => ∃ p15 : Option PA, v13 = .ptr p15 ∧
 AC Tryz.prog 10 [] h14 fun v16 h17 => ∃ b18 : Bool, v16 = .bool b18 ∧
 vif (!b18)
 (Q (.bool false) h17)
 (vif (p15.isNone)
 (Q (.bool false) h17)
 (vif (decide (n6 < 0))
 (Q (.bool true) h17)
 (vPtr p15 fun p19 =>
 ∃ p20 : Option PA, cellsAt h17 ⟨p19.b, p19.o + 1⟩ 1 = some [.ptr p20] ∧
 AC Tryz.prog 21 [.ptr p20] h17 fun v21 h22 => ∃ n23 : Int, v21 = .int .i64 n23 ∧
 vif (decide (n6 ≥ n23))
 (Q (.bool true) h22)
 (vPtr p15 fun p24 =>
 ∃ p25 : Option PA, cellsAt h22 ⟨p24.b, p24.o + 2⟩ 1 = some [.ptr p25] ∧
 vPtr p15 fun p26 =>
 ∃ p27 : Option PA, cellsAt h22 ⟨p26.b, p26.o + 1⟩ 1 = some [.ptr p27] ∧
 AC Tryz.prog 22 [.ptr p25, .ptr p27, .int .i64 n6] h22 fun v28 h29 => ∃ q30 : Option SL, ∃ n31 : Int, v28 = .tup [.sl q30, .int .i64 n31] ∧
 vif (n31 != 0)
 (Q (.bool false) h29)
 (vPtr p15 fun p32 =>
 ∃ p33 : Option PA, cellsAt h29 ⟨p32.b, p32.o + 2⟩ 1 = some [.ptr p33] ∧
 vPtr p15 fun p34 =>
 ∃ p35 : Option PA, cellsAt h29 ⟨p34.b, p34.o + 1⟩ 1 = some [.ptr p35] ∧
 AC Tryz.prog 13 [.ptr p33, .ptr p35, .agg [.int .i64 n2, .int .i64 n3, .int .i64 n4, .int .i64 n5]] h29 fun v36 h37 => ∃ p38 : Option PA, ∃ n39 : Int, v36 = .tup [.ptr p38, .int .i64 n39] ∧
 vif (n39 != 0)
 (vif (n39 == 90)
 (vif (p38.isNone)
 (vPtr p15 fun p40 =>
 ∃ p41 : Option PA, cellsAt h37 ⟨p40.b, p40.o + 2⟩ 1 = some [.ptr p41] ∧
 AC Tryz.prog 15 [.ptr p41] h37 fun v42 h43 => ∃ n44 : Int, v42 = .int .i64 n44 ∧
 Q (.bool (n44 == 1)) h43)
 (Q (.bool false) h37))
 (Q (.bool false) h37))
 (AC Tryz.prog 17 [.ptr p38] h37 fun v45 h46 => ∃ q47 : Option SL, ∃ n48 : Int, v45 = .tup [.sl q47, .int .i64 n48] ∧
 vPtr p15 fun p49 =>
 ∃ q50 : Option SL, cellsAt h46 ⟨p49.b, p49.o + 3⟩ 1 = some [.sl q50] ∧
 AC Tryz.prog 12 [.sl q50, .agg [.int .i64 n2, .int .i64 n3, .int .i64 n4, .int .i64 n5]] h46 fun v51 h52 => ∃ q53 : Option SL, v51 = .sl q53 ∧
 vif (n48 == 0)
 (AC Tryz.prog 18 [.sl q47, .sl q53] h52 fun v54 h55 => ∃ b56 : Bool, v54 = .bool b56 ∧
 vif b56
 (AC Tryz.prog 19 [.ptr p38] h55 fun v57 h58 => ∃ n59 : Int, v57 = .int .i64 n59 ∧
 Q (.bool (n59 == 0)) h58)
 (Q (.bool false) h55))
 (AC Tryz.prog 14 [.ptr p38] h52 fun v60 h61 => ∃ n62 : Int, ∃ n63 : Int, ∃ n64 : Int, ∃ n65 : Int, ∃ b66 : Bool, v60 = .tup [.agg [.int .i64 n62, .int .i64 n63, .int .i64 n64, .int .i64 n65], .bool b66] ∧
 vif (n48 == 90)
 (vif ((slLen q47 : Int) == 0)
 (vif (!b66)
 (AC Tryz.prog 19 [.ptr p38] h61 fun v67 h68 => ∃ n69 : Int, v67 = .int .i64 n69 ∧
 vif (n69 == 90)
 (vPtr p15 fun p70 =>
 ∃ p71 : Option PA, cellsAt h68 ⟨p70.b, p70.o + 2⟩ 1 = some [.ptr p71] ∧
 AC Tryz.prog 23 [.ptr p71, .str [115], .int .i64 n6] h68 fun v72 h73 => ∃ n74 : Int, v72 = .int .i64 n74 ∧
 vif (n74 == 0)
 (vPtr p15 fun p75 =>
 ∃ p76 : Option PA, cellsAt h73 ⟨p75.b, p75.o + 2⟩ 1 = some [.ptr p76] ∧
 AC Tryz.prog 15 [.ptr p76] h73 fun v77 h78 => ∃ n79 : Int, v77 = .int .i64 n79 ∧
 Q (.bool (n79 == 0)) h78)
 (Q (.bool false) h73))
 (Q (.bool false) h68))
 (Q (.bool false) h61))
 (Q (.bool false) h61))
 (Q (.bool false) h61)))))))))
theorem ac5 {q1 : Option SL} {n2 : Int} {n3 : Int} {n4 : Int} {n5 : Int} {n6 : Int} {h : Heap} {Q : AV → Heap → Prop} (hk : vc5 q1 n2 n3 n4 n5 n6 h Q) : AC Tryz.prog 5 [.sl q1, .agg [.int .i64 n2, .int .i64 n3, .int .i64 n4, .int .i64 n5], .int .i64 n6] h Q :=
 AC_by (H := hintsOf [4, 15] []) (by kernel_rfl) (by kernel_rfl) hk

end Go.Proofs

/- Conditions, printed. -/
namespace Go.Proofs
open Go.Ab
set_option maxRecDepth 100000
set_option linter.unusedVariables false

end Go.Proofs
