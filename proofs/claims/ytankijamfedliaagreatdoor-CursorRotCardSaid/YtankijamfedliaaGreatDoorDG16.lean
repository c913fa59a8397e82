import Derived.Test.YtankijamfedliaaGreatDoorDG10
import Derived.Test.YtankijamfedliaaGreatDoorProg
import Derived.KernelRfl
namespace Go.Proofs
open Go.Ab
set_option maxRecDepth 100000
set_option linter.unusedVariables false
def vc11 (q1 : Option SL) (n2 : Int) (h : Heap) (Q : AV → Heap → Prop) : Prop :=
 AC Tryz.prog 37 [.int .i64 16384] h fun v3 h4 => ∃ p5 : Option PA, ∃ n6 : Int, v3 = .tup [.ptr p5, .int .i64 n6] ∧
 AC Tryz.prog 38 [.int .i64 n2] h4 fun v7 h8 => ∃ p9 : Option PA, ∃ n10 : Int, v7 = .tup [.ptr p9, .int .i64 n10] ∧
 AC Tryz.prog 39 [.sl q1] h8 fun v11 h12 => ∃ q13 : Option SL, v11 = .sl q13 ∧
 vif (n6 != 0)
 (Q (.ptr none) h12)
 (vif (n10 != 0)
 (Q (.ptr none) h12)
 (vif (p5.isNone)
 (Q (.ptr none) h12)
 (vif (p9.isNone)
 (Q (.ptr none) h12)
 (AC Tryz.prog 40 [.ptr p5, .str [115], .int .i64 7, .sl q13] h12 fun v14 h15 => ∃ n16 : Int, v14 = .int .i64 n16 ∧
 vif (n16 != 0)
 (Q (.ptr none) h15)
 (AC Tryz.prog 41 [.ptr p5, .str [115], .int .i64 7] h15 fun v17 h18 => ∃ p19 : Option PA, ∃ n20 : Int, v17 = .tup [.ptr p19, .int .i64 n20] ∧
 vif (n20 != 0)
 (Q (.ptr none) h18)
 (vif (p19.isNone)
 (Q (.ptr none) h18)
 (PNew [.ptr p5, .ptr p19, .ptr p9, .sl q13] true h18 fun a21 h22 =>
 Q (.ptr (some ⟨a21, 0⟩)) h22)))))))
theorem ac11 {q1 : Option SL} {n2 : Int} {h : Heap} {Q : AV → Heap → Prop} (hk : vc11 q1 n2 h Q) : AC Tryz.prog 11 [.sl q1, .int .i64 n2] h Q :=
 AC_by (H := hintsOf [] []) (by kernel_rfl) (by kernel_rfl) hk
end Go.Proofs



namespace Go.Proofs
open Go.Ab
set_option maxRecDepth 100000
set_option linter.unusedVariables false
def vc6 (q1 : Option SL) (n2 : Int) (n3 : Int) (n4 : Int) (h : Heap) (Q : AV → Heap → Prop) : Prop :=
 AC Tryz.prog 9 [.sl q1] h fun v5 h6 => ∃ b7 : Bool, v5 = .bool b7 ∧
 vif b7
 (AC Tryz.prog 10 [] h6 fun v8 h9 => ∃ b10 : Bool, v8 = .bool b10 ∧
 Q (.bool b10) h9)
 (vif (decide (n3 < 0))
 (AC Tryz.prog 10 [] h6 fun v11 h12 => ∃ b13 : Bool, v11 = .bool b13 ∧
 Q (.bool b13) h12)
 (vif (decide (n3 > 480))
 (AC Tryz.prog 10 [] h6 fun v14 h15 => ∃ b16 : Bool, v14 = .bool b16 ∧
 Q (.bool b16) h15)
 (vif (n4 == 0)
 (AC Tryz.prog 10 [] h6 fun v17 h18 => ∃ b19 : Bool, v17 = .bool b19 ∧
 Q (.bool b19) h18)
 (AC Tryz.prog 11 [.sl q1, .int .i64 3] h6 fun v20 h21 => ∃ p22 : Option PA, v20 = .ptr p22 ∧
 AC Tryz.prog 10 [] h21 fun v23 h24 => ∃ b25 : Bool, v23 = .bool b25 ∧
 vif (!b25)
 (Q (.bool false) h24)
 (vif (p22.isNone)
 (Q (.bool false) h24)
 (vif (decide (n2 < 0))
 (vif (decide (n2 < 0))
 (Q (.bool true) h24)
 (vPtr p22 fun p26 =>
 ∃ p27 : Option PA, cellsAt h24 ⟨p26.b, p26.o + 1⟩ 1 = some [.ptr p27] ∧
 AC Tryz.prog 21 [.ptr p27] h24 fun v28 h29 => ∃ n30 : Int, v28 = .int .i64 n30 ∧
 Q (.bool (decide (n2 ≥ n30))) h29))
 (vPtr p22 fun p31 =>
 ∃ p32 : Option PA, cellsAt h24 ⟨p31.b, p31.o + 1⟩ 1 = some [.ptr p32] ∧
 AC Tryz.prog 21 [.ptr p32] h24 fun v33 h34 => ∃ n35 : Int, v33 = .int .i64 n35 ∧
 vif (decide (n2 ≥ n35))
 (vif (decide (n2 < 0))
 (Q (.bool true) h34)
 (vPtr p22 fun p36 =>
 ∃ p37 : Option PA, cellsAt h34 ⟨p36.b, p36.o + 1⟩ 1 = some [.ptr p37] ∧
 AC Tryz.prog 21 [.ptr p37] h34 fun v38 h39 => ∃ n40 : Int, v38 = .int .i64 n40 ∧
 Q (.bool (decide (n2 ≥ n40))) h39))
 (vPtr p22 fun p41 =>
 ∃ p42 : Option PA, cellsAt h34 ⟨p41.b, p41.o + 0⟩ 1 = some [.ptr p42] ∧
 AC Tryz.prog 24 [.ptr p42, .str [115], .int .i64 n2, .int .i64 n3, .int .u32 n4] h34 fun v43 h44 => ∃ n45 : Int, v43 = .int .i64 n45 ∧
 vif (n45 != 0)
 (vif (decide (n2 < 0))
 (Q (.bool true) h44)
 (vPtr p22 fun p46 =>
 ∃ p47 : Option PA, cellsAt h44 ⟨p46.b, p46.o + 1⟩ 1 = some [.ptr p47] ∧
 AC Tryz.prog 21 [.ptr p47] h44 fun v48 h49 => ∃ n50 : Int, v48 = .int .i64 n50 ∧
 Q (.bool (decide (n2 ≥ n50))) h49))
 (vPtr p22 fun p51 =>
 ∃ p52 : Option PA, cellsAt h44 ⟨p51.b, p51.o + 2⟩ 1 = some [.ptr p52] ∧
 vPtr p22 fun p53 =>
 ∃ p54 : Option PA, cellsAt h44 ⟨p53.b, p53.o + 1⟩ 1 = some [.ptr p54] ∧
 AC Tryz.prog 13 [.ptr p52, .ptr p54, .agg [.int .i64 0, .int .i64 0, .int .i64 0, .int .i64 0]] h44 fun v55 h56 => ∃ p57 : Option PA, ∃ n58 : Int, v55 = .tup [.ptr p57, .int .i64 n58] ∧
 vif (n58 != 0)
 (vif (n58 == 80)
 (vif (n2 == 0)
 (Q (.bool (p57.isNone)) h56)
 (Q (.bool false) h56))
 (Q (.bool false) h56))
 (∃ (I61 : List AV → Heap → Prop) (m62 : List AV → Heap → Nat), I61 [.int .i64 0, .int .i64 0] h56 ∧
 ∀ n59 n60 : Int, ∀ h63 : Heap, I61 [.int .i64 n59, .int .i64 n60] h63 →
 vif (n60 == 0)
 (vif (decide (n59 < 1000))
 (AC Tryz.prog 14 [.ptr p57] h63 fun v64 h65 => ∃ n66 n67 : Int, ∃ n68 n69 : Int, ∃ b70 : Bool, v64 = .tup [.agg [.int .i64 n66, .int .i64 n67, .int .i64 n68, .int .i64 n69], .bool b70] ∧
 vif (!b70)
 (Q (.bool false) h65)
 (vPtr p22 fun p71 =>
 ∃ q72 : Option SL, cellsAt h65 ⟨p71.b, p71.o + 3⟩ 1 = some [.sl q72] ∧
 vif (decide (n59 ≥ (slLen q72 : Int)))
 (Q (.bool false) h65)
 (vPtr p22 fun p73 =>
 ∃ q74 : Option SL, cellsAt h65 ⟨p73.b, p73.o + 3⟩ 1 = some [.sl q74] ∧
 vIdx q74 n59 4 fun p75 =>
 ∃ n76 n77 : Int, ∃ n78 n79 : Int, cellsAt h65 p75 4 = some [.int .i64 n76, .int .i64 n77, .int .i64 n78, .int .i64 n79] ∧
 vif (!(((n66 == n76) && ((n67 == n77) && true)) && (((n68 == n78) && ((n69 == n79) && true)) && true)))
 (Q (.bool false) h65)
 (AC Tryz.prog 16 [.ptr p57] h65 fun v80 h81 => ∃ n82 : Int, v80 = .int .i64 n82 ∧
 (True) ∧ I61 [.int .i64 (wrapK .i64 (n59 + 1)), .int .i64 n82] h81 ∧ m62 [.int .i64 (wrapK .i64 (n59 + 1)), .int .i64 n82] h81 < m62 [.int .i64 n59, .int .i64 n60] h63))))
 (vPtr p22 fun p83 =>
 ∃ p84 : Option PA, cellsAt h63 ⟨p83.b, p83.o + 1⟩ 1 = some [.ptr p84] ∧
 AC Tryz.prog 25 [.ptr p84, .int .i64 n2] h63 fun v85 h86 => ∃ n87 n88 : Int, ∃ n89 n90 : Int, ∃ b91 : Bool, v85 = .tup [.agg [.int .i64 n87, .int .i64 n88, .int .i64 n89, .int .i64 n90], .bool b91] ∧
 vif (n60 == 80)
 (AC Tryz.prog 19 [.ptr p57] h86 fun v92 h93 => ∃ n94 : Int, v92 = .int .i64 n94 ∧
 vif (n94 == 80)
 (vPtr p22 fun p95 =>
 ∃ q96 : Option SL, cellsAt h93 ⟨p95.b, p95.o + 3⟩ 1 = some [.sl q96] ∧
 vif (decide (n59 < (slLen q96 : Int)))
 (vPtr p22 fun p97 =>
 ∃ q98 : Option SL, cellsAt h93 ⟨p97.b, p97.o + 3⟩ 1 = some [.sl q98] ∧
 vIdx q98 n59 4 fun p99 =>
 ∃ n100 n101 : Int, ∃ n102 n103 : Int, cellsAt h93 p99 4 = some [.int .i64 n100, .int .i64 n101, .int .i64 n102, .int .i64 n103] ∧
 vif (((n100 == n87) && ((n101 == n88) && true)) && (((n102 == n89) && ((n103 == n90) && true)) && true))
 (vPtr p22 fun p104 =>
 ∃ p105 : Option PA, cellsAt h93 ⟨p104.b, p104.o + 2⟩ 1 = some [.ptr p105] ∧
 AC Tryz.prog 15 [.ptr p105] h93 fun v106 h107 => ∃ n108 : Int, v106 = .int .i64 n108 ∧
 Q (.bool (n108 == 0)) h107)
 (Q (.bool false) h93))
 (Q (.bool false) h93))
 (Q (.bool false) h93))
 (Q (.bool false) h86)))
 (vPtr p22 fun p109 =>
 ∃ p110 : Option PA, cellsAt h63 ⟨p109.b, p109.o + 1⟩ 1 = some [.ptr p110] ∧
 AC Tryz.prog 25 [.ptr p110, .int .i64 n2] h63 fun v111 h112 => ∃ n113 n114 : Int, ∃ n115 n116 : Int, ∃ b117 : Bool, v111 = .tup [.agg [.int .i64 n113, .int .i64 n114, .int .i64 n115, .int .i64 n116], .bool b117] ∧
 vif (n60 == 80)
 (AC Tryz.prog 19 [.ptr p57] h112 fun v118 h119 => ∃ n120 : Int, v118 = .int .i64 n120 ∧
 vif (n120 == 80)
 (vPtr p22 fun p121 =>
 ∃ q122 : Option SL, cellsAt h119 ⟨p121.b, p121.o + 3⟩ 1 = some [.sl q122] ∧
 vif (decide (n59 < (slLen q122 : Int)))
 (vPtr p22 fun p123 =>
 ∃ q124 : Option SL, cellsAt h119 ⟨p123.b, p123.o + 3⟩ 1 = some [.sl q124] ∧
 vIdx q124 n59 4 fun p125 =>
 ∃ n126 n127 : Int, ∃ n128 n129 : Int, cellsAt h119 p125 4 = some [.int .i64 n126, .int .i64 n127, .int .i64 n128, .int .i64 n129] ∧
 vif (((n126 == n113) && ((n127 == n114) && true)) && (((n128 == n115) && ((n129 == n116) && true)) && true))
 (vPtr p22 fun p130 =>
 ∃ p131 : Option PA, cellsAt h119 ⟨p130.b, p130.o + 2⟩ 1 = some [.ptr p131] ∧
 AC Tryz.prog 15 [.ptr p131] h119 fun v132 h133 => ∃ n134 : Int, v132 = .int .i64 n134 ∧
 Q (.bool (n134 == 0)) h133)
 (Q (.bool false) h119))
 (Q (.bool false) h119))
 (Q (.bool false) h119))
 (Q (.bool false) h112))))))))))))
theorem ac6 {q1 : Option SL} {n2 : Int} {n3 : Int} {n4 : Int} {h : Heap} {Q : AV → Heap → Prop} (hk : vc6 q1 n2 n3 n4 h Q) : AC Tryz.prog 6 [.sl q1, .int .i64 n2, .int .i64 n3, .int .u32 n4] h Q :=
 AC_by (H := hintsOf [14, 16] [(0, [12, 13], [])]) (by kernel_rfl) (by kernel_rfl) hk
end Go.Proofs
