import Derived.Test.YtnglhicedhcpbaaGreatDoorKG9
import Derived.Test.YtnglhicedhcpbaaGreatDoorProg
import Derived.KernelRfl
namespace Go.Proofs
open Go.Ab
set_option maxRecDepth 100000
set_option linter.unusedVariables false
def vc26 (n1 : Int) (h : Heap) (Q : AV → Heap → Prop) : Prop :=
 vif (decide (n1 < 0))
 (Q (.tup [.ptr none, .int .i64 1]) h)
 (vif (decide (n1 > 16384))
 (Q (.tup [.ptr none, .int .i64 1]) h)
 (PNew [.map (some (List.length h)), .sl none, .int .i64 n1, .int .i64 (-1), .bool false] true (h ++ [.mp [] 0]) fun a2 h3 =>
 Q (.tup [.ptr (some ⟨a2, 0⟩), .int .i64 0]) h3))
theorem ac26 {n1 : Int} {h : Heap} {Q : AV → Heap → Prop} (hk : vc26 n1 h Q) : AC Tryz.prog 26 [.int .i64 n1] h Q :=
 AC_by (H := hintsOf [] []) (by kernel_rfl) (by kernel_rfl) hk
def vc52 (p1 : Option PA) (h : Heap) (Q : AV → Heap → Prop) : Prop :=
 AC Tryz.prog 42 [.ptr p1] h fun v2 h3 => ∃ q4 : Option SL, v2 = .sl q4 ∧
 ∃ (I7 : List AV → Heap → Prop) (m8 : List AV → Heap → Nat), I7 [.int .i64 0, .int .i64 0] h3 ∧
 ∀ n5 n6 : Int, ∀ h9 : Heap, I7 [.int .i64 n5, .int .i64 n6] h9 →
 vif (decide (n6 < (slLen q4 : Int)))
 (vIdx q4 n6 2 fun p10 =>
 ∃ s11 : List UInt8, ∃ n12 : Int, cellsAt h9 p10 2 = some [.str s11, .int .i64 n12] ∧
 (True) ∧ I7 [.int .i64 (wrapK .i64 (n5 + n12)), .int .i64 (wrapK .i64 (n6 + 1))] h9 ∧ m8 [.int .i64 (wrapK .i64 (n5 + n12)), .int .i64 (wrapK .i64 (n6 + 1))] h9 < m8 [.int .i64 n5, .int .i64 n6] h9)
 (Q (.int .i64 n5) h9)
theorem ac52 {p1 : Option PA} {h : Heap} {Q : AV → Heap → Prop} (hk : vc52 p1 h Q) : AC Tryz.prog 52 [.ptr p1] h Q :=
 AC_by (H := hintsOf [5] [(0, [3, 9], [])]) (by kernel_rfl) (by kernel_rfl) hk
def vc56 (p1 : Option PA) (s2 : List UInt8) (n3 : Int) (h : Heap) (Q : AV → Heap → Prop) : Prop :=
 AC Tryz.prog 130 [.ptr p1, .str s2] h fun v4 h5 => ∃ p6 : Option PA, ∃ n7 : Int, v4 = .tup [.ptr p6, .int .i64 n7] ∧
 vif (n7 != 0)
 (Q (.tup [.sl none, .int .i64 n7]) h5)
 (vif (decide (n3 < 0))
 (Q (.tup [.sl none, .int .i64 4]) h5)
 (vPtr p6 fun p8 =>
 ∃ q9 : Option SL, cellsAt h5 ⟨p8.b, p8.o + 1⟩ 1 = some [.sl q9] ∧
 vif (decide (n3 ≥ (slLen q9 : Int)))
 (Q (.tup [.sl none, .int .i64 4]) h5)
 (vPtr p6 fun p10 =>
 ∃ q11 : Option SL, cellsAt h5 ⟨p10.b, p10.o + 1⟩ 1 = some [.sl q11] ∧
 vIdx q11 n3 64 fun p12 =>
 PSlice 1 (some ⟨p12.b, p12.o, 64, 64, 0⟩) 0 none none fun q13 =>
 AC Tryz.prog 131 [.sl q13] h5 fun v14 h15 => ∃ q16 : Option SL, v14 = .sl q16 ∧
 Q (.tup [.sl q16, .int .i64 0]) h15)))
theorem ac56 {p1 : Option PA} {s2 : List UInt8} {n3 : Int} {h : Heap} {Q : AV → Heap → Prop} (hk : vc56 p1 s2 n3 h Q) : AC Tryz.prog 56 [.ptr p1, .str s2, .int .i64 n3] h Q :=
 AC_by (H := hintsOf [] []) (by kernel_rfl) (by kernel_rfl) hk
def vc64 (p1 : Option PA) (s2 : List UInt8) (h : Heap) (Q : AV → Heap → Prop) : Prop :=
 AC Tryz.prog 104 [.ptr p1] h fun v3 h4 => ∃ b5 : Bool, v3 = .bool b5 ∧
 vif (!b5)
 (Q (.tup [.int .i64 0, .int .i64 6]) h4)
 (vPtr p1 fun p6 =>
 ∃ m7 : Option Nat, cellsAt h4 ⟨p6.b, p6.o + 0⟩ 1 = some [.map m7] ∧
 PLookup Tryz.prog 9 183 m7 (.str s2) false h4 fun v8 =>
 ∃ p9 : Option PA, v8 = .ptr p9 ∧
 vif (p9.isNone)
 (Q (.tup [.int .i64 0, .int .i64 4]) h4)
 (vPtr p9 fun p10 =>
 ∃ q11 : Option SL, cellsAt h4 ⟨p10.b, p10.o + 1⟩ 1 = some [.sl q11] ∧
 Q (.tup [.int .i64 (slLen q11 : Int), .int .i64 0]) h4))
theorem ac64 {p1 : Option PA} {s2 : List UInt8} {h : Heap} {Q : AV → Heap → Prop} (hk : vc64 p1 s2 h Q) : AC Tryz.prog 64 [.ptr p1, .str s2] h Q :=
 AC_by (H := hintsOf [] []) (by kernel_rfl) (by kernel_rfl) hk
def vc94 (q1 : Option SL) (q2 : Option SL) (h : Heap) (Q : AV → Heap → Prop) : Prop :=
 vif ((slLen q1 : Int) != (slLen q2 : Int))
 (Q (.bool false) h)
 (∃ (I4 : List AV → Heap → Prop) (m5 : List AV → Heap → Nat), I4 [.int .i64 0] h ∧
 ∀ n3 : Int, ∀ h6 : Heap, I4 [.int .i64 n3] h6 →
 vif (decide (n3 < (slLen q1 : Int)))
 (vIdx q1 n3 1 fun p7 =>
 ∃ n8 : Int, cellsAt h6 p7 1 = some [.int .u8 n8] ∧
 vIdx q2 n3 1 fun p9 =>
 ∃ n10 : Int, cellsAt h6 p9 1 = some [.int .u8 n10] ∧
 vif (n8 != n10)
 (Q (.bool false) h6)
 ((True) ∧ I4 [.int .i64 (wrapK .i64 (n3 + 1))] h6 ∧ m5 [.int .i64 (wrapK .i64 (n3 + 1))] h6 < m5 [.int .i64 n3] h6))
 (Q (.bool true) h6))
theorem ac94 {q1 : Option SL} {q2 : Option SL} {h : Heap} {Q : AV → Heap → Prop} (hk : vc94 q1 q2 h Q) : AC Tryz.prog 94 [.sl q1, .sl q2] h Q :=
 AC_by (H := hintsOf [] [(0, [13], [])]) (by kernel_rfl) (by kernel_rfl) hk
def vc95 (p1 : Option PA) (s2 : List UInt8) (h : Heap) (Q : AV → Heap → Prop) : Prop :=
 AC Tryz.prog 104 [.ptr p1] h fun v3 h4 => ∃ b5 : Bool, v3 = .bool b5 ∧
 vif b5
 (AC Tryz.prog 170 [.str s2] h4 fun v6 h7 => ∃ b8 : Bool, v6 = .bool b8 ∧
 vif (!b8)
 (Q (.int .i64 1) h7)
 (AC Tryz.prog 171 [.ptr p1] h7 fun v9 h10 => ∃ n11 : Int, v9 = .int .i64 n11 ∧
 vif (n11 != 0)
 (Q (.int .i64 n11) h10)
 (vPtr p1 fun p12 =>
 ∃ m13 : Option Nat, cellsAt h10 ⟨p12.b, p12.o + 0⟩ 1 = some [.map m13] ∧
 PLookup Tryz.prog 9 183 m13 (.str s2) false h10 fun v14 =>
 ∃ p15 : Option PA, v14 = .ptr p15 ∧
 vif (!(p15.isNone))
 (Q (.int .i64 5) h10)
 (vPtr p1 fun p16 =>
 ∃ m17 : Option Nat, cellsAt h10 ⟨p16.b, p16.o + 0⟩ 1 = some [.map m17] ∧
 vLenM h10 m17 fun e18 =>
 vif (decide (((e18 : Nat) : Int) ≥ 256))
 (Q (.int .i64 2) h10)
 (AC Tryz.prog 172 [.ptr p1] h10 fun v19 h20 => ∃ n21 : Int, v19 = .int .i64 n21 ∧
 vif (n21 == 0)
 (vPtr p1 fun p22 =>
 ∃ m23 : Option Nat, cellsAt h20 ⟨p22.b, p22.o + 0⟩ 1 = some [.map m23] ∧
 PNew [.str s2, .sl none, .sl none] true h20 fun a24 h25 =>
 vMap m23 fun a27 => PUpdate Tryz.prog 9 a27 (.str s2) (.ptr (some ⟨a24, 0⟩)) h25 fun h26 =>
 Q (.int .i64 n21) h26)
 (Q (.int .i64 n21) h20))))))
 (AC Tryz.prog 171 [.ptr p1] h4 fun v28 h29 => ∃ n30 : Int, v28 = .int .i64 n30 ∧
 vif (n30 != 0)
 (Q (.int .i64 n30) h29)
 (vPtr p1 fun p31 =>
 ∃ m32 : Option Nat, cellsAt h29 ⟨p31.b, p31.o + 0⟩ 1 = some [.map m32] ∧
 PLookup Tryz.prog 9 183 m32 (.str s2) false h29 fun v33 =>
 ∃ p34 : Option PA, v33 = .ptr p34 ∧
 vif (!(p34.isNone))
 (Q (.int .i64 5) h29)
 (vPtr p1 fun p35 =>
 ∃ m36 : Option Nat, cellsAt h29 ⟨p35.b, p35.o + 0⟩ 1 = some [.map m36] ∧
 vLenM h29 m36 fun e37 =>
 vif (decide (((e37 : Nat) : Int) ≥ 256))
 (Q (.int .i64 2) h29)
 (AC Tryz.prog 172 [.ptr p1] h29 fun v38 h39 => ∃ n40 : Int, v38 = .int .i64 n40 ∧
 vif (n40 == 0)
 (vPtr p1 fun p41 =>
 ∃ m42 : Option Nat, cellsAt h39 ⟨p41.b, p41.o + 0⟩ 1 = some [.map m42] ∧
 PNew [.str s2, .sl none, .sl none] true h39 fun a43 h44 =>
 vMap m42 fun a46 => PUpdate Tryz.prog 9 a46 (.str s2) (.ptr (some ⟨a43, 0⟩)) h44 fun h45 =>
 Q (.int .i64 n40) h45)
 (Q (.int .i64 n40) h39)))))
theorem ac95 {p1 : Option PA} {s2 : List UInt8} {h : Heap} {Q : AV → Heap → Prop} (hk : vc95 p1 s2 h Q) : AC Tryz.prog 95 [.ptr p1, .str s2] h Q :=
 AC_by (H := hintsOf [] []) (by kernel_rfl) (by kernel_rfl) hk
def vc96 (p1 : Option PA) (s2 : List UInt8) (q3 : Option SL) (h : Heap) (Q : AV → Heap → Prop) : Prop :=
 AC Tryz.prog 104 [.ptr p1] h fun v4 h5 => ∃ b6 : Bool, v4 = .bool b6 ∧
 vif b6
 (vif ((slLen q3 : Int) != 64)
 (Q (.int .i64 1) h5)
 (AC Tryz.prog 130 [.ptr p1, .str s2] h5 fun v7 h8 => ∃ p9 : Option PA, ∃ n10 : Int, v7 = .tup [.ptr p9, .int .i64 n10] ∧
 vif (n10 != 0)
 (Q (.int .i64 n10) h8)
 (vPtr p1 fun p11 =>
 ∃ n12 : Int, cellsAt h8 ⟨p11.b, p11.o + 2⟩ 1 = some [.int .i64 n12] ∧
 AC Tryz.prog 52 [.ptr p1] h8 fun v13 h14 => ∃ n15 : Int, v13 = .int .i64 n15 ∧
 (∃ n33 : Int, cellsAt h14 ⟨p11.b, p11.o + 2⟩ 1 = some [.int .i64 n33] ∧
 LV.val (.int .i64 n33) = LV.val (.int .i64 n12)) ∧
 vif (decide (n15 ≥ n12))
 (Q (.int .i64 2) h14)
 (AC Tryz.prog 172 [.ptr p1] h14 fun v16 h17 => ∃ n18 : Int, v16 = .int .i64 n18 ∧
 vif (n18 != 0)
 (Q (.int .i64 n18) h17)
 (vPtr p9 fun p19 =>
 ∃ q20 : Option SL, cellsAt h17 ⟨p19.b, p19.o + 1⟩ 1 = some [.sl q20] ∧
 PNew (List.replicate 64 (AV.int .u8 0)) true h17 fun a21 h22 =>
 PAppendS 64 64 q20 (some ⟨a21, 0, 1, 1, 0⟩) h22 fun q23 h24 =>
 vPtr p9 fun p25 =>
 PStore h24 ⟨p25.b, p25.o + 1⟩ [.sl q23] fun h26 =>
 vPtr p9 fun p27 =>
 ∃ q28 : Option SL, cellsAt h26 ⟨p27.b, p27.o + 1⟩ 1 = some [.sl q28] ∧
 vSl q3 fun s29 => need (decide (0 < 64) && decide (64 ≤ s29.len)) (exC .u8 64 fun l30 =>
 cellsAt h26 ⟨s29.b, s29.o⟩ 64 = some l30 ∧
 AC Tryz.prog 173 [.ptr p1, .ptr p9, .int .i64 (wrapK .i64 ((slLen q28 : Int) - 1)), .agg l30] h26 fun v31 h32 => v31 = .tup [] ∧
 Q (.int .i64 0) h32))))))
 (AC Tryz.prog 130 [.ptr p1, .str s2] h5 fun v34 h35 => ∃ p36 : Option PA, ∃ n37 : Int, v34 = .tup [.ptr p36, .int .i64 n37] ∧
 vif (n37 != 0)
 (Q (.int .i64 n37) h35)
 (vPtr p1 fun p38 =>
 ∃ n39 : Int, cellsAt h35 ⟨p38.b, p38.o + 2⟩ 1 = some [.int .i64 n39] ∧
 AC Tryz.prog 52 [.ptr p1] h35 fun v40 h41 => ∃ n42 : Int, v40 = .int .i64 n42 ∧
 (∃ n60 : Int, cellsAt h41 ⟨p38.b, p38.o + 2⟩ 1 = some [.int .i64 n60] ∧
 LV.val (.int .i64 n60) = LV.val (.int .i64 n39)) ∧
 vif (decide (n42 ≥ n39))
 (Q (.int .i64 2) h41)
 (AC Tryz.prog 172 [.ptr p1] h41 fun v43 h44 => ∃ n45 : Int, v43 = .int .i64 n45 ∧
 vif (n45 != 0)
 (Q (.int .i64 n45) h44)
 (vPtr p36 fun p46 =>
 ∃ q47 : Option SL, cellsAt h44 ⟨p46.b, p46.o + 1⟩ 1 = some [.sl q47] ∧
 PNew (List.replicate 64 (AV.int .u8 0)) true h44 fun a48 h49 =>
 PAppendS 64 64 q47 (some ⟨a48, 0, 1, 1, 0⟩) h49 fun q50 h51 =>
 vPtr p36 fun p52 =>
 PStore h51 ⟨p52.b, p52.o + 1⟩ [.sl q50] fun h53 =>
 vPtr p36 fun p54 =>
 ∃ q55 : Option SL, cellsAt h53 ⟨p54.b, p54.o + 1⟩ 1 = some [.sl q55] ∧
 vSl q3 fun s56 => need (decide (0 < 64) && decide (64 ≤ s56.len)) (exC .u8 64 fun l57 =>
 cellsAt h53 ⟨s56.b, s56.o⟩ 64 = some l57 ∧
 AC Tryz.prog 173 [.ptr p1, .ptr p36, .int .i64 (wrapK .i64 ((slLen q55 : Int) - 1)), .agg l57] h53 fun v58 h59 => v58 = .tup [] ∧
 Q (.int .i64 0) h59)))))
theorem ac96 {p1 : Option PA} {s2 : List UInt8} {q3 : Option SL} {h : Heap} {Q : AV → Heap → Prop} (hk : vc96 p1 s2 q3 h Q) : AC Tryz.prog 96 [.ptr p1, .str s2, .sl q3] h Q :=
 AC_by (H := hintsOf [] []) (by kernel_rfl) (by kernel_rfl) hk
def vc97 (p1 : Option PA) (s2 : List UInt8) (h : Heap) (Q : AV → Heap → Prop) : Prop :=
 AC Tryz.prog 130 [.ptr p1, .str s2] h fun v3 h4 => ∃ p5 : Option PA, ∃ n6 : Int, v3 = .tup [.ptr p5, .int .i64 n6] ∧
 vif (n6 != 0)
 (Q (.int .i64 n6) h4)
 (AC Tryz.prog 172 [.ptr p1] h4 fun v7 h8 => ∃ n9 : Int, v7 = .int .i64 n9 ∧
 vif (n9 != 0)
 (Q (.int .i64 n9) h8)
 (vPtr p1 fun p10 =>
 ∃ q11 : Option SL, cellsAt h8 ⟨p10.b, p10.o + 1⟩ 1 = some [.sl q11] ∧
 ∃ (I13 : List AV → Heap → Prop) (m14 : List AV → Heap → Nat), I13 [.int .i64 0] h8 ∧
 ∀ n12 : Int, ∀ h15 : Heap, I13 [.int .i64 n12] h15 →
 vif (decide (n12 < (slLen q11 : Int)))
 (vIdx q11 n12 66 fun p16 =>
 ∃ p17 : Option PA, ∃ n18 : Int, exC .u8 64 fun l19 =>
 cellsAt h15 p16 66 = some ([.ptr p17, .int .i64 n18] ++ (l19)) ∧
 aEq Tryz.prog 183 h15 (.ptr p17) (.ptr p5) fun b20 =>
 vif b20
 (AC Tryz.prog 113 [.agg ([.ptr p17, .int .i64 n18] ++ (l19)), .int .i64 64] h15 fun v21 h22 => v21 = .tup [] ∧
 (True) ∧ I13 [.int .i64 (wrapK .i64 (n12 + 1))] h22 ∧ m14 [.int .i64 (wrapK .i64 (n12 + 1))] h22 < m14 [.int .i64 n12] h15)
 ((True) ∧ I13 [.int .i64 (wrapK .i64 (n12 + 1))] h15 ∧ m14 [.int .i64 (wrapK .i64 (n12 + 1))] h15 < m14 [.int .i64 n12] h15))
 (AC Tryz.prog 174 [.ptr p1, .ptr p5] h15 fun v23 h24 => v23 = .tup [] ∧
 Q (.int .i64 0) h24)))
theorem ac97 {p1 : Option PA} {s2 : List UInt8} {h : Heap} {Q : AV → Heap → Prop} (hk : vc97 p1 s2 h Q) : AC Tryz.prog 97 [.ptr p1, .str s2] h Q :=
 AC_by (H := hintsOf [9] [(0, [29], [])]) (by kernel_rfl) (by kernel_rfl) hk
def vc104 (p1 : Option PA) (h : Heap) (Q : AV → Heap → Prop) : Prop :=
 vif (!(p1.isNone))
 (vPtr p1 fun p2 =>
 ∃ m3 : Option Nat, cellsAt h ⟨p2.b, p2.o + 0⟩ 1 = some [.map m3] ∧
 Q (.bool (!(m3.isNone))) h)
 (Q (.bool false) h)
theorem ac104 {p1 : Option PA} {h : Heap} {Q : AV → Heap → Prop} (hk : vc104 p1 h Q) : AC Tryz.prog 104 [.ptr p1] h Q :=
 AC_by (H := hintsOf [] []) (by kernel_rfl) (by kernel_rfl) hk
def vc113 (p1 : Option PA) (n2 : Int) (l3 : Nat → Int) (n4 : Int) (h : Heap) (Q : AV → Heap → Prop) : Prop :=
 PNew ([.ptr p1, .int .i64 n2] ++ ((cel .u8 64 l3))) true h fun a5 h6 =>
 vif (decide ((minI n4 64) < 1))
 (Q (.tup []) h6)
 (∃ (I7 : List AV → Heap → Prop) (m8 : List AV → Heap → Nat), I7 [] h6 ∧
 ∀ h9 : Heap, I7 [] h9 →
 ∃ p10 : Option PA, cellsAt h9 ⟨a5, 0⟩ 1 = some [.ptr p10] ∧
 vPtr p10 fun p11 =>
 ∃ q12 : Option SL, cellsAt h9 ⟨p11.b, p11.o + 2⟩ 1 = some [.sl q12] ∧
 ∃ n13 : Int, cellsAt h9 ⟨a5, 1⟩ 1 = some [.int .i64 n13] ∧
 vif (decide ((slLen q12 : Int) ≤ n13))
 (∃ p14 : Option PA, cellsAt h9 ⟨a5, 0⟩ 1 = some [.ptr p14] ∧
 ∃ p15 : Option PA, cellsAt h9 ⟨a5, 0⟩ 1 = some [.ptr p15] ∧
 vPtr p15 fun p16 =>
 ∃ q17 : Option SL, cellsAt h9 ⟨p16.b, p16.o + 2⟩ 1 = some [.sl q17] ∧
 PNew (List.replicate 64 (AV.int .u8 0)) true h9 fun a18 h19 =>
 (∃ q27 : Option SL, cellsAt h19 ⟨p16.b, p16.o + 2⟩ 1 = some [.sl q27] ∧
 LV.val (.sl q27) = LV.val (.sl q17)) ∧
 (∃ p26 : Option PA, cellsAt h19 ⟨a5, 0⟩ 1 = some [.ptr p26] ∧
 LV.val (.ptr p26) = LV.val (.ptr p15)) ∧
 (∃ p25 : Option PA, cellsAt h19 ⟨a5, 0⟩ 1 = some [.ptr p25] ∧
 LV.val (.ptr p25) = LV.val (.ptr p14)) ∧
 PAppendS 64 64 q17 (some ⟨a18, 0, 1, 1, 0⟩) h19 fun q20 h21 =>
 (∃ p24 : Option PA, cellsAt h21 ⟨a5, 0⟩ 1 = some [.ptr p24] ∧
 LV.val (.ptr p24) = LV.val (.ptr p14)) ∧
 vPtr p14 fun p22 =>
 PStore h21 ⟨p22.b, p22.o + 2⟩ [.sl q20] fun h23 =>
 (True) ∧ I7 [] h23 ∧ m8 [] h23 < m8 [] h9)
 (∃ p28 : Option PA, cellsAt h9 ⟨a5, 0⟩ 1 = some [.ptr p28] ∧
 vPtr p28 fun p29 =>
 ∃ q30 : Option SL, cellsAt h9 ⟨p29.b, p29.o + 2⟩ 1 = some [.sl q30] ∧
 ∃ n31 : Int, cellsAt h9 ⟨a5, 1⟩ 1 = some [.int .i64 n31] ∧
 vIdx q30 n31 64 fun p32 =>
 PSlice 1 (some ⟨p32.b, p32.o, 64, 64, 0⟩) 0 (some (minI n4 64)) none fun q33 =>
 PSlice 1 (some ⟨a5, 2, 64, 64, 0⟩) 0 (some (minI n4 64)) none fun q34 =>
 PCopyS 1 q33 q34 h9 fun n35 h36 =>
 Q (.tup []) h36))
theorem ac113 {p1 : Option PA} {n2 : Int} {l3 : Nat → Int} {n4 : Int} {h : Heap} {Q : AV → Heap → Prop} (hk : vc113 p1 n2 l3 n4 h Q) : AC Tryz.prog 113 [.agg ([.ptr p1, .int .i64 n2] ++ ((cel .u8 64 l3))), .int .i64 n4] h Q :=
 AC_by (H := hintsOf [] [(0, [], [])]) (by kernel_rfl) (by kernel_rfl) hk
def vc114 (q1 : Option SL) (h : Heap) (Q : AV → Heap → Prop) : Prop :=
 vif (q1.isNone)
 (Q (.sl none) h)
 (PNew [] true h fun a2 h3 =>
 PAppendS 64 64 (some ⟨a2, 0, 0, 0, 0⟩) q1 h3 fun q4 h5 =>
 Q (.sl q4) h5)
theorem ac114 {q1 : Option SL} {h : Heap} {Q : AV → Heap → Prop} (hk : vc114 q1 h Q) : AC Tryz.prog 114 [.sl q1] h Q :=
 AC_by (H := hintsOf [] []) (by kernel_rfl) (by kernel_rfl) hk
def vc130 (p1 : Option PA) (s2 : List UInt8) (h : Heap) (Q : AV → Heap → Prop) : Prop :=
 AC Tryz.prog 171 [.ptr p1] h fun v3 h4 => ∃ n5 : Int, v3 = .int .i64 n5 ∧
 vif (n5 != 0)
 (Q (.tup [.ptr none, .int .i64 n5]) h4)
 (vPtr p1 fun p6 =>
 ∃ m7 : Option Nat, cellsAt h4 ⟨p6.b, p6.o + 0⟩ 1 = some [.map m7] ∧
 PLookup Tryz.prog 9 183 m7 (.str s2) false h4 fun v8 =>
 ∃ p9 : Option PA, v8 = .ptr p9 ∧
 vif (p9.isNone)
 (Q (.tup [.ptr none, .int .i64 4]) h4)
 (Q (.tup [.ptr p9, .int .i64 0]) h4))
theorem ac130 {p1 : Option PA} {s2 : List UInt8} {h : Heap} {Q : AV → Heap → Prop} (hk : vc130 p1 s2 h Q) : AC Tryz.prog 130 [.ptr p1, .str s2] h Q :=
 AC_by (H := hintsOf [] []) (by kernel_rfl) (by kernel_rfl) hk
def vc131 (q1 : Option SL) (h : Heap) (Q : AV → Heap → Prop) : Prop :=
 vif (q1.isNone)
 (Q (.sl none) h)
 (PNew [] true h fun a2 h3 =>
 PAppendS 1 1 (some ⟨a2, 0, 0, 0, 0⟩) q1 h3 fun q4 h5 =>
 Q (.sl q4) h5)
theorem ac131 {q1 : Option SL} {h : Heap} {Q : AV → Heap → Prop} (hk : vc131 q1 h Q) : AC Tryz.prog 131 [.sl q1] h Q :=
 AC_by (H := hintsOf [] []) (by kernel_rfl) (by kernel_rfl) hk
def vc158 (q1 : Option SL) (h : Heap) (Q : AV → Heap → Prop) : Prop :=
 AC Tryz.prog 131 [.sl q1] h fun v2 h3 => ∃ q4 : Option SL, v2 = .sl q4 ∧
 PNew [.sl q4, .bool false] true h3 fun a5 h6 =>
 Q (.ptr (some ⟨a5, 0⟩)) h6
theorem ac158 {q1 : Option SL} {h : Heap} {Q : AV → Heap → Prop} (hk : vc158 q1 h Q) : AC Tryz.prog 158 [.sl q1] h Q :=
 AC_by (H := hintsOf [] []) (by kernel_rfl) (by kernel_rfl) hk
def vc159 (p1 : Option PA) (h : Heap) (Q : AV → Heap → Prop) : Prop :=
 AC Tryz.prog 227 [.ptr p1, .int .i64 1] h fun v2 h3 => ∃ n4 : Int, v2 = .int .i64 n4 ∧
 vif (decide (n4 < 240))
 (Q (.int .i64 n4) h3)
 (vif (decide (n4 < 248))
 (AC Tryz.prog 227 [.ptr p1, .int .i64 1] h3 fun v5 h6 => ∃ n7 : Int, v5 = .int .i64 n7 ∧
 AC Tryz.prog 228 [.ptr p1, .int .i64 (wrapK .i64 ((wrapK .i64 (240 + (shlK .i64 (wrapK .i64 (n4 - 240)) 8))) + n7)), .bool true] h6 fun v8 h9 => ∃ n10 : Int, v8 = .int .i64 n10 ∧
 Q (.int .i64 n10) h9)
 (vif (decide (n4 ≤ 254))
 (AC Tryz.prog 227 [.ptr p1, .int .i64 (wrapK .i64 (n4 - 246))] h3 fun v11 h12 => ∃ n13 : Int, v11 = .int .i64 n13 ∧
 vif (decide (n13 ≥ 2288))
 (AC Tryz.prog 229 [.int .i64 n13] h12 fun v14 h15 => ∃ n16 : Int, v14 = .int .i64 n16 ∧
 AC Tryz.prog 228 [.ptr p1, .int .i64 n13, .bool (n16 == (wrapK .i64 ((wrapK .i64 (n4 - 246)) + 1)))] h15 fun v17 h18 => ∃ n19 : Int, v17 = .int .i64 n19 ∧
 Q (.int .i64 n19) h18)
 (AC Tryz.prog 228 [.ptr p1, .int .i64 n13, .bool false] h12 fun v20 h21 => ∃ n22 : Int, v20 = .int .i64 n22 ∧
 Q (.int .i64 n22) h21))
 (AC Tryz.prog 230 [.ptr p1] h3 fun v23 h24 => ∃ n25 : Int, v23 = .int .i64 n25 ∧
 Q (.int .i64 n25) h24)))
theorem ac159 {p1 : Option PA} {h : Heap} {Q : AV → Heap → Prop} (hk : vc159 p1 h Q) : AC Tryz.prog 159 [.ptr p1] h Q :=
 AC_by (H := hintsOf [] []) (by kernel_rfl) (by kernel_rfl) hk
def vc160 (p1 : Option PA) (h : Heap) (Q : AV → Heap → Prop) : Prop :=
 AC Tryz.prog 231 [.ptr p1] h fun v2 h3 => ∃ b4 : Bool, v2 = .bool b4 ∧
 vif b4
 (Q (.int .i64 10) h3)
 (vPtr p1 fun p5 =>
 ∃ q6 : Option SL, cellsAt h3 ⟨p5.b, p5.o + 0⟩ 1 = some [.sl q6] ∧
 vif (decide ((slLen q6 : Int) > 0))
 (Q (.int .i64 10) h3)
 (Q (.int .i64 0) h3))
theorem ac160 {p1 : Option PA} {h : Heap} {Q : AV → Heap → Prop} (hk : vc160 p1 h Q) : AC Tryz.prog 160 [.ptr p1] h Q :=
 AC_by (H := hintsOf [] []) (by kernel_rfl) (by kernel_rfl) hk
def vc169 (n1 : Int) (q2 : Option SL) (h : Heap) (Q : AV → Heap → Prop) : Prop :=
 AC Tryz.prog 237 [.int .i64 n1] h fun v3 h4 => ∃ b5 : Bool, v3 = .bool b5 ∧
 vif (!b5)
 (Q (.tup [.sl none, .int .i64 1]) h4)
 (vif (decide ((slLen q2 : Int) > 43))
 (Q (.tup [.sl none, .int .i64 3]) h4)
 (AC Tryz.prog 238 [.int .i64 n1, .int .i64 8] h4 fun v6 h7 => ∃ q8 : Option SL, ∃ n9 : Int, v6 = .tup [.sl q8, .int .i64 n9] ∧
 PMake [.int .u8 0] 1 52 52 h7 fun q10 h11 =>
 PCopyS 1 q10 q8 h11 fun n12 h13 =>
 vIdx q10 8 1 fun p14 =>
 PStore h13 p14 [.int .u8 (wrapK .u8 (slLen q2 : Int))] fun h15 =>
 PSlice 1 q10 9 none none fun q16 =>
 PCopyS 1 q16 q2 h15 fun n17 h18 =>
 AC Tryz.prog 240 [.sl q10] h18 fun v19 h20 => ∃ q21 : Option SL, v19 = .sl q21 ∧
 PNew [.sl q21, .sl q8] true h20 fun a22 h23 =>
 AC Tryz.prog 239 [.sl (some ⟨a22, 0, 2, 2, 0⟩)] h23 fun v24 h25 => ∃ q26 : Option SL, v24 = .sl q26 ∧
 Q (.tup [.sl q26, .int .i64 0]) h25))
theorem ac169 {n1 : Int} {q2 : Option SL} {h : Heap} {Q : AV → Heap → Prop} (hk : vc169 n1 q2 h Q) : AC Tryz.prog 169 [.int .i64 n1, .sl q2] h Q :=
 AC_by (H := hintsOf [] []) (by kernel_rfl) (by kernel_rfl) hk
def vc170 (s1 : List UInt8) (h : Heap) (Q : AV → Heap → Prop) : Prop :=
 vif (decide ((s1.length : Int) ≥ 1))
 (Q (.bool (decide ((s1.length : Int) ≤ 24))) h)
 (Q (.bool false) h)
theorem ac170 {s1 : List UInt8} {h : Heap} {Q : AV → Heap → Prop} (hk : vc170 s1 h Q) : AC Tryz.prog 170 [.str s1] h Q :=
 AC_by (H := hintsOf [] []) (by kernel_rfl) (by kernel_rfl) hk
def vc171 (p1 : Option PA) (h : Heap) (Q : AV → Heap → Prop) : Prop :=
 AC Tryz.prog 104 [.ptr p1] h fun v2 h3 => ∃ b4 : Bool, v2 = .bool b4 ∧
 vif (!b4)
 (Q (.int .i64 6) h3)
 (vPtr p1 fun p5 =>
 ∃ b6 : Bool, cellsAt h3 ⟨p5.b, p5.o + 4⟩ 1 = some [.bool b6] ∧
 vif b6
 (Q (.int .i64 50) h3)
 (Q (.int .i64 0) h3))
theorem ac171 {p1 : Option PA} {h : Heap} {Q : AV → Heap → Prop} (hk : vc171 p1 h Q) : AC Tryz.prog 171 [.ptr p1] h Q :=
 AC_by (H := hintsOf [] []) (by kernel_rfl) (by kernel_rfl) hk
def vc172 (p1 : Option PA) (h : Heap) (Q : AV → Heap → Prop) : Prop :=
 vPtr p1 fun p2 =>
 ∃ n3 : Int, cellsAt h ⟨p2.b, p2.o + 3⟩ 1 = some [.int .i64 n3] ∧
 vif (n3 == 0)
 (vPtr p1 fun p4 =>
 PStore h ⟨p4.b, p4.o + 4⟩ [.bool true] fun h5 =>
 Q (.int .i64 50) h5)
 (vPtr p1 fun p6 =>
 ∃ n7 : Int, cellsAt h ⟨p6.b, p6.o + 3⟩ 1 = some [.int .i64 n7] ∧
 vif (decide (n7 > 0))
 (vPtr p1 fun p8 =>
 ∃ n9 : Int, cellsAt h ⟨p8.b, p8.o + 3⟩ 1 = some [.int .i64 n9] ∧
 vPtr p1 fun p10 =>
 PStore h ⟨p10.b, p10.o + 3⟩ [.int .i64 (wrapK .i64 (n9 - 1))] fun h11 =>
 Q (.int .i64 0) h11)
 (Q (.int .i64 0) h))
theorem ac172 {p1 : Option PA} {h : Heap} {Q : AV → Heap → Prop} (hk : vc172 p1 h Q) : AC Tryz.prog 172 [.ptr p1] h Q :=
 AC_by (H := hintsOf [] []) (by kernel_rfl) (by kernel_rfl) hk
def vc173 (p1 : Option PA) (p2 : Option PA) (n3 : Int) (l4 : Nat → Int) (h : Heap) (Q : AV → Heap → Prop) : Prop :=
 vPtr p2 fun p5 =>
 ∃ q6 : Option SL, cellsAt h ⟨p5.b, p5.o + 1⟩ 1 = some [.sl q6] ∧
 vIdx q6 n3 64 fun p7 =>
 PStore h p7 (cel .u8 64 l4) fun h8 =>
 vPtr p1 fun p9 =>
 ∃ q10 : Option SL, cellsAt h8 ⟨p9.b, p9.o + 1⟩ 1 = some [.sl q10] ∧
 PNew ([.ptr p2, .int .i64 n3] ++ ((cel .u8 64 l4))) true h8 fun a11 h12 =>
 (∃ q17 : Option SL, cellsAt h12 ⟨p9.b, p9.o + 1⟩ 1 = some [.sl q17] ∧
 LV.val (.sl q17) = LV.val (.sl q10)) ∧
 PAppendS 66 80 q10 (some ⟨a11, 0, 1, 1, 0⟩) h12 fun q13 h14 =>
 vPtr p1 fun p15 =>
 PStore h14 ⟨p15.b, p15.o + 1⟩ [.sl q13] fun h16 =>
 Q (.tup []) h16
theorem ac173 {p1 : Option PA} {p2 : Option PA} {n3 : Int} {l4 : Nat → Int} {h : Heap} {Q : AV → Heap → Prop} (hk : vc173 p1 p2 n3 l4 h Q) : AC Tryz.prog 173 [.ptr p1, .ptr p2, .int .i64 n3, .agg (cel .u8 64 l4)] h Q :=
 AC_by (H := hintsOf [7] []) (by kernel_rfl) (by kernel_rfl) hk
def vc223 (q1 : Option SL) (n2 : Int) (h : Heap) (Q : AV → Heap → Prop) : Prop :=
 AC Tryz.prog 266 [.sl q1] h fun v3 h4 => ∃ n5 : Int, ∃ b6 : Bool, v3 = .tup [.int .i64 n5, .bool b6] ∧
 vif (!b6)
 (Q (.tup [.sl none, .int .i64 60]) h4)
 (vif (n5 != n2)
 (Q (.tup [.sl none, .int .i64 60]) h4)
 (vIdx q1 8 1 fun p7 =>
 ∃ n8 : Int, cellsAt h4 p7 1 = some [.int .u8 n8] ∧
 vif (decide ((wrapK .i64 n8) > 43))
 (Q (.tup [.sl none, .int .i64 20]) h4)
 (PSlice 1 q1 9 (some (wrapK .i64 (9 + (wrapK .i64 n8)))) none fun q9 =>
 AC Tryz.prog 169 [.int .i64 n2, .sl q9] h4 fun v10 h11 => ∃ q12 : Option SL, ∃ n13 : Int, v10 = .tup [.sl q12, .int .i64 n13] ∧
 AC Tryz.prog 94 [.sl q12, .sl q1] h11 fun v14 h15 => ∃ b16 : Bool, v14 = .bool b16 ∧
 vif (!b16)
 (Q (.tup [.sl none, .int .i64 20]) h15)
 (AC Tryz.prog 131 [.sl q9] h15 fun v17 h18 => ∃ q19 : Option SL, v17 = .sl q19 ∧
 Q (.tup [.sl q19, .int .i64 0]) h18))))
theorem ac223 {q1 : Option SL} {n2 : Int} {h : Heap} {Q : AV → Heap → Prop} (hk : vc223 q1 n2 h Q) : AC Tryz.prog 223 [.sl q1, .int .i64 n2] h Q :=
 AC_by (H := hintsOf [] []) (by kernel_rfl) (by kernel_rfl) hk
def vc227 (p1 : Option PA) (n2 : Int) (h : Heap) (Q : AV → Heap → Prop) : Prop :=
 vif (decide (n2 < 1))
 (AC Tryz.prog 230 [.ptr p1] h fun v3 h4 => ∃ n5 : Int, v3 = .int .i64 n5 ∧
 Q (.int .i64 n5) h4)
 (vif (decide (n2 > 8))
 (AC Tryz.prog 230 [.ptr p1] h fun v6 h7 => ∃ n8 : Int, v6 = .int .i64 n8 ∧
 Q (.int .i64 n8) h7)
 (AC Tryz.prog 268 [.ptr p1, .int .i64 n2] h fun v9 h10 => ∃ q11 : Option SL, v9 = .sl q11 ∧
 ∃ (I14 : List AV → Heap → Prop) (m15 : List AV → Heap → Nat), I14 [.int .u64 0, .int .i64 0] h10 ∧
 ∀ n12 n13 : Int, ∀ h16 : Heap, I14 [.int .u64 n12, .int .i64 n13] h16 →
 vif (decide (n13 < (slLen q11 : Int)))
 (vIdx q11 n13 1 fun p17 =>
 ∃ n18 : Int, cellsAt h16 p17 1 = some [.int .u8 n18] ∧
 (True) ∧ I14 [.int .u64 (bitsOr .u64 (shlK .u64 n12 8) (wrapK .u64 n18)), .int .i64 (wrapK .i64 (n13 + 1))] h16 ∧ m15 [.int .u64 (bitsOr .u64 (shlK .u64 n12 8) (wrapK .u64 n18)), .int .i64 (wrapK .i64 (n13 + 1))] h16 < m15 [.int .u64 n12, .int .i64 n13] h16)
 (AC Tryz.prog 231 [.ptr p1] h16 fun v19 h20 => ∃ b21 : Bool, v19 = .bool b21 ∧
 vif b21
 (AC Tryz.prog 230 [.ptr p1] h20 fun v22 h23 => ∃ n24 : Int, v22 = .int .i64 n24 ∧
 Q (.int .i64 n24) h23)
 (vif (decide (n12 > 9223372036854775807))
 (AC Tryz.prog 230 [.ptr p1] h20 fun v25 h26 => ∃ n27 : Int, v25 = .int .i64 n27 ∧
 Q (.int .i64 n27) h26)
 (Q (.int .i64 (wrapK .i64 n12)) h20)))))
theorem ac227 {p1 : Option PA} {n2 : Int} {h : Heap} {Q : AV → Heap → Prop} (hk : vc227 p1 n2 h Q) : AC Tryz.prog 227 [.ptr p1, .int .i64 n2] h Q :=
 AC_by (H := hintsOf [] [(0, [5, 20], [])]) (by kernel_rfl) (by kernel_rfl) hk
def vc228 (p1 : Option PA) (n2 : Int) (b3 : Bool) (h : Heap) (Q : AV → Heap → Prop) : Prop :=
 AC Tryz.prog 231 [.ptr p1] h fun v4 h5 => ∃ b6 : Bool, v4 = .bool b6 ∧
 vif b6
 (AC Tryz.prog 230 [.ptr p1] h5 fun v7 h8 => ∃ n9 : Int, v7 = .int .i64 n9 ∧
 Q (.int .i64 n9) h8)
 (vif (!b3)
 (AC Tryz.prog 230 [.ptr p1] h5 fun v10 h11 => ∃ n12 : Int, v10 = .int .i64 n12 ∧
 Q (.int .i64 n12) h11)
 (Q (.int .i64 n2) h5))
theorem ac228 {p1 : Option PA} {n2 : Int} {b3 : Bool} {h : Heap} {Q : AV → Heap → Prop} (hk : vc228 p1 n2 b3 h Q) : AC Tryz.prog 228 [.ptr p1, .int .i64 n2, .bool b3] h Q :=
 AC_by (H := hintsOf [] []) (by kernel_rfl) (by kernel_rfl) hk
def vc229 (n1 : Int) (h : Heap) (Q : AV → Heap → Prop) : Prop :=
 vif (decide (n1 < 0))
 (Q (.int .i64 0) h)
 (vif (decide (n1 < 240))
 (Q (.int .i64 1) h)
 (vif (decide (n1 < 2288))
 (Q (.int .i64 2) h)
 (AC Tryz.prog 269 [.int .i64 n1] h fun v2 h3 => ∃ n4 : Int, v2 = .int .i64 n4 ∧
 Q (.int .i64 (wrapK .i64 (1 + n4))) h3)))
theorem ac229 {n1 : Int} {h : Heap} {Q : AV → Heap → Prop} (hk : vc229 n1 h Q) : AC Tryz.prog 229 [.int .i64 n1] h Q :=
 AC_by (H := hintsOf [] []) (by kernel_rfl) (by kernel_rfl) hk
def vc230 (p1 : Option PA) (h : Heap) (Q : AV → Heap → Prop) : Prop :=
 vif (!(p1.isNone))
 (vPtr p1 fun p2 =>
 PStore h ⟨p2.b, p2.o + 1⟩ [.bool true] fun h3 =>
 Q (.int .i64 0) h3)
 (Q (.int .i64 0) h)
theorem ac230 {p1 : Option PA} {h : Heap} {Q : AV → Heap → Prop} (hk : vc230 p1 h Q) : AC Tryz.prog 230 [.ptr p1] h Q :=
 AC_by (H := hintsOf [] []) (by kernel_rfl) (by kernel_rfl) hk
def vc231 (p1 : Option PA) (h : Heap) (Q : AV → Heap → Prop) : Prop :=
 vif (p1.isNone)
 (Q (.bool true) h)
 (vPtr p1 fun p2 =>
 ∃ b3 : Bool, cellsAt h ⟨p2.b, p2.o + 1⟩ 1 = some [.bool b3] ∧
 Q (.bool b3) h)
theorem ac231 {p1 : Option PA} {h : Heap} {Q : AV → Heap → Prop} (hk : vc231 p1 h Q) : AC Tryz.prog 231 [.ptr p1] h Q :=
 AC_by (H := hintsOf [] []) (by kernel_rfl) (by kernel_rfl) hk
def vc236 (n1 : Int) (h : Heap) (Q : AV → Heap → Prop) : Prop :=
 vif (decide (n1 < 0))
 (Q (.tup [.sl none, .int .i64 1]) h)
 (vif (decide (n1 < 240))
 (PNew [.int .u8 (wrapK .u8 n1)] true h fun a2 h3 =>
 Q (.tup [.sl (some ⟨a2, 0, 1, 1, 0⟩), .int .i64 0]) h3)
 (vif (decide (n1 < 2288))
 (PNew [.int .u8 (wrapK .u8 (wrapK .i64 (240 + (shrK .i64 (wrapK .i64 (n1 - 240)) 8)))), .int .u8 (wrapK .u8 (wrapK .i64 (n1 - 240)))] true h fun a4 h5 =>
 Q (.tup [.sl (some ⟨a4, 0, 2, 2, 0⟩), .int .i64 0]) h5)
 (AC Tryz.prog 269 [.int .i64 n1] h fun v6 h7 => ∃ n8 : Int, v6 = .int .i64 n8 ∧
 PNew [.int .u8 (wrapK .u8 (wrapK .i64 (246 + n8)))] true h7 fun a9 h10 =>
 AC Tryz.prog 274 [.int .i64 n1, .int .i64 n8] h10 fun v11 h12 => ∃ q13 : Option SL, v11 = .sl q13 ∧
 PAppendS 1 1 (some ⟨a9, 0, 1, 1, 0⟩) q13 h12 fun q14 h15 =>
 Q (.tup [.sl q14, .int .i64 0]) h15)))
theorem ac236 {n1 : Int} {h : Heap} {Q : AV → Heap → Prop} (hk : vc236 n1 h Q) : AC Tryz.prog 236 [.int .i64 n1] h Q :=
 AC_by (H := hintsOf [] []) (by kernel_rfl) (by kernel_rfl) hk
def vc237 (n1 : Int) (h : Heap) (Q : AV → Heap → Prop) : Prop :=
 vif (decide (n1 ≥ 1))
 (Q (.bool (decide (n1 ≤ 4611686018427387903))) h)
 (Q (.bool false) h)
theorem ac237 {n1 : Int} {h : Heap} {Q : AV → Heap → Prop} (hk : vc237 n1 h Q) : AC Tryz.prog 237 [.int .i64 n1] h Q :=
 AC_by (H := hintsOf [] []) (by kernel_rfl) (by kernel_rfl) hk
def vc238 (n1 : Int) (n2 : Int) (h : Heap) (Q : AV → Heap → Prop) : Prop :=
 vif (decide (n1 < 0))
 (Q (.tup [.sl none, .int .i64 1]) h)
 (vif (decide (n2 < 1))
 (Q (.tup [.sl none, .int .i64 1]) h)
 (vif (decide (n2 > 8))
 (Q (.tup [.sl none, .int .i64 1]) h)
 (AC Tryz.prog 269 [.int .i64 n1] h fun v3 h4 => ∃ n5 : Int, v3 = .int .i64 n5 ∧
 vif (decide (n5 > n2))
 (Q (.tup [.sl none, .int .i64 1]) h4)
 (AC Tryz.prog 274 [.int .i64 n1, .int .i64 n2] h4 fun v6 h7 => ∃ q8 : Option SL, v6 = .sl q8 ∧
 Q (.tup [.sl q8, .int .i64 0]) h7))))
theorem ac238 {n1 : Int} {n2 : Int} {h : Heap} {Q : AV → Heap → Prop} (hk : vc238 n1 n2 h Q) : AC Tryz.prog 238 [.int .i64 n1, .int .i64 n2] h Q :=
 AC_by (H := hintsOf [] []) (by kernel_rfl) (by kernel_rfl) hk
def vc239 (q1 : Option SL) (h : Heap) (Q : AV → Heap → Prop) : Prop :=
 ∃ (I4 : List AV → Heap → Prop) (m5 : List AV → Heap → Nat), I4 [.int .i64 0, .int .i64 0] h ∧
 ∀ n2 n3 : Int, ∀ h6 : Heap, I4 [.int .i64 n2, .int .i64 n3] h6 →
 vif (decide (n3 < (slLen q1 : Int)))
 (vIdx q1 n3 1 fun p7 =>
 ∃ q8 : Option SL, cellsAt h6 p7 1 = some [.sl q8] ∧
 vif (decide ((wrapK .i64 (n2 + (slLen q8 : Int))) < 0))
 (False)
 ((True) ∧ I4 [.int .i64 (wrapK .i64 (n2 + (slLen q8 : Int))), .int .i64 (wrapK .i64 (n3 + 1))] h6 ∧ m5 [.int .i64 (wrapK .i64 (n2 + (slLen q8 : Int))), .int .i64 (wrapK .i64 (n3 + 1))] h6 < m5 [.int .i64 n2, .int .i64 n3] h6))
 (AC Tryz.prog 275 [.sl none, .int .i64 n2] h6 fun v9 h10 => ∃ q11 : Option SL, v9 = .sl q11 ∧
 ∃ (I14 : List AV → Heap → Prop) (m15 : List AV → Heap → Nat), I14 [.sl q11, .int .i64 0] h10 ∧
 ∀ q12 : Option SL, ∀ n13 : Int, ∀ h16 : Heap, I14 [.sl q12, .int .i64 n13] h16 →
 vif (decide (n13 < (slLen q1 : Int)))
 (vIdx q1 n13 1 fun p17 =>
 ∃ q18 : Option SL, cellsAt h16 p17 1 = some [.sl q18] ∧
 PAppendS 1 1 q12 q18 h16 fun q19 h20 =>
 (True) ∧ I14 [.sl q19, .int .i64 (wrapK .i64 (n13 + 1))] h20 ∧ m15 [.sl q19, .int .i64 (wrapK .i64 (n13 + 1))] h20 < m15 [.sl q12, .int .i64 n13] h16)
 (Q (.sl q12) h16))
theorem ac239 {q1 : Option SL} {h : Heap} {Q : AV → Heap → Prop} (hk : vc239 q1 h Q) : AC Tryz.prog 239 [.sl q1] h Q :=
 AC_by (H := hintsOf [] [(0, [3, 11], []), (2, [6, 27], [])]) (by kernel_rfl) (by kernel_rfl) hk
def vc240 (q1 : Option SL) (h : Heap) (Q : AV → Heap → Prop) : Prop :=
 AC Tryz.prog 277 [.sl q1] h fun v2 h3 => ∃ n4 : Int, v2 = .int .u32 n4 ∧
 AC Tryz.prog 276 [.int .u32 n4] h3 fun v5 h6 => ∃ q7 : Option SL, v5 = .sl q7 ∧
 PNew [.sl q1, .sl q7] true h6 fun a8 h9 =>
 AC Tryz.prog 239 [.sl (some ⟨a8, 0, 2, 2, 0⟩)] h9 fun v10 h11 => ∃ q12 : Option SL, v10 = .sl q12 ∧
 Q (.sl q12) h11
theorem ac240 {q1 : Option SL} {h : Heap} {Q : AV → Heap → Prop} (hk : vc240 q1 h Q) : AC Tryz.prog 240 [.sl q1] h Q :=
 AC_by (H := hintsOf [] []) (by kernel_rfl) (by kernel_rfl) hk
def vc266 (q1 : Option SL) (h : Heap) (Q : AV → Heap → Prop) : Prop :=
 vif ((slLen q1 : Int) != 64)
 (Q (.tup [.int .i64 0, .bool false]) h)
 (PSlice 1 q1 0 (some 8) none fun q2 =>
 PSlice 1 q1 56 none none fun q3 =>
 AC Tryz.prog 94 [.sl q2, .sl q3] h fun v4 h5 => ∃ b6 : Bool, v4 = .bool b6 ∧
 vif (!b6)
 (Q (.tup [.int .i64 0, .bool false]) h5)
 (PSlice 1 q1 0 (some 8) none fun q7 =>
 AC Tryz.prog 158 [.sl q7] h5 fun v8 h9 => ∃ p10 : Option PA, v8 = .ptr p10 ∧
 AC Tryz.prog 227 [.ptr p10, .int .i64 8] h9 fun v11 h12 => ∃ n13 : Int, v11 = .int .i64 n13 ∧
 AC Tryz.prog 237 [.int .i64 n13] h12 fun v14 h15 => ∃ b16 : Bool, v14 = .bool b16 ∧
 vif (!b16)
 (Q (.tup [.int .i64 0, .bool false]) h15)
 (Q (.tup [.int .i64 n13, .bool true]) h15)))
theorem ac266 {q1 : Option SL} {h : Heap} {Q : AV → Heap → Prop} (hk : vc266 q1 h Q) : AC Tryz.prog 266 [.sl q1] h Q :=
 AC_by (H := hintsOf [] []) (by kernel_rfl) (by kernel_rfl) hk
def vc268 (p1 : Option PA) (n2 : Int) (h : Heap) (Q : AV → Heap → Prop) : Prop :=
 AC Tryz.prog 231 [.ptr p1] h fun v3 h4 => ∃ b5 : Bool, v3 = .bool b5 ∧
 vif b5
 (AC Tryz.prog 230 [.ptr p1] h4 fun v6 h7 => ∃ n8 : Int, v6 = .int .i64 n8 ∧
 Q (.sl none) h7)
 (vif (decide (n2 < 0))
 (AC Tryz.prog 230 [.ptr p1] h4 fun v9 h10 => ∃ n11 : Int, v9 = .int .i64 n11 ∧
 Q (.sl none) h10)
 (vPtr p1 fun p12 =>
 ∃ q13 : Option SL, cellsAt h4 ⟨p12.b, p12.o + 0⟩ 1 = some [.sl q13] ∧
 vif (decide (n2 > (slLen q13 : Int)))
 (AC Tryz.prog 230 [.ptr p1] h4 fun v14 h15 => ∃ n16 : Int, v14 = .int .i64 n16 ∧
 Q (.sl none) h15)
 (vPtr p1 fun p17 =>
 ∃ q18 : Option SL, cellsAt h4 ⟨p17.b, p17.o + 0⟩ 1 = some [.sl q18] ∧
 PSlice 1 q18 0 (some n2) none fun q19 =>
 AC Tryz.prog 131 [.sl q19] h4 fun v20 h21 => ∃ q22 : Option SL, v20 = .sl q22 ∧
 vPtr p1 fun p23 =>
 ∃ q24 : Option SL, cellsAt h21 ⟨p23.b, p23.o + 0⟩ 1 = some [.sl q24] ∧
 PSlice 1 q24 n2 none none fun q25 =>
 vPtr p1 fun p26 =>
 PStore h21 ⟨p26.b, p26.o + 0⟩ [.sl q25] fun h27 =>
 Q (.sl q22) h27)))
theorem ac268 {p1 : Option PA} {n2 : Int} {h : Heap} {Q : AV → Heap → Prop} (hk : vc268 p1 n2 h Q) : AC Tryz.prog 268 [.ptr p1, .int .i64 n2] h Q :=
 AC_by (H := hintsOf [] []) (by kernel_rfl) (by kernel_rfl) hk
def vc269 (n1 : Int) (h : Heap) (Q : AV → Heap → Prop) : Prop :=
 ∃ (I4 : List AV → Heap → Prop) (m5 : List AV → Heap → Nat), I4 [.int .i64 (shrK .i64 n1 8), .int .i64 1] h ∧
 ∀ n2 n3 : Int, ∀ h6 : Heap, I4 [.int .i64 n2, .int .i64 n3] h6 →
 vif (decide (n2 > 0))
 ((True) ∧ I4 [.int .i64 (shrK .i64 n2 8), .int .i64 (wrapK .i64 (n3 + 1))] h6 ∧ m5 [.int .i64 (shrK .i64 n2 8), .int .i64 (wrapK .i64 (n3 + 1))] h6 < m5 [.int .i64 n2, .int .i64 n3] h6)
 (Q (.int .i64 n3) h6)
theorem ac269 {n1 : Int} {h : Heap} {Q : AV → Heap → Prop} (hk : vc269 n1 h Q) : AC Tryz.prog 269 [.int .i64 n1] h Q :=
 AC_by (H := hintsOf [] [(0, [0, 3], [])]) (by kernel_rfl) (by kernel_rfl) hk
def vc274 (n1 : Int) (n2 : Int) (h : Heap) (Q : AV → Heap → Prop) : Prop :=
 PMake [.int .u8 0] 1 n2 n2 h fun q3 h4 =>
 ∃ (I6 : List AV → Heap → Prop) (m7 : List AV → Heap → Nat), I6 [.int .i64 0] h4 ∧
 ∀ n5 : Int, ∀ h8 : Heap, I6 [.int .i64 n5] h8 →
 vif (decide (n5 < (slLen q3 : Int)))
 (need (decide (0 ≤ (wrapK .i64 (8 * (wrapK .i64 ((wrapK .i64 (n2 - 1)) - n5))))))
 (vIdx q3 n5 1 fun p9 =>
 PStore h8 p9 [.int .u8 (wrapK .u8 (shrK .i64 n1 (wrapK .i64 (8 * (wrapK .i64 ((wrapK .i64 (n2 - 1)) - n5))))))] fun h10 =>
 (True) ∧ I6 [.int .i64 (wrapK .i64 (n5 + 1))] h10 ∧ m7 [.int .i64 (wrapK .i64 (n5 + 1))] h10 < m7 [.int .i64 n5] h8))
 (Q (.sl q3) h8)
theorem ac274 {n1 : Int} {n2 : Int} {h : Heap} {Q : AV → Heap → Prop} (hk : vc274 n1 n2 h Q) : AC Tryz.prog 274 [.int .i64 n1, .int .i64 n2] h Q :=
 AC_by (H := hintsOf [] [(0, [11], [])]) (by kernel_rfl) (by kernel_rfl) hk
def vc275 (n1 : Int) (h : Heap) (Q : AV → Heap → Prop) : Prop :=
 vif (decide (n1 < 0))
 (False)
 (vif (decide ((wrapK .i64 (n1 - 0)) > 0))
 (PSlice 1 none 0 (some 0) none fun q2 =>
 0 ≤ (wrapK .i64 (n1 - 0)) ∧ (wrapK .i64 (n1 - 0)) ≤ maxI ∧ (wrapK .i64 (n1 - 0)) * 1 ≤ 140737488355328 ∧ PAppend 1 1 q2 (wrapK .i64 (n1 - 0)).toNat (List.replicate (wrapK .i64 (n1 - 0)).toNat [.int .u8 0]).flatten h fun q3 h4 =>
 PSlice 1 q3 0 (some 0) none fun q5 =>
 Q (.sl q5) h4)
 (Q (.sl none) h))
theorem ac275 {n1 : Int} {h : Heap} {Q : AV → Heap → Prop} (hk : vc275 n1 h Q) : AC Tryz.prog 275 [.sl none, .int .i64 n1] h Q :=
 AC_by (H := hintsOf [] []) (by kernel_rfl) (by kernel_rfl) hk
def vc276 (n1 : Int) (h : Heap) (Q : AV → Heap → Prop) : Prop :=
 PNew [.int .u8 (wrapK .u8 n1), .int .u8 (wrapK .u8 (shrK .u32 n1 8)), .int .u8 (wrapK .u8 (shrK .u32 n1 16)), .int .u8 (wrapK .u8 (shrK .u32 n1 24))] true h fun a2 h3 =>
 Q (.sl (some ⟨a2, 0, 4, 4, 0⟩)) h3
theorem ac276 {n1 : Int} {h : Heap} {Q : AV → Heap → Prop} (hk : vc276 n1 h Q) : AC Tryz.prog 276 [.int .u32 n1] h Q :=
 AC_by (H := hintsOf [] []) (by kernel_rfl) (by kernel_rfl) hk
def vc277 (q1 : Option SL) (h : Heap) (Q : AV → Heap → Prop) : Prop :=
 AC Tryz.prog 296 [.int .u32 0, .sl q1] h fun v2 h3 => ∃ n4 : Int, v2 = .int .u32 n4 ∧
 Q (.int .u32 n4) h3
theorem ac277 {q1 : Option SL} {h : Heap} {Q : AV → Heap → Prop} (hk : vc277 q1 h Q) : AC Tryz.prog 277 [.sl q1] h Q :=
 AC_by (H := hintsOf [] []) (by kernel_rfl) (by kernel_rfl) hk
def vc296 (n1 : Int) (q2 : Option SL) (h : Heap) (Q : AV → Heap → Prop) : Prop :=
 ∃ (I5 : List AV → Heap → Prop) (m6 : List AV → Heap → Nat), I5 [.int .u32 (bitsXor .u32 4294967295 n1), .int .i64 0] h ∧
 ∀ n3 n4 : Int, ∀ h7 : Heap, I5 [.int .u32 n3, .int .i64 n4] h7 →
 vif (decide (n4 < (slLen q2 : Int)))
 (vIdx q2 n4 1 fun p8 =>
 ∃ n9 : Int, cellsAt h7 p8 1 = some [.int .u8 n9] ∧
 need (decide (0 ≤ (bitsAnd .u32 (bitsXor .u32 n3 (wrapK .u32 n9)) 15)) && decide ((bitsAnd .u32 (bitsXor .u32 n3 (wrapK .u32 n9)) 15) < 16))
 (∃ a10 j11 : Nat, h7[a10]? = some (.gm 0 j11) ∧
 ∃ n12 : Int, cellsAt h7 ⟨j11, (bitsAnd .u32 (bitsXor .u32 n3 (wrapK .u32 n9)) 15).toNat * 1⟩ 1 = some [.int .u32 n12] ∧
 need (decide (0 ≤ (bitsAnd .u32 (bitsXor .u32 n12 (shrK .u32 (bitsXor .u32 n3 (wrapK .u32 n9)) 4)) 15)) && decide ((bitsAnd .u32 (bitsXor .u32 n12 (shrK .u32 (bitsXor .u32 n3 (wrapK .u32 n9)) 4)) 15) < 16))
 (∃ a13 j14 : Nat, h7[a13]? = some (.gm 0 j14) ∧
 ∃ n15 : Int, cellsAt h7 ⟨j14, (bitsAnd .u32 (bitsXor .u32 n12 (shrK .u32 (bitsXor .u32 n3 (wrapK .u32 n9)) 4)) 15).toNat * 1⟩ 1 = some [.int .u32 n15] ∧
 (True) ∧ I5 [.int .u32 (bitsXor .u32 n15 (shrK .u32 (bitsXor .u32 n12 (shrK .u32 (bitsXor .u32 n3 (wrapK .u32 n9)) 4)) 4)), .int .i64 (wrapK .i64 (n4 + 1))] h7 ∧ m6 [.int .u32 (bitsXor .u32 n15 (shrK .u32 (bitsXor .u32 n12 (shrK .u32 (bitsXor .u32 n3 (wrapK .u32 n9)) 4)) 4)), .int .i64 (wrapK .i64 (n4 + 1))] h7 < m6 [.int .u32 n3, .int .i64 n4] h7)))
 (Q (.int .u32 (bitsXor .u32 4294967295 n3)) h7)
theorem ac296 {n1 : Int} {q2 : Option SL} {h : Heap} {Q : AV → Heap → Prop} (hk : vc296 n1 q2 h Q) : AC Tryz.prog 296 [.int .u32 n1, .sl q2] h Q :=
 AC_by (H := hintsOf [] [(0, [5, 12], [])]) (by kernel_rfl) (by kernel_rfl) hk
def vc29 (p1 : Option PA) (n2 : Int) (h : Heap) (Q : AV → Heap → Prop) : Prop :=
 AC Tryz.prog 104 [.ptr p1] h fun v3 h4 => ∃ b5 : Bool, v3 = .bool b5 ∧
 vif (!b5)
 (Q (.int .i64 6) h4)
 (vif (decide (n2 < 0))
 (Q (.int .i64 1) h4)
 (vPtr p1 fun p6 =>
 PStore h4 ⟨p6.b, p6.o + 3⟩ [.int .i64 n2] fun h7 =>
 Q (.int .i64 0) h7))
theorem ac29 {p1 : Option PA} {n2 : Int} {h : Heap} {Q : AV → Heap → Prop} (hk : vc29 p1 n2 h Q) : AC Tryz.prog 29 [.ptr p1, .int .i64 n2] h Q :=
 AC_by (H := hintsOf [] []) (by kernel_rfl) (by kernel_rfl) hk
def vc34 (p1 : Option PA) (q2 : Option SL) (h : Heap) (Q : AV → Heap → Prop) : Prop :=
 AC Tryz.prog 104 [.ptr p1] h fun v3 h4 => ∃ b5 : Bool, v3 = .bool b5 ∧
 vif (!b5)
 (Q (.tup []) h4)
 (vPtr p1 fun p6 =>
 ∃ q7 : Option SL, cellsAt h4 ⟨p6.b, p6.o + 1⟩ 1 = some [.sl q7] ∧
 ∃ (I9 : List AV → Heap → Prop) (m10 : List AV → Heap → Nat), I9 [.int .i64 0] h4 ∧
 ∀ n8 : Int, ∀ h11 : Heap, I9 [.int .i64 n8] h11 →
 vif (decide (n8 < (slLen q7 : Int)))
 (vIdx q7 n8 66 fun p12 =>
 ∃ p13 : Option PA, ∃ n14 : Int, exC .u8 64 fun l15 =>
 cellsAt h11 p12 66 = some ([.ptr p13, .int .i64 n14] ++ (l15)) ∧
 vif (decide (n8 < (slLen q2 : Int)))
 (vIdx q2 n8 1 fun p16 =>
 ∃ n17 : Int, cellsAt h11 p16 1 = some [.int .i64 n17] ∧
 AC Tryz.prog 113 [.agg ([.ptr p13, .int .i64 n14] ++ (l15)), .int .i64 n17] h11 fun v18 h19 => v18 = .tup [] ∧
 (True) ∧ I9 [.int .i64 (wrapK .i64 (n8 + 1))] h19 ∧ m10 [.int .i64 (wrapK .i64 (n8 + 1))] h19 < m10 [.int .i64 n8] h11)
 ((True) ∧ I9 [.int .i64 (wrapK .i64 (n8 + 1))] h11 ∧ m10 [.int .i64 (wrapK .i64 (n8 + 1))] h11 < m10 [.int .i64 n8] h11))
 (vPtr p1 fun p20 =>
 PStore h11 ⟨p20.b, p20.o + 1⟩ [.sl none] fun h21 =>
 vPtr p1 fun p22 =>
 PStore h21 ⟨p22.b, p22.o + 3⟩ [.int .i64 (-1)] fun h23 =>
 vPtr p1 fun p24 =>
 PStore h23 ⟨p24.b, p24.o + 4⟩ [.bool false] fun h25 =>
 vPtr p1 fun p26 =>
 ∃ m27 : Option Nat, cellsAt h25 ⟨p26.b, p26.o + 0⟩ 1 = some [.map m27] ∧
 vRange m27 h25 fun a28 h29 =>
 ∃ (I30 : List AV → Heap → Prop) (m31 : List AV → Heap → Nat), I30 [] h29 ∧
 ∀ h32 : Heap, I30 [] h32 →
 PNext2 a28 h32 (fun h33 =>
 Q (.tup []) h33) fun v34 v35 h36 =>
 PEntry a28 h36 fun v37 =>
 ∃ s38 : List UInt8, ∃ p39 : Option PA, v37 = .tup [.str s38, .ptr p39] ∧
 vPtr p39 fun p40 =>
 ∃ q41 : Option SL, cellsAt h36 ⟨p40.b, p40.o + 2⟩ 1 = some [.sl q41] ∧
 AC Tryz.prog 114 [.sl q41] h36 fun v42 h43 => ∃ q44 : Option SL, v42 = .sl q44 ∧
 vPtr p39 fun p45 =>
 PStore h43 ⟨p45.b, p45.o + 1⟩ [.sl q44] fun h46 =>
 (True) ∧ I30 [] h46 ∧ m31 [] h46 < m31 [] h32))
theorem ac34 {p1 : Option PA} {q2 : Option SL} {h : Heap} {Q : AV → Heap → Prop} (hk : vc34 p1 q2 h Q) : AC Tryz.prog 34 [.ptr p1, .sl q2] h Q :=
 AC_by (H := hintsOf [5, 148167] [(0, [16], []), (2, [], [])]) (by kernel_rfl) (by kernel_rfl) hk
def vc42 (p1 : Option PA) (h : Heap) (Q : AV → Heap → Prop) : Prop :=
 AC Tryz.prog 104 [.ptr p1] h fun v2 h3 => ∃ b4 : Bool, v2 = .bool b4 ∧
 vif (!b4)
 (Q (.sl none) h3)
 (vPtr p1 fun p5 =>
 ∃ m6 : Option Nat, cellsAt h3 ⟨p5.b, p5.o + 0⟩ 1 = some [.map m6] ∧
 AC Tryz.prog 124 [.map m6] h3 fun v7 h8 => ∃ v9 : AV, v9.one = true ∧ v7 = v9 ∧
 AC Tryz.prog 122 [v9] h8 fun v10 h11 => ∃ q12 : Option SL, v10 = .sl q12 ∧
 ∃ (I15 : List AV → Heap → Prop) (m16 : List AV → Heap → Nat), I15 [.sl none, .int .i64 0] h11 ∧
 ∀ q13 : Option SL, ∀ n14 : Int, ∀ h17 : Heap, I15 [.sl q13, .int .i64 n14] h17 →
 vif (decide (n14 < (slLen q12 : Int)))
 (vIdx q12 n14 1 fun p18 =>
 ∃ s19 : List UInt8, cellsAt h17 p18 1 = some [.str s19] ∧
 vPtr p1 fun p20 =>
 ∃ m21 : Option Nat, cellsAt h17 ⟨p20.b, p20.o + 0⟩ 1 = some [.map m21] ∧
 PLookup Tryz.prog 9 183 m21 (.str s19) false h17 fun v22 =>
 ∃ p23 : Option PA, v22 = .ptr p23 ∧
 vPtr p23 fun p24 =>
 ∃ q25 : Option SL, cellsAt h17 ⟨p24.b, p24.o + 1⟩ 1 = some [.sl q25] ∧
 PNew [.str s19, .int .i64 (slLen q25 : Int)] true h17 fun a26 h27 =>
 PAppendS 2 24 q13 (some ⟨a26, 0, 1, 1, 0⟩) h27 fun q28 h29 =>
 (True) ∧ I15 [.sl q28, .int .i64 (wrapK .i64 (n14 + 1))] h29 ∧ m16 [.sl q28, .int .i64 (wrapK .i64 (n14 + 1))] h29 < m16 [.sl q13, .int .i64 n14] h17)
 (Q (.sl q13) h17))
theorem ac42 {p1 : Option PA} {h : Heap} {Q : AV → Heap → Prop} (hk : vc42 p1 h Q) : AC Tryz.prog 42 [.ptr p1] h Q :=
 AC_by (H := hintsOf [] [(0, [3, 16], [])]) (by kernel_rfl) (by kernel_rfl) hk
def vc98 (p1 : Option PA) (h : Heap) (Q : AV → Heap → Prop) : Prop :=
 AC Tryz.prog 104 [.ptr p1] h fun v2 h3 => ∃ b4 : Bool, v2 = .bool b4 ∧
 vif (!b4)
 (Q (.bool true) h3)
 (vPtr p1 fun p5 =>
 ∃ b6 : Bool, cellsAt h3 ⟨p5.b, p5.o + 4⟩ 1 = some [.bool b6] ∧
 Q (.bool b6) h3)
theorem ac98 {p1 : Option PA} {h : Heap} {Q : AV → Heap → Prop} (hk : vc98 p1 h Q) : AC Tryz.prog 98 [.ptr p1] h Q :=
 AC_by (H := hintsOf [] []) (by kernel_rfl) (by kernel_rfl) hk
def vc126 (p1 : Option PA) (s2 : List UInt8) (h : Heap) (Q : AV → Heap → Prop) : Prop :=
 AC Tryz.prog 130 [.ptr p1, .str s2] h fun v3 h4 => ∃ p5 : Option PA, ∃ n6 : Int, v3 = .tup [.ptr p5, .int .i64 n6] ∧
 vif (n6 != 0)
 (Q (.int .i64 n6) h4)
 (AC Tryz.prog 172 [.ptr p1] h4 fun v7 h8 => ∃ n9 : Int, v7 = .int .i64 n9 ∧
 vif (n9 != 0)
 (Q (.int .i64 n9) h8)
 (AC Tryz.prog 174 [.ptr p1, .ptr p5] h8 fun v10 h11 => v10 = .tup [] ∧
 vPtr p1 fun p12 =>
 ∃ m13 : Option Nat, cellsAt h11 ⟨p12.b, p12.o + 0⟩ 1 = some [.map m13] ∧
 PDelete Tryz.prog 9 m13 (.str s2) h11 fun h14 =>
 Q (.int .i64 0) h14))
theorem ac126 {p1 : Option PA} {s2 : List UInt8} {h : Heap} {Q : AV → Heap → Prop} (hk : vc126 p1 s2 h Q) : AC Tryz.prog 126 [.ptr p1, .str s2] h Q :=
 AC_by (H := hintsOf [] []) (by kernel_rfl) (by kernel_rfl) hk
def vc174 (p1 : Option PA) (p2 : Option PA) (h : Heap) (Q : AV → Heap → Prop) : Prop :=
 PNew [.ptr p2] true h fun a3 h4 =>
 vPtr p1 fun p5 =>
 ∃ q6 : Option SL, cellsAt h4 ⟨p5.b, p5.o + 1⟩ 1 = some [.sl q6] ∧
 AC Tryz.prog 241 [.sl q6, .func (.func 242) [] [.ptr (some ⟨a3, 0⟩)]] h4 fun v7 h8 => ∃ q9 : Option SL, v7 = .sl q9 ∧
 vPtr p1 fun p10 =>
 PStore h8 ⟨p10.b, p10.o + 1⟩ [.sl q9] fun h11 =>
 Q (.tup []) h11
theorem ac174 {p1 : Option PA} {p2 : Option PA} {h : Heap} {Q : AV → Heap → Prop} (hk : vc174 p1 p2 h Q) : AC Tryz.prog 174 [.ptr p1, .ptr p2] h Q :=
 AC_by (H := hintsOf [] []) (by kernel_rfl) (by kernel_rfl) hk
def vc182 (p1 : Option PA) (s2 : List UInt8) (s3 : List UInt8) (h : Heap) (Q : AV → Heap → Prop) : Prop :=
 AC Tryz.prog 104 [.ptr p1] h fun v4 h5 => ∃ b6 : Bool, v4 = .bool b6 ∧
 vif b6
 (AC Tryz.prog 170 [.str s3] h5 fun v7 h8 => ∃ b9 : Bool, v7 = .bool b9 ∧
 vif (!b9)
 (Q (.int .i64 1) h8)
 (AC Tryz.prog 130 [.ptr p1, .str s2] h8 fun v10 h11 => ∃ p12 : Option PA, ∃ n13 : Int, v10 = .tup [.ptr p12, .int .i64 n13] ∧
 vif (n13 != 0)
 (Q (.int .i64 n13) h11)
 (AC Tryz.prog 172 [.ptr p1] h11 fun v14 h15 => ∃ n16 : Int, v14 = .int .i64 n16 ∧
 vif (n16 != 0)
 (Q (.int .i64 n16) h15)
 (vif (s2 == s3)
 (Q (.int .i64 0) h15)
 (vPtr p1 fun p17 =>
 ∃ m18 : Option Nat, cellsAt h15 ⟨p17.b, p17.o + 0⟩ 1 = some [.map m18] ∧
 PLookup Tryz.prog 9 183 m18 (.str s3) false h15 fun v19 =>
 ∃ p20 : Option PA, v19 = .ptr p20 ∧
 vif (!(p20.isNone))
 (AC Tryz.prog 174 [.ptr p1, .ptr p20] h15 fun v21 h22 => v21 = .tup [] ∧
 vPtr p1 fun p23 =>
 ∃ m24 : Option Nat, cellsAt h22 ⟨p23.b, p23.o + 0⟩ 1 = some [.map m24] ∧
 PDelete Tryz.prog 9 m24 (.str s2) h22 fun h25 =>
 vPtr p12 fun p26 =>
 PStore h25 ⟨p26.b, p26.o + 0⟩ [.str s3] fun h27 =>
 vPtr p1 fun p28 =>
 ∃ m29 : Option Nat, cellsAt h27 ⟨p28.b, p28.o + 0⟩ 1 = some [.map m29] ∧
 vMap m29 fun a31 => PUpdate Tryz.prog 9 a31 (.str s3) (.ptr p12) h27 fun h30 =>
 Q (.int .i64 0) h30)
 (vPtr p1 fun p32 =>
 ∃ m33 : Option Nat, cellsAt h15 ⟨p32.b, p32.o + 0⟩ 1 = some [.map m33] ∧
 PDelete Tryz.prog 9 m33 (.str s2) h15 fun h34 =>
 vPtr p12 fun p35 =>
 PStore h34 ⟨p35.b, p35.o + 0⟩ [.str s3] fun h36 =>
 vPtr p1 fun p37 =>
 ∃ m38 : Option Nat, cellsAt h36 ⟨p37.b, p37.o + 0⟩ 1 = some [.map m38] ∧
 vMap m38 fun a40 => PUpdate Tryz.prog 9 a40 (.str s3) (.ptr p12) h36 fun h39 =>
 Q (.int .i64 0) h39))))))
 (AC Tryz.prog 130 [.ptr p1, .str s2] h5 fun v41 h42 => ∃ p43 : Option PA, ∃ n44 : Int, v41 = .tup [.ptr p43, .int .i64 n44] ∧
 vif (n44 != 0)
 (Q (.int .i64 n44) h42)
 (AC Tryz.prog 172 [.ptr p1] h42 fun v45 h46 => ∃ n47 : Int, v45 = .int .i64 n47 ∧
 vif (n47 != 0)
 (Q (.int .i64 n47) h46)
 (vif (s2 == s3)
 (Q (.int .i64 0) h46)
 (vPtr p1 fun p48 =>
 ∃ m49 : Option Nat, cellsAt h46 ⟨p48.b, p48.o + 0⟩ 1 = some [.map m49] ∧
 PLookup Tryz.prog 9 183 m49 (.str s3) false h46 fun v50 =>
 ∃ p51 : Option PA, v50 = .ptr p51 ∧
 vif (!(p51.isNone))
 (AC Tryz.prog 174 [.ptr p1, .ptr p51] h46 fun v52 h53 => v52 = .tup [] ∧
 vPtr p1 fun p54 =>
 ∃ m55 : Option Nat, cellsAt h53 ⟨p54.b, p54.o + 0⟩ 1 = some [.map m55] ∧
 PDelete Tryz.prog 9 m55 (.str s2) h53 fun h56 =>
 vPtr p43 fun p57 =>
 PStore h56 ⟨p57.b, p57.o + 0⟩ [.str s3] fun h58 =>
 vPtr p1 fun p59 =>
 ∃ m60 : Option Nat, cellsAt h58 ⟨p59.b, p59.o + 0⟩ 1 = some [.map m60] ∧
 vMap m60 fun a62 => PUpdate Tryz.prog 9 a62 (.str s3) (.ptr p43) h58 fun h61 =>
 Q (.int .i64 0) h61)
 (vPtr p1 fun p63 =>
 ∃ m64 : Option Nat, cellsAt h46 ⟨p63.b, p63.o + 0⟩ 1 = some [.map m64] ∧
 PDelete Tryz.prog 9 m64 (.str s2) h46 fun h65 =>
 vPtr p43 fun p66 =>
 PStore h65 ⟨p66.b, p66.o + 0⟩ [.str s3] fun h67 =>
 vPtr p1 fun p68 =>
 ∃ m69 : Option Nat, cellsAt h67 ⟨p68.b, p68.o + 0⟩ 1 = some [.map m69] ∧
 vMap m69 fun a71 => PUpdate Tryz.prog 9 a71 (.str s3) (.ptr p43) h67 fun h70 =>
 Q (.int .i64 0) h70)))))
theorem ac182 {p1 : Option PA} {s2 : List UInt8} {s3 : List UInt8} {h : Heap} {Q : AV → Heap → Prop} (hk : vc182 p1 s2 s3 h Q) : AC Tryz.prog 182 [.ptr p1, .str s2, .str s3] h Q :=
 AC_by (H := hintsOf [] []) (by kernel_rfl) (by kernel_rfl) hk
def vc241 (q1 : Option SL) (p2 : Option PA) (h : Heap) (Q : AV → Heap → Prop) : Prop :=
 AC Tryz.prog 278 [.sl q1, .func (.func 242) [] [.ptr p2]] h fun v3 h4 => ∃ n5 : Int, v3 = .int .i64 n5 ∧
 vif (n5 == (-1))
 (Q (.sl q1) h4)
 (∃ (I8 : List AV → Heap → Prop) (m9 : List AV → Heap → Nat), I8 [.int .i64 n5, .int .i64 (wrapK .i64 (n5 + 1))] h4 ∧
 ∀ n6 n7 : Int, ∀ h10 : Heap, I8 [.int .i64 n6, .int .i64 n7] h10 →
 vif (decide (n7 < (slLen q1 : Int)))
 (vIdx q1 n7 66 fun p11 =>
 ∃ p12 : Option PA, ∃ n13 : Int, exC .u8 64 fun l14 =>
 cellsAt h10 p11 66 = some ([.ptr p12, .int .i64 n13] ++ (l14)) ∧
 AC Tryz.prog 242 [.agg ([.ptr p12, .int .i64 n13] ++ (l14)), .ptr p2] h10 fun v15 h16 => ∃ b17 : Bool, v15 = .bool b17 ∧
 vif (!b17)
 (vIdx q1 n6 66 fun p18 =>
 PStore h16 p18 ([.ptr p12, .int .i64 n13] ++ (l14)) fun h19 =>
 (True) ∧ I8 [.int .i64 (wrapK .i64 (n6 + 1)), .int .i64 (wrapK .i64 (n7 + 1))] h19 ∧ m9 [.int .i64 (wrapK .i64 (n6 + 1)), .int .i64 (wrapK .i64 (n7 + 1))] h19 < m9 [.int .i64 n6, .int .i64 n7] h10)
 ((True) ∧ I8 [.int .i64 n6, .int .i64 (wrapK .i64 (n7 + 1))] h16 ∧ m9 [.int .i64 n6, .int .i64 (wrapK .i64 (n7 + 1))] h16 < m9 [.int .i64 n6, .int .i64 n7] h10))
 (PSlice 66 q1 n6 none none fun q20 =>
 PClear ([.ptr none, .int .i64 0] ++ ((List.replicate 64 (AV.int .u8 0)))) q20 h10 fun h21 =>
 PSlice 66 q1 0 (some n6) none fun q22 =>
 Q (.sl q22) h21))
theorem ac241 {q1 : Option SL} {p2 : Option PA} {h : Heap} {Q : AV → Heap → Prop} (hk : vc241 q1 p2 h Q) : AC Tryz.prog 241 [.sl q1, .func (.func 242) [] [.ptr p2]] h Q :=
 AC_by (H := hintsOf [7] [(0, [5, 6], [])]) (by kernel_rfl) (by kernel_rfl) hk
def vc242 (p1 : Option PA) (n2 : Int) (l3 : Nat → Int) (p4 : Option PA) (h : Heap) (Q : AV → Heap → Prop) : Prop :=
 vPtr p4 fun p5 =>
 ∃ p6 : Option PA, cellsAt h p5 1 = some [.ptr p6] ∧
 aEq Tryz.prog 183 h (.ptr p1) (.ptr p6) fun b7 =>
 Q (.bool b7) h
theorem ac242 {p1 : Option PA} {n2 : Int} {l3 : Nat → Int} {p4 : Option PA} {h : Heap} {Q : AV → Heap → Prop} (hk : vc242 p1 n2 l3 p4 h Q) : AC Tryz.prog 242 [.agg ([.ptr p1, .int .i64 n2] ++ ((cel .u8 64 l3))), .ptr p4] h Q :=
 AC_by (H := hintsOf [2] []) (by kernel_rfl) (by kernel_rfl) hk
def vc278 (q1 : Option SL) (p2 : Option PA) (h : Heap) (Q : AV → Heap → Prop) : Prop :=
 ∃ (I4 : List AV → Heap → Prop) (m5 : List AV → Heap → Nat), I4 [.int .i64 0] h ∧
 ∀ n3 : Int, ∀ h6 : Heap, I4 [.int .i64 n3] h6 →
 vif (decide (n3 < (slLen q1 : Int)))
 (vIdx q1 n3 66 fun p7 =>
 ∃ p8 : Option PA, ∃ n9 : Int, exC .u8 64 fun l10 =>
 cellsAt h6 p7 66 = some ([.ptr p8, .int .i64 n9] ++ (l10)) ∧
 AC Tryz.prog 242 [.agg ([.ptr p8, .int .i64 n9] ++ (l10)), .ptr p2] h6 fun v11 h12 => ∃ b13 : Bool, v11 = .bool b13 ∧
 vif b13
 (Q (.int .i64 n3) h12)
 ((True) ∧ I4 [.int .i64 (wrapK .i64 (n3 + 1))] h12 ∧ m5 [.int .i64 (wrapK .i64 (n3 + 1))] h12 < m5 [.int .i64 n3] h6))
 (Q (.int .i64 (-1)) h6)
theorem ac278 {q1 : Option SL} {p2 : Option PA} {h : Heap} {Q : AV → Heap → Prop} (hk : vc278 q1 p2 h Q) : AC Tryz.prog 278 [.sl q1, .func (.func 242) [] [.ptr p2]] h Q :=
 AC_by (H := hintsOf [] [(0, [8], [])]) (by kernel_rfl) (by kernel_rfl) hk
def vc186 (n1 : Int) (n2 : Int) (h : Heap) (Q : AV → Heap → Prop) : Prop :=
 vif (decide (n1 < 0))
 (Q (.int .i64 40) h)
 (vif (decide (n1 ≥ 65536))
 (Q (.int .i64 40) h)
 (vif (decide (n2 < 0))
 (Q (.int .i64 40) h)
 (vif (decide (n2 ≥ 65536))
 (Q (.int .i64 40) h)
 (Q (.int .i64 0) h))))
theorem ac186 {n1 : Int} {n2 : Int} {h : Heap} {Q : AV → Heap → Prop} (hk : vc186 n1 n2 h Q) : AC Tryz.prog 186 [.agg [.int .i64 n1, .int .i64 n2]] h Q :=
 AC_by (H := hintsOf [1] []) (by kernel_rfl) (by kernel_rfl) hk
def vc243 (p1 : Option PA) (n2 : Int) (h : Heap) (Q : AV → Heap → Prop) : Prop :=
 AC Tryz.prog 159 [.ptr p1] h fun v3 h4 => ∃ n5 : Int, v3 = .int .i64 n5 ∧
 AC Tryz.prog 231 [.ptr p1] h4 fun v6 h7 => ∃ b8 : Bool, v6 = .bool b8 ∧
 vif b8
 (AC Tryz.prog 230 [.ptr p1] h7 fun v9 h10 => ∃ n11 : Int, v9 = .int .i64 n11 ∧
 Q (.str []) h10)
 (vif (decide (n5 > n2))
 (AC Tryz.prog 230 [.ptr p1] h7 fun v12 h13 => ∃ n14 : Int, v12 = .int .i64 n14 ∧
 Q (.str []) h13)
 (AC Tryz.prog 268 [.ptr p1, .int .i64 n5] h7 fun v15 h16 => ∃ q17 : Option SL, v15 = .sl q17 ∧
 PStr h16 q17 fun s18 =>
 Q (.str s18) h16))
theorem ac243 {p1 : Option PA} {n2 : Int} {h : Heap} {Q : AV → Heap → Prop} (hk : vc243 p1 n2 h Q) : AC Tryz.prog 243 [.ptr p1, .int .i64 n2] h Q :=
 AC_by (H := hintsOf [] []) (by kernel_rfl) (by kernel_rfl) hk
end Go.Proofs
