import Derived.Test.YtnglhicedhcpbaaGreatDoorLG9
import Derived.Test.YtnglhicedhcpbaaGreatDoorProg
import Derived.KernelRfl
namespace Go.Proofs
open Go.Ab
set_option maxRecDepth 100000
set_option linter.unusedVariables false
def vc26 (n1 : Int) (h : Heap) (Q : AHp) : Prop :=
 vif (decide (n1 < 0))
 (Q (.tup [.ptr none, .int .i64 1]) h)
 (vif (decide (n1 > 16384))
 (Q (.tup [.ptr none, .int .i64 1]) h)
 (PNew [.map (some (List.length h)), .sl none, .int .i64 n1, .int .i64 (-1), .bool false] true (h ++ [.mp [] 0]) fun a2 h3 =>
 Q (.tup [.ptr (some ⟨a2, 0⟩), .int .i64 0]) h3))
theorem ac26 {n1 : Int} {h : Heap} {Q : AHp} (hk : vc26 n1 h Q) : AC Tryz.prog 26 [.int .i64 n1] h Q :=
 zL (H := zH [] []) (by kernel_rfl) (by kernel_rfl) hk
def vc50 (n1 : Int) (h : Heap) (Q : AHp) : Prop :=
 vif (decide (n1 < 0))
 (Q (.ptr none) h)
 (vif (decide (n1 > 16384))
 (Q (.ptr none) h)
 (PNew [.sl none, .sl none, .int .i64 n1, .int .i64 (-1), .bool false] true h fun a2 h3 =>
 Q (.ptr (some ⟨a2, 0⟩)) h3))
theorem ac50 {n1 : Int} {h : Heap} {Q : AHp} (hk : vc50 n1 h Q) : AC Tryz.prog 50 [.int .i64 n1] h Q :=
 zL (H := zH [] []) (by kernel_rfl) (by kernel_rfl) hk
def vc52 (p1 : OPa) (h : Heap) (Q : AHp) : Prop :=
 AC Tryz.prog 42 [.ptr p1] h fun v2 h3 => ∃ q4 : OSl, v2 = .sl q4 /\
 ∃ (I7 : LHp) (m8 : LHn), I7 [.int .i64 0, .int .i64 0] h3 /\
 ∀ n5 n6 : Int, ∀ h9 : Heap, I7 [.int .i64 n5, .int .i64 n6] h9 ->
 vif (decide (n6 < (zJ q4 : Int)))
 (vIdx q4 n6 2 fun p10 =>
 ∃ s11 : List UInt8, ∃ n12 : Int, zA h9 p10 2 = some [.str s11, .int .i64 n12] /\
 (True) /\ I7 [.int .i64 (zE .i64 (n5 + n12)), .int .i64 (zE .i64 (n6 + 1))] h9 /\ m8 [.int .i64 (zE .i64 (n5 + n12)), .int .i64 (zE .i64 (n6 + 1))] h9 < m8 [.int .i64 n5, .int .i64 n6] h9)
 (Q (.int .i64 n5) h9)
theorem ac52 {p1 : OPa} {h : Heap} {Q : AHp} (hk : vc52 p1 h Q) : AC Tryz.prog 52 [.ptr p1] h Q :=
 zL (H := zH [5] [(0, [3, 9], [])]) (by kernel_rfl) (by kernel_rfl) hk
def vc53 (p1 : OPa) (h : Heap) (Q : AHp) : Prop :=
 ∃ (I4 : LHp) (m5 : LHn), I4 [.int .i64 0, .int .i64 0] h /\
 ∀ n2 n3 : Int, ∀ h6 : Heap, I4 [.int .i64 n2, .int .i64 n3] h6 ->
 vPtr p1 fun p7 =>
 ∃ q8 : OSl, zA h6 ⟨p7.b, p7.o + 0⟩ 1 = some [.sl q8] /\
 vif (decide (n3 < (zJ q8 : Int)))
 (vPtr p1 fun p9 =>
 ∃ q10 : OSl, zA h6 ⟨p9.b, p9.o + 0⟩ 1 = some [.sl q10] /\
 vIdx q10 n3 1 fun p11 =>
 ∃ p12 : OPa, zA h6 p11 1 = some [.ptr p12] /\
 vPtr p12 fun p13 =>
 ∃ q14 : OSl, zA h6 ⟨p13.b, p13.o + 1⟩ 1 = some [.sl q14] /\
 (True) /\ I4 [.int .i64 (zE .i64 (n2 + (zJ q14 : Int))), .int .i64 (zE .i64 (n3 + 1))] h6 /\ m5 [.int .i64 (zE .i64 (n2 + (zJ q14 : Int))), .int .i64 (zE .i64 (n3 + 1))] h6 < m5 [.int .i64 n2, .int .i64 n3] h6)
 (Q (.int .i64 n2) h6)
theorem ac53 {p1 : OPa} {h : Heap} {Q : AHp} (hk : vc53 p1 h Q) : AC Tryz.prog 53 [.ptr p1] h Q :=
 zL (H := zH [] [(0, [3, 4], [])]) (by kernel_rfl) (by kernel_rfl) hk
def vc55 (p1 : OPa) (s2 : List UInt8) (h : Heap) (Q : AHp) : Prop :=
 ∃ (I4 : LHp) (m5 : LHn), I4 [.int .i64 0] h /\
 ∀ n3 : Int, ∀ h6 : Heap, I4 [.int .i64 n3] h6 ->
 vPtr p1 fun p7 =>
 ∃ q8 : OSl, zA h6 ⟨p7.b, p7.o + 0⟩ 1 = some [.sl q8] /\
 vif (decide (n3 < (zJ q8 : Int)))
 (vPtr p1 fun p9 =>
 ∃ q10 : OSl, zA h6 ⟨p9.b, p9.o + 0⟩ 1 = some [.sl q10] /\
 vIdx q10 n3 1 fun p11 =>
 ∃ p12 : OPa, zA h6 p11 1 = some [.ptr p12] /\
 vPtr p12 fun p13 =>
 ∃ s14 : List UInt8, zA h6 ⟨p13.b, p13.o + 0⟩ 1 = some [.str s14] /\
 vif (s14 == s2)
 (vPtr p1 fun p15 =>
 ∃ q16 : OSl, zA h6 ⟨p15.b, p15.o + 0⟩ 1 = some [.sl q16] /\
 vIdx q16 n3 1 fun p17 =>
 ∃ p18 : OPa, zA h6 p17 1 = some [.ptr p18] /\
 Q (.ptr p18) h6)
 ((True) /\ I4 [.int .i64 (zE .i64 (n3 + 1))] h6 /\ m5 [.int .i64 (zE .i64 (n3 + 1))] h6 < m5 [.int .i64 n3] h6))
 (Q (.ptr none) h6)
theorem ac55 {p1 : OPa} {s2 : List UInt8} {h : Heap} {Q : AHp} (hk : vc55 p1 s2 h Q) : AC Tryz.prog 55 [.ptr p1, .str s2] h Q :=
 zL (H := zH [] [(0, [5], [])]) (by kernel_rfl) (by kernel_rfl) hk
def vc56 (p1 : OPa) (s2 : List UInt8) (n3 : Int) (h : Heap) (Q : AHp) : Prop :=
 AC Tryz.prog 130 [.ptr p1, .str s2] h fun v4 h5 => ∃ p6 : OPa, ∃ n7 : Int, v4 = .tup [.ptr p6, .int .i64 n7] /\
 vif (n7 != 0)
 (Q (.tup [.sl none, .int .i64 n7]) h5)
 (vif (decide (n3 < 0))
 (Q (.tup [.sl none, .int .i64 4]) h5)
 (vPtr p6 fun p8 =>
 ∃ q9 : OSl, zA h5 ⟨p8.b, p8.o + 1⟩ 1 = some [.sl q9] /\
 vif (decide (n3 ≥ (zJ q9 : Int)))
 (Q (.tup [.sl none, .int .i64 4]) h5)
 (vPtr p6 fun p10 =>
 ∃ q11 : OSl, zA h5 ⟨p10.b, p10.o + 1⟩ 1 = some [.sl q11] /\
 vIdx q11 n3 64 fun p12 =>
 yC 1 (some ⟨p12.b, p12.o, 64, 64, 0⟩) 0 none none fun q13 =>
 AC Tryz.prog 131 [.sl q13] h5 fun v14 h15 => ∃ q16 : OSl, v14 = .sl q16 /\
 Q (.tup [.sl q16, .int .i64 0]) h15)))
theorem ac56 {p1 : OPa} {s2 : List UInt8} {n3 : Int} {h : Heap} {Q : AHp} (hk : vc56 p1 s2 n3 h Q) : AC Tryz.prog 56 [.ptr p1, .str s2, .int .i64 n3] h Q :=
 zL (H := zH [] []) (by kernel_rfl) (by kernel_rfl) hk
def vc64 (p1 : OPa) (s2 : List UInt8) (h : Heap) (Q : AHp) : Prop :=
 AC Tryz.prog 104 [.ptr p1] h fun v3 h4 => ∃ b5 : Bool, v3 = .bool b5 /\
 vif (!b5)
 (Q (.tup [.int .i64 0, .int .i64 6]) h4)
 (vPtr p1 fun p6 =>
 ∃ m7 : Option Nat, zA h4 ⟨p6.b, p6.o + 0⟩ 1 = some [.map m7] /\
 xP Tryz.prog 9 183 m7 (.str s2) false h4 fun v8 =>
 ∃ p9 : OPa, v8 = .ptr p9 /\
 vif (p9.isNone)
 (Q (.tup [.int .i64 0, .int .i64 4]) h4)
 (vPtr p9 fun p10 =>
 ∃ q11 : OSl, zA h4 ⟨p10.b, p10.o + 1⟩ 1 = some [.sl q11] /\
 Q (.tup [.int .i64 (zJ q11 : Int), .int .i64 0]) h4))
theorem ac64 {p1 : OPa} {s2 : List UInt8} {h : Heap} {Q : AHp} (hk : vc64 p1 s2 h Q) : AC Tryz.prog 64 [.ptr p1, .str s2] h Q :=
 zL (H := zH [] []) (by kernel_rfl) (by kernel_rfl) hk
def vc94 (q1 : OSl) (q2 : OSl) (h : Heap) (Q : AHp) : Prop :=
 vif ((zJ q1 : Int) != (zJ q2 : Int))
 (Q (.bool false) h)
 (∃ (I4 : LHp) (m5 : LHn), I4 [.int .i64 0] h /\
 ∀ n3 : Int, ∀ h6 : Heap, I4 [.int .i64 n3] h6 ->
 vif (decide (n3 < (zJ q1 : Int)))
 (vIdx q1 n3 1 fun p7 =>
 ∃ n8 : Int, zA h6 p7 1 = some [.int .u8 n8] /\
 vIdx q2 n3 1 fun p9 =>
 ∃ n10 : Int, zA h6 p9 1 = some [.int .u8 n10] /\
 vif (n8 != n10)
 (Q (.bool false) h6)
 ((True) /\ I4 [.int .i64 (zE .i64 (n3 + 1))] h6 /\ m5 [.int .i64 (zE .i64 (n3 + 1))] h6 < m5 [.int .i64 n3] h6))
 (Q (.bool true) h6))
theorem ac94 {q1 : OSl} {q2 : OSl} {h : Heap} {Q : AHp} (hk : vc94 q1 q2 h Q) : AC Tryz.prog 94 [.sl q1, .sl q2] h Q :=
 zL (H := zH [] [(0, [13], [])]) (by kernel_rfl) (by kernel_rfl) hk
def vc95 (p1 : OPa) (s2 : List UInt8) (h : Heap) (Q : AHp) : Prop :=
 AC Tryz.prog 104 [.ptr p1] h fun v3 h4 => ∃ b5 : Bool, v3 = .bool b5 /\
 vif b5
 (AC Tryz.prog 170 [.str s2] h4 fun v6 h7 => ∃ b8 : Bool, v6 = .bool b8 /\
 vif (!b8)
 (Q (.int .i64 1) h7)
 (AC Tryz.prog 171 [.ptr p1] h7 fun v9 h10 => ∃ n11 : Int, v9 = .int .i64 n11 /\
 vif (n11 != 0)
 (Q (.int .i64 n11) h10)
 (vPtr p1 fun p12 =>
 ∃ m13 : Option Nat, zA h10 ⟨p12.b, p12.o + 0⟩ 1 = some [.map m13] /\
 xP Tryz.prog 9 183 m13 (.str s2) false h10 fun v14 =>
 ∃ p15 : OPa, v14 = .ptr p15 /\
 vif (!(p15.isNone))
 (Q (.int .i64 5) h10)
 (vPtr p1 fun p16 =>
 ∃ m17 : Option Nat, zA h10 ⟨p16.b, p16.o + 0⟩ 1 = some [.map m17] /\
 zG5 h10 m17 fun e18 =>
 vif (decide (((e18 : Nat) : Int) ≥ 256))
 (Q (.int .i64 2) h10)
 (AC Tryz.prog 172 [.ptr p1] h10 fun v19 h20 => ∃ n21 : Int, v19 = .int .i64 n21 /\
 vif (n21 == 0)
 (vPtr p1 fun p22 =>
 ∃ m23 : Option Nat, zA h20 ⟨p22.b, p22.o + 0⟩ 1 = some [.map m23] /\
 PNew [.str s2, .sl none, .sl none] true h20 fun a24 h25 =>
 vMap m23 fun a27 => xZ Tryz.prog 9 a27 (.str s2) (.ptr (some ⟨a24, 0⟩)) h25 fun h26 =>
 Q (.int .i64 n21) h26)
 (Q (.int .i64 n21) h20))))))
 (AC Tryz.prog 171 [.ptr p1] h4 fun v28 h29 => ∃ n30 : Int, v28 = .int .i64 n30 /\
 vif (n30 != 0)
 (Q (.int .i64 n30) h29)
 (vPtr p1 fun p31 =>
 ∃ m32 : Option Nat, zA h29 ⟨p31.b, p31.o + 0⟩ 1 = some [.map m32] /\
 xP Tryz.prog 9 183 m32 (.str s2) false h29 fun v33 =>
 ∃ p34 : OPa, v33 = .ptr p34 /\
 vif (!(p34.isNone))
 (Q (.int .i64 5) h29)
 (vPtr p1 fun p35 =>
 ∃ m36 : Option Nat, zA h29 ⟨p35.b, p35.o + 0⟩ 1 = some [.map m36] /\
 zG5 h29 m36 fun e37 =>
 vif (decide (((e37 : Nat) : Int) ≥ 256))
 (Q (.int .i64 2) h29)
 (AC Tryz.prog 172 [.ptr p1] h29 fun v38 h39 => ∃ n40 : Int, v38 = .int .i64 n40 /\
 vif (n40 == 0)
 (vPtr p1 fun p41 =>
 ∃ m42 : Option Nat, zA h39 ⟨p41.b, p41.o + 0⟩ 1 = some [.map m42] /\
 PNew [.str s2, .sl none, .sl none] true h39 fun a43 h44 =>
 vMap m42 fun a46 => xZ Tryz.prog 9 a46 (.str s2) (.ptr (some ⟨a43, 0⟩)) h44 fun h45 =>
 Q (.int .i64 n40) h45)
 (Q (.int .i64 n40) h39)))))
theorem ac95 {p1 : OPa} {s2 : List UInt8} {h : Heap} {Q : AHp} (hk : vc95 p1 s2 h Q) : AC Tryz.prog 95 [.ptr p1, .str s2] h Q :=
 zL (H := zH [] []) (by kernel_rfl) (by kernel_rfl) hk
def vc96 (p1 : OPa) (s2 : List UInt8) (q3 : OSl) (h : Heap) (Q : AHp) : Prop :=
 AC Tryz.prog 104 [.ptr p1] h fun v4 h5 => ∃ b6 : Bool, v4 = .bool b6 /\
 vif b6
 (vif ((zJ q3 : Int) != 64)
 (Q (.int .i64 1) h5)
 (AC Tryz.prog 130 [.ptr p1, .str s2] h5 fun v7 h8 => ∃ p9 : OPa, ∃ n10 : Int, v7 = .tup [.ptr p9, .int .i64 n10] /\
 vif (n10 != 0)
 (Q (.int .i64 n10) h8)
 (vPtr p1 fun p11 =>
 ∃ n12 : Int, zA h8 ⟨p11.b, p11.o + 2⟩ 1 = some [.int .i64 n12] /\
 AC Tryz.prog 52 [.ptr p1] h8 fun v13 h14 => ∃ n15 : Int, v13 = .int .i64 n15 /\
 (∃ n33 : Int, zA h14 ⟨p11.b, p11.o + 2⟩ 1 = some [.int .i64 n33] /\
 LV.val (.int .i64 n33) = LV.val (.int .i64 n12)) /\
 vif (decide (n15 ≥ n12))
 (Q (.int .i64 2) h14)
 (AC Tryz.prog 172 [.ptr p1] h14 fun v16 h17 => ∃ n18 : Int, v16 = .int .i64 n18 /\
 vif (n18 != 0)
 (Q (.int .i64 n18) h17)
 (vPtr p9 fun p19 =>
 ∃ q20 : OSl, zA h17 ⟨p19.b, p19.o + 1⟩ 1 = some [.sl q20] /\
 PNew (List.replicate 64 (AV.int .u8 0)) true h17 fun a21 h22 =>
 zC 64 64 q20 (some ⟨a21, 0, 1, 1, 0⟩) h22 fun q23 h24 =>
 vPtr p9 fun p25 =>
 zI h24 ⟨p25.b, p25.o + 1⟩ [.sl q23] fun h26 =>
 vPtr p9 fun p27 =>
 ∃ q28 : OSl, zA h26 ⟨p27.b, p27.o + 1⟩ 1 = some [.sl q28] /\
 vSl q3 fun s29 => need (decide (0 < 64) && decide (64 <= s29.len)) (exC .u8 64 fun l30 =>
 zA h26 ⟨s29.b, s29.o⟩ 64 = some l30 /\
 AC Tryz.prog 173 [.ptr p1, .ptr p9, .int .i64 (zE .i64 ((zJ q28 : Int) - 1)), .agg l30] h26 fun v31 h32 => v31 = .tup [] /\
 Q (.int .i64 0) h32))))))
 (AC Tryz.prog 130 [.ptr p1, .str s2] h5 fun v34 h35 => ∃ p36 : OPa, ∃ n37 : Int, v34 = .tup [.ptr p36, .int .i64 n37] /\
 vif (n37 != 0)
 (Q (.int .i64 n37) h35)
 (vPtr p1 fun p38 =>
 ∃ n39 : Int, zA h35 ⟨p38.b, p38.o + 2⟩ 1 = some [.int .i64 n39] /\
 AC Tryz.prog 52 [.ptr p1] h35 fun v40 h41 => ∃ n42 : Int, v40 = .int .i64 n42 /\
 (∃ n60 : Int, zA h41 ⟨p38.b, p38.o + 2⟩ 1 = some [.int .i64 n60] /\
 LV.val (.int .i64 n60) = LV.val (.int .i64 n39)) /\
 vif (decide (n42 ≥ n39))
 (Q (.int .i64 2) h41)
 (AC Tryz.prog 172 [.ptr p1] h41 fun v43 h44 => ∃ n45 : Int, v43 = .int .i64 n45 /\
 vif (n45 != 0)
 (Q (.int .i64 n45) h44)
 (vPtr p36 fun p46 =>
 ∃ q47 : OSl, zA h44 ⟨p46.b, p46.o + 1⟩ 1 = some [.sl q47] /\
 PNew (List.replicate 64 (AV.int .u8 0)) true h44 fun a48 h49 =>
 zC 64 64 q47 (some ⟨a48, 0, 1, 1, 0⟩) h49 fun q50 h51 =>
 vPtr p36 fun p52 =>
 zI h51 ⟨p52.b, p52.o + 1⟩ [.sl q50] fun h53 =>
 vPtr p36 fun p54 =>
 ∃ q55 : OSl, zA h53 ⟨p54.b, p54.o + 1⟩ 1 = some [.sl q55] /\
 vSl q3 fun s56 => need (decide (0 < 64) && decide (64 <= s56.len)) (exC .u8 64 fun l57 =>
 zA h53 ⟨s56.b, s56.o⟩ 64 = some l57 /\
 AC Tryz.prog 173 [.ptr p1, .ptr p36, .int .i64 (zE .i64 ((zJ q55 : Int) - 1)), .agg l57] h53 fun v58 h59 => v58 = .tup [] /\
 Q (.int .i64 0) h59)))))
theorem ac96 {p1 : OPa} {s2 : List UInt8} {q3 : OSl} {h : Heap} {Q : AHp} (hk : vc96 p1 s2 q3 h Q) : AC Tryz.prog 96 [.ptr p1, .str s2, .sl q3] h Q :=
 zL (H := zH [] []) (by kernel_rfl) (by kernel_rfl) hk
def vc97 (p1 : OPa) (s2 : List UInt8) (h : Heap) (Q : AHp) : Prop :=
 AC Tryz.prog 130 [.ptr p1, .str s2] h fun v3 h4 => ∃ p5 : OPa, ∃ n6 : Int, v3 = .tup [.ptr p5, .int .i64 n6] /\
 vif (n6 != 0)
 (Q (.int .i64 n6) h4)
 (AC Tryz.prog 172 [.ptr p1] h4 fun v7 h8 => ∃ n9 : Int, v7 = .int .i64 n9 /\
 vif (n9 != 0)
 (Q (.int .i64 n9) h8)
 (vPtr p1 fun p10 =>
 ∃ q11 : OSl, zA h8 ⟨p10.b, p10.o + 1⟩ 1 = some [.sl q11] /\
 ∃ (I13 : LHp) (m14 : LHn), I13 [.int .i64 0] h8 /\
 ∀ n12 : Int, ∀ h15 : Heap, I13 [.int .i64 n12] h15 ->
 vif (decide (n12 < (zJ q11 : Int)))
 (vIdx q11 n12 66 fun p16 =>
 ∃ p17 : OPa, ∃ n18 : Int, exC .u8 64 fun l19 =>
 zA h15 p16 66 = some ([.ptr p17, .int .i64 n18] ++ (l19)) /\
 aEq Tryz.prog 183 h15 (.ptr p17) (.ptr p5) fun b20 =>
 vif b20
 (AC Tryz.prog 113 [.agg ([.ptr p17, .int .i64 n18] ++ (l19)), .int .i64 64] h15 fun v21 h22 => v21 = .tup [] /\
 (True) /\ I13 [.int .i64 (zE .i64 (n12 + 1))] h22 /\ m14 [.int .i64 (zE .i64 (n12 + 1))] h22 < m14 [.int .i64 n12] h15)
 ((True) /\ I13 [.int .i64 (zE .i64 (n12 + 1))] h15 /\ m14 [.int .i64 (zE .i64 (n12 + 1))] h15 < m14 [.int .i64 n12] h15))
 (AC Tryz.prog 174 [.ptr p1, .ptr p5] h15 fun v23 h24 => v23 = .tup [] /\
 Q (.int .i64 0) h24)))
theorem ac97 {p1 : OPa} {s2 : List UInt8} {h : Heap} {Q : AHp} (hk : vc97 p1 s2 h Q) : AC Tryz.prog 97 [.ptr p1, .str s2] h Q :=
 zL (H := zH [9] [(0, [29], [])]) (by kernel_rfl) (by kernel_rfl) hk
def vc104 (p1 : OPa) (h : Heap) (Q : AHp) : Prop :=
 vif (!(p1.isNone))
 (vPtr p1 fun p2 =>
 ∃ m3 : Option Nat, zA h ⟨p2.b, p2.o + 0⟩ 1 = some [.map m3] /\
 Q (.bool (!(m3.isNone))) h)
 (Q (.bool false) h)
theorem ac104 {p1 : OPa} {h : Heap} {Q : AHp} (hk : vc104 p1 h Q) : AC Tryz.prog 104 [.ptr p1] h Q :=
 zL (H := zH [] []) (by kernel_rfl) (by kernel_rfl) hk
def vc113 (p1 : OPa) (n2 : Int) (l3 : Nat -> Int) (n4 : Int) (h : Heap) (Q : AHp) : Prop :=
 PNew ([.ptr p1, .int .i64 n2] ++ ((cel .u8 64 l3))) true h fun a5 h6 =>
 vif (decide ((minI n4 64) < 1))
 (Q (.tup []) h6)
 (∃ (I7 : LHp) (m8 : LHn), I7 [] h6 /\
 ∀ h9 : Heap, I7 [] h9 ->
 ∃ p10 : OPa, zA h9 ⟨a5, 0⟩ 1 = some [.ptr p10] /\
 vPtr p10 fun p11 =>
 ∃ q12 : OSl, zA h9 ⟨p11.b, p11.o + 2⟩ 1 = some [.sl q12] /\
 ∃ n13 : Int, zA h9 ⟨a5, 1⟩ 1 = some [.int .i64 n13] /\
 vif (decide ((zJ q12 : Int) <= n13))
 (∃ p14 : OPa, zA h9 ⟨a5, 0⟩ 1 = some [.ptr p14] /\
 ∃ p15 : OPa, zA h9 ⟨a5, 0⟩ 1 = some [.ptr p15] /\
 vPtr p15 fun p16 =>
 ∃ q17 : OSl, zA h9 ⟨p16.b, p16.o + 2⟩ 1 = some [.sl q17] /\
 PNew (List.replicate 64 (AV.int .u8 0)) true h9 fun a18 h19 =>
 (∃ q27 : OSl, zA h19 ⟨p16.b, p16.o + 2⟩ 1 = some [.sl q27] /\
 LV.val (.sl q27) = LV.val (.sl q17)) /\
 (∃ p26 : OPa, zA h19 ⟨a5, 0⟩ 1 = some [.ptr p26] /\
 LV.val (.ptr p26) = LV.val (.ptr p15)) /\
 (∃ p25 : OPa, zA h19 ⟨a5, 0⟩ 1 = some [.ptr p25] /\
 LV.val (.ptr p25) = LV.val (.ptr p14)) /\
 zC 64 64 q17 (some ⟨a18, 0, 1, 1, 0⟩) h19 fun q20 h21 =>
 (∃ p24 : OPa, zA h21 ⟨a5, 0⟩ 1 = some [.ptr p24] /\
 LV.val (.ptr p24) = LV.val (.ptr p14)) /\
 vPtr p14 fun p22 =>
 zI h21 ⟨p22.b, p22.o + 2⟩ [.sl q20] fun h23 =>
 (True) /\ I7 [] h23 /\ m8 [] h23 < m8 [] h9)
 (∃ p28 : OPa, zA h9 ⟨a5, 0⟩ 1 = some [.ptr p28] /\
 vPtr p28 fun p29 =>
 ∃ q30 : OSl, zA h9 ⟨p29.b, p29.o + 2⟩ 1 = some [.sl q30] /\
 ∃ n31 : Int, zA h9 ⟨a5, 1⟩ 1 = some [.int .i64 n31] /\
 vIdx q30 n31 64 fun p32 =>
 yC 1 (some ⟨p32.b, p32.o, 64, 64, 0⟩) 0 (some (minI n4 64)) none fun q33 =>
 yC 1 (some ⟨a5, 2, 64, 64, 0⟩) 0 (some (minI n4 64)) none fun q34 =>
 zEY 1 q33 q34 h9 fun n35 h36 =>
 Q (.tup []) h36))
theorem ac113 {p1 : OPa} {n2 : Int} {l3 : Nat -> Int} {n4 : Int} {h : Heap} {Q : AHp} (hk : vc113 p1 n2 l3 n4 h Q) : AC Tryz.prog 113 [.agg ([.ptr p1, .int .i64 n2] ++ ((cel .u8 64 l3))), .int .i64 n4] h Q :=
 zL (H := zH [] [(0, [], [])]) (by kernel_rfl) (by kernel_rfl) hk
def vc114 (q1 : OSl) (h : Heap) (Q : AHp) : Prop :=
 vif (q1.isNone)
 (Q (.sl none) h)
 (PNew [] true h fun a2 h3 =>
 zC 64 64 (some ⟨a2, 0, 0, 0, 0⟩) q1 h3 fun q4 h5 =>
 Q (.sl q4) h5)
theorem ac114 {q1 : OSl} {h : Heap} {Q : AHp} (hk : vc114 q1 h Q) : AC Tryz.prog 114 [.sl q1] h Q :=
 zL (H := zH [] []) (by kernel_rfl) (by kernel_rfl) hk
def vc128 (p1 : OPa) (s2 : List UInt8) (n3 : Int) (q4 : OSl) (b5 : Bool) (h : Heap) (Q : AHp) : Prop :=
 AC Tryz.prog 55 [.ptr p1, .str s2] h fun v6 h7 => ∃ p8 : OPa, v6 = .ptr p8 /\
 vif ((zJ q4 : Int) != 64)
 (AC Tryz.prog 199 [.ptr p1, .int .i64 1] h7 fun v9 h10 => ∃ n11 : Int, v9 = .int .i64 n11 /\
 vif (n11 != 0)
 (Q (.int .i64 n11) h10)
 (PNew [] true h10 fun a12 h13 =>
 zC 1 1 (some ⟨a12, 0, 0, 0, 0⟩) q4 h13 fun q14 h15 =>
 vif b5
 (vPtr p8 fun p16 =>
 ∃ q17 : OSl, zA h15 ⟨p16.b, p16.o + 1⟩ 1 = some [.sl q17] /\
 vPtr p8 fun p18 =>
 ∃ q19 : OSl, zA h15 ⟨p18.b, p18.o + 1⟩ 1 = some [.sl q19] /\
 PNew [.sl q14] true h15 fun a20 h21 =>
 zC 1 24 q19 (some ⟨a20, 0, 1, 1, 0⟩) h21 fun q22 h23 =>
 vPtr p8 fun p24 =>
 zI h23 ⟨p24.b, p24.o + 1⟩ [.sl q22] fun h25 =>
 vPtr p1 fun p26 =>
 ∃ q27 : OSl, zA h25 ⟨p26.b, p26.o + 1⟩ 1 = some [.sl q27] /\
 PNew [] true h25 fun a28 h29 =>
 (∃ q40 : OSl, zA h29 ⟨p26.b, p26.o + 1⟩ 1 = some [.sl q40] /\
 LV.val (.sl q40) = LV.val (.sl q27)) /\
 zC 1 1 (some ⟨a28, 0, 0, 0, 0⟩) q4 h29 fun q30 h31 =>
 (∃ q39 : OSl, zA h31 ⟨p26.b, p26.o + 1⟩ 1 = some [.sl q39] /\
 LV.val (.sl q39) = LV.val (.sl q27)) /\
 PNew [.ptr p8, .int .i64 (zJ q17 : Int), .sl q30] true h31 fun a32 h33 =>
 (∃ q38 : OSl, zA h33 ⟨p26.b, p26.o + 1⟩ 1 = some [.sl q38] /\
 LV.val (.sl q38) = LV.val (.sl q27)) /\
 zC 3 40 q27 (some ⟨a32, 0, 1, 1, 0⟩) h33 fun q34 h35 =>
 vPtr p1 fun p36 =>
 zI h35 ⟨p36.b, p36.o + 1⟩ [.sl q34] fun h37 =>
 Q (.int .i64 0) h37)
 (vPtr p8 fun p41 =>
 ∃ q42 : OSl, zA h15 ⟨p41.b, p41.o + 1⟩ 1 = some [.sl q42] /\
 vIdx q42 n3 1 fun p43 =>
 zI h15 p43 [.sl q14] fun h44 =>
 vPtr p1 fun p45 =>
 ∃ q46 : OSl, zA h44 ⟨p45.b, p45.o + 1⟩ 1 = some [.sl q46] /\
 PNew [] true h44 fun a47 h48 =>
 (∃ q59 : OSl, zA h48 ⟨p45.b, p45.o + 1⟩ 1 = some [.sl q59] /\
 LV.val (.sl q59) = LV.val (.sl q46)) /\
 zC 1 1 (some ⟨a47, 0, 0, 0, 0⟩) q4 h48 fun q49 h50 =>
 (∃ q58 : OSl, zA h50 ⟨p45.b, p45.o + 1⟩ 1 = some [.sl q58] /\
 LV.val (.sl q58) = LV.val (.sl q46)) /\
 PNew [.ptr p8, .int .i64 n3, .sl q49] true h50 fun a51 h52 =>
 (∃ q57 : OSl, zA h52 ⟨p45.b, p45.o + 1⟩ 1 = some [.sl q57] /\
 LV.val (.sl q57) = LV.val (.sl q46)) /\
 zC 3 40 q46 (some ⟨a51, 0, 1, 1, 0⟩) h52 fun q53 h54 =>
 vPtr p1 fun p55 =>
 zI h54 ⟨p55.b, p55.o + 1⟩ [.sl q53] fun h56 =>
 Q (.int .i64 0) h56)))
 (vif (p8.isNone)
 (AC Tryz.prog 199 [.ptr p1, .int .i64 4] h7 fun v60 h61 => ∃ n62 : Int, v60 = .int .i64 n62 /\
 vif (n62 != 0)
 (Q (.int .i64 n62) h61)
 (PNew [] true h61 fun a63 h64 =>
 zC 1 1 (some ⟨a63, 0, 0, 0, 0⟩) q4 h64 fun q65 h66 =>
 vif b5
 (vPtr p8 fun p67 =>
 ∃ q68 : OSl, zA h66 ⟨p67.b, p67.o + 1⟩ 1 = some [.sl q68] /\
 vPtr p8 fun p69 =>
 ∃ q70 : OSl, zA h66 ⟨p69.b, p69.o + 1⟩ 1 = some [.sl q70] /\
 PNew [.sl q65] true h66 fun a71 h72 =>
 zC 1 24 q70 (some ⟨a71, 0, 1, 1, 0⟩) h72 fun q73 h74 =>
 vPtr p8 fun p75 =>
 zI h74 ⟨p75.b, p75.o + 1⟩ [.sl q73] fun h76 =>
 vPtr p1 fun p77 =>
 ∃ q78 : OSl, zA h76 ⟨p77.b, p77.o + 1⟩ 1 = some [.sl q78] /\
 PNew [] true h76 fun a79 h80 =>
 (∃ q91 : OSl, zA h80 ⟨p77.b, p77.o + 1⟩ 1 = some [.sl q91] /\
 LV.val (.sl q91) = LV.val (.sl q78)) /\
 zC 1 1 (some ⟨a79, 0, 0, 0, 0⟩) q4 h80 fun q81 h82 =>
 (∃ q90 : OSl, zA h82 ⟨p77.b, p77.o + 1⟩ 1 = some [.sl q90] /\
 LV.val (.sl q90) = LV.val (.sl q78)) /\
 PNew [.ptr p8, .int .i64 (zJ q68 : Int), .sl q81] true h82 fun a83 h84 =>
 (∃ q89 : OSl, zA h84 ⟨p77.b, p77.o + 1⟩ 1 = some [.sl q89] /\
 LV.val (.sl q89) = LV.val (.sl q78)) /\
 zC 3 40 q78 (some ⟨a83, 0, 1, 1, 0⟩) h84 fun q85 h86 =>
 vPtr p1 fun p87 =>
 zI h86 ⟨p87.b, p87.o + 1⟩ [.sl q85] fun h88 =>
 Q (.int .i64 0) h88)
 (vPtr p8 fun p92 =>
 ∃ q93 : OSl, zA h66 ⟨p92.b, p92.o + 1⟩ 1 = some [.sl q93] /\
 vIdx q93 n3 1 fun p94 =>
 zI h66 p94 [.sl q65] fun h95 =>
 vPtr p1 fun p96 =>
 ∃ q97 : OSl, zA h95 ⟨p96.b, p96.o + 1⟩ 1 = some [.sl q97] /\
 PNew [] true h95 fun a98 h99 =>
 (∃ q110 : OSl, zA h99 ⟨p96.b, p96.o + 1⟩ 1 = some [.sl q110] /\
 LV.val (.sl q110) = LV.val (.sl q97)) /\
 zC 1 1 (some ⟨a98, 0, 0, 0, 0⟩) q4 h99 fun q100 h101 =>
 (∃ q109 : OSl, zA h101 ⟨p96.b, p96.o + 1⟩ 1 = some [.sl q109] /\
 LV.val (.sl q109) = LV.val (.sl q97)) /\
 PNew [.ptr p8, .int .i64 n3, .sl q100] true h101 fun a102 h103 =>
 (∃ q108 : OSl, zA h103 ⟨p96.b, p96.o + 1⟩ 1 = some [.sl q108] /\
 LV.val (.sl q108) = LV.val (.sl q97)) /\
 zC 3 40 q97 (some ⟨a102, 0, 1, 1, 0⟩) h103 fun q104 h105 =>
 vPtr p1 fun p106 =>
 zI h105 ⟨p106.b, p106.o + 1⟩ [.sl q104] fun h107 =>
 Q (.int .i64 0) h107)))
 (vif (!b5)
 (vif (decide (n3 < 0))
 (AC Tryz.prog 199 [.ptr p1, .int .i64 4] h7 fun v111 h112 => ∃ n113 : Int, v111 = .int .i64 n113 /\
 vif (n113 != 0)
 (Q (.int .i64 n113) h112)
 (PNew [] true h112 fun a114 h115 =>
 zC 1 1 (some ⟨a114, 0, 0, 0, 0⟩) q4 h115 fun q116 h117 =>
 vif b5
 (vPtr p8 fun p118 =>
 ∃ q119 : OSl, zA h117 ⟨p118.b, p118.o + 1⟩ 1 = some [.sl q119] /\
 vPtr p8 fun p120 =>
 ∃ q121 : OSl, zA h117 ⟨p120.b, p120.o + 1⟩ 1 = some [.sl q121] /\
 PNew [.sl q116] true h117 fun a122 h123 =>
 zC 1 24 q121 (some ⟨a122, 0, 1, 1, 0⟩) h123 fun q124 h125 =>
 vPtr p8 fun p126 =>
 zI h125 ⟨p126.b, p126.o + 1⟩ [.sl q124] fun h127 =>
 vPtr p1 fun p128 =>
 ∃ q129 : OSl, zA h127 ⟨p128.b, p128.o + 1⟩ 1 = some [.sl q129] /\
 PNew [] true h127 fun a130 h131 =>
 (∃ q142 : OSl, zA h131 ⟨p128.b, p128.o + 1⟩ 1 = some [.sl q142] /\
 LV.val (.sl q142) = LV.val (.sl q129)) /\
 zC 1 1 (some ⟨a130, 0, 0, 0, 0⟩) q4 h131 fun q132 h133 =>
 (∃ q141 : OSl, zA h133 ⟨p128.b, p128.o + 1⟩ 1 = some [.sl q141] /\
 LV.val (.sl q141) = LV.val (.sl q129)) /\
 PNew [.ptr p8, .int .i64 (zJ q119 : Int), .sl q132] true h133 fun a134 h135 =>
 (∃ q140 : OSl, zA h135 ⟨p128.b, p128.o + 1⟩ 1 = some [.sl q140] /\
 LV.val (.sl q140) = LV.val (.sl q129)) /\
 zC 3 40 q129 (some ⟨a134, 0, 1, 1, 0⟩) h135 fun q136 h137 =>
 vPtr p1 fun p138 =>
 zI h137 ⟨p138.b, p138.o + 1⟩ [.sl q136] fun h139 =>
 Q (.int .i64 0) h139)
 (vPtr p8 fun p143 =>
 ∃ q144 : OSl, zA h117 ⟨p143.b, p143.o + 1⟩ 1 = some [.sl q144] /\
 vIdx q144 n3 1 fun p145 =>
 zI h117 p145 [.sl q116] fun h146 =>
 vPtr p1 fun p147 =>
 ∃ q148 : OSl, zA h146 ⟨p147.b, p147.o + 1⟩ 1 = some [.sl q148] /\
 PNew [] true h146 fun a149 h150 =>
 (∃ q161 : OSl, zA h150 ⟨p147.b, p147.o + 1⟩ 1 = some [.sl q161] /\
 LV.val (.sl q161) = LV.val (.sl q148)) /\
 zC 1 1 (some ⟨a149, 0, 0, 0, 0⟩) q4 h150 fun q151 h152 =>
 (∃ q160 : OSl, zA h152 ⟨p147.b, p147.o + 1⟩ 1 = some [.sl q160] /\
 LV.val (.sl q160) = LV.val (.sl q148)) /\
 PNew [.ptr p8, .int .i64 n3, .sl q151] true h152 fun a153 h154 =>
 (∃ q159 : OSl, zA h154 ⟨p147.b, p147.o + 1⟩ 1 = some [.sl q159] /\
 LV.val (.sl q159) = LV.val (.sl q148)) /\
 zC 3 40 q148 (some ⟨a153, 0, 1, 1, 0⟩) h154 fun q155 h156 =>
 vPtr p1 fun p157 =>
 zI h156 ⟨p157.b, p157.o + 1⟩ [.sl q155] fun h158 =>
 Q (.int .i64 0) h158)))
 (vPtr p8 fun p162 =>
 ∃ q163 : OSl, zA h7 ⟨p162.b, p162.o + 1⟩ 1 = some [.sl q163] /\
 vif (decide (n3 ≥ (zJ q163 : Int)))
 (AC Tryz.prog 199 [.ptr p1, .int .i64 4] h7 fun v164 h165 => ∃ n166 : Int, v164 = .int .i64 n166 /\
 vif (n166 != 0)
 (Q (.int .i64 n166) h165)
 (PNew [] true h165 fun a167 h168 =>
 zC 1 1 (some ⟨a167, 0, 0, 0, 0⟩) q4 h168 fun q169 h170 =>
 vif b5
 (vPtr p8 fun p171 =>
 ∃ q172 : OSl, zA h170 ⟨p171.b, p171.o + 1⟩ 1 = some [.sl q172] /\
 vPtr p8 fun p173 =>
 ∃ q174 : OSl, zA h170 ⟨p173.b, p173.o + 1⟩ 1 = some [.sl q174] /\
 PNew [.sl q169] true h170 fun a175 h176 =>
 zC 1 24 q174 (some ⟨a175, 0, 1, 1, 0⟩) h176 fun q177 h178 =>
 vPtr p8 fun p179 =>
 zI h178 ⟨p179.b, p179.o + 1⟩ [.sl q177] fun h180 =>
 vPtr p1 fun p181 =>
 ∃ q182 : OSl, zA h180 ⟨p181.b, p181.o + 1⟩ 1 = some [.sl q182] /\
 PNew [] true h180 fun a183 h184 =>
 (∃ q195 : OSl, zA h184 ⟨p181.b, p181.o + 1⟩ 1 = some [.sl q195] /\
 LV.val (.sl q195) = LV.val (.sl q182)) /\
 zC 1 1 (some ⟨a183, 0, 0, 0, 0⟩) q4 h184 fun q185 h186 =>
 (∃ q194 : OSl, zA h186 ⟨p181.b, p181.o + 1⟩ 1 = some [.sl q194] /\
 LV.val (.sl q194) = LV.val (.sl q182)) /\
 PNew [.ptr p8, .int .i64 (zJ q172 : Int), .sl q185] true h186 fun a187 h188 =>
 (∃ q193 : OSl, zA h188 ⟨p181.b, p181.o + 1⟩ 1 = some [.sl q193] /\
 LV.val (.sl q193) = LV.val (.sl q182)) /\
 zC 3 40 q182 (some ⟨a187, 0, 1, 1, 0⟩) h188 fun q189 h190 =>
 vPtr p1 fun p191 =>
 zI h190 ⟨p191.b, p191.o + 1⟩ [.sl q189] fun h192 =>
 Q (.int .i64 0) h192)
 (vPtr p8 fun p196 =>
 ∃ q197 : OSl, zA h170 ⟨p196.b, p196.o + 1⟩ 1 = some [.sl q197] /\
 vIdx q197 n3 1 fun p198 =>
 zI h170 p198 [.sl q169] fun h199 =>
 vPtr p1 fun p200 =>
 ∃ q201 : OSl, zA h199 ⟨p200.b, p200.o + 1⟩ 1 = some [.sl q201] /\
 PNew [] true h199 fun a202 h203 =>
 (∃ q214 : OSl, zA h203 ⟨p200.b, p200.o + 1⟩ 1 = some [.sl q214] /\
 LV.val (.sl q214) = LV.val (.sl q201)) /\
 zC 1 1 (some ⟨a202, 0, 0, 0, 0⟩) q4 h203 fun q204 h205 =>
 (∃ q213 : OSl, zA h205 ⟨p200.b, p200.o + 1⟩ 1 = some [.sl q213] /\
 LV.val (.sl q213) = LV.val (.sl q201)) /\
 PNew [.ptr p8, .int .i64 n3, .sl q204] true h205 fun a206 h207 =>
 (∃ q212 : OSl, zA h207 ⟨p200.b, p200.o + 1⟩ 1 = some [.sl q212] /\
 LV.val (.sl q212) = LV.val (.sl q201)) /\
 zC 3 40 q201 (some ⟨a206, 0, 1, 1, 0⟩) h207 fun q208 h209 =>
 vPtr p1 fun p210 =>
 zI h209 ⟨p210.b, p210.o + 1⟩ [.sl q208] fun h211 =>
 Q (.int .i64 0) h211)))
 (vif b5
 (vPtr p1 fun p215 =>
 ∃ n216 : Int, zA h7 ⟨p215.b, p215.o + 2⟩ 1 = some [.int .i64 n216] /\
 AC Tryz.prog 53 [.ptr p1] h7 fun v217 h218 => ∃ n219 : Int, v217 = .int .i64 n219 /\
 (∃ n322 : Int, zA h218 ⟨p215.b, p215.o + 2⟩ 1 = some [.int .i64 n322] /\
 LV.val (.int .i64 n322) = LV.val (.int .i64 n216)) /\
 vif (decide (n219 ≥ n216))
 (AC Tryz.prog 199 [.ptr p1, .int .i64 2] h218 fun v220 h221 => ∃ n222 : Int, v220 = .int .i64 n222 /\
 vif (n222 != 0)
 (Q (.int .i64 n222) h221)
 (PNew [] true h221 fun a223 h224 =>
 zC 1 1 (some ⟨a223, 0, 0, 0, 0⟩) q4 h224 fun q225 h226 =>
 vif b5
 (vPtr p8 fun p227 =>
 ∃ q228 : OSl, zA h226 ⟨p227.b, p227.o + 1⟩ 1 = some [.sl q228] /\
 vPtr p8 fun p229 =>
 ∃ q230 : OSl, zA h226 ⟨p229.b, p229.o + 1⟩ 1 = some [.sl q230] /\
 PNew [.sl q225] true h226 fun a231 h232 =>
 zC 1 24 q230 (some ⟨a231, 0, 1, 1, 0⟩) h232 fun q233 h234 =>
 vPtr p8 fun p235 =>
 zI h234 ⟨p235.b, p235.o + 1⟩ [.sl q233] fun h236 =>
 vPtr p1 fun p237 =>
 ∃ q238 : OSl, zA h236 ⟨p237.b, p237.o + 1⟩ 1 = some [.sl q238] /\
 PNew [] true h236 fun a239 h240 =>
 (∃ q251 : OSl, zA h240 ⟨p237.b, p237.o + 1⟩ 1 = some [.sl q251] /\
 LV.val (.sl q251) = LV.val (.sl q238)) /\
 zC 1 1 (some ⟨a239, 0, 0, 0, 0⟩) q4 h240 fun q241 h242 =>
 (∃ q250 : OSl, zA h242 ⟨p237.b, p237.o + 1⟩ 1 = some [.sl q250] /\
 LV.val (.sl q250) = LV.val (.sl q238)) /\
 PNew [.ptr p8, .int .i64 (zJ q228 : Int), .sl q241] true h242 fun a243 h244 =>
 (∃ q249 : OSl, zA h244 ⟨p237.b, p237.o + 1⟩ 1 = some [.sl q249] /\
 LV.val (.sl q249) = LV.val (.sl q238)) /\
 zC 3 40 q238 (some ⟨a243, 0, 1, 1, 0⟩) h244 fun q245 h246 =>
 vPtr p1 fun p247 =>
 zI h246 ⟨p247.b, p247.o + 1⟩ [.sl q245] fun h248 =>
 Q (.int .i64 0) h248)
 (vPtr p8 fun p252 =>
 ∃ q253 : OSl, zA h226 ⟨p252.b, p252.o + 1⟩ 1 = some [.sl q253] /\
 vIdx q253 n3 1 fun p254 =>
 zI h226 p254 [.sl q225] fun h255 =>
 vPtr p1 fun p256 =>
 ∃ q257 : OSl, zA h255 ⟨p256.b, p256.o + 1⟩ 1 = some [.sl q257] /\
 PNew [] true h255 fun a258 h259 =>
 (∃ q270 : OSl, zA h259 ⟨p256.b, p256.o + 1⟩ 1 = some [.sl q270] /\
 LV.val (.sl q270) = LV.val (.sl q257)) /\
 zC 1 1 (some ⟨a258, 0, 0, 0, 0⟩) q4 h259 fun q260 h261 =>
 (∃ q269 : OSl, zA h261 ⟨p256.b, p256.o + 1⟩ 1 = some [.sl q269] /\
 LV.val (.sl q269) = LV.val (.sl q257)) /\
 PNew [.ptr p8, .int .i64 n3, .sl q260] true h261 fun a262 h263 =>
 (∃ q268 : OSl, zA h263 ⟨p256.b, p256.o + 1⟩ 1 = some [.sl q268] /\
 LV.val (.sl q268) = LV.val (.sl q257)) /\
 zC 3 40 q257 (some ⟨a262, 0, 1, 1, 0⟩) h263 fun q264 h265 =>
 vPtr p1 fun p266 =>
 zI h265 ⟨p266.b, p266.o + 1⟩ [.sl q264] fun h267 =>
 Q (.int .i64 0) h267)))
 (AC Tryz.prog 199 [.ptr p1, .int .i64 0] h218 fun v271 h272 => ∃ n273 : Int, v271 = .int .i64 n273 /\
 vif (n273 != 0)
 (Q (.int .i64 n273) h272)
 (PNew [] true h272 fun a274 h275 =>
 zC 1 1 (some ⟨a274, 0, 0, 0, 0⟩) q4 h275 fun q276 h277 =>
 vif b5
 (vPtr p8 fun p278 =>
 ∃ q279 : OSl, zA h277 ⟨p278.b, p278.o + 1⟩ 1 = some [.sl q279] /\
 vPtr p8 fun p280 =>
 ∃ q281 : OSl, zA h277 ⟨p280.b, p280.o + 1⟩ 1 = some [.sl q281] /\
 PNew [.sl q276] true h277 fun a282 h283 =>
 zC 1 24 q281 (some ⟨a282, 0, 1, 1, 0⟩) h283 fun q284 h285 =>
 vPtr p8 fun p286 =>
 zI h285 ⟨p286.b, p286.o + 1⟩ [.sl q284] fun h287 =>
 vPtr p1 fun p288 =>
 ∃ q289 : OSl, zA h287 ⟨p288.b, p288.o + 1⟩ 1 = some [.sl q289] /\
 PNew [] true h287 fun a290 h291 =>
 (∃ q302 : OSl, zA h291 ⟨p288.b, p288.o + 1⟩ 1 = some [.sl q302] /\
 LV.val (.sl q302) = LV.val (.sl q289)) /\
 zC 1 1 (some ⟨a290, 0, 0, 0, 0⟩) q4 h291 fun q292 h293 =>
 (∃ q301 : OSl, zA h293 ⟨p288.b, p288.o + 1⟩ 1 = some [.sl q301] /\
 LV.val (.sl q301) = LV.val (.sl q289)) /\
 PNew [.ptr p8, .int .i64 (zJ q279 : Int), .sl q292] true h293 fun a294 h295 =>
 (∃ q300 : OSl, zA h295 ⟨p288.b, p288.o + 1⟩ 1 = some [.sl q300] /\
 LV.val (.sl q300) = LV.val (.sl q289)) /\
 zC 3 40 q289 (some ⟨a294, 0, 1, 1, 0⟩) h295 fun q296 h297 =>
 vPtr p1 fun p298 =>
 zI h297 ⟨p298.b, p298.o + 1⟩ [.sl q296] fun h299 =>
 Q (.int .i64 0) h299)
 (vPtr p8 fun p303 =>
 ∃ q304 : OSl, zA h277 ⟨p303.b, p303.o + 1⟩ 1 = some [.sl q304] /\
 vIdx q304 n3 1 fun p305 =>
 zI h277 p305 [.sl q276] fun h306 =>
 vPtr p1 fun p307 =>
 ∃ q308 : OSl, zA h306 ⟨p307.b, p307.o + 1⟩ 1 = some [.sl q308] /\
 PNew [] true h306 fun a309 h310 =>
 (∃ q321 : OSl, zA h310 ⟨p307.b, p307.o + 1⟩ 1 = some [.sl q321] /\
 LV.val (.sl q321) = LV.val (.sl q308)) /\
 zC 1 1 (some ⟨a309, 0, 0, 0, 0⟩) q4 h310 fun q311 h312 =>
 (∃ q320 : OSl, zA h312 ⟨p307.b, p307.o + 1⟩ 1 = some [.sl q320] /\
 LV.val (.sl q320) = LV.val (.sl q308)) /\
 PNew [.ptr p8, .int .i64 n3, .sl q311] true h312 fun a313 h314 =>
 (∃ q319 : OSl, zA h314 ⟨p307.b, p307.o + 1⟩ 1 = some [.sl q319] /\
 LV.val (.sl q319) = LV.val (.sl q308)) /\
 zC 3 40 q308 (some ⟨a313, 0, 1, 1, 0⟩) h314 fun q315 h316 =>
 vPtr p1 fun p317 =>
 zI h316 ⟨p317.b, p317.o + 1⟩ [.sl q315] fun h318 =>
 Q (.int .i64 0) h318))))
 ((LV.val (.tup []) = LV.val (.tup [])) /\
 AC Tryz.prog 199 [.ptr p1, .int .i64 0] h7 fun v323 h324 => ∃ n325 : Int, v323 = .int .i64 n325 /\
 vif (n325 != 0)
 (Q (.int .i64 n325) h324)
 (PNew [] true h324 fun a326 h327 =>
 zC 1 1 (some ⟨a326, 0, 0, 0, 0⟩) q4 h327 fun q328 h329 =>
 vif b5
 (vPtr p8 fun p330 =>
 ∃ q331 : OSl, zA h329 ⟨p330.b, p330.o + 1⟩ 1 = some [.sl q331] /\
 vPtr p8 fun p332 =>
 ∃ q333 : OSl, zA h329 ⟨p332.b, p332.o + 1⟩ 1 = some [.sl q333] /\
 PNew [.sl q328] true h329 fun a334 h335 =>
 zC 1 24 q333 (some ⟨a334, 0, 1, 1, 0⟩) h335 fun q336 h337 =>
 vPtr p8 fun p338 =>
 zI h337 ⟨p338.b, p338.o + 1⟩ [.sl q336] fun h339 =>
 vPtr p1 fun p340 =>
 ∃ q341 : OSl, zA h339 ⟨p340.b, p340.o + 1⟩ 1 = some [.sl q341] /\
 PNew [] true h339 fun a342 h343 =>
 (∃ q354 : OSl, zA h343 ⟨p340.b, p340.o + 1⟩ 1 = some [.sl q354] /\
 LV.val (.sl q354) = LV.val (.sl q341)) /\
 zC 1 1 (some ⟨a342, 0, 0, 0, 0⟩) q4 h343 fun q344 h345 =>
 (∃ q353 : OSl, zA h345 ⟨p340.b, p340.o + 1⟩ 1 = some [.sl q353] /\
 LV.val (.sl q353) = LV.val (.sl q341)) /\
 PNew [.ptr p8, .int .i64 (zJ q331 : Int), .sl q344] true h345 fun a346 h347 =>
 (∃ q352 : OSl, zA h347 ⟨p340.b, p340.o + 1⟩ 1 = some [.sl q352] /\
 LV.val (.sl q352) = LV.val (.sl q341)) /\
 zC 3 40 q341 (some ⟨a346, 0, 1, 1, 0⟩) h347 fun q348 h349 =>
 vPtr p1 fun p350 =>
 zI h349 ⟨p350.b, p350.o + 1⟩ [.sl q348] fun h351 =>
 Q (.int .i64 0) h351)
 (vPtr p8 fun p355 =>
 ∃ q356 : OSl, zA h329 ⟨p355.b, p355.o + 1⟩ 1 = some [.sl q356] /\
 vIdx q356 n3 1 fun p357 =>
 zI h329 p357 [.sl q328] fun h358 =>
 vPtr p1 fun p359 =>
 ∃ q360 : OSl, zA h358 ⟨p359.b, p359.o + 1⟩ 1 = some [.sl q360] /\
 PNew [] true h358 fun a361 h362 =>
 (∃ q373 : OSl, zA h362 ⟨p359.b, p359.o + 1⟩ 1 = some [.sl q373] /\
 LV.val (.sl q373) = LV.val (.sl q360)) /\
 zC 1 1 (some ⟨a361, 0, 0, 0, 0⟩) q4 h362 fun q363 h364 =>
 (∃ q372 : OSl, zA h364 ⟨p359.b, p359.o + 1⟩ 1 = some [.sl q372] /\
 LV.val (.sl q372) = LV.val (.sl q360)) /\
 PNew [.ptr p8, .int .i64 n3, .sl q363] true h364 fun a365 h366 =>
 (∃ q371 : OSl, zA h366 ⟨p359.b, p359.o + 1⟩ 1 = some [.sl q371] /\
 LV.val (.sl q371) = LV.val (.sl q360)) /\
 zC 3 40 q360 (some ⟨a365, 0, 1, 1, 0⟩) h366 fun q367 h368 =>
 vPtr p1 fun p369 =>
 zI h368 ⟨p369.b, p369.o + 1⟩ [.sl q367] fun h370 =>
 Q (.int .i64 0) h370))))))
 (vif b5
 (vPtr p1 fun p374 =>
 ∃ n375 : Int, zA h7 ⟨p374.b, p374.o + 2⟩ 1 = some [.int .i64 n375] /\
 AC Tryz.prog 53 [.ptr p1] h7 fun v376 h377 => ∃ n378 : Int, v376 = .int .i64 n378 /\
 (∃ n481 : Int, zA h377 ⟨p374.b, p374.o + 2⟩ 1 = some [.int .i64 n481] /\
 LV.val (.int .i64 n481) = LV.val (.int .i64 n375)) /\
 vif (decide (n378 ≥ n375))
 (AC Tryz.prog 199 [.ptr p1, .int .i64 2] h377 fun v379 h380 => ∃ n381 : Int, v379 = .int .i64 n381 /\
 vif (n381 != 0)
 (Q (.int .i64 n381) h380)
 (PNew [] true h380 fun a382 h383 =>
 zC 1 1 (some ⟨a382, 0, 0, 0, 0⟩) q4 h383 fun q384 h385 =>
 vif b5
 (vPtr p8 fun p386 =>
 ∃ q387 : OSl, zA h385 ⟨p386.b, p386.o + 1⟩ 1 = some [.sl q387] /\
 vPtr p8 fun p388 =>
 ∃ q389 : OSl, zA h385 ⟨p388.b, p388.o + 1⟩ 1 = some [.sl q389] /\
 PNew [.sl q384] true h385 fun a390 h391 =>
 zC 1 24 q389 (some ⟨a390, 0, 1, 1, 0⟩) h391 fun q392 h393 =>
 vPtr p8 fun p394 =>
 zI h393 ⟨p394.b, p394.o + 1⟩ [.sl q392] fun h395 =>
 vPtr p1 fun p396 =>
 ∃ q397 : OSl, zA h395 ⟨p396.b, p396.o + 1⟩ 1 = some [.sl q397] /\
 PNew [] true h395 fun a398 h399 =>
 (∃ q410 : OSl, zA h399 ⟨p396.b, p396.o + 1⟩ 1 = some [.sl q410] /\
 LV.val (.sl q410) = LV.val (.sl q397)) /\
 zC 1 1 (some ⟨a398, 0, 0, 0, 0⟩) q4 h399 fun q400 h401 =>
 (∃ q409 : OSl, zA h401 ⟨p396.b, p396.o + 1⟩ 1 = some [.sl q409] /\
 LV.val (.sl q409) = LV.val (.sl q397)) /\
 PNew [.ptr p8, .int .i64 (zJ q387 : Int), .sl q400] true h401 fun a402 h403 =>
 (∃ q408 : OSl, zA h403 ⟨p396.b, p396.o + 1⟩ 1 = some [.sl q408] /\
 LV.val (.sl q408) = LV.val (.sl q397)) /\
 zC 3 40 q397 (some ⟨a402, 0, 1, 1, 0⟩) h403 fun q404 h405 =>
 vPtr p1 fun p406 =>
 zI h405 ⟨p406.b, p406.o + 1⟩ [.sl q404] fun h407 =>
 Q (.int .i64 0) h407)
 (vPtr p8 fun p411 =>
 ∃ q412 : OSl, zA h385 ⟨p411.b, p411.o + 1⟩ 1 = some [.sl q412] /\
 vIdx q412 n3 1 fun p413 =>
 zI h385 p413 [.sl q384] fun h414 =>
 vPtr p1 fun p415 =>
 ∃ q416 : OSl, zA h414 ⟨p415.b, p415.o + 1⟩ 1 = some [.sl q416] /\
 PNew [] true h414 fun a417 h418 =>
 (∃ q429 : OSl, zA h418 ⟨p415.b, p415.o + 1⟩ 1 = some [.sl q429] /\
 LV.val (.sl q429) = LV.val (.sl q416)) /\
 zC 1 1 (some ⟨a417, 0, 0, 0, 0⟩) q4 h418 fun q419 h420 =>
 (∃ q428 : OSl, zA h420 ⟨p415.b, p415.o + 1⟩ 1 = some [.sl q428] /\
 LV.val (.sl q428) = LV.val (.sl q416)) /\
 PNew [.ptr p8, .int .i64 n3, .sl q419] true h420 fun a421 h422 =>
 (∃ q427 : OSl, zA h422 ⟨p415.b, p415.o + 1⟩ 1 = some [.sl q427] /\
 LV.val (.sl q427) = LV.val (.sl q416)) /\
 zC 3 40 q416 (some ⟨a421, 0, 1, 1, 0⟩) h422 fun q423 h424 =>
 vPtr p1 fun p425 =>
 zI h424 ⟨p425.b, p425.o + 1⟩ [.sl q423] fun h426 =>
 Q (.int .i64 0) h426)))
 (AC Tryz.prog 199 [.ptr p1, .int .i64 0] h377 fun v430 h431 => ∃ n432 : Int, v430 = .int .i64 n432 /\
 vif (n432 != 0)
 (Q (.int .i64 n432) h431)
 (PNew [] true h431 fun a433 h434 =>
 zC 1 1 (some ⟨a433, 0, 0, 0, 0⟩) q4 h434 fun q435 h436 =>
 vif b5
 (vPtr p8 fun p437 =>
 ∃ q438 : OSl, zA h436 ⟨p437.b, p437.o + 1⟩ 1 = some [.sl q438] /\
 vPtr p8 fun p439 =>
 ∃ q440 : OSl, zA h436 ⟨p439.b, p439.o + 1⟩ 1 = some [.sl q440] /\
 PNew [.sl q435] true h436 fun a441 h442 =>
 zC 1 24 q440 (some ⟨a441, 0, 1, 1, 0⟩) h442 fun q443 h444 =>
 vPtr p8 fun p445 =>
 zI h444 ⟨p445.b, p445.o + 1⟩ [.sl q443] fun h446 =>
 vPtr p1 fun p447 =>
 ∃ q448 : OSl, zA h446 ⟨p447.b, p447.o + 1⟩ 1 = some [.sl q448] /\
 PNew [] true h446 fun a449 h450 =>
 (∃ q461 : OSl, zA h450 ⟨p447.b, p447.o + 1⟩ 1 = some [.sl q461] /\
 LV.val (.sl q461) = LV.val (.sl q448)) /\
 zC 1 1 (some ⟨a449, 0, 0, 0, 0⟩) q4 h450 fun q451 h452 =>
 (∃ q460 : OSl, zA h452 ⟨p447.b, p447.o + 1⟩ 1 = some [.sl q460] /\
 LV.val (.sl q460) = LV.val (.sl q448)) /\
 PNew [.ptr p8, .int .i64 (zJ q438 : Int), .sl q451] true h452 fun a453 h454 =>
 (∃ q459 : OSl, zA h454 ⟨p447.b, p447.o + 1⟩ 1 = some [.sl q459] /\
 LV.val (.sl q459) = LV.val (.sl q448)) /\
 zC 3 40 q448 (some ⟨a453, 0, 1, 1, 0⟩) h454 fun q455 h456 =>
 vPtr p1 fun p457 =>
 zI h456 ⟨p457.b, p457.o + 1⟩ [.sl q455] fun h458 =>
 Q (.int .i64 0) h458)
 (vPtr p8 fun p462 =>
 ∃ q463 : OSl, zA h436 ⟨p462.b, p462.o + 1⟩ 1 = some [.sl q463] /\
 vIdx q463 n3 1 fun p464 =>
 zI h436 p464 [.sl q435] fun h465 =>
 vPtr p1 fun p466 =>
 ∃ q467 : OSl, zA h465 ⟨p466.b, p466.o + 1⟩ 1 = some [.sl q467] /\
 PNew [] true h465 fun a468 h469 =>
 (∃ q480 : OSl, zA h469 ⟨p466.b, p466.o + 1⟩ 1 = some [.sl q480] /\
 LV.val (.sl q480) = LV.val (.sl q467)) /\
 zC 1 1 (some ⟨a468, 0, 0, 0, 0⟩) q4 h469 fun q470 h471 =>
 (∃ q479 : OSl, zA h471 ⟨p466.b, p466.o + 1⟩ 1 = some [.sl q479] /\
 LV.val (.sl q479) = LV.val (.sl q467)) /\
 PNew [.ptr p8, .int .i64 n3, .sl q470] true h471 fun a472 h473 =>
 (∃ q478 : OSl, zA h473 ⟨p466.b, p466.o + 1⟩ 1 = some [.sl q478] /\
 LV.val (.sl q478) = LV.val (.sl q467)) /\
 zC 3 40 q467 (some ⟨a472, 0, 1, 1, 0⟩) h473 fun q474 h475 =>
 vPtr p1 fun p476 =>
 zI h475 ⟨p476.b, p476.o + 1⟩ [.sl q474] fun h477 =>
 Q (.int .i64 0) h477))))
 ((LV.val (.tup []) = LV.val (.tup [])) /\
 AC Tryz.prog 199 [.ptr p1, .int .i64 0] h7 fun v482 h483 => ∃ n484 : Int, v482 = .int .i64 n484 /\
 vif (n484 != 0)
 (Q (.int .i64 n484) h483)
 (PNew [] true h483 fun a485 h486 =>
 zC 1 1 (some ⟨a485, 0, 0, 0, 0⟩) q4 h486 fun q487 h488 =>
 vif b5
 (vPtr p8 fun p489 =>
 ∃ q490 : OSl, zA h488 ⟨p489.b, p489.o + 1⟩ 1 = some [.sl q490] /\
 vPtr p8 fun p491 =>
 ∃ q492 : OSl, zA h488 ⟨p491.b, p491.o + 1⟩ 1 = some [.sl q492] /\
 PNew [.sl q487] true h488 fun a493 h494 =>
 zC 1 24 q492 (some ⟨a493, 0, 1, 1, 0⟩) h494 fun q495 h496 =>
 vPtr p8 fun p497 =>
 zI h496 ⟨p497.b, p497.o + 1⟩ [.sl q495] fun h498 =>
 vPtr p1 fun p499 =>
 ∃ q500 : OSl, zA h498 ⟨p499.b, p499.o + 1⟩ 1 = some [.sl q500] /\
 PNew [] true h498 fun a501 h502 =>
 (∃ q513 : OSl, zA h502 ⟨p499.b, p499.o + 1⟩ 1 = some [.sl q513] /\
 LV.val (.sl q513) = LV.val (.sl q500)) /\
 zC 1 1 (some ⟨a501, 0, 0, 0, 0⟩) q4 h502 fun q503 h504 =>
 (∃ q512 : OSl, zA h504 ⟨p499.b, p499.o + 1⟩ 1 = some [.sl q512] /\
 LV.val (.sl q512) = LV.val (.sl q500)) /\
 PNew [.ptr p8, .int .i64 (zJ q490 : Int), .sl q503] true h504 fun a505 h506 =>
 (∃ q511 : OSl, zA h506 ⟨p499.b, p499.o + 1⟩ 1 = some [.sl q511] /\
 LV.val (.sl q511) = LV.val (.sl q500)) /\
 zC 3 40 q500 (some ⟨a505, 0, 1, 1, 0⟩) h506 fun q507 h508 =>
 vPtr p1 fun p509 =>
 zI h508 ⟨p509.b, p509.o + 1⟩ [.sl q507] fun h510 =>
 Q (.int .i64 0) h510)
 (vPtr p8 fun p514 =>
 ∃ q515 : OSl, zA h488 ⟨p514.b, p514.o + 1⟩ 1 = some [.sl q515] /\
 vIdx q515 n3 1 fun p516 =>
 zI h488 p516 [.sl q487] fun h517 =>
 vPtr p1 fun p518 =>
 ∃ q519 : OSl, zA h517 ⟨p518.b, p518.o + 1⟩ 1 = some [.sl q519] /\
 PNew [] true h517 fun a520 h521 =>
 (∃ q532 : OSl, zA h521 ⟨p518.b, p518.o + 1⟩ 1 = some [.sl q532] /\
 LV.val (.sl q532) = LV.val (.sl q519)) /\
 zC 1 1 (some ⟨a520, 0, 0, 0, 0⟩) q4 h521 fun q522 h523 =>
 (∃ q531 : OSl, zA h523 ⟨p518.b, p518.o + 1⟩ 1 = some [.sl q531] /\
 LV.val (.sl q531) = LV.val (.sl q519)) /\
 PNew [.ptr p8, .int .i64 n3, .sl q522] true h523 fun a524 h525 =>
 (∃ q530 : OSl, zA h525 ⟨p518.b, p518.o + 1⟩ 1 = some [.sl q530] /\
 LV.val (.sl q530) = LV.val (.sl q519)) /\
 zC 3 40 q519 (some ⟨a524, 0, 1, 1, 0⟩) h525 fun q526 h527 =>
 vPtr p1 fun p528 =>
 zI h527 ⟨p528.b, p528.o + 1⟩ [.sl q526] fun h529 =>
 Q (.int .i64 0) h529))))))
theorem ac128 {p1 : OPa} {s2 : List UInt8} {n3 : Int} {q4 : OSl} {b5 : Bool} {h : Heap} {Q : AHp} (hk : vc128 p1 s2 n3 q4 b5 h Q) : AC Tryz.prog 128 [.ptr p1, .str s2, .int .i64 n3, .sl q4, .bool b5] h Q :=
 zL (H := zH [] []) (by kernel_rfl) (by kernel_rfl) hk
def vc129 (p1 : OPa) (s2 : List UInt8) (h : Heap) (Q : AHp) : Prop :=
 AC Tryz.prog 55 [.ptr p1, .str s2] h fun v3 h4 => ∃ p5 : OPa, v3 = .ptr p5 /\
 vif (p5.isNone)
 (AC Tryz.prog 199 [.ptr p1, .int .i64 4] h4 fun v6 h7 => ∃ n8 : Int, v6 = .int .i64 n8 /\
 vif (n8 != 0)
 (Q (.int .i64 n8) h7)
 (∃ (I11 : LHp) (m12 : LHn), I11 [.sl none, .int .i64 0] h7 /\
 ∀ q9 : OSl, ∀ n10 : Int, ∀ h13 : Heap, I11 [.sl q9, .int .i64 n10] h13 ->
 vPtr p1 fun p14 =>
 ∃ q15 : OSl, zA h13 ⟨p14.b, p14.o + 1⟩ 1 = some [.sl q15] /\
 vif (decide (n10 < (zJ q15 : Int)))
 (vPtr p1 fun p16 =>
 ∃ q17 : OSl, zA h13 ⟨p16.b, p16.o + 1⟩ 1 = some [.sl q17] /\
 vIdx q17 n10 3 fun p18 =>
 ∃ p19 : OPa, zA h13 ⟨p18.b, p18.o + 0⟩ 1 = some [.ptr p19] /\
 aEq Tryz.prog 95 h13 (.ptr p19) (.ptr p5) fun b20 =>
 vif b20
 (vPtr p1 fun p21 =>
 ∃ q22 : OSl, zA h13 ⟨p21.b, p21.o + 1⟩ 1 = some [.sl q22] /\
 vIdx q22 n10 3 fun p23 =>
 ∃ n24 : Int, zA h13 ⟨p23.b, p23.o + 1⟩ 1 = some [.int .i64 n24] /\
 vPtr p1 fun p25 =>
 ∃ q26 : OSl, zA h13 ⟨p25.b, p25.o + 1⟩ 1 = some [.sl q26] /\
 vIdx q26 n10 3 fun p27 =>
 ∃ q28 : OSl, zA h13 ⟨p27.b, p27.o + 2⟩ 1 = some [.sl q28] /\
 AC Tryz.prog 197 [.ptr p5, .int .i64 n24, .sl q28, .int .i64 64] h13 fun v29 h30 => v29 = .tup [] /\
 (True) /\ I11 [.sl q9, .int .i64 (zE .i64 (n10 + 1))] h30 /\ m12 [.sl q9, .int .i64 (zE .i64 (n10 + 1))] h30 < m12 [.sl q9, .int .i64 n10] h13)
 (vPtr p1 fun p31 =>
 ∃ q32 : OSl, zA h13 ⟨p31.b, p31.o + 1⟩ 1 = some [.sl q32] /\
 vIdx q32 n10 3 fun p33 =>
 ∃ p34 : OPa, ∃ n35 : Int, ∃ q36 : OSl, zA h13 p33 3 = some [.ptr p34, .int .i64 n35, .sl q36] /\
 PNew [.ptr p34, .int .i64 n35, .sl q36] true h13 fun a37 h38 =>
 zC 3 40 q9 (some ⟨a37, 0, 1, 1, 0⟩) h38 fun q39 h40 =>
 (True) /\ I11 [.sl q39, .int .i64 (zE .i64 (n10 + 1))] h40 /\ m12 [.sl q39, .int .i64 (zE .i64 (n10 + 1))] h40 < m12 [.sl q9, .int .i64 n10] h13))
 (vPtr p1 fun p41 =>
 zI h13 ⟨p41.b, p41.o + 1⟩ [.sl q9] fun h42 =>
 Q (.int .i64 0) h42)))
 (AC Tryz.prog 199 [.ptr p1, .int .i64 0] h4 fun v43 h44 => ∃ n45 : Int, v43 = .int .i64 n45 /\
 vif (n45 != 0)
 (Q (.int .i64 n45) h44)
 (∃ (I48 : LHp) (m49 : LHn), I48 [.sl none, .int .i64 0] h44 /\
 ∀ q46 : OSl, ∀ n47 : Int, ∀ h50 : Heap, I48 [.sl q46, .int .i64 n47] h50 ->
 vPtr p1 fun p51 =>
 ∃ q52 : OSl, zA h50 ⟨p51.b, p51.o + 1⟩ 1 = some [.sl q52] /\
 vif (decide (n47 < (zJ q52 : Int)))
 (vPtr p1 fun p53 =>
 ∃ q54 : OSl, zA h50 ⟨p53.b, p53.o + 1⟩ 1 = some [.sl q54] /\
 vIdx q54 n47 3 fun p55 =>
 ∃ p56 : OPa, zA h50 ⟨p55.b, p55.o + 0⟩ 1 = some [.ptr p56] /\
 aEq Tryz.prog 95 h50 (.ptr p56) (.ptr p5) fun b57 =>
 vif b57
 (vPtr p1 fun p58 =>
 ∃ q59 : OSl, zA h50 ⟨p58.b, p58.o + 1⟩ 1 = some [.sl q59] /\
 vIdx q59 n47 3 fun p60 =>
 ∃ n61 : Int, zA h50 ⟨p60.b, p60.o + 1⟩ 1 = some [.int .i64 n61] /\
 vPtr p1 fun p62 =>
 ∃ q63 : OSl, zA h50 ⟨p62.b, p62.o + 1⟩ 1 = some [.sl q63] /\
 vIdx q63 n47 3 fun p64 =>
 ∃ q65 : OSl, zA h50 ⟨p64.b, p64.o + 2⟩ 1 = some [.sl q65] /\
 AC Tryz.prog 197 [.ptr p5, .int .i64 n61, .sl q65, .int .i64 64] h50 fun v66 h67 => v66 = .tup [] /\
 (True) /\ I48 [.sl q46, .int .i64 (zE .i64 (n47 + 1))] h67 /\ m49 [.sl q46, .int .i64 (zE .i64 (n47 + 1))] h67 < m49 [.sl q46, .int .i64 n47] h50)
 (vPtr p1 fun p68 =>
 ∃ q69 : OSl, zA h50 ⟨p68.b, p68.o + 1⟩ 1 = some [.sl q69] /\
 vIdx q69 n47 3 fun p70 =>
 ∃ p71 : OPa, ∃ n72 : Int, ∃ q73 : OSl, zA h50 p70 3 = some [.ptr p71, .int .i64 n72, .sl q73] /\
 PNew [.ptr p71, .int .i64 n72, .sl q73] true h50 fun a74 h75 =>
 zC 3 40 q46 (some ⟨a74, 0, 1, 1, 0⟩) h75 fun q76 h77 =>
 (True) /\ I48 [.sl q76, .int .i64 (zE .i64 (n47 + 1))] h77 /\ m49 [.sl q76, .int .i64 (zE .i64 (n47 + 1))] h77 < m49 [.sl q46, .int .i64 n47] h50))
 (vPtr p1 fun p78 =>
 zI h50 ⟨p78.b, p78.o + 1⟩ [.sl q46] fun h79 =>
 Q (.int .i64 0) h79)))
theorem ac129 {p1 : OPa} {s2 : List UInt8} {h : Heap} {Q : AHp} (hk : vc129 p1 s2 h Q) : AC Tryz.prog 129 [.ptr p1, .str s2] h Q :=
 zL (H := zH [] [(0, [7, 8], [])]) (by kernel_rfl) (by kernel_rfl) hk
def vc130 (p1 : OPa) (s2 : List UInt8) (h : Heap) (Q : AHp) : Prop :=
 AC Tryz.prog 171 [.ptr p1] h fun v3 h4 => ∃ n5 : Int, v3 = .int .i64 n5 /\
 vif (n5 != 0)
 (Q (.tup [.ptr none, .int .i64 n5]) h4)
 (vPtr p1 fun p6 =>
 ∃ m7 : Option Nat, zA h4 ⟨p6.b, p6.o + 0⟩ 1 = some [.map m7] /\
 xP Tryz.prog 9 183 m7 (.str s2) false h4 fun v8 =>
 ∃ p9 : OPa, v8 = .ptr p9 /\
 vif (p9.isNone)
 (Q (.tup [.ptr none, .int .i64 4]) h4)
 (Q (.tup [.ptr p9, .int .i64 0]) h4))
theorem ac130 {p1 : OPa} {s2 : List UInt8} {h : Heap} {Q : AHp} (hk : vc130 p1 s2 h Q) : AC Tryz.prog 130 [.ptr p1, .str s2] h Q :=
 zL (H := zH [] []) (by kernel_rfl) (by kernel_rfl) hk
def vc131 (q1 : OSl) (h : Heap) (Q : AHp) : Prop :=
 vif (q1.isNone)
 (Q (.sl none) h)
 (PNew [] true h fun a2 h3 =>
 zC 1 1 (some ⟨a2, 0, 0, 0, 0⟩) q1 h3 fun q4 h5 =>
 Q (.sl q4) h5)
theorem ac131 {q1 : OSl} {h : Heap} {Q : AHp} (hk : vc131 q1 h Q) : AC Tryz.prog 131 [.sl q1] h Q :=
 zL (H := zH [] []) (by kernel_rfl) (by kernel_rfl) hk
def vc141 (n1 : Int) (h : Heap) (Q : AHp) : Prop :=
 vif (decide (n1 < 240))
 (PNew [.int .u8 (zE .u8 n1)] true h fun a2 h3 =>
 Q (.sl (some ⟨a2, 0, 1, 1, 0⟩)) h3)
 (vif (decide (n1 < 2288))
 (PNew [.int .u8 (zE .u8 (zE .i64 (240 + (zE .i64 (Int.tdiv (zE .i64 (n1 - 240)) 256))))), .int .u8 (zE .u8 (Int.tmod (zE .i64 (n1 - 240)) 256))] true h fun a4 h5 =>
 Q (.sl (some ⟨a4, 0, 2, 2, 0⟩)) h5)
 (∃ (I7 : LHp) (m8 : LHn), I7 [.int .i64 2] h /\
 ∀ n6 : Int, ∀ h9 : Heap, I7 [.int .i64 n6] h9 ->
 vif (decide (n6 < 8))
 (AC Tryz.prog 217 [.int .i64 n1, .int .i64 n6] h9 fun v10 h11 => ∃ q12 : OSl, ∃ b13 : Bool, v10 = .tup [.sl q12, .bool b13] /\
 vif b13
 (PNew [.int .u8 (zE .u8 (zE .i64 (246 + n6)))] true h11 fun a14 h15 =>
 zC 1 1 (some ⟨a14, 0, 1, 1, 0⟩) q12 h15 fun q16 h17 =>
 Q (.sl q16) h17)
 ((True) /\ I7 [.int .i64 (zE .i64 (n6 + 1))] h11 /\ m8 [.int .i64 (zE .i64 (n6 + 1))] h11 < m8 [.int .i64 n6] h9))
 (AC Tryz.prog 217 [.int .i64 n1, .int .i64 8] h9 fun v18 h19 => ∃ q20 : OSl, ∃ b21 : Bool, v18 = .tup [.sl q20, .bool b21] /\
 PNew [.int .u8 254] true h19 fun a22 h23 =>
 zC 1 1 (some ⟨a22, 0, 1, 1, 0⟩) q20 h23 fun q24 h25 =>
 Q (.sl q24) h25)))
theorem ac141 {n1 : Int} {h : Heap} {Q : AHp} (hk : vc141 n1 h Q) : AC Tryz.prog 141 [.int .i64 n1] h Q :=
 zL (H := zH [] [(1, [3], [])]) (by kernel_rfl) (by kernel_rfl) hk
def vc142 (n1 : Int) (q2 : OSl) (h : Heap) (Q : AHp) : Prop :=
 AC Tryz.prog 217 [.int .i64 n1, .int .i64 8] h fun v3 h4 => ∃ q5 : OSl, ∃ b6 : Bool, v3 = .tup [.sl q5, .bool b6] /\
 PNew [] true h4 fun a7 h8 =>
 zC 1 1 (some ⟨a7, 0, 0, 0, 0⟩) q5 h8 fun q9 h10 =>
 PNew [.int .u8 (zE .u8 (zJ q2 : Int))] true h10 fun a11 h12 =>
 zC 1 1 q9 (some ⟨a11, 0, 1, 1, 0⟩) h12 fun q13 h14 =>
 zC 1 1 q13 q2 h14 fun q15 h16 =>
 ∃ (I18 : LHp) (m19 : LHn), I18 [.sl q15] h16 /\
 ∀ q17 : OSl, ∀ h20 : Heap, I18 [.sl q17] h20 ->
 vif (decide ((zJ q17 : Int) < 52))
 (PNew [.int .u8 0] true h20 fun a21 h22 =>
 zC 1 1 q17 (some ⟨a21, 0, 1, 1, 0⟩) h22 fun q23 h24 =>
 (True) /\ I18 [.sl q23] h24 /\ m19 [.sl q23] h24 < m19 [.sl q17] h20)
 (AC Tryz.prog 218 [.sl q17] h20 fun v25 h26 => ∃ q27 : OSl, v25 = .sl q27 /\
 zC 1 1 q27 q5 h26 fun q28 h29 =>
 Q (.sl q28) h29)
theorem ac142 {n1 : Int} {q2 : OSl} {h : Heap} {Q : AHp} (hk : vc142 n1 q2 h Q) : AC Tryz.prog 142 [.int .i64 n1, .sl q2] h Q :=
 zL (H := zH [] [(0, [7], [])]) (by kernel_rfl) (by kernel_rfl) hk
def vc158 (q1 : OSl) (h : Heap) (Q : AHp) : Prop :=
 AC Tryz.prog 131 [.sl q1] h fun v2 h3 => ∃ q4 : OSl, v2 = .sl q4 /\
 PNew [.sl q4, .bool false] true h3 fun a5 h6 =>
 Q (.ptr (some ⟨a5, 0⟩)) h6
theorem ac158 {q1 : OSl} {h : Heap} {Q : AHp} (hk : vc158 q1 h Q) : AC Tryz.prog 158 [.sl q1] h Q :=
 zL (H := zH [] []) (by kernel_rfl) (by kernel_rfl) hk
def vc159 (p1 : OPa) (h : Heap) (Q : AHp) : Prop :=
 AC Tryz.prog 227 [.ptr p1, .int .i64 1] h fun v2 h3 => ∃ n4 : Int, v2 = .int .i64 n4 /\
 vif (decide (n4 < 240))
 (Q (.int .i64 n4) h3)
 (vif (decide (n4 < 248))
 (AC Tryz.prog 227 [.ptr p1, .int .i64 1] h3 fun v5 h6 => ∃ n7 : Int, v5 = .int .i64 n7 /\
 AC Tryz.prog 228 [.ptr p1, .int .i64 (zE .i64 ((zE .i64 (240 + (shlK .i64 (zE .i64 (n4 - 240)) 8))) + n7)), .bool true] h6 fun v8 h9 => ∃ n10 : Int, v8 = .int .i64 n10 /\
 Q (.int .i64 n10) h9)
 (vif (decide (n4 <= 254))
 (AC Tryz.prog 227 [.ptr p1, .int .i64 (zE .i64 (n4 - 246))] h3 fun v11 h12 => ∃ n13 : Int, v11 = .int .i64 n13 /\
 vif (decide (n13 ≥ 2288))
 (AC Tryz.prog 229 [.int .i64 n13] h12 fun v14 h15 => ∃ n16 : Int, v14 = .int .i64 n16 /\
 AC Tryz.prog 228 [.ptr p1, .int .i64 n13, .bool (n16 == (zE .i64 ((zE .i64 (n4 - 246)) + 1)))] h15 fun v17 h18 => ∃ n19 : Int, v17 = .int .i64 n19 /\
 Q (.int .i64 n19) h18)
 (AC Tryz.prog 228 [.ptr p1, .int .i64 n13, .bool false] h12 fun v20 h21 => ∃ n22 : Int, v20 = .int .i64 n22 /\
 Q (.int .i64 n22) h21))
 (AC Tryz.prog 230 [.ptr p1] h3 fun v23 h24 => ∃ n25 : Int, v23 = .int .i64 n25 /\
 Q (.int .i64 n25) h24)))
theorem ac159 {p1 : OPa} {h : Heap} {Q : AHp} (hk : vc159 p1 h Q) : AC Tryz.prog 159 [.ptr p1] h Q :=
 zL (H := zH [] []) (by kernel_rfl) (by kernel_rfl) hk
def vc160 (p1 : OPa) (h : Heap) (Q : AHp) : Prop :=
 AC Tryz.prog 231 [.ptr p1] h fun v2 h3 => ∃ b4 : Bool, v2 = .bool b4 /\
 vif b4
 (Q (.int .i64 10) h3)
 (vPtr p1 fun p5 =>
 ∃ q6 : OSl, zA h3 ⟨p5.b, p5.o + 0⟩ 1 = some [.sl q6] /\
 vif (decide ((zJ q6 : Int) > 0))
 (Q (.int .i64 10) h3)
 (Q (.int .i64 0) h3))
theorem ac160 {p1 : OPa} {h : Heap} {Q : AHp} (hk : vc160 p1 h Q) : AC Tryz.prog 160 [.ptr p1] h Q :=
 zL (H := zH [] []) (by kernel_rfl) (by kernel_rfl) hk
def vc169 (n1 : Int) (q2 : OSl) (h : Heap) (Q : AHp) : Prop :=
 AC Tryz.prog 237 [.int .i64 n1] h fun v3 h4 => ∃ b5 : Bool, v3 = .bool b5 /\
 vif (!b5)
 (Q (.tup [.sl none, .int .i64 1]) h4)
 (vif (decide ((zJ q2 : Int) > 43))
 (Q (.tup [.sl none, .int .i64 3]) h4)
 (AC Tryz.prog 238 [.int .i64 n1, .int .i64 8] h4 fun v6 h7 => ∃ q8 : OSl, ∃ n9 : Int, v6 = .tup [.sl q8, .int .i64 n9] /\
 zIR [.int .u8 0] 1 52 52 h7 fun q10 h11 =>
 zEY 1 q10 q8 h11 fun n12 h13 =>
 vIdx q10 8 1 fun p14 =>
 zI h13 p14 [.int .u8 (zE .u8 (zJ q2 : Int))] fun h15 =>
 yC 1 q10 9 none none fun q16 =>
 zEY 1 q16 q2 h15 fun n17 h18 =>
 AC Tryz.prog 240 [.sl q10] h18 fun v19 h20 => ∃ q21 : OSl, v19 = .sl q21 /\
 PNew [.sl q21, .sl q8] true h20 fun a22 h23 =>
 AC Tryz.prog 239 [.sl (some ⟨a22, 0, 2, 2, 0⟩)] h23 fun v24 h25 => ∃ q26 : OSl, v24 = .sl q26 /\
 Q (.tup [.sl q26, .int .i64 0]) h25))
theorem ac169 {n1 : Int} {q2 : OSl} {h : Heap} {Q : AHp} (hk : vc169 n1 q2 h Q) : AC Tryz.prog 169 [.int .i64 n1, .sl q2] h Q :=
 zL (H := zH [] []) (by kernel_rfl) (by kernel_rfl) hk
def vc170 (s1 : List UInt8) (h : Heap) (Q : AHp) : Prop :=
 vif (decide ((s1.length : Int) ≥ 1))
 (Q (.bool (decide ((s1.length : Int) <= 24))) h)
 (Q (.bool false) h)
theorem ac170 {s1 : List UInt8} {h : Heap} {Q : AHp} (hk : vc170 s1 h Q) : AC Tryz.prog 170 [.str s1] h Q :=
 zL (H := zH [] []) (by kernel_rfl) (by kernel_rfl) hk
def vc171 (p1 : OPa) (h : Heap) (Q : AHp) : Prop :=
 AC Tryz.prog 104 [.ptr p1] h fun v2 h3 => ∃ b4 : Bool, v2 = .bool b4 /\
 vif (!b4)
 (Q (.int .i64 6) h3)
 (vPtr p1 fun p5 =>
 ∃ b6 : Bool, zA h3 ⟨p5.b, p5.o + 4⟩ 1 = some [.bool b6] /\
 vif b6
 (Q (.int .i64 50) h3)
 (Q (.int .i64 0) h3))
theorem ac171 {p1 : OPa} {h : Heap} {Q : AHp} (hk : vc171 p1 h Q) : AC Tryz.prog 171 [.ptr p1] h Q :=
 zL (H := zH [] []) (by kernel_rfl) (by kernel_rfl) hk
def vc172 (p1 : OPa) (h : Heap) (Q : AHp) : Prop :=
 vPtr p1 fun p2 =>
 ∃ n3 : Int, zA h ⟨p2.b, p2.o + 3⟩ 1 = some [.int .i64 n3] /\
 vif (n3 == 0)
 (vPtr p1 fun p4 =>
 zI h ⟨p4.b, p4.o + 4⟩ [.bool true] fun h5 =>
 Q (.int .i64 50) h5)
 (vPtr p1 fun p6 =>
 ∃ n7 : Int, zA h ⟨p6.b, p6.o + 3⟩ 1 = some [.int .i64 n7] /\
 vif (decide (n7 > 0))
 (vPtr p1 fun p8 =>
 ∃ n9 : Int, zA h ⟨p8.b, p8.o + 3⟩ 1 = some [.int .i64 n9] /\
 vPtr p1 fun p10 =>
 zI h ⟨p10.b, p10.o + 3⟩ [.int .i64 (zE .i64 (n9 - 1))] fun h11 =>
 Q (.int .i64 0) h11)
 (Q (.int .i64 0) h))
theorem ac172 {p1 : OPa} {h : Heap} {Q : AHp} (hk : vc172 p1 h Q) : AC Tryz.prog 172 [.ptr p1] h Q :=
 zL (H := zH [] []) (by kernel_rfl) (by kernel_rfl) hk
def vc173 (p1 : OPa) (p2 : OPa) (n3 : Int) (l4 : Nat -> Int) (h : Heap) (Q : AHp) : Prop :=
 vPtr p2 fun p5 =>
 ∃ q6 : OSl, zA h ⟨p5.b, p5.o + 1⟩ 1 = some [.sl q6] /\
 vIdx q6 n3 64 fun p7 =>
 zI h p7 (cel .u8 64 l4) fun h8 =>
 vPtr p1 fun p9 =>
 ∃ q10 : OSl, zA h8 ⟨p9.b, p9.o + 1⟩ 1 = some [.sl q10] /\
 PNew ([.ptr p2, .int .i64 n3] ++ ((cel .u8 64 l4))) true h8 fun a11 h12 =>
 (∃ q17 : OSl, zA h12 ⟨p9.b, p9.o + 1⟩ 1 = some [.sl q17] /\
 LV.val (.sl q17) = LV.val (.sl q10)) /\
 zC 66 80 q10 (some ⟨a11, 0, 1, 1, 0⟩) h12 fun q13 h14 =>
 vPtr p1 fun p15 =>
 zI h14 ⟨p15.b, p15.o + 1⟩ [.sl q13] fun h16 =>
 Q (.tup []) h16
theorem ac173 {p1 : OPa} {p2 : OPa} {n3 : Int} {l4 : Nat -> Int} {h : Heap} {Q : AHp} (hk : vc173 p1 p2 n3 l4 h Q) : AC Tryz.prog 173 [.ptr p1, .ptr p2, .int .i64 n3, .agg (cel .u8 64 l4)] h Q :=
 zL (H := zH [7] []) (by kernel_rfl) (by kernel_rfl) hk
def vc206 (n1 : Int) (n2 : Int) (h : Heap) (Q : AHp) : Prop :=
 vif (decide (n1 ≥ 0))
 (vif (decide (n1 < 65536))
 (vif (decide (n2 ≥ 0))
 (Q (.bool (decide (n2 < 65536))) h)
 (Q (.bool false) h))
 (Q (.bool false) h))
 (Q (.bool false) h)
theorem ac206 {n1 : Int} {n2 : Int} {h : Heap} {Q : AHp} (hk : vc206 n1 n2 h Q) : AC Tryz.prog 206 [.agg [.int .i64 n1, .int .i64 n2]] h Q :=
 zL (H := zH [1] []) (by kernel_rfl) (by kernel_rfl) hk
def vc217 (n1 : Int) (n2 : Int) (h : Heap) (Q : AHp) : Prop :=
 vif (decide (n1 < 0))
 (Q (.tup [.sl none, .bool false]) h)
 (vif (decide (n2 < 1))
 (Q (.tup [.sl none, .bool false]) h)
 (vif (decide (n2 > 8))
 (Q (.tup [.sl none, .bool false]) h)
 (zIR [.int .u8 0] 1 n2 n2 h fun q3 h4 =>
 ∃ (I7 : LHp) (m8 : LHn), I7 [.int .i64 n1, .int .i64 (zE .i64 (n2 - 1))] h4 /\
 ∀ n5 n6 : Int, ∀ h9 : Heap, I7 [.int .i64 n5, .int .i64 n6] h9 ->
 vif (decide (n6 ≥ 0))
 (vIdx q3 n6 1 fun p10 =>
 zI h9 p10 [.int .u8 (zE .u8 (Int.tmod n5 256))] fun h11 =>
 (True) /\ I7 [.int .i64 (zE .i64 (Int.tdiv n5 256)), .int .i64 (zE .i64 (n6 - 1))] h11 /\ m8 [.int .i64 (zE .i64 (Int.tdiv n5 256)), .int .i64 (zE .i64 (n6 - 1))] h11 < m8 [.int .i64 n5, .int .i64 n6] h9)
 (Q (.tup [.sl q3, .bool (n5 == 0)]) h9))))
theorem ac217 {n1 : Int} {n2 : Int} {h : Heap} {Q : AHp} (hk : vc217 n1 n2 h Q) : AC Tryz.prog 217 [.int .i64 n1, .int .i64 n2] h Q :=
 zL (H := zH [] [(0, [0, 7], [])]) (by kernel_rfl) (by kernel_rfl) hk
def vc218 (q1 : OSl) (h : Heap) (Q : AHp) : Prop :=
 AC Tryz.prog 265 [.sl q1] h fun v2 h3 => ∃ n4 : Int, v2 = .int .u32 n4 /\
 PNew [] true h3 fun a5 h6 =>
 zC 1 1 (some ⟨a5, 0, 0, 0, 0⟩) q1 h6 fun q7 h8 =>
 ∃ (I11 : LHp) (m12 : LHn), I11 [.sl q7, .int .i64 0] h8 /\
 ∀ q9 : OSl, ∀ n10 : Int, ∀ h13 : Heap, I11 [.sl q9, .int .i64 n10] h13 ->
 vif (decide (n10 < 4))
 (need (decide (0 <= (zE .i64 (8 * n10))))
 (PNew [.int .u8 (zE .u8 (shrK .u32 n4 (zE .i64 (8 * n10))))] true h13 fun a14 h15 =>
 zC 1 1 q9 (some ⟨a14, 0, 1, 1, 0⟩) h15 fun q16 h17 =>
 (True) /\ I11 [.sl q16, .int .i64 (zE .i64 (n10 + 1))] h17 /\ m12 [.sl q16, .int .i64 (zE .i64 (n10 + 1))] h17 < m12 [.sl q9, .int .i64 n10] h13))
 (Q (.sl q9) h13)
theorem ac218 {q1 : OSl} {h : Heap} {Q : AHp} (hk : vc218 q1 h Q) : AC Tryz.prog 218 [.sl q1] h Q :=
 zL (H := zH [] [(0, [4, 5], [])]) (by kernel_rfl) (by kernel_rfl) hk
def vc223 (q1 : OSl) (n2 : Int) (h : Heap) (Q : AHp) : Prop :=
 AC Tryz.prog 266 [.sl q1] h fun v3 h4 => ∃ n5 : Int, ∃ b6 : Bool, v3 = .tup [.int .i64 n5, .bool b6] /\
 vif (!b6)
 (Q (.tup [.sl none, .int .i64 60]) h4)
 (vif (n5 != n2)
 (Q (.tup [.sl none, .int .i64 60]) h4)
 (vIdx q1 8 1 fun p7 =>
 ∃ n8 : Int, zA h4 p7 1 = some [.int .u8 n8] /\
 vif (decide ((zE .i64 n8) > 43))
 (Q (.tup [.sl none, .int .i64 20]) h4)
 (yC 1 q1 9 (some (zE .i64 (9 + (zE .i64 n8)))) none fun q9 =>
 AC Tryz.prog 169 [.int .i64 n2, .sl q9] h4 fun v10 h11 => ∃ q12 : OSl, ∃ n13 : Int, v10 = .tup [.sl q12, .int .i64 n13] /\
 AC Tryz.prog 94 [.sl q12, .sl q1] h11 fun v14 h15 => ∃ b16 : Bool, v14 = .bool b16 /\
 vif (!b16)
 (Q (.tup [.sl none, .int .i64 20]) h15)
 (AC Tryz.prog 131 [.sl q9] h15 fun v17 h18 => ∃ q19 : OSl, v17 = .sl q19 /\
 Q (.tup [.sl q19, .int .i64 0]) h18))))
theorem ac223 {q1 : OSl} {n2 : Int} {h : Heap} {Q : AHp} (hk : vc223 q1 n2 h Q) : AC Tryz.prog 223 [.sl q1, .int .i64 n2] h Q :=
 zL (H := zH [] []) (by kernel_rfl) (by kernel_rfl) hk
def vc227 (p1 : OPa) (n2 : Int) (h : Heap) (Q : AHp) : Prop :=
 vif (decide (n2 < 1))
 (AC Tryz.prog 230 [.ptr p1] h fun v3 h4 => ∃ n5 : Int, v3 = .int .i64 n5 /\
 Q (.int .i64 n5) h4)
 (vif (decide (n2 > 8))
 (AC Tryz.prog 230 [.ptr p1] h fun v6 h7 => ∃ n8 : Int, v6 = .int .i64 n8 /\
 Q (.int .i64 n8) h7)
 (AC Tryz.prog 268 [.ptr p1, .int .i64 n2] h fun v9 h10 => ∃ q11 : OSl, v9 = .sl q11 /\
 ∃ (I14 : LHp) (m15 : LHn), I14 [.int .u64 0, .int .i64 0] h10 /\
 ∀ n12 n13 : Int, ∀ h16 : Heap, I14 [.int .u64 n12, .int .i64 n13] h16 ->
 vif (decide (n13 < (zJ q11 : Int)))
 (vIdx q11 n13 1 fun p17 =>
 ∃ n18 : Int, zA h16 p17 1 = some [.int .u8 n18] /\
 (True) /\ I14 [.int .u64 (zFY .u64 (shlK .u64 n12 8) (zE .u64 n18)), .int .i64 (zE .i64 (n13 + 1))] h16 /\ m15 [.int .u64 (zFY .u64 (shlK .u64 n12 8) (zE .u64 n18)), .int .i64 (zE .i64 (n13 + 1))] h16 < m15 [.int .u64 n12, .int .i64 n13] h16)
 (AC Tryz.prog 231 [.ptr p1] h16 fun v19 h20 => ∃ b21 : Bool, v19 = .bool b21 /\
 vif b21
 (AC Tryz.prog 230 [.ptr p1] h20 fun v22 h23 => ∃ n24 : Int, v22 = .int .i64 n24 /\
 Q (.int .i64 n24) h23)
 (vif (decide (n12 > 9223372036854775807))
 (AC Tryz.prog 230 [.ptr p1] h20 fun v25 h26 => ∃ n27 : Int, v25 = .int .i64 n27 /\
 Q (.int .i64 n27) h26)
 (Q (.int .i64 (zE .i64 n12)) h20)))))
theorem ac227 {p1 : OPa} {n2 : Int} {h : Heap} {Q : AHp} (hk : vc227 p1 n2 h Q) : AC Tryz.prog 227 [.ptr p1, .int .i64 n2] h Q :=
 zL (H := zH [] [(0, [5, 20], [])]) (by kernel_rfl) (by kernel_rfl) hk
def vc228 (p1 : OPa) (n2 : Int) (b3 : Bool) (h : Heap) (Q : AHp) : Prop :=
 AC Tryz.prog 231 [.ptr p1] h fun v4 h5 => ∃ b6 : Bool, v4 = .bool b6 /\
 vif b6
 (AC Tryz.prog 230 [.ptr p1] h5 fun v7 h8 => ∃ n9 : Int, v7 = .int .i64 n9 /\
 Q (.int .i64 n9) h8)
 (vif (!b3)
 (AC Tryz.prog 230 [.ptr p1] h5 fun v10 h11 => ∃ n12 : Int, v10 = .int .i64 n12 /\
 Q (.int .i64 n12) h11)
 (Q (.int .i64 n2) h5))
theorem ac228 {p1 : OPa} {n2 : Int} {b3 : Bool} {h : Heap} {Q : AHp} (hk : vc228 p1 n2 b3 h Q) : AC Tryz.prog 228 [.ptr p1, .int .i64 n2, .bool b3] h Q :=
 zL (H := zH [] []) (by kernel_rfl) (by kernel_rfl) hk
def vc229 (n1 : Int) (h : Heap) (Q : AHp) : Prop :=
 vif (decide (n1 < 0))
 (Q (.int .i64 0) h)
 (vif (decide (n1 < 240))
 (Q (.int .i64 1) h)
 (vif (decide (n1 < 2288))
 (Q (.int .i64 2) h)
 (AC Tryz.prog 269 [.int .i64 n1] h fun v2 h3 => ∃ n4 : Int, v2 = .int .i64 n4 /\
 Q (.int .i64 (zE .i64 (1 + n4))) h3)))
theorem ac229 {n1 : Int} {h : Heap} {Q : AHp} (hk : vc229 n1 h Q) : AC Tryz.prog 229 [.int .i64 n1] h Q :=
 zL (H := zH [] []) (by kernel_rfl) (by kernel_rfl) hk
def vc230 (p1 : OPa) (h : Heap) (Q : AHp) : Prop :=
 vif (!(p1.isNone))
 (vPtr p1 fun p2 =>
 zI h ⟨p2.b, p2.o + 1⟩ [.bool true] fun h3 =>
 Q (.int .i64 0) h3)
 (Q (.int .i64 0) h)
theorem ac230 {p1 : OPa} {h : Heap} {Q : AHp} (hk : vc230 p1 h Q) : AC Tryz.prog 230 [.ptr p1] h Q :=
 zL (H := zH [] []) (by kernel_rfl) (by kernel_rfl) hk
def vc231 (p1 : OPa) (h : Heap) (Q : AHp) : Prop :=
 vif (p1.isNone)
 (Q (.bool true) h)
 (vPtr p1 fun p2 =>
 ∃ b3 : Bool, zA h ⟨p2.b, p2.o + 1⟩ 1 = some [.bool b3] /\
 Q (.bool b3) h)
theorem ac231 {p1 : OPa} {h : Heap} {Q : AHp} (hk : vc231 p1 h Q) : AC Tryz.prog 231 [.ptr p1] h Q :=
 zL (H := zH [] []) (by kernel_rfl) (by kernel_rfl) hk
def vc236 (n1 : Int) (h : Heap) (Q : AHp) : Prop :=
 vif (decide (n1 < 0))
 (Q (.tup [.sl none, .int .i64 1]) h)
 (vif (decide (n1 < 240))
 (PNew [.int .u8 (zE .u8 n1)] true h fun a2 h3 =>
 Q (.tup [.sl (some ⟨a2, 0, 1, 1, 0⟩), .int .i64 0]) h3)
 (vif (decide (n1 < 2288))
 (PNew [.int .u8 (zE .u8 (zE .i64 (240 + (shrK .i64 (zE .i64 (n1 - 240)) 8)))), .int .u8 (zE .u8 (zE .i64 (n1 - 240)))] true h fun a4 h5 =>
 Q (.tup [.sl (some ⟨a4, 0, 2, 2, 0⟩), .int .i64 0]) h5)
 (AC Tryz.prog 269 [.int .i64 n1] h fun v6 h7 => ∃ n8 : Int, v6 = .int .i64 n8 /\
 PNew [.int .u8 (zE .u8 (zE .i64 (246 + n8)))] true h7 fun a9 h10 =>
 AC Tryz.prog 274 [.int .i64 n1, .int .i64 n8] h10 fun v11 h12 => ∃ q13 : OSl, v11 = .sl q13 /\
 zC 1 1 (some ⟨a9, 0, 1, 1, 0⟩) q13 h12 fun q14 h15 =>
 Q (.tup [.sl q14, .int .i64 0]) h15)))
theorem ac236 {n1 : Int} {h : Heap} {Q : AHp} (hk : vc236 n1 h Q) : AC Tryz.prog 236 [.int .i64 n1] h Q :=
 zL (H := zH [] []) (by kernel_rfl) (by kernel_rfl) hk
def vc237 (n1 : Int) (h : Heap) (Q : AHp) : Prop :=
 vif (decide (n1 ≥ 1))
 (Q (.bool (decide (n1 <= 4611686018427387903))) h)
 (Q (.bool false) h)
theorem ac237 {n1 : Int} {h : Heap} {Q : AHp} (hk : vc237 n1 h Q) : AC Tryz.prog 237 [.int .i64 n1] h Q :=
 zL (H := zH [] []) (by kernel_rfl) (by kernel_rfl) hk
def vc238 (n1 : Int) (n2 : Int) (h : Heap) (Q : AHp) : Prop :=
 vif (decide (n1 < 0))
 (Q (.tup [.sl none, .int .i64 1]) h)
 (vif (decide (n2 < 1))
 (Q (.tup [.sl none, .int .i64 1]) h)
 (vif (decide (n2 > 8))
 (Q (.tup [.sl none, .int .i64 1]) h)
 (AC Tryz.prog 269 [.int .i64 n1] h fun v3 h4 => ∃ n5 : Int, v3 = .int .i64 n5 /\
 vif (decide (n5 > n2))
 (Q (.tup [.sl none, .int .i64 1]) h4)
 (AC Tryz.prog 274 [.int .i64 n1, .int .i64 n2] h4 fun v6 h7 => ∃ q8 : OSl, v6 = .sl q8 /\
 Q (.tup [.sl q8, .int .i64 0]) h7))))
theorem ac238 {n1 : Int} {n2 : Int} {h : Heap} {Q : AHp} (hk : vc238 n1 n2 h Q) : AC Tryz.prog 238 [.int .i64 n1, .int .i64 n2] h Q :=
 zL (H := zH [] []) (by kernel_rfl) (by kernel_rfl) hk
def vc239 (q1 : OSl) (h : Heap) (Q : AHp) : Prop :=
 ∃ (I4 : LHp) (m5 : LHn), I4 [.int .i64 0, .int .i64 0] h /\
 ∀ n2 n3 : Int, ∀ h6 : Heap, I4 [.int .i64 n2, .int .i64 n3] h6 ->
 vif (decide (n3 < (zJ q1 : Int)))
 (vIdx q1 n3 1 fun p7 =>
 ∃ q8 : OSl, zA h6 p7 1 = some [.sl q8] /\
 vif (decide ((zE .i64 (n2 + (zJ q8 : Int))) < 0))
 (False)
 ((True) /\ I4 [.int .i64 (zE .i64 (n2 + (zJ q8 : Int))), .int .i64 (zE .i64 (n3 + 1))] h6 /\ m5 [.int .i64 (zE .i64 (n2 + (zJ q8 : Int))), .int .i64 (zE .i64 (n3 + 1))] h6 < m5 [.int .i64 n2, .int .i64 n3] h6))
 (AC Tryz.prog 275 [.sl none, .int .i64 n2] h6 fun v9 h10 => ∃ q11 : OSl, v9 = .sl q11 /\
 ∃ (I14 : LHp) (m15 : LHn), I14 [.sl q11, .int .i64 0] h10 /\
 ∀ q12 : OSl, ∀ n13 : Int, ∀ h16 : Heap, I14 [.sl q12, .int .i64 n13] h16 ->
 vif (decide (n13 < (zJ q1 : Int)))
 (vIdx q1 n13 1 fun p17 =>
 ∃ q18 : OSl, zA h16 p17 1 = some [.sl q18] /\
 zC 1 1 q12 q18 h16 fun q19 h20 =>
 (True) /\ I14 [.sl q19, .int .i64 (zE .i64 (n13 + 1))] h20 /\ m15 [.sl q19, .int .i64 (zE .i64 (n13 + 1))] h20 < m15 [.sl q12, .int .i64 n13] h16)
 (Q (.sl q12) h16))
theorem ac239 {q1 : OSl} {h : Heap} {Q : AHp} (hk : vc239 q1 h Q) : AC Tryz.prog 239 [.sl q1] h Q :=
 zL (H := zH [] [(0, [3, 11], []), (2, [6, 27], [])]) (by kernel_rfl) (by kernel_rfl) hk
def vc240 (q1 : OSl) (h : Heap) (Q : AHp) : Prop :=
 AC Tryz.prog 277 [.sl q1] h fun v2 h3 => ∃ n4 : Int, v2 = .int .u32 n4 /\
 AC Tryz.prog 276 [.int .u32 n4] h3 fun v5 h6 => ∃ q7 : OSl, v5 = .sl q7 /\
 PNew [.sl q1, .sl q7] true h6 fun a8 h9 =>
 AC Tryz.prog 239 [.sl (some ⟨a8, 0, 2, 2, 0⟩)] h9 fun v10 h11 => ∃ q12 : OSl, v10 = .sl q12 /\
 Q (.sl q12) h11
theorem ac240 {q1 : OSl} {h : Heap} {Q : AHp} (hk : vc240 q1 h Q) : AC Tryz.prog 240 [.sl q1] h Q :=
 zL (H := zH [] []) (by kernel_rfl) (by kernel_rfl) hk
def vc263 (n1 : Int) (n2 : Int) (h : Heap) (Q : AHp) : Prop :=
 AC Tryz.prog 141 [.int .i64 n1] h fun v3 h4 => ∃ q5 : OSl, v3 = .sl q5 /\
 (LV.val (.int .i64 n2) = LV.val (.int .i64 n2)) /\
 AC Tryz.prog 141 [.int .i64 n2] h4 fun v6 h7 => ∃ q8 : OSl, v6 = .sl q8 /\
 zC 1 1 q5 q8 h7 fun q9 h10 =>
 Q (.sl q9) h10
theorem ac263 {n1 : Int} {n2 : Int} {h : Heap} {Q : AHp} (hk : vc263 n1 n2 h Q) : AC Tryz.prog 263 [.agg [.int .i64 n1, .int .i64 n2]] h Q :=
 zL (H := zH [1] []) (by kernel_rfl) (by kernel_rfl) hk
def vc265 (q1 : OSl) (h : Heap) (Q : AHp) : Prop :=
 AC Tryz.prog 294 [.int .u32 0, .sl q1] h fun v2 h3 => ∃ n4 : Int, v2 = .int .u32 n4 /\
 Q (.int .u32 n4) h3
theorem ac265 {q1 : OSl} {h : Heap} {Q : AHp} (hk : vc265 q1 h Q) : AC Tryz.prog 265 [.sl q1] h Q :=
 zL (H := zH [] []) (by kernel_rfl) (by kernel_rfl) hk
def vc266 (q1 : OSl) (h : Heap) (Q : AHp) : Prop :=
 vif ((zJ q1 : Int) != 64)
 (Q (.tup [.int .i64 0, .bool false]) h)
 (yC 1 q1 0 (some 8) none fun q2 =>
 yC 1 q1 56 none none fun q3 =>
 AC Tryz.prog 94 [.sl q2, .sl q3] h fun v4 h5 => ∃ b6 : Bool, v4 = .bool b6 /\
 vif (!b6)
 (Q (.tup [.int .i64 0, .bool false]) h5)
 (yC 1 q1 0 (some 8) none fun q7 =>
 AC Tryz.prog 158 [.sl q7] h5 fun v8 h9 => ∃ p10 : OPa, v8 = .ptr p10 /\
 AC Tryz.prog 227 [.ptr p10, .int .i64 8] h9 fun v11 h12 => ∃ n13 : Int, v11 = .int .i64 n13 /\
 AC Tryz.prog 237 [.int .i64 n13] h12 fun v14 h15 => ∃ b16 : Bool, v14 = .bool b16 /\
 vif (!b16)
 (Q (.tup [.int .i64 0, .bool false]) h15)
 (Q (.tup [.int .i64 n13, .bool true]) h15)))
theorem ac266 {q1 : OSl} {h : Heap} {Q : AHp} (hk : vc266 q1 h Q) : AC Tryz.prog 266 [.sl q1] h Q :=
 zL (H := zH [] []) (by kernel_rfl) (by kernel_rfl) hk
def vc268 (p1 : OPa) (n2 : Int) (h : Heap) (Q : AHp) : Prop :=
 AC Tryz.prog 231 [.ptr p1] h fun v3 h4 => ∃ b5 : Bool, v3 = .bool b5 /\
 vif b5
 (AC Tryz.prog 230 [.ptr p1] h4 fun v6 h7 => ∃ n8 : Int, v6 = .int .i64 n8 /\
 Q (.sl none) h7)
 (vif (decide (n2 < 0))
 (AC Tryz.prog 230 [.ptr p1] h4 fun v9 h10 => ∃ n11 : Int, v9 = .int .i64 n11 /\
 Q (.sl none) h10)
 (vPtr p1 fun p12 =>
 ∃ q13 : OSl, zA h4 ⟨p12.b, p12.o + 0⟩ 1 = some [.sl q13] /\
 vif (decide (n2 > (zJ q13 : Int)))
 (AC Tryz.prog 230 [.ptr p1] h4 fun v14 h15 => ∃ n16 : Int, v14 = .int .i64 n16 /\
 Q (.sl none) h15)
 (vPtr p1 fun p17 =>
 ∃ q18 : OSl, zA h4 ⟨p17.b, p17.o + 0⟩ 1 = some [.sl q18] /\
 yC 1 q18 0 (some n2) none fun q19 =>
 AC Tryz.prog 131 [.sl q19] h4 fun v20 h21 => ∃ q22 : OSl, v20 = .sl q22 /\
 vPtr p1 fun p23 =>
 ∃ q24 : OSl, zA h21 ⟨p23.b, p23.o + 0⟩ 1 = some [.sl q24] /\
 yC 1 q24 n2 none none fun q25 =>
 vPtr p1 fun p26 =>
 zI h21 ⟨p26.b, p26.o + 0⟩ [.sl q25] fun h27 =>
 Q (.sl q22) h27)))
theorem ac268 {p1 : OPa} {n2 : Int} {h : Heap} {Q : AHp} (hk : vc268 p1 n2 h Q) : AC Tryz.prog 268 [.ptr p1, .int .i64 n2] h Q :=
 zL (H := zH [] []) (by kernel_rfl) (by kernel_rfl) hk
def vc269 (n1 : Int) (h : Heap) (Q : AHp) : Prop :=
 ∃ (I4 : LHp) (m5 : LHn), I4 [.int .i64 (shrK .i64 n1 8), .int .i64 1] h /\
 ∀ n2 n3 : Int, ∀ h6 : Heap, I4 [.int .i64 n2, .int .i64 n3] h6 ->
 vif (decide (n2 > 0))
 ((True) /\ I4 [.int .i64 (shrK .i64 n2 8), .int .i64 (zE .i64 (n3 + 1))] h6 /\ m5 [.int .i64 (shrK .i64 n2 8), .int .i64 (zE .i64 (n3 + 1))] h6 < m5 [.int .i64 n2, .int .i64 n3] h6)
 (Q (.int .i64 n3) h6)
theorem ac269 {n1 : Int} {h : Heap} {Q : AHp} (hk : vc269 n1 h Q) : AC Tryz.prog 269 [.int .i64 n1] h Q :=
 zL (H := zH [] [(0, [0, 3], [])]) (by kernel_rfl) (by kernel_rfl) hk
def vc274 (n1 : Int) (n2 : Int) (h : Heap) (Q : AHp) : Prop :=
 zIR [.int .u8 0] 1 n2 n2 h fun q3 h4 =>
 ∃ (I6 : LHp) (m7 : LHn), I6 [.int .i64 0] h4 /\
 ∀ n5 : Int, ∀ h8 : Heap, I6 [.int .i64 n5] h8 ->
 vif (decide (n5 < (zJ q3 : Int)))
 (need (decide (0 <= (zE .i64 (8 * (zE .i64 ((zE .i64 (n2 - 1)) - n5))))))
 (vIdx q3 n5 1 fun p9 =>
 zI h8 p9 [.int .u8 (zE .u8 (shrK .i64 n1 (zE .i64 (8 * (zE .i64 ((zE .i64 (n2 - 1)) - n5))))))] fun h10 =>
 (True) /\ I6 [.int .i64 (zE .i64 (n5 + 1))] h10 /\ m7 [.int .i64 (zE .i64 (n5 + 1))] h10 < m7 [.int .i64 n5] h8))
 (Q (.sl q3) h8)
theorem ac274 {n1 : Int} {n2 : Int} {h : Heap} {Q : AHp} (hk : vc274 n1 n2 h Q) : AC Tryz.prog 274 [.int .i64 n1, .int .i64 n2] h Q :=
 zL (H := zH [] [(0, [11], [])]) (by kernel_rfl) (by kernel_rfl) hk
def vc275 (n1 : Int) (h : Heap) (Q : AHp) : Prop :=
 vif (decide (n1 < 0))
 (False)
 (vif (decide ((zE .i64 (n1 - 0)) > 0))
 (yC 1 none 0 (some 0) none fun q2 =>
 0 <= (zE .i64 (n1 - 0)) /\ (zE .i64 (n1 - 0)) <= maxI /\ (zE .i64 (n1 - 0)) * 1 <= 140737488355328 /\ vD 1 1 q2 (zE .i64 (n1 - 0)).toNat (List.replicate (zE .i64 (n1 - 0)).toNat [.int .u8 0]).flatten h fun q3 h4 =>
 yC 1 q3 0 (some 0) none fun q5 =>
 Q (.sl q5) h4)
 (Q (.sl none) h))
theorem ac275 {n1 : Int} {h : Heap} {Q : AHp} (hk : vc275 n1 h Q) : AC Tryz.prog 275 [.sl none, .int .i64 n1] h Q :=
 zL (H := zH [] []) (by kernel_rfl) (by kernel_rfl) hk
def vc276 (n1 : Int) (h : Heap) (Q : AHp) : Prop :=
 PNew [.int .u8 (zE .u8 n1), .int .u8 (zE .u8 (shrK .u32 n1 8)), .int .u8 (zE .u8 (shrK .u32 n1 16)), .int .u8 (zE .u8 (shrK .u32 n1 24))] true h fun a2 h3 =>
 Q (.sl (some ⟨a2, 0, 4, 4, 0⟩)) h3
theorem ac276 {n1 : Int} {h : Heap} {Q : AHp} (hk : vc276 n1 h Q) : AC Tryz.prog 276 [.int .u32 n1] h Q :=
 zL (H := zH [] []) (by kernel_rfl) (by kernel_rfl) hk
def vc277 (q1 : OSl) (h : Heap) (Q : AHp) : Prop :=
 AC Tryz.prog 296 [.int .u32 0, .sl q1] h fun v2 h3 => ∃ n4 : Int, v2 = .int .u32 n4 /\
 Q (.int .u32 n4) h3
theorem ac277 {q1 : OSl} {h : Heap} {Q : AHp} (hk : vc277 q1 h Q) : AC Tryz.prog 277 [.sl q1] h Q :=
 zL (H := zH [] []) (by kernel_rfl) (by kernel_rfl) hk
def vc294 (n1 : Int) (q2 : OSl) (h : Heap) (Q : AHp) : Prop :=
 ∃ (I5 : LHp) (m6 : LHn), I5 [.int .u32 (yR .u32 4294967295 n1), .int .i64 0] h /\
 ∀ n3 n4 : Int, ∀ h7 : Heap, I5 [.int .u32 n3, .int .i64 n4] h7 ->
 vif (decide (n4 < (zJ q2 : Int)))
 (vIdx q2 n4 1 fun p8 =>
 ∃ n9 : Int, zA h7 p8 1 = some [.int .u8 n9] /\
 ∃ (I12 : LHp) (m13 : LHn), I12 [.int .u32 (yR .u32 n3 (zE .u32 n9)), .int .i64 0] h7 /\
 ∀ n10 n11 : Int, ∀ h14 : Heap, I12 [.int .u32 n10, .int .i64 n11] h14 ->
 vif (decide (n11 < 8))
 (vif ((kE .u32 n10 1) == 1)
 ((True) /\ I12 [.int .u32 (yR .u32 (shrK .u32 n10 1) 3988292384), .int .i64 (zE .i64 (n11 + 1))] h14 /\ m13 [.int .u32 (yR .u32 (shrK .u32 n10 1) 3988292384), .int .i64 (zE .i64 (n11 + 1))] h14 < m13 [.int .u32 n10, .int .i64 n11] h14)
 ((True) /\ I12 [.int .u32 (shrK .u32 n10 1), .int .i64 (zE .i64 (n11 + 1))] h14 /\ m13 [.int .u32 (shrK .u32 n10 1), .int .i64 (zE .i64 (n11 + 1))] h14 < m13 [.int .u32 n10, .int .i64 n11] h14))
 ((True) /\ I5 [.int .u32 n10, .int .i64 (zE .i64 (n4 + 1))] h14 /\ m6 [.int .u32 n10, .int .i64 (zE .i64 (n4 + 1))] h14 < m6 [.int .u32 n3, .int .i64 n4] h7))
 (Q (.int .u32 (yR .u32 4294967295 n3)) h7)
theorem ac294 {n1 : Int} {q2 : OSl} {h : Heap} {Q : AHp} (hk : vc294 n1 q2 h Q) : AC Tryz.prog 294 [.int .u32 n1, .sl q2] h Q :=
 zL (H := zH [] [(0, [5, 6], []), (2, [5, 7], [])]) (by kernel_rfl) (by kernel_rfl) hk
def vc296 (n1 : Int) (q2 : OSl) (h : Heap) (Q : AHp) : Prop :=
 ∃ (I5 : LHp) (m6 : LHn), I5 [.int .u32 (yR .u32 4294967295 n1), .int .i64 0] h /\
 ∀ n3 n4 : Int, ∀ h7 : Heap, I5 [.int .u32 n3, .int .i64 n4] h7 ->
 vif (decide (n4 < (zJ q2 : Int)))
 (vIdx q2 n4 1 fun p8 =>
 ∃ n9 : Int, zA h7 p8 1 = some [.int .u8 n9] /\
 need (decide (0 <= (kE .u32 (yR .u32 n3 (zE .u32 n9)) 15)) && decide ((kE .u32 (yR .u32 n3 (zE .u32 n9)) 15) < 16))
 (∃ a10 j11 : Nat, h7[a10]? = some (.gm 0 j11) /\
 ∃ n12 : Int, zA h7 ⟨j11, (kE .u32 (yR .u32 n3 (zE .u32 n9)) 15).toNat * 1⟩ 1 = some [.int .u32 n12] /\
 need (decide (0 <= (kE .u32 (yR .u32 n12 (shrK .u32 (yR .u32 n3 (zE .u32 n9)) 4)) 15)) && decide ((kE .u32 (yR .u32 n12 (shrK .u32 (yR .u32 n3 (zE .u32 n9)) 4)) 15) < 16))
 (∃ a13 j14 : Nat, h7[a13]? = some (.gm 0 j14) /\
 ∃ n15 : Int, zA h7 ⟨j14, (kE .u32 (yR .u32 n12 (shrK .u32 (yR .u32 n3 (zE .u32 n9)) 4)) 15).toNat * 1⟩ 1 = some [.int .u32 n15] /\
 (True) /\ I5 [.int .u32 (yR .u32 n15 (shrK .u32 (yR .u32 n12 (shrK .u32 (yR .u32 n3 (zE .u32 n9)) 4)) 4)), .int .i64 (zE .i64 (n4 + 1))] h7 /\ m6 [.int .u32 (yR .u32 n15 (shrK .u32 (yR .u32 n12 (shrK .u32 (yR .u32 n3 (zE .u32 n9)) 4)) 4)), .int .i64 (zE .i64 (n4 + 1))] h7 < m6 [.int .u32 n3, .int .i64 n4] h7)))
 (Q (.int .u32 (yR .u32 4294967295 n3)) h7)
theorem ac296 {n1 : Int} {q2 : OSl} {h : Heap} {Q : AHp} (hk : vc296 n1 q2 h Q) : AC Tryz.prog 296 [.int .u32 n1, .sl q2] h Q :=
 zL (H := zH [] [(0, [5, 12], [])]) (by kernel_rfl) (by kernel_rfl) hk
def vc29 (p1 : OPa) (n2 : Int) (h : Heap) (Q : AHp) : Prop :=
 AC Tryz.prog 104 [.ptr p1] h fun v3 h4 => ∃ b5 : Bool, v3 = .bool b5 /\
 vif (!b5)
 (Q (.int .i64 6) h4)
 (vif (decide (n2 < 0))
 (Q (.int .i64 1) h4)
 (vPtr p1 fun p6 =>
 zI h4 ⟨p6.b, p6.o + 3⟩ [.int .i64 n2] fun h7 =>
 Q (.int .i64 0) h7))
theorem ac29 {p1 : OPa} {n2 : Int} {h : Heap} {Q : AHp} (hk : vc29 p1 n2 h Q) : AC Tryz.prog 29 [.ptr p1, .int .i64 n2] h Q :=
 zL (H := zH [] []) (by kernel_rfl) (by kernel_rfl) hk
def vc34 (p1 : OPa) (q2 : OSl) (h : Heap) (Q : AHp) : Prop :=
 AC Tryz.prog 104 [.ptr p1] h fun v3 h4 => ∃ b5 : Bool, v3 = .bool b5 /\
 vif (!b5)
 (Q (.tup []) h4)
 (vPtr p1 fun p6 =>
 ∃ q7 : OSl, zA h4 ⟨p6.b, p6.o + 1⟩ 1 = some [.sl q7] /\
 ∃ (I9 : LHp) (m10 : LHn), I9 [.int .i64 0] h4 /\
 ∀ n8 : Int, ∀ h11 : Heap, I9 [.int .i64 n8] h11 ->
 vif (decide (n8 < (zJ q7 : Int)))
 (vIdx q7 n8 66 fun p12 =>
 ∃ p13 : OPa, ∃ n14 : Int, exC .u8 64 fun l15 =>
 zA h11 p12 66 = some ([.ptr p13, .int .i64 n14] ++ (l15)) /\
 vif (decide (n8 < (zJ q2 : Int)))
 (vIdx q2 n8 1 fun p16 =>
 ∃ n17 : Int, zA h11 p16 1 = some [.int .i64 n17] /\
 AC Tryz.prog 113 [.agg ([.ptr p13, .int .i64 n14] ++ (l15)), .int .i64 n17] h11 fun v18 h19 => v18 = .tup [] /\
 (True) /\ I9 [.int .i64 (zE .i64 (n8 + 1))] h19 /\ m10 [.int .i64 (zE .i64 (n8 + 1))] h19 < m10 [.int .i64 n8] h11)
 ((True) /\ I9 [.int .i64 (zE .i64 (n8 + 1))] h11 /\ m10 [.int .i64 (zE .i64 (n8 + 1))] h11 < m10 [.int .i64 n8] h11))
 (vPtr p1 fun p20 =>
 zI h11 ⟨p20.b, p20.o + 1⟩ [.sl none] fun h21 =>
 vPtr p1 fun p22 =>
 zI h21 ⟨p22.b, p22.o + 3⟩ [.int .i64 (-1)] fun h23 =>
 vPtr p1 fun p24 =>
 zI h23 ⟨p24.b, p24.o + 4⟩ [.bool false] fun h25 =>
 vPtr p1 fun p26 =>
 ∃ m27 : Option Nat, zA h25 ⟨p26.b, p26.o + 0⟩ 1 = some [.map m27] /\
 zFA m27 h25 fun a28 h29 =>
 ∃ (I30 : LHp) (m31 : LHn), I30 [] h29 /\
 ∀ h32 : Heap, I30 [] h32 ->
 zK4 a28 h32 (fun h33 =>
 Q (.tup []) h33) fun v34 v35 h36 =>
 zBS a28 h36 fun v37 =>
 ∃ s38 : List UInt8, ∃ p39 : OPa, v37 = .tup [.str s38, .ptr p39] /\
 vPtr p39 fun p40 =>
 ∃ q41 : OSl, zA h36 ⟨p40.b, p40.o + 2⟩ 1 = some [.sl q41] /\
 AC Tryz.prog 114 [.sl q41] h36 fun v42 h43 => ∃ q44 : OSl, v42 = .sl q44 /\
 vPtr p39 fun p45 =>
 zI h43 ⟨p45.b, p45.o + 1⟩ [.sl q44] fun h46 =>
 (True) /\ I30 [] h46 /\ m31 [] h46 < m31 [] h32))
theorem ac34 {p1 : OPa} {q2 : OSl} {h : Heap} {Q : AHp} (hk : vc34 p1 q2 h Q) : AC Tryz.prog 34 [.ptr p1, .sl q2] h Q :=
 zL (H := zH [5, 148167] [(0, [16], []), (2, [], [])]) (by kernel_rfl) (by kernel_rfl) hk
def vc42 (p1 : OPa) (h : Heap) (Q : AHp) : Prop :=
 AC Tryz.prog 104 [.ptr p1] h fun v2 h3 => ∃ b4 : Bool, v2 = .bool b4 /\
 vif (!b4)
 (Q (.sl none) h3)
 (vPtr p1 fun p5 =>
 ∃ m6 : Option Nat, zA h3 ⟨p5.b, p5.o + 0⟩ 1 = some [.map m6] /\
 AC Tryz.prog 124 [.map m6] h3 fun v7 h8 => ∃ v9 : AV, v9.one = true /\ v7 = v9 /\
 AC Tryz.prog 122 [v9] h8 fun v10 h11 => ∃ q12 : OSl, v10 = .sl q12 /\
 ∃ (I15 : LHp) (m16 : LHn), I15 [.sl none, .int .i64 0] h11 /\
 ∀ q13 : OSl, ∀ n14 : Int, ∀ h17 : Heap, I15 [.sl q13, .int .i64 n14] h17 ->
 vif (decide (n14 < (zJ q12 : Int)))
 (vIdx q12 n14 1 fun p18 =>
 ∃ s19 : List UInt8, zA h17 p18 1 = some [.str s19] /\
 vPtr p1 fun p20 =>
 ∃ m21 : Option Nat, zA h17 ⟨p20.b, p20.o + 0⟩ 1 = some [.map m21] /\
 xP Tryz.prog 9 183 m21 (.str s19) false h17 fun v22 =>
 ∃ p23 : OPa, v22 = .ptr p23 /\
 vPtr p23 fun p24 =>
 ∃ q25 : OSl, zA h17 ⟨p24.b, p24.o + 1⟩ 1 = some [.sl q25] /\
 PNew [.str s19, .int .i64 (zJ q25 : Int)] true h17 fun a26 h27 =>
 zC 2 24 q13 (some ⟨a26, 0, 1, 1, 0⟩) h27 fun q28 h29 =>
 (True) /\ I15 [.sl q28, .int .i64 (zE .i64 (n14 + 1))] h29 /\ m16 [.sl q28, .int .i64 (zE .i64 (n14 + 1))] h29 < m16 [.sl q13, .int .i64 n14] h17)
 (Q (.sl q13) h17))
theorem ac42 {p1 : OPa} {h : Heap} {Q : AHp} (hk : vc42 p1 h Q) : AC Tryz.prog 42 [.ptr p1] h Q :=
 zL (H := zH [] [(0, [3, 16], [])]) (by kernel_rfl) (by kernel_rfl) hk
def vc98 (p1 : OPa) (h : Heap) (Q : AHp) : Prop :=
 AC Tryz.prog 104 [.ptr p1] h fun v2 h3 => ∃ b4 : Bool, v2 = .bool b4 /\
 vif (!b4)
 (Q (.bool true) h3)
 (vPtr p1 fun p5 =>
 ∃ b6 : Bool, zA h3 ⟨p5.b, p5.o + 4⟩ 1 = some [.bool b6] /\
 Q (.bool b6) h3)
theorem ac98 {p1 : OPa} {h : Heap} {Q : AHp} (hk : vc98 p1 h Q) : AC Tryz.prog 98 [.ptr p1] h Q :=
 zL (H := zH [] []) (by kernel_rfl) (by kernel_rfl) hk
def vc126 (p1 : OPa) (s2 : List UInt8) (h : Heap) (Q : AHp) : Prop :=
 AC Tryz.prog 130 [.ptr p1, .str s2] h fun v3 h4 => ∃ p5 : OPa, ∃ n6 : Int, v3 = .tup [.ptr p5, .int .i64 n6] /\
 vif (n6 != 0)
 (Q (.int .i64 n6) h4)
 (AC Tryz.prog 172 [.ptr p1] h4 fun v7 h8 => ∃ n9 : Int, v7 = .int .i64 n9 /\
 vif (n9 != 0)
 (Q (.int .i64 n9) h8)
 (AC Tryz.prog 174 [.ptr p1, .ptr p5] h8 fun v10 h11 => v10 = .tup [] /\
 vPtr p1 fun p12 =>
 ∃ m13 : Option Nat, zA h11 ⟨p12.b, p12.o + 0⟩ 1 = some [.map m13] /\
 vC Tryz.prog 9 m13 (.str s2) h11 fun h14 =>
 Q (.int .i64 0) h14))
theorem ac126 {p1 : OPa} {s2 : List UInt8} {h : Heap} {Q : AHp} (hk : vc126 p1 s2 h Q) : AC Tryz.prog 126 [.ptr p1, .str s2] h Q :=
 zL (H := zH [] []) (by kernel_rfl) (by kernel_rfl) hk
def vc174 (p1 : OPa) (p2 : OPa) (h : Heap) (Q : AHp) : Prop :=
 PNew [.ptr p2] true h fun a3 h4 =>
 vPtr p1 fun p5 =>
 ∃ q6 : OSl, zA h4 ⟨p5.b, p5.o + 1⟩ 1 = some [.sl q6] /\
 AC Tryz.prog 241 [.sl q6, .func (.func 242) [] [.ptr (some ⟨a3, 0⟩)]] h4 fun v7 h8 => ∃ q9 : OSl, v7 = .sl q9 /\
 vPtr p1 fun p10 =>
 zI h8 ⟨p10.b, p10.o + 1⟩ [.sl q9] fun h11 =>
 Q (.tup []) h11
theorem ac174 {p1 : OPa} {p2 : OPa} {h : Heap} {Q : AHp} (hk : vc174 p1 p2 h Q) : AC Tryz.prog 174 [.ptr p1, .ptr p2] h Q :=
 zL (H := zH [] []) (by kernel_rfl) (by kernel_rfl) hk
def vc182 (p1 : OPa) (s2 : List UInt8) (s3 : List UInt8) (h : Heap) (Q : AHp) : Prop :=
 AC Tryz.prog 104 [.ptr p1] h fun v4 h5 => ∃ b6 : Bool, v4 = .bool b6 /\
 vif b6
 (AC Tryz.prog 170 [.str s3] h5 fun v7 h8 => ∃ b9 : Bool, v7 = .bool b9 /\
 vif (!b9)
 (Q (.int .i64 1) h8)
 (AC Tryz.prog 130 [.ptr p1, .str s2] h8 fun v10 h11 => ∃ p12 : OPa, ∃ n13 : Int, v10 = .tup [.ptr p12, .int .i64 n13] /\
 vif (n13 != 0)
 (Q (.int .i64 n13) h11)
 (AC Tryz.prog 172 [.ptr p1] h11 fun v14 h15 => ∃ n16 : Int, v14 = .int .i64 n16 /\
 vif (n16 != 0)
 (Q (.int .i64 n16) h15)
 (vif (s2 == s3)
 (Q (.int .i64 0) h15)
 (vPtr p1 fun p17 =>
 ∃ m18 : Option Nat, zA h15 ⟨p17.b, p17.o + 0⟩ 1 = some [.map m18] /\
 xP Tryz.prog 9 183 m18 (.str s3) false h15 fun v19 =>
 ∃ p20 : OPa, v19 = .ptr p20 /\
 vif (!(p20.isNone))
 (AC Tryz.prog 174 [.ptr p1, .ptr p20] h15 fun v21 h22 => v21 = .tup [] /\
 vPtr p1 fun p23 =>
 ∃ m24 : Option Nat, zA h22 ⟨p23.b, p23.o + 0⟩ 1 = some [.map m24] /\
 vC Tryz.prog 9 m24 (.str s2) h22 fun h25 =>
 vPtr p12 fun p26 =>
 zI h25 ⟨p26.b, p26.o + 0⟩ [.str s3] fun h27 =>
 vPtr p1 fun p28 =>
 ∃ m29 : Option Nat, zA h27 ⟨p28.b, p28.o + 0⟩ 1 = some [.map m29] /\
 vMap m29 fun a31 => xZ Tryz.prog 9 a31 (.str s3) (.ptr p12) h27 fun h30 =>
 Q (.int .i64 0) h30)
 (vPtr p1 fun p32 =>
 ∃ m33 : Option Nat, zA h15 ⟨p32.b, p32.o + 0⟩ 1 = some [.map m33] /\
 vC Tryz.prog 9 m33 (.str s2) h15 fun h34 =>
 vPtr p12 fun p35 =>
 zI h34 ⟨p35.b, p35.o + 0⟩ [.str s3] fun h36 =>
 vPtr p1 fun p37 =>
 ∃ m38 : Option Nat, zA h36 ⟨p37.b, p37.o + 0⟩ 1 = some [.map m38] /\
 vMap m38 fun a40 => xZ Tryz.prog 9 a40 (.str s3) (.ptr p12) h36 fun h39 =>
 Q (.int .i64 0) h39))))))
 (AC Tryz.prog 130 [.ptr p1, .str s2] h5 fun v41 h42 => ∃ p43 : OPa, ∃ n44 : Int, v41 = .tup [.ptr p43, .int .i64 n44] /\
 vif (n44 != 0)
 (Q (.int .i64 n44) h42)
 (AC Tryz.prog 172 [.ptr p1] h42 fun v45 h46 => ∃ n47 : Int, v45 = .int .i64 n47 /\
 vif (n47 != 0)
 (Q (.int .i64 n47) h46)
 (vif (s2 == s3)
 (Q (.int .i64 0) h46)
 (vPtr p1 fun p48 =>
 ∃ m49 : Option Nat, zA h46 ⟨p48.b, p48.o + 0⟩ 1 = some [.map m49] /\
 xP Tryz.prog 9 183 m49 (.str s3) false h46 fun v50 =>
 ∃ p51 : OPa, v50 = .ptr p51 /\
 vif (!(p51.isNone))
 (AC Tryz.prog 174 [.ptr p1, .ptr p51] h46 fun v52 h53 => v52 = .tup [] /\
 vPtr p1 fun p54 =>
 ∃ m55 : Option Nat, zA h53 ⟨p54.b, p54.o + 0⟩ 1 = some [.map m55] /\
 vC Tryz.prog 9 m55 (.str s2) h53 fun h56 =>
 vPtr p43 fun p57 =>
 zI h56 ⟨p57.b, p57.o + 0⟩ [.str s3] fun h58 =>
 vPtr p1 fun p59 =>
 ∃ m60 : Option Nat, zA h58 ⟨p59.b, p59.o + 0⟩ 1 = some [.map m60] /\
 vMap m60 fun a62 => xZ Tryz.prog 9 a62 (.str s3) (.ptr p43) h58 fun h61 =>
 Q (.int .i64 0) h61)
 (vPtr p1 fun p63 =>
 ∃ m64 : Option Nat, zA h46 ⟨p63.b, p63.o + 0⟩ 1 = some [.map m64] /\
 vC Tryz.prog 9 m64 (.str s2) h46 fun h65 =>
 vPtr p43 fun p66 =>
 zI h65 ⟨p66.b, p66.o + 0⟩ [.str s3] fun h67 =>
 vPtr p1 fun p68 =>
 ∃ m69 : Option Nat, zA h67 ⟨p68.b, p68.o + 0⟩ 1 = some [.map m69] /\
 vMap m69 fun a71 => xZ Tryz.prog 9 a71 (.str s3) (.ptr p43) h67 fun h70 =>
 Q (.int .i64 0) h70)))))
theorem ac182 {p1 : OPa} {s2 : List UInt8} {s3 : List UInt8} {h : Heap} {Q : AHp} (hk : vc182 p1 s2 s3 h Q) : AC Tryz.prog 182 [.ptr p1, .str s2, .str s3] h Q :=
 zL (H := zH [] []) (by kernel_rfl) (by kernel_rfl) hk
def vc241 (q1 : OSl) (p2 : OPa) (h : Heap) (Q : AHp) : Prop :=
 AC Tryz.prog 278 [.sl q1, .func (.func 242) [] [.ptr p2]] h fun v3 h4 => ∃ n5 : Int, v3 = .int .i64 n5 /\
 vif (n5 == (-1))
 (Q (.sl q1) h4)
 (∃ (I8 : LHp) (m9 : LHn), I8 [.int .i64 n5, .int .i64 (zE .i64 (n5 + 1))] h4 /\
 ∀ n6 n7 : Int, ∀ h10 : Heap, I8 [.int .i64 n6, .int .i64 n7] h10 ->
 vif (decide (n7 < (zJ q1 : Int)))
 (vIdx q1 n7 66 fun p11 =>
 ∃ p12 : OPa, ∃ n13 : Int, exC .u8 64 fun l14 =>
 zA h10 p11 66 = some ([.ptr p12, .int .i64 n13] ++ (l14)) /\
 AC Tryz.prog 242 [.agg ([.ptr p12, .int .i64 n13] ++ (l14)), .ptr p2] h10 fun v15 h16 => ∃ b17 : Bool, v15 = .bool b17 /\
 vif (!b17)
 (vIdx q1 n6 66 fun p18 =>
 zI h16 p18 ([.ptr p12, .int .i64 n13] ++ (l14)) fun h19 =>
 (True) /\ I8 [.int .i64 (zE .i64 (n6 + 1)), .int .i64 (zE .i64 (n7 + 1))] h19 /\ m9 [.int .i64 (zE .i64 (n6 + 1)), .int .i64 (zE .i64 (n7 + 1))] h19 < m9 [.int .i64 n6, .int .i64 n7] h10)
 ((True) /\ I8 [.int .i64 n6, .int .i64 (zE .i64 (n7 + 1))] h16 /\ m9 [.int .i64 n6, .int .i64 (zE .i64 (n7 + 1))] h16 < m9 [.int .i64 n6, .int .i64 n7] h10))
 (yC 66 q1 n6 none none fun q20 =>
 zK5 ([.ptr none, .int .i64 0] ++ ((List.replicate 64 (AV.int .u8 0)))) q20 h10 fun h21 =>
 yC 66 q1 0 (some n6) none fun q22 =>
 Q (.sl q22) h21))
theorem ac241 {q1 : OSl} {p2 : OPa} {h : Heap} {Q : AHp} (hk : vc241 q1 p2 h Q) : AC Tryz.prog 241 [.sl q1, .func (.func 242) [] [.ptr p2]] h Q :=
 zL (H := zH [7] [(0, [5, 6], [])]) (by kernel_rfl) (by kernel_rfl) hk
def vc242 (p1 : OPa) (n2 : Int) (l3 : Nat -> Int) (p4 : OPa) (h : Heap) (Q : AHp) : Prop :=
 vPtr p4 fun p5 =>
 ∃ p6 : OPa, zA h p5 1 = some [.ptr p6] /\
 aEq Tryz.prog 183 h (.ptr p1) (.ptr p6) fun b7 =>
 Q (.bool b7) h
theorem ac242 {p1 : OPa} {n2 : Int} {l3 : Nat -> Int} {p4 : OPa} {h : Heap} {Q : AHp} (hk : vc242 p1 n2 l3 p4 h Q) : AC Tryz.prog 242 [.agg ([.ptr p1, .int .i64 n2] ++ ((cel .u8 64 l3))), .ptr p4] h Q :=
 zL (H := zH [2] []) (by kernel_rfl) (by kernel_rfl) hk
def vc278 (q1 : OSl) (p2 : OPa) (h : Heap) (Q : AHp) : Prop :=
 ∃ (I4 : LHp) (m5 : LHn), I4 [.int .i64 0] h /\
 ∀ n3 : Int, ∀ h6 : Heap, I4 [.int .i64 n3] h6 ->
 vif (decide (n3 < (zJ q1 : Int)))
 (vIdx q1 n3 66 fun p7 =>
 ∃ p8 : OPa, ∃ n9 : Int, exC .u8 64 fun l10 =>
 zA h6 p7 66 = some ([.ptr p8, .int .i64 n9] ++ (l10)) /\
 AC Tryz.prog 242 [.agg ([.ptr p8, .int .i64 n9] ++ (l10)), .ptr p2] h6 fun v11 h12 => ∃ b13 : Bool, v11 = .bool b13 /\
 vif b13
 (Q (.int .i64 n3) h12)
 ((True) /\ I4 [.int .i64 (zE .i64 (n3 + 1))] h12 /\ m5 [.int .i64 (zE .i64 (n3 + 1))] h12 < m5 [.int .i64 n3] h6))
 (Q (.int .i64 (-1)) h6)
theorem ac278 {q1 : OSl} {p2 : OPa} {h : Heap} {Q : AHp} (hk : vc278 q1 p2 h Q) : AC Tryz.prog 278 [.sl q1, .func (.func 242) [] [.ptr p2]] h Q :=
 zL (H := zH [] [(0, [8], [])]) (by kernel_rfl) (by kernel_rfl) hk
def vc186 (n1 : Int) (n2 : Int) (h : Heap) (Q : AHp) : Prop :=
 vif (decide (n1 < 0))
 (Q (.int .i64 40) h)
 (vif (decide (n1 ≥ 65536))
 (Q (.int .i64 40) h)
 (vif (decide (n2 < 0))
 (Q (.int .i64 40) h)
 (vif (decide (n2 ≥ 65536))
 (Q (.int .i64 40) h)
 (Q (.int .i64 0) h))))
theorem ac186 {n1 : Int} {n2 : Int} {h : Heap} {Q : AHp} (hk : vc186 n1 n2 h Q) : AC Tryz.prog 186 [.agg [.int .i64 n1, .int .i64 n2]] h Q :=
 zL (H := zH [1] []) (by kernel_rfl) (by kernel_rfl) hk
end Go.Proofs
