import Derived.Test.YtnglhicedhcpbaaGreatDoorLG9
import Derived.Test.YtnglhicedhcpbaaGreatDoorProg
import Derived.KernelRfl
namespace Go.Proofs
open Go.Ab
set_option maxRecDepth 100000
set_option linter.unusedVariables false
def vc110 (p1 : PA) (p2 : PA) (h : Heap) (Q : AHp) : Prop :=
 ∃ p3 : OPa, zA h p1 1 = some [.ptr p3] /\
 ∃ n4 n5 n6 : Int, ∃ q7 : OSl, zA h p2 4 = some [.int .i64 n4, .int .i64 n5, .int .i64 n6, .sl q7] /\
 AC Tryz.prog 111 [.ptr p3, .str [106, 111, 117, 114, 110, 97, 108], .agg [.int .i64 n4, .int .i64 n5, .int .i64 n6, .sl q7]] h fun v8 h9 => ∃ n10 : Int, v8 = .int .i64 n10 /\
 Q (.int .i64 n10) h9
theorem ac110 {p1 : PA} {p2 : PA} {h : Heap} {Q : AHp} (hk : vc110 p1 p2 h Q) : AC Tryz.prog 110 [.ptr (some p1), .ptr (some p2)] h Q :=
 zL (H := zH [] []) (by kernel_rfl) (by kernel_rfl) hk
def vc112 (p1 : PA) (h : Heap) (Q : AHp) : Prop :=
 ∃ p2 : OPa, zA h p1 1 = some [.ptr p2] /\
 vPtr p2 fun p3 =>
 ∃ p4 : OPa, zA h ⟨p3.b, p3.o + 0⟩ 1 = some [.ptr p4] /\
 AC Tryz.prog 97 [.ptr p4, .str [106, 111, 117, 114, 110, 97, 108]] h fun v5 h6 => ∃ n7 : Int, v5 = .int .i64 n7 /\
 Q (.int .i64 n7) h6
theorem ac112 {p1 : PA} {h : Heap} {Q : AHp} (hk : vc112 p1 h Q) : AC Tryz.prog 112 [.ptr (some p1)] h Q :=
 zL (H := zH [] []) (by kernel_rfl) (by kernel_rfl) hk
def vc178 (p1 : PA) (h : Heap) (Q : AHp) : Prop :=
 ∃ p2 : OPa, zA h p1 1 = some [.ptr p2] /\
 vPtr p2 fun p3 =>
 ∃ p4 : OPa, zA h ⟨p3.b, p3.o + 0⟩ 1 = some [.ptr p4] /\
 AC Tryz.prog 95 [.ptr p4, .str [106, 111, 117, 114, 110, 97, 108, 46, 110, 101, 119]] h fun v5 h6 => ∃ n7 : Int, v5 = .int .i64 n7 /\
 Q (.int .i64 n7) h6
theorem ac178 {p1 : PA} {h : Heap} {Q : AHp} (hk : vc178 p1 h Q) : AC Tryz.prog 178 [.ptr (some p1)] h Q :=
 zL (H := zH [] []) (by kernel_rfl) (by kernel_rfl) hk
def vc180 (p1 : PA) (h : Heap) (Q : AHp) : Prop :=
 ∃ p2 : OPa, zA h p1 1 = some [.ptr p2] /\
 vPtr p2 fun p3 =>
 ∃ p4 : OPa, zA h ⟨p3.b, p3.o + 0⟩ 1 = some [.ptr p4] /\
 AC Tryz.prog 97 [.ptr p4, .str [106, 111, 117, 114, 110, 97, 108, 46, 110, 101, 119]] h fun v5 h6 => ∃ n7 : Int, v5 = .int .i64 n7 /\
 Q (.int .i64 n7) h6
theorem ac180 {p1 : PA} {h : Heap} {Q : AHp} (hk : vc180 p1 h Q) : AC Tryz.prog 180 [.ptr (some p1)] h Q :=
 zL (H := zH [] []) (by kernel_rfl) (by kernel_rfl) hk
def vc181 (p1 : PA) (h : Heap) (Q : AHp) : Prop :=
 ∃ p2 : OPa, zA h p1 1 = some [.ptr p2] /\
 vPtr p2 fun p3 =>
 ∃ p4 : OPa, zA h ⟨p3.b, p3.o + 0⟩ 1 = some [.ptr p4] /\
 AC Tryz.prog 182 [.ptr p4, .str [106, 111, 117, 114, 110, 97, 108, 46, 110, 101, 119], .str [106, 111, 117, 114, 110, 97, 108]] h fun v5 h6 => ∃ n7 : Int, v5 = .int .i64 n7 /\
 Q (.int .i64 n7) h6
theorem ac181 {p1 : PA} {h : Heap} {Q : AHp} (hk : vc181 p1 h Q) : AC Tryz.prog 181 [.ptr (some p1)] h Q :=
 zL (H := zH [] []) (by kernel_rfl) (by kernel_rfl) hk
def vc28 (p1 : OPa) (h : Heap) (Q : AHp) : Prop :=
 vif (p1.isNone)
 (Q (.tup [.ptr none, .int .i64 6]) h)
 (AC Tryz.prog 98 [.ptr p1] h fun v2 h3 => ∃ b4 : Bool, v2 = .bool b4 /\
 vif b4
 (Q (.tup [.ptr none, .int .i64 50]) h3)
 (AC Tryz.prog 100 [.ptr p1, .str [106, 111, 117, 114, 110, 97, 108]] h3 fun v5 h6 => ∃ q7 : OSl, v5 = .sl q7 /\
 AC Tryz.prog 99 [.sl q7] h6 fun v8 h9 => ∃ p10 : OPa, v8 = .ptr p10 /\
 PNew [.ptr p1, .ptr p10, .int .i64 0, .bool false] true h9 fun a11 h12 =>
 PNew [.func (.func 102) [.ptr (some ⟨a11, 0⟩)] [], .func (.func 103) [.ptr (some ⟨a11, 0⟩)] []] true h12 fun a13 h14 =>
 AC Tryz.prog 101 [.sl (some ⟨a13, 0, 2, 2, 0⟩)] h14 fun v15 h16 => ∃ n17 : Int, v15 = .int .i64 n17 /\
 vif (n17 != 0)
 (Q (.tup [.ptr none, .int .i64 n17]) h16)
 (Q (.tup [.ptr (some ⟨a11, 0⟩), .int .i64 0]) h16)))
theorem ac28 {p1 : OPa} {h : Heap} {Q : AHp} (hk : vc28 p1 h Q) : AC Tryz.prog 28 [.ptr p1] h Q :=
 zL (H := zH [] []) (by kernel_rfl) (by kernel_rfl) hk
def vc33 (p1 : OPa) (n2 : Int) (n3 : Int) (n4 : Int) (q5 : OSl) (h : Heap) (Q : AHp) : Prop :=
 PNew [.ptr p1] true h fun a6 h7 =>
 PNew [.int .i64 n2, .int .i64 n3, .int .i64 n4, .sl q5] true h7 fun a8 h9 =>
 ∃ p10 : OPa, zA h9 ⟨a6, 0⟩ 1 = some [.ptr p10] /\
 AC Tryz.prog 48 [.ptr p10] h9 fun v11 h12 => ∃ b13 : Bool, v11 = .bool b13 /\
 vif b13
 (Q (.int .i64 6) h12)
 (∃ p14 : OPa, zA h12 ⟨a6, 0⟩ 1 = some [.ptr p14] /\
 vPtr p14 fun p15 =>
 ∃ p16 : OPa, zA h12 ⟨p15.b, p15.o + 1⟩ 1 = some [.ptr p16] /\
 AC Tryz.prog 109 [.ptr p16] h12 fun v17 h18 => ∃ p19 : OPa, v17 = .ptr p19 /\
 ∃ n20 n21 n22 : Int, ∃ q23 : OSl, zA h18 ⟨a8, 0⟩ 4 = some [.int .i64 n20, .int .i64 n21, .int .i64 n22, .sl q23] /\
 AC Tryz.prog 32 [.ptr p19, .agg [.int .i64 n20, .int .i64 n21, .int .i64 n22, .sl q23]] h18 fun v24 h25 => ∃ n26 : Int, v24 = .int .i64 n26 /\
 vif (n26 != 0)
 (Q (.int .i64 n26) h25)
 (PNew [.func (.func 110) [] [.ptr (some ⟨a6, 0⟩), .ptr (some ⟨a8, 0⟩)], .func (.func 112) [] [.ptr (some ⟨a6, 0⟩)]] true h25 fun a27 h28 =>
 AC Tryz.prog 101 [.sl (some ⟨a27, 0, 2, 2, 0⟩)] h28 fun v29 h30 => ∃ n31 : Int, v29 = .int .i64 n31 /\
 vif (n31 != 0)
 (∃ p32 : OPa, zA h30 ⟨a6, 0⟩ 1 = some [.ptr p32] /\
 vPtr p32 fun p33 =>
 zI h30 ⟨p33.b, p33.o + 3⟩ [.bool true] fun h34 =>
 Q (.int .i64 n31) h34)
 (∃ p35 : OPa, zA h30 ⟨a6, 0⟩ 1 = some [.ptr p35] /\
 vPtr p35 fun p36 =>
 zI h30 ⟨p36.b, p36.o + 1⟩ [.ptr p19] fun h37 =>
 Q (.int .i64 0) h37)))
theorem ac33 {p1 : OPa} {n2 : Int} {n3 : Int} {n4 : Int} {q5 : OSl} {h : Heap} {Q : AHp} (hk : vc33 p1 n2 n3 n4 q5 h Q) : AC Tryz.prog 33 [.ptr p1, .agg [.int .i64 n2, .int .i64 n3, .int .i64 n4, .sl q5]] h Q :=
 zL (H := zH [] []) (by kernel_rfl) (by kernel_rfl) hk
def vc35 (p1 : OPa) (h : Heap) (Q : AHp) : Prop :=
 vif (p1.isNone)
 (AC Tryz.prog 30 [] h fun v2 h3 => ∃ p4 : OPa, v2 = .ptr p4 /\
 Q (.ptr p4) h3)
 (vPtr p1 fun p5 =>
 ∃ p6 : OPa, zA h ⟨p5.b, p5.o + 1⟩ 1 = some [.ptr p6] /\
 AC Tryz.prog 109 [.ptr p6] h fun v7 h8 => ∃ p9 : OPa, v7 = .ptr p9 /\
 Q (.ptr p9) h8)
theorem ac35 {p1 : OPa} {h : Heap} {Q : AHp} (hk : vc35 p1 h Q) : AC Tryz.prog 35 [.ptr p1] h Q :=
 zL (H := zH [] []) (by kernel_rfl) (by kernel_rfl) hk
def vc43 (p1 : OPa) (h : Heap) (Q : AHp) : Prop :=
 AC Tryz.prog 48 [.ptr p1] h fun v2 h3 => ∃ b4 : Bool, v2 = .bool b4 /\
 vif b4
 (Q (.tup [.int .i64 0, .int .i64 6]) h3)
 (vPtr p1 fun p5 =>
 ∃ p6 : OPa, zA h3 ⟨p5.b, p5.o + 1⟩ 1 = some [.ptr p6] /\
 AC Tryz.prog 41 [.ptr p6] h3 fun v7 h8 => ∃ q9 : OSl, v7 = .sl q9 /\
 PNew [.str [106, 111, 117, 114, 110, 97, 108]] true h8 fun a10 h11 =>
 zC 1 16 q9 (some ⟨a10, 0, 1, 1, 0⟩) h11 fun q12 h13 =>
 vPtr p1 fun p14 =>
 ∃ p15 : OPa, zA h13 ⟨p14.b, p14.o + 0⟩ 1 = some [.ptr p15] /\
 AC Tryz.prog 42 [.ptr p15] h13 fun v16 h17 => ∃ q18 : OSl, v16 = .sl q18 /\
 ∃ (I21 : LHp) (m22 : LHn), I21 [.int .i64 0, .int .i64 0] h17 /\
 ∀ n19 n20 : Int, ∀ h23 : Heap, I21 [.int .i64 n19, .int .i64 n20] h23 ->
 vif (decide (n20 < (zJ q18 : Int)))
 (vIdx q18 n20 2 fun p24 =>
 ∃ s25 : List UInt8, ∃ n26 : Int, zA h23 p24 2 = some [.str s25, .int .i64 n26] /\
 AC Tryz.prog 125 [.sl q12, .str s25] h23 fun v27 h28 => ∃ b29 : Bool, v27 = .bool b29 /\
 vif b29
 ((True) /\ I21 [.int .i64 n19, .int .i64 (zE .i64 (n20 + 1))] h28 /\ m22 [.int .i64 n19, .int .i64 (zE .i64 (n20 + 1))] h28 < m22 [.int .i64 n19, .int .i64 n20] h23)
 (vPtr p1 fun p30 =>
 ∃ p31 : OPa, zA h28 ⟨p30.b, p30.o + 0⟩ 1 = some [.ptr p31] /\
 AC Tryz.prog 126 [.ptr p31, .str s25] h28 fun v32 h33 => ∃ n34 : Int, v32 = .int .i64 n34 /\
 vif (n34 != 0)
 (Q (.tup [.int .i64 n19, .int .i64 n34]) h33)
 ((True) /\ I21 [.int .i64 (zE .i64 (n19 + 1)), .int .i64 (zE .i64 (n20 + 1))] h33 /\ m22 [.int .i64 (zE .i64 (n19 + 1)), .int .i64 (zE .i64 (n20 + 1))] h33 < m22 [.int .i64 n19, .int .i64 n20] h23)))
 (Q (.tup [.int .i64 n19, .int .i64 0]) h23))
theorem ac43 {p1 : OPa} {h : Heap} {Q : AHp} (hk : vc43 p1 h Q) : AC Tryz.prog 43 [.ptr p1] h Q :=
 zL (H := zH [7] [(0, [5, 24], [])]) (by kernel_rfl) (by kernel_rfl) hk
def vc47 (p1 : OPa) (h : Heap) (Q : AHp) : Prop :=
 vif (p1.isNone)
 (Q (.int .i64 0) h)
 (vPtr p1 fun p2 =>
 ∃ n3 : Int, zA h ⟨p2.b, p2.o + 2⟩ 1 = some [.int .i64 n3] /\
 Q (.int .i64 n3) h)
theorem ac47 {p1 : OPa} {h : Heap} {Q : AHp} (hk : vc47 p1 h Q) : AC Tryz.prog 47 [.ptr p1] h Q :=
 zL (H := zH [] []) (by kernel_rfl) (by kernel_rfl) hk
def vc48 (p1 : OPa) (h : Heap) (Q : AHp) : Prop :=
 vif (p1.isNone)
 (Q (.bool true) h)
 (vPtr p1 fun p2 =>
 ∃ p3 : OPa, zA h ⟨p2.b, p2.o + 0⟩ 1 = some [.ptr p3] /\
 vif (p3.isNone)
 (Q (.bool true) h)
 (vPtr p1 fun p4 =>
 ∃ b5 : Bool, zA h ⟨p4.b, p4.o + 3⟩ 1 = some [.bool b5] /\
 Q (.bool b5) h))
theorem ac48 {p1 : OPa} {h : Heap} {Q : AHp} (hk : vc48 p1 h Q) : AC Tryz.prog 48 [.ptr p1] h Q :=
 zL (H := zH [] []) (by kernel_rfl) (by kernel_rfl) hk
def vc99 (q1 : OSl) (h : Heap) (Q : AHp) : Prop :=
 AC Tryz.prog 30 [] h fun v2 h3 => ∃ p4 : OPa, v2 = .ptr p4 /\
 ∃ (I7 : LHp) (m8 : LHn), I7 [.sl q1, .int .i64 1] h3 /\
 ∀ q5 : OSl, ∀ n6 : Int, ∀ h9 : Heap, I7 [.sl q5, .int .i64 n6] h9 ->
 vif (decide ((zJ q5 : Int) > 0))
 (AC Tryz.prog 175 [.sl q5, .int .i64 n6] h9 fun v10 h11 => ∃ q12 : OSl, ∃ n13 n14 : Int, v10 = .tup [.sl q12, .int .i64 n13, .int .i64 n14] /\
 vif (n14 != 0)
 (Q (.ptr p4) h11)
 (AC Tryz.prog 176 [.sl q12] h11 fun v15 h16 => ∃ n17 n18 n19 : Int, ∃ q20 : OSl, ∃ n21 : Int, v15 = .tup [.agg [.int .i64 n17, .int .i64 n18, .int .i64 n19, .sl q20], .int .i64 n21] /\
 vif (n21 != 0)
 (Q (.ptr p4) h16)
 (AC Tryz.prog 32 [.ptr p4, .agg [.int .i64 n17, .int .i64 n18, .int .i64 n19, .sl q20]] h16 fun v22 h23 => ∃ n24 : Int, v22 = .int .i64 n24 /\
 vif (n24 != 0)
 (Q (.ptr p4) h23)
 (yC 1 q5 n13 none none fun q25 =>
 (True) /\ I7 [.sl q25, .int .i64 (zE .i64 (n6 + n13))] h23 /\ m8 [.sl q25, .int .i64 (zE .i64 (n6 + n13))] h23 < m8 [.sl q5, .int .i64 n6] h9))))
 (Q (.ptr p4) h9)
theorem ac99 {q1 : OSl} {h : Heap} {Q : AHp} (hk : vc99 q1 h Q) : AC Tryz.prog 99 [.sl q1] h Q :=
 zL (H := zH [8] [(0, [0, 4], [])]) (by kernel_rfl) (by kernel_rfl) hk
def vc100 (p1 : OPa) (s2 : List UInt8) (h : Heap) (Q : AHp) : Prop :=
 AC Tryz.prog 64 [.ptr p1, .str s2] h fun v3 h4 => ∃ n5 n6 : Int, v3 = .tup [.int .i64 n5, .int .i64 n6] /\
 ∃ (I9 : LHp) (m10 : LHn), I9 [.sl none, .int .i64 0] h4 /\
 ∀ q7 : OSl, ∀ n8 : Int, ∀ h11 : Heap, I9 [.sl q7, .int .i64 n8] h11 ->
 vif (decide (n8 < n5))
 (AC Tryz.prog 56 [.ptr p1, .str s2, .int .i64 n8] h11 fun v12 h13 => ∃ q14 : OSl, ∃ n15 : Int, v12 = .tup [.sl q14, .int .i64 n15] /\
 vif (n15 != 0)
 (Q (.sl q7) h13)
 (PNew [.sl q14] true h13 fun a16 h17 =>
 zC 1 24 q7 (some ⟨a16, 0, 1, 1, 0⟩) h17 fun q18 h19 =>
 (True) /\ I9 [.sl q18, .int .i64 (zE .i64 (n8 + 1))] h19 /\ m10 [.sl q18, .int .i64 (zE .i64 (n8 + 1))] h19 < m10 [.sl q7, .int .i64 n8] h11))
 (Q (.sl q7) h11)
theorem ac100 {p1 : OPa} {s2 : List UInt8} {h : Heap} {Q : AHp} (hk : vc100 p1 s2 h Q) : AC Tryz.prog 100 [.ptr p1, .str s2] h Q :=
 zL (H := zH [] [(0, [7, 18], [])]) (by kernel_rfl) (by kernel_rfl) hk
def vc101 (q1 : OSl) (h : Heap) (Q : AHp) : Prop :=
 ∃ (I3 : LHp) (m4 : LHn), I3 [.int .i64 0] h /\
 ∀ n2 : Int, ∀ h5 : Heap, I3 [.int .i64 n2] h5 ->
 vif (decide (n2 < (zJ q1 : Int)))
 (vIdx q1 n2 1 fun p6 =>
 ∃ v7 : AV, v7.one = true /\ zA h5 p6 1 = some (AV.cells v7) /\
 zJY Tryz.prog (AC Tryz.prog) v7 [] h5 fun v8 h9 => ∃ n10 : Int, v8 = .int .i64 n10 /\
 vif (n10 != 0)
 (Q (.int .i64 n10) h9)
 ((True) /\ I3 [.int .i64 (zE .i64 (n2 + 1))] h9 /\ m4 [.int .i64 (zE .i64 (n2 + 1))] h9 < m4 [.int .i64 n2] h5))
 (Q (.int .i64 0) h5)
theorem ac101 {q1 : OSl} {h : Heap} {Q : AHp} (hk : vc101 q1 h Q) : AC Tryz.prog 101 [.sl q1] h Q :=
 zL (H := zH [] [(0, [8], [])]) (by kernel_rfl) (by kernel_rfl) hk
def vc102 (p1 : OPa) (h : Heap) (Q : AHp) : Prop :=
 AC Tryz.prog 43 [.ptr p1] h fun v2 h3 => ∃ n4 n5 : Int, v2 = .tup [.int .i64 n4, .int .i64 n5] /\
 Q (.int .i64 n5) h3
theorem ac102 {p1 : OPa} {h : Heap} {Q : AHp} (hk : vc102 p1 h Q) : AC Tryz.prog 102 [.ptr p1] h Q :=
 zL (H := zH [] []) (by kernel_rfl) (by kernel_rfl) hk
def vc103 (p1 : OPa) (h : Heap) (Q : AHp) : Prop :=
 PNew [.ptr p1] true h fun a2 h3 =>
 ∃ p4 : OPa, zA h3 ⟨a2, 0⟩ 1 = some [.ptr p4] /\
 ∃ p5 : OPa, zA h3 ⟨a2, 0⟩ 1 = some [.ptr p5] /\
 PNew [.func (.func 177) [.ptr p4] [], .func (.func 178) [] [.ptr (some ⟨a2, 0⟩)], .func (.func 179) [.ptr p5] [], .func (.func 180) [] [.ptr (some ⟨a2, 0⟩)], .func (.func 181) [] [.ptr (some ⟨a2, 0⟩)]] true h3 fun a6 h7 =>
 AC Tryz.prog 101 [.sl (some ⟨a6, 0, 5, 5, 0⟩)] h7 fun v8 h9 => ∃ n10 : Int, v8 = .int .i64 n10 /\
 Q (.int .i64 n10) h9
theorem ac103 {p1 : OPa} {h : Heap} {Q : AHp} (hk : vc103 p1 h Q) : AC Tryz.prog 103 [.ptr p1] h Q :=
 zL (H := zH [] []) (by kernel_rfl) (by kernel_rfl) hk
def vc109 (p1 : OPa) (h : Heap) (Q : AHp) : Prop :=
 AC Tryz.prog 30 [] h fun v2 h3 => ∃ p4 : OPa, v2 = .ptr p4 /\
 AC Tryz.prog 31 [.ptr p1] h3 fun v5 h6 => ∃ q7 : OSl, v5 = .sl q7 /\
 ∃ (I9 : LHp) (m10 : LHn), I9 [.int .i64 0] h6 /\
 ∀ n8 : Int, ∀ h11 : Heap, I9 [.int .i64 n8] h11 ->
 vif (decide (n8 < (zJ q7 : Int)))
 (vIdx q7 n8 4 fun p12 =>
 ∃ n13 n14 n15 : Int, ∃ q16 : OSl, zA h11 p12 4 = some [.int .i64 n13, .int .i64 n14, .int .i64 n15, .sl q16] /\
 AC Tryz.prog 32 [.ptr p4, .agg [.int .i64 n13, .int .i64 n14, .int .i64 n15, .sl q16]] h11 fun v17 h18 => ∃ n19 : Int, v17 = .int .i64 n19 /\
 (True) /\ I9 [.int .i64 (zE .i64 (n8 + 1))] h18 /\ m10 [.int .i64 (zE .i64 (n8 + 1))] h18 < m10 [.int .i64 n8] h11)
 (Q (.ptr p4) h11)
theorem ac109 {p1 : OPa} {h : Heap} {Q : AHp} (hk : vc109 p1 h Q) : AC Tryz.prog 109 [.ptr p1] h Q :=
 zL (H := zH [5] [(0, [10], [])]) (by kernel_rfl) (by kernel_rfl) hk
def vc111 (p1 : OPa) (s2 : List UInt8) (n3 : Int) (n4 : Int) (n5 : Int) (q6 : OSl) (h : Heap) (Q : AHp) : Prop :=
 AC Tryz.prog 188 [.agg [.int .i64 n3, .int .i64 n4, .int .i64 n5, .sl q6]] h fun v7 h8 => ∃ q9 : OSl, ∃ n10 : Int, v7 = .tup [.sl q9, .int .i64 n10] /\
 vif (n10 != 0)
 (Q (.int .i64 n10) h8)
 (vPtr p1 fun p11 =>
 ∃ n12 : Int, zA h8 ⟨p11.b, p11.o + 2⟩ 1 = some [.int .i64 n12] /\
 AC Tryz.prog 189 [.int .i64 (zE .i64 (1 + n12)), .sl q9] h8 fun v13 h14 => ∃ q15 : OSl, ∃ n16 : Int, v13 = .tup [.sl q15, .int .i64 n16] /\
 vif (n16 != 0)
 (Q (.int .i64 n16) h14)
 (∃ (I18 : LHp) (m19 : LHn), I18 [.int .i64 0] h14 /\
 ∀ n17 : Int, ∀ h20 : Heap, I18 [.int .i64 n17] h20 ->
 vif (decide (n17 < (zJ q15 : Int)))
 (vIdx q15 n17 1 fun p21 =>
 ∃ q22 : OSl, zA h20 p21 1 = some [.sl q22] /\
 vPtr p1 fun p23 =>
 ∃ p24 : OPa, zA h20 ⟨p23.b, p23.o + 0⟩ 1 = some [.ptr p24] /\
 AC Tryz.prog 96 [.ptr p24, .str s2, .sl q22] h20 fun v25 h26 => ∃ n27 : Int, v25 = .int .i64 n27 /\
 vif (n27 != 0)
 (Q (.int .i64 n27) h26)
 (vPtr p1 fun p28 =>
 ∃ n29 : Int, zA h26 ⟨p28.b, p28.o + 2⟩ 1 = some [.int .i64 n29] /\
 vPtr p1 fun p30 =>
 zI h26 ⟨p30.b, p30.o + 2⟩ [.int .i64 (zE .i64 (n29 + 1))] fun h31 =>
 ((some [.int .i64 n3, .int .i64 n4, .int .i64 n5, .sl q6] : Option (List AV)) = some [.int .i64 n3, .int .i64 n4, .int .i64 n5, .sl q6] /\ True) /\ I18 [.int .i64 (zE .i64 (n17 + 1))] h31 /\ m19 [.int .i64 (zE .i64 (n17 + 1))] h31 < m19 [.int .i64 n17] h20))
 (Q (.int .i64 0) h20)))
theorem ac111 {p1 : OPa} {s2 : List UInt8} {n3 : Int} {n4 : Int} {n5 : Int} {q6 : OSl} {h : Heap} {Q : AHp} (hk : vc111 p1 s2 n3 n4 n5 q6 h Q) : AC Tryz.prog 111 [.ptr p1, .str s2, .agg [.int .i64 n3, .int .i64 n4, .int .i64 n5, .sl q6]] h Q :=
 zL (H := zH [5] [(0, [36], [])]) (by kernel_rfl) (by kernel_rfl) hk
def vc177 (p1 : OPa) (h : Heap) (Q : AHp) : Prop :=
 vPtr p1 fun p2 =>
 ∃ p3 : OPa, zA h ⟨p2.b, p2.o + 0⟩ 1 = some [.ptr p3] /\
 AC Tryz.prog 64 [.ptr p3, .str [106, 111, 117, 114, 110, 97, 108, 46, 110, 101, 119]] h fun v4 h5 => ∃ n6 n7 : Int, v4 = .tup [.int .i64 n6, .int .i64 n7] /\
 vif (n7 != 0)
 (Q (.int .i64 0) h5)
 (vPtr p1 fun p8 =>
 ∃ p9 : OPa, zA h5 ⟨p8.b, p8.o + 0⟩ 1 = some [.ptr p9] /\
 AC Tryz.prog 126 [.ptr p9, .str [106, 111, 117, 114, 110, 97, 108, 46, 110, 101, 119]] h5 fun v10 h11 => ∃ n12 : Int, v10 = .int .i64 n12 /\
 Q (.int .i64 n12) h11)
theorem ac177 {p1 : OPa} {h : Heap} {Q : AHp} (hk : vc177 p1 h Q) : AC Tryz.prog 177 [.ptr p1] h Q :=
 zL (H := zH [] []) (by kernel_rfl) (by kernel_rfl) hk
def vc179 (p1 : OPa) (h : Heap) (Q : AHp) : Prop :=
 vPtr p1 fun p2 =>
 zI h ⟨p2.b, p2.o + 2⟩ [.int .i64 0] fun h3 =>
 vPtr p1 fun p4 =>
 ∃ p5 : OPa, zA h3 ⟨p4.b, p4.o + 1⟩ 1 = some [.ptr p5] /\
 AC Tryz.prog 31 [.ptr p5] h3 fun v6 h7 => ∃ q8 : OSl, v6 = .sl q8 /\
 ∃ (I10 : LHp) (m11 : LHn), I10 [.int .i64 0] h7 /\
 ∀ n9 : Int, ∀ h12 : Heap, I10 [.int .i64 n9] h12 ->
 vif (decide (n9 < (zJ q8 : Int)))
 (vIdx q8 n9 4 fun p13 =>
 ∃ n14 n15 n16 : Int, ∃ q17 : OSl, zA h12 p13 4 = some [.int .i64 n14, .int .i64 n15, .int .i64 n16, .sl q17] /\
 AC Tryz.prog 111 [.ptr p1, .str [106, 111, 117, 114, 110, 97, 108, 46, 110, 101, 119], .agg [.int .i64 n14, .int .i64 n15, .int .i64 n16, .sl q17]] h12 fun v18 h19 => ∃ n20 : Int, v18 = .int .i64 n20 /\
 vif (n20 != 0)
 (Q (.int .i64 n20) h19)
 ((True) /\ I10 [.int .i64 (zE .i64 (n9 + 1))] h19 /\ m11 [.int .i64 (zE .i64 (n9 + 1))] h19 < m11 [.int .i64 n9] h12))
 (Q (.int .i64 0) h12)
theorem ac179 {p1 : OPa} {h : Heap} {Q : AHp} (hk : vc179 p1 h Q) : AC Tryz.prog 179 [.ptr p1] h Q :=
 zL (H := zH [4] [(0, [15], [])]) (by kernel_rfl) (by kernel_rfl) hk
def vc175 (q1 : OSl) (n2 : Int) (h : Heap) (Q : AHp) : Prop :=
 ∃ (I5 : LHp) (m6 : LHn), I5 [.sl none, .int .i64 0] h /\
 ∀ q3 : OSl, ∀ n4 : Int, ∀ h7 : Heap, I5 [.sl q3, .int .i64 n4] h7 ->
 vif (decide (n4 < (zJ q1 : Int)))
 (vIdx q1 n4 1 fun p8 =>
 ∃ q9 : OSl, zA h7 p8 1 = some [.sl q9] /\
 AC Tryz.prog 223 [.sl q9, .int .i64 (zE .i64 (n2 + n4))] h7 fun v10 h11 => ∃ q12 : OSl, ∃ n13 : Int, v10 = .tup [.sl q12, .int .i64 n13] /\
 vif (n13 != 0)
 (Q (.tup [.sl none, .int .i64 0, .int .i64 n13]) h11)
 (vif ((zJ q12 : Int) == 0)
 (Q (.tup [.sl none, .int .i64 0, .int .i64 20]) h11)
 (vIdx q12 0 1 fun p14 =>
 ∃ n15 : Int, zA h11 p14 1 = some [.int .u8 n15] /\
 vif (decide (n15 > 1))
 (Q (.tup [.sl none, .int .i64 0, .int .i64 20]) h11)
 (vIdx q12 0 1 fun p16 =>
 ∃ n17 : Int, zA h11 p16 1 = some [.int .u8 n17] /\
 vif (n17 == 1)
 (vif (decide ((zJ q12 : Int) <= 42))
 (Q (.tup [.sl none, .int .i64 0, .int .i64 20]) h11)
 (yC 1 q12 1 none none fun q18 =>
 zC 1 1 q3 q18 h11 fun q19 h20 =>
 vIdx q12 0 1 fun p21 =>
 ∃ n22 : Int, zA h20 p21 1 = some [.int .u8 n22] /\
 vif (n22 == 0)
 (Q (.tup [.sl q19, .int .i64 (zE .i64 (n4 + 1)), .int .i64 0]) h20)
 ((True) /\ I5 [.sl q19, .int .i64 (zE .i64 (n4 + 1))] h20 /\ m6 [.sl q19, .int .i64 (zE .i64 (n4 + 1))] h20 < m6 [.sl q3, .int .i64 n4] h7)))
 (yC 1 q12 1 none none fun q23 =>
 zC 1 1 q3 q23 h11 fun q24 h25 =>
 vIdx q12 0 1 fun p26 =>
 ∃ n27 : Int, zA h25 p26 1 = some [.int .u8 n27] /\
 vif (n27 == 0)
 (Q (.tup [.sl q24, .int .i64 (zE .i64 (n4 + 1)), .int .i64 0]) h25)
 ((True) /\ I5 [.sl q24, .int .i64 (zE .i64 (n4 + 1))] h25 /\ m6 [.sl q24, .int .i64 (zE .i64 (n4 + 1))] h25 < m6 [.sl q3, .int .i64 n4] h7))))))
 (Q (.tup [.sl none, .int .i64 0, .int .i64 4]) h7)
theorem ac175 {q1 : OSl} {n2 : Int} {h : Heap} {Q : AHp} (hk : vc175 q1 n2 h Q) : AC Tryz.prog 175 [.sl q1, .int .i64 n2] h Q :=
 zL (H := zH [] [(0, [7, 14], [])]) (by kernel_rfl) (by kernel_rfl) hk
def vc189 (n1 : Int) (q2 : OSl) (h : Heap) (Q : AHp) : Prop :=
 AC Tryz.prog 237 [.int .i64 n1] h fun v3 h4 => ∃ b5 : Bool, v3 = .bool b5 /\
 vif (!b5)
 (Q (.tup [.sl none, .int .i64 1]) h4)
 (vif (decide (n1 > (zE .i64 ((zE .i64 (4611686018427387903 - (zLS 1 (zE .i64 (Int.tdiv (zE .i64 ((zE .i64 ((zJ q2 : Int) + 42)) - 1)) 42))))) + 1))))
 (Q (.tup [.sl none, .int .i64 1]) h4)
 (vif (decide ((zJ q2 : Int) > 65536))
 (Q (.tup [.sl none, .int .i64 3]) h4)
 (AC Tryz.prog 248 [.sl q2, .int .i64 42] h4 fun v6 h7 => ∃ v8 : AV, v8.one = true /\ v6 = v8 /\
 AC Tryz.prog 247 [v8] h7 fun v9 h10 => ∃ q11 : OSl, v9 = .sl q11 /\
 vif ((zJ q11 : Int) == 0)
 (PNew [.sl none] true h10 fun a12 h13 =>
 ∃ (I16 : LHp) (m17 : LHn), I16 [.sl none, .int .i64 0] h13 /\
 ∀ q14 : OSl, ∀ n15 : Int, ∀ h18 : Heap, I16 [.sl q14, .int .i64 n15] h18 ->
 vif (decide (n15 < ((1 : Nat) : Int)))
 (vIdx (some ⟨a12, 0, 1, 1, 0⟩) n15 1 fun p19 =>
 ∃ q20 : OSl, zA h18 p19 1 = some [.sl q20] /\
 vif (n15 == (zE .i64 (((1 : Nat) : Int) - 1)))
 (PNew [.int .u8 0] true h18 fun a21 h22 =>
 PNew [.sl (some ⟨a21, 0, 1, 1, 0⟩), .sl q20] true h22 fun a23 h24 =>
 AC Tryz.prog 239 [.sl (some ⟨a23, 0, 2, 2, 0⟩)] h24 fun v25 h26 => ∃ q27 : OSl, v25 = .sl q27 /\
 AC Tryz.prog 169 [.int .i64 (zE .i64 (n1 + n15)), .sl q27] h26 fun v28 h29 => ∃ q30 : OSl, ∃ n31 : Int, v28 = .tup [.sl q30, .int .i64 n31] /\
 PNew [.sl q30] true h29 fun a32 h33 =>
 zC 1 24 q14 (some ⟨a32, 0, 1, 1, 0⟩) h33 fun q34 h35 =>
 (True) /\ I16 [.sl q34, .int .i64 (zE .i64 (n15 + 1))] h35 /\ m17 [.sl q34, .int .i64 (zE .i64 (n15 + 1))] h35 < m17 [.sl q14, .int .i64 n15] h18)
 (PNew [.int .u8 1] true h18 fun a36 h37 =>
 PNew [.sl (some ⟨a36, 0, 1, 1, 0⟩), .sl q20] true h37 fun a38 h39 =>
 AC Tryz.prog 239 [.sl (some ⟨a38, 0, 2, 2, 0⟩)] h39 fun v40 h41 => ∃ q42 : OSl, v40 = .sl q42 /\
 AC Tryz.prog 169 [.int .i64 (zE .i64 (n1 + n15)), .sl q42] h41 fun v43 h44 => ∃ q45 : OSl, ∃ n46 : Int, v43 = .tup [.sl q45, .int .i64 n46] /\
 PNew [.sl q45] true h44 fun a47 h48 =>
 zC 1 24 q14 (some ⟨a47, 0, 1, 1, 0⟩) h48 fun q49 h50 =>
 (True) /\ I16 [.sl q49, .int .i64 (zE .i64 (n15 + 1))] h50 /\ m17 [.sl q49, .int .i64 (zE .i64 (n15 + 1))] h50 < m17 [.sl q14, .int .i64 n15] h18))
 (Q (.tup [.sl q14, .int .i64 0]) h18))
 (∃ (I53 : LHp) (m54 : LHn), I53 [.sl none, .int .i64 0] h10 /\
 ∀ q51 : OSl, ∀ n52 : Int, ∀ h55 : Heap, I53 [.sl q51, .int .i64 n52] h55 ->
 vif (decide (n52 < (zJ q11 : Int)))
 (vIdx q11 n52 1 fun p56 =>
 ∃ q57 : OSl, zA h55 p56 1 = some [.sl q57] /\
 vif (n52 == (zE .i64 ((zJ q11 : Int) - 1)))
 (PNew [.int .u8 0] true h55 fun a58 h59 =>
 PNew [.sl (some ⟨a58, 0, 1, 1, 0⟩), .sl q57] true h59 fun a60 h61 =>
 AC Tryz.prog 239 [.sl (some ⟨a60, 0, 2, 2, 0⟩)] h61 fun v62 h63 => ∃ q64 : OSl, v62 = .sl q64 /\
 AC Tryz.prog 169 [.int .i64 (zE .i64 (n1 + n52)), .sl q64] h63 fun v65 h66 => ∃ q67 : OSl, ∃ n68 : Int, v65 = .tup [.sl q67, .int .i64 n68] /\
 PNew [.sl q67] true h66 fun a69 h70 =>
 zC 1 24 q51 (some ⟨a69, 0, 1, 1, 0⟩) h70 fun q71 h72 =>
 (True) /\ I53 [.sl q71, .int .i64 (zE .i64 (n52 + 1))] h72 /\ m54 [.sl q71, .int .i64 (zE .i64 (n52 + 1))] h72 < m54 [.sl q51, .int .i64 n52] h55)
 (PNew [.int .u8 1] true h55 fun a73 h74 =>
 PNew [.sl (some ⟨a73, 0, 1, 1, 0⟩), .sl q57] true h74 fun a75 h76 =>
 AC Tryz.prog 239 [.sl (some ⟨a75, 0, 2, 2, 0⟩)] h76 fun v77 h78 => ∃ q79 : OSl, v77 = .sl q79 /\
 AC Tryz.prog 169 [.int .i64 (zE .i64 (n1 + n52)), .sl q79] h78 fun v80 h81 => ∃ q82 : OSl, ∃ n83 : Int, v80 = .tup [.sl q82, .int .i64 n83] /\
 PNew [.sl q82] true h81 fun a84 h85 =>
 zC 1 24 q51 (some ⟨a84, 0, 1, 1, 0⟩) h85 fun q86 h87 =>
 (True) /\ I53 [.sl q86, .int .i64 (zE .i64 (n52 + 1))] h87 /\ m54 [.sl q86, .int .i64 (zE .i64 (n52 + 1))] h87 < m54 [.sl q51, .int .i64 n52] h55))
 (Q (.tup [.sl q51, .int .i64 0]) h55)))))
theorem ac189 {n1 : Int} {q2 : OSl} {h : Heap} {Q : AHp} (hk : vc189 n1 q2 h Q) : AC Tryz.prog 189 [.int .i64 n1, .sl q2] h Q :=
 zL (H := zH [] [(1, [8, 44], [])]) (by kernel_rfl) (by kernel_rfl) hk
def vc248 (q1 : OSl) (n2 : Int) (h : Heap) (Q : AHp) : Prop :=
 PNew [.sl q1] true h fun a3 h4 =>
 PNew [.int .i64 n2] true h4 fun a5 h6 =>
 ∃ n7 : Int, zA h6 ⟨a5, 0⟩ 1 = some [.int .i64 n7] /\
 vif (decide (n7 < 1))
 (False)
 (Q (.func (.func 280) [] [.ptr (some ⟨a3, 0⟩), .ptr (some ⟨a5, 0⟩)]) h6)
theorem ac248 {q1 : OSl} {n2 : Int} {h : Heap} {Q : AHp} (hk : vc248 q1 n2 h Q) : AC Tryz.prog 248 [.sl q1, .int .i64 n2] h Q :=
 zL (H := zH [] []) (by kernel_rfl) (by kernel_rfl) hk
def vc30  (h : Heap) (Q : AHp) : Prop :=
 PNew [.sl none, .int .i64 0, .int .i64 0, .int .i64 0, .sl none, .bool false] true h fun a1 h2 =>
 Q (.ptr (some ⟨a1, 0⟩)) h2
theorem ac30  {h : Heap} {Q : AHp} (hk : vc30  h Q) : AC Tryz.prog 30 [] h Q :=
 zL (H := zH [] []) (by kernel_rfl) (by kernel_rfl) hk
def vc31 (p1 : OPa) (h : Heap) (Q : AHp) : Prop :=
 AC Tryz.prog 46 [.ptr p1] h fun v2 h3 => ∃ n4 : Int, v2 = .int .i64 n4 /\
 ∃ (I7 : LHp) (m8 : LHn), I7 [.sl none, .int .i64 0] h3 /\
 ∀ q5 : OSl, ∀ n6 : Int, ∀ h9 : Heap, I7 [.sl q5, .int .i64 n6] h9 ->
 vif (decide (n6 < n4))
 (vPtr p1 fun p10 =>
 ∃ q11 : OSl, zA h9 ⟨p10.b, p10.o + 0⟩ 1 = some [.sl q11] /\
 vIdx q11 n6 4 fun p12 =>
 ∃ n13 n14 n15 : Int, ∃ q16 : OSl, zA h9 p12 4 = some [.int .i64 n13, .int .i64 n14, .int .i64 n15, .sl q16] /\
 AC Tryz.prog 105 [.agg [.int .i64 n13, .int .i64 n14, .int .i64 n15, .sl q16]] h9 fun v17 h18 => ∃ n19 n20 n21 : Int, ∃ q22 : OSl, v17 = .agg [.int .i64 n19, .int .i64 n20, .int .i64 n21, .sl q22] /\
 PNew [.int .i64 n19, .int .i64 n20, .int .i64 n21, .sl q22] true h18 fun a23 h24 =>
 zC 4 48 q5 (some ⟨a23, 0, 1, 1, 0⟩) h24 fun q25 h26 =>
 (True) /\ I7 [.sl q25, .int .i64 (zE .i64 (n6 + 1))] h26 /\ m8 [.sl q25, .int .i64 (zE .i64 (n6 + 1))] h26 < m8 [.sl q5, .int .i64 n6] h9)
 (AC Tryz.prog 106 [.ptr p1] h9 fun v27 h28 => ∃ n29 n30 n31 : Int, ∃ q32 : OSl, ∃ b33 : Bool, v27 = .tup [.agg [.int .i64 n29, .int .i64 n30, .int .i64 n31, .sl q32], .bool b33] /\
 vif b33
 (PNew [.int .i64 n29, .int .i64 n30, .int .i64 n31, .sl q32] true h28 fun a34 h35 =>
 zC 4 48 q5 (some ⟨a34, 0, 1, 1, 0⟩) h35 fun q36 h37 =>
 Q (.sl q36) h37)
 (Q (.sl q5) h28))
theorem ac31 {p1 : OPa} {h : Heap} {Q : AHp} (hk : vc31 p1 h Q) : AC Tryz.prog 31 [.ptr p1] h Q :=
 zL (H := zH [5] [(0, [3, 9], [])]) (by kernel_rfl) (by kernel_rfl) hk
def vc32 (p1 : OPa) (n2 : Int) (n3 : Int) (n4 : Int) (q5 : OSl) (h : Heap) (Q : AHp) : Prop :=
 vif (p1.isNone)
 (Q (.int .i64 6) h)
 (AC Tryz.prog 107 [.agg [.int .i64 n2, .int .i64 n3, .int .i64 n4, .sl q5]] h fun v6 h7 => ∃ n8 : Int, v6 = .int .i64 n8 /\
 vif (n8 != 0)
 (Q (.int .i64 n8) h7)
 (AC Tryz.prog 108 [.ptr p1, .agg [.int .i64 n2, .int .i64 n3, .int .i64 n4, .sl q5]] h7 fun v9 h10 => ∃ b11 : Bool, v9 = .bool b11 /\
 vif (!b11)
 (Q (.int .i64 1) h10)
 (vPtr p1 fun p12 =>
 zI h10 ⟨p12.b, p12.o + 1⟩ [.int .i64 0, .int .i64 0, .int .i64 0, .sl none] fun h13 =>
 vPtr p1 fun p14 =>
 zI h13 ⟨p14.b, p14.o + 5⟩ [.bool false] fun h15 =>
 vif (n2 == 2)
 (vPtr p1 fun p16 =>
 ∃ q17 : OSl, zA h15 ⟨p16.b, p16.o + 0⟩ 1 = some [.sl q17] /\
 AC Tryz.prog 105 [.agg [.int .i64 n2, .int .i64 n3, .int .i64 n4, .sl q5]] h15 fun v18 h19 => ∃ n20 n21 n22 : Int, ∃ q23 : OSl, v18 = .agg [.int .i64 n20, .int .i64 n21, .int .i64 n22, .sl q23] /\
 (∃ q31 : OSl, zA h19 ⟨p16.b, p16.o + 0⟩ 1 = some [.sl q31] /\
 LV.val (.sl q31) = LV.val (.sl q17)) /\
 PNew [.int .i64 n20, .int .i64 n21, .int .i64 n22, .sl q23] true h19 fun a24 h25 =>
 (∃ q30 : OSl, zA h25 ⟨p16.b, p16.o + 0⟩ 1 = some [.sl q30] /\
 LV.val (.sl q30) = LV.val (.sl q17)) /\
 zC 4 48 q17 (some ⟨a24, 0, 1, 1, 0⟩) h25 fun q26 h27 =>
 vPtr p1 fun p28 =>
 zI h27 ⟨p28.b, p28.o + 0⟩ [.sl q26] fun h29 =>
 Q (.int .i64 0) h29)
 (AC Tryz.prog 105 [.agg [.int .i64 n2, .int .i64 n3, .int .i64 n4, .sl q5]] h15 fun v32 h33 => ∃ n34 n35 n36 : Int, ∃ q37 : OSl, v32 = .agg [.int .i64 n34, .int .i64 n35, .int .i64 n36, .sl q37] /\
 vPtr p1 fun p38 =>
 zI h33 ⟨p38.b, p38.o + 1⟩ [.int .i64 n34, .int .i64 n35, .int .i64 n36, .sl q37] fun h39 =>
 vPtr p1 fun p40 =>
 zI h39 ⟨p40.b, p40.o + 5⟩ [.bool true] fun h41 =>
 Q (.int .i64 0) h41))))
theorem ac32 {p1 : OPa} {n2 : Int} {n3 : Int} {n4 : Int} {q5 : OSl} {h : Heap} {Q : AHp} (hk : vc32 p1 n2 n3 n4 q5 h Q) : AC Tryz.prog 32 [.ptr p1, .agg [.int .i64 n2, .int .i64 n3, .int .i64 n4, .sl q5]] h Q :=
 zL (H := zH [3] []) (by kernel_rfl) (by kernel_rfl) hk
def vc41 (p1 : OPa) (h : Heap) (Q : AHp) : Prop :=
 AC Tryz.prog 31 [.ptr p1] (h ++ [.mp [] 0]) fun v2 h3 => ∃ q4 : OSl, v2 = .sl q4 /\
 ∃ (I6 : LHp) (m7 : LHn), I6 [.int .i64 0] h3 /\
 ∀ n5 : Int, ∀ h8 : Heap, I6 [.int .i64 n5] h8 ->
 vif (decide (n5 < (zJ q4 : Int)))
 (vIdx q4 n5 4 fun p9 =>
 ∃ n10 n11 n12 : Int, ∃ q13 : OSl, zA h8 p9 4 = some [.int .i64 n10, .int .i64 n11, .int .i64 n12, .sl q13] /\
 ∃ (I15 : LHp) (m16 : LHn), I15 [.int .i64 0] h8 /\
 ∀ n14 : Int, ∀ h17 : Heap, I15 [.int .i64 n14] h17 ->
 vif (decide (n14 < (zJ q13 : Int)))
 (vIdx q13 n14 3 fun p18 =>
 ∃ s19 : List UInt8, ∃ n20 n21 : Int, zA h17 p18 3 = some [.str s19, .int .i64 n20, .int .i64 n21] /\
 xZ Tryz.prog 9 (List.length h) (.str s19) (.bool true) h17 fun h22 =>
 ((some [.int .i64 n10, .int .i64 n11, .int .i64 n12, .sl q13] : Option (List AV)) = some [.int .i64 n10, .int .i64 n11, .int .i64 n12, .sl q13] /\ True) /\ I15 [.int .i64 (zE .i64 (n14 + 1))] h22 /\ m16 [.int .i64 (zE .i64 (n14 + 1))] h22 < m16 [.int .i64 n14] h17)
 ((True) /\ I6 [.int .i64 (zE .i64 (n5 + 1))] h17 /\ m7 [.int .i64 (zE .i64 (n5 + 1))] h17 < m7 [.int .i64 n5] h8))
 (AC Tryz.prog 123 [.map (some (List.length h))] h8 fun v23 h24 => ∃ v25 : AV, v25.one = true /\ v23 = v25 /\
 AC Tryz.prog 122 [v25] h24 fun v26 h27 => ∃ q28 : OSl, v26 = .sl q28 /\
 Q (.sl q28) h27)
theorem ac41 {p1 : OPa} {h : Heap} {Q : AHp} (hk : vc41 p1 h Q) : AC Tryz.prog 41 [.ptr p1] h Q :=
 zL (H := zH [5, 7] [(0, [12], []), (2, [19], [])]) (by kernel_rfl) (by kernel_rfl) hk
def vc46 (p1 : OPa) (h : Heap) (Q : AHp) : Prop :=
 vif (p1.isNone)
 (Q (.int .i64 0) h)
 (vPtr p1 fun p2 =>
 ∃ q3 : OSl, zA h ⟨p2.b, p2.o + 0⟩ 1 = some [.sl q3] /\
 Q (.int .i64 (zJ q3 : Int)) h)
theorem ac46 {p1 : OPa} {h : Heap} {Q : AHp} (hk : vc46 p1 h Q) : AC Tryz.prog 46 [.ptr p1] h Q :=
 zL (H := zH [] []) (by kernel_rfl) (by kernel_rfl) hk
def vc105 (n1 : Int) (n2 : Int) (n3 : Int) (q4 : OSl) (h : Heap) (Q : AHp) : Prop :=
 AC Tryz.prog 183 [.sl q4] h fun v5 h6 => ∃ q7 : OSl, v5 = .sl q7 /\
 Q (.agg [.int .i64 n1, .int .i64 n2, .int .i64 n3, .sl q7]) h6
theorem ac105 {n1 : Int} {n2 : Int} {n3 : Int} {q4 : OSl} {h : Heap} {Q : AHp} (hk : vc105 n1 n2 n3 q4 h Q) : AC Tryz.prog 105 [.agg [.int .i64 n1, .int .i64 n2, .int .i64 n3, .sl q4]] h Q :=
 zL (H := zH [1, 2] []) (by kernel_rfl) (by kernel_rfl) hk
def vc106 (p1 : OPa) (h : Heap) (Q : AHp) : Prop :=
 vif (p1.isNone)
 (Q (.tup [.agg [.int .i64 0, .int .i64 0, .int .i64 0, .sl none], .bool false]) h)
 (vPtr p1 fun p2 =>
 ∃ n3 n4 n5 : Int, ∃ q6 : OSl, zA h ⟨p2.b, p2.o + 1⟩ 4 = some [.int .i64 n3, .int .i64 n4, .int .i64 n5, .sl q6] /\
 vPtr p1 fun p7 =>
 ∃ b8 : Bool, zA h ⟨p7.b, p7.o + 5⟩ 1 = some [.bool b8] /\
 AC Tryz.prog 105 [.agg [.int .i64 n3, .int .i64 n4, .int .i64 n5, .sl q6]] h fun v9 h10 => ∃ n11 n12 n13 : Int, ∃ q14 : OSl, v9 = .agg [.int .i64 n11, .int .i64 n12, .int .i64 n13, .sl q14] /\
 (∃ b16 : Bool, zA h10 ⟨p7.b, p7.o + 5⟩ 1 = some [.bool b16] /\
 LV.val (.bool b16) = LV.val (.bool b8)) /\
 (∃ b15 : Bool, zA h10 ⟨p7.b, p7.o + 5⟩ 1 = some [.bool b15] /\
 LV.val (.bool b15) = LV.val (.bool b8)) /\
 Q (.tup [.agg [.int .i64 n11, .int .i64 n12, .int .i64 n13, .sl q14], .bool b8]) h10)
theorem ac106 {p1 : OPa} {h : Heap} {Q : AHp} (hk : vc106 p1 h Q) : AC Tryz.prog 106 [.ptr p1] h Q :=
 zL (H := zH [2] []) (by kernel_rfl) (by kernel_rfl) hk
def vc107 (n1 : Int) (n2 : Int) (n3 : Int) (q4 : OSl) (h : Heap) (Q : AHp) : Prop :=
 vif (n1 == 1)
 (AC Tryz.prog 186 [.agg [.int .i64 n2, .int .i64 n3]] h fun v5 h6 => ∃ n7 : Int, v5 = .int .i64 n7 /\
 vif (n7 != 0)
 (Q (.int .i64 140) h6)
 (vif (decide ((zJ q4 : Int) > 256))
 (Q (.int .i64 140) h6)
 (AC Tryz.prog 187 [.sl q4, .func (.func 184) [] []] h6 fun v8 h9 => ∃ b10 : Bool, v8 = .bool b10 /\
 vif b10
 (Q (.int .i64 140) h9)
 (Q (.int .i64 0) h9))))
 (vif (n1 == 2)
 (vif (!(n3 == 0))
 (Q (.int .i64 140) h)
 (AC Tryz.prog 186 [.agg [.int .i64 n2, .int .i64 n3]] h fun v11 h12 => ∃ n13 : Int, v11 = .int .i64 n13 /\
 vif (n13 != 0)
 (Q (.int .i64 140) h12)
 (vif (decide ((zJ q4 : Int) > 256))
 (Q (.int .i64 140) h12)
 (AC Tryz.prog 187 [.sl q4, .func (.func 184) [] []] h12 fun v14 h15 => ∃ b16 : Bool, v14 = .bool b16 /\
 vif b16
 (Q (.int .i64 140) h15)
 (Q (.int .i64 0) h15)))))
 (Q (.int .i64 140) h))
theorem ac107 {n1 : Int} {n2 : Int} {n3 : Int} {q4 : OSl} {h : Heap} {Q : AHp} (hk : vc107 n1 n2 n3 q4 h Q) : AC Tryz.prog 107 [.agg [.int .i64 n1, .int .i64 n2, .int .i64 n3, .sl q4]] h Q :=
 zL (H := zH [1] []) (by kernel_rfl) (by kernel_rfl) hk
def vc108 (p1 : OPa) (n2 : Int) (n3 : Int) (n4 : Int) (q5 : OSl) (h : Heap) (Q : AHp) : Prop :=
 vPtr p1 fun p6 =>
 ∃ q7 : OSl, zA h ⟨p6.b, p6.o + 0⟩ 1 = some [.sl q7] /\
 vif (n3 != (zJ q7 : Int))
 (Q (.bool false) h)
 (vif (n2 == 2)
 (Q (.bool true) h)
 (vPtr p1 fun p8 =>
 ∃ b9 : Bool, zA h ⟨p8.b, p8.o + 5⟩ 1 = some [.bool b9] /\
 vif (!b9)
 (Q (.bool true) h)
 (vPtr p1 fun p10 =>
 ∃ n11 : Int, zA h ⟨p10.b, ((p10.o + 1) + 1) + 1⟩ 1 = some [.int .i64 n11] /\
 Q (.bool (decide (n4 > n11))) h)))
theorem ac108 {p1 : OPa} {n2 : Int} {n3 : Int} {n4 : Int} {q5 : OSl} {h : Heap} {Q : AHp} (hk : vc108 p1 n2 n3 n4 q5 h Q) : AC Tryz.prog 108 [.ptr p1, .agg [.int .i64 n2, .int .i64 n3, .int .i64 n4, .sl q5]] h Q :=
 zL (H := zH [3] []) (by kernel_rfl) (by kernel_rfl) hk
def vc183 (q1 : OSl) (h : Heap) (Q : AHp) : Prop :=
 vif (q1.isNone)
 (Q (.sl none) h)
 (PNew [] true h fun a2 h3 =>
 zC 3 32 (some ⟨a2, 0, 0, 0, 0⟩) q1 h3 fun q4 h5 =>
 Q (.sl q4) h5)
theorem ac183 {q1 : OSl} {h : Heap} {Q : AHp} (hk : vc183 q1 h Q) : AC Tryz.prog 183 [.sl q1] h Q :=
 zL (H := zH [] []) (by kernel_rfl) (by kernel_rfl) hk
def vc184 (s1 : List UInt8) (n2 : Int) (n3 : Int) (h : Heap) (Q : AHp) : Prop :=
 AC Tryz.prog 185 [.agg [.str s1, .int .i64 n2, .int .i64 n3]] h fun v4 h5 => ∃ b6 : Bool, v4 = .bool b6 /\
 Q (.bool (!b6)) h5
theorem ac184 {s1 : List UInt8} {n2 : Int} {n3 : Int} {h : Heap} {Q : AHp} (hk : vc184 s1 n2 n3 h Q) : AC Tryz.prog 184 [.agg [.str s1, .int .i64 n2, .int .i64 n3]] h Q :=
 zL (H := zH [1] []) (by kernel_rfl) (by kernel_rfl) hk
def vc185 (s1 : List UInt8) (n2 : Int) (n3 : Int) (h : Heap) (Q : AHp) : Prop :=
 vif (decide ((s1.length : Int) ≥ 1))
 (vif (decide ((s1.length : Int) <= 24))
 (vif (decide (n2 ≥ 1))
 (vif (decide (n2 <= 2305843009213693952))
 (vif (decide (n3 ≥ 0))
 (Q (.bool (decide (n3 <= 16384))) h)
 (Q (.bool false) h))
 (Q (.bool false) h))
 (Q (.bool false) h))
 (Q (.bool false) h))
 (Q (.bool false) h)
theorem ac185 {s1 : List UInt8} {n2 : Int} {n3 : Int} {h : Heap} {Q : AHp} (hk : vc185 s1 n2 n3 h Q) : AC Tryz.prog 185 [.agg [.str s1, .int .i64 n2, .int .i64 n3]] h Q :=
 zL (H := zH [1] []) (by kernel_rfl) (by kernel_rfl) hk
def vc187 (q1 : OSl) (h : Heap) (Q : AHp) : Prop :=
 AC Tryz.prog 244 [.sl q1, .func (.func 184) [] []] h fun v2 h3 => ∃ n4 : Int, v2 = .int .i64 n4 /\
 Q (.bool (decide (n4 ≥ 0))) h3
theorem ac187 {q1 : OSl} {h : Heap} {Q : AHp} (hk : vc187 q1 h Q) : AC Tryz.prog 187 [.sl q1, .func (.func 184) [] []] h Q :=
 zL (H := zH [] []) (by kernel_rfl) (by kernel_rfl) hk
def vc188 (n1 : Int) (n2 : Int) (n3 : Int) (q4 : OSl) (h : Heap) (Q : AHp) : Prop :=
 AC Tryz.prog 107 [.agg [.int .i64 n1, .int .i64 n2, .int .i64 n3, .sl q4]] h fun v5 h6 => ∃ n7 : Int, v5 = .int .i64 n7 /\
 vif (n7 != 0)
 (Q (.tup [.sl none, .int .i64 n7]) h6)
 (PNew [.int .i64 n1, .int .i64 n2, .int .i64 n3, .int .i64 (zJ q4 : Int)] true h6 fun a8 h9 =>
 AC Tryz.prog 245 [.sl (some ⟨a8, 0, 4, 4, 0⟩)] h9 fun v10 h11 => ∃ q12 : OSl, v10 = .sl q12 /\
 ∃ (I15 : LHp) (m16 : LHn), I15 [.sl q12, .int .i64 0] h11 /\
 ∀ q13 : OSl, ∀ n14 : Int, ∀ h17 : Heap, I15 [.sl q13, .int .i64 n14] h17 ->
 vif (decide (n14 < (zJ q4 : Int)))
 (vIdx q4 n14 3 fun p18 =>
 ∃ s19 : List UInt8, ∃ n20 n21 : Int, zA h17 p18 3 = some [.str s19, .int .i64 n20, .int .i64 n21] /\
 (AC Tryz.prog 246 [.str s19] h17 fun v22 h23 => ∃ q24 : OSl, v22 = .sl q24 /\
 (LV.val (.int .i64 n21) = LV.val (.int .i64 n21)) /\
 (LV.val (.int .i64 n20) = LV.val (.int .i64 n20)) /\
 PNew [.int .i64 n20, .int .i64 n21] true h23 fun a25 h26 =>
 (LV.val (.str s19) = LV.val (.str s19)) /\
 AC Tryz.prog 245 [.sl (some ⟨a25, 0, 2, 2, 0⟩)] h26 fun v27 h28 => ∃ q29 : OSl, v27 = .sl q29 /\
 PNew [.sl q13, .sl q24, .sl q29] true h28 fun a30 h31 =>
 AC Tryz.prog 239 [.sl (some ⟨a30, 0, 3, 3, 0⟩)] h31 fun v32 h33 => ∃ q34 : OSl, v32 = .sl q34 /\
 ((some [.int .i64 n1, .int .i64 n2, .int .i64 n3, .sl q4] : Option (List AV)) = some [.int .i64 n1, .int .i64 n2, .int .i64 n3, .sl q4] /\ True) /\ I15 [.sl q34, .int .i64 (zE .i64 (n14 + 1))] h33 /\ m16 [.sl q34, .int .i64 (zE .i64 (n14 + 1))] h33 < m16 [.sl q13, .int .i64 n14] h17) /\
 (PNew [.int .i64 n20, .int .i64 n21] true h17 fun a35 h36 =>
 (LV.val (.str s19) = LV.val (.str s19)) /\
 AC Tryz.prog 246 [.str s19] h36 fun v37 h38 => ∃ q39 : OSl, v37 = .sl q39 /\
 (LV.val (.int .i64 n21) = LV.val (.int .i64 n21)) /\
 (LV.val (.int .i64 n20) = LV.val (.int .i64 n20)) /\
 AC Tryz.prog 245 [.sl (some ⟨a35, 0, 2, 2, 0⟩)] h38 fun v40 h41 => ∃ q42 : OSl, v40 = .sl q42 /\
 PNew [.sl q13, .sl q39, .sl q42] true h41 fun a43 h44 =>
 AC Tryz.prog 239 [.sl (some ⟨a43, 0, 3, 3, 0⟩)] h44 fun v45 h46 => ∃ q47 : OSl, v45 = .sl q47 /\
 ((some [.int .i64 n1, .int .i64 n2, .int .i64 n3, .sl q4] : Option (List AV)) = some [.int .i64 n1, .int .i64 n2, .int .i64 n3, .sl q4] /\ True) /\ I15 [.sl q47, .int .i64 (zE .i64 (n14 + 1))] h46 /\ m16 [.sl q47, .int .i64 (zE .i64 (n14 + 1))] h46 < m16 [.sl q13, .int .i64 n14] h17))
 (Q (.tup [.sl q13, .int .i64 0]) h17))
theorem ac188 {n1 : Int} {n2 : Int} {n3 : Int} {q4 : OSl} {h : Heap} {Q : AHp} (hk : vc188 n1 n2 n3 q4 h Q) : AC Tryz.prog 188 [.agg [.int .i64 n1, .int .i64 n2, .int .i64 n3, .sl q4]] h Q :=
 zL (H := zH [1, 7] [(0, [5, 29], [])]) (by kernel_rfl) (by kernel_rfl) hk
def vc244 (q1 : OSl) (h : Heap) (Q : AHp) : Prop :=
 ∃ (I3 : LHp) (m4 : LHn), I3 [.int .i64 0] h /\
 ∀ n2 : Int, ∀ h5 : Heap, I3 [.int .i64 n2] h5 ->
 vif (decide (n2 < (zJ q1 : Int)))
 (vIdx q1 n2 3 fun p6 =>
 ∃ s7 : List UInt8, ∃ n8 n9 : Int, zA h5 p6 3 = some [.str s7, .int .i64 n8, .int .i64 n9] /\
 AC Tryz.prog 184 [.agg [.str s7, .int .i64 n8, .int .i64 n9]] h5 fun v10 h11 => ∃ b12 : Bool, v10 = .bool b12 /\
 vif b12
 (Q (.int .i64 n2) h11)
 ((True) /\ I3 [.int .i64 (zE .i64 (n2 + 1))] h11 /\ m4 [.int .i64 (zE .i64 (n2 + 1))] h11 < m4 [.int .i64 n2] h5))
 (Q (.int .i64 (-1)) h5)
theorem ac244 {q1 : OSl} {h : Heap} {Q : AHp} (hk : vc244 q1 h Q) : AC Tryz.prog 244 [.sl q1, .func (.func 184) [] []] h Q :=
 zL (H := zH [] [(0, [8], [])]) (by kernel_rfl) (by kernel_rfl) hk
def vc245 (q1 : OSl) (h : Heap) (Q : AHp) : Prop :=
 ∃ (I4 : LHp) (m5 : LHn), I4 [.sl none, .int .i64 0] h /\
 ∀ q2 : OSl, ∀ n3 : Int, ∀ h6 : Heap, I4 [.sl q2, .int .i64 n3] h6 ->
 vif (decide (n3 < (zJ q1 : Int)))
 (vIdx q1 n3 1 fun p7 =>
 ∃ n8 : Int, zA h6 p7 1 = some [.int .i64 n8] /\
 AC Tryz.prog 236 [.int .i64 n8] h6 fun v9 h10 => ∃ q11 : OSl, ∃ n12 : Int, v9 = .tup [.sl q11, .int .i64 n12] /\
 zC 1 1 q2 q11 h10 fun q13 h14 =>
 (True) /\ I4 [.sl q13, .int .i64 (zE .i64 (n3 + 1))] h14 /\ m5 [.sl q13, .int .i64 (zE .i64 (n3 + 1))] h14 < m5 [.sl q2, .int .i64 n3] h6)
 (Q (.sl q2) h6)
theorem ac245 {q1 : OSl} {h : Heap} {Q : AHp} (hk : vc245 q1 h Q) : AC Tryz.prog 245 [.sl q1] h Q :=
 zL (H := zH [] [(0, [3, 10], [])]) (by kernel_rfl) (by kernel_rfl) hk
def vc246 (s1 : List UInt8) (h : Heap) (Q : AHp) : Prop :=
 AC Tryz.prog 236 [.int .i64 (s1.length : Int)] h fun v2 h3 => ∃ q4 : OSl, ∃ n5 : Int, v2 = .tup [.sl q4, .int .i64 n5] /\
 vD 1 1 q4 s1.length (zR s1) h3 fun q6 h7 =>
 Q (.sl q6) h7
theorem ac246 {s1 : List UInt8} {h : Heap} {Q : AHp} (hk : vc246 s1 h Q) : AC Tryz.prog 246 [.str s1] h Q :=
 zL (H := zH [] []) (by kernel_rfl) (by kernel_rfl) hk
def vc176 (q1 : OSl) (h : Heap) (Q : AHp) : Prop :=
 AC Tryz.prog 158 [.sl q1] h fun v2 h3 => ∃ p4 : OPa, v2 = .ptr p4 /\
 AC Tryz.prog 159 [.ptr p4] h3 fun v5 h6 => ∃ n7 : Int, v5 = .int .i64 n7 /\
 AC Tryz.prog 159 [.ptr p4] h6 fun v8 h9 => ∃ n10 : Int, v8 = .int .i64 n10 /\
 AC Tryz.prog 159 [.ptr p4] h9 fun v11 h12 => ∃ n13 : Int, v11 = .int .i64 n13 /\
 AC Tryz.prog 159 [.ptr p4] h12 fun v14 h15 => ∃ n16 : Int, v14 = .int .i64 n16 /\
 AC Tryz.prog 231 [.ptr p4] h15 fun v17 h18 => ∃ b19 : Bool, v17 = .bool b19 /\
 vif b19
 (Q (.tup [.agg [.int .i64 0, .int .i64 0, .int .i64 0, .sl none], .int .i64 140]) h18)
 (vif (decide (n16 > 256))
 (Q (.tup [.agg [.int .i64 0, .int .i64 0, .int .i64 0, .sl none], .int .i64 140]) h18)
 (∃ (I25 : LHp) (m26 : LHn), I25 [.int .i64 0, .int .i64 n7, .int .i64 n10, .int .i64 n13, .sl none] h18 /\
 ∀ n20 n21 : Int, ∀ n22 n23 : Int, ∀ q24 : OSl, ∀ h27 : Heap, I25 [.int .i64 n20, .int .i64 n21, .int .i64 n22, .int .i64 n23, .sl q24] h27 ->
 vif (decide (n20 < n16))
 (AC Tryz.prog 243 [.ptr p4, .int .i64 24] h27 fun v28 h29 => ∃ s30 : List UInt8, v28 = .str s30 /\
 (LV.val (.sl q24) = LV.val (.sl q24)) /\
 AC Tryz.prog 159 [.ptr p4] h29 fun v31 h32 => ∃ n33 : Int, v31 = .int .i64 n33 /\
 (LV.val (.sl q24) = LV.val (.sl q24)) /\
 AC Tryz.prog 159 [.ptr p4] h32 fun v34 h35 => ∃ n36 : Int, v34 = .int .i64 n36 /\
 (LV.val (.sl q24) = LV.val (.sl q24)) /\
 PNew [.str s30, .int .i64 n33, .int .i64 n36] true h35 fun a37 h38 =>
 (LV.val (.sl q24) = LV.val (.sl q24)) /\
 zC 3 32 q24 (some ⟨a37, 0, 1, 1, 0⟩) h38 fun q39 h40 =>
 (True /\ (some [.int .i64 0, .int .i64 0, .int .i64 0, .sl none] : Option (List AV)) = some [.int .i64 0, .int .i64 0, .int .i64 0, .sl none] /\ True) /\ I25 [.int .i64 (zE .i64 (n20 + 1)), .int .i64 n21, .int .i64 n22, .int .i64 n23, .sl q39] h40 /\ m26 [.int .i64 (zE .i64 (n20 + 1)), .int .i64 n21, .int .i64 n22, .int .i64 n23, .sl q39] h40 < m26 [.int .i64 n20, .int .i64 n21, .int .i64 n22, .int .i64 n23, .sl q24] h27)
 (AC Tryz.prog 160 [.ptr p4] h27 fun v41 h42 => ∃ n43 : Int, v41 = .int .i64 n43 /\
 vif (n43 != 0)
 (Q (.tup [.agg [.int .i64 0, .int .i64 0, .int .i64 0, .sl none], .int .i64 140]) h42)
 (AC Tryz.prog 107 [.agg [.int .i64 n21, .int .i64 n22, .int .i64 n23, .sl q24]] h42 fun v44 h45 => ∃ n46 : Int, v44 = .int .i64 n46 /\
 vif (n46 != 0)
 (Q (.tup [.agg [.int .i64 0, .int .i64 0, .int .i64 0, .sl none], .int .i64 140]) h45)
 (Q (.tup [.agg [.int .i64 n21, .int .i64 n22, .int .i64 n23, .sl q24], .int .i64 0]) h45)))))
theorem ac176 {q1 : OSl} {h : Heap} {Q : AHp} (hk : vc176 q1 h Q) : AC Tryz.prog 176 [.sl q1] h Q :=
 zL (H := zH [2, 5] [(0, [27], [1])]) (by kernel_rfl) (by kernel_rfl) hk
def vc125 (q1 : OSl) (s2 : List UInt8) (h : Heap) (Q : AHp) : Prop :=
 AC Tryz.prog 205 [.sl q1, .str s2] h fun v3 h4 => ∃ n5 : Int, v3 = .int .i64 n5 /\
 Q (.bool (decide (n5 ≥ 0))) h4
theorem ac125 {q1 : OSl} {s2 : List UInt8} {h : Heap} {Q : AHp} (hk : vc125 q1 s2 h Q) : AC Tryz.prog 125 [.sl q1, .str s2] h Q :=
 zL (H := zH [] []) (by kernel_rfl) (by kernel_rfl) hk
def vc205 (q1 : OSl) (s2 : List UInt8) (h : Heap) (Q : AHp) : Prop :=
 ∃ (I4 : LHp) (m5 : LHn), I4 [.int .i64 0] h /\
 ∀ n3 : Int, ∀ h6 : Heap, I4 [.int .i64 n3] h6 ->
 vif (decide (n3 < (zJ q1 : Int)))
 (vIdx q1 n3 1 fun p7 =>
 ∃ s8 : List UInt8, zA h6 p7 1 = some [.str s8] /\
 vif (s2 == s8)
 (Q (.int .i64 n3) h6)
 ((True) /\ I4 [.int .i64 (zE .i64 (n3 + 1))] h6 /\ m5 [.int .i64 (zE .i64 (n3 + 1))] h6 < m5 [.int .i64 n3] h6))
 (Q (.int .i64 (-1)) h6)
theorem ac205 {q1 : OSl} {s2 : List UInt8} {h : Heap} {Q : AHp} (hk : vc205 q1 s2 h Q) : AC Tryz.prog 205 [.sl q1, .str s2] h Q :=
 zL (H := zH [] [(0, [8], [])]) (by kernel_rfl) (by kernel_rfl) hk
def vc5 (q1 : OSl) (h : Heap) (Q : AHp) : Prop :=
 AC Tryz.prog 37 [.sl q1] h fun v2 h3 => ∃ b4 : Bool, v2 = .bool b4 /\
 vif b4
 (AC Tryz.prog 27 [] h3 fun v5 h6 => ∃ b7 : Bool, v5 = .bool b7 /\
 Q (.bool b7) h6)
 (AC Tryz.prog 38 [.int .i64 16384] h3 fun v8 h9 => ∃ p10 : OPa, v8 = .ptr p10 /\
 AC Tryz.prog 27 [] h9 fun v11 h12 => ∃ b13 : Bool, v11 = .bool b13 /\
 vif (!b13)
 (Q (.bool false) h12)
 (vif (p10.isNone)
 (Q (.bool false) h12)
 (AC Tryz.prog 39 [.ptr p10] h12 fun v14 h15 => ∃ b16 : Bool, v14 = .bool b16 /\
 vif (!b16)
 (Q (.bool false) h15)
 (∃ (I18 : LHp) (m19 : LHn), I18 [.int .i64 0] h15 /\
 ∀ n17 : Int, ∀ h20 : Heap, I18 [.int .i64 n17] h20 ->
 vif (decide (n17 < (zJ q1 : Int)))
 (vif (decide (n17 < 40))
 (vIdx q1 n17 8 fun p21 =>
 ∃ n22 : Int, zA h20 ⟨p21.b, p21.o + 0⟩ 1 = some [.int .i64 n22] /\
 vif (n22 == 1)
 (vIdx q1 n17 8 fun p23 =>
 ∃ n24 n25 : Int, ∃ n26 n27 : Int, ∃ q28 : OSl, ∃ n29 : Int, ∃ q30 : OSl, ∃ s31 : List UInt8, zA h20 p23 8 = some [.int .i64 n24, .int .i64 n25, .int .i64 n26, .int .i64 n27, .sl q28, .int .i64 n29, .sl q30, .str s31] /\
 AC Tryz.prog 40 [.ptr p10, .agg [.int .i64 n24, .int .i64 n25, .int .i64 n26, .int .i64 n27, .sl q28, .int .i64 n29, .sl q30, .str s31]] h20 fun v32 h33 => ∃ b34 : Bool, v32 = .bool b34 /\
 vif (!b34)
 (Q (.bool false) h33)
 ((True) /\ I18 [.int .i64 (zE .i64 (n17 + 1))] h33 /\ m19 [.int .i64 (zE .i64 (n17 + 1))] h33 < m19 [.int .i64 n17] h20))
 (vIdx q1 n17 8 fun p35 =>
 ∃ n36 : Int, zA h20 ⟨p35.b, p35.o + 0⟩ 1 = some [.int .i64 n36] /\
 vif (n36 == 7)
 (vIdx q1 n17 8 fun p37 =>
 ∃ n38 n39 : Int, ∃ n40 n41 : Int, ∃ q42 : OSl, ∃ n43 : Int, ∃ q44 : OSl, ∃ s45 : List UInt8, zA h20 p37 8 = some [.int .i64 n38, .int .i64 n39, .int .i64 n40, .int .i64 n41, .sl q42, .int .i64 n43, .sl q44, .str s45] /\
 AC Tryz.prog 40 [.ptr p10, .agg [.int .i64 n38, .int .i64 n39, .int .i64 n40, .int .i64 n41, .sl q42, .int .i64 n43, .sl q44, .str s45]] h20 fun v46 h47 => ∃ b48 : Bool, v46 = .bool b48 /\
 vif (!b48)
 (Q (.bool false) h47)
 ((True) /\ I18 [.int .i64 (zE .i64 (n17 + 1))] h47 /\ m19 [.int .i64 (zE .i64 (n17 + 1))] h47 < m19 [.int .i64 n17] h20))
 ((True) /\ I18 [.int .i64 (zE .i64 (n17 + 1))] h20 /\ m19 [.int .i64 (zE .i64 (n17 + 1))] h20 < m19 [.int .i64 n17] h20)))
 (vPtr p10 fun p49 =>
 ∃ p50 : OPa, zA h20 ⟨p49.b, p49.o + 1⟩ 1 = some [.ptr p50] /\
 AC Tryz.prog 35 [.ptr p50] h20 fun v51 h52 => ∃ p53 : OPa, v51 = .ptr p53 /\
 AC Tryz.prog 41 [.ptr p53] h52 fun v54 h55 => ∃ q56 : OSl, v54 = .sl q56 /\
 vPtr p10 fun p57 =>
 ∃ p58 : OPa, zA h55 ⟨p57.b, p57.o + 0⟩ 1 = some [.ptr p58] /\
 AC Tryz.prog 42 [.ptr p58] h55 fun v59 h60 => ∃ q61 : OSl, v59 = .sl q61 /\
 vPtr p10 fun p62 =>
 ∃ p63 : OPa, zA h60 ⟨p62.b, p62.o + 1⟩ 1 = some [.ptr p63] /\
 AC Tryz.prog 43 [.ptr p63] h60 fun v64 h65 => ∃ n66 n67 : Int, v64 = .tup [.int .i64 n66, .int .i64 n67] /\
 vif (n67 != 0)
 (Q (.bool false) h65)
 (vPtr p10 fun p68 =>
 ∃ p69 : OPa, zA h65 ⟨p68.b, p68.o + 0⟩ 1 = some [.ptr p69] /\
 AC Tryz.prog 42 [.ptr p69] h65 fun v70 h71 => ∃ q72 : OSl, v70 = .sl q72 /\
 ∃ (I75 : LHp) (m76 : LHn), I75 [.int .i64 0, .int .i64 0] h71 /\
 ∀ n73 n74 : Int, ∀ h77 : Heap, I75 [.int .i64 n73, .int .i64 n74] h77 ->
 vif (decide (n74 < (zJ q61 : Int)))
 (vIdx q61 n74 2 fun p78 =>
 ∃ s79 : List UInt8, zA h77 ⟨p78.b, p78.o + 0⟩ 1 = some [.str s79] /\
 vif (!(s79 == [106, 111, 117, 114, 110, 97, 108]))
 (vIdx q61 n74 2 fun p80 =>
 ∃ s81 : List UInt8, zA h77 ⟨p80.b, p80.o + 0⟩ 1 = some [.str s81] /\
 AC Tryz.prog 44 [.sl q56, .str s81] h77 fun v82 h83 => ∃ b84 : Bool, v82 = .bool b84 /\
 vif (!b84)
 ((True) /\ I75 [.int .i64 n73, .int .i64 (zE .i64 (n74 + 1))] h83 /\ m76 [.int .i64 n73, .int .i64 (zE .i64 (n74 + 1))] h83 < m76 [.int .i64 n73, .int .i64 n74] h77)
 (vif (decide (n73 ≥ (zJ q72 : Int)))
 (Q (.bool false) h83)
 (vIdx q72 n73 2 fun p85 =>
 ∃ s86 : List UInt8, ∃ n87 : Int, zA h83 p85 2 = some [.str s86, .int .i64 n87] /\
 vIdx q61 n74 2 fun p88 =>
 ∃ s89 : List UInt8, ∃ n90 : Int, zA h83 p88 2 = some [.str s89, .int .i64 n90] /\
 vif (!((s86 == s89) && ((n87 == n90) && true)))
 (Q (.bool false) h83)
 ((True) /\ I75 [.int .i64 (zE .i64 (n73 + 1)), .int .i64 (zE .i64 (n74 + 1))] h83 /\ m76 [.int .i64 (zE .i64 (n73 + 1)), .int .i64 (zE .i64 (n74 + 1))] h83 < m76 [.int .i64 n73, .int .i64 n74] h77))))
 (vif (decide (n73 ≥ (zJ q72 : Int)))
 (Q (.bool false) h77)
 (vIdx q72 n73 2 fun p91 =>
 ∃ s92 : List UInt8, ∃ n93 : Int, zA h77 p91 2 = some [.str s92, .int .i64 n93] /\
 vIdx q61 n74 2 fun p94 =>
 ∃ s95 : List UInt8, ∃ n96 : Int, zA h77 p94 2 = some [.str s95, .int .i64 n96] /\
 vif (!((s92 == s95) && ((n93 == n96) && true)))
 (Q (.bool false) h77)
 ((True) /\ I75 [.int .i64 (zE .i64 (n73 + 1)), .int .i64 (zE .i64 (n74 + 1))] h77 /\ m76 [.int .i64 (zE .i64 (n73 + 1)), .int .i64 (zE .i64 (n74 + 1))] h77 < m76 [.int .i64 n73, .int .i64 n74] h77))))
 (Q (.bool (n73 == (zJ q72 : Int))) h77))))
 (vPtr p10 fun p97 =>
 ∃ p98 : OPa, zA h20 ⟨p97.b, p97.o + 1⟩ 1 = some [.ptr p98] /\
 AC Tryz.prog 35 [.ptr p98] h20 fun v99 h100 => ∃ p101 : OPa, v99 = .ptr p101 /\
 AC Tryz.prog 41 [.ptr p101] h100 fun v102 h103 => ∃ q104 : OSl, v102 = .sl q104 /\
 vPtr p10 fun p105 =>
 ∃ p106 : OPa, zA h103 ⟨p105.b, p105.o + 0⟩ 1 = some [.ptr p106] /\
 AC Tryz.prog 42 [.ptr p106] h103 fun v107 h108 => ∃ q109 : OSl, v107 = .sl q109 /\
 vPtr p10 fun p110 =>
 ∃ p111 : OPa, zA h108 ⟨p110.b, p110.o + 1⟩ 1 = some [.ptr p111] /\
 AC Tryz.prog 43 [.ptr p111] h108 fun v112 h113 => ∃ n114 n115 : Int, v112 = .tup [.int .i64 n114, .int .i64 n115] /\
 vif (n115 != 0)
 (Q (.bool false) h113)
 (vPtr p10 fun p116 =>
 ∃ p117 : OPa, zA h113 ⟨p116.b, p116.o + 0⟩ 1 = some [.ptr p117] /\
 AC Tryz.prog 42 [.ptr p117] h113 fun v118 h119 => ∃ q120 : OSl, v118 = .sl q120 /\
 ∃ (I123 : LHp) (m124 : LHn), I123 [.int .i64 0, .int .i64 0] h119 /\
 ∀ n121 n122 : Int, ∀ h125 : Heap, I123 [.int .i64 n121, .int .i64 n122] h125 ->
 vif (decide (n122 < (zJ q109 : Int)))
 (vIdx q109 n122 2 fun p126 =>
 ∃ s127 : List UInt8, zA h125 ⟨p126.b, p126.o + 0⟩ 1 = some [.str s127] /\
 vif (!(s127 == [106, 111, 117, 114, 110, 97, 108]))
 (vIdx q109 n122 2 fun p128 =>
 ∃ s129 : List UInt8, zA h125 ⟨p128.b, p128.o + 0⟩ 1 = some [.str s129] /\
 AC Tryz.prog 44 [.sl q104, .str s129] h125 fun v130 h131 => ∃ b132 : Bool, v130 = .bool b132 /\
 vif (!b132)
 ((True) /\ I123 [.int .i64 n121, .int .i64 (zE .i64 (n122 + 1))] h131 /\ m124 [.int .i64 n121, .int .i64 (zE .i64 (n122 + 1))] h131 < m124 [.int .i64 n121, .int .i64 n122] h125)
 (vif (decide (n121 ≥ (zJ q120 : Int)))
 (Q (.bool false) h131)
 (vIdx q120 n121 2 fun p133 =>
 ∃ s134 : List UInt8, ∃ n135 : Int, zA h131 p133 2 = some [.str s134, .int .i64 n135] /\
 vIdx q109 n122 2 fun p136 =>
 ∃ s137 : List UInt8, ∃ n138 : Int, zA h131 p136 2 = some [.str s137, .int .i64 n138] /\
 vif (!((s134 == s137) && ((n135 == n138) && true)))
 (Q (.bool false) h131)
 ((True) /\ I123 [.int .i64 (zE .i64 (n121 + 1)), .int .i64 (zE .i64 (n122 + 1))] h131 /\ m124 [.int .i64 (zE .i64 (n121 + 1)), .int .i64 (zE .i64 (n122 + 1))] h131 < m124 [.int .i64 n121, .int .i64 n122] h125))))
 (vif (decide (n121 ≥ (zJ q120 : Int)))
 (Q (.bool false) h125)
 (vIdx q120 n121 2 fun p139 =>
 ∃ s140 : List UInt8, ∃ n141 : Int, zA h125 p139 2 = some [.str s140, .int .i64 n141] /\
 vIdx q109 n122 2 fun p142 =>
 ∃ s143 : List UInt8, ∃ n144 : Int, zA h125 p142 2 = some [.str s143, .int .i64 n144] /\
 vif (!((s140 == s143) && ((n141 == n144) && true)))
 (Q (.bool false) h125)
 ((True) /\ I123 [.int .i64 (zE .i64 (n121 + 1)), .int .i64 (zE .i64 (n122 + 1))] h125 /\ m124 [.int .i64 (zE .i64 (n121 + 1)), .int .i64 (zE .i64 (n122 + 1))] h125 < m124 [.int .i64 n121, .int .i64 n122] h125))))
 (Q (.bool (n121 == (zJ q120 : Int))) h125)))))))
theorem ac5 {q1 : OSl} {h : Heap} {Q : AHp} (hk : vc5 q1 h Q) : AC Tryz.prog 5 [.sl q1] h Q :=
 zL (H := zH [] [(0, [4], []), (2, [10, 11], [])]) (by kernel_rfl) (by kernel_rfl) hk
def vc27  (h : Heap) (Q : AHp) : Prop :=
 AC Tryz.prog 26 [.int .i64 50] h fun v1 h2 => ∃ p3 : OPa, ∃ n4 : Int, v1 = .tup [.ptr p3, .int .i64 n4] /\
 vif (n4 != 0)
 (Q (.bool false) h2)
 (vif (p3.isNone)
 (Q (.bool false) h2)
 (AC Tryz.prog 28 [.ptr p3] h2 fun v5 h6 => ∃ p7 : OPa, ∃ n8 : Int, v5 = .tup [.ptr p7, .int .i64 n8] /\
 vif (p7.isNone)
 (Q (.bool false) h6)
 (AC Tryz.prog 49 [.int .i64 1, .int .i64 0, .int .i64 1, .str [115]] h6 fun v9 h10 => ∃ n11 n12 n13 : Int, ∃ q14 : OSl, v9 = .agg [.int .i64 n11, .int .i64 n12, .int .i64 n13, .sl q14] /\
 AC Tryz.prog 33 [.ptr p7, .agg [.int .i64 n11, .int .i64 n12, .int .i64 n13, .sl q14]] h10 fun v15 h16 => ∃ n17 : Int, v15 = .int .i64 n17 /\
 AC Tryz.prog 29 [.ptr p3, .int .i64 2] h16 fun v18 h19 => ∃ n20 : Int, v18 = .int .i64 n20 /\
 AC Tryz.prog 49 [.int .i64 2, .int .i64 0, .int .i64 0, .str [116]] h19 fun v21 h22 => ∃ n23 n24 n25 : Int, ∃ q26 : OSl, v21 = .agg [.int .i64 n23, .int .i64 n24, .int .i64 n25, .sl q26] /\
 AC Tryz.prog 33 [.ptr p7, .agg [.int .i64 n23, .int .i64 n24, .int .i64 n25, .sl q26]] h22 fun v27 h28 => ∃ n29 : Int, v27 = .int .i64 n29 /\
 PNew [.int .i64 64] true h28 fun a30 h31 =>
 AC Tryz.prog 34 [.ptr p3, .sl (some ⟨a30, 0, 1, 1, 0⟩)] h31 fun v32 h33 => v32 = .tup [] /\
 AC Tryz.prog 28 [.ptr p3] h33 fun v34 h35 => ∃ p36 : OPa, ∃ n37 : Int, v34 = .tup [.ptr p36, .int .i64 n37] /\
 AC Tryz.prog 28 [.ptr none] h35 fun v38 h39 => ∃ p40 : OPa, ∃ n41 : Int, v38 = .tup [.ptr p40, .int .i64 n41] /\
 vif (n8 == 0)
 (vif (n17 == 0)
 (vif (n20 == 0)
 (vif (n29 == 0)
 (vif (n37 == 0)
 (vif (!(p36.isNone))
 (AC Tryz.prog 35 [.ptr p36] h39 fun v42 h43 => ∃ p44 : OPa, v42 = .ptr p44 /\
 AC Tryz.prog 46 [.ptr p44] h43 fun v45 h46 => ∃ n47 : Int, v45 = .int .i64 n47 /\
 vif (n47 == 1)
 (AC Tryz.prog 47 [.ptr p36] h46 fun v48 h49 => ∃ n50 : Int, v48 = .int .i64 n50 /\
 vif (n50 == 1)
 (AC Tryz.prog 48 [.ptr p36] h49 fun v51 h52 => ∃ b53 : Bool, v51 = .bool b53 /\
 vif (!b53)
 (AC Tryz.prog 47 [.ptr p7] h52 fun v54 h55 => ∃ n56 : Int, v54 = .int .i64 n56 /\
 vif (n56 == 2)
 (Q (.bool (n41 == 6)) h55)
 (Q (.bool false) h55))
 (Q (.bool false) h52))
 (Q (.bool false) h49))
 (Q (.bool false) h46))
 (Q (.bool false) h39))
 (Q (.bool false) h39))
 (Q (.bool false) h39))
 (Q (.bool false) h39))
 (Q (.bool false) h39))
 (Q (.bool false) h39))))
theorem ac27  {h : Heap} {Q : AHp} (hk : vc27  h Q) : AC Tryz.prog 27 [] h Q :=
 zL (H := zH [] []) (by kernel_rfl) (by kernel_rfl) hk
def vc37 (q1 : OSl) (h : Heap) (Q : AHp) : Prop :=
 ∃ (I3 : LHp) (m4 : LHn), I3 [.int .i64 0] h /\
 ∀ n2 : Int, ∀ h5 : Heap, I3 [.int .i64 n2] h5 ->
 vif (decide (n2 < (zJ q1 : Int)))
 (vif (decide (n2 < 40))
 (vIdx q1 n2 8 fun p6 =>
 ∃ q7 : OSl, zA h5 ⟨p6.b, (p6.o + 1) + 3⟩ 1 = some [.sl q7] /\
 vif (decide ((zJ q7 : Int) > 20))
 (Q (.bool true) h5)
 (vIdx q1 n2 8 fun p8 =>
 ∃ s9 : List UInt8, zA h5 ⟨p8.b, p8.o + 7⟩ 1 = some [.str s9] /\
 vif (decide ((s9.length : Int) > 100))
 (Q (.bool true) h5)
 (∃ (I11 : LHp) (m12 : LHn), I11 [.int .i64 0] h5 /\
 ∀ n10 : Int, ∀ h13 : Heap, I11 [.int .i64 n10] h13 ->
 vIdx q1 n2 8 fun p14 =>
 ∃ q15 : OSl, zA h13 ⟨p14.b, (p14.o + 1) + 3⟩ 1 = some [.sl q15] /\
 vif (decide (n10 < (zJ q15 : Int)))
 (vIdx q1 n2 8 fun p16 =>
 ∃ q17 : OSl, zA h13 ⟨p16.b, (p16.o + 1) + 3⟩ 1 = some [.sl q17] /\
 vIdx q17 n10 3 fun p18 =>
 ∃ s19 : List UInt8, zA h13 ⟨p18.b, p18.o + 0⟩ 1 = some [.str s19] /\
 vif (decide ((s19.length : Int) > 100))
 (Q (.bool true) h13)
 ((True) /\ I11 [.int .i64 (zE .i64 (n10 + 1))] h13 /\ m12 [.int .i64 (zE .i64 (n10 + 1))] h13 < m12 [.int .i64 n10] h13))
 ((True) /\ I3 [.int .i64 (zE .i64 (n2 + 1))] h13 /\ m4 [.int .i64 (zE .i64 (n2 + 1))] h13 < m4 [.int .i64 n2] h5))))
 (Q (.bool false) h5))
 (Q (.bool false) h5)
theorem ac37 {q1 : OSl} {h : Heap} {Q : AHp} (hk : vc37 q1 h Q) : AC Tryz.prog 37 [.sl q1] h Q :=
 zL (H := zH [] [(0, [3], []), (2, [4], [])]) (by kernel_rfl) (by kernel_rfl) hk
def vc38 (n1 : Int) (h : Heap) (Q : AHp) : Prop :=
 AC Tryz.prog 26 [.int .i64 n1] h fun v2 h3 => ∃ p4 : OPa, ∃ n5 : Int, v2 = .tup [.ptr p4, .int .i64 n5] /\
 AC Tryz.prog 50 [.int .i64 n1] h3 fun v6 h7 => ∃ p8 : OPa, v6 = .ptr p8 /\
 vif (n5 != 0)
 (Q (.ptr none) h7)
 (vif (p4.isNone)
 (Q (.ptr none) h7)
 (vif (p8.isNone)
 (Q (.ptr none) h7)
 (PNew [.ptr p4, .ptr none, .ptr p8, .ptr none] true h7 fun a9 h10 =>
 Q (.ptr (some ⟨a9, 0⟩)) h10)))
theorem ac38 {n1 : Int} {h : Heap} {Q : AHp} (hk : vc38 n1 h Q) : AC Tryz.prog 38 [.int .i64 n1] h Q :=
 zL (H := zH [] []) (by kernel_rfl) (by kernel_rfl) hk
def vc39 (p1 : OPa) (h : Heap) (Q : AHp) : Prop :=
 vPtr p1 fun p2 =>
 ∃ p3 : OPa, zA h ⟨p2.b, p2.o + 0⟩ 1 = some [.ptr p3] /\
 AC Tryz.prog 28 [.ptr p3] h fun v4 h5 => ∃ p6 : OPa, ∃ n7 : Int, v4 = .tup [.ptr p6, .int .i64 n7] /\
 vPtr p1 fun p8 =>
 ∃ p9 : OPa, zA h5 ⟨p8.b, p8.o + 2⟩ 1 = some [.ptr p9] /\
 AC Tryz.prog 116 [.ptr p9] h5 fun v10 h11 => ∃ p12 : OPa, ∃ n13 : Int, v10 = .tup [.ptr p12, .int .i64 n13] /\
 vPtr p1 fun p14 =>
 zI h11 ⟨p14.b, p14.o + 1⟩ [.ptr p6] fun h15 =>
 vPtr p1 fun p16 =>
 zI h15 ⟨p16.b, p16.o + 3⟩ [.ptr p12] fun h17 =>
 vif (n7 == n13)
 (Q (.bool ((!(p6.isNone)) == (!(p12.isNone)))) h17)
 (Q (.bool false) h17)
theorem ac39 {p1 : OPa} {h : Heap} {Q : AHp} (hk : vc39 p1 h Q) : AC Tryz.prog 39 [.ptr p1] h Q :=
 zL (H := zH [] []) (by kernel_rfl) (by kernel_rfl) hk
def vc40 (p1 : OPa) (n2 : Int) (n3 : Int) (n4 : Int) (n5 : Int) (q6 : OSl) (n7 : Int) (q8 : OSl) (s9 : List UInt8) (h : Heap) (Q : AHp) : Prop :=
 vif (n2 == 1)
 (vPtr p1 fun p10 =>
 ∃ p11 : OPa, zA h ⟨p10.b, p10.o + 3⟩ 1 = some [.ptr p11] /\
 vif (p11.isNone)
 ((LV.val (.tup []) = LV.val (.tup [])) /\
 (LV.val (.tup []) = LV.val (.tup [])) /\
 Q (.bool true) h)
 (vPtr p1 fun p12 =>
 ∃ p13 : OPa, zA h ⟨p12.b, p12.o + 1⟩ 1 = some [.ptr p13] /\
 vPtr p1 fun p14 =>
 ∃ p15 : OPa, zA h ⟨p14.b, p14.o + 3⟩ 1 = some [.ptr p15] /\
 AC Tryz.prog 33 [.ptr p13, .agg [.int .i64 n3, .int .i64 n4, .int .i64 n5, .sl q6]] h fun v16 h17 => ∃ n18 : Int, v16 = .int .i64 n18 /\
 (LV.val (.agg [.int .i64 n3, .int .i64 n4, .int .i64 n5, .sl q6]) = LV.val (.agg [.int .i64 n3, .int .i64 n4, .int .i64 n5, .sl q6])) /\
 (∃ p22 : OPa, zA h17 ⟨p14.b, p14.o + 3⟩ 1 = some [.ptr p22] /\
 LV.val (.ptr p22) = LV.val (.ptr p15)) /\
 AC Tryz.prog 117 [.ptr p15, .agg [.int .i64 n3, .int .i64 n4, .int .i64 n5, .sl q6]] h17 fun v19 h20 => ∃ n21 : Int, v19 = .int .i64 n21 /\
 Q (.bool (n18 == n21)) h20))
 (vif (n2 == 2)
 (vPtr p1 fun p23 =>
 ∃ p24 : OPa, zA h ⟨p23.b, p23.o + 3⟩ 1 = some [.ptr p24] /\
 vif (p24.isNone)
 ((LV.val (.tup []) = LV.val (.tup [])) /\
 Q (.bool true) h)
 (vPtr p1 fun p25 =>
 ∃ p26 : OPa, zA h ⟨p25.b, p25.o + 1⟩ 1 = some [.ptr p26] /\
 vPtr p1 fun p27 =>
 ∃ p28 : OPa, zA h ⟨p27.b, p27.o + 3⟩ 1 = some [.ptr p28] /\
 AC Tryz.prog 45 [.ptr p26] h fun v29 h30 => ∃ n31 : Int, v29 = .int .i64 n31 /\
 (∃ p35 : OPa, zA h30 ⟨p27.b, p27.o + 3⟩ 1 = some [.ptr p35] /\
 LV.val (.ptr p35) = LV.val (.ptr p28)) /\
 AC Tryz.prog 118 [.ptr p28] h30 fun v32 h33 => ∃ n34 : Int, v32 = .int .i64 n34 /\
 Q (.bool (n31 == n34)) h33))
 (vif (n2 == 3)
 (vPtr p1 fun p36 =>
 ∃ p37 : OPa, zA h ⟨p36.b, p36.o + 3⟩ 1 = some [.ptr p37] /\
 vif (p37.isNone)
 (Q (.bool true) h)
 (vPtr p1 fun p38 =>
 ∃ p39 : OPa, zA h ⟨p38.b, p38.o + 1⟩ 1 = some [.ptr p39] /\
 AC Tryz.prog 43 [.ptr p39] h fun v40 h41 => ∃ n42 n43 : Int, v40 = .tup [.int .i64 n42, .int .i64 n43] /\
 vPtr p1 fun p44 =>
 ∃ p45 : OPa, zA h41 ⟨p44.b, p44.o + 3⟩ 1 = some [.ptr p45] /\
 AC Tryz.prog 119 [.ptr p45] h41 fun v46 h47 => ∃ n48 n49 : Int, v46 = .tup [.int .i64 n48, .int .i64 n49] /\
 vif (n42 == n48)
 (Q (.bool (n43 == n49)) h47)
 (Q (.bool false) h47)))
 (vif (n2 == 4)
 (AC Tryz.prog 39 [.ptr p1] h fun v50 h51 => ∃ b52 : Bool, v50 = .bool b52 /\
 Q (.bool b52) h51)
 (vif (n2 == 5)
 (vif (decide (n7 ≥ 0))
 (vPtr p1 fun p53 =>
 ∃ p54 : OPa, zA h ⟨p53.b, p53.o + 2⟩ 1 = some [.ptr p54] /\
 vPtr p54 fun p55 =>
 zI h ⟨p55.b, p55.o + 3⟩ [.int .i64 n7] fun h56 =>
 vPtr p1 fun p57 =>
 ∃ p58 : OPa, zA h56 ⟨p57.b, p57.o + 0⟩ 1 = some [.ptr p58] /\
 AC Tryz.prog 29 [.ptr p58, .int .i64 n7] h56 fun v59 h60 => ∃ n61 : Int, v59 = .int .i64 n61 /\
 Q (.bool (n61 == 0)) h60)
 (Q (.bool true) h))
 (vif (n2 == 6)
 (vPtr p1 fun p62 =>
 ∃ p63 : OPa, zA h ⟨p62.b, p62.o + 0⟩ 1 = some [.ptr p63] /\
 AC Tryz.prog 34 [.ptr p63, .sl q8] h fun v64 h65 => v64 = .tup [] /\
 vPtr p1 fun p66 =>
 ∃ p67 : OPa, zA h65 ⟨p66.b, p66.o + 2⟩ 1 = some [.ptr p67] /\
 AC Tryz.prog 120 [.ptr p67, .sl q8] h65 fun v68 h69 => v68 = .tup [] /\
 AC Tryz.prog 39 [.ptr p1] h69 fun v70 h71 => ∃ b72 : Bool, v70 = .bool b72 /\
 Q (.bool b72) h71)
 (vif (n2 == 7)
 (vPtr p1 fun p73 =>
 ∃ p74 : OPa, zA h ⟨p73.b, p73.o + 0⟩ 1 = some [.ptr p74] /\
 vPtr p1 fun p75 =>
 ∃ p76 : OPa, zA h ⟨p75.b, p75.o + 2⟩ 1 = some [.ptr p76] /\
 AC Tryz.prog 95 [.ptr p74, .str s9] h fun v77 h78 => ∃ n79 : Int, v77 = .int .i64 n79 /\
 (LV.val (.str s9) = LV.val (.str s9)) /\
 (∃ p83 : OPa, zA h78 ⟨p75.b, p75.o + 2⟩ 1 = some [.ptr p83] /\
 LV.val (.ptr p83) = LV.val (.ptr p76)) /\
 AC Tryz.prog 121 [.ptr p76, .str s9] h78 fun v80 h81 => ∃ n82 : Int, v80 = .int .i64 n82 /\
 Q (.bool (n79 == n82)) h81)
 (Q (.bool true) h)))))))
theorem ac40 {p1 : OPa} {n2 : Int} {n3 : Int} {n4 : Int} {n5 : Int} {q6 : OSl} {n7 : Int} {q8 : OSl} {s9 : List UInt8} {h : Heap} {Q : AHp} (hk : vc40 p1 n2 n3 n4 n5 q6 n7 q8 s9 h Q) : AC Tryz.prog 40 [.ptr p1, .agg [.int .i64 n2, .int .i64 n3, .int .i64 n4, .int .i64 n5, .sl q6, .int .i64 n7, .sl q8, .str s9]] h Q :=
 zL (H := zH [3] []) (by kernel_rfl) (by kernel_rfl) hk
def vc44 (q1 : OSl) (s2 : List UInt8) (h : Heap) (Q : AHp) : Prop :=
 ∃ (I4 : LHp) (m5 : LHn), I4 [.int .i64 0] h /\
 ∀ n3 : Int, ∀ h6 : Heap, I4 [.int .i64 n3] h6 ->
 vif (decide (n3 < (zJ q1 : Int)))
 (vIdx q1 n3 1 fun p7 =>
 ∃ s8 : List UInt8, zA h6 p7 1 = some [.str s8] /\
 vif (s8 == s2)
 (Q (.bool true) h6)
 ((True) /\ I4 [.int .i64 (zE .i64 (n3 + 1))] h6 /\ m5 [.int .i64 (zE .i64 (n3 + 1))] h6 < m5 [.int .i64 n3] h6))
 (Q (.bool false) h6)
theorem ac44 {q1 : OSl} {s2 : List UInt8} {h : Heap} {Q : AHp} (hk : vc44 q1 s2 h Q) : AC Tryz.prog 44 [.sl q1, .str s2] h Q :=
 zL (H := zH [] [(0, [5], [])]) (by kernel_rfl) (by kernel_rfl) hk
def vc49 (n1 : Int) (n2 : Int) (n3 : Int) (s4 : List UInt8) (h : Heap) (Q : AHp) : Prop :=
 PNew [.str s4, .int .i64 300, .int .i64 2] true h fun a5 h6 =>
 Q (.agg [.int .i64 n1, .int .i64 n2, .int .i64 n3, .sl (some ⟨a5, 0, 1, 1, 0⟩)]) h6
theorem ac49 {n1 : Int} {n2 : Int} {n3 : Int} {s4 : List UInt8} {h : Heap} {Q : AHp} (hk : vc49 n1 n2 n3 s4 h Q) : AC Tryz.prog 49 [.int .i64 n1, .int .i64 n2, .int .i64 n3, .str s4] h Q :=
 zL (H := zH [8] []) (by kernel_rfl) (by kernel_rfl) hk
end Go.Proofs
