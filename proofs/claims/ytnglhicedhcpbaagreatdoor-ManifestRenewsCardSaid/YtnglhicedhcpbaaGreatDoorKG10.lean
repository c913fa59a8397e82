import Derived.Test.YtnglhicedhcpbaaGreatDoorKG9
import Derived.Test.YtnglhicedhcpbaaGreatDoorProg
import Derived.KernelRfl
namespace Go.Proofs
open Go.Ab
set_option maxRecDepth 100000
set_option linter.unusedVariables false
def vc110 (p1 : PA) (p2 : PA) (h : Heap) (Q : AV → Heap → Prop) : Prop :=
 ∃ p3 : Option PA, cellsAt h p1 1 = some [.ptr p3] ∧
 ∃ n4 n5 n6 : Int, ∃ q7 : Option SL, cellsAt h p2 4 = some [.int .i64 n4, .int .i64 n5, .int .i64 n6, .sl q7] ∧
 AC Tryz.prog 111 [.ptr p3, .str [106, 111, 117, 114, 110, 97, 108], .agg [.int .i64 n4, .int .i64 n5, .int .i64 n6, .sl q7]] h fun v8 h9 => ∃ n10 : Int, v8 = .int .i64 n10 ∧
 Q (.int .i64 n10) h9
theorem ac110 {p1 : PA} {p2 : PA} {h : Heap} {Q : AV → Heap → Prop} (hk : vc110 p1 p2 h Q) : AC Tryz.prog 110 [.ptr (some p1), .ptr (some p2)] h Q :=
 AC_by (H := hintsOf [] []) (by kernel_rfl) (by kernel_rfl) hk
def vc112 (p1 : PA) (h : Heap) (Q : AV → Heap → Prop) : Prop :=
 ∃ p2 : Option PA, cellsAt h p1 1 = some [.ptr p2] ∧
 vPtr p2 fun p3 =>
 ∃ p4 : Option PA, cellsAt h ⟨p3.b, p3.o + 0⟩ 1 = some [.ptr p4] ∧
 AC Tryz.prog 97 [.ptr p4, .str [106, 111, 117, 114, 110, 97, 108]] h fun v5 h6 => ∃ n7 : Int, v5 = .int .i64 n7 ∧
 Q (.int .i64 n7) h6
theorem ac112 {p1 : PA} {h : Heap} {Q : AV → Heap → Prop} (hk : vc112 p1 h Q) : AC Tryz.prog 112 [.ptr (some p1)] h Q :=
 AC_by (H := hintsOf [] []) (by kernel_rfl) (by kernel_rfl) hk
def vc178 (p1 : PA) (h : Heap) (Q : AV → Heap → Prop) : Prop :=
 ∃ p2 : Option PA, cellsAt h p1 1 = some [.ptr p2] ∧
 vPtr p2 fun p3 =>
 ∃ p4 : Option PA, cellsAt h ⟨p3.b, p3.o + 0⟩ 1 = some [.ptr p4] ∧
 AC Tryz.prog 95 [.ptr p4, .str [106, 111, 117, 114, 110, 97, 108, 46, 110, 101, 119]] h fun v5 h6 => ∃ n7 : Int, v5 = .int .i64 n7 ∧
 Q (.int .i64 n7) h6
theorem ac178 {p1 : PA} {h : Heap} {Q : AV → Heap → Prop} (hk : vc178 p1 h Q) : AC Tryz.prog 178 [.ptr (some p1)] h Q :=
 AC_by (H := hintsOf [] []) (by kernel_rfl) (by kernel_rfl) hk
def vc180 (p1 : PA) (h : Heap) (Q : AV → Heap → Prop) : Prop :=
 ∃ p2 : Option PA, cellsAt h p1 1 = some [.ptr p2] ∧
 vPtr p2 fun p3 =>
 ∃ p4 : Option PA, cellsAt h ⟨p3.b, p3.o + 0⟩ 1 = some [.ptr p4] ∧
 AC Tryz.prog 97 [.ptr p4, .str [106, 111, 117, 114, 110, 97, 108, 46, 110, 101, 119]] h fun v5 h6 => ∃ n7 : Int, v5 = .int .i64 n7 ∧
 Q (.int .i64 n7) h6
theorem ac180 {p1 : PA} {h : Heap} {Q : AV → Heap → Prop} (hk : vc180 p1 h Q) : AC Tryz.prog 180 [.ptr (some p1)] h Q :=
 AC_by (H := hintsOf [] []) (by kernel_rfl) (by kernel_rfl) hk
def vc181 (p1 : PA) (h : Heap) (Q : AV → Heap → Prop) : Prop :=
 ∃ p2 : Option PA, cellsAt h p1 1 = some [.ptr p2] ∧
 vPtr p2 fun p3 =>
 ∃ p4 : Option PA, cellsAt h ⟨p3.b, p3.o + 0⟩ 1 = some [.ptr p4] ∧
 AC Tryz.prog 182 [.ptr p4, .str [106, 111, 117, 114, 110, 97, 108, 46, 110, 101, 119], .str [106, 111, 117, 114, 110, 97, 108]] h fun v5 h6 => ∃ n7 : Int, v5 = .int .i64 n7 ∧
 Q (.int .i64 n7) h6
theorem ac181 {p1 : PA} {h : Heap} {Q : AV → Heap → Prop} (hk : vc181 p1 h Q) : AC Tryz.prog 181 [.ptr (some p1)] h Q :=
 AC_by (H := hintsOf [] []) (by kernel_rfl) (by kernel_rfl) hk
def vc28 (p1 : Option PA) (h : Heap) (Q : AV → Heap → Prop) : Prop :=
 vif (p1.isNone)
 (Q (.tup [.ptr none, .int .i64 6]) h)
 (AC Tryz.prog 98 [.ptr p1] h fun v2 h3 => ∃ b4 : Bool, v2 = .bool b4 ∧
 vif b4
 (Q (.tup [.ptr none, .int .i64 50]) h3)
 (AC Tryz.prog 100 [.ptr p1, .str [106, 111, 117, 114, 110, 97, 108]] h3 fun v5 h6 => ∃ q7 : Option SL, v5 = .sl q7 ∧
 AC Tryz.prog 99 [.sl q7] h6 fun v8 h9 => ∃ p10 : Option PA, v8 = .ptr p10 ∧
 PNew [.ptr p1, .ptr p10, .int .i64 0, .bool false] true h9 fun a11 h12 =>
 PNew [.func (.func 102) [.ptr (some ⟨a11, 0⟩)] [], .func (.func 103) [.ptr (some ⟨a11, 0⟩)] []] true h12 fun a13 h14 =>
 AC Tryz.prog 101 [.sl (some ⟨a13, 0, 2, 2, 0⟩)] h14 fun v15 h16 => ∃ n17 : Int, v15 = .int .i64 n17 ∧
 vif (n17 != 0)
 (Q (.tup [.ptr none, .int .i64 n17]) h16)
 (Q (.tup [.ptr (some ⟨a11, 0⟩), .int .i64 0]) h16)))
theorem ac28 {p1 : Option PA} {h : Heap} {Q : AV → Heap → Prop} (hk : vc28 p1 h Q) : AC Tryz.prog 28 [.ptr p1] h Q :=
 AC_by (H := hintsOf [] []) (by kernel_rfl) (by kernel_rfl) hk
def vc33 (p1 : Option PA) (n2 : Int) (n3 : Int) (n4 : Int) (q5 : Option SL) (h : Heap) (Q : AV → Heap → Prop) : Prop :=
 PNew [.ptr p1] true h fun a6 h7 =>
 PNew [.int .i64 n2, .int .i64 n3, .int .i64 n4, .sl q5] true h7 fun a8 h9 =>
 ∃ p10 : Option PA, cellsAt h9 ⟨a6, 0⟩ 1 = some [.ptr p10] ∧
 AC Tryz.prog 48 [.ptr p10] h9 fun v11 h12 => ∃ b13 : Bool, v11 = .bool b13 ∧
 vif b13
 (Q (.int .i64 6) h12)
 (∃ p14 : Option PA, cellsAt h12 ⟨a6, 0⟩ 1 = some [.ptr p14] ∧
 vPtr p14 fun p15 =>
 ∃ p16 : Option PA, cellsAt h12 ⟨p15.b, p15.o + 1⟩ 1 = some [.ptr p16] ∧
 AC Tryz.prog 109 [.ptr p16] h12 fun v17 h18 => ∃ p19 : Option PA, v17 = .ptr p19 ∧
 ∃ n20 n21 n22 : Int, ∃ q23 : Option SL, cellsAt h18 ⟨a8, 0⟩ 4 = some [.int .i64 n20, .int .i64 n21, .int .i64 n22, .sl q23] ∧
 AC Tryz.prog 32 [.ptr p19, .agg [.int .i64 n20, .int .i64 n21, .int .i64 n22, .sl q23]] h18 fun v24 h25 => ∃ n26 : Int, v24 = .int .i64 n26 ∧
 vif (n26 != 0)
 (Q (.int .i64 n26) h25)
 (PNew [.func (.func 110) [] [.ptr (some ⟨a6, 0⟩), .ptr (some ⟨a8, 0⟩)], .func (.func 112) [] [.ptr (some ⟨a6, 0⟩)]] true h25 fun a27 h28 =>
 AC Tryz.prog 101 [.sl (some ⟨a27, 0, 2, 2, 0⟩)] h28 fun v29 h30 => ∃ n31 : Int, v29 = .int .i64 n31 ∧
 vif (n31 != 0)
 (∃ p32 : Option PA, cellsAt h30 ⟨a6, 0⟩ 1 = some [.ptr p32] ∧
 vPtr p32 fun p33 =>
 PStore h30 ⟨p33.b, p33.o + 3⟩ [.bool true] fun h34 =>
 Q (.int .i64 n31) h34)
 (∃ p35 : Option PA, cellsAt h30 ⟨a6, 0⟩ 1 = some [.ptr p35] ∧
 vPtr p35 fun p36 =>
 PStore h30 ⟨p36.b, p36.o + 1⟩ [.ptr p19] fun h37 =>
 Q (.int .i64 0) h37)))
theorem ac33 {p1 : Option PA} {n2 : Int} {n3 : Int} {n4 : Int} {q5 : Option SL} {h : Heap} {Q : AV → Heap → Prop} (hk : vc33 p1 n2 n3 n4 q5 h Q) : AC Tryz.prog 33 [.ptr p1, .agg [.int .i64 n2, .int .i64 n3, .int .i64 n4, .sl q5]] h Q :=
 AC_by (H := hintsOf [] []) (by kernel_rfl) (by kernel_rfl) hk
def vc35 (p1 : Option PA) (h : Heap) (Q : AV → Heap → Prop) : Prop :=
 vif (p1.isNone)
 (AC Tryz.prog 30 [] h fun v2 h3 => ∃ p4 : Option PA, v2 = .ptr p4 ∧
 Q (.ptr p4) h3)
 (vPtr p1 fun p5 =>
 ∃ p6 : Option PA, cellsAt h ⟨p5.b, p5.o + 1⟩ 1 = some [.ptr p6] ∧
 AC Tryz.prog 109 [.ptr p6] h fun v7 h8 => ∃ p9 : Option PA, v7 = .ptr p9 ∧
 Q (.ptr p9) h8)
theorem ac35 {p1 : Option PA} {h : Heap} {Q : AV → Heap → Prop} (hk : vc35 p1 h Q) : AC Tryz.prog 35 [.ptr p1] h Q :=
 AC_by (H := hintsOf [] []) (by kernel_rfl) (by kernel_rfl) hk
def vc43 (p1 : Option PA) (h : Heap) (Q : AV → Heap → Prop) : Prop :=
 AC Tryz.prog 48 [.ptr p1] h fun v2 h3 => ∃ b4 : Bool, v2 = .bool b4 ∧
 vif b4
 (Q (.tup [.int .i64 0, .int .i64 6]) h3)
 (vPtr p1 fun p5 =>
 ∃ p6 : Option PA, cellsAt h3 ⟨p5.b, p5.o + 1⟩ 1 = some [.ptr p6] ∧
 AC Tryz.prog 41 [.ptr p6] h3 fun v7 h8 => ∃ q9 : Option SL, v7 = .sl q9 ∧
 PNew [.str [106, 111, 117, 114, 110, 97, 108]] true h8 fun a10 h11 =>
 PAppendS 1 16 q9 (some ⟨a10, 0, 1, 1, 0⟩) h11 fun q12 h13 =>
 vPtr p1 fun p14 =>
 ∃ p15 : Option PA, cellsAt h13 ⟨p14.b, p14.o + 0⟩ 1 = some [.ptr p15] ∧
 AC Tryz.prog 42 [.ptr p15] h13 fun v16 h17 => ∃ q18 : Option SL, v16 = .sl q18 ∧
 ∃ (I21 : List AV → Heap → Prop) (m22 : List AV → Heap → Nat), I21 [.int .i64 0, .int .i64 0] h17 ∧
 ∀ n19 n20 : Int, ∀ h23 : Heap, I21 [.int .i64 n19, .int .i64 n20] h23 →
 vif (decide (n20 < (slLen q18 : Int)))
 (vIdx q18 n20 2 fun p24 =>
 ∃ s25 : List UInt8, ∃ n26 : Int, cellsAt h23 p24 2 = some [.str s25, .int .i64 n26] ∧
 AC Tryz.prog 125 [.sl q12, .str s25] h23 fun v27 h28 => ∃ b29 : Bool, v27 = .bool b29 ∧
 vif b29
 ((True) ∧ I21 [.int .i64 n19, .int .i64 (wrapK .i64 (n20 + 1))] h28 ∧ m22 [.int .i64 n19, .int .i64 (wrapK .i64 (n20 + 1))] h28 < m22 [.int .i64 n19, .int .i64 n20] h23)
 (vPtr p1 fun p30 =>
 ∃ p31 : Option PA, cellsAt h28 ⟨p30.b, p30.o + 0⟩ 1 = some [.ptr p31] ∧
 AC Tryz.prog 126 [.ptr p31, .str s25] h28 fun v32 h33 => ∃ n34 : Int, v32 = .int .i64 n34 ∧
 vif (n34 != 0)
 (Q (.tup [.int .i64 n19, .int .i64 n34]) h33)
 ((True) ∧ I21 [.int .i64 (wrapK .i64 (n19 + 1)), .int .i64 (wrapK .i64 (n20 + 1))] h33 ∧ m22 [.int .i64 (wrapK .i64 (n19 + 1)), .int .i64 (wrapK .i64 (n20 + 1))] h33 < m22 [.int .i64 n19, .int .i64 n20] h23)))
 (Q (.tup [.int .i64 n19, .int .i64 0]) h23))
theorem ac43 {p1 : Option PA} {h : Heap} {Q : AV → Heap → Prop} (hk : vc43 p1 h Q) : AC Tryz.prog 43 [.ptr p1] h Q :=
 AC_by (H := hintsOf [7] [(0, [5, 24], [])]) (by kernel_rfl) (by kernel_rfl) hk
def vc45 (p1 : Option PA) (h : Heap) (Q : AV → Heap → Prop) : Prop :=
 AC Tryz.prog 48 [.ptr p1] h fun v2 h3 => ∃ b4 : Bool, v2 = .bool b4 ∧
 vif b4
 (Q (.int .i64 6) h3)
 (AC Tryz.prog 103 [.ptr p1] h3 fun v5 h6 => ∃ n7 : Int, v5 = .int .i64 n7 ∧
 vPtr p1 fun p8 =>
 PStore h6 ⟨p8.b, p8.o + 3⟩ [.bool (n7 != 0)] fun h9 =>
 Q (.int .i64 n7) h9)
theorem ac45 {p1 : Option PA} {h : Heap} {Q : AV → Heap → Prop} (hk : vc45 p1 h Q) : AC Tryz.prog 45 [.ptr p1] h Q :=
 AC_by (H := hintsOf [] []) (by kernel_rfl) (by kernel_rfl) hk
def vc47 (p1 : Option PA) (h : Heap) (Q : AV → Heap → Prop) : Prop :=
 vif (p1.isNone)
 (Q (.int .i64 0) h)
 (vPtr p1 fun p2 =>
 ∃ n3 : Int, cellsAt h ⟨p2.b, p2.o + 2⟩ 1 = some [.int .i64 n3] ∧
 Q (.int .i64 n3) h)
theorem ac47 {p1 : Option PA} {h : Heap} {Q : AV → Heap → Prop} (hk : vc47 p1 h Q) : AC Tryz.prog 47 [.ptr p1] h Q :=
 AC_by (H := hintsOf [] []) (by kernel_rfl) (by kernel_rfl) hk
def vc48 (p1 : Option PA) (h : Heap) (Q : AV → Heap → Prop) : Prop :=
 vif (p1.isNone)
 (Q (.bool true) h)
 (vPtr p1 fun p2 =>
 ∃ p3 : Option PA, cellsAt h ⟨p2.b, p2.o + 0⟩ 1 = some [.ptr p3] ∧
 vif (p3.isNone)
 (Q (.bool true) h)
 (vPtr p1 fun p4 =>
 ∃ b5 : Bool, cellsAt h ⟨p4.b, p4.o + 3⟩ 1 = some [.bool b5] ∧
 Q (.bool b5) h))
theorem ac48 {p1 : Option PA} {h : Heap} {Q : AV → Heap → Prop} (hk : vc48 p1 h Q) : AC Tryz.prog 48 [.ptr p1] h Q :=
 AC_by (H := hintsOf [] []) (by kernel_rfl) (by kernel_rfl) hk
def vc99 (q1 : Option SL) (h : Heap) (Q : AV → Heap → Prop) : Prop :=
 AC Tryz.prog 30 [] h fun v2 h3 => ∃ p4 : Option PA, v2 = .ptr p4 ∧
 ∃ (I7 : List AV → Heap → Prop) (m8 : List AV → Heap → Nat), I7 [.sl q1, .int .i64 1] h3 ∧
 ∀ q5 : Option SL, ∀ n6 : Int, ∀ h9 : Heap, I7 [.sl q5, .int .i64 n6] h9 →
 vif (decide ((slLen q5 : Int) > 0))
 (AC Tryz.prog 175 [.sl q5, .int .i64 n6] h9 fun v10 h11 => ∃ q12 : Option SL, ∃ n13 n14 : Int, v10 = .tup [.sl q12, .int .i64 n13, .int .i64 n14] ∧
 vif (n14 != 0)
 (Q (.ptr p4) h11)
 (AC Tryz.prog 176 [.sl q12] h11 fun v15 h16 => ∃ n17 n18 n19 : Int, ∃ q20 : Option SL, ∃ n21 : Int, v15 = .tup [.agg [.int .i64 n17, .int .i64 n18, .int .i64 n19, .sl q20], .int .i64 n21] ∧
 vif (n21 != 0)
 (Q (.ptr p4) h16)
 (AC Tryz.prog 32 [.ptr p4, .agg [.int .i64 n17, .int .i64 n18, .int .i64 n19, .sl q20]] h16 fun v22 h23 => ∃ n24 : Int, v22 = .int .i64 n24 ∧
 vif (n24 != 0)
 (Q (.ptr p4) h23)
 (PSlice 1 q5 n13 none none fun q25 =>
 (True) ∧ I7 [.sl q25, .int .i64 (wrapK .i64 (n6 + n13))] h23 ∧ m8 [.sl q25, .int .i64 (wrapK .i64 (n6 + n13))] h23 < m8 [.sl q5, .int .i64 n6] h9))))
 (Q (.ptr p4) h9)
theorem ac99 {q1 : Option SL} {h : Heap} {Q : AV → Heap → Prop} (hk : vc99 q1 h Q) : AC Tryz.prog 99 [.sl q1] h Q :=
 AC_by (H := hintsOf [8] [(0, [0, 4], [])]) (by kernel_rfl) (by kernel_rfl) hk
def vc100 (p1 : Option PA) (s2 : List UInt8) (h : Heap) (Q : AV → Heap → Prop) : Prop :=
 AC Tryz.prog 64 [.ptr p1, .str s2] h fun v3 h4 => ∃ n5 n6 : Int, v3 = .tup [.int .i64 n5, .int .i64 n6] ∧
 ∃ (I9 : List AV → Heap → Prop) (m10 : List AV → Heap → Nat), I9 [.sl none, .int .i64 0] h4 ∧
 ∀ q7 : Option SL, ∀ n8 : Int, ∀ h11 : Heap, I9 [.sl q7, .int .i64 n8] h11 →
 vif (decide (n8 < n5))
 (AC Tryz.prog 56 [.ptr p1, .str s2, .int .i64 n8] h11 fun v12 h13 => ∃ q14 : Option SL, ∃ n15 : Int, v12 = .tup [.sl q14, .int .i64 n15] ∧
 vif (n15 != 0)
 (Q (.sl q7) h13)
 (PNew [.sl q14] true h13 fun a16 h17 =>
 PAppendS 1 24 q7 (some ⟨a16, 0, 1, 1, 0⟩) h17 fun q18 h19 =>
 (True) ∧ I9 [.sl q18, .int .i64 (wrapK .i64 (n8 + 1))] h19 ∧ m10 [.sl q18, .int .i64 (wrapK .i64 (n8 + 1))] h19 < m10 [.sl q7, .int .i64 n8] h11))
 (Q (.sl q7) h11)
theorem ac100 {p1 : Option PA} {s2 : List UInt8} {h : Heap} {Q : AV → Heap → Prop} (hk : vc100 p1 s2 h Q) : AC Tryz.prog 100 [.ptr p1, .str s2] h Q :=
 AC_by (H := hintsOf [] [(0, [7, 18], [])]) (by kernel_rfl) (by kernel_rfl) hk
def vc101 (q1 : Option SL) (h : Heap) (Q : AV → Heap → Prop) : Prop :=
 ∃ (I3 : List AV → Heap → Prop) (m4 : List AV → Heap → Nat), I3 [.int .i64 0] h ∧
 ∀ n2 : Int, ∀ h5 : Heap, I3 [.int .i64 n2] h5 →
 vif (decide (n2 < (slLen q1 : Int)))
 (vIdx q1 n2 1 fun p6 =>
 ∃ v7 : AV, v7.one = true ∧ cellsAt h5 p6 1 = some (AV.cells v7) ∧
 vCallF Tryz.prog (AC Tryz.prog) v7 [] h5 fun v8 h9 => ∃ n10 : Int, v8 = .int .i64 n10 ∧
 vif (n10 != 0)
 (Q (.int .i64 n10) h9)
 ((True) ∧ I3 [.int .i64 (wrapK .i64 (n2 + 1))] h9 ∧ m4 [.int .i64 (wrapK .i64 (n2 + 1))] h9 < m4 [.int .i64 n2] h5))
 (Q (.int .i64 0) h5)
theorem ac101 {q1 : Option SL} {h : Heap} {Q : AV → Heap → Prop} (hk : vc101 q1 h Q) : AC Tryz.prog 101 [.sl q1] h Q :=
 AC_by (H := hintsOf [] [(0, [8], [])]) (by kernel_rfl) (by kernel_rfl) hk
def vc102 (p1 : Option PA) (h : Heap) (Q : AV → Heap → Prop) : Prop :=
 AC Tryz.prog 43 [.ptr p1] h fun v2 h3 => ∃ n4 n5 : Int, v2 = .tup [.int .i64 n4, .int .i64 n5] ∧
 Q (.int .i64 n5) h3
theorem ac102 {p1 : Option PA} {h : Heap} {Q : AV → Heap → Prop} (hk : vc102 p1 h Q) : AC Tryz.prog 102 [.ptr p1] h Q :=
 AC_by (H := hintsOf [] []) (by kernel_rfl) (by kernel_rfl) hk
def vc103 (p1 : Option PA) (h : Heap) (Q : AV → Heap → Prop) : Prop :=
 PNew [.ptr p1] true h fun a2 h3 =>
 ∃ p4 : Option PA, cellsAt h3 ⟨a2, 0⟩ 1 = some [.ptr p4] ∧
 ∃ p5 : Option PA, cellsAt h3 ⟨a2, 0⟩ 1 = some [.ptr p5] ∧
 PNew [.func (.func 177) [.ptr p4] [], .func (.func 178) [] [.ptr (some ⟨a2, 0⟩)], .func (.func 179) [.ptr p5] [], .func (.func 180) [] [.ptr (some ⟨a2, 0⟩)], .func (.func 181) [] [.ptr (some ⟨a2, 0⟩)]] true h3 fun a6 h7 =>
 AC Tryz.prog 101 [.sl (some ⟨a6, 0, 5, 5, 0⟩)] h7 fun v8 h9 => ∃ n10 : Int, v8 = .int .i64 n10 ∧
 Q (.int .i64 n10) h9
theorem ac103 {p1 : Option PA} {h : Heap} {Q : AV → Heap → Prop} (hk : vc103 p1 h Q) : AC Tryz.prog 103 [.ptr p1] h Q :=
 AC_by (H := hintsOf [] []) (by kernel_rfl) (by kernel_rfl) hk
def vc109 (p1 : Option PA) (h : Heap) (Q : AV → Heap → Prop) : Prop :=
 AC Tryz.prog 30 [] h fun v2 h3 => ∃ p4 : Option PA, v2 = .ptr p4 ∧
 AC Tryz.prog 31 [.ptr p1] h3 fun v5 h6 => ∃ q7 : Option SL, v5 = .sl q7 ∧
 ∃ (I9 : List AV → Heap → Prop) (m10 : List AV → Heap → Nat), I9 [.int .i64 0] h6 ∧
 ∀ n8 : Int, ∀ h11 : Heap, I9 [.int .i64 n8] h11 →
 vif (decide (n8 < (slLen q7 : Int)))
 (vIdx q7 n8 4 fun p12 =>
 ∃ n13 n14 n15 : Int, ∃ q16 : Option SL, cellsAt h11 p12 4 = some [.int .i64 n13, .int .i64 n14, .int .i64 n15, .sl q16] ∧
 AC Tryz.prog 32 [.ptr p4, .agg [.int .i64 n13, .int .i64 n14, .int .i64 n15, .sl q16]] h11 fun v17 h18 => ∃ n19 : Int, v17 = .int .i64 n19 ∧
 (True) ∧ I9 [.int .i64 (wrapK .i64 (n8 + 1))] h18 ∧ m10 [.int .i64 (wrapK .i64 (n8 + 1))] h18 < m10 [.int .i64 n8] h11)
 (Q (.ptr p4) h11)
theorem ac109 {p1 : Option PA} {h : Heap} {Q : AV → Heap → Prop} (hk : vc109 p1 h Q) : AC Tryz.prog 109 [.ptr p1] h Q :=
 AC_by (H := hintsOf [5] [(0, [10], [])]) (by kernel_rfl) (by kernel_rfl) hk
def vc111 (p1 : Option PA) (s2 : List UInt8) (n3 : Int) (n4 : Int) (n5 : Int) (q6 : Option SL) (h : Heap) (Q : AV → Heap → Prop) : Prop :=
 AC Tryz.prog 188 [.agg [.int .i64 n3, .int .i64 n4, .int .i64 n5, .sl q6]] h fun v7 h8 => ∃ q9 : Option SL, ∃ n10 : Int, v7 = .tup [.sl q9, .int .i64 n10] ∧
 vif (n10 != 0)
 (Q (.int .i64 n10) h8)
 (vPtr p1 fun p11 =>
 ∃ n12 : Int, cellsAt h8 ⟨p11.b, p11.o + 2⟩ 1 = some [.int .i64 n12] ∧
 AC Tryz.prog 189 [.int .i64 (wrapK .i64 (1 + n12)), .sl q9] h8 fun v13 h14 => ∃ q15 : Option SL, ∃ n16 : Int, v13 = .tup [.sl q15, .int .i64 n16] ∧
 vif (n16 != 0)
 (Q (.int .i64 n16) h14)
 (∃ (I18 : List AV → Heap → Prop) (m19 : List AV → Heap → Nat), I18 [.int .i64 0] h14 ∧
 ∀ n17 : Int, ∀ h20 : Heap, I18 [.int .i64 n17] h20 →
 vif (decide (n17 < (slLen q15 : Int)))
 (vIdx q15 n17 1 fun p21 =>
 ∃ q22 : Option SL, cellsAt h20 p21 1 = some [.sl q22] ∧
 vPtr p1 fun p23 =>
 ∃ p24 : Option PA, cellsAt h20 ⟨p23.b, p23.o + 0⟩ 1 = some [.ptr p24] ∧
 AC Tryz.prog 96 [.ptr p24, .str s2, .sl q22] h20 fun v25 h26 => ∃ n27 : Int, v25 = .int .i64 n27 ∧
 vif (n27 != 0)
 (Q (.int .i64 n27) h26)
 (vPtr p1 fun p28 =>
 ∃ n29 : Int, cellsAt h26 ⟨p28.b, p28.o + 2⟩ 1 = some [.int .i64 n29] ∧
 vPtr p1 fun p30 =>
 PStore h26 ⟨p30.b, p30.o + 2⟩ [.int .i64 (wrapK .i64 (n29 + 1))] fun h31 =>
 ((some [.int .i64 n3, .int .i64 n4, .int .i64 n5, .sl q6] : Option (List AV)) = some [.int .i64 n3, .int .i64 n4, .int .i64 n5, .sl q6] ∧ True) ∧ I18 [.int .i64 (wrapK .i64 (n17 + 1))] h31 ∧ m19 [.int .i64 (wrapK .i64 (n17 + 1))] h31 < m19 [.int .i64 n17] h20))
 (Q (.int .i64 0) h20)))
theorem ac111 {p1 : Option PA} {s2 : List UInt8} {n3 : Int} {n4 : Int} {n5 : Int} {q6 : Option SL} {h : Heap} {Q : AV → Heap → Prop} (hk : vc111 p1 s2 n3 n4 n5 q6 h Q) : AC Tryz.prog 111 [.ptr p1, .str s2, .agg [.int .i64 n3, .int .i64 n4, .int .i64 n5, .sl q6]] h Q :=
 AC_by (H := hintsOf [5] [(0, [36], [])]) (by kernel_rfl) (by kernel_rfl) hk
def vc177 (p1 : Option PA) (h : Heap) (Q : AV → Heap → Prop) : Prop :=
 vPtr p1 fun p2 =>
 ∃ p3 : Option PA, cellsAt h ⟨p2.b, p2.o + 0⟩ 1 = some [.ptr p3] ∧
 AC Tryz.prog 64 [.ptr p3, .str [106, 111, 117, 114, 110, 97, 108, 46, 110, 101, 119]] h fun v4 h5 => ∃ n6 n7 : Int, v4 = .tup [.int .i64 n6, .int .i64 n7] ∧
 vif (n7 != 0)
 (Q (.int .i64 0) h5)
 (vPtr p1 fun p8 =>
 ∃ p9 : Option PA, cellsAt h5 ⟨p8.b, p8.o + 0⟩ 1 = some [.ptr p9] ∧
 AC Tryz.prog 126 [.ptr p9, .str [106, 111, 117, 114, 110, 97, 108, 46, 110, 101, 119]] h5 fun v10 h11 => ∃ n12 : Int, v10 = .int .i64 n12 ∧
 Q (.int .i64 n12) h11)
theorem ac177 {p1 : Option PA} {h : Heap} {Q : AV → Heap → Prop} (hk : vc177 p1 h Q) : AC Tryz.prog 177 [.ptr p1] h Q :=
 AC_by (H := hintsOf [] []) (by kernel_rfl) (by kernel_rfl) hk
def vc179 (p1 : Option PA) (h : Heap) (Q : AV → Heap → Prop) : Prop :=
 vPtr p1 fun p2 =>
 PStore h ⟨p2.b, p2.o + 2⟩ [.int .i64 0] fun h3 =>
 vPtr p1 fun p4 =>
 ∃ p5 : Option PA, cellsAt h3 ⟨p4.b, p4.o + 1⟩ 1 = some [.ptr p5] ∧
 AC Tryz.prog 31 [.ptr p5] h3 fun v6 h7 => ∃ q8 : Option SL, v6 = .sl q8 ∧
 ∃ (I10 : List AV → Heap → Prop) (m11 : List AV → Heap → Nat), I10 [.int .i64 0] h7 ∧
 ∀ n9 : Int, ∀ h12 : Heap, I10 [.int .i64 n9] h12 →
 vif (decide (n9 < (slLen q8 : Int)))
 (vIdx q8 n9 4 fun p13 =>
 ∃ n14 n15 n16 : Int, ∃ q17 : Option SL, cellsAt h12 p13 4 = some [.int .i64 n14, .int .i64 n15, .int .i64 n16, .sl q17] ∧
 AC Tryz.prog 111 [.ptr p1, .str [106, 111, 117, 114, 110, 97, 108, 46, 110, 101, 119], .agg [.int .i64 n14, .int .i64 n15, .int .i64 n16, .sl q17]] h12 fun v18 h19 => ∃ n20 : Int, v18 = .int .i64 n20 ∧
 vif (n20 != 0)
 (Q (.int .i64 n20) h19)
 ((True) ∧ I10 [.int .i64 (wrapK .i64 (n9 + 1))] h19 ∧ m11 [.int .i64 (wrapK .i64 (n9 + 1))] h19 < m11 [.int .i64 n9] h12))
 (Q (.int .i64 0) h12)
theorem ac179 {p1 : Option PA} {h : Heap} {Q : AV → Heap → Prop} (hk : vc179 p1 h Q) : AC Tryz.prog 179 [.ptr p1] h Q :=
 AC_by (H := hintsOf [4] [(0, [15], [])]) (by kernel_rfl) (by kernel_rfl) hk
def vc175 (q1 : Option SL) (n2 : Int) (h : Heap) (Q : AV → Heap → Prop) : Prop :=
 ∃ (I5 : List AV → Heap → Prop) (m6 : List AV → Heap → Nat), I5 [.sl none, .int .i64 0] h ∧
 ∀ q3 : Option SL, ∀ n4 : Int, ∀ h7 : Heap, I5 [.sl q3, .int .i64 n4] h7 →
 vif (decide (n4 < (slLen q1 : Int)))
 (vIdx q1 n4 1 fun p8 =>
 ∃ q9 : Option SL, cellsAt h7 p8 1 = some [.sl q9] ∧
 AC Tryz.prog 223 [.sl q9, .int .i64 (wrapK .i64 (n2 + n4))] h7 fun v10 h11 => ∃ q12 : Option SL, ∃ n13 : Int, v10 = .tup [.sl q12, .int .i64 n13] ∧
 vif (n13 != 0)
 (Q (.tup [.sl none, .int .i64 0, .int .i64 n13]) h11)
 (vif ((slLen q12 : Int) == 0)
 (Q (.tup [.sl none, .int .i64 0, .int .i64 20]) h11)
 (vIdx q12 0 1 fun p14 =>
 ∃ n15 : Int, cellsAt h11 p14 1 = some [.int .u8 n15] ∧
 vif (decide (n15 > 1))
 (Q (.tup [.sl none, .int .i64 0, .int .i64 20]) h11)
 (vIdx q12 0 1 fun p16 =>
 ∃ n17 : Int, cellsAt h11 p16 1 = some [.int .u8 n17] ∧
 vif (n17 == 1)
 (vif (decide ((slLen q12 : Int) ≤ 42))
 (Q (.tup [.sl none, .int .i64 0, .int .i64 20]) h11)
 (PSlice 1 q12 1 none none fun q18 =>
 PAppendS 1 1 q3 q18 h11 fun q19 h20 =>
 vIdx q12 0 1 fun p21 =>
 ∃ n22 : Int, cellsAt h20 p21 1 = some [.int .u8 n22] ∧
 vif (n22 == 0)
 (Q (.tup [.sl q19, .int .i64 (wrapK .i64 (n4 + 1)), .int .i64 0]) h20)
 ((True) ∧ I5 [.sl q19, .int .i64 (wrapK .i64 (n4 + 1))] h20 ∧ m6 [.sl q19, .int .i64 (wrapK .i64 (n4 + 1))] h20 < m6 [.sl q3, .int .i64 n4] h7)))
 (PSlice 1 q12 1 none none fun q23 =>
 PAppendS 1 1 q3 q23 h11 fun q24 h25 =>
 vIdx q12 0 1 fun p26 =>
 ∃ n27 : Int, cellsAt h25 p26 1 = some [.int .u8 n27] ∧
 vif (n27 == 0)
 (Q (.tup [.sl q24, .int .i64 (wrapK .i64 (n4 + 1)), .int .i64 0]) h25)
 ((True) ∧ I5 [.sl q24, .int .i64 (wrapK .i64 (n4 + 1))] h25 ∧ m6 [.sl q24, .int .i64 (wrapK .i64 (n4 + 1))] h25 < m6 [.sl q3, .int .i64 n4] h7))))))
 (Q (.tup [.sl none, .int .i64 0, .int .i64 4]) h7)
theorem ac175 {q1 : Option SL} {n2 : Int} {h : Heap} {Q : AV → Heap → Prop} (hk : vc175 q1 n2 h Q) : AC Tryz.prog 175 [.sl q1, .int .i64 n2] h Q :=
 AC_by (H := hintsOf [] [(0, [7, 14], [])]) (by kernel_rfl) (by kernel_rfl) hk
def vc189 (n1 : Int) (q2 : Option SL) (h : Heap) (Q : AV → Heap → Prop) : Prop :=
 AC Tryz.prog 237 [.int .i64 n1] h fun v3 h4 => ∃ b5 : Bool, v3 = .bool b5 ∧
 vif (!b5)
 (Q (.tup [.sl none, .int .i64 1]) h4)
 (vif (decide (n1 > (wrapK .i64 ((wrapK .i64 (4611686018427387903 - (maxI2 1 (wrapK .i64 (Int.tdiv (wrapK .i64 ((wrapK .i64 ((slLen q2 : Int) + 42)) - 1)) 42))))) + 1))))
 (Q (.tup [.sl none, .int .i64 1]) h4)
 (vif (decide ((slLen q2 : Int) > 65536))
 (Q (.tup [.sl none, .int .i64 3]) h4)
 (AC Tryz.prog 248 [.sl q2, .int .i64 42] h4 fun v6 h7 => ∃ v8 : AV, v8.one = true ∧ v6 = v8 ∧
 AC Tryz.prog 247 [v8] h7 fun v9 h10 => ∃ q11 : Option SL, v9 = .sl q11 ∧
 vif ((slLen q11 : Int) == 0)
 (PNew [.sl none] true h10 fun a12 h13 =>
 ∃ (I16 : List AV → Heap → Prop) (m17 : List AV → Heap → Nat), I16 [.sl none, .int .i64 0] h13 ∧
 ∀ q14 : Option SL, ∀ n15 : Int, ∀ h18 : Heap, I16 [.sl q14, .int .i64 n15] h18 →
 vif (decide (n15 < ((1 : Nat) : Int)))
 (vIdx (some ⟨a12, 0, 1, 1, 0⟩) n15 1 fun p19 =>
 ∃ q20 : Option SL, cellsAt h18 p19 1 = some [.sl q20] ∧
 vif (n15 == (wrapK .i64 (((1 : Nat) : Int) - 1)))
 (PNew [.int .u8 0] true h18 fun a21 h22 =>
 PNew [.sl (some ⟨a21, 0, 1, 1, 0⟩), .sl q20] true h22 fun a23 h24 =>
 AC Tryz.prog 239 [.sl (some ⟨a23, 0, 2, 2, 0⟩)] h24 fun v25 h26 => ∃ q27 : Option SL, v25 = .sl q27 ∧
 AC Tryz.prog 169 [.int .i64 (wrapK .i64 (n1 + n15)), .sl q27] h26 fun v28 h29 => ∃ q30 : Option SL, ∃ n31 : Int, v28 = .tup [.sl q30, .int .i64 n31] ∧
 PNew [.sl q30] true h29 fun a32 h33 =>
 PAppendS 1 24 q14 (some ⟨a32, 0, 1, 1, 0⟩) h33 fun q34 h35 =>
 (True) ∧ I16 [.sl q34, .int .i64 (wrapK .i64 (n15 + 1))] h35 ∧ m17 [.sl q34, .int .i64 (wrapK .i64 (n15 + 1))] h35 < m17 [.sl q14, .int .i64 n15] h18)
 (PNew [.int .u8 1] true h18 fun a36 h37 =>
 PNew [.sl (some ⟨a36, 0, 1, 1, 0⟩), .sl q20] true h37 fun a38 h39 =>
 AC Tryz.prog 239 [.sl (some ⟨a38, 0, 2, 2, 0⟩)] h39 fun v40 h41 => ∃ q42 : Option SL, v40 = .sl q42 ∧
 AC Tryz.prog 169 [.int .i64 (wrapK .i64 (n1 + n15)), .sl q42] h41 fun v43 h44 => ∃ q45 : Option SL, ∃ n46 : Int, v43 = .tup [.sl q45, .int .i64 n46] ∧
 PNew [.sl q45] true h44 fun a47 h48 =>
 PAppendS 1 24 q14 (some ⟨a47, 0, 1, 1, 0⟩) h48 fun q49 h50 =>
 (True) ∧ I16 [.sl q49, .int .i64 (wrapK .i64 (n15 + 1))] h50 ∧ m17 [.sl q49, .int .i64 (wrapK .i64 (n15 + 1))] h50 < m17 [.sl q14, .int .i64 n15] h18))
 (Q (.tup [.sl q14, .int .i64 0]) h18))
 (∃ (I53 : List AV → Heap → Prop) (m54 : List AV → Heap → Nat), I53 [.sl none, .int .i64 0] h10 ∧
 ∀ q51 : Option SL, ∀ n52 : Int, ∀ h55 : Heap, I53 [.sl q51, .int .i64 n52] h55 →
 vif (decide (n52 < (slLen q11 : Int)))
 (vIdx q11 n52 1 fun p56 =>
 ∃ q57 : Option SL, cellsAt h55 p56 1 = some [.sl q57] ∧
 vif (n52 == (wrapK .i64 ((slLen q11 : Int) - 1)))
 (PNew [.int .u8 0] true h55 fun a58 h59 =>
 PNew [.sl (some ⟨a58, 0, 1, 1, 0⟩), .sl q57] true h59 fun a60 h61 =>
 AC Tryz.prog 239 [.sl (some ⟨a60, 0, 2, 2, 0⟩)] h61 fun v62 h63 => ∃ q64 : Option SL, v62 = .sl q64 ∧
 AC Tryz.prog 169 [.int .i64 (wrapK .i64 (n1 + n52)), .sl q64] h63 fun v65 h66 => ∃ q67 : Option SL, ∃ n68 : Int, v65 = .tup [.sl q67, .int .i64 n68] ∧
 PNew [.sl q67] true h66 fun a69 h70 =>
 PAppendS 1 24 q51 (some ⟨a69, 0, 1, 1, 0⟩) h70 fun q71 h72 =>
 (True) ∧ I53 [.sl q71, .int .i64 (wrapK .i64 (n52 + 1))] h72 ∧ m54 [.sl q71, .int .i64 (wrapK .i64 (n52 + 1))] h72 < m54 [.sl q51, .int .i64 n52] h55)
 (PNew [.int .u8 1] true h55 fun a73 h74 =>
 PNew [.sl (some ⟨a73, 0, 1, 1, 0⟩), .sl q57] true h74 fun a75 h76 =>
 AC Tryz.prog 239 [.sl (some ⟨a75, 0, 2, 2, 0⟩)] h76 fun v77 h78 => ∃ q79 : Option SL, v77 = .sl q79 ∧
 AC Tryz.prog 169 [.int .i64 (wrapK .i64 (n1 + n52)), .sl q79] h78 fun v80 h81 => ∃ q82 : Option SL, ∃ n83 : Int, v80 = .tup [.sl q82, .int .i64 n83] ∧
 PNew [.sl q82] true h81 fun a84 h85 =>
 PAppendS 1 24 q51 (some ⟨a84, 0, 1, 1, 0⟩) h85 fun q86 h87 =>
 (True) ∧ I53 [.sl q86, .int .i64 (wrapK .i64 (n52 + 1))] h87 ∧ m54 [.sl q86, .int .i64 (wrapK .i64 (n52 + 1))] h87 < m54 [.sl q51, .int .i64 n52] h55))
 (Q (.tup [.sl q51, .int .i64 0]) h55)))))
theorem ac189 {n1 : Int} {q2 : Option SL} {h : Heap} {Q : AV → Heap → Prop} (hk : vc189 n1 q2 h Q) : AC Tryz.prog 189 [.int .i64 n1, .sl q2] h Q :=
 AC_by (H := hintsOf [] [(1, [8, 44], [])]) (by kernel_rfl) (by kernel_rfl) hk
def vc248 (q1 : Option SL) (n2 : Int) (h : Heap) (Q : AV → Heap → Prop) : Prop :=
 PNew [.sl q1] true h fun a3 h4 =>
 PNew [.int .i64 n2] true h4 fun a5 h6 =>
 ∃ n7 : Int, cellsAt h6 ⟨a5, 0⟩ 1 = some [.int .i64 n7] ∧
 vif (decide (n7 < 1))
 (False)
 (Q (.func (.func 280) [] [.ptr (some ⟨a3, 0⟩), .ptr (some ⟨a5, 0⟩)]) h6)
theorem ac248 {q1 : Option SL} {n2 : Int} {h : Heap} {Q : AV → Heap → Prop} (hk : vc248 q1 n2 h Q) : AC Tryz.prog 248 [.sl q1, .int .i64 n2] h Q :=
 AC_by (H := hintsOf [] []) (by kernel_rfl) (by kernel_rfl) hk
def vc30  (h : Heap) (Q : AV → Heap → Prop) : Prop :=
 PNew [.sl none, .int .i64 0, .int .i64 0, .int .i64 0, .sl none, .bool false] true h fun a1 h2 =>
 Q (.ptr (some ⟨a1, 0⟩)) h2
theorem ac30  {h : Heap} {Q : AV → Heap → Prop} (hk : vc30  h Q) : AC Tryz.prog 30 [] h Q :=
 AC_by (H := hintsOf [] []) (by kernel_rfl) (by kernel_rfl) hk
def vc31 (p1 : Option PA) (h : Heap) (Q : AV → Heap → Prop) : Prop :=
 AC Tryz.prog 46 [.ptr p1] h fun v2 h3 => ∃ n4 : Int, v2 = .int .i64 n4 ∧
 ∃ (I7 : List AV → Heap → Prop) (m8 : List AV → Heap → Nat), I7 [.sl none, .int .i64 0] h3 ∧
 ∀ q5 : Option SL, ∀ n6 : Int, ∀ h9 : Heap, I7 [.sl q5, .int .i64 n6] h9 →
 vif (decide (n6 < n4))
 (vPtr p1 fun p10 =>
 ∃ q11 : Option SL, cellsAt h9 ⟨p10.b, p10.o + 0⟩ 1 = some [.sl q11] ∧
 vIdx q11 n6 4 fun p12 =>
 ∃ n13 n14 n15 : Int, ∃ q16 : Option SL, cellsAt h9 p12 4 = some [.int .i64 n13, .int .i64 n14, .int .i64 n15, .sl q16] ∧
 AC Tryz.prog 105 [.agg [.int .i64 n13, .int .i64 n14, .int .i64 n15, .sl q16]] h9 fun v17 h18 => ∃ n19 n20 n21 : Int, ∃ q22 : Option SL, v17 = .agg [.int .i64 n19, .int .i64 n20, .int .i64 n21, .sl q22] ∧
 PNew [.int .i64 n19, .int .i64 n20, .int .i64 n21, .sl q22] true h18 fun a23 h24 =>
 PAppendS 4 48 q5 (some ⟨a23, 0, 1, 1, 0⟩) h24 fun q25 h26 =>
 (True) ∧ I7 [.sl q25, .int .i64 (wrapK .i64 (n6 + 1))] h26 ∧ m8 [.sl q25, .int .i64 (wrapK .i64 (n6 + 1))] h26 < m8 [.sl q5, .int .i64 n6] h9)
 (AC Tryz.prog 106 [.ptr p1] h9 fun v27 h28 => ∃ n29 n30 n31 : Int, ∃ q32 : Option SL, ∃ b33 : Bool, v27 = .tup [.agg [.int .i64 n29, .int .i64 n30, .int .i64 n31, .sl q32], .bool b33] ∧
 vif b33
 (PNew [.int .i64 n29, .int .i64 n30, .int .i64 n31, .sl q32] true h28 fun a34 h35 =>
 PAppendS 4 48 q5 (some ⟨a34, 0, 1, 1, 0⟩) h35 fun q36 h37 =>
 Q (.sl q36) h37)
 (Q (.sl q5) h28))
theorem ac31 {p1 : Option PA} {h : Heap} {Q : AV → Heap → Prop} (hk : vc31 p1 h Q) : AC Tryz.prog 31 [.ptr p1] h Q :=
 AC_by (H := hintsOf [5] [(0, [3, 9], [])]) (by kernel_rfl) (by kernel_rfl) hk
def vc32 (p1 : Option PA) (n2 : Int) (n3 : Int) (n4 : Int) (q5 : Option SL) (h : Heap) (Q : AV → Heap → Prop) : Prop :=
 vif (p1.isNone)
 (Q (.int .i64 6) h)
 (AC Tryz.prog 107 [.agg [.int .i64 n2, .int .i64 n3, .int .i64 n4, .sl q5]] h fun v6 h7 => ∃ n8 : Int, v6 = .int .i64 n8 ∧
 vif (n8 != 0)
 (Q (.int .i64 n8) h7)
 (AC Tryz.prog 108 [.ptr p1, .agg [.int .i64 n2, .int .i64 n3, .int .i64 n4, .sl q5]] h7 fun v9 h10 => ∃ b11 : Bool, v9 = .bool b11 ∧
 vif (!b11)
 (Q (.int .i64 1) h10)
 (vPtr p1 fun p12 =>
 PStore h10 ⟨p12.b, p12.o + 1⟩ [.int .i64 0, .int .i64 0, .int .i64 0, .sl none] fun h13 =>
 vPtr p1 fun p14 =>
 PStore h13 ⟨p14.b, p14.o + 5⟩ [.bool false] fun h15 =>
 vif (n2 == 2)
 (vPtr p1 fun p16 =>
 ∃ q17 : Option SL, cellsAt h15 ⟨p16.b, p16.o + 0⟩ 1 = some [.sl q17] ∧
 AC Tryz.prog 105 [.agg [.int .i64 n2, .int .i64 n3, .int .i64 n4, .sl q5]] h15 fun v18 h19 => ∃ n20 n21 n22 : Int, ∃ q23 : Option SL, v18 = .agg [.int .i64 n20, .int .i64 n21, .int .i64 n22, .sl q23] ∧
 (∃ q31 : Option SL, cellsAt h19 ⟨p16.b, p16.o + 0⟩ 1 = some [.sl q31] ∧
 LV.val (.sl q31) = LV.val (.sl q17)) ∧
 PNew [.int .i64 n20, .int .i64 n21, .int .i64 n22, .sl q23] true h19 fun a24 h25 =>
 (∃ q30 : Option SL, cellsAt h25 ⟨p16.b, p16.o + 0⟩ 1 = some [.sl q30] ∧
 LV.val (.sl q30) = LV.val (.sl q17)) ∧
 PAppendS 4 48 q17 (some ⟨a24, 0, 1, 1, 0⟩) h25 fun q26 h27 =>
 vPtr p1 fun p28 =>
 PStore h27 ⟨p28.b, p28.o + 0⟩ [.sl q26] fun h29 =>
 Q (.int .i64 0) h29)
 (AC Tryz.prog 105 [.agg [.int .i64 n2, .int .i64 n3, .int .i64 n4, .sl q5]] h15 fun v32 h33 => ∃ n34 n35 n36 : Int, ∃ q37 : Option SL, v32 = .agg [.int .i64 n34, .int .i64 n35, .int .i64 n36, .sl q37] ∧
 vPtr p1 fun p38 =>
 PStore h33 ⟨p38.b, p38.o + 1⟩ [.int .i64 n34, .int .i64 n35, .int .i64 n36, .sl q37] fun h39 =>
 vPtr p1 fun p40 =>
 PStore h39 ⟨p40.b, p40.o + 5⟩ [.bool true] fun h41 =>
 Q (.int .i64 0) h41))))
theorem ac32 {p1 : Option PA} {n2 : Int} {n3 : Int} {n4 : Int} {q5 : Option SL} {h : Heap} {Q : AV → Heap → Prop} (hk : vc32 p1 n2 n3 n4 q5 h Q) : AC Tryz.prog 32 [.ptr p1, .agg [.int .i64 n2, .int .i64 n3, .int .i64 n4, .sl q5]] h Q :=
 AC_by (H := hintsOf [3] []) (by kernel_rfl) (by kernel_rfl) hk
def vc41 (p1 : Option PA) (h : Heap) (Q : AV → Heap → Prop) : Prop :=
 AC Tryz.prog 31 [.ptr p1] (h ++ [.mp [] 0]) fun v2 h3 => ∃ q4 : Option SL, v2 = .sl q4 ∧
 ∃ (I6 : List AV → Heap → Prop) (m7 : List AV → Heap → Nat), I6 [.int .i64 0] h3 ∧
 ∀ n5 : Int, ∀ h8 : Heap, I6 [.int .i64 n5] h8 →
 vif (decide (n5 < (slLen q4 : Int)))
 (vIdx q4 n5 4 fun p9 =>
 ∃ n10 n11 n12 : Int, ∃ q13 : Option SL, cellsAt h8 p9 4 = some [.int .i64 n10, .int .i64 n11, .int .i64 n12, .sl q13] ∧
 ∃ (I15 : List AV → Heap → Prop) (m16 : List AV → Heap → Nat), I15 [.int .i64 0] h8 ∧
 ∀ n14 : Int, ∀ h17 : Heap, I15 [.int .i64 n14] h17 →
 vif (decide (n14 < (slLen q13 : Int)))
 (vIdx q13 n14 3 fun p18 =>
 ∃ s19 : List UInt8, ∃ n20 n21 : Int, cellsAt h17 p18 3 = some [.str s19, .int .i64 n20, .int .i64 n21] ∧
 PUpdate Tryz.prog 9 (List.length h) (.str s19) (.bool true) h17 fun h22 =>
 ((some [.int .i64 n10, .int .i64 n11, .int .i64 n12, .sl q13] : Option (List AV)) = some [.int .i64 n10, .int .i64 n11, .int .i64 n12, .sl q13] ∧ True) ∧ I15 [.int .i64 (wrapK .i64 (n14 + 1))] h22 ∧ m16 [.int .i64 (wrapK .i64 (n14 + 1))] h22 < m16 [.int .i64 n14] h17)
 ((True) ∧ I6 [.int .i64 (wrapK .i64 (n5 + 1))] h17 ∧ m7 [.int .i64 (wrapK .i64 (n5 + 1))] h17 < m7 [.int .i64 n5] h8))
 (AC Tryz.prog 123 [.map (some (List.length h))] h8 fun v23 h24 => ∃ v25 : AV, v25.one = true ∧ v23 = v25 ∧
 AC Tryz.prog 122 [v25] h24 fun v26 h27 => ∃ q28 : Option SL, v26 = .sl q28 ∧
 Q (.sl q28) h27)
theorem ac41 {p1 : Option PA} {h : Heap} {Q : AV → Heap → Prop} (hk : vc41 p1 h Q) : AC Tryz.prog 41 [.ptr p1] h Q :=
 AC_by (H := hintsOf [5, 7] [(0, [12], []), (2, [19], [])]) (by kernel_rfl) (by kernel_rfl) hk
def vc46 (p1 : Option PA) (h : Heap) (Q : AV → Heap → Prop) : Prop :=
 vif (p1.isNone)
 (Q (.int .i64 0) h)
 (vPtr p1 fun p2 =>
 ∃ q3 : Option SL, cellsAt h ⟨p2.b, p2.o + 0⟩ 1 = some [.sl q3] ∧
 Q (.int .i64 (slLen q3 : Int)) h)
theorem ac46 {p1 : Option PA} {h : Heap} {Q : AV → Heap → Prop} (hk : vc46 p1 h Q) : AC Tryz.prog 46 [.ptr p1] h Q :=
 AC_by (H := hintsOf [] []) (by kernel_rfl) (by kernel_rfl) hk
def vc105 (n1 : Int) (n2 : Int) (n3 : Int) (q4 : Option SL) (h : Heap) (Q : AV → Heap → Prop) : Prop :=
 AC Tryz.prog 183 [.sl q4] h fun v5 h6 => ∃ q7 : Option SL, v5 = .sl q7 ∧
 Q (.agg [.int .i64 n1, .int .i64 n2, .int .i64 n3, .sl q7]) h6
theorem ac105 {n1 : Int} {n2 : Int} {n3 : Int} {q4 : Option SL} {h : Heap} {Q : AV → Heap → Prop} (hk : vc105 n1 n2 n3 q4 h Q) : AC Tryz.prog 105 [.agg [.int .i64 n1, .int .i64 n2, .int .i64 n3, .sl q4]] h Q :=
 AC_by (H := hintsOf [1, 2] []) (by kernel_rfl) (by kernel_rfl) hk
def vc106 (p1 : Option PA) (h : Heap) (Q : AV → Heap → Prop) : Prop :=
 vif (p1.isNone)
 (Q (.tup [.agg [.int .i64 0, .int .i64 0, .int .i64 0, .sl none], .bool false]) h)
 (vPtr p1 fun p2 =>
 ∃ n3 n4 n5 : Int, ∃ q6 : Option SL, cellsAt h ⟨p2.b, p2.o + 1⟩ 4 = some [.int .i64 n3, .int .i64 n4, .int .i64 n5, .sl q6] ∧
 vPtr p1 fun p7 =>
 ∃ b8 : Bool, cellsAt h ⟨p7.b, p7.o + 5⟩ 1 = some [.bool b8] ∧
 AC Tryz.prog 105 [.agg [.int .i64 n3, .int .i64 n4, .int .i64 n5, .sl q6]] h fun v9 h10 => ∃ n11 n12 n13 : Int, ∃ q14 : Option SL, v9 = .agg [.int .i64 n11, .int .i64 n12, .int .i64 n13, .sl q14] ∧
 (∃ b16 : Bool, cellsAt h10 ⟨p7.b, p7.o + 5⟩ 1 = some [.bool b16] ∧
 LV.val (.bool b16) = LV.val (.bool b8)) ∧
 (∃ b15 : Bool, cellsAt h10 ⟨p7.b, p7.o + 5⟩ 1 = some [.bool b15] ∧
 LV.val (.bool b15) = LV.val (.bool b8)) ∧
 Q (.tup [.agg [.int .i64 n11, .int .i64 n12, .int .i64 n13, .sl q14], .bool b8]) h10)
theorem ac106 {p1 : Option PA} {h : Heap} {Q : AV → Heap → Prop} (hk : vc106 p1 h Q) : AC Tryz.prog 106 [.ptr p1] h Q :=
 AC_by (H := hintsOf [2] []) (by kernel_rfl) (by kernel_rfl) hk
def vc107 (n1 : Int) (n2 : Int) (n3 : Int) (q4 : Option SL) (h : Heap) (Q : AV → Heap → Prop) : Prop :=
 vif (n1 == 1)
 (AC Tryz.prog 186 [.agg [.int .i64 n2, .int .i64 n3]] h fun v5 h6 => ∃ n7 : Int, v5 = .int .i64 n7 ∧
 vif (n7 != 0)
 (Q (.int .i64 140) h6)
 (vif (decide ((slLen q4 : Int) > 256))
 (Q (.int .i64 140) h6)
 (AC Tryz.prog 187 [.sl q4, .func (.func 184) [] []] h6 fun v8 h9 => ∃ b10 : Bool, v8 = .bool b10 ∧
 vif b10
 (Q (.int .i64 140) h9)
 (Q (.int .i64 0) h9))))
 (vif (n1 == 2)
 (vif (!(n3 == 0))
 (Q (.int .i64 140) h)
 (AC Tryz.prog 186 [.agg [.int .i64 n2, .int .i64 n3]] h fun v11 h12 => ∃ n13 : Int, v11 = .int .i64 n13 ∧
 vif (n13 != 0)
 (Q (.int .i64 140) h12)
 (vif (decide ((slLen q4 : Int) > 256))
 (Q (.int .i64 140) h12)
 (AC Tryz.prog 187 [.sl q4, .func (.func 184) [] []] h12 fun v14 h15 => ∃ b16 : Bool, v14 = .bool b16 ∧
 vif b16
 (Q (.int .i64 140) h15)
 (Q (.int .i64 0) h15)))))
 (Q (.int .i64 140) h))
theorem ac107 {n1 : Int} {n2 : Int} {n3 : Int} {q4 : Option SL} {h : Heap} {Q : AV → Heap → Prop} (hk : vc107 n1 n2 n3 q4 h Q) : AC Tryz.prog 107 [.agg [.int .i64 n1, .int .i64 n2, .int .i64 n3, .sl q4]] h Q :=
 AC_by (H := hintsOf [1] []) (by kernel_rfl) (by kernel_rfl) hk
def vc108 (p1 : Option PA) (n2 : Int) (n3 : Int) (n4 : Int) (q5 : Option SL) (h : Heap) (Q : AV → Heap → Prop) : Prop :=
 vPtr p1 fun p6 =>
 ∃ q7 : Option SL, cellsAt h ⟨p6.b, p6.o + 0⟩ 1 = some [.sl q7] ∧
 vif (n3 != (slLen q7 : Int))
 (Q (.bool false) h)
 (vif (n2 == 2)
 (Q (.bool true) h)
 (vPtr p1 fun p8 =>
 ∃ b9 : Bool, cellsAt h ⟨p8.b, p8.o + 5⟩ 1 = some [.bool b9] ∧
 vif (!b9)
 (Q (.bool true) h)
 (vPtr p1 fun p10 =>
 ∃ n11 : Int, cellsAt h ⟨p10.b, ((p10.o + 1) + 1) + 1⟩ 1 = some [.int .i64 n11] ∧
 Q (.bool (decide (n4 > n11))) h)))
theorem ac108 {p1 : Option PA} {n2 : Int} {n3 : Int} {n4 : Int} {q5 : Option SL} {h : Heap} {Q : AV → Heap → Prop} (hk : vc108 p1 n2 n3 n4 q5 h Q) : AC Tryz.prog 108 [.ptr p1, .agg [.int .i64 n2, .int .i64 n3, .int .i64 n4, .sl q5]] h Q :=
 AC_by (H := hintsOf [3] []) (by kernel_rfl) (by kernel_rfl) hk
def vc183 (q1 : Option SL) (h : Heap) (Q : AV → Heap → Prop) : Prop :=
 vif (q1.isNone)
 (Q (.sl none) h)
 (PNew [] true h fun a2 h3 =>
 PAppendS 3 32 (some ⟨a2, 0, 0, 0, 0⟩) q1 h3 fun q4 h5 =>
 Q (.sl q4) h5)
theorem ac183 {q1 : Option SL} {h : Heap} {Q : AV → Heap → Prop} (hk : vc183 q1 h Q) : AC Tryz.prog 183 [.sl q1] h Q :=
 AC_by (H := hintsOf [] []) (by kernel_rfl) (by kernel_rfl) hk
def vc184 (s1 : List UInt8) (n2 : Int) (n3 : Int) (h : Heap) (Q : AV → Heap → Prop) : Prop :=
 AC Tryz.prog 185 [.agg [.str s1, .int .i64 n2, .int .i64 n3]] h fun v4 h5 => ∃ b6 : Bool, v4 = .bool b6 ∧
 Q (.bool (!b6)) h5
theorem ac184 {s1 : List UInt8} {n2 : Int} {n3 : Int} {h : Heap} {Q : AV → Heap → Prop} (hk : vc184 s1 n2 n3 h Q) : AC Tryz.prog 184 [.agg [.str s1, .int .i64 n2, .int .i64 n3]] h Q :=
 AC_by (H := hintsOf [1] []) (by kernel_rfl) (by kernel_rfl) hk
def vc185 (s1 : List UInt8) (n2 : Int) (n3 : Int) (h : Heap) (Q : AV → Heap → Prop) : Prop :=
 vif (decide ((s1.length : Int) ≥ 1))
 (vif (decide ((s1.length : Int) ≤ 24))
 (vif (decide (n2 ≥ 1))
 (vif (decide (n2 ≤ 2305843009213693952))
 (vif (decide (n3 ≥ 0))
 (Q (.bool (decide (n3 ≤ 16384))) h)
 (Q (.bool false) h))
 (Q (.bool false) h))
 (Q (.bool false) h))
 (Q (.bool false) h))
 (Q (.bool false) h)
theorem ac185 {s1 : List UInt8} {n2 : Int} {n3 : Int} {h : Heap} {Q : AV → Heap → Prop} (hk : vc185 s1 n2 n3 h Q) : AC Tryz.prog 185 [.agg [.str s1, .int .i64 n2, .int .i64 n3]] h Q :=
 AC_by (H := hintsOf [1] []) (by kernel_rfl) (by kernel_rfl) hk
def vc187 (q1 : Option SL) (h : Heap) (Q : AV → Heap → Prop) : Prop :=
 AC Tryz.prog 244 [.sl q1, .func (.func 184) [] []] h fun v2 h3 => ∃ n4 : Int, v2 = .int .i64 n4 ∧
 Q (.bool (decide (n4 ≥ 0))) h3
theorem ac187 {q1 : Option SL} {h : Heap} {Q : AV → Heap → Prop} (hk : vc187 q1 h Q) : AC Tryz.prog 187 [.sl q1, .func (.func 184) [] []] h Q :=
 AC_by (H := hintsOf [] []) (by kernel_rfl) (by kernel_rfl) hk
def vc188 (n1 : Int) (n2 : Int) (n3 : Int) (q4 : Option SL) (h : Heap) (Q : AV → Heap → Prop) : Prop :=
 AC Tryz.prog 107 [.agg [.int .i64 n1, .int .i64 n2, .int .i64 n3, .sl q4]] h fun v5 h6 => ∃ n7 : Int, v5 = .int .i64 n7 ∧
 vif (n7 != 0)
 (Q (.tup [.sl none, .int .i64 n7]) h6)
 (PNew [.int .i64 n1, .int .i64 n2, .int .i64 n3, .int .i64 (slLen q4 : Int)] true h6 fun a8 h9 =>
 AC Tryz.prog 245 [.sl (some ⟨a8, 0, 4, 4, 0⟩)] h9 fun v10 h11 => ∃ q12 : Option SL, v10 = .sl q12 ∧
 ∃ (I15 : List AV → Heap → Prop) (m16 : List AV → Heap → Nat), I15 [.sl q12, .int .i64 0] h11 ∧
 ∀ q13 : Option SL, ∀ n14 : Int, ∀ h17 : Heap, I15 [.sl q13, .int .i64 n14] h17 →
 vif (decide (n14 < (slLen q4 : Int)))
 (vIdx q4 n14 3 fun p18 =>
 ∃ s19 : List UInt8, ∃ n20 n21 : Int, cellsAt h17 p18 3 = some [.str s19, .int .i64 n20, .int .i64 n21] ∧
 (AC Tryz.prog 246 [.str s19] h17 fun v22 h23 => ∃ q24 : Option SL, v22 = .sl q24 ∧
 (LV.val (.int .i64 n21) = LV.val (.int .i64 n21)) ∧
 (LV.val (.int .i64 n20) = LV.val (.int .i64 n20)) ∧
 PNew [.int .i64 n20, .int .i64 n21] true h23 fun a25 h26 =>
 (LV.val (.str s19) = LV.val (.str s19)) ∧
 AC Tryz.prog 245 [.sl (some ⟨a25, 0, 2, 2, 0⟩)] h26 fun v27 h28 => ∃ q29 : Option SL, v27 = .sl q29 ∧
 PNew [.sl q13, .sl q24, .sl q29] true h28 fun a30 h31 =>
 AC Tryz.prog 239 [.sl (some ⟨a30, 0, 3, 3, 0⟩)] h31 fun v32 h33 => ∃ q34 : Option SL, v32 = .sl q34 ∧
 ((some [.int .i64 n1, .int .i64 n2, .int .i64 n3, .sl q4] : Option (List AV)) = some [.int .i64 n1, .int .i64 n2, .int .i64 n3, .sl q4] ∧ True) ∧ I15 [.sl q34, .int .i64 (wrapK .i64 (n14 + 1))] h33 ∧ m16 [.sl q34, .int .i64 (wrapK .i64 (n14 + 1))] h33 < m16 [.sl q13, .int .i64 n14] h17) ∧
 (PNew [.int .i64 n20, .int .i64 n21] true h17 fun a35 h36 =>
 (LV.val (.str s19) = LV.val (.str s19)) ∧
 AC Tryz.prog 246 [.str s19] h36 fun v37 h38 => ∃ q39 : Option SL, v37 = .sl q39 ∧
 (LV.val (.int .i64 n21) = LV.val (.int .i64 n21)) ∧
 (LV.val (.int .i64 n20) = LV.val (.int .i64 n20)) ∧
 AC Tryz.prog 245 [.sl (some ⟨a35, 0, 2, 2, 0⟩)] h38 fun v40 h41 => ∃ q42 : Option SL, v40 = .sl q42 ∧
 PNew [.sl q13, .sl q39, .sl q42] true h41 fun a43 h44 =>
 AC Tryz.prog 239 [.sl (some ⟨a43, 0, 3, 3, 0⟩)] h44 fun v45 h46 => ∃ q47 : Option SL, v45 = .sl q47 ∧
 ((some [.int .i64 n1, .int .i64 n2, .int .i64 n3, .sl q4] : Option (List AV)) = some [.int .i64 n1, .int .i64 n2, .int .i64 n3, .sl q4] ∧ True) ∧ I15 [.sl q47, .int .i64 (wrapK .i64 (n14 + 1))] h46 ∧ m16 [.sl q47, .int .i64 (wrapK .i64 (n14 + 1))] h46 < m16 [.sl q13, .int .i64 n14] h17))
 (Q (.tup [.sl q13, .int .i64 0]) h17))
theorem ac188 {n1 : Int} {n2 : Int} {n3 : Int} {q4 : Option SL} {h : Heap} {Q : AV → Heap → Prop} (hk : vc188 n1 n2 n3 q4 h Q) : AC Tryz.prog 188 [.agg [.int .i64 n1, .int .i64 n2, .int .i64 n3, .sl q4]] h Q :=
 AC_by (H := hintsOf [1, 7] [(0, [5, 29], [])]) (by kernel_rfl) (by kernel_rfl) hk
def vc244 (q1 : Option SL) (h : Heap) (Q : AV → Heap → Prop) : Prop :=
 ∃ (I3 : List AV → Heap → Prop) (m4 : List AV → Heap → Nat), I3 [.int .i64 0] h ∧
 ∀ n2 : Int, ∀ h5 : Heap, I3 [.int .i64 n2] h5 →
 vif (decide (n2 < (slLen q1 : Int)))
 (vIdx q1 n2 3 fun p6 =>
 ∃ s7 : List UInt8, ∃ n8 n9 : Int, cellsAt h5 p6 3 = some [.str s7, .int .i64 n8, .int .i64 n9] ∧
 AC Tryz.prog 184 [.agg [.str s7, .int .i64 n8, .int .i64 n9]] h5 fun v10 h11 => ∃ b12 : Bool, v10 = .bool b12 ∧
 vif b12
 (Q (.int .i64 n2) h11)
 ((True) ∧ I3 [.int .i64 (wrapK .i64 (n2 + 1))] h11 ∧ m4 [.int .i64 (wrapK .i64 (n2 + 1))] h11 < m4 [.int .i64 n2] h5))
 (Q (.int .i64 (-1)) h5)
theorem ac244 {q1 : Option SL} {h : Heap} {Q : AV → Heap → Prop} (hk : vc244 q1 h Q) : AC Tryz.prog 244 [.sl q1, .func (.func 184) [] []] h Q :=
 AC_by (H := hintsOf [] [(0, [8], [])]) (by kernel_rfl) (by kernel_rfl) hk
def vc245 (q1 : Option SL) (h : Heap) (Q : AV → Heap → Prop) : Prop :=
 ∃ (I4 : List AV → Heap → Prop) (m5 : List AV → Heap → Nat), I4 [.sl none, .int .i64 0] h ∧
 ∀ q2 : Option SL, ∀ n3 : Int, ∀ h6 : Heap, I4 [.sl q2, .int .i64 n3] h6 →
 vif (decide (n3 < (slLen q1 : Int)))
 (vIdx q1 n3 1 fun p7 =>
 ∃ n8 : Int, cellsAt h6 p7 1 = some [.int .i64 n8] ∧
 AC Tryz.prog 236 [.int .i64 n8] h6 fun v9 h10 => ∃ q11 : Option SL, ∃ n12 : Int, v9 = .tup [.sl q11, .int .i64 n12] ∧
 PAppendS 1 1 q2 q11 h10 fun q13 h14 =>
 (True) ∧ I4 [.sl q13, .int .i64 (wrapK .i64 (n3 + 1))] h14 ∧ m5 [.sl q13, .int .i64 (wrapK .i64 (n3 + 1))] h14 < m5 [.sl q2, .int .i64 n3] h6)
 (Q (.sl q2) h6)
theorem ac245 {q1 : Option SL} {h : Heap} {Q : AV → Heap → Prop} (hk : vc245 q1 h Q) : AC Tryz.prog 245 [.sl q1] h Q :=
 AC_by (H := hintsOf [] [(0, [3, 10], [])]) (by kernel_rfl) (by kernel_rfl) hk
def vc246 (s1 : List UInt8) (h : Heap) (Q : AV → Heap → Prop) : Prop :=
 AC Tryz.prog 236 [.int .i64 (s1.length : Int)] h fun v2 h3 => ∃ q4 : Option SL, ∃ n5 : Int, v2 = .tup [.sl q4, .int .i64 n5] ∧
 PAppend 1 1 q4 s1.length (byteAVs s1) h3 fun q6 h7 =>
 Q (.sl q6) h7
theorem ac246 {s1 : List UInt8} {h : Heap} {Q : AV → Heap → Prop} (hk : vc246 s1 h Q) : AC Tryz.prog 246 [.str s1] h Q :=
 AC_by (H := hintsOf [] []) (by kernel_rfl) (by kernel_rfl) hk
def vc176 (q1 : Option SL) (h : Heap) (Q : AV → Heap → Prop) : Prop :=
 AC Tryz.prog 158 [.sl q1] h fun v2 h3 => ∃ p4 : Option PA, v2 = .ptr p4 ∧
 AC Tryz.prog 159 [.ptr p4] h3 fun v5 h6 => ∃ n7 : Int, v5 = .int .i64 n7 ∧
 AC Tryz.prog 159 [.ptr p4] h6 fun v8 h9 => ∃ n10 : Int, v8 = .int .i64 n10 ∧
 AC Tryz.prog 159 [.ptr p4] h9 fun v11 h12 => ∃ n13 : Int, v11 = .int .i64 n13 ∧
 AC Tryz.prog 159 [.ptr p4] h12 fun v14 h15 => ∃ n16 : Int, v14 = .int .i64 n16 ∧
 AC Tryz.prog 231 [.ptr p4] h15 fun v17 h18 => ∃ b19 : Bool, v17 = .bool b19 ∧
 vif b19
 (Q (.tup [.agg [.int .i64 0, .int .i64 0, .int .i64 0, .sl none], .int .i64 140]) h18)
 (vif (decide (n16 > 256))
 (Q (.tup [.agg [.int .i64 0, .int .i64 0, .int .i64 0, .sl none], .int .i64 140]) h18)
 (∃ (I25 : List AV → Heap → Prop) (m26 : List AV → Heap → Nat), I25 [.int .i64 0, .int .i64 n7, .int .i64 n10, .int .i64 n13, .sl none] h18 ∧
 ∀ n20 n21 : Int, ∀ n22 n23 : Int, ∀ q24 : Option SL, ∀ h27 : Heap, I25 [.int .i64 n20, .int .i64 n21, .int .i64 n22, .int .i64 n23, .sl q24] h27 →
 vif (decide (n20 < n16))
 (AC Tryz.prog 243 [.ptr p4, .int .i64 24] h27 fun v28 h29 => ∃ s30 : List UInt8, v28 = .str s30 ∧
 (LV.val (.sl q24) = LV.val (.sl q24)) ∧
 AC Tryz.prog 159 [.ptr p4] h29 fun v31 h32 => ∃ n33 : Int, v31 = .int .i64 n33 ∧
 (LV.val (.sl q24) = LV.val (.sl q24)) ∧
 AC Tryz.prog 159 [.ptr p4] h32 fun v34 h35 => ∃ n36 : Int, v34 = .int .i64 n36 ∧
 (LV.val (.sl q24) = LV.val (.sl q24)) ∧
 PNew [.str s30, .int .i64 n33, .int .i64 n36] true h35 fun a37 h38 =>
 (LV.val (.sl q24) = LV.val (.sl q24)) ∧
 PAppendS 3 32 q24 (some ⟨a37, 0, 1, 1, 0⟩) h38 fun q39 h40 =>
 (True ∧ (some [.int .i64 0, .int .i64 0, .int .i64 0, .sl none] : Option (List AV)) = some [.int .i64 0, .int .i64 0, .int .i64 0, .sl none] ∧ True) ∧ I25 [.int .i64 (wrapK .i64 (n20 + 1)), .int .i64 n21, .int .i64 n22, .int .i64 n23, .sl q39] h40 ∧ m26 [.int .i64 (wrapK .i64 (n20 + 1)), .int .i64 n21, .int .i64 n22, .int .i64 n23, .sl q39] h40 < m26 [.int .i64 n20, .int .i64 n21, .int .i64 n22, .int .i64 n23, .sl q24] h27)
 (AC Tryz.prog 160 [.ptr p4] h27 fun v41 h42 => ∃ n43 : Int, v41 = .int .i64 n43 ∧
 vif (n43 != 0)
 (Q (.tup [.agg [.int .i64 0, .int .i64 0, .int .i64 0, .sl none], .int .i64 140]) h42)
 (AC Tryz.prog 107 [.agg [.int .i64 n21, .int .i64 n22, .int .i64 n23, .sl q24]] h42 fun v44 h45 => ∃ n46 : Int, v44 = .int .i64 n46 ∧
 vif (n46 != 0)
 (Q (.tup [.agg [.int .i64 0, .int .i64 0, .int .i64 0, .sl none], .int .i64 140]) h45)
 (Q (.tup [.agg [.int .i64 n21, .int .i64 n22, .int .i64 n23, .sl q24], .int .i64 0]) h45)))))
theorem ac176 {q1 : Option SL} {h : Heap} {Q : AV → Heap → Prop} (hk : vc176 q1 h Q) : AC Tryz.prog 176 [.sl q1] h Q :=
 AC_by (H := hintsOf [2, 5] [(0, [27], [1])]) (by kernel_rfl) (by kernel_rfl) hk
def vc125 (q1 : Option SL) (s2 : List UInt8) (h : Heap) (Q : AV → Heap → Prop) : Prop :=
 AC Tryz.prog 205 [.sl q1, .str s2] h fun v3 h4 => ∃ n5 : Int, v3 = .int .i64 n5 ∧
 Q (.bool (decide (n5 ≥ 0))) h4
theorem ac125 {q1 : Option SL} {s2 : List UInt8} {h : Heap} {Q : AV → Heap → Prop} (hk : vc125 q1 s2 h Q) : AC Tryz.prog 125 [.sl q1, .str s2] h Q :=
 AC_by (H := hintsOf [] []) (by kernel_rfl) (by kernel_rfl) hk
def vc205 (q1 : Option SL) (s2 : List UInt8) (h : Heap) (Q : AV → Heap → Prop) : Prop :=
 ∃ (I4 : List AV → Heap → Prop) (m5 : List AV → Heap → Nat), I4 [.int .i64 0] h ∧
 ∀ n3 : Int, ∀ h6 : Heap, I4 [.int .i64 n3] h6 →
 vif (decide (n3 < (slLen q1 : Int)))
 (vIdx q1 n3 1 fun p7 =>
 ∃ s8 : List UInt8, cellsAt h6 p7 1 = some [.str s8] ∧
 vif (s2 == s8)
 (Q (.int .i64 n3) h6)
 ((True) ∧ I4 [.int .i64 (wrapK .i64 (n3 + 1))] h6 ∧ m5 [.int .i64 (wrapK .i64 (n3 + 1))] h6 < m5 [.int .i64 n3] h6))
 (Q (.int .i64 (-1)) h6)
theorem ac205 {q1 : Option SL} {s2 : List UInt8} {h : Heap} {Q : AV → Heap → Prop} (hk : vc205 q1 s2 h Q) : AC Tryz.prog 205 [.sl q1, .str s2] h Q :=
 AC_by (H := hintsOf [] [(0, [8], [])]) (by kernel_rfl) (by kernel_rfl) hk
def vc7 (q1 : Option SL) (n2 : Int) (h : Heap) (Q : AV → Heap → Prop) : Prop :=
 AC Tryz.prog 26 [.int .i64 16384] h fun v3 h4 => ∃ p5 : Option PA, ∃ n6 : Int, v3 = .tup [.ptr p5, .int .i64 n6] ∧
 AC Tryz.prog 27 [] h4 fun v7 h8 => ∃ b9 : Bool, v7 = .bool b9 ∧
 vif (!b9)
 (AC Tryz.prog 27 [] h8 fun v10 h11 => ∃ b12 : Bool, v10 = .bool b12 ∧
 Q (.bool b12) h11)
 (vif (n6 != 0)
 (AC Tryz.prog 27 [] h8 fun v13 h14 => ∃ b15 : Bool, v13 = .bool b15 ∧
 Q (.bool b15) h14)
 (vif (p5.isNone)
 (AC Tryz.prog 27 [] h8 fun v16 h17 => ∃ b18 : Bool, v16 = .bool b18 ∧
 Q (.bool b18) h17)
 (vif (decide ((slLen q1 : Int) > 40))
 (AC Tryz.prog 27 [] h8 fun v19 h20 => ∃ b21 : Bool, v19 = .bool b21 ∧
 Q (.bool b21) h20)
 (vif (decide (n2 < 0))
 (AC Tryz.prog 27 [] h8 fun v22 h23 => ∃ b24 : Bool, v22 = .bool b24 ∧
 Q (.bool b24) h23)
 (vif (decide (n2 > 5))
 (AC Tryz.prog 27 [] h8 fun v25 h26 => ∃ b27 : Bool, v25 = .bool b27 ∧
 Q (.bool b27) h26)
 (AC Tryz.prog 28 [.ptr p5] h8 fun v28 h29 => ∃ p30 : Option PA, ∃ n31 : Int, v28 = .tup [.ptr p30, .int .i64 n31] ∧
 vif (n31 != 0)
 (Q (.bool false) h29)
 (vif (p30.isNone)
 (Q (.bool false) h29)
 (∃ (I33 : List AV → Heap → Prop) (m34 : List AV → Heap → Nat), I33 [.int .i64 0] h29 ∧
 ∀ n32 : Int, ∀ h35 : Heap, I33 [.int .i64 n32] h35 →
 vif (decide (n32 < (slLen q1 : Int)))
 (vIdx q1 n32 4 fun p36 =>
 ∃ q37 : Option SL, cellsAt h35 ⟨p36.b, p36.o + 3⟩ 1 = some [.sl q37] ∧
 vif (decide ((slLen q37 : Int) ≤ 20))
 (vIdx q1 n32 4 fun p38 =>
 ∃ n39 n40 n41 : Int, ∃ q42 : Option SL, cellsAt h35 p38 4 = some [.int .i64 n39, .int .i64 n40, .int .i64 n41, .sl q42] ∧
 AC Tryz.prog 33 [.ptr p30, .agg [.int .i64 n39, .int .i64 n40, .int .i64 n41, .sl q42]] h35 fun v43 h44 => ∃ n45 : Int, v43 = .int .i64 n45 ∧
 (True) ∧ I33 [.int .i64 (wrapK .i64 (n32 + 1))] h44 ∧ m34 [.int .i64 (wrapK .i64 (n32 + 1))] h44 < m34 [.int .i64 n32] h35)
 ((True) ∧ I33 [.int .i64 (wrapK .i64 (n32 + 1))] h35 ∧ m34 [.int .i64 (wrapK .i64 (n32 + 1))] h35 < m34 [.int .i64 n32] h35))
 (AC Tryz.prog 35 [.ptr p30] h35 fun v46 h47 => ∃ p48 : Option PA, v46 = .ptr p48 ∧
 AC Tryz.prog 31 [.ptr p48] h47 fun v49 h50 => ∃ q51 : Option SL, v49 = .sl q51 ∧
 AC Tryz.prog 47 [.ptr p30] h50 fun v52 h53 => ∃ n54 : Int, v52 = .int .i64 n54 ∧
 ∃ (I56 : List AV → Heap → Prop) (m57 : List AV → Heap → Nat), I56 [.int .i64 0] h53 ∧
 ∀ n55 : Int, ∀ h58 : Heap, I56 [.int .i64 n55] h58 →
 vif (decide (n55 < n2))
 (AC Tryz.prog 45 [.ptr p30] h58 fun v59 h60 => ∃ n61 : Int, v59 = .int .i64 n61 ∧
 vif (n61 != 0)
 (Q (.bool false) h60)
 ((True) ∧ I56 [.int .i64 (wrapK .i64 (n55 + 1))] h60 ∧ m57 [.int .i64 (wrapK .i64 (n55 + 1))] h60 < m57 [.int .i64 n55] h58))
 (AC Tryz.prog 28 [.ptr p5] h58 fun v62 h63 => ∃ p64 : Option PA, ∃ n65 : Int, v62 = .tup [.ptr p64, .int .i64 n65] ∧
 vif (n65 != 0)
 (Q (.bool false) h63)
 (vif (p64.isNone)
 (Q (.bool false) h63)
 (AC Tryz.prog 35 [.ptr p30] h63 fun v66 h67 => ∃ p68 : Option PA, v66 = .ptr p68 ∧
 AC Tryz.prog 46 [.ptr p68] h67 fun v69 h70 => ∃ n71 : Int, v69 = .int .i64 n71 ∧
 AC Tryz.prog 49 [.int .i64 2, .int .i64 n71, .int .i64 0, .str [120]] h70 fun v72 h73 => ∃ n74 n75 n76 : Int, ∃ q77 : Option SL, v72 = .agg [.int .i64 n74, .int .i64 n75, .int .i64 n76, .sl q77] ∧
 AC Tryz.prog 32 [.ptr p68, .agg [.int .i64 n74, .int .i64 n75, .int .i64 n76, .sl q77]] h73 fun v78 h79 => ∃ n80 : Int, v78 = .int .i64 n80 ∧
 AC Tryz.prog 35 [.ptr p64] h79 fun v81 h82 => ∃ p83 : Option PA, v81 = .ptr p83 ∧
 AC Tryz.prog 31 [.ptr p83] h82 fun v84 h85 => ∃ q86 : Option SL, v84 = .sl q86 ∧
 AC Tryz.prog 36 [.sl q86, .sl q51] h85 fun v87 h88 => ∃ b89 : Bool, v87 = .bool b89 ∧
 vif b89
 (AC Tryz.prog 47 [.ptr p64] h88 fun v90 h91 => ∃ n92 : Int, v90 = .int .i64 n92 ∧
 vif (decide (n92 ≤ n54))
 (AC Tryz.prog 35 [.ptr p30] h91 fun v93 h94 => ∃ p95 : Option PA, v93 = .ptr p95 ∧
 AC Tryz.prog 31 [.ptr p95] h94 fun v96 h97 => ∃ q98 : Option SL, v96 = .sl q98 ∧
 AC Tryz.prog 36 [.sl q98, .sl q51] h97 fun v99 h100 => ∃ b101 : Bool, v99 = .bool b101 ∧
 vif b101
 (vif (n80 == 0)
 (AC Tryz.prog 48 [.ptr p30] h100 fun v102 h103 => ∃ b104 : Bool, v102 = .bool b104 ∧
 Q (.bool (!b104)) h103)
 (AC Tryz.prog 46 [.ptr p68] h100 fun v105 h106 => ∃ n107 : Int, v105 = .int .i64 n107 ∧
 vif (decide (n107 ≥ 65536))
 (AC Tryz.prog 48 [.ptr p30] h106 fun v108 h109 => ∃ b110 : Bool, v108 = .bool b110 ∧
 Q (.bool (!b110)) h109)
 (Q (.bool false) h106)))
 (Q (.bool false) h100))
 (Q (.bool false) h91))
 (Q (.bool false) h88)))))))))))))
theorem ac7 {q1 : Option SL} {n2 : Int} {h : Heap} {Q : AV → Heap → Prop} (hk : vc7 q1 n2 h Q) : AC Tryz.prog 7 [.sl q1, .int .i64 n2] h Q :=
 AC_by (H := hintsOf [] [(0, [9], []), (2, [12], [])]) (by kernel_rfl) (by kernel_rfl) hk
def vc27  (h : Heap) (Q : AV → Heap → Prop) : Prop :=
 AC Tryz.prog 26 [.int .i64 50] h fun v1 h2 => ∃ p3 : Option PA, ∃ n4 : Int, v1 = .tup [.ptr p3, .int .i64 n4] ∧
 vif (n4 != 0)
 (Q (.bool false) h2)
 (vif (p3.isNone)
 (Q (.bool false) h2)
 (AC Tryz.prog 28 [.ptr p3] h2 fun v5 h6 => ∃ p7 : Option PA, ∃ n8 : Int, v5 = .tup [.ptr p7, .int .i64 n8] ∧
 vif (p7.isNone)
 (Q (.bool false) h6)
 (AC Tryz.prog 49 [.int .i64 1, .int .i64 0, .int .i64 1, .str [115]] h6 fun v9 h10 => ∃ n11 n12 n13 : Int, ∃ q14 : Option SL, v9 = .agg [.int .i64 n11, .int .i64 n12, .int .i64 n13, .sl q14] ∧
 AC Tryz.prog 33 [.ptr p7, .agg [.int .i64 n11, .int .i64 n12, .int .i64 n13, .sl q14]] h10 fun v15 h16 => ∃ n17 : Int, v15 = .int .i64 n17 ∧
 AC Tryz.prog 29 [.ptr p3, .int .i64 2] h16 fun v18 h19 => ∃ n20 : Int, v18 = .int .i64 n20 ∧
 AC Tryz.prog 49 [.int .i64 2, .int .i64 0, .int .i64 0, .str [116]] h19 fun v21 h22 => ∃ n23 n24 n25 : Int, ∃ q26 : Option SL, v21 = .agg [.int .i64 n23, .int .i64 n24, .int .i64 n25, .sl q26] ∧
 AC Tryz.prog 33 [.ptr p7, .agg [.int .i64 n23, .int .i64 n24, .int .i64 n25, .sl q26]] h22 fun v27 h28 => ∃ n29 : Int, v27 = .int .i64 n29 ∧
 PNew [.int .i64 64] true h28 fun a30 h31 =>
 AC Tryz.prog 34 [.ptr p3, .sl (some ⟨a30, 0, 1, 1, 0⟩)] h31 fun v32 h33 => v32 = .tup [] ∧
 AC Tryz.prog 28 [.ptr p3] h33 fun v34 h35 => ∃ p36 : Option PA, ∃ n37 : Int, v34 = .tup [.ptr p36, .int .i64 n37] ∧
 AC Tryz.prog 28 [.ptr none] h35 fun v38 h39 => ∃ p40 : Option PA, ∃ n41 : Int, v38 = .tup [.ptr p40, .int .i64 n41] ∧
 vif (n8 == 0)
 (vif (n17 == 0)
 (vif (n20 == 0)
 (vif (n29 == 0)
 (vif (n37 == 0)
 (vif (!(p36.isNone))
 (AC Tryz.prog 35 [.ptr p36] h39 fun v42 h43 => ∃ p44 : Option PA, v42 = .ptr p44 ∧
 AC Tryz.prog 46 [.ptr p44] h43 fun v45 h46 => ∃ n47 : Int, v45 = .int .i64 n47 ∧
 vif (n47 == 1)
 (AC Tryz.prog 47 [.ptr p36] h46 fun v48 h49 => ∃ n50 : Int, v48 = .int .i64 n50 ∧
 vif (n50 == 1)
 (AC Tryz.prog 48 [.ptr p36] h49 fun v51 h52 => ∃ b53 : Bool, v51 = .bool b53 ∧
 vif (!b53)
 (AC Tryz.prog 47 [.ptr p7] h52 fun v54 h55 => ∃ n56 : Int, v54 = .int .i64 n56 ∧
 vif (n56 == 2)
 (Q (.bool (n41 == 6)) h55)
 (Q (.bool false) h55))
 (Q (.bool false) h52))
 (Q (.bool false) h49))
 (Q (.bool false) h46))
 (Q (.bool false) h39))
 (Q (.bool false) h39))
 (Q (.bool false) h39))
 (Q (.bool false) h39))
 (Q (.bool false) h39))
 (Q (.bool false) h39))))
theorem ac27  {h : Heap} {Q : AV → Heap → Prop} (hk : vc27  h Q) : AC Tryz.prog 27 [] h Q :=
 AC_by (H := hintsOf [] []) (by kernel_rfl) (by kernel_rfl) hk
def vc36 (q1 : Option SL) (q2 : Option SL) (h : Heap) (Q : AV → Heap → Prop) : Prop :=
 vif ((slLen q1 : Int) != (slLen q2 : Int))
 (Q (.bool false) h)
 (∃ (I4 : List AV → Heap → Prop) (m5 : List AV → Heap → Nat), I4 [.int .i64 0] h ∧
 ∀ n3 : Int, ∀ h6 : Heap, I4 [.int .i64 n3] h6 →
 vif (decide (n3 < (slLen q1 : Int)))
 (vIdx q1 n3 4 fun p7 =>
 ∃ n8 n9 n10 : Int, ∃ q11 : Option SL, cellsAt h6 p7 4 = some [.int .i64 n8, .int .i64 n9, .int .i64 n10, .sl q11] ∧
 vIdx q2 n3 4 fun p12 =>
 ∃ n13 n14 n15 : Int, ∃ q16 : Option SL, cellsAt h6 p12 4 = some [.int .i64 n13, .int .i64 n14, .int .i64 n15, .sl q16] ∧
 AC Tryz.prog 115 [.agg [.int .i64 n8, .int .i64 n9, .int .i64 n10, .sl q11], .agg [.int .i64 n13, .int .i64 n14, .int .i64 n15, .sl q16]] h6 fun v17 h18 => ∃ b19 : Bool, v17 = .bool b19 ∧
 vif (!b19)
 (Q (.bool false) h18)
 ((True) ∧ I4 [.int .i64 (wrapK .i64 (n3 + 1))] h18 ∧ m5 [.int .i64 (wrapK .i64 (n3 + 1))] h18 < m5 [.int .i64 n3] h6))
 (Q (.bool true) h6))
theorem ac36 {q1 : Option SL} {q2 : Option SL} {h : Heap} {Q : AV → Heap → Prop} (hk : vc36 q1 q2 h Q) : AC Tryz.prog 36 [.sl q1, .sl q2] h Q :=
 AC_by (H := hintsOf [] [(0, [5], [])]) (by kernel_rfl) (by kernel_rfl) hk
def vc115 (n1 : Int) (n2 : Int) (n3 : Int) (q4 : Option SL) (n5 : Int) (n6 : Int) (n7 : Int) (q8 : Option SL) (h : Heap) (Q : AV → Heap → Prop) : Prop :=
 vif (n1 != n5)
 (Q (.bool false) h)
 (vif (!((n2 == n6) && ((n3 == n7) && true)))
 (Q (.bool false) h)
 (vif ((slLen q4 : Int) != (slLen q8 : Int))
 (Q (.bool false) h)
 (∃ (I10 : List AV → Heap → Prop) (m11 : List AV → Heap → Nat), I10 [.int .i64 0] h ∧
 ∀ n9 : Int, ∀ h12 : Heap, I10 [.int .i64 n9] h12 →
 vif (decide (n9 < (slLen q4 : Int)))
 (vIdx q4 n9 3 fun p13 =>
 ∃ s14 : List UInt8, ∃ n15 n16 : Int, cellsAt h12 p13 3 = some [.str s14, .int .i64 n15, .int .i64 n16] ∧
 vIdx q8 n9 3 fun p17 =>
 ∃ s18 : List UInt8, ∃ n19 n20 : Int, cellsAt h12 p17 3 = some [.str s18, .int .i64 n19, .int .i64 n20] ∧
 vif (!((s14 == s18) && ((n15 == n19) && ((n16 == n20) && true))))
 (Q (.bool false) h12)
 (((some [.int .i64 n5, .int .i64 n6, .int .i64 n7, .sl q8] : Option (List AV)) = some [.int .i64 n5, .int .i64 n6, .int .i64 n7, .sl q8] ∧ (some [.int .i64 n1, .int .i64 n2, .int .i64 n3, .sl q4] : Option (List AV)) = some [.int .i64 n1, .int .i64 n2, .int .i64 n3, .sl q4] ∧ True) ∧ I10 [.int .i64 (wrapK .i64 (n9 + 1))] h12 ∧ m11 [.int .i64 (wrapK .i64 (n9 + 1))] h12 < m11 [.int .i64 n9] h12))
 (Q (.bool true) h12))))
theorem ac115 {n1 : Int} {n2 : Int} {n3 : Int} {q4 : Option SL} {n5 : Int} {n6 : Int} {n7 : Int} {q8 : Option SL} {h : Heap} {Q : AV → Heap → Prop} (hk : vc115 n1 n2 n3 q4 n5 n6 n7 q8 h Q) : AC Tryz.prog 115 [.agg [.int .i64 n1, .int .i64 n2, .int .i64 n3, .sl q4], .agg [.int .i64 n5, .int .i64 n6, .int .i64 n7, .sl q8]] h Q :=
 AC_by (H := hintsOf [2, 3] [(0, [5], [])]) (by kernel_rfl) (by kernel_rfl) hk
def vc49 (n1 : Int) (n2 : Int) (n3 : Int) (s4 : List UInt8) (h : Heap) (Q : AV → Heap → Prop) : Prop :=
 PNew [.str s4, .int .i64 300, .int .i64 2] true h fun a5 h6 =>
 Q (.agg [.int .i64 n1, .int .i64 n2, .int .i64 n3, .sl (some ⟨a5, 0, 1, 1, 0⟩)]) h6
theorem ac49 {n1 : Int} {n2 : Int} {n3 : Int} {s4 : List UInt8} {h : Heap} {Q : AV → Heap → Prop} (hk : vc49 n1 n2 n3 s4 h Q) : AC Tryz.prog 49 [.int .i64 n1, .int .i64 n2, .int .i64 n3, .str s4] h Q :=
 AC_by (H := hintsOf [8] []) (by kernel_rfl) (by kernel_rfl) hk
end Go.Proofs
