import Derived.Test.YtnglhicedhcpbaaGreatDoorLG9
import Derived.Test.YtnglhicedhcpbaaGreatDoorProg
import Derived.KernelRfl
namespace Go.Proofs
open Go.Ab
set_option maxRecDepth 100000
set_option linter.unusedVariables false
def vc243 (p1 : OPa) (n2 : Int) (h : Heap) (Q : AHp) : Prop :=
 AC Tryz.prog 159 [.ptr p1] h fun v3 h4 => ∃ n5 : Int, v3 = .int .i64 n5 /\
 AC Tryz.prog 231 [.ptr p1] h4 fun v6 h7 => ∃ b8 : Bool, v6 = .bool b8 /\
 vif b8
 (AC Tryz.prog 230 [.ptr p1] h7 fun v9 h10 => ∃ n11 : Int, v9 = .int .i64 n11 /\
 Q (.str []) h10)
 (vif (decide (n5 > n2))
 (AC Tryz.prog 230 [.ptr p1] h7 fun v12 h13 => ∃ n14 : Int, v12 = .int .i64 n14 /\
 Q (.str []) h13)
 (AC Tryz.prog 268 [.ptr p1, .int .i64 n5] h7 fun v15 h16 => ∃ q17 : OSl, v15 = .sl q17 /\
 PStr h16 q17 fun s18 =>
 Q (.str s18) h16))
theorem ac243 {p1 : OPa} {n2 : Int} {h : Heap} {Q : AHp} (hk : vc243 p1 n2 h Q) : AC Tryz.prog 243 [.ptr p1, .int .i64 n2] h Q :=
 zL (H := zH [] []) (by kernel_rfl) (by kernel_rfl) hk
def vc116 (p1 : OPa) (h : Heap) (Q : AHp) : Prop :=
 vPtr p1 fun p2 =>
 ∃ b3 : Bool, zA h ⟨p2.b, p2.o + 4⟩ 1 = some [.bool b3] /\
 vif b3
 (Q (.tup [.ptr none, .int .i64 50]) h)
 (PNew [.sl none, .int .i64 0, .int .i64 0, .int .i64 0, .sl none, .bool false] true h fun a4 h5 =>
 PNew [.ptr p1, .ptr (some ⟨a4, 0⟩), .int .i64 0, .bool false] true h5 fun a6 h7 =>
 AC Tryz.prog 55 [.ptr p1, .str [106, 111, 117, 114, 110, 97, 108]] h7 fun v8 h9 => ∃ p10 : OPa, v8 = .ptr p10 /\
 vif (!(p10.isNone))
 (vPtr p10 fun p11 =>
 ∃ q12 : OSl, zA h9 ⟨p11.b, p11.o + 1⟩ 1 = some [.sl q12] /\
 AC Tryz.prog 190 [.sl q12] h9 fun v13 h14 => ∃ p15 : OPa, v13 = .ptr p15 /\
 zI h14 ⟨a6, 1⟩ [.ptr p15] fun h16 =>
 AC Tryz.prog 119 [.ptr (some ⟨a6, 0⟩)] h16 fun v17 h18 => ∃ n19 n20 : Int, v17 = .tup [.int .i64 n19, .int .i64 n20] /\
 vif (n20 != 0)
 (Q (.tup [.ptr none, .int .i64 n20]) h18)
 (AC Tryz.prog 191 [.ptr (some ⟨a6, 0⟩)] h18 fun v21 h22 => ∃ n23 : Int, v21 = .int .i64 n23 /\
 vif (n23 != 0)
 (Q (.tup [.ptr none, .int .i64 n23]) h22)
 (Q (.tup [.ptr (some ⟨a6, 0⟩), .int .i64 0]) h22)))
 (AC Tryz.prog 119 [.ptr (some ⟨a6, 0⟩)] h9 fun v24 h25 => ∃ n26 n27 : Int, v24 = .tup [.int .i64 n26, .int .i64 n27] /\
 vif (n27 != 0)
 (Q (.tup [.ptr none, .int .i64 n27]) h25)
 (AC Tryz.prog 191 [.ptr (some ⟨a6, 0⟩)] h25 fun v28 h29 => ∃ n30 : Int, v28 = .int .i64 n30 /\
 vif (n30 != 0)
 (Q (.tup [.ptr none, .int .i64 n30]) h29)
 (Q (.tup [.ptr (some ⟨a6, 0⟩), .int .i64 0]) h29))))
theorem ac116 {p1 : OPa} {h : Heap} {Q : AHp} (hk : vc116 p1 h Q) : AC Tryz.prog 116 [.ptr p1] h Q :=
 zL (H := zH [] []) (by kernel_rfl) (by kernel_rfl) hk
def vc117 (p1 : OPa) (n2 : Int) (n3 : Int) (n4 : Int) (q5 : OSl) (h : Heap) (Q : AHp) : Prop :=
 vPtr p1 fun p6 =>
 ∃ b7 : Bool, zA h ⟨p6.b, p6.o + 3⟩ 1 = some [.bool b7] /\
 vif b7
 (Q (.int .i64 6) h)
 (vPtr p1 fun p8 =>
 ∃ p9 : OPa, zA h ⟨p8.b, p8.o + 1⟩ 1 = some [.ptr p9] /\
 AC Tryz.prog 192 [.ptr p9] h fun v10 h11 => ∃ p12 : OPa, v10 = .ptr p12 /\
 AC Tryz.prog 193 [.ptr p12, .agg [.int .i64 n2, .int .i64 n3, .int .i64 n4, .sl q5]] h11 fun v13 h14 => ∃ n15 : Int, v13 = .int .i64 n15 /\
 vif (n15 != 0)
 (Q (.int .i64 n15) h14)
 (AC Tryz.prog 194 [.ptr p1, .str [106, 111, 117, 114, 110, 97, 108], .agg [.int .i64 n2, .int .i64 n3, .int .i64 n4, .sl q5]] h14 fun v16 h17 => ∃ n18 : Int, v16 = .int .i64 n18 /\
 vif (n18 == 0)
 (vPtr p1 fun p19 =>
 ∃ p20 : OPa, zA h17 ⟨p19.b, p19.o + 0⟩ 1 = some [.ptr p20] /\
 AC Tryz.prog 129 [.ptr p20, .str [106, 111, 117, 114, 110, 97, 108]] h17 fun v21 h22 => ∃ n23 : Int, v21 = .int .i64 n23 /\
 vif (n23 != 0)
 (vPtr p1 fun p24 =>
 zI h22 ⟨p24.b, p24.o + 3⟩ [.bool true] fun h25 =>
 Q (.int .i64 n23) h25)
 (vPtr p1 fun p26 =>
 zI h22 ⟨p26.b, p26.o + 1⟩ [.ptr p12] fun h27 =>
 Q (.int .i64 0) h27))
 (vif (n18 != 0)
 (vPtr p1 fun p28 =>
 zI h17 ⟨p28.b, p28.o + 3⟩ [.bool true] fun h29 =>
 Q (.int .i64 n18) h29)
 (vPtr p1 fun p30 =>
 zI h17 ⟨p30.b, p30.o + 1⟩ [.ptr p12] fun h31 =>
 Q (.int .i64 0) h31))))
theorem ac117 {p1 : OPa} {n2 : Int} {n3 : Int} {n4 : Int} {q5 : OSl} {h : Heap} {Q : AHp} (hk : vc117 p1 n2 n3 n4 q5 h Q) : AC Tryz.prog 117 [.ptr p1, .agg [.int .i64 n2, .int .i64 n3, .int .i64 n4, .sl q5]] h Q :=
 zL (H := zH [3] []) (by kernel_rfl) (by kernel_rfl) hk
def vc119 (p1 : OPa) (h : Heap) (Q : AHp) : Prop :=
 vPtr p1 fun p2 =>
 ∃ b3 : Bool, zA h ⟨p2.b, p2.o + 3⟩ 1 = some [.bool b3] /\
 vif b3
 (Q (.tup [.int .i64 0, .int .i64 6]) h)
 (vPtr p1 fun p4 =>
 ∃ p5 : OPa, zA h ⟨p4.b, p4.o + 1⟩ 1 = some [.ptr p5] /\
 AC Tryz.prog 195 [.ptr p5] h fun v6 h7 => ∃ q8 : OSl, v6 = .sl q8 /\
 ∃ (I11 : LHp) (m12 : LHn), I11 [.sl none, .int .i64 0] h7 /\
 ∀ q9 : OSl, ∀ n10 : Int, ∀ h13 : Heap, I11 [.sl q9, .int .i64 n10] h13 ->
 vPtr p1 fun p14 =>
 ∃ p15 : OPa, zA h13 ⟨p14.b, p14.o + 0⟩ 1 = some [.ptr p15] /\
 vPtr p15 fun p16 =>
 ∃ q17 : OSl, zA h13 ⟨p16.b, p16.o + 0⟩ 1 = some [.sl q17] /\
 vif (decide (n10 < (zJ q17 : Int)))
 (vPtr p1 fun p18 =>
 ∃ p19 : OPa, zA h13 ⟨p18.b, p18.o + 0⟩ 1 = some [.ptr p19] /\
 vPtr p19 fun p20 =>
 ∃ q21 : OSl, zA h13 ⟨p20.b, p20.o + 0⟩ 1 = some [.sl q21] /\
 vIdx q21 n10 1 fun p22 =>
 ∃ p23 : OPa, zA h13 p22 1 = some [.ptr p23] /\
 vPtr p23 fun p24 =>
 ∃ s25 : List UInt8, zA h13 ⟨p24.b, p24.o + 0⟩ 1 = some [.str s25] /\
 ∃ (I28 : LHp) (m29 : LHn), I28 [.bool (s25 == [106, 111, 117, 114, 110, 97, 108]), .int .i64 0] h13 /\
 ∀ b26 : Bool, ∀ n27 : Int, ∀ h30 : Heap, I28 [.bool b26, .int .i64 n27] h30 ->
 vif (decide (n27 < (zJ q8 : Int)))
 (vif b26
 ((True) /\ I28 [.bool true, .int .i64 (zE .i64 (n27 + 1))] h30 /\ m29 [.bool true, .int .i64 (zE .i64 (n27 + 1))] h30 < m29 [.bool b26, .int .i64 n27] h30)
 (vIdx q8 n27 1 fun p31 =>
 ∃ s32 : List UInt8, zA h30 p31 1 = some [.str s32] /\
 vPtr p1 fun p33 =>
 ∃ p34 : OPa, zA h30 ⟨p33.b, p33.o + 0⟩ 1 = some [.ptr p34] /\
 vPtr p34 fun p35 =>
 ∃ q36 : OSl, zA h30 ⟨p35.b, p35.o + 0⟩ 1 = some [.sl q36] /\
 vIdx q36 n10 1 fun p37 =>
 ∃ p38 : OPa, zA h30 p37 1 = some [.ptr p38] /\
 vPtr p38 fun p39 =>
 ∃ s40 : List UInt8, zA h30 ⟨p39.b, p39.o + 0⟩ 1 = some [.str s40] /\
 (True) /\ I28 [.bool (s32 == s40), .int .i64 (zE .i64 (n27 + 1))] h30 /\ m29 [.bool (s32 == s40), .int .i64 (zE .i64 (n27 + 1))] h30 < m29 [.bool b26, .int .i64 n27] h30))
 (vif (!b26)
 (vPtr p1 fun p41 =>
 ∃ p42 : OPa, zA h30 ⟨p41.b, p41.o + 0⟩ 1 = some [.ptr p42] /\
 vPtr p42 fun p43 =>
 ∃ q44 : OSl, zA h30 ⟨p43.b, p43.o + 0⟩ 1 = some [.sl q44] /\
 vIdx q44 n10 1 fun p45 =>
 ∃ p46 : OPa, zA h30 p45 1 = some [.ptr p46] /\
 vPtr p46 fun p47 =>
 ∃ s48 : List UInt8, zA h30 ⟨p47.b, p47.o + 0⟩ 1 = some [.str s48] /\
 PNew [.str s48] true h30 fun a49 h50 =>
 zC 1 16 q9 (some ⟨a49, 0, 1, 1, 0⟩) h50 fun q51 h52 =>
 (True) /\ I11 [.sl q51, .int .i64 (zE .i64 (n10 + 1))] h52 /\ m12 [.sl q51, .int .i64 (zE .i64 (n10 + 1))] h52 < m12 [.sl q9, .int .i64 n10] h13)
 ((True) /\ I11 [.sl q9, .int .i64 (zE .i64 (n10 + 1))] h30 /\ m12 [.sl q9, .int .i64 (zE .i64 (n10 + 1))] h30 < m12 [.sl q9, .int .i64 n10] h13)))
 (∃ (I54 : LHp) (m55 : LHn), I54 [.int .i64 0] h13 /\
 ∀ n53 : Int, ∀ h56 : Heap, I54 [.int .i64 n53] h56 ->
 vif (decide (n53 < (zJ q9 : Int)))
 (vPtr p1 fun p57 =>
 ∃ p58 : OPa, zA h56 ⟨p57.b, p57.o + 0⟩ 1 = some [.ptr p58] /\
 vIdx q9 n53 1 fun p59 =>
 ∃ s60 : List UInt8, zA h56 p59 1 = some [.str s60] /\
 AC Tryz.prog 196 [.ptr p58, .str s60] h56 fun v61 h62 => ∃ n63 : Int, v61 = .int .i64 n63 /\
 vif (n63 != 0)
 (Q (.tup [.int .i64 n53, .int .i64 n63]) h62)
 ((True) /\ I54 [.int .i64 (zE .i64 (n53 + 1))] h62 /\ m55 [.int .i64 (zE .i64 (n53 + 1))] h62 < m55 [.int .i64 n53] h56))
 (Q (.tup [.int .i64 (zJ q9 : Int), .int .i64 0]) h56)))
theorem ac119 {p1 : OPa} {h : Heap} {Q : AHp} (hk : vc119 p1 h Q) : AC Tryz.prog 119 [.ptr p1] h Q :=
 zL (H := zH [] [(0, [4, 6], []), (2, [7, 8], []), (4, [9], [])]) (by kernel_rfl) (by kernel_rfl) hk
def vc191 (p1 : OPa) (h : Heap) (Q : AHp) : Prop :=
 vPtr p1 fun p2 =>
 ∃ p3 : OPa, zA h ⟨p2.b, p2.o + 0⟩ 1 = some [.ptr p3] /\
 AC Tryz.prog 55 [.ptr p3, .str [106, 111, 117, 114, 110, 97, 108, 46, 110, 101, 119]] h fun v4 h5 => ∃ p6 : OPa, v4 = .ptr p6 /\
 vif (!(p6.isNone))
 (vPtr p1 fun p7 =>
 ∃ p8 : OPa, zA h5 ⟨p7.b, p7.o + 0⟩ 1 = some [.ptr p8] /\
 AC Tryz.prog 196 [.ptr p8, .str [106, 111, 117, 114, 110, 97, 108, 46, 110, 101, 119]] h5 fun v9 h10 => ∃ n11 : Int, v9 = .int .i64 n11 /\
 vif (n11 != 0)
 (Q (.int .i64 n11) h10)
 (vPtr p1 fun p12 =>
 ∃ p13 : OPa, zA h10 ⟨p12.b, p12.o + 0⟩ 1 = some [.ptr p13] /\
 AC Tryz.prog 121 [.ptr p13, .str [106, 111, 117, 114, 110, 97, 108, 46, 110, 101, 119]] h10 fun v14 h15 => ∃ n16 : Int, v14 = .int .i64 n16 /\
 vif (n16 != 0)
 (Q (.int .i64 n16) h15)
 (vPtr p1 fun p17 =>
 zI h15 ⟨p17.b, p17.o + 2⟩ [.int .i64 0] fun h18 =>
 vPtr p1 fun p19 =>
 ∃ p20 : OPa, zA h18 ⟨p19.b, p19.o + 1⟩ 1 = some [.ptr p20] /\
 AC Tryz.prog 251 [.ptr p20] h18 fun v21 h22 => ∃ q23 : OSl, v21 = .sl q23 /\
 ∃ (I25 : LHp) (m26 : LHn), I25 [.int .i64 0] h22 /\
 ∀ n24 : Int, ∀ h27 : Heap, I25 [.int .i64 n24] h27 ->
 vif (decide (n24 < (zJ q23 : Int)))
 (vIdx q23 n24 4 fun p28 =>
 ∃ n29 n30 n31 : Int, ∃ q32 : OSl, zA h27 p28 4 = some [.int .i64 n29, .int .i64 n30, .int .i64 n31, .sl q32] /\
 AC Tryz.prog 194 [.ptr p1, .str [106, 111, 117, 114, 110, 97, 108, 46, 110, 101, 119], .agg [.int .i64 n29, .int .i64 n30, .int .i64 n31, .sl q32]] h27 fun v33 h34 => ∃ n35 : Int, v33 = .int .i64 n35 /\
 vif (n35 != 0)
 (Q (.int .i64 n35) h34)
 ((True) /\ I25 [.int .i64 (zE .i64 (n24 + 1))] h34 /\ m26 [.int .i64 (zE .i64 (n24 + 1))] h34 < m26 [.int .i64 n24] h27))
 (vPtr p1 fun p36 =>
 ∃ p37 : OPa, zA h27 ⟨p36.b, p36.o + 0⟩ 1 = some [.ptr p37] /\
 AC Tryz.prog 129 [.ptr p37, .str [106, 111, 117, 114, 110, 97, 108, 46, 110, 101, 119]] h27 fun v38 h39 => ∃ n40 : Int, v38 = .int .i64 n40 /\
 vif (n40 != 0)
 (Q (.int .i64 n40) h39)
 (vPtr p1 fun p41 =>
 ∃ p42 : OPa, zA h39 ⟨p41.b, p41.o + 0⟩ 1 = some [.ptr p42] /\
 AC Tryz.prog 252 [.ptr p42, .str [106, 111, 117, 114, 110, 97, 108, 46, 110, 101, 119], .str [106, 111, 117, 114, 110, 97, 108]] h39 fun v43 h44 => ∃ n45 : Int, v43 = .int .i64 n45 /\
 Q (.int .i64 n45) h44)))))
 (vPtr p1 fun p46 =>
 ∃ p47 : OPa, zA h5 ⟨p46.b, p46.o + 0⟩ 1 = some [.ptr p47] /\
 AC Tryz.prog 121 [.ptr p47, .str [106, 111, 117, 114, 110, 97, 108, 46, 110, 101, 119]] h5 fun v48 h49 => ∃ n50 : Int, v48 = .int .i64 n50 /\
 vif (n50 != 0)
 (Q (.int .i64 n50) h49)
 (vPtr p1 fun p51 =>
 zI h49 ⟨p51.b, p51.o + 2⟩ [.int .i64 0] fun h52 =>
 vPtr p1 fun p53 =>
 ∃ p54 : OPa, zA h52 ⟨p53.b, p53.o + 1⟩ 1 = some [.ptr p54] /\
 AC Tryz.prog 251 [.ptr p54] h52 fun v55 h56 => ∃ q57 : OSl, v55 = .sl q57 /\
 ∃ (I59 : LHp) (m60 : LHn), I59 [.int .i64 0] h56 /\
 ∀ n58 : Int, ∀ h61 : Heap, I59 [.int .i64 n58] h61 ->
 vif (decide (n58 < (zJ q57 : Int)))
 (vIdx q57 n58 4 fun p62 =>
 ∃ n63 n64 n65 : Int, ∃ q66 : OSl, zA h61 p62 4 = some [.int .i64 n63, .int .i64 n64, .int .i64 n65, .sl q66] /\
 AC Tryz.prog 194 [.ptr p1, .str [106, 111, 117, 114, 110, 97, 108, 46, 110, 101, 119], .agg [.int .i64 n63, .int .i64 n64, .int .i64 n65, .sl q66]] h61 fun v67 h68 => ∃ n69 : Int, v67 = .int .i64 n69 /\
 vif (n69 != 0)
 (Q (.int .i64 n69) h68)
 ((True) /\ I59 [.int .i64 (zE .i64 (n58 + 1))] h68 /\ m60 [.int .i64 (zE .i64 (n58 + 1))] h68 < m60 [.int .i64 n58] h61))
 (vPtr p1 fun p70 =>
 ∃ p71 : OPa, zA h61 ⟨p70.b, p70.o + 0⟩ 1 = some [.ptr p71] /\
 AC Tryz.prog 129 [.ptr p71, .str [106, 111, 117, 114, 110, 97, 108, 46, 110, 101, 119]] h61 fun v72 h73 => ∃ n74 : Int, v72 = .int .i64 n74 /\
 vif (n74 != 0)
 (Q (.int .i64 n74) h73)
 (vPtr p1 fun p75 =>
 ∃ p76 : OPa, zA h73 ⟨p75.b, p75.o + 0⟩ 1 = some [.ptr p76] /\
 AC Tryz.prog 252 [.ptr p76, .str [106, 111, 117, 114, 110, 97, 108, 46, 110, 101, 119], .str [106, 111, 117, 114, 110, 97, 108]] h73 fun v77 h78 => ∃ n79 : Int, v77 = .int .i64 n79 /\
 Q (.int .i64 n79) h78))))
theorem ac191 {p1 : OPa} {h : Heap} {Q : AHp} (hk : vc191 p1 h Q) : AC Tryz.prog 191 [.ptr p1] h Q :=
 zL (H := zH [] [(0, [6], [])]) (by kernel_rfl) (by kernel_rfl) hk
def vc192 (p1 : OPa) (h : Heap) (Q : AHp) : Prop :=
 vPtr p1 fun p2 =>
 ∃ q3 : OSl, zA h ⟨p2.b, p2.o + 0⟩ 1 = some [.sl q3] /\
 vPtr p1 fun p4 =>
 ∃ n5 n6 n7 : Int, ∃ q8 : OSl, zA h ⟨p4.b, p4.o + 1⟩ 4 = some [.int .i64 n5, .int .i64 n6, .int .i64 n7, .sl q8] /\
 vPtr p1 fun p9 =>
 ∃ b10 : Bool, zA h ⟨p9.b, p9.o + 5⟩ 1 = some [.bool b10] /\
 PNew [] true h fun a11 h12 =>
 (∃ b27 : Bool, zA h12 ⟨p9.b, p9.o + 5⟩ 1 = some [.bool b27] /\
 LV.val (.bool b27) = LV.val (.bool b10)) /\
 (∃ n23 n24 n25 : Int, ∃ q26 : OSl, zA h12 ⟨p4.b, p4.o + 1⟩ 4 = some [.int .i64 n23, .int .i64 n24, .int .i64 n25, .sl q26] /\
 LV.val (.agg [.int .i64 n23, .int .i64 n24, .int .i64 n25, .sl q26]) = LV.val (.agg [.int .i64 n5, .int .i64 n6, .int .i64 n7, .sl q8])) /\
 (∃ q22 : OSl, zA h12 ⟨p2.b, p2.o + 0⟩ 1 = some [.sl q22] /\
 LV.val (.sl q22) = LV.val (.sl q3)) /\
 zC 4 48 (some ⟨a11, 0, 0, 0, 0⟩) q3 h12 fun q13 h14 =>
 (∃ b21 : Bool, zA h14 ⟨p9.b, p9.o + 5⟩ 1 = some [.bool b21] /\
 LV.val (.bool b21) = LV.val (.bool b10)) /\
 (∃ n17 n18 n19 : Int, ∃ q20 : OSl, zA h14 ⟨p4.b, p4.o + 1⟩ 4 = some [.int .i64 n17, .int .i64 n18, .int .i64 n19, .sl q20] /\
 LV.val (.agg [.int .i64 n17, .int .i64 n18, .int .i64 n19, .sl q20]) = LV.val (.agg [.int .i64 n5, .int .i64 n6, .int .i64 n7, .sl q8])) /\
 PNew [.sl q13, .int .i64 n5, .int .i64 n6, .int .i64 n7, .sl q8, .bool b10] true h14 fun a15 h16 =>
 Q (.ptr (some ⟨a15, 0⟩)) h16
theorem ac192 {p1 : OPa} {h : Heap} {Q : AHp} (hk : vc192 p1 h Q) : AC Tryz.prog 192 [.ptr p1] h Q :=
 zL (H := zH [] []) (by kernel_rfl) (by kernel_rfl) hk
def vc193 (p1 : OPa) (n2 : Int) (n3 : Int) (n4 : Int) (q5 : OSl) (h : Heap) (Q : AHp) : Prop :=
 AC Tryz.prog 253 [.agg [.int .i64 n2, .int .i64 n3, .int .i64 n4, .sl q5]] h fun v6 h7 => ∃ b8 : Bool, v6 = .bool b8 /\
 vif (!b8)
 (Q (.int .i64 140) h7)
 (AC Tryz.prog 254 [.ptr p1, .agg [.int .i64 n2, .int .i64 n3, .int .i64 n4, .sl q5]] h7 fun v9 h10 => ∃ b11 : Bool, v9 = .bool b11 /\
 vif (!b11)
 (Q (.int .i64 1) h10)
 (vif (n2 == 2)
 (vPtr p1 fun p12 =>
 ∃ q13 : OSl, zA h10 ⟨p12.b, p12.o + 0⟩ 1 = some [.sl q13] /\
 (PNew [] true h10 fun a14 h15 =>
 (LV.val (.agg [.int .i64 n2, .int .i64 n3, .int .i64 n4, .sl q5]) = LV.val (.agg [.int .i64 n2, .int .i64 n3, .int .i64 n4, .sl q5])) /\
 (∃ q42 : OSl, zA h15 ⟨p12.b, p12.o + 0⟩ 1 = some [.sl q42] /\
 LV.val (.sl q42) = LV.val (.sl q13)) /\
 (zC 4 48 (some ⟨a14, 0, 0, 0, 0⟩) q13 h15 fun q16 h17 =>
 (LV.val (.agg [.int .i64 n2, .int .i64 n3, .int .i64 n4, .sl q5]) = LV.val (.agg [.int .i64 n2, .int .i64 n3, .int .i64 n4, .sl q5])) /\
 PNew [.int .i64 n2, .int .i64 n3, .int .i64 n4, .sl q5] true h17 fun a18 h19 =>
 (∃ q28 : OSl, zA h19 ⟨p12.b, p12.o + 0⟩ 1 = some [.sl q28] /\
 LV.val (.sl q28) = LV.val (.sl q13)) /\
 zC 4 48 q16 (some ⟨a18, 0, 1, 1, 0⟩) h19 fun q20 h21 =>
 vPtr p1 fun p22 =>
 zI h21 ⟨p22.b, p22.o + 0⟩ [.sl q20] fun h23 =>
 vPtr p1 fun p24 =>
 zI h23 ⟨p24.b, p24.o + 1⟩ [.int .i64 0, .int .i64 0, .int .i64 0, .sl none] fun h25 =>
 vPtr p1 fun p26 =>
 zI h25 ⟨p26.b, p26.o + 5⟩ [.bool false] fun h27 =>
 Q (.int .i64 0) h27) /\
 (PNew [.int .i64 n2, .int .i64 n3, .int .i64 n4, .sl q5] true h15 fun a29 h30 =>
 (∃ q41 : OSl, zA h30 ⟨p12.b, p12.o + 0⟩ 1 = some [.sl q41] /\
 LV.val (.sl q41) = LV.val (.sl q13)) /\
 zC 4 48 (some ⟨a14, 0, 0, 0, 0⟩) q13 h30 fun q31 h32 =>
 (LV.val (.agg [.int .i64 n2, .int .i64 n3, .int .i64 n4, .sl q5]) = LV.val (.agg [.int .i64 n2, .int .i64 n3, .int .i64 n4, .sl q5])) /\
 zC 4 48 q31 (some ⟨a29, 0, 1, 1, 0⟩) h32 fun q33 h34 =>
 vPtr p1 fun p35 =>
 zI h34 ⟨p35.b, p35.o + 0⟩ [.sl q33] fun h36 =>
 vPtr p1 fun p37 =>
 zI h36 ⟨p37.b, p37.o + 1⟩ [.int .i64 0, .int .i64 0, .int .i64 0, .sl none] fun h38 =>
 vPtr p1 fun p39 =>
 zI h38 ⟨p39.b, p39.o + 5⟩ [.bool false] fun h40 =>
 Q (.int .i64 0) h40)) /\
 (PNew [.int .i64 n2, .int .i64 n3, .int .i64 n4, .sl q5] true h10 fun a43 h44 =>
 (∃ q58 : OSl, zA h44 ⟨p12.b, p12.o + 0⟩ 1 = some [.sl q58] /\
 LV.val (.sl q58) = LV.val (.sl q13)) /\
 PNew [] true h44 fun a45 h46 =>
 (LV.val (.agg [.int .i64 n2, .int .i64 n3, .int .i64 n4, .sl q5]) = LV.val (.agg [.int .i64 n2, .int .i64 n3, .int .i64 n4, .sl q5])) /\
 (∃ q57 : OSl, zA h46 ⟨p12.b, p12.o + 0⟩ 1 = some [.sl q57] /\
 LV.val (.sl q57) = LV.val (.sl q13)) /\
 zC 4 48 (some ⟨a45, 0, 0, 0, 0⟩) q13 h46 fun q47 h48 =>
 (LV.val (.agg [.int .i64 n2, .int .i64 n3, .int .i64 n4, .sl q5]) = LV.val (.agg [.int .i64 n2, .int .i64 n3, .int .i64 n4, .sl q5])) /\
 zC 4 48 q47 (some ⟨a43, 0, 1, 1, 0⟩) h48 fun q49 h50 =>
 vPtr p1 fun p51 =>
 zI h50 ⟨p51.b, p51.o + 0⟩ [.sl q49] fun h52 =>
 vPtr p1 fun p53 =>
 zI h52 ⟨p53.b, p53.o + 1⟩ [.int .i64 0, .int .i64 0, .int .i64 0, .sl none] fun h54 =>
 vPtr p1 fun p55 =>
 zI h54 ⟨p55.b, p55.o + 5⟩ [.bool false] fun h56 =>
 Q (.int .i64 0) h56))
 (vPtr p1 fun p59 =>
 zI h10 ⟨p59.b, p59.o + 1⟩ [.int .i64 n2, .int .i64 n3, .int .i64 n4, .sl q5] fun h60 =>
 vPtr p1 fun p61 =>
 zI h60 ⟨p61.b, p61.o + 5⟩ [.bool true] fun h62 =>
 Q (.int .i64 0) h62)))
theorem ac193 {p1 : OPa} {n2 : Int} {n3 : Int} {n4 : Int} {q5 : OSl} {h : Heap} {Q : AHp} (hk : vc193 p1 n2 n3 n4 q5 h Q) : AC Tryz.prog 193 [.ptr p1, .agg [.int .i64 n2, .int .i64 n3, .int .i64 n4, .sl q5]] h Q :=
 zL (H := zH [3] []) (by kernel_rfl) (by kernel_rfl) hk
def vc194 (p1 : OPa) (s2 : List UInt8) (n3 : Int) (n4 : Int) (n5 : Int) (q6 : OSl) (h : Heap) (Q : AHp) : Prop :=
 vPtr p1 fun p7 =>
 ∃ n8 : Int, zA h ⟨p7.b, p7.o + 2⟩ 1 = some [.int .i64 n8] /\
 AC Tryz.prog 256 [.agg [.int .i64 n3, .int .i64 n4, .int .i64 n5, .sl q6]] h fun v9 h10 => ∃ q11 : OSl, v9 = .sl q11 /\
 (∃ n30 : Int, zA h10 ⟨p7.b, p7.o + 2⟩ 1 = some [.int .i64 n30] /\
 LV.val (.int .i64 n30) = LV.val (.int .i64 n8)) /\
 AC Tryz.prog 255 [.int .i64 (zE .i64 (1 + n8)), .sl q11] h10 fun v12 h13 => ∃ q14 : OSl, v12 = .sl q14 /\
 ∃ (I16 : LHp) (m17 : LHn), I16 [.int .i64 0] h13 /\
 ∀ n15 : Int, ∀ h18 : Heap, I16 [.int .i64 n15] h18 ->
 vif (decide (n15 < (zJ q14 : Int)))
 (vPtr p1 fun p19 =>
 ∃ p20 : OPa, zA h18 ⟨p19.b, p19.o + 0⟩ 1 = some [.ptr p20] /\
 vIdx q14 n15 1 fun p21 =>
 ∃ q22 : OSl, zA h18 p21 1 = some [.sl q22] /\
 AC Tryz.prog 128 [.ptr p20, .str s2, .int .i64 0, .sl q22, .bool true] h18 fun v23 h24 => ∃ n25 : Int, v23 = .int .i64 n25 /\
 vif (n25 != 0)
 (Q (.int .i64 n25) h24)
 (vPtr p1 fun p26 =>
 ∃ n27 : Int, zA h24 ⟨p26.b, p26.o + 2⟩ 1 = some [.int .i64 n27] /\
 vPtr p1 fun p28 =>
 zI h24 ⟨p28.b, p28.o + 2⟩ [.int .i64 (zE .i64 (n27 + 1))] fun h29 =>
 ((some [.int .i64 n3, .int .i64 n4, .int .i64 n5, .sl q6] : Option (List AV)) = some [.int .i64 n3, .int .i64 n4, .int .i64 n5, .sl q6] /\ True) /\ I16 [.int .i64 (zE .i64 (n15 + 1))] h29 /\ m17 [.int .i64 (zE .i64 (n15 + 1))] h29 < m17 [.int .i64 n15] h18))
 (Q (.int .i64 0) h18)
theorem ac194 {p1 : OPa} {s2 : List UInt8} {n3 : Int} {n4 : Int} {n5 : Int} {q6 : OSl} {h : Heap} {Q : AHp} (hk : vc194 p1 s2 n3 n4 n5 q6 h Q) : AC Tryz.prog 194 [.ptr p1, .str s2, .agg [.int .i64 n3, .int .i64 n4, .int .i64 n5, .sl q6]] h Q :=
 zL (H := zH [5] [(0, [8], [])]) (by kernel_rfl) (by kernel_rfl) hk
def vc195 (p1 : OPa) (h : Heap) (Q : AHp) : Prop :=
 AC Tryz.prog 251 [.ptr p1] h fun v2 h3 => ∃ q4 : OSl, v2 = .sl q4 /\
 ∃ (I7 : LHp) (m8 : LHn), I7 [.sl none, .int .i64 0] h3 /\
 ∀ q5 : OSl, ∀ n6 : Int, ∀ h9 : Heap, I7 [.sl q5, .int .i64 n6] h9 ->
 vif (decide (n6 < (zJ q4 : Int)))
 (∃ (I12 : LHp) (m13 : LHn), I12 [.sl q5, .int .i64 0] h9 /\
 ∀ q10 : OSl, ∀ n11 : Int, ∀ h14 : Heap, I12 [.sl q10, .int .i64 n11] h14 ->
 vIdx q4 n6 4 fun p15 =>
 ∃ q16 : OSl, zA h14 ⟨p15.b, p15.o + 3⟩ 1 = some [.sl q16] /\
 vif (decide (n11 < (zJ q16 : Int)))
 (vIdx q4 n6 4 fun p17 =>
 ∃ q18 : OSl, zA h14 ⟨p17.b, p17.o + 3⟩ 1 = some [.sl q18] /\
 vIdx q18 n11 3 fun p19 =>
 ∃ s20 : List UInt8, zA h14 ⟨p19.b, p19.o + 0⟩ 1 = some [.str s20] /\
 ∃ (I22 : LHp) (m23 : LHn), I22 [.int .i64 0] h14 /\
 ∀ n21 : Int, ∀ h24 : Heap, I22 [.int .i64 n21] h24 ->
 vif (decide (n21 < (zJ q10 : Int)))
 (vIdx q10 n21 1 fun p25 =>
 ∃ s26 : List UInt8, zA h24 p25 1 = some [.str s26] /\
 vif (bytesLess s26 s20)
 ((True) /\ I22 [.int .i64 (zE .i64 (n21 + 1))] h24 /\ m23 [.int .i64 (zE .i64 (n21 + 1))] h24 < m23 [.int .i64 n21] h24)
 (vif (n21 == (zJ q10 : Int))
 (yC 1 q10 0 (some n21) none fun q27 =>
 yC 1 q10 n21 none none fun q28 =>
 (PNew [] true h24 fun a29 h30 =>
 (zC 1 16 (some ⟨a29, 0, 0, 0, 0⟩) q27 h30 fun q31 h32 =>
 PNew [.str s20] true h32 fun a33 h34 =>
 zC 1 16 q31 (some ⟨a33, 0, 1, 1, 0⟩) h34 fun q35 h36 =>
 zC 1 16 q35 q28 h36 fun q37 h38 =>
 (True) /\ I12 [.sl q37, .int .i64 (zE .i64 (n11 + 1))] h38 /\ m13 [.sl q37, .int .i64 (zE .i64 (n11 + 1))] h38 < m13 [.sl q10, .int .i64 n11] h14) /\
 (PNew [.str s20] true h30 fun a39 h40 =>
 zC 1 16 (some ⟨a29, 0, 0, 0, 0⟩) q27 h40 fun q41 h42 =>
 zC 1 16 q41 (some ⟨a39, 0, 1, 1, 0⟩) h42 fun q43 h44 =>
 zC 1 16 q43 q28 h44 fun q45 h46 =>
 (True) /\ I12 [.sl q45, .int .i64 (zE .i64 (n11 + 1))] h46 /\ m13 [.sl q45, .int .i64 (zE .i64 (n11 + 1))] h46 < m13 [.sl q10, .int .i64 n11] h14)) /\
 (PNew [.str s20] true h24 fun a47 h48 =>
 PNew [] true h48 fun a49 h50 =>
 zC 1 16 (some ⟨a49, 0, 0, 0, 0⟩) q27 h50 fun q51 h52 =>
 zC 1 16 q51 (some ⟨a47, 0, 1, 1, 0⟩) h52 fun q53 h54 =>
 zC 1 16 q53 q28 h54 fun q55 h56 =>
 (True) /\ I12 [.sl q55, .int .i64 (zE .i64 (n11 + 1))] h56 /\ m13 [.sl q55, .int .i64 (zE .i64 (n11 + 1))] h56 < m13 [.sl q10, .int .i64 n11] h14))
 (vIdx q10 n21 1 fun p57 =>
 ∃ s58 : List UInt8, zA h24 p57 1 = some [.str s58] /\
 vif (!(s58 == s20))
 (yC 1 q10 0 (some n21) none fun q59 =>
 yC 1 q10 n21 none none fun q60 =>
 (PNew [] true h24 fun a61 h62 =>
 (zC 1 16 (some ⟨a61, 0, 0, 0, 0⟩) q59 h62 fun q63 h64 =>
 PNew [.str s20] true h64 fun a65 h66 =>
 zC 1 16 q63 (some ⟨a65, 0, 1, 1, 0⟩) h66 fun q67 h68 =>
 zC 1 16 q67 q60 h68 fun q69 h70 =>
 (True) /\ I12 [.sl q69, .int .i64 (zE .i64 (n11 + 1))] h70 /\ m13 [.sl q69, .int .i64 (zE .i64 (n11 + 1))] h70 < m13 [.sl q10, .int .i64 n11] h14) /\
 (PNew [.str s20] true h62 fun a71 h72 =>
 zC 1 16 (some ⟨a61, 0, 0, 0, 0⟩) q59 h72 fun q73 h74 =>
 zC 1 16 q73 (some ⟨a71, 0, 1, 1, 0⟩) h74 fun q75 h76 =>
 zC 1 16 q75 q60 h76 fun q77 h78 =>
 (True) /\ I12 [.sl q77, .int .i64 (zE .i64 (n11 + 1))] h78 /\ m13 [.sl q77, .int .i64 (zE .i64 (n11 + 1))] h78 < m13 [.sl q10, .int .i64 n11] h14)) /\
 (PNew [.str s20] true h24 fun a79 h80 =>
 PNew [] true h80 fun a81 h82 =>
 zC 1 16 (some ⟨a81, 0, 0, 0, 0⟩) q59 h82 fun q83 h84 =>
 zC 1 16 q83 (some ⟨a79, 0, 1, 1, 0⟩) h84 fun q85 h86 =>
 zC 1 16 q85 q60 h86 fun q87 h88 =>
 (True) /\ I12 [.sl q87, .int .i64 (zE .i64 (n11 + 1))] h88 /\ m13 [.sl q87, .int .i64 (zE .i64 (n11 + 1))] h88 < m13 [.sl q10, .int .i64 n11] h14))
 ((True) /\ I12 [.sl q10, .int .i64 (zE .i64 (n11 + 1))] h24 /\ m13 [.sl q10, .int .i64 (zE .i64 (n11 + 1))] h24 < m13 [.sl q10, .int .i64 n11] h14))))
 (vif (n21 == (zJ q10 : Int))
 (yC 1 q10 0 (some n21) none fun q89 =>
 yC 1 q10 n21 none none fun q90 =>
 (PNew [] true h24 fun a91 h92 =>
 (zC 1 16 (some ⟨a91, 0, 0, 0, 0⟩) q89 h92 fun q93 h94 =>
 PNew [.str s20] true h94 fun a95 h96 =>
 zC 1 16 q93 (some ⟨a95, 0, 1, 1, 0⟩) h96 fun q97 h98 =>
 zC 1 16 q97 q90 h98 fun q99 h100 =>
 (True) /\ I12 [.sl q99, .int .i64 (zE .i64 (n11 + 1))] h100 /\ m13 [.sl q99, .int .i64 (zE .i64 (n11 + 1))] h100 < m13 [.sl q10, .int .i64 n11] h14) /\
 (PNew [.str s20] true h92 fun a101 h102 =>
 zC 1 16 (some ⟨a91, 0, 0, 0, 0⟩) q89 h102 fun q103 h104 =>
 zC 1 16 q103 (some ⟨a101, 0, 1, 1, 0⟩) h104 fun q105 h106 =>
 zC 1 16 q105 q90 h106 fun q107 h108 =>
 (True) /\ I12 [.sl q107, .int .i64 (zE .i64 (n11 + 1))] h108 /\ m13 [.sl q107, .int .i64 (zE .i64 (n11 + 1))] h108 < m13 [.sl q10, .int .i64 n11] h14)) /\
 (PNew [.str s20] true h24 fun a109 h110 =>
 PNew [] true h110 fun a111 h112 =>
 zC 1 16 (some ⟨a111, 0, 0, 0, 0⟩) q89 h112 fun q113 h114 =>
 zC 1 16 q113 (some ⟨a109, 0, 1, 1, 0⟩) h114 fun q115 h116 =>
 zC 1 16 q115 q90 h116 fun q117 h118 =>
 (True) /\ I12 [.sl q117, .int .i64 (zE .i64 (n11 + 1))] h118 /\ m13 [.sl q117, .int .i64 (zE .i64 (n11 + 1))] h118 < m13 [.sl q10, .int .i64 n11] h14))
 (vIdx q10 n21 1 fun p119 =>
 ∃ s120 : List UInt8, zA h24 p119 1 = some [.str s120] /\
 vif (!(s120 == s20))
 (yC 1 q10 0 (some n21) none fun q121 =>
 yC 1 q10 n21 none none fun q122 =>
 (PNew [] true h24 fun a123 h124 =>
 (zC 1 16 (some ⟨a123, 0, 0, 0, 0⟩) q121 h124 fun q125 h126 =>
 PNew [.str s20] true h126 fun a127 h128 =>
 zC 1 16 q125 (some ⟨a127, 0, 1, 1, 0⟩) h128 fun q129 h130 =>
 zC 1 16 q129 q122 h130 fun q131 h132 =>
 (True) /\ I12 [.sl q131, .int .i64 (zE .i64 (n11 + 1))] h132 /\ m13 [.sl q131, .int .i64 (zE .i64 (n11 + 1))] h132 < m13 [.sl q10, .int .i64 n11] h14) /\
 (PNew [.str s20] true h124 fun a133 h134 =>
 zC 1 16 (some ⟨a123, 0, 0, 0, 0⟩) q121 h134 fun q135 h136 =>
 zC 1 16 q135 (some ⟨a133, 0, 1, 1, 0⟩) h136 fun q137 h138 =>
 zC 1 16 q137 q122 h138 fun q139 h140 =>
 (True) /\ I12 [.sl q139, .int .i64 (zE .i64 (n11 + 1))] h140 /\ m13 [.sl q139, .int .i64 (zE .i64 (n11 + 1))] h140 < m13 [.sl q10, .int .i64 n11] h14)) /\
 (PNew [.str s20] true h24 fun a141 h142 =>
 PNew [] true h142 fun a143 h144 =>
 zC 1 16 (some ⟨a143, 0, 0, 0, 0⟩) q121 h144 fun q145 h146 =>
 zC 1 16 q145 (some ⟨a141, 0, 1, 1, 0⟩) h146 fun q147 h148 =>
 zC 1 16 q147 q122 h148 fun q149 h150 =>
 (True) /\ I12 [.sl q149, .int .i64 (zE .i64 (n11 + 1))] h150 /\ m13 [.sl q149, .int .i64 (zE .i64 (n11 + 1))] h150 < m13 [.sl q10, .int .i64 n11] h14))
 ((True) /\ I12 [.sl q10, .int .i64 (zE .i64 (n11 + 1))] h24 /\ m13 [.sl q10, .int .i64 (zE .i64 (n11 + 1))] h24 < m13 [.sl q10, .int .i64 n11] h14))))
 ((True) /\ I7 [.sl q10, .int .i64 (zE .i64 (n6 + 1))] h14 /\ m8 [.sl q10, .int .i64 (zE .i64 (n6 + 1))] h14 < m8 [.sl q5, .int .i64 n6] h9))
 (Q (.sl q5) h9)
theorem ac195 {p1 : OPa} {h : Heap} {Q : AHp} (hk : vc195 p1 h Q) : AC Tryz.prog 195 [.ptr p1] h Q :=
 zL (H := zH [] [(0, [3, 5], []), (2, [3, 6], []), (4, [8], [])]) (by kernel_rfl) (by kernel_rfl) hk
def vc251 (p1 : OPa) (h : Heap) (Q : AHp) : Prop :=
 PNew [] true h fun a2 h3 =>
 vPtr p1 fun p4 =>
 ∃ q5 : OSl, zA h3 ⟨p4.b, p4.o + 0⟩ 1 = some [.sl q5] /\
 zC 4 48 (some ⟨a2, 0, 0, 0, 0⟩) q5 h3 fun q6 h7 =>
 vPtr p1 fun p8 =>
 ∃ b9 : Bool, zA h7 ⟨p8.b, p8.o + 5⟩ 1 = some [.bool b9] /\
 vif b9
 (vPtr p1 fun p10 =>
 ∃ n11 n12 n13 : Int, ∃ q14 : OSl, zA h7 ⟨p10.b, p10.o + 1⟩ 4 = some [.int .i64 n11, .int .i64 n12, .int .i64 n13, .sl q14] /\
 PNew [.int .i64 n11, .int .i64 n12, .int .i64 n13, .sl q14] true h7 fun a15 h16 =>
 zC 4 48 q6 (some ⟨a15, 0, 1, 1, 0⟩) h16 fun q17 h18 =>
 Q (.sl q17) h18)
 (Q (.sl q6) h7)
theorem ac251 {p1 : OPa} {h : Heap} {Q : AHp} (hk : vc251 p1 h Q) : AC Tryz.prog 251 [.ptr p1] h Q :=
 zL (H := zH [] []) (by kernel_rfl) (by kernel_rfl) hk
def vc252 (p1 : OPa) (s2 : List UInt8) (s3 : List UInt8) (h : Heap) (Q : AHp) : Prop :=
 AC Tryz.prog 55 [.ptr p1, .str s2] h fun v4 h5 => ∃ p6 : OPa, v4 = .ptr p6 /\
 AC Tryz.prog 198 [.str s3] h5 fun v7 h8 => ∃ b9 : Bool, v7 = .bool b9 /\
 vif (!b9)
 (AC Tryz.prog 199 [.ptr p1, .int .i64 1] h8 fun v10 h11 => ∃ n12 : Int, v10 = .int .i64 n12 /\
 vif (n12 != 0)
 (Q (.int .i64 n12) h11)
 (vif (s2 == s3)
 (Q (.int .i64 n12) h11)
 (AC Tryz.prog 55 [.ptr p1, .str s3] h11 fun v13 h14 => ∃ p15 : OPa, v13 = .ptr p15 /\
 vif (!(p15.isNone))
 (AC Tryz.prog 257 [.ptr p1, .ptr p15, .bool false] h14 fun v16 h17 => v16 = .tup [] /\
 AC Tryz.prog 257 [.ptr p1, .ptr p6, .bool true] h17 fun v18 h19 => v18 = .tup [] /\
 vPtr p6 fun p20 =>
 zI h19 ⟨p20.b, p20.o + 0⟩ [.str s3] fun h21 =>
 AC Tryz.prog 200 [.ptr p1, .ptr p6] h21 fun v22 h23 => v22 = .tup [] /\
 Q (.int .i64 0) h23)
 (AC Tryz.prog 257 [.ptr p1, .ptr p6, .bool true] h14 fun v24 h25 => v24 = .tup [] /\
 vPtr p6 fun p26 =>
 zI h25 ⟨p26.b, p26.o + 0⟩ [.str s3] fun h27 =>
 AC Tryz.prog 200 [.ptr p1, .ptr p6] h27 fun v28 h29 => v28 = .tup [] /\
 Q (.int .i64 0) h29))))
 (vif (p6.isNone)
 (AC Tryz.prog 199 [.ptr p1, .int .i64 4] h8 fun v30 h31 => ∃ n32 : Int, v30 = .int .i64 n32 /\
 vif (n32 != 0)
 (Q (.int .i64 n32) h31)
 (vif (s2 == s3)
 (Q (.int .i64 n32) h31)
 (AC Tryz.prog 55 [.ptr p1, .str s3] h31 fun v33 h34 => ∃ p35 : OPa, v33 = .ptr p35 /\
 vif (!(p35.isNone))
 (AC Tryz.prog 257 [.ptr p1, .ptr p35, .bool false] h34 fun v36 h37 => v36 = .tup [] /\
 AC Tryz.prog 257 [.ptr p1, .ptr p6, .bool true] h37 fun v38 h39 => v38 = .tup [] /\
 vPtr p6 fun p40 =>
 zI h39 ⟨p40.b, p40.o + 0⟩ [.str s3] fun h41 =>
 AC Tryz.prog 200 [.ptr p1, .ptr p6] h41 fun v42 h43 => v42 = .tup [] /\
 Q (.int .i64 0) h43)
 (AC Tryz.prog 257 [.ptr p1, .ptr p6, .bool true] h34 fun v44 h45 => v44 = .tup [] /\
 vPtr p6 fun p46 =>
 zI h45 ⟨p46.b, p46.o + 0⟩ [.str s3] fun h47 =>
 AC Tryz.prog 200 [.ptr p1, .ptr p6] h47 fun v48 h49 => v48 = .tup [] /\
 Q (.int .i64 0) h49))))
 (AC Tryz.prog 199 [.ptr p1, .int .i64 0] h8 fun v50 h51 => ∃ n52 : Int, v50 = .int .i64 n52 /\
 vif (n52 != 0)
 (Q (.int .i64 n52) h51)
 (vif (s2 == s3)
 (Q (.int .i64 n52) h51)
 (AC Tryz.prog 55 [.ptr p1, .str s3] h51 fun v53 h54 => ∃ p55 : OPa, v53 = .ptr p55 /\
 vif (!(p55.isNone))
 (AC Tryz.prog 257 [.ptr p1, .ptr p55, .bool false] h54 fun v56 h57 => v56 = .tup [] /\
 AC Tryz.prog 257 [.ptr p1, .ptr p6, .bool true] h57 fun v58 h59 => v58 = .tup [] /\
 vPtr p6 fun p60 =>
 zI h59 ⟨p60.b, p60.o + 0⟩ [.str s3] fun h61 =>
 AC Tryz.prog 200 [.ptr p1, .ptr p6] h61 fun v62 h63 => v62 = .tup [] /\
 Q (.int .i64 0) h63)
 (AC Tryz.prog 257 [.ptr p1, .ptr p6, .bool true] h54 fun v64 h65 => v64 = .tup [] /\
 vPtr p6 fun p66 =>
 zI h65 ⟨p66.b, p66.o + 0⟩ [.str s3] fun h67 =>
 AC Tryz.prog 200 [.ptr p1, .ptr p6] h67 fun v68 h69 => v68 = .tup [] /\
 Q (.int .i64 0) h69)))))
theorem ac252 {p1 : OPa} {s2 : List UInt8} {s3 : List UInt8} {h : Heap} {Q : AHp} (hk : vc252 p1 s2 s3 h Q) : AC Tryz.prog 252 [.ptr p1, .str s2, .str s3] h Q :=
 zL (H := zH [] []) (by kernel_rfl) (by kernel_rfl) hk
def vc253 (n1 : Int) (n2 : Int) (n3 : Int) (q4 : OSl) (h : Heap) (Q : AHp) : Prop :=
 vif (n1 != 1)
 (vif (n1 != 2)
 (Q (.bool false) h)
 (AC Tryz.prog 206 [.agg [.int .i64 n2, .int .i64 n3]] h fun v5 h6 => ∃ b7 : Bool, v5 = .bool b7 /\
 vif (!b7)
 (Q (.bool false) h6)
 (vif (n1 == 2)
 (vif (n3 != 0)
 (Q (.bool false) h6)
 (vif (decide ((zJ q4 : Int) > 256))
 (Q (.bool false) h6)
 (∃ (I9 : LHp) (m10 : LHn), I9 [.int .i64 0] h6 /\
 ∀ n8 : Int, ∀ h11 : Heap, I9 [.int .i64 n8] h11 ->
 vif (decide (n8 < (zJ q4 : Int)))
 (vIdx q4 n8 3 fun p12 =>
 ∃ s13 : List UInt8, ∃ n14 n15 : Int, zA h11 p12 3 = some [.str s13, .int .i64 n14, .int .i64 n15] /\
 vif (decide ((s13.length : Int) < 1))
 (Q (.bool false) h11)
 (vif (decide ((s13.length : Int) > 24))
 (Q (.bool false) h11)
 (vif (decide (n14 < 1))
 (Q (.bool false) h11)
 (vif (decide (n14 > 2305843009213693952))
 (Q (.bool false) h11)
 (vif (decide (n15 < 0))
 (Q (.bool false) h11)
 (vif (decide (n15 > 16384))
 (Q (.bool false) h11)
 (((some [.int .i64 n1, .int .i64 n2, .int .i64 n3, .sl q4] : Option (List AV)) = some [.int .i64 n1, .int .i64 n2, .int .i64 n3, .sl q4] /\ True) /\ I9 [.int .i64 (zE .i64 (n8 + 1))] h11 /\ m10 [.int .i64 (zE .i64 (n8 + 1))] h11 < m10 [.int .i64 n8] h11)))))))
 (Q (.bool true) h11))))
 (vif (decide ((zJ q4 : Int) > 256))
 (Q (.bool false) h6)
 (∃ (I17 : LHp) (m18 : LHn), I17 [.int .i64 0] h6 /\
 ∀ n16 : Int, ∀ h19 : Heap, I17 [.int .i64 n16] h19 ->
 vif (decide (n16 < (zJ q4 : Int)))
 (vIdx q4 n16 3 fun p20 =>
 ∃ s21 : List UInt8, ∃ n22 n23 : Int, zA h19 p20 3 = some [.str s21, .int .i64 n22, .int .i64 n23] /\
 vif (decide ((s21.length : Int) < 1))
 (Q (.bool false) h19)
 (vif (decide ((s21.length : Int) > 24))
 (Q (.bool false) h19)
 (vif (decide (n22 < 1))
 (Q (.bool false) h19)
 (vif (decide (n22 > 2305843009213693952))
 (Q (.bool false) h19)
 (vif (decide (n23 < 0))
 (Q (.bool false) h19)
 (vif (decide (n23 > 16384))
 (Q (.bool false) h19)
 (((some [.int .i64 n1, .int .i64 n2, .int .i64 n3, .sl q4] : Option (List AV)) = some [.int .i64 n1, .int .i64 n2, .int .i64 n3, .sl q4] /\ True) /\ I17 [.int .i64 (zE .i64 (n16 + 1))] h19 /\ m18 [.int .i64 (zE .i64 (n16 + 1))] h19 < m18 [.int .i64 n16] h19)))))))
 (Q (.bool true) h19))))))
 (AC Tryz.prog 206 [.agg [.int .i64 n2, .int .i64 n3]] h fun v24 h25 => ∃ b26 : Bool, v24 = .bool b26 /\
 vif (!b26)
 (Q (.bool false) h25)
 (vif (n1 == 2)
 (vif (n3 != 0)
 (Q (.bool false) h25)
 (vif (decide ((zJ q4 : Int) > 256))
 (Q (.bool false) h25)
 (∃ (I28 : LHp) (m29 : LHn), I28 [.int .i64 0] h25 /\
 ∀ n27 : Int, ∀ h30 : Heap, I28 [.int .i64 n27] h30 ->
 vif (decide (n27 < (zJ q4 : Int)))
 (vIdx q4 n27 3 fun p31 =>
 ∃ s32 : List UInt8, ∃ n33 n34 : Int, zA h30 p31 3 = some [.str s32, .int .i64 n33, .int .i64 n34] /\
 vif (decide ((s32.length : Int) < 1))
 (Q (.bool false) h30)
 (vif (decide ((s32.length : Int) > 24))
 (Q (.bool false) h30)
 (vif (decide (n33 < 1))
 (Q (.bool false) h30)
 (vif (decide (n33 > 2305843009213693952))
 (Q (.bool false) h30)
 (vif (decide (n34 < 0))
 (Q (.bool false) h30)
 (vif (decide (n34 > 16384))
 (Q (.bool false) h30)
 (((some [.int .i64 n1, .int .i64 n2, .int .i64 n3, .sl q4] : Option (List AV)) = some [.int .i64 n1, .int .i64 n2, .int .i64 n3, .sl q4] /\ True) /\ I28 [.int .i64 (zE .i64 (n27 + 1))] h30 /\ m29 [.int .i64 (zE .i64 (n27 + 1))] h30 < m29 [.int .i64 n27] h30)))))))
 (Q (.bool true) h30))))
 (vif (decide ((zJ q4 : Int) > 256))
 (Q (.bool false) h25)
 (∃ (I36 : LHp) (m37 : LHn), I36 [.int .i64 0] h25 /\
 ∀ n35 : Int, ∀ h38 : Heap, I36 [.int .i64 n35] h38 ->
 vif (decide (n35 < (zJ q4 : Int)))
 (vIdx q4 n35 3 fun p39 =>
 ∃ s40 : List UInt8, ∃ n41 n42 : Int, zA h38 p39 3 = some [.str s40, .int .i64 n41, .int .i64 n42] /\
 vif (decide ((s40.length : Int) < 1))
 (Q (.bool false) h38)
 (vif (decide ((s40.length : Int) > 24))
 (Q (.bool false) h38)
 (vif (decide (n41 < 1))
 (Q (.bool false) h38)
 (vif (decide (n41 > 2305843009213693952))
 (Q (.bool false) h38)
 (vif (decide (n42 < 0))
 (Q (.bool false) h38)
 (vif (decide (n42 > 16384))
 (Q (.bool false) h38)
 (((some [.int .i64 n1, .int .i64 n2, .int .i64 n3, .sl q4] : Option (List AV)) = some [.int .i64 n1, .int .i64 n2, .int .i64 n3, .sl q4] /\ True) /\ I36 [.int .i64 (zE .i64 (n35 + 1))] h38 /\ m37 [.int .i64 (zE .i64 (n35 + 1))] h38 < m37 [.int .i64 n35] h38)))))))
 (Q (.bool true) h38)))))
theorem ac253 {n1 : Int} {n2 : Int} {n3 : Int} {q4 : OSl} {h : Heap} {Q : AHp} (hk : vc253 n1 n2 n3 q4 h Q) : AC Tryz.prog 253 [.agg [.int .i64 n1, .int .i64 n2, .int .i64 n3, .sl q4]] h Q :=
 zL (H := zH [1, 4] [(0, [3], [])]) (by kernel_rfl) (by kernel_rfl) hk
def vc254 (p1 : OPa) (n2 : Int) (n3 : Int) (n4 : Int) (q5 : OSl) (h : Heap) (Q : AHp) : Prop :=
 vPtr p1 fun p6 =>
 ∃ q7 : OSl, zA h ⟨p6.b, p6.o + 0⟩ 1 = some [.sl q7] /\
 vif (n3 == (zJ q7 : Int))
 (vif (n2 == 2)
 (Q (.bool true) h)
 (vPtr p1 fun p8 =>
 ∃ b9 : Bool, zA h ⟨p8.b, p8.o + 5⟩ 1 = some [.bool b9] /\
 vif (!b9)
 (Q (.bool true) h)
 (vPtr p1 fun p10 =>
 ∃ n11 : Int, zA h ⟨p10.b, ((p10.o + 1) + 1) + 1⟩ 1 = some [.int .i64 n11] /\
 Q (.bool (decide (n4 > n11))) h)))
 (Q (.bool false) h)
theorem ac254 {p1 : OPa} {n2 : Int} {n3 : Int} {n4 : Int} {q5 : OSl} {h : Heap} {Q : AHp} (hk : vc254 p1 n2 n3 n4 q5 h Q) : AC Tryz.prog 254 [.ptr p1, .agg [.int .i64 n2, .int .i64 n3, .int .i64 n4, .sl q5]] h Q :=
 zL (H := zH [3] []) (by kernel_rfl) (by kernel_rfl) hk
def vc255 (n1 : Int) (q2 : OSl) (h : Heap) (Q : AHp) : Prop :=
 ∃ (I6 : LHp) (m7 : LHn), I6 [.int .i64 n1, .sl q2, .sl none] h /\
 ∀ n3 : Int, ∀ q4 q5 : OSl, ∀ h8 : Heap, I6 [.int .i64 n3, .sl q4, .sl q5] h8 ->
 vif (decide ((zJ q4 : Int) > 42))
 (PNew [.int .u8 1] true h8 fun a9 h10 =>
 yC 1 q4 0 (some 42) none fun q11 =>
 zC 1 1 (some ⟨a9, 0, 1, 1, 0⟩) q11 h10 fun q12 h13 =>
 AC Tryz.prog 142 [.int .i64 n3, .sl q12] h13 fun v14 h15 => ∃ q16 : OSl, v14 = .sl q16 /\
 PNew [.sl q16] true h15 fun a17 h18 =>
 zC 1 24 q5 (some ⟨a17, 0, 1, 1, 0⟩) h18 fun q19 h20 =>
 yC 1 q4 42 none none fun q21 =>
 (True) /\ I6 [.int .i64 (zE .i64 (n3 + 1)), .sl q21, .sl q19] h20 /\ m7 [.int .i64 (zE .i64 (n3 + 1)), .sl q21, .sl q19] h20 < m7 [.int .i64 n3, .sl q4, .sl q5] h8)
 (PNew [.int .u8 0] true h8 fun a22 h23 =>
 zC 1 1 (some ⟨a22, 0, 1, 1, 0⟩) q4 h23 fun q24 h25 =>
 AC Tryz.prog 142 [.int .i64 n3, .sl q24] h25 fun v26 h27 => ∃ q28 : OSl, v26 = .sl q28 /\
 PNew [.sl q28] true h27 fun a29 h30 =>
 zC 1 24 q5 (some ⟨a29, 0, 1, 1, 0⟩) h30 fun q31 h32 =>
 Q (.sl q31) h32)
theorem ac255 {n1 : Int} {q2 : OSl} {h : Heap} {Q : AHp} (hk : vc255 n1 q2 h Q) : AC Tryz.prog 255 [.int .i64 n1, .sl q2] h Q :=
 zL (H := zH [] [(0, [0, 1, 5], [])]) (by kernel_rfl) (by kernel_rfl) hk
def vc256 (n1 : Int) (n2 : Int) (n3 : Int) (q4 : OSl) (h : Heap) (Q : AHp) : Prop :=
 AC Tryz.prog 141 [.int .i64 n1] h fun v5 h6 => ∃ q7 : OSl, v5 = .sl q7 /\
 (LV.val (.agg [.int .i64 n2, .int .i64 n3]) = LV.val (.agg [.int .i64 n2, .int .i64 n3])) /\
 AC Tryz.prog 263 [.agg [.int .i64 n2, .int .i64 n3]] h6 fun v8 h9 => ∃ q10 : OSl, v8 = .sl q10 /\
 zC 1 1 q7 q10 h9 fun q11 h12 =>
 AC Tryz.prog 141 [.int .i64 (zJ q4 : Int)] h12 fun v13 h14 => ∃ q15 : OSl, v13 = .sl q15 /\
 zC 1 1 q11 q15 h14 fun q16 h17 =>
 ∃ (I20 : LHp) (m21 : LHn), I20 [.sl q16, .int .i64 0] h17 /\
 ∀ q18 : OSl, ∀ n19 : Int, ∀ h22 : Heap, I20 [.sl q18, .int .i64 n19] h22 ->
 vif (decide (n19 < (zJ q4 : Int)))
 (vIdx q4 n19 3 fun p23 =>
 ∃ s24 : List UInt8, zA h22 ⟨p23.b, p23.o + 0⟩ 1 = some [.str s24] /\
 AC Tryz.prog 282 [.str s24] h22 fun v25 h26 => ∃ q27 : OSl, v25 = .sl q27 /\
 zC 1 1 q18 q27 h26 fun q28 h29 =>
 vIdx q4 n19 3 fun p30 =>
 ∃ n31 : Int, zA h29 ⟨p30.b, p30.o + 1⟩ 1 = some [.int .i64 n31] /\
 AC Tryz.prog 141 [.int .i64 n31] h29 fun v32 h33 => ∃ q34 : OSl, v32 = .sl q34 /\
 zC 1 1 q28 q34 h33 fun q35 h36 =>
 vIdx q4 n19 3 fun p37 =>
 ∃ n38 : Int, zA h36 ⟨p37.b, p37.o + 2⟩ 1 = some [.int .i64 n38] /\
 AC Tryz.prog 141 [.int .i64 n38] h36 fun v39 h40 => ∃ q41 : OSl, v39 = .sl q41 /\
 zC 1 1 q35 q41 h40 fun q42 h43 =>
 ((some [.int .i64 n1, .int .i64 n2, .int .i64 n3, .sl q4] : Option (List AV)) = some [.int .i64 n1, .int .i64 n2, .int .i64 n3, .sl q4] /\ True) /\ I20 [.sl q42, .int .i64 (zE .i64 (n19 + 1))] h43 /\ m21 [.sl q42, .int .i64 (zE .i64 (n19 + 1))] h43 < m21 [.sl q18, .int .i64 n19] h22)
 (Q (.sl q18) h22)
theorem ac256 {n1 : Int} {n2 : Int} {n3 : Int} {q4 : OSl} {h : Heap} {Q : AHp} (hk : vc256 n1 n2 n3 q4 h Q) : AC Tryz.prog 256 [.agg [.int .i64 n1, .int .i64 n2, .int .i64 n3, .sl q4]] h Q :=
 zL (H := zH [1] [(0, [3, 4], [])]) (by kernel_rfl) (by kernel_rfl) hk
def vc257 (p1 : OPa) (p2 : OPa) (b3 : Bool) (h : Heap) (Q : AHp) : Prop :=
 ∃ (I6 : LHp) (m7 : LHn), I6 [.sl none, .int .i64 0] h /\
 ∀ q4 : OSl, ∀ n5 : Int, ∀ h8 : Heap, I6 [.sl q4, .int .i64 n5] h8 ->
 vPtr p1 fun p9 =>
 ∃ q10 : OSl, zA h8 ⟨p9.b, p9.o + 0⟩ 1 = some [.sl q10] /\
 vif (decide (n5 < (zJ q10 : Int)))
 (vPtr p1 fun p11 =>
 ∃ q12 : OSl, zA h8 ⟨p11.b, p11.o + 0⟩ 1 = some [.sl q12] /\
 vIdx q12 n5 1 fun p13 =>
 ∃ p14 : OPa, zA h8 p13 1 = some [.ptr p14] /\
 aEq Tryz.prog 95 h8 (.ptr p14) (.ptr p2) fun b15 =>
 vif (!b15)
 (vPtr p1 fun p16 =>
 ∃ q17 : OSl, zA h8 ⟨p16.b, p16.o + 0⟩ 1 = some [.sl q17] /\
 vIdx q17 n5 1 fun p18 =>
 ∃ p19 : OPa, zA h8 p18 1 = some [.ptr p19] /\
 PNew [.ptr p19] true h8 fun a20 h21 =>
 zC 1 8 q4 (some ⟨a20, 0, 1, 1, 0⟩) h21 fun q22 h23 =>
 (True) /\ I6 [.sl q22, .int .i64 (zE .i64 (n5 + 1))] h23 /\ m7 [.sl q22, .int .i64 (zE .i64 (n5 + 1))] h23 < m7 [.sl q4, .int .i64 n5] h8)
 ((True) /\ I6 [.sl q4, .int .i64 (zE .i64 (n5 + 1))] h8 /\ m7 [.sl q4, .int .i64 (zE .i64 (n5 + 1))] h8 < m7 [.sl q4, .int .i64 n5] h8))
 (vPtr p1 fun p24 =>
 zI h8 ⟨p24.b, p24.o + 0⟩ [.sl q4] fun h25 =>
 ∃ (I28 : LHp) (m29 : LHn), I28 [.sl none, .int .i64 0] h25 /\
 ∀ q26 : OSl, ∀ n27 : Int, ∀ h30 : Heap, I28 [.sl q26, .int .i64 n27] h30 ->
 vPtr p1 fun p31 =>
 ∃ q32 : OSl, zA h30 ⟨p31.b, p31.o + 1⟩ 1 = some [.sl q32] /\
 vif (decide (n27 < (zJ q32 : Int)))
 (vif b3
 (vPtr p1 fun p33 =>
 ∃ q34 : OSl, zA h30 ⟨p33.b, p33.o + 1⟩ 1 = some [.sl q34] /\
 vIdx q34 n27 3 fun p35 =>
 ∃ p36 : OPa, ∃ n37 : Int, ∃ q38 : OSl, zA h30 p35 3 = some [.ptr p36, .int .i64 n37, .sl q38] /\
 PNew [.ptr p36, .int .i64 n37, .sl q38] true h30 fun a39 h40 =>
 zC 3 40 q26 (some ⟨a39, 0, 1, 1, 0⟩) h40 fun q41 h42 =>
 (True) /\ I28 [.sl q41, .int .i64 (zE .i64 (n27 + 1))] h42 /\ m29 [.sl q41, .int .i64 (zE .i64 (n27 + 1))] h42 < m29 [.sl q26, .int .i64 n27] h30)
 (vPtr p1 fun p43 =>
 ∃ q44 : OSl, zA h30 ⟨p43.b, p43.o + 1⟩ 1 = some [.sl q44] /\
 vIdx q44 n27 3 fun p45 =>
 ∃ p46 : OPa, zA h30 ⟨p45.b, p45.o + 0⟩ 1 = some [.ptr p46] /\
 aEq Tryz.prog 95 h30 (.ptr p46) (.ptr p2) fun b47 =>
 vif (!b47)
 (vPtr p1 fun p48 =>
 ∃ q49 : OSl, zA h30 ⟨p48.b, p48.o + 1⟩ 1 = some [.sl q49] /\
 vIdx q49 n27 3 fun p50 =>
 ∃ p51 : OPa, ∃ n52 : Int, ∃ q53 : OSl, zA h30 p50 3 = some [.ptr p51, .int .i64 n52, .sl q53] /\
 PNew [.ptr p51, .int .i64 n52, .sl q53] true h30 fun a54 h55 =>
 zC 3 40 q26 (some ⟨a54, 0, 1, 1, 0⟩) h55 fun q56 h57 =>
 (True) /\ I28 [.sl q56, .int .i64 (zE .i64 (n27 + 1))] h57 /\ m29 [.sl q56, .int .i64 (zE .i64 (n27 + 1))] h57 < m29 [.sl q26, .int .i64 n27] h30)
 ((True) /\ I28 [.sl q26, .int .i64 (zE .i64 (n27 + 1))] h30 /\ m29 [.sl q26, .int .i64 (zE .i64 (n27 + 1))] h30 < m29 [.sl q26, .int .i64 n27] h30)))
 (vPtr p1 fun p58 =>
 zI h30 ⟨p58.b, p58.o + 1⟩ [.sl q26] fun h59 =>
 Q (.tup []) h59))
theorem ac257 {p1 : OPa} {p2 : OPa} {b3 : Bool} {h : Heap} {Q : AHp} (hk : vc257 p1 p2 b3 h Q) : AC Tryz.prog 257 [.ptr p1, .ptr p2, .bool b3] h Q :=
 zL (H := zH [] [(0, [6, 7], []), (2, [8, 9], [])]) (by kernel_rfl) (by kernel_rfl) hk
def vc282 (s1 : List UInt8) (h : Heap) (Q : AHp) : Prop :=
 AC Tryz.prog 141 [.int .i64 (s1.length : Int)] h fun v2 h3 => ∃ q4 : OSl, v2 = .sl q4 /\
 vD 1 1 q4 s1.length (zR s1) h3 fun q5 h6 =>
 Q (.sl q5) h6
theorem ac282 {s1 : List UInt8} {h : Heap} {Q : AHp} (hk : vc282 s1 h Q) : AC Tryz.prog 282 [.str s1] h Q :=
 zL (H := zH [] []) (by kernel_rfl) (by kernel_rfl) hk
def vc121 (p1 : OPa) (s2 : List UInt8) (h : Heap) (Q : AHp) : Prop :=
 AC Tryz.prog 198 [.str s2] h fun v3 h4 => ∃ b5 : Bool, v3 = .bool b5 /\
 vif (!b5)
 (AC Tryz.prog 199 [.ptr p1, .int .i64 1] h4 fun v6 h7 => ∃ n8 : Int, v6 = .int .i64 n8 /\
 vif (n8 == 0)
 (PNew [.str s2, .sl none, .sl none] true h7 fun a9 h10 =>
 AC Tryz.prog 200 [.ptr p1, .ptr (some ⟨a9, 0⟩)] h10 fun v11 h12 => v11 = .tup [] /\
 Q (.int .i64 n8) h12)
 (Q (.int .i64 n8) h7))
 (AC Tryz.prog 55 [.ptr p1, .str s2] h4 fun v13 h14 => ∃ p15 : OPa, v13 = .ptr p15 /\
 vif (!(p15.isNone))
 (AC Tryz.prog 199 [.ptr p1, .int .i64 5] h14 fun v16 h17 => ∃ n18 : Int, v16 = .int .i64 n18 /\
 vif (n18 == 0)
 (PNew [.str s2, .sl none, .sl none] true h17 fun a19 h20 =>
 AC Tryz.prog 200 [.ptr p1, .ptr (some ⟨a19, 0⟩)] h20 fun v21 h22 => v21 = .tup [] /\
 Q (.int .i64 n18) h22)
 (Q (.int .i64 n18) h17))
 (vPtr p1 fun p23 =>
 ∃ q24 : OSl, zA h14 ⟨p23.b, p23.o + 0⟩ 1 = some [.sl q24] /\
 vif (decide ((zJ q24 : Int) ≥ 256))
 (AC Tryz.prog 199 [.ptr p1, .int .i64 2] h14 fun v25 h26 => ∃ n27 : Int, v25 = .int .i64 n27 /\
 vif (n27 == 0)
 (PNew [.str s2, .sl none, .sl none] true h26 fun a28 h29 =>
 AC Tryz.prog 200 [.ptr p1, .ptr (some ⟨a28, 0⟩)] h29 fun v30 h31 => v30 = .tup [] /\
 Q (.int .i64 n27) h31)
 (Q (.int .i64 n27) h26))
 (AC Tryz.prog 199 [.ptr p1, .int .i64 0] h14 fun v32 h33 => ∃ n34 : Int, v32 = .int .i64 n34 /\
 vif (n34 == 0)
 (PNew [.str s2, .sl none, .sl none] true h33 fun a35 h36 =>
 AC Tryz.prog 200 [.ptr p1, .ptr (some ⟨a35, 0⟩)] h36 fun v37 h38 => v37 = .tup [] /\
 Q (.int .i64 n34) h38)
 (Q (.int .i64 n34) h33))))
theorem ac121 {p1 : OPa} {s2 : List UInt8} {h : Heap} {Q : AHp} (hk : vc121 p1 s2 h Q) : AC Tryz.prog 121 [.ptr p1, .str s2] h Q :=
 zL (H := zH [] []) (by kernel_rfl) (by kernel_rfl) hk
def vc197 (p1 : OPa) (n2 : Int) (q3 : OSl) (n4 : Int) (h : Heap) (Q : AHp) : Prop :=
 vif (decide (n4 < 1))
 (Q (.tup []) h)
 (∃ (I5 : LHp) (m6 : LHn), I5 [] h /\
 ∀ h7 : Heap, I5 [] h7 ->
 vPtr p1 fun p8 =>
 ∃ q9 : OSl, zA h7 ⟨p8.b, p8.o + 2⟩ 1 = some [.sl q9] /\
 vif (decide ((zJ q9 : Int) <= n2))
 (vPtr p1 fun p10 =>
 ∃ q11 : OSl, zA h7 ⟨p10.b, p10.o + 2⟩ 1 = some [.sl q11] /\
 zIR [.int .u8 0] 1 64 64 h7 fun q12 h13 =>
 (∃ q21 : OSl, zA h13 ⟨p10.b, p10.o + 2⟩ 1 = some [.sl q21] /\
 LV.val (.sl q21) = LV.val (.sl q11)) /\
 PNew [.sl q12] true h13 fun a14 h15 =>
 (∃ q20 : OSl, zA h15 ⟨p10.b, p10.o + 2⟩ 1 = some [.sl q20] /\
 LV.val (.sl q20) = LV.val (.sl q11)) /\
 zC 1 24 q11 (some ⟨a14, 0, 1, 1, 0⟩) h15 fun q16 h17 =>
 vPtr p1 fun p18 =>
 zI h17 ⟨p18.b, p18.o + 2⟩ [.sl q16] fun h19 =>
 (True) /\ I5 [] h19 /\ m6 [] h19 < m6 [] h7)
 (PNew [] true h7 fun a22 h23 =>
 vPtr p1 fun p24 =>
 ∃ q25 : OSl, zA h23 ⟨p24.b, p24.o + 2⟩ 1 = some [.sl q25] /\
 vIdx q25 n2 1 fun p26 =>
 ∃ q27 : OSl, zA h23 p26 1 = some [.sl q27] /\
 zC 1 1 (some ⟨a22, 0, 0, 0, 0⟩) q27 h23 fun q28 h29 =>
 ∃ (I31 : LHp) (m32 : LHn), I31 [.int .i64 0] h29 /\
 ∀ n30 : Int, ∀ h33 : Heap, I31 [.int .i64 n30] h33 ->
 vif (decide (n30 < 64))
 (vif (decide (n30 < n4))
 (vIdx q3 n30 1 fun p34 =>
 ∃ n35 : Int, zA h33 p34 1 = some [.int .u8 n35] /\
 vIdx q28 n30 1 fun p36 =>
 zI h33 p36 [.int .u8 n35] fun h37 =>
 (True) /\ I31 [.int .i64 (zE .i64 (n30 + 1))] h37 /\ m32 [.int .i64 (zE .i64 (n30 + 1))] h37 < m32 [.int .i64 n30] h33)
 (vPtr p1 fun p38 =>
 ∃ q39 : OSl, zA h33 ⟨p38.b, p38.o + 2⟩ 1 = some [.sl q39] /\
 vIdx q39 n2 1 fun p40 =>
 zI h33 p40 [.sl q28] fun h41 =>
 Q (.tup []) h41))
 (vPtr p1 fun p42 =>
 ∃ q43 : OSl, zA h33 ⟨p42.b, p42.o + 2⟩ 1 = some [.sl q43] /\
 vIdx q43 n2 1 fun p44 =>
 zI h33 p44 [.sl q28] fun h45 =>
 Q (.tup []) h45)))
theorem ac197 {p1 : OPa} {n2 : Int} {q3 : OSl} {n4 : Int} {h : Heap} {Q : AHp} (hk : vc197 p1 n2 q3 n4 h Q) : AC Tryz.prog 197 [.ptr p1, .int .i64 n2, .sl q3, .int .i64 n4] h Q :=
 zL (H := zH [] [(0, [], []), (2, [9], [])]) (by kernel_rfl) (by kernel_rfl) hk
def vc198 (s1 : List UInt8) (h : Heap) (Q : AHp) : Prop :=
 vif (decide ((s1.length : Int) ≥ 1))
 (Q (.bool (decide ((s1.length : Int) <= 24))) h)
 (Q (.bool false) h)
theorem ac198 {s1 : List UInt8} {h : Heap} {Q : AHp} (hk : vc198 s1 h Q) : AC Tryz.prog 198 [.str s1] h Q :=
 zL (H := zH [] []) (by kernel_rfl) (by kernel_rfl) hk
def vc199 (p1 : OPa) (n2 : Int) (h : Heap) (Q : AHp) : Prop :=
 vif (n2 == 1)
 (Q (.int .i64 n2) h)
 (vPtr p1 fun p3 =>
 ∃ b4 : Bool, zA h ⟨p3.b, p3.o + 4⟩ 1 = some [.bool b4] /\
 vif b4
 (Q (.int .i64 50) h)
 (vif (n2 != 0)
 (Q (.int .i64 n2) h)
 (AC Tryz.prog 258 [.ptr p1] h fun v5 h6 => ∃ b7 : Bool, v5 = .bool b7 /\
 vif (!b7)
 (Q (.int .i64 50) h6)
 (Q (.int .i64 0) h6))))
theorem ac199 {p1 : OPa} {n2 : Int} {h : Heap} {Q : AHp} (hk : vc199 p1 n2 h Q) : AC Tryz.prog 199 [.ptr p1, .int .i64 n2] h Q :=
 zL (H := zH [] []) (by kernel_rfl) (by kernel_rfl) hk
def vc200 (p1 : OPa) (p2 : OPa) (h : Heap) (Q : AHp) : Prop :=
 ∃ (I4 : LHp) (m5 : LHn), I4 [.int .i64 0] h /\
 ∀ n3 : Int, ∀ h6 : Heap, I4 [.int .i64 n3] h6 ->
 vPtr p1 fun p7 =>
 ∃ q8 : OSl, zA h6 ⟨p7.b, p7.o + 0⟩ 1 = some [.sl q8] /\
 vif (decide (n3 < (zJ q8 : Int)))
 (vPtr p1 fun p9 =>
 ∃ q10 : OSl, zA h6 ⟨p9.b, p9.o + 0⟩ 1 = some [.sl q10] /\
 vIdx q10 n3 1 fun p11 =>
 ∃ p12 : OPa, zA h6 p11 1 = some [.ptr p12] /\
 vPtr p12 fun p13 =>
 ∃ s14 : List UInt8, zA h6 ⟨p13.b, p13.o + 0⟩ 1 = some [.str s14] /\
 vPtr p2 fun p15 =>
 ∃ s16 : List UInt8, zA h6 ⟨p15.b, p15.o + 0⟩ 1 = some [.str s16] /\
 vif (bytesLess s14 s16)
 ((True) /\ I4 [.int .i64 (zE .i64 (n3 + 1))] h6 /\ m5 [.int .i64 (zE .i64 (n3 + 1))] h6 < m5 [.int .i64 n3] h6)
 (vPtr p1 fun p17 =>
 ∃ q18 : OSl, zA h6 ⟨p17.b, p17.o + 0⟩ 1 = some [.sl q18] /\
 yC 1 q18 0 (some n3) none fun q19 =>
 vPtr p1 fun p20 =>
 ∃ q21 : OSl, zA h6 ⟨p20.b, p20.o + 0⟩ 1 = some [.sl q21] /\
 yC 1 q21 n3 none none fun q22 =>
 (PNew [] true h6 fun a23 h24 =>
 (∃ q54 : OSl, zA h24 ⟨p20.b, p20.o + 0⟩ 1 = some [.sl q54] /\
 LV.val (.sl q54) = LV.val (.sl q21)) /\
 (∃ q53 : OSl, zA h24 ⟨p17.b, p17.o + 0⟩ 1 = some [.sl q53] /\
 LV.val (.sl q53) = LV.val (.sl q18)) /\
 (zC 1 8 (some ⟨a23, 0, 0, 0, 0⟩) q19 h24 fun q25 h26 =>
 (∃ q38 : OSl, zA h26 ⟨p20.b, p20.o + 0⟩ 1 = some [.sl q38] /\
 LV.val (.sl q38) = LV.val (.sl q21)) /\
 PNew [.ptr p2] true h26 fun a27 h28 =>
 (∃ q37 : OSl, zA h28 ⟨p20.b, p20.o + 0⟩ 1 = some [.sl q37] /\
 LV.val (.sl q37) = LV.val (.sl q21)) /\
 (∃ q36 : OSl, zA h28 ⟨p17.b, p17.o + 0⟩ 1 = some [.sl q36] /\
 LV.val (.sl q36) = LV.val (.sl q18)) /\
 zC 1 8 q25 (some ⟨a27, 0, 1, 1, 0⟩) h28 fun q29 h30 =>
 (∃ q35 : OSl, zA h30 ⟨p20.b, p20.o + 0⟩ 1 = some [.sl q35] /\
 LV.val (.sl q35) = LV.val (.sl q21)) /\
 zC 1 8 q29 q22 h30 fun q31 h32 =>
 vPtr p1 fun p33 =>
 zI h32 ⟨p33.b, p33.o + 0⟩ [.sl q31] fun h34 =>
 Q (.tup []) h34) /\
 (PNew [.ptr p2] true h24 fun a39 h40 =>
 (∃ q52 : OSl, zA h40 ⟨p20.b, p20.o + 0⟩ 1 = some [.sl q52] /\
 LV.val (.sl q52) = LV.val (.sl q21)) /\
 (∃ q51 : OSl, zA h40 ⟨p17.b, p17.o + 0⟩ 1 = some [.sl q51] /\
 LV.val (.sl q51) = LV.val (.sl q18)) /\
 zC 1 8 (some ⟨a23, 0, 0, 0, 0⟩) q19 h40 fun q41 h42 =>
 (∃ q50 : OSl, zA h42 ⟨p20.b, p20.o + 0⟩ 1 = some [.sl q50] /\
 LV.val (.sl q50) = LV.val (.sl q21)) /\
 zC 1 8 q41 (some ⟨a39, 0, 1, 1, 0⟩) h42 fun q43 h44 =>
 (∃ q49 : OSl, zA h44 ⟨p20.b, p20.o + 0⟩ 1 = some [.sl q49] /\
 LV.val (.sl q49) = LV.val (.sl q21)) /\
 zC 1 8 q43 q22 h44 fun q45 h46 =>
 vPtr p1 fun p47 =>
 zI h46 ⟨p47.b, p47.o + 0⟩ [.sl q45] fun h48 =>
 Q (.tup []) h48)) /\
 (PNew [.ptr p2] true h6 fun a55 h56 =>
 (∃ q72 : OSl, zA h56 ⟨p20.b, p20.o + 0⟩ 1 = some [.sl q72] /\
 LV.val (.sl q72) = LV.val (.sl q21)) /\
 (∃ q71 : OSl, zA h56 ⟨p17.b, p17.o + 0⟩ 1 = some [.sl q71] /\
 LV.val (.sl q71) = LV.val (.sl q18)) /\
 PNew [] true h56 fun a57 h58 =>
 (∃ q70 : OSl, zA h58 ⟨p20.b, p20.o + 0⟩ 1 = some [.sl q70] /\
 LV.val (.sl q70) = LV.val (.sl q21)) /\
 (∃ q69 : OSl, zA h58 ⟨p17.b, p17.o + 0⟩ 1 = some [.sl q69] /\
 LV.val (.sl q69) = LV.val (.sl q18)) /\
 zC 1 8 (some ⟨a57, 0, 0, 0, 0⟩) q19 h58 fun q59 h60 =>
 (∃ q68 : OSl, zA h60 ⟨p20.b, p20.o + 0⟩ 1 = some [.sl q68] /\
 LV.val (.sl q68) = LV.val (.sl q21)) /\
 zC 1 8 q59 (some ⟨a55, 0, 1, 1, 0⟩) h60 fun q61 h62 =>
 (∃ q67 : OSl, zA h62 ⟨p20.b, p20.o + 0⟩ 1 = some [.sl q67] /\
 LV.val (.sl q67) = LV.val (.sl q21)) /\
 zC 1 8 q61 q22 h62 fun q63 h64 =>
 vPtr p1 fun p65 =>
 zI h64 ⟨p65.b, p65.o + 0⟩ [.sl q63] fun h66 =>
 Q (.tup []) h66)))
 (vPtr p1 fun p73 =>
 ∃ q74 : OSl, zA h6 ⟨p73.b, p73.o + 0⟩ 1 = some [.sl q74] /\
 yC 1 q74 0 (some n3) none fun q75 =>
 vPtr p1 fun p76 =>
 ∃ q77 : OSl, zA h6 ⟨p76.b, p76.o + 0⟩ 1 = some [.sl q77] /\
 yC 1 q77 n3 none none fun q78 =>
 (PNew [] true h6 fun a79 h80 =>
 (∃ q110 : OSl, zA h80 ⟨p76.b, p76.o + 0⟩ 1 = some [.sl q110] /\
 LV.val (.sl q110) = LV.val (.sl q77)) /\
 (∃ q109 : OSl, zA h80 ⟨p73.b, p73.o + 0⟩ 1 = some [.sl q109] /\
 LV.val (.sl q109) = LV.val (.sl q74)) /\
 (zC 1 8 (some ⟨a79, 0, 0, 0, 0⟩) q75 h80 fun q81 h82 =>
 (∃ q94 : OSl, zA h82 ⟨p76.b, p76.o + 0⟩ 1 = some [.sl q94] /\
 LV.val (.sl q94) = LV.val (.sl q77)) /\
 PNew [.ptr p2] true h82 fun a83 h84 =>
 (∃ q93 : OSl, zA h84 ⟨p76.b, p76.o + 0⟩ 1 = some [.sl q93] /\
 LV.val (.sl q93) = LV.val (.sl q77)) /\
 (∃ q92 : OSl, zA h84 ⟨p73.b, p73.o + 0⟩ 1 = some [.sl q92] /\
 LV.val (.sl q92) = LV.val (.sl q74)) /\
 zC 1 8 q81 (some ⟨a83, 0, 1, 1, 0⟩) h84 fun q85 h86 =>
 (∃ q91 : OSl, zA h86 ⟨p76.b, p76.o + 0⟩ 1 = some [.sl q91] /\
 LV.val (.sl q91) = LV.val (.sl q77)) /\
 zC 1 8 q85 q78 h86 fun q87 h88 =>
 vPtr p1 fun p89 =>
 zI h88 ⟨p89.b, p89.o + 0⟩ [.sl q87] fun h90 =>
 Q (.tup []) h90) /\
 (PNew [.ptr p2] true h80 fun a95 h96 =>
 (∃ q108 : OSl, zA h96 ⟨p76.b, p76.o + 0⟩ 1 = some [.sl q108] /\
 LV.val (.sl q108) = LV.val (.sl q77)) /\
 (∃ q107 : OSl, zA h96 ⟨p73.b, p73.o + 0⟩ 1 = some [.sl q107] /\
 LV.val (.sl q107) = LV.val (.sl q74)) /\
 zC 1 8 (some ⟨a79, 0, 0, 0, 0⟩) q75 h96 fun q97 h98 =>
 (∃ q106 : OSl, zA h98 ⟨p76.b, p76.o + 0⟩ 1 = some [.sl q106] /\
 LV.val (.sl q106) = LV.val (.sl q77)) /\
 zC 1 8 q97 (some ⟨a95, 0, 1, 1, 0⟩) h98 fun q99 h100 =>
 (∃ q105 : OSl, zA h100 ⟨p76.b, p76.o + 0⟩ 1 = some [.sl q105] /\
 LV.val (.sl q105) = LV.val (.sl q77)) /\
 zC 1 8 q99 q78 h100 fun q101 h102 =>
 vPtr p1 fun p103 =>
 zI h102 ⟨p103.b, p103.o + 0⟩ [.sl q101] fun h104 =>
 Q (.tup []) h104)) /\
 (PNew [.ptr p2] true h6 fun a111 h112 =>
 (∃ q128 : OSl, zA h112 ⟨p76.b, p76.o + 0⟩ 1 = some [.sl q128] /\
 LV.val (.sl q128) = LV.val (.sl q77)) /\
 (∃ q127 : OSl, zA h112 ⟨p73.b, p73.o + 0⟩ 1 = some [.sl q127] /\
 LV.val (.sl q127) = LV.val (.sl q74)) /\
 PNew [] true h112 fun a113 h114 =>
 (∃ q126 : OSl, zA h114 ⟨p76.b, p76.o + 0⟩ 1 = some [.sl q126] /\
 LV.val (.sl q126) = LV.val (.sl q77)) /\
 (∃ q125 : OSl, zA h114 ⟨p73.b, p73.o + 0⟩ 1 = some [.sl q125] /\
 LV.val (.sl q125) = LV.val (.sl q74)) /\
 zC 1 8 (some ⟨a113, 0, 0, 0, 0⟩) q75 h114 fun q115 h116 =>
 (∃ q124 : OSl, zA h116 ⟨p76.b, p76.o + 0⟩ 1 = some [.sl q124] /\
 LV.val (.sl q124) = LV.val (.sl q77)) /\
 zC 1 8 q115 (some ⟨a111, 0, 1, 1, 0⟩) h116 fun q117 h118 =>
 (∃ q123 : OSl, zA h118 ⟨p76.b, p76.o + 0⟩ 1 = some [.sl q123] /\
 LV.val (.sl q123) = LV.val (.sl q77)) /\
 zC 1 8 q117 q78 h118 fun q119 h120 =>
 vPtr p1 fun p121 =>
 zI h120 ⟨p121.b, p121.o + 0⟩ [.sl q119] fun h122 =>
 Q (.tup []) h122))
theorem ac200 {p1 : OPa} {p2 : OPa} {h : Heap} {Q : AHp} (hk : vc200 p1 p2 h Q) : AC Tryz.prog 200 [.ptr p1, .ptr p2] h Q :=
 zL (H := zH [] [(0, [4], [])]) (by kernel_rfl) (by kernel_rfl) hk
def vc258 (p1 : OPa) (h : Heap) (Q : AHp) : Prop :=
 vPtr p1 fun p2 =>
 ∃ n3 : Int, zA h ⟨p2.b, p2.o + 3⟩ 1 = some [.int .i64 n3] /\
 vif (n3 == 0)
 (vPtr p1 fun p4 =>
 zI h ⟨p4.b, p4.o + 4⟩ [.bool true] fun h5 =>
 Q (.bool false) h5)
 (vPtr p1 fun p6 =>
 ∃ n7 : Int, zA h ⟨p6.b, p6.o + 3⟩ 1 = some [.int .i64 n7] /\
 vif (decide (n7 > 0))
 (vPtr p1 fun p8 =>
 ∃ n9 : Int, zA h ⟨p8.b, p8.o + 3⟩ 1 = some [.int .i64 n9] /\
 vPtr p1 fun p10 =>
 zI h ⟨p10.b, p10.o + 3⟩ [.int .i64 (zE .i64 (n9 - 1))] fun h11 =>
 Q (.bool true) h11)
 (Q (.bool true) h))
theorem ac258 {p1 : OPa} {h : Heap} {Q : AHp} (hk : vc258 p1 h Q) : AC Tryz.prog 258 [.ptr p1] h Q :=
 zL (H := zH [] []) (by kernel_rfl) (by kernel_rfl) hk
end Go.Proofs
