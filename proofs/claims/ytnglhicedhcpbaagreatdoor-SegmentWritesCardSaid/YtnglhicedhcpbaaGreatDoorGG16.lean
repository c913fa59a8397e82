/- Conditions, printed. -/
import Derived.Test.YtnglhicedhcpbaaGreatDoorGG9
import Derived.Test.YtnglhicedhcpbaaGreatDoorProg
import Derived.KernelRfl
namespace Go.Proofs
open Go.Ab
set_option maxRecDepth 100000
set_option linter.unusedVariables false

/-- oxbowref05.Disk).Create: what it asks. -/
def vc121 (p1 : Option PA) (s2 : List UInt8) (h : Heap) (Q : AV → Heap → Prop) : Prop :=
 AC Tryz.prog 198 [.str s2] h fun v3 h4 => ∃ b5 : Bool, v3 = .bool b5 ∧
 vif (!b5)
 (AC Tryz.prog 199 [.ptr p1, .int .i64 1] h4 fun v6 h7 => ∃ n8 : Int, v6 = .int .i64 n8 ∧
 vif (n8 == 0)
 (PNew [.str s2, .sl none, .sl none] true h7 fun a9 h10 =>
 AC Tryz.prog 200 [.ptr p1, .ptr (some ⟨a9, 0⟩)] h10 fun v11 h12 => v11 = .tup [] ∧
 Q (.int .i64 n8) h12)
 (Q (.int .i64 n8) h7))
 (AC Tryz.prog 55 [.ptr p1, .str s2] h4 fun v13 h14 => ∃ p15 : Option PA, v13 = .ptr p15 ∧
 vif (!(p15.isNone))
 (AC Tryz.prog 199 [.ptr p1, .int .i64 5] h14 fun v16 h17 => ∃ n18 : Int, v16 = .int .i64 n18 ∧
 vif (n18 == 0)
 (PNew [.str s2, .sl none, .sl none] true h17 fun a19 h20 =>
 AC Tryz.prog 200 [.ptr p1, .ptr (some ⟨a19, 0⟩)] h20 fun v21 h22 => v21 = .tup [] ∧
 Q (.int .i64 n18) h22)
 (Q (.int .i64 n18) h17))
 (vPtr p1 fun p23 =>
 ∃ q24 : Option SL, cellsAt h14 ⟨p23.b, p23.o + 0⟩ 1 = some [.sl q24] ∧
 vif (decide ((slLen q24 : Int) ≥ 256))
 (AC Tryz.prog 199 [.ptr p1, .int .i64 2] h14 fun v25 h26 => ∃ n27 : Int, v25 = .int .i64 n27 ∧
 vif (n27 == 0)
 (PNew [.str s2, .sl none, .sl none] true h26 fun a28 h29 =>
 AC Tryz.prog 200 [.ptr p1, .ptr (some ⟨a28, 0⟩)] h29 fun v30 h31 => v30 = .tup [] ∧
 Q (.int .i64 n27) h31)
 (Q (.int .i64 n27) h26))
 (AC Tryz.prog 199 [.ptr p1, .int .i64 0] h14 fun v32 h33 => ∃ n34 : Int, v32 = .int .i64 n34 ∧
 vif (n34 == 0)
 (PNew [.str s2, .sl none, .sl none] true h33 fun a35 h36 =>
 AC Tryz.prog 200 [.ptr p1, .ptr (some ⟨a35, 0⟩)] h36 fun v37 h38 => v37 = .tup [] ∧
 Q (.int .i64 n34) h38)
 (Q (.int .i64 n34) h33))))
theorem ac121 {p1 : Option PA} {s2 : List UInt8} {h : Heap} {Q : AV → Heap → Prop} (hk : vc121 p1 s2 h Q) : AC Tryz.prog 121 [.ptr p1, .str s2] h Q :=
 AC_by (H := hintsOf [] []) (by kernel_rfl) (by kernel_rfl) hk

/-- oxbowref05.keep: what it asks. -/
def vc197 (p1 : Option PA) (n2 : Int) (q3 : Option SL) (n4 : Int) (h : Heap) (Q : AV → Heap → Prop) : Prop :=
 vif (decide (n4 < 1))
 (Q (.tup []) h)
 (∃ (I5 : List AV → Heap → Prop) (m6 : List AV → Heap → Nat), I5 [] h ∧
 ∀ h7 : Heap, I5 [] h7 →
 vPtr p1 fun p8 =>
 ∃ q9 : Option SL, cellsAt h7 ⟨p8.b, p8.o + 2⟩ 1 = some [.sl q9] ∧
 vif (decide ((slLen q9 : Int) ≤ n2))
 (vPtr p1 fun p10 =>
 ∃ q11 : Option SL, cellsAt h7 ⟨p10.b, p10.o + 2⟩ 1 = some [.sl q11] ∧
 PMake [.int .u8 0] 1 64 64 h7 fun q12 h13 =>
 (∃ q21 : Option SL, cellsAt h13 ⟨p10.b, p10.o + 2⟩ 1 = some [.sl q21] ∧
 LV.val (.sl q21) = LV.val (.sl q11)) ∧
 PNew [.sl q12] true h13 fun a14 h15 =>
 (∃ q20 : Option SL, cellsAt h15 ⟨p10.b, p10.o + 2⟩ 1 = some [.sl q20] ∧
 LV.val (.sl q20) = LV.val (.sl q11)) ∧
 PAppendS 1 24 q11 (some ⟨a14, 0, 1, 1, 0⟩) h15 fun q16 h17 =>
 vPtr p1 fun p18 =>
 PStore h17 ⟨p18.b, p18.o + 2⟩ [.sl q16] fun h19 =>
 (True) ∧ I5 [] h19 ∧ m6 [] h19 < m6 [] h7)
 (PNew [] true h7 fun a22 h23 =>
 vPtr p1 fun p24 =>
 ∃ q25 : Option SL, cellsAt h23 ⟨p24.b, p24.o + 2⟩ 1 = some [.sl q25] ∧
 vIdx q25 n2 1 fun p26 =>
 ∃ q27 : Option SL, cellsAt h23 p26 1 = some [.sl q27] ∧
 PAppendS 1 1 (some ⟨a22, 0, 0, 0, 0⟩) q27 h23 fun q28 h29 =>
 ∃ (I31 : List AV → Heap → Prop) (m32 : List AV → Heap → Nat), I31 [.int .i64 0] h29 ∧
 ∀ n30 : Int, ∀ h33 : Heap, I31 [.int .i64 n30] h33 →
 vif (decide (n30 < 64))
 (vif (decide (n30 < n4))
 (vIdx q3 n30 1 fun p34 =>
 ∃ n35 : Int, cellsAt h33 p34 1 = some [.int .u8 n35] ∧
 vIdx q28 n30 1 fun p36 =>
 PStore h33 p36 [.int .u8 n35] fun h37 =>
 (True) ∧ I31 [.int .i64 (wrapK .i64 (n30 + 1))] h37 ∧ m32 [.int .i64 (wrapK .i64 (n30 + 1))] h37 < m32 [.int .i64 n30] h33)
 (vPtr p1 fun p38 =>
 ∃ q39 : Option SL, cellsAt h33 ⟨p38.b, p38.o + 2⟩ 1 = some [.sl q39] ∧
 vIdx q39 n2 1 fun p40 =>
 PStore h33 p40 [.sl q28] fun h41 =>
 Q (.tup []) h41))
 (vPtr p1 fun p42 =>
 ∃ q43 : Option SL, cellsAt h33 ⟨p42.b, p42.o + 2⟩ 1 = some [.sl q43] ∧
 vIdx q43 n2 1 fun p44 =>
 PStore h33 p44 [.sl q28] fun h45 =>
 Q (.tup []) h45)))
theorem ac197 {p1 : Option PA} {n2 : Int} {q3 : Option SL} {n4 : Int} {h : Heap} {Q : AV → Heap → Prop} (hk : vc197 p1 n2 q3 n4 h Q) : AC Tryz.prog 197 [.ptr p1, .int .i64 n2, .sl q3, .int .i64 n4] h Q :=
 AC_by (H := hintsOf [] [(0, [], []), (2, [9], [])]) (by kernel_rfl) (by kernel_rfl) hk

/-- oxbowref05.name: what it asks. -/
def vc198 (s1 : List UInt8) (h : Heap) (Q : AV → Heap → Prop) : Prop :=
 vif (decide ((s1.length : Int) ≥ 1))
 (Q (.bool (decide ((s1.length : Int) ≤ 24))) h)
 (Q (.bool false) h)
theorem ac198 {s1 : List UInt8} {h : Heap} {Q : AV → Heap → Prop} (hk : vc198 s1 h Q) : AC Tryz.prog 198 [.str s1] h Q :=
 AC_by (H := hintsOf [] []) (by kernel_rfl) (by kernel_rfl) hk

/-- oxbowref05.Disk).end: what it asks. -/
def vc199 (p1 : Option PA) (n2 : Int) (h : Heap) (Q : AV → Heap → Prop) : Prop :=
 vif (n2 == 1)
 (Q (.int .i64 n2) h)
 (vPtr p1 fun p3 =>
 ∃ b4 : Bool, cellsAt h ⟨p3.b, p3.o + 4⟩ 1 = some [.bool b4] ∧
 vif b4
 (Q (.int .i64 50) h)
 (vif (n2 != 0)
 (Q (.int .i64 n2) h)
 (AC Tryz.prog 258 [.ptr p1] h fun v5 h6 => ∃ b7 : Bool, v5 = .bool b7 ∧
 vif (!b7)
 (Q (.int .i64 50) h6)
 (Q (.int .i64 0) h6))))
theorem ac199 {p1 : Option PA} {n2 : Int} {h : Heap} {Q : AV → Heap → Prop} (hk : vc199 p1 n2 h Q) : AC Tryz.prog 199 [.ptr p1, .int .i64 n2] h Q :=
 AC_by (H := hintsOf [] []) (by kernel_rfl) (by kernel_rfl) hk

/-- oxbowref05.Disk).place: what it asks. -/
def vc200 (p1 : Option PA) (p2 : Option PA) (h : Heap) (Q : AV → Heap → Prop) : Prop :=
 ∃ (I4 : List AV → Heap → Prop) (m5 : List AV → Heap → Nat), I4 [.int .i64 0] h ∧
 ∀ n3 : Int, ∀ h6 : Heap, I4 [.int .i64 n3] h6 →
 vPtr p1 fun p7 =>
 ∃ q8 : Option SL, cellsAt h6 ⟨p7.b, p7.o + 0⟩ 1 = some [.sl q8] ∧
 vif (decide (n3 < (slLen q8 : Int)))
 (vPtr p1 fun p9 =>
 ∃ q10 : Option SL, cellsAt h6 ⟨p9.b, p9.o + 0⟩ 1 = some [.sl q10] ∧
 vIdx q10 n3 1 fun p11 =>
 ∃ p12 : Option PA, cellsAt h6 p11 1 = some [.ptr p12] ∧
 vPtr p12 fun p13 =>
 ∃ s14 : List UInt8, cellsAt h6 ⟨p13.b, p13.o + 0⟩ 1 = some [.str s14] ∧
 vPtr p2 fun p15 =>
 ∃ s16 : List UInt8, cellsAt h6 ⟨p15.b, p15.o + 0⟩ 1 = some [.str s16] ∧
 vif (bytesLess s14 s16)
 ((True) ∧ I4 [.int .i64 (wrapK .i64 (n3 + 1))] h6 ∧ m5 [.int .i64 (wrapK .i64 (n3 + 1))] h6 < m5 [.int .i64 n3] h6)
 (vPtr p1 fun p17 =>
 ∃ q18 : Option SL, cellsAt h6 ⟨p17.b, p17.o + 0⟩ 1 = some [.sl q18] ∧
 PSlice 1 q18 0 (some n3) none fun q19 =>
 vPtr p1 fun p20 =>
 ∃ q21 : Option SL, cellsAt h6 ⟨p20.b, p20.o + 0⟩ 1 = some [.sl q21] ∧
 PSlice 1 q21 n3 none none fun q22 =>
 (PNew [] true h6 fun a23 h24 =>
 (∃ q54 : Option SL, cellsAt h24 ⟨p20.b, p20.o + 0⟩ 1 = some [.sl q54] ∧
 LV.val (.sl q54) = LV.val (.sl q21)) ∧
 (∃ q53 : Option SL, cellsAt h24 ⟨p17.b, p17.o + 0⟩ 1 = some [.sl q53] ∧
 LV.val (.sl q53) = LV.val (.sl q18)) ∧
 (PAppendS 1 8 (some ⟨a23, 0, 0, 0, 0⟩) q19 h24 fun q25 h26 =>
 (∃ q38 : Option SL, cellsAt h26 ⟨p20.b, p20.o + 0⟩ 1 = some [.sl q38] ∧
 LV.val (.sl q38) = LV.val (.sl q21)) ∧
 PNew [.ptr p2] true h26 fun a27 h28 =>
 (∃ q37 : Option SL, cellsAt h28 ⟨p20.b, p20.o + 0⟩ 1 = some [.sl q37] ∧
 LV.val (.sl q37) = LV.val (.sl q21)) ∧
 (∃ q36 : Option SL, cellsAt h28 ⟨p17.b, p17.o + 0⟩ 1 = some [.sl q36] ∧
 LV.val (.sl q36) = LV.val (.sl q18)) ∧
 PAppendS 1 8 q25 (some ⟨a27, 0, 1, 1, 0⟩) h28 fun q29 h30 =>
 (∃ q35 : Option SL, cellsAt h30 ⟨p20.b, p20.o + 0⟩ 1 = some [.sl q35] ∧
 LV.val (.sl q35) = LV.val (.sl q21)) ∧
 PAppendS 1 8 q29 q22 h30 fun q31 h32 =>
 vPtr p1 fun p33 =>
 PStore h32 ⟨p33.b, p33.o + 0⟩ [.sl q31] fun h34 =>
 Q (.tup []) h34) ∧
 (PNew [.ptr p2] true h24 fun a39 h40 =>
 (∃ q52 : Option SL, cellsAt h40 ⟨p20.b, p20.o + 0⟩ 1 = some [.sl q52] ∧
 LV.val (.sl q52) = LV.val (.sl q21)) ∧
 (∃ q51 : Option SL, cellsAt h40 ⟨p17.b, p17.o + 0⟩ 1 = some [.sl q51] ∧
 LV.val (.sl q51) = LV.val (.sl q18)) ∧
 PAppendS 1 8 (some ⟨a23, 0, 0, 0, 0⟩) q19 h40 fun q41 h42 =>
 (∃ q50 : Option SL, cellsAt h42 ⟨p20.b, p20.o + 0⟩ 1 = some [.sl q50] ∧
 LV.val (.sl q50) = LV.val (.sl q21)) ∧
 PAppendS 1 8 q41 (some ⟨a39, 0, 1, 1, 0⟩) h42 fun q43 h44 =>
 (∃ q49 : Option SL, cellsAt h44 ⟨p20.b, p20.o + 0⟩ 1 = some [.sl q49] ∧
 LV.val (.sl q49) = LV.val (.sl q21)) ∧
 PAppendS 1 8 q43 q22 h44 fun q45 h46 =>
 vPtr p1 fun p47 =>
 PStore h46 ⟨p47.b, p47.o + 0⟩ [.sl q45] fun h48 =>
 Q (.tup []) h48)) ∧
 (PNew [.ptr p2] true h6 fun a55 h56 =>
 (∃ q72 : Option SL, cellsAt h56 ⟨p20.b, p20.o + 0⟩ 1 = some [.sl q72] ∧
 LV.val (.sl q72) = LV.val (.sl q21)) ∧
 (∃ q71 : Option SL, cellsAt h56 ⟨p17.b, p17.o + 0⟩ 1 = some [.sl q71] ∧
 LV.val (.sl q71) = LV.val (.sl q18)) ∧
 PNew [] true h56 fun a57 h58 =>
 (∃ q70 : Option SL, cellsAt h58 ⟨p20.b, p20.o + 0⟩ 1 = some [.sl q70] ∧
 LV.val (.sl q70) = LV.val (.sl q21)) ∧
 (∃ q69 : Option SL, cellsAt h58 ⟨p17.b, p17.o + 0⟩ 1 = some [.sl q69] ∧
 LV.val (.sl q69) = LV.val (.sl q18)) ∧
 PAppendS 1 8 (some ⟨a57, 0, 0, 0, 0⟩) q19 h58 fun q59 h60 =>
 (∃ q68 : Option SL, cellsAt h60 ⟨p20.b, p20.o + 0⟩ 1 = some [.sl q68] ∧
 LV.val (.sl q68) = LV.val (.sl q21)) ∧
 PAppendS 1 8 q59 (some ⟨a55, 0, 1, 1, 0⟩) h60 fun q61 h62 =>
 (∃ q67 : Option SL, cellsAt h62 ⟨p20.b, p20.o + 0⟩ 1 = some [.sl q67] ∧
 LV.val (.sl q67) = LV.val (.sl q21)) ∧
 PAppendS 1 8 q61 q22 h62 fun q63 h64 =>
 vPtr p1 fun p65 =>
 PStore h64 ⟨p65.b, p65.o + 0⟩ [.sl q63] fun h66 =>
 Q (.tup []) h66)))
 (vPtr p1 fun p73 =>
 ∃ q74 : Option SL, cellsAt h6 ⟨p73.b, p73.o + 0⟩ 1 = some [.sl q74] ∧
 PSlice 1 q74 0 (some n3) none fun q75 =>
 vPtr p1 fun p76 =>
 ∃ q77 : Option SL, cellsAt h6 ⟨p76.b, p76.o + 0⟩ 1 = some [.sl q77] ∧
 PSlice 1 q77 n3 none none fun q78 =>
 (PNew [] true h6 fun a79 h80 =>
 (∃ q110 : Option SL, cellsAt h80 ⟨p76.b, p76.o + 0⟩ 1 = some [.sl q110] ∧
 LV.val (.sl q110) = LV.val (.sl q77)) ∧
 (∃ q109 : Option SL, cellsAt h80 ⟨p73.b, p73.o + 0⟩ 1 = some [.sl q109] ∧
 LV.val (.sl q109) = LV.val (.sl q74)) ∧
 (PAppendS 1 8 (some ⟨a79, 0, 0, 0, 0⟩) q75 h80 fun q81 h82 =>
 (∃ q94 : Option SL, cellsAt h82 ⟨p76.b, p76.o + 0⟩ 1 = some [.sl q94] ∧
 LV.val (.sl q94) = LV.val (.sl q77)) ∧
 PNew [.ptr p2] true h82 fun a83 h84 =>
 (∃ q93 : Option SL, cellsAt h84 ⟨p76.b, p76.o + 0⟩ 1 = some [.sl q93] ∧
 LV.val (.sl q93) = LV.val (.sl q77)) ∧
 (∃ q92 : Option SL, cellsAt h84 ⟨p73.b, p73.o + 0⟩ 1 = some [.sl q92] ∧
 LV.val (.sl q92) = LV.val (.sl q74)) ∧
 PAppendS 1 8 q81 (some ⟨a83, 0, 1, 1, 0⟩) h84 fun q85 h86 =>
 (∃ q91 : Option SL, cellsAt h86 ⟨p76.b, p76.o + 0⟩ 1 = some [.sl q91] ∧
 LV.val (.sl q91) = LV.val (.sl q77)) ∧
 PAppendS 1 8 q85 q78 h86 fun q87 h88 =>
 vPtr p1 fun p89 =>
 PStore h88 ⟨p89.b, p89.o + 0⟩ [.sl q87] fun h90 =>
 Q (.tup []) h90) ∧
 (PNew [.ptr p2] true h80 fun a95 h96 =>
 (∃ q108 : Option SL, cellsAt h96 ⟨p76.b, p76.o + 0⟩ 1 = some [.sl q108] ∧
 LV.val (.sl q108) = LV.val (.sl q77)) ∧
 (∃ q107 : Option SL, cellsAt h96 ⟨p73.b, p73.o + 0⟩ 1 = some [.sl q107] ∧
 LV.val (.sl q107) = LV.val (.sl q74)) ∧
 PAppendS 1 8 (some ⟨a79, 0, 0, 0, 0⟩) q75 h96 fun q97 h98 =>
 (∃ q106 : Option SL, cellsAt h98 ⟨p76.b, p76.o + 0⟩ 1 = some [.sl q106] ∧
 LV.val (.sl q106) = LV.val (.sl q77)) ∧
 PAppendS 1 8 q97 (some ⟨a95, 0, 1, 1, 0⟩) h98 fun q99 h100 =>
 (∃ q105 : Option SL, cellsAt h100 ⟨p76.b, p76.o + 0⟩ 1 = some [.sl q105] ∧
 LV.val (.sl q105) = LV.val (.sl q77)) ∧
 PAppendS 1 8 q99 q78 h100 fun q101 h102 =>
 vPtr p1 fun p103 =>
 PStore h102 ⟨p103.b, p103.o + 0⟩ [.sl q101] fun h104 =>
 Q (.tup []) h104)) ∧
 (PNew [.ptr p2] true h6 fun a111 h112 =>
 (∃ q128 : Option SL, cellsAt h112 ⟨p76.b, p76.o + 0⟩ 1 = some [.sl q128] ∧
 LV.val (.sl q128) = LV.val (.sl q77)) ∧
 (∃ q127 : Option SL, cellsAt h112 ⟨p73.b, p73.o + 0⟩ 1 = some [.sl q127] ∧
 LV.val (.sl q127) = LV.val (.sl q74)) ∧
 PNew [] true h112 fun a113 h114 =>
 (∃ q126 : Option SL, cellsAt h114 ⟨p76.b, p76.o + 0⟩ 1 = some [.sl q126] ∧
 LV.val (.sl q126) = LV.val (.sl q77)) ∧
 (∃ q125 : Option SL, cellsAt h114 ⟨p73.b, p73.o + 0⟩ 1 = some [.sl q125] ∧
 LV.val (.sl q125) = LV.val (.sl q74)) ∧
 PAppendS 1 8 (some ⟨a113, 0, 0, 0, 0⟩) q75 h114 fun q115 h116 =>
 (∃ q124 : Option SL, cellsAt h116 ⟨p76.b, p76.o + 0⟩ 1 = some [.sl q124] ∧
 LV.val (.sl q124) = LV.val (.sl q77)) ∧
 PAppendS 1 8 q115 (some ⟨a111, 0, 1, 1, 0⟩) h116 fun q117 h118 =>
 (∃ q123 : Option SL, cellsAt h118 ⟨p76.b, p76.o + 0⟩ 1 = some [.sl q123] ∧
 LV.val (.sl q123) = LV.val (.sl q77)) ∧
 PAppendS 1 8 q117 q78 h118 fun q119 h120 =>
 vPtr p1 fun p121 =>
 PStore h120 ⟨p121.b, p121.o + 0⟩ [.sl q119] fun h122 =>
 Q (.tup []) h122))
theorem ac200 {p1 : Option PA} {p2 : Option PA} {h : Heap} {Q : AV → Heap → Prop} (hk : vc200 p1 p2 h Q) : AC Tryz.prog 200 [.ptr p1, .ptr p2] h Q :=
 AC_by (H := hintsOf [] [(0, [4], [])]) (by kernel_rfl) (by kernel_rfl) hk

/-- oxbowref05.Disk).power: what it asks. -/
def vc258 (p1 : Option PA) (h : Heap) (Q : AV → Heap → Prop) : Prop :=
 vPtr p1 fun p2 =>
 ∃ n3 : Int, cellsAt h ⟨p2.b, p2.o + 3⟩ 1 = some [.int .i64 n3] ∧
 vif (n3 == 0)
 (vPtr p1 fun p4 =>
 PStore h ⟨p4.b, p4.o + 4⟩ [.bool true] fun h5 =>
 Q (.bool false) h5)
 (vPtr p1 fun p6 =>
 ∃ n7 : Int, cellsAt h ⟨p6.b, p6.o + 3⟩ 1 = some [.int .i64 n7] ∧
 vif (decide (n7 > 0))
 (vPtr p1 fun p8 =>
 ∃ n9 : Int, cellsAt h ⟨p8.b, p8.o + 3⟩ 1 = some [.int .i64 n9] ∧
 vPtr p1 fun p10 =>
 PStore h ⟨p10.b, p10.o + 3⟩ [.int .i64 (wrapK .i64 (n9 - 1))] fun h11 =>
 Q (.bool true) h11)
 (Q (.bool true) h))
theorem ac258 {p1 : Option PA} {h : Heap} {Q : AV → Heap → Prop} (hk : vc258 p1 h Q) : AC Tryz.prog 258 [.ptr p1] h Q :=
 AC_by (H := hintsOf [] []) (by kernel_rfl) (by kernel_rfl) hk

end Go.Proofs

/- Conditions, printed. -/
namespace Go.Proofs
open Go.Ab
set_option maxRecDepth 100000
set_option linter.unusedVariables false

/-- moment.Check: what it asks. -/
def vc186 (n1 : Int) (n2 : Int) (h : Heap) (Q : AV → Heap → Prop) : Prop :=
 vif (decide (n1 < 0))
 (Q (.int .i64 40) h)
 (vif (decide (n1 ≥ 65536))
 (Q (.int .i64 40) h)
 (vif (decide (n2 < 0))
 (Q (.int .i64 40) h)
 (vif (decide (n2 ≥ 65536))
 (Q (.int .i64 40) h)
 (Q (.int .i64 0) h))))
theorem ac186 {n1 : Int} {n2 : Int} {h : Heap} {Q : AV → Heap → Prop} (hk : vc186 n1 n2 h Q) : AC Tryz.prog 186 [.agg [.int .i64 n1, .int .i64 n2]] h Q :=
 AC_by (H := hintsOf [1] []) (by kernel_rfl) (by kernel_rfl) hk

end Go.Proofs

/- Conditions, printed. -/
namespace Go.Proofs
open Go.Ab
set_option maxRecDepth 100000
set_option linter.unusedVariables false

end Go.Proofs
