import Derived.Test.YtnglhicedhcpbaaGreatDoorHG10
import Derived.Test.YtnglhicedhcpbaaGreatDoorProg
import Derived.KernelRfl
namespace Go.Proofs
open Go.Ab
set_option maxRecDepth 100000
set_option linter.unusedVariables false
def vc42 (p1 : Option PA) (h : Heap) (Q : AV → Heap → Prop) : Prop :=
 AC Tryz.prog 104 [.ptr p1] h fun v2 h3 => ∃ b4 : Bool, v2 = .bool b4 ∧
 vif (!b4)
 (Q (.sl none) h3)
 (vPtr p1 fun p5 =>
 ∃ m6 : Option Nat, cellsAt h3 ⟨p5.b, p5.o + 0⟩ 1 = some [.map m6] ∧
 AC Tryz.prog 124 [.map m6] h3 fun v7 h8 => ∃ v9 : AV, v9.one = true ∧ v7 = v9 ∧
 AC Tryz.prog 122 [v9] h8 fun v10 h11 => ∃ q12 : Option SL, v10 = .sl q12 ∧
 ∃ (I15 : List AV → Heap → Prop) (m16 : List AV → Heap → Nat), I15 [.sl none, .int .i64 0] h11 ∧
 ∀ q13 : Option SL, ∀ n14 : Int, ∀ h17 : Heap, I15 [.sl q13, .int .i64 n14] h17 →
 vif (decide (n14 < (slLen q12 : Int)))
 (vIdx q12 n14 1 fun p18 =>
 ∃ s19 : List UInt8, cellsAt h17 p18 1 = some [.str s19] ∧
 vPtr p1 fun p20 =>
 ∃ m21 : Option Nat, cellsAt h17 ⟨p20.b, p20.o + 0⟩ 1 = some [.map m21] ∧
 PLookup Tryz.prog 9 183 m21 (.str s19) false h17 fun v22 =>
 ∃ p23 : Option PA, v22 = .ptr p23 ∧
 vPtr p23 fun p24 =>
 ∃ q25 : Option SL, cellsAt h17 ⟨p24.b, p24.o + 1⟩ 1 = some [.sl q25] ∧
 PNew [.str s19, .int .i64 (slLen q25 : Int)] true h17 fun a26 h27 =>
 PAppendS 2 24 q13 (some ⟨a26, 0, 1, 1, 0⟩) h27 fun q28 h29 =>
 (True) ∧ I15 [.sl q28, .int .i64 (wrapK .i64 (n14 + 1))] h29 ∧ m16 [.sl q28, .int .i64 (wrapK .i64 (n14 + 1))] h29 < m16 [.sl q13, .int .i64 n14] h17)
 (Q (.sl q13) h17))
theorem ac42 {p1 : Option PA} {h : Heap} {Q : AV → Heap → Prop} (hk : vc42 p1 h Q) : AC Tryz.prog 42 [.ptr p1] h Q :=
 AC_by (H := hintsOf [] [(0, [3, 16], [])]) (by kernel_rfl) (by kernel_rfl) hk
def vc174 (p1 : Option PA) (p2 : Option PA) (h : Heap) (Q : AV → Heap → Prop) : Prop :=
 PNew [.ptr p2] true h fun a3 h4 =>
 vPtr p1 fun p5 =>
 ∃ q6 : Option SL, cellsAt h4 ⟨p5.b, p5.o + 1⟩ 1 = some [.sl q6] ∧
 AC Tryz.prog 241 [.sl q6, .func (.func 242) [] [.ptr (some ⟨a3, 0⟩)]] h4 fun v7 h8 => ∃ q9 : Option SL, v7 = .sl q9 ∧
 vPtr p1 fun p10 =>
 PStore h8 ⟨p10.b, p10.o + 1⟩ [.sl q9] fun h11 =>
 Q (.tup []) h11
theorem ac174 {p1 : Option PA} {p2 : Option PA} {h : Heap} {Q : AV → Heap → Prop} (hk : vc174 p1 p2 h Q) : AC Tryz.prog 174 [.ptr p1, .ptr p2] h Q :=
 AC_by (H := hintsOf [] []) (by kernel_rfl) (by kernel_rfl) hk
def vc241 (q1 : Option SL) (p2 : Option PA) (h : Heap) (Q : AV → Heap → Prop) : Prop :=
 AC Tryz.prog 278 [.sl q1, .func (.func 242) [] [.ptr p2]] h fun v3 h4 => ∃ n5 : Int, v3 = .int .i64 n5 ∧
 vif (n5 == (-1))
 (Q (.sl q1) h4)
 (∃ (I8 : List AV → Heap → Prop) (m9 : List AV → Heap → Nat), I8 [.int .i64 n5, .int .i64 (wrapK .i64 (n5 + 1))] h4 ∧
 ∀ n6 n7 : Int, ∀ h10 : Heap, I8 [.int .i64 n6, .int .i64 n7] h10 →
 vif (decide (n7 < (slLen q1 : Int)))
 (vIdx q1 n7 66 fun p11 =>
 ∃ p12 : Option PA, ∃ n13 : Int, exC .u8 64 fun l14 =>
 cellsAt h10 p11 66 = some ([.ptr p12, .int .i64 n13] ++ (l14)) ∧
 AC Tryz.prog 242 [.agg ([.ptr p12, .int .i64 n13] ++ (l14)), .ptr p2] h10 fun v15 h16 => ∃ b17 : Bool, v15 = .bool b17 ∧
 vif (!b17)
 (vIdx q1 n6 66 fun p18 =>
 PStore h16 p18 ([.ptr p12, .int .i64 n13] ++ (l14)) fun h19 =>
 (True) ∧ I8 [.int .i64 (wrapK .i64 (n6 + 1)), .int .i64 (wrapK .i64 (n7 + 1))] h19 ∧ m9 [.int .i64 (wrapK .i64 (n6 + 1)), .int .i64 (wrapK .i64 (n7 + 1))] h19 < m9 [.int .i64 n6, .int .i64 n7] h10)
 ((True) ∧ I8 [.int .i64 n6, .int .i64 (wrapK .i64 (n7 + 1))] h16 ∧ m9 [.int .i64 n6, .int .i64 (wrapK .i64 (n7 + 1))] h16 < m9 [.int .i64 n6, .int .i64 n7] h10))
 (PSlice 66 q1 n6 none none fun q20 =>
 PClear ([.ptr none, .int .i64 0] ++ ((List.replicate 64 (AV.int .u8 0)))) q20 h10 fun h21 =>
 PSlice 66 q1 0 (some n6) none fun q22 =>
 Q (.sl q22) h21))
theorem ac241 {q1 : Option SL} {p2 : Option PA} {h : Heap} {Q : AV → Heap → Prop} (hk : vc241 q1 p2 h Q) : AC Tryz.prog 241 [.sl q1, .func (.func 242) [] [.ptr p2]] h Q :=
 AC_by (H := hintsOf [7] [(0, [5, 6], [])]) (by kernel_rfl) (by kernel_rfl) hk
def vc242 (p1 : Option PA) (n2 : Int) (l3 : Nat → Int) (p4 : Option PA) (h : Heap) (Q : AV → Heap → Prop) : Prop :=
 vPtr p4 fun p5 =>
 ∃ p6 : Option PA, cellsAt h p5 1 = some [.ptr p6] ∧
 aEq Tryz.prog 183 h (.ptr p1) (.ptr p6) fun b7 =>
 Q (.bool b7) h
theorem ac242 {p1 : Option PA} {n2 : Int} {l3 : Nat → Int} {p4 : Option PA} {h : Heap} {Q : AV → Heap → Prop} (hk : vc242 p1 n2 l3 p4 h Q) : AC Tryz.prog 242 [.agg ([.ptr p1, .int .i64 n2] ++ ((cel .u8 64 l3))), .ptr p4] h Q :=
 AC_by (H := hintsOf [2] []) (by kernel_rfl) (by kernel_rfl) hk
def vc278 (q1 : Option SL) (p2 : Option PA) (h : Heap) (Q : AV → Heap → Prop) : Prop :=
 ∃ (I4 : List AV → Heap → Prop) (m5 : List AV → Heap → Nat), I4 [.int .i64 0] h ∧
 ∀ n3 : Int, ∀ h6 : Heap, I4 [.int .i64 n3] h6 →
 vif (decide (n3 < (slLen q1 : Int)))
 (vIdx q1 n3 66 fun p7 =>
 ∃ p8 : Option PA, ∃ n9 : Int, exC .u8 64 fun l10 =>
 cellsAt h6 p7 66 = some ([.ptr p8, .int .i64 n9] ++ (l10)) ∧
 AC Tryz.prog 242 [.agg ([.ptr p8, .int .i64 n9] ++ (l10)), .ptr p2] h6 fun v11 h12 => ∃ b13 : Bool, v11 = .bool b13 ∧
 vif b13
 (Q (.int .i64 n3) h12)
 ((True) ∧ I4 [.int .i64 (wrapK .i64 (n3 + 1))] h12 ∧ m5 [.int .i64 (wrapK .i64 (n3 + 1))] h12 < m5 [.int .i64 n3] h6))
 (Q (.int .i64 (-1)) h6)
theorem ac278 {q1 : Option SL} {p2 : Option PA} {h : Heap} {Q : AV → Heap → Prop} (hk : vc278 q1 p2 h Q) : AC Tryz.prog 278 [.sl q1, .func (.func 242) [] [.ptr p2]] h Q :=
 AC_by (H := hintsOf [] [(0, [8], [])]) (by kernel_rfl) (by kernel_rfl) hk
end Go.Proofs

