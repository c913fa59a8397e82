/- Conditions, printed. -/
import Derived.Test.YtceplmmmlindnaaCAb18
import Derived.Test.YtceplmmmlindnaaProg
import Derived.KernelRfl
namespace Go.Proofs
open Go.Ab
set_option maxRecDepth 100000
set_option linter.unusedVariables false

/-- oxbowlaw14.large: what it asks. -/
def vc12 (n1 : Int) (n2 : Int) (n3 : Int) (q4 : Option SL) (h : Heap) (Q : AV → Heap → Prop) : Prop :=
 ∃ (I7 : List AV → Heap → Prop) (m8 : List AV → Heap → Nat), I7 [.int .i64 0, .int .i64 0] h ∧
 ∀ n5 : Int, ∀ n6 : Int, ∀ h9 : Heap, I7 [.int .i64 n5, .int .i64 n6] h9 →
 vif (decide (n6 < (slLen q4 : Int)))
 (vif (decide (n6 < 300))
 (vIdx q4 n6 3 fun p10 =>
 ∃ s11 : List UInt8, cellsAt h9 ⟨p10.b, p10.o + 0⟩ 1 = some [.str s11] ∧
 vif (decide ((wrapK .i64 (n5 + (s11.length : Int))) > 10000))
 (Q (.bool true) h9)
 (((some [.int .i64 n1, .int .i64 n2, .int .i64 n3, .sl q4] : Option (List AV)) = some [.int .i64 n1, .int .i64 n2, .int .i64 n3, .sl q4] ∧ True) ∧ I7 [.int .i64 (wrapK .i64 (n5 + (s11.length : Int))), .int .i64 (wrapK .i64 (n6 + 1))] h9 ∧ m8 [.int .i64 (wrapK .i64 (n5 + (s11.length : Int))), .int .i64 (wrapK .i64 (n6 + 1))] h9 < m8 [.int .i64 n5, .int .i64 n6] h9))
 (Q (.bool (decide ((slLen q4 : Int) > 300))) h9))
 (Q (.bool (decide ((slLen q4 : Int) > 300))) h9)
theorem ac12 {n1 : Int} {n2 : Int} {n3 : Int} {q4 : Option SL} {h : Heap} {Q : AV → Heap → Prop} (hk : vc12 n1 n2 n3 q4 h Q) : AC Try.prog 12 [.agg [.int .i64 n1, .int .i64 n2, .int .i64 n3, .sl q4]] h Q :=
 AC_by (H := hintsOf [1] [(0, [3, 4], [])]) (by kernel_rfl) (by kernel_rfl) hk

/-- oxbowlaw14.EditNobody: what it asks. -/
def vc7 (n1 : Int) (n2 : Int) (n3 : Int) (q4 : Option SL) (n5 : Int) (h : Heap) (Q : AV → Heap → Prop) : Prop :=
 AC Try.prog 12 [.agg [.int .i64 n1, .int .i64 n2, .int .i64 n3, .sl q4]] h fun v6 h7 => ∃ b8 : Bool, v6 = .bool b8 ∧
 vif b8
 (AC Try.prog 13 [] h7 fun v9 h10 => ∃ b11 : Bool, v9 = .bool b11 ∧
 Q (.bool b11) h10)
 (AC Try.prog 27 [.ptr none] h7 fun v12 h13 => ∃ n14 : Int, ∃ n15 : Int, ∃ n16 : Int, ∃ q17 : Option SL, ∃ b18 : Bool, v12 = .tup [.agg [.int .i64 n14, .int .i64 n15, .int .i64 n16, .sl q17], .bool b18] ∧
 AC Try.prog 30 [.ptr none, .int .i64 n5] h13 fun v19 h20 => ∃ n21 : Int, ∃ n22 : Int, ∃ n23 : Int, ∃ q24 : Option SL, ∃ b25 : Bool, v19 = .tup [.agg [.int .i64 n21, .int .i64 n22, .int .i64 n23, .sl q24], .bool b25] ∧
 AC Try.prog 13 [] h20 fun v26 h27 => ∃ b28 : Bool, v26 = .bool b28 ∧
 vif b28
 (AC Try.prog 23 [.ptr none, .agg [.int .i64 n1, .int .i64 n2, .int .i64 n3, .sl q4]] h27 fun v29 h30 => ∃ n31 : Int, v29 = .int .i64 n31 ∧
 vif (n31 == 6)
 (AC Try.prog 29 [.ptr none] h30 fun v32 h33 => ∃ n34 : Int, v32 = .int .i64 n34 ∧
 vif (n34 == 0)
 (vif (!b18)
 (vif (!b25)
 (AC Try.prog 26 [.ptr none] h33 fun v35 h36 => ∃ q37 : Option SL, v35 = .sl q37 ∧
 vif ((slLen q37 : Int) == 0)
 (AC Try.prog 31 [.ptr none] h36 fun v38 h39 => ∃ q40 : Option SL, v38 = .sl q40 ∧
 Q (.bool ((slLen q40 : Int) == 0)) h39)
 (Q (.bool false) h36))
 (Q (.bool false) h33))
 (Q (.bool false) h33))
 (Q (.bool false) h33))
 (Q (.bool false) h30))
 (Q (.bool false) h27))
theorem ac7 {n1 : Int} {n2 : Int} {n3 : Int} {q4 : Option SL} {n5 : Int} {h : Heap} {Q : AV → Heap → Prop} (hk : vc7 n1 n2 n3 q4 n5 h Q) : AC Try.prog 7 [.agg [.int .i64 n1, .int .i64 n2, .int .i64 n3, .sl q4], .int .i64 n5] h Q :=
 AC_by (H := hintsOf [2, 6, 8] []) (by kernel_rfl) (by kernel_rfl) hk

/-- edit.State).Done: what it asks. -/
def vc30 (p1 : Option PA) (n2 : Int) (h : Heap) (Q : AV → Heap → Prop) : Prop :=
 vif (decide (n2 < 0))
 (Q (.tup [.agg [.int .i64 0, .int .i64 0, .int .i64 0, .sl none], .bool false]) h)
 (AC Try.prog 29 [.ptr p1] h fun v3 h4 => ∃ n5 : Int, v3 = .int .i64 n5 ∧
 vif (decide (n2 ≥ n5))
 (Q (.tup [.agg [.int .i64 0, .int .i64 0, .int .i64 0, .sl none], .bool false]) h4)
 (vPtr p1 fun p6 =>
 ∃ q7 : Option SL, cellsAt h4 ⟨p6.b, p6.o + 0⟩ 1 = some [.sl q7] ∧
 vIdx q7 n2 4 fun p8 =>
 ∃ n9 : Int, ∃ n10 : Int, ∃ n11 : Int, ∃ q12 : Option SL, cellsAt h4 p8 4 = some [.int .i64 n9, .int .i64 n10, .int .i64 n11, .sl q12] ∧
 AC Try.prog 80 [.agg [.int .i64 n9, .int .i64 n10, .int .i64 n11, .sl q12]] h4 fun v13 h14 => ∃ n15 : Int, ∃ n16 : Int, ∃ n17 : Int, ∃ q18 : Option SL, v13 = .agg [.int .i64 n15, .int .i64 n16, .int .i64 n17, .sl q18] ∧
 Q (.tup [.agg [.int .i64 n15, .int .i64 n16, .int .i64 n17, .sl q18], .bool true]) h14))
theorem ac30 {p1 : Option PA} {n2 : Int} {h : Heap} {Q : AV → Heap → Prop} (hk : vc30 p1 n2 h Q) : AC Try.prog 30 [.ptr p1, .int .i64 n2] h Q :=
 AC_by (H := hintsOf [4] []) (by kernel_rfl) (by kernel_rfl) hk

/-- edit.State).Apply: what it asks. -/
def vc23 (p1 : Option PA) (n2 : Int) (n3 : Int) (n4 : Int) (q5 : Option SL) (h : Heap) (Q : AV → Heap → Prop) : Prop :=
 vif (p1.isNone)
 (Q (.int .i64 6) h)
 (AC Try.prog 18 [.agg [.int .i64 n2, .int .i64 n3, .int .i64 n4, .sl q5]] h fun v6 h7 => ∃ n8 : Int, v6 = .int .i64 n8 ∧
 vif (n8 != 0)
 (Q (.int .i64 n8) h7)
 (AC Try.prog 79 [.ptr p1, .agg [.int .i64 n2, .int .i64 n3, .int .i64 n4, .sl q5]] h7 fun v9 h10 => ∃ b11 : Bool, v9 = .bool b11 ∧
 vif (!b11)
 (Q (.int .i64 1) h10)
 (vPtr p1 fun p12 =>
 PStore h10 ⟨p12.b, p12.o + 1⟩ [.int .i64 0, .int .i64 0, .int .i64 0, .sl none] fun h13 =>
 vPtr p1 fun p14 =>
 PStore h13 ⟨p14.b, p14.o + 5⟩ [.bool false] fun h15 =>
 vif (n2 == 2)
 (vPtr p1 fun p16 =>
 ∃ q17 : Option SL, cellsAt h15 ⟨p16.b, p16.o + 0⟩ 1 = some [.sl q17] ∧
 AC Try.prog 80 [.agg [.int .i64 n2, .int .i64 n3, .int .i64 n4, .sl q5]] h15 fun v18 h19 => ∃ n20 : Int, ∃ n21 : Int, ∃ n22 : Int, ∃ q23 : Option SL, v18 = .agg [.int .i64 n20, .int .i64 n21, .int .i64 n22, .sl q23] ∧
 (∃ q31 : Option SL, cellsAt h19 ⟨p16.b, p16.o + 0⟩ 1 = some [.sl q31] ∧
 LV.val (.sl q31) = LV.val (.sl q17)) ∧
 PNew [.int .i64 n20, .int .i64 n21, .int .i64 n22, .sl q23] true h19 fun a24 h25 =>
 (∃ q30 : Option SL, cellsAt h25 ⟨p16.b, p16.o + 0⟩ 1 = some [.sl q30] ∧
 LV.val (.sl q30) = LV.val (.sl q17)) ∧
 PAppendS 4 48 q17 (some ⟨a24, 0, 1, 1, 0⟩) h25 fun q26 h27 =>
 vPtr p1 fun p28 =>
 PStore h27 ⟨p28.b, p28.o + 0⟩ [.sl q26] fun h29 =>
 Q (.int .i64 0) h29)
 (AC Try.prog 80 [.agg [.int .i64 n2, .int .i64 n3, .int .i64 n4, .sl q5]] h15 fun v32 h33 => ∃ n34 : Int, ∃ n35 : Int, ∃ n36 : Int, ∃ q37 : Option SL, v32 = .agg [.int .i64 n34, .int .i64 n35, .int .i64 n36, .sl q37] ∧
 vPtr p1 fun p38 =>
 PStore h33 ⟨p38.b, p38.o + 1⟩ [.int .i64 n34, .int .i64 n35, .int .i64 n36, .sl q37] fun h39 =>
 vPtr p1 fun p40 =>
 PStore h39 ⟨p40.b, p40.o + 5⟩ [.bool true] fun h41 =>
 Q (.int .i64 0) h41))))
theorem ac23 {p1 : Option PA} {n2 : Int} {n3 : Int} {n4 : Int} {q5 : Option SL} {h : Heap} {Q : AV → Heap → Prop} (hk : vc23 p1 n2 n3 n4 q5 h Q) : AC Try.prog 23 [.ptr p1, .agg [.int .i64 n2, .int .i64 n3, .int .i64 n4, .sl q5]] h Q :=
 AC_by (H := hintsOf [3] []) (by kernel_rfl) (by kernel_rfl) hk

/-- edit.State).Next: what it asks. -/
def vc29 (p1 : Option PA) (h : Heap) (Q : AV → Heap → Prop) : Prop :=
 vif (p1.isNone)
 (Q (.int .i64 0) h)
 (vPtr p1 fun p2 =>
 ∃ q3 : Option SL, cellsAt h ⟨p2.b, p2.o + 0⟩ 1 = some [.sl q3] ∧
 Q (.int .i64 (slLen q3 : Int)) h)
theorem ac29 {p1 : Option PA} {h : Heap} {Q : AV → Heap → Prop} (hk : vc29 p1 h Q) : AC Try.prog 29 [.ptr p1] h Q :=
 AC_by (H := hintsOf [] []) (by kernel_rfl) (by kernel_rfl) hk

end Go.Proofs
