/- Conditions, printed. -/
import Derived.Test.YtceplmmmlindnaaEG7
import Derived.Test.YtceplmmmlindnaaProg
import Derived.KernelRfl
namespace Go.Proofs
open Go.Ab
set_option maxRecDepth 100000
set_option linter.unusedVariables false

/-- num.width: what it asks. -/
def vc131 (n1 : Int) (h : Heap) (Q : AV → Heap → Prop) : Prop :=
 ∃ (I4 : List AV → Heap → Prop) (m5 : List AV → Heap → Nat), I4 [.int .i64 (shrK .i64 n1 8), .int .i64 1] h ∧
 ∀ n2 : Int, ∀ n3 : Int, ∀ h6 : Heap, I4 [.int .i64 n2, .int .i64 n3] h6 →
 vif (decide (n2 > 0))
 ((True) ∧ I4 [.int .i64 (shrK .i64 n2 8), .int .i64 (wrapK .i64 (n3 + 1))] h6 ∧ m5 [.int .i64 (shrK .i64 n2 8), .int .i64 (wrapK .i64 (n3 + 1))] h6 < m5 [.int .i64 n2, .int .i64 n3] h6)
 (Q (.int .i64 n3) h6)
theorem ac131 {n1 : Int} {h : Heap} {Q : AV → Heap → Prop} (hk : vc131 n1 h Q) : AC Try.prog 131 [.int .i64 n1] h Q :=
 AC_by (H := hintsOf [] [(0, [0, 3], [])]) (by kernel_rfl) (by kernel_rfl) hk

/-- num.digits: what it asks. -/
def vc132 (n1 : Int) (n2 : Int) (h : Heap) (Q : AV → Heap → Prop) : Prop :=
 PMake [.int .u8 0] 1 n2 n2 h fun q3 h4 =>
 ∃ (I6 : List AV → Heap → Prop) (m7 : List AV → Heap → Nat), I6 [.int .i64 0] h4 ∧
 ∀ n5 : Int, ∀ h8 : Heap, I6 [.int .i64 n5] h8 →
 vif (decide (n5 < (slLen q3 : Int)))
 (need (decide (0 ≤ (wrapK .i64 (8 * (wrapK .i64 ((wrapK .i64 (n2 - 1)) - n5))))))
 (vIdx q3 n5 1 fun p9 =>
 PStore h8 p9 [.int .u8 (wrapK .u8 (shrK .i64 n1 (wrapK .i64 (8 * (wrapK .i64 ((wrapK .i64 (n2 - 1)) - n5))))))] fun h10 =>
 (True) ∧ I6 [.int .i64 (wrapK .i64 (n5 + 1))] h10 ∧ m7 [.int .i64 (wrapK .i64 (n5 + 1))] h10 < m7 [.int .i64 n5] h8))
 (Q (.sl q3) h8)
theorem ac132 {n1 : Int} {n2 : Int} {h : Heap} {Q : AV → Heap → Prop} (hk : vc132 n1 n2 h Q) : AC Try.prog 132 [.int .i64 n1, .int .i64 n2] h Q :=
 AC_by (H := hintsOf [] [(0, [11], [])]) (by kernel_rfl) (by kernel_rfl) hk

/-- num.Put: what it asks. -/
def vc107 (n1 : Int) (h : Heap) (Q : AV → Heap → Prop) : Prop :=
 vif (decide (n1 < 0))
 (Q (.tup [.sl none, .int .i64 1]) h)
 (vif (decide (n1 < 240))
 (PNew [.int .u8 (wrapK .u8 n1)] true h fun a2 h3 =>
 Q (.tup [.sl (some ⟨a2, 0, 1, 1, 0⟩), .int .i64 0]) h3)
 (vif (decide (n1 < 2288))
 (PNew [.int .u8 (wrapK .u8 (wrapK .i64 (240 + (shrK .i64 (wrapK .i64 (n1 - 240)) 8)))), .int .u8 (wrapK .u8 (wrapK .i64 (n1 - 240)))] true h fun a4 h5 =>
 Q (.tup [.sl (some ⟨a4, 0, 2, 2, 0⟩), .int .i64 0]) h5)
 (AC Try.prog 131 [.int .i64 n1] h fun v6 h7 => ∃ n8 : Int, v6 = .int .i64 n8 ∧
 PNew [.int .u8 (wrapK .u8 (wrapK .i64 (246 + n8)))] true h7 fun a9 h10 =>
 AC Try.prog 132 [.int .i64 n1, .int .i64 n8] h10 fun v11 h12 => ∃ q13 : Option SL, v11 = .sl q13 ∧
 PAppendS 1 1 (some ⟨a9, 0, 1, 1, 0⟩) q13 h12 fun q14 h15 =>
 Q (.tup [.sl q14, .int .i64 0]) h15)))
theorem ac107 {n1 : Int} {h : Heap} {Q : AV → Heap → Prop} (hk : vc107 n1 h Q) : AC Try.prog 107 [.int .i64 n1] h Q :=
 AC_by (H := hintsOf [] []) (by kernel_rfl) (by kernel_rfl) hk

/-- num.Text: what it asks. -/
def vc62 (s1 : List UInt8) (h : Heap) (Q : AV → Heap → Prop) : Prop :=
 AC Try.prog 107 [.int .i64 (s1.length : Int)] h fun v2 h3 => ∃ q4 : Option SL, ∃ n5 : Int, v2 = .tup [.sl q4, .int .i64 n5] ∧
 PAppend 1 1 q4 s1.length (byteAVs s1) h3 fun q6 h7 =>
 Q (.sl q6) h7
theorem ac62 {s1 : List UInt8} {h : Heap} {Q : AV → Heap → Prop} (hk : vc62 s1 h Q) : AC Try.prog 62 [.str s1] h Q :=
 AC_by (H := hintsOf [] []) (by kernel_rfl) (by kernel_rfl) hk

/-- edit.numbers: what it asks. -/
def vc60 (q1 : Option SL) (h : Heap) (Q : AV → Heap → Prop) : Prop :=
 ∃ (I4 : List AV → Heap → Prop) (m5 : List AV → Heap → Nat), I4 [.sl none, .int .i64 0] h ∧
 ∀ q2 : Option SL, ∀ n3 : Int, ∀ h6 : Heap, I4 [.sl q2, .int .i64 n3] h6 →
 vif (decide (n3 < (slLen q1 : Int)))
 (vIdx q1 n3 1 fun p7 =>
 ∃ n8 : Int, cellsAt h6 p7 1 = some [.int .i64 n8] ∧
 AC Try.prog 107 [.int .i64 n8] h6 fun v9 h10 => ∃ q11 : Option SL, ∃ n12 : Int, v9 = .tup [.sl q11, .int .i64 n12] ∧
 PAppendS 1 1 q2 q11 h10 fun q13 h14 =>
 (True) ∧ I4 [.sl q13, .int .i64 (wrapK .i64 (n3 + 1))] h14 ∧ m5 [.sl q13, .int .i64 (wrapK .i64 (n3 + 1))] h14 < m5 [.sl q2, .int .i64 n3] h6)
 (Q (.sl q2) h6)
theorem ac60 {q1 : Option SL} {h : Heap} {Q : AV → Heap → Prop} (hk : vc60 q1 h Q) : AC Try.prog 60 [.sl q1] h Q :=
 AC_by (H := hintsOf [] [(0, [3, 10], [])]) (by kernel_rfl) (by kernel_rfl) hk

/-- slices.Grow[[]byte,byte]: what it asks. -/
def vc108 (n1 : Int) (h : Heap) (Q : AV → Heap → Prop) : Prop :=
 vif (decide (n1 < 0))
 (False)
 (vif (decide ((wrapK .i64 (n1 - 0)) > 0))
 (PSlice 1 none 0 (some 0) none fun q2 =>
 0 ≤ (wrapK .i64 (n1 - 0)) ∧ (wrapK .i64 (n1 - 0)) ≤ maxI ∧ (wrapK .i64 (n1 - 0)) * 1 ≤ 140737488355328 ∧ PAppend 1 1 q2 (wrapK .i64 (n1 - 0)).toNat (List.replicate (wrapK .i64 (n1 - 0)).toNat [.int .u8 0]).flatten h fun q3 h4 =>
 PSlice 1 q3 0 (some 0) none fun q5 =>
 Q (.sl q5) h4)
 (Q (.sl none) h))
theorem ac108 {n1 : Int} {h : Heap} {Q : AV → Heap → Prop} (hk : vc108 n1 h Q) : AC Try.prog 108 [.sl none, .int .i64 n1] h Q :=
 AC_by (H := hintsOf [] []) (by kernel_rfl) (by kernel_rfl) hk

/-- slices.Concat[[]byte,byte]: what it asks. -/
def vc61 (q1 : Option SL) (h : Heap) (Q : AV → Heap → Prop) : Prop :=
 ∃ (I4 : List AV → Heap → Prop) (m5 : List AV → Heap → Nat), I4 [.int .i64 0, .int .i64 0] h ∧
 ∀ n2 : Int, ∀ n3 : Int, ∀ h6 : Heap, I4 [.int .i64 n2, .int .i64 n3] h6 →
 vif (decide (n3 < (slLen q1 : Int)))
 (vIdx q1 n3 1 fun p7 =>
 ∃ q8 : Option SL, cellsAt h6 p7 1 = some [.sl q8] ∧
 vif (decide ((wrapK .i64 (n2 + (slLen q8 : Int))) < 0))
 (False)
 ((True) ∧ I4 [.int .i64 (wrapK .i64 (n2 + (slLen q8 : Int))), .int .i64 (wrapK .i64 (n3 + 1))] h6 ∧ m5 [.int .i64 (wrapK .i64 (n2 + (slLen q8 : Int))), .int .i64 (wrapK .i64 (n3 + 1))] h6 < m5 [.int .i64 n2, .int .i64 n3] h6))
 (AC Try.prog 108 [.sl none, .int .i64 n2] h6 fun v9 h10 => ∃ q11 : Option SL, v9 = .sl q11 ∧
 ∃ (I14 : List AV → Heap → Prop) (m15 : List AV → Heap → Nat), I14 [.sl q11, .int .i64 0] h10 ∧
 ∀ q12 : Option SL, ∀ n13 : Int, ∀ h16 : Heap, I14 [.sl q12, .int .i64 n13] h16 →
 vif (decide (n13 < (slLen q1 : Int)))
 (vIdx q1 n13 1 fun p17 =>
 ∃ q18 : Option SL, cellsAt h16 p17 1 = some [.sl q18] ∧
 PAppendS 1 1 q12 q18 h16 fun q19 h20 =>
 (True) ∧ I14 [.sl q19, .int .i64 (wrapK .i64 (n13 + 1))] h20 ∧ m15 [.sl q19, .int .i64 (wrapK .i64 (n13 + 1))] h20 < m15 [.sl q12, .int .i64 n13] h16)
 (Q (.sl q12) h16))
theorem ac61 {q1 : Option SL} {h : Heap} {Q : AV → Heap → Prop} (hk : vc61 q1 h Q) : AC Try.prog 61 [.sl q1] h Q :=
 AC_by (H := hintsOf [] [(0, [3, 11], []), (2, [6, 27], [])]) (by kernel_rfl) (by kernel_rfl) hk

/-- slices.Clone[[]byte,byte]: what it asks. -/
def vc94 (q1 : Option SL) (h : Heap) (Q : AV → Heap → Prop) : Prop :=
 vif (q1.isNone)
 (Q (.sl none) h)
 (PNew [] true h fun a2 h3 =>
 PAppendS 1 1 (some ⟨a2, 0, 0, 0, 0⟩) q1 h3 fun q4 h5 =>
 Q (.sl q4) h5)
theorem ac94 {q1 : Option SL} {h : Heap} {Q : AV → Heap → Prop} (hk : vc94 q1 h Q) : AC Try.prog 94 [.sl q1] h Q :=
 AC_by (H := hintsOf [] []) (by kernel_rfl) (by kernel_rfl) hk

/-- edit.Put: what it asks. -/
def vc14 (n1 : Int) (n2 : Int) (n3 : Int) (q4 : Option SL) (h : Heap) (Q : AV → Heap → Prop) : Prop :=
 AC Try.prog 18 [.agg [.int .i64 n1, .int .i64 n2, .int .i64 n3, .sl q4]] h fun v5 h6 => ∃ n7 : Int, v5 = .int .i64 n7 ∧
 vif (n7 != 0)
 (Q (.tup [.sl none, .int .i64 n7]) h6)
 (PNew [.int .i64 n1, .int .i64 n2, .int .i64 n3, .int .i64 (slLen q4 : Int)] true h6 fun a8 h9 =>
 AC Try.prog 60 [.sl (some ⟨a8, 0, 4, 4, 0⟩)] h9 fun v10 h11 => ∃ q12 : Option SL, v10 = .sl q12 ∧
 ∃ (I15 : List AV → Heap → Prop) (m16 : List AV → Heap → Nat), I15 [.sl q12, .int .i64 0] h11 ∧
 ∀ q13 : Option SL, ∀ n14 : Int, ∀ h17 : Heap, I15 [.sl q13, .int .i64 n14] h17 →
 vif (decide (n14 < (slLen q4 : Int)))
 (vIdx q4 n14 3 fun p18 =>
 ∃ s19 : List UInt8, ∃ n20 : Int, ∃ n21 : Int, cellsAt h17 p18 3 = some [.str s19, .int .i64 n20, .int .i64 n21] ∧
 (AC Try.prog 62 [.str s19] h17 fun v22 h23 => ∃ q24 : Option SL, v22 = .sl q24 ∧
 (LV.val (.int .i64 n21) = LV.val (.int .i64 n21)) ∧
 (LV.val (.int .i64 n20) = LV.val (.int .i64 n20)) ∧
 PNew [.int .i64 n20, .int .i64 n21] true h23 fun a25 h26 =>
 (LV.val (.str s19) = LV.val (.str s19)) ∧
 AC Try.prog 60 [.sl (some ⟨a25, 0, 2, 2, 0⟩)] h26 fun v27 h28 => ∃ q29 : Option SL, v27 = .sl q29 ∧
 PNew [.sl q13, .sl q24, .sl q29] true h28 fun a30 h31 =>
 AC Try.prog 61 [.sl (some ⟨a30, 0, 3, 3, 0⟩)] h31 fun v32 h33 => ∃ q34 : Option SL, v32 = .sl q34 ∧
 ((some [.int .i64 n1, .int .i64 n2, .int .i64 n3, .sl q4] : Option (List AV)) = some [.int .i64 n1, .int .i64 n2, .int .i64 n3, .sl q4] ∧ True) ∧ I15 [.sl q34, .int .i64 (wrapK .i64 (n14 + 1))] h33 ∧ m16 [.sl q34, .int .i64 (wrapK .i64 (n14 + 1))] h33 < m16 [.sl q13, .int .i64 n14] h17) ∧
 (PNew [.int .i64 n20, .int .i64 n21] true h17 fun a35 h36 =>
 (LV.val (.str s19) = LV.val (.str s19)) ∧
 AC Try.prog 62 [.str s19] h36 fun v37 h38 => ∃ q39 : Option SL, v37 = .sl q39 ∧
 (LV.val (.int .i64 n21) = LV.val (.int .i64 n21)) ∧
 (LV.val (.int .i64 n20) = LV.val (.int .i64 n20)) ∧
 AC Try.prog 60 [.sl (some ⟨a35, 0, 2, 2, 0⟩)] h38 fun v40 h41 => ∃ q42 : Option SL, v40 = .sl q42 ∧
 PNew [.sl q13, .sl q39, .sl q42] true h41 fun a43 h44 =>
 AC Try.prog 61 [.sl (some ⟨a43, 0, 3, 3, 0⟩)] h44 fun v45 h46 => ∃ q47 : Option SL, v45 = .sl q47 ∧
 ((some [.int .i64 n1, .int .i64 n2, .int .i64 n3, .sl q4] : Option (List AV)) = some [.int .i64 n1, .int .i64 n2, .int .i64 n3, .sl q4] ∧ True) ∧ I15 [.sl q47, .int .i64 (wrapK .i64 (n14 + 1))] h46 ∧ m16 [.sl q47, .int .i64 (wrapK .i64 (n14 + 1))] h46 < m16 [.sl q13, .int .i64 n14] h17))
 (Q (.tup [.sl q13, .int .i64 0]) h17))
theorem ac14 {n1 : Int} {n2 : Int} {n3 : Int} {q4 : Option SL} {h : Heap} {Q : AV → Heap → Prop} (hk : vc14 n1 n2 n3 q4 h Q) : AC Try.prog 14 [.agg [.int .i64 n1, .int .i64 n2, .int .i64 n3, .sl q4]] h Q :=
 AC_by (H := hintsOf [1, 7] [(0, [5, 29], [])]) (by kernel_rfl) (by kernel_rfl) hk

/-- num.From: what it asks. -/
def vc69 (q1 : Option SL) (h : Heap) (Q : AV → Heap → Prop) : Prop :=
 AC Try.prog 94 [.sl q1] h fun v2 h3 => ∃ q4 : Option SL, v2 = .sl q4 ∧
 PNew [.sl q4, .bool false] true h3 fun a5 h6 =>
 Q (.ptr (some ⟨a5, 0⟩)) h6
theorem ac69 {q1 : Option SL} {h : Heap} {Q : AV → Heap → Prop} (hk : vc69 q1 h Q) : AC Try.prog 69 [.sl q1] h Q :=
 AC_by (H := hintsOf [] []) (by kernel_rfl) (by kernel_rfl) hk

/-- num.Reader).Bad: what it asks. -/
def vc71 (p1 : Option PA) (h : Heap) (Q : AV → Heap → Prop) : Prop :=
 vif (p1.isNone)
 (Q (.bool true) h)
 (vPtr p1 fun p2 =>
 ∃ b3 : Bool, cellsAt h ⟨p2.b, p2.o + 1⟩ 1 = some [.bool b3] ∧
 Q (.bool b3) h)
theorem ac71 {p1 : Option PA} {h : Heap} {Q : AV → Heap → Prop} (hk : vc71 p1 h Q) : AC Try.prog 71 [.ptr p1] h Q :=
 AC_by (H := hintsOf [] []) (by kernel_rfl) (by kernel_rfl) hk

/-- num.Reader).fail: what it asks. -/
def vc113 (p1 : Option PA) (h : Heap) (Q : AV → Heap → Prop) : Prop :=
 vif (!(p1.isNone))
 (vPtr p1 fun p2 =>
 PStore h ⟨p2.b, p2.o + 1⟩ [.bool true] fun h3 =>
 Q (.int .i64 0) h3)
 (Q (.int .i64 0) h)
theorem ac113 {p1 : Option PA} {h : Heap} {Q : AV → Heap → Prop} (hk : vc113 p1 h Q) : AC Try.prog 113 [.ptr p1] h Q :=
 AC_by (H := hintsOf [] []) (by kernel_rfl) (by kernel_rfl) hk

/-- num.Reader).Bytes: what it asks. -/
def vc114 (p1 : Option PA) (n2 : Int) (h : Heap) (Q : AV → Heap → Prop) : Prop :=
 AC Try.prog 71 [.ptr p1] h fun v3 h4 => ∃ b5 : Bool, v3 = .bool b5 ∧
 vif b5
 (AC Try.prog 113 [.ptr p1] h4 fun v6 h7 => ∃ n8 : Int, v6 = .int .i64 n8 ∧
 Q (.sl none) h7)
 (vif (decide (n2 < 0))
 (AC Try.prog 113 [.ptr p1] h4 fun v9 h10 => ∃ n11 : Int, v9 = .int .i64 n11 ∧
 Q (.sl none) h10)
 (vPtr p1 fun p12 =>
 ∃ q13 : Option SL, cellsAt h4 ⟨p12.b, p12.o + 0⟩ 1 = some [.sl q13] ∧
 vif (decide (n2 > (slLen q13 : Int)))
 (AC Try.prog 113 [.ptr p1] h4 fun v14 h15 => ∃ n16 : Int, v14 = .int .i64 n16 ∧
 Q (.sl none) h15)
 (vPtr p1 fun p17 =>
 ∃ q18 : Option SL, cellsAt h4 ⟨p17.b, p17.o + 0⟩ 1 = some [.sl q18] ∧
 PSlice 1 q18 0 (some n2) none fun q19 =>
 AC Try.prog 94 [.sl q19] h4 fun v20 h21 => ∃ q22 : Option SL, v20 = .sl q22 ∧
 vPtr p1 fun p23 =>
 ∃ q24 : Option SL, cellsAt h21 ⟨p23.b, p23.o + 0⟩ 1 = some [.sl q24] ∧
 PSlice 1 q24 n2 none none fun q25 =>
 vPtr p1 fun p26 =>
 PStore h21 ⟨p26.b, p26.o + 0⟩ [.sl q25] fun h27 =>
 Q (.sl q22) h27)))
theorem ac114 {p1 : Option PA} {n2 : Int} {h : Heap} {Q : AV → Heap → Prop} (hk : vc114 p1 n2 h Q) : AC Try.prog 114 [.ptr p1, .int .i64 n2] h Q :=
 AC_by (H := hintsOf [] []) (by kernel_rfl) (by kernel_rfl) hk

/-- num.Reader).Fixed: what it asks. -/
def vc110 (p1 : Option PA) (n2 : Int) (h : Heap) (Q : AV → Heap → Prop) : Prop :=
 vif (decide (n2 < 1))
 (AC Try.prog 113 [.ptr p1] h fun v3 h4 => ∃ n5 : Int, v3 = .int .i64 n5 ∧
 Q (.int .i64 n5) h4)
 (vif (decide (n2 > 8))
 (AC Try.prog 113 [.ptr p1] h fun v6 h7 => ∃ n8 : Int, v6 = .int .i64 n8 ∧
 Q (.int .i64 n8) h7)
 (AC Try.prog 114 [.ptr p1, .int .i64 n2] h fun v9 h10 => ∃ q11 : Option SL, v9 = .sl q11 ∧
 ∃ (I14 : List AV → Heap → Prop) (m15 : List AV → Heap → Nat), I14 [.int .u64 0, .int .i64 0] h10 ∧
 ∀ n12 : Int, ∀ n13 : Int, ∀ h16 : Heap, I14 [.int .u64 n12, .int .i64 n13] h16 →
 vif (decide (n13 < (slLen q11 : Int)))
 (vIdx q11 n13 1 fun p17 =>
 ∃ n18 : Int, cellsAt h16 p17 1 = some [.int .u8 n18] ∧
 (True) ∧ I14 [.int .u64 (bitsOr .u64 (shlK .u64 n12 8) (wrapK .u64 n18)), .int .i64 (wrapK .i64 (n13 + 1))] h16 ∧ m15 [.int .u64 (bitsOr .u64 (shlK .u64 n12 8) (wrapK .u64 n18)), .int .i64 (wrapK .i64 (n13 + 1))] h16 < m15 [.int .u64 n12, .int .i64 n13] h16)
 (AC Try.prog 71 [.ptr p1] h16 fun v19 h20 => ∃ b21 : Bool, v19 = .bool b21 ∧
 vif b21
 (AC Try.prog 113 [.ptr p1] h20 fun v22 h23 => ∃ n24 : Int, v22 = .int .i64 n24 ∧
 Q (.int .i64 n24) h23)
 (vif (decide (n12 > 9223372036854775807))
 (AC Try.prog 113 [.ptr p1] h20 fun v25 h26 => ∃ n27 : Int, v25 = .int .i64 n27 ∧
 Q (.int .i64 n27) h26)
 (Q (.int .i64 (wrapK .i64 n12)) h20)))))
theorem ac110 {p1 : Option PA} {n2 : Int} {h : Heap} {Q : AV → Heap → Prop} (hk : vc110 p1 n2 h Q) : AC Try.prog 110 [.ptr p1, .int .i64 n2] h Q :=
 AC_by (H := hintsOf [] [(0, [5, 20], [])]) (by kernel_rfl) (by kernel_rfl) hk

/-- num.Reader).must: what it asks. -/
def vc111 (p1 : Option PA) (n2 : Int) (b3 : Bool) (h : Heap) (Q : AV → Heap → Prop) : Prop :=
 AC Try.prog 71 [.ptr p1] h fun v4 h5 => ∃ b6 : Bool, v4 = .bool b6 ∧
 vif b6
 (AC Try.prog 113 [.ptr p1] h5 fun v7 h8 => ∃ n9 : Int, v7 = .int .i64 n9 ∧
 Q (.int .i64 n9) h8)
 (vif (!b3)
 (AC Try.prog 113 [.ptr p1] h5 fun v10 h11 => ∃ n12 : Int, v10 = .int .i64 n12 ∧
 Q (.int .i64 n12) h11)
 (Q (.int .i64 n2) h5))
theorem ac111 {p1 : Option PA} {n2 : Int} {b3 : Bool} {h : Heap} {Q : AV → Heap → Prop} (hk : vc111 p1 n2 b3 h Q) : AC Try.prog 111 [.ptr p1, .int .i64 n2, .bool b3] h Q :=
 AC_by (H := hintsOf [] []) (by kernel_rfl) (by kernel_rfl) hk

/-- num.Size: what it asks. -/
def vc112 (n1 : Int) (h : Heap) (Q : AV → Heap → Prop) : Prop :=
 vif (decide (n1 < 0))
 (Q (.int .i64 0) h)
 (vif (decide (n1 < 240))
 (Q (.int .i64 1) h)
 (vif (decide (n1 < 2288))
 (Q (.int .i64 2) h)
 (AC Try.prog 131 [.int .i64 n1] h fun v2 h3 => ∃ n4 : Int, v2 = .int .i64 n4 ∧
 Q (.int .i64 (wrapK .i64 (1 + n4))) h3)))
theorem ac112 {n1 : Int} {h : Heap} {Q : AV → Heap → Prop} (hk : vc112 n1 h Q) : AC Try.prog 112 [.int .i64 n1] h Q :=
 AC_by (H := hintsOf [] []) (by kernel_rfl) (by kernel_rfl) hk

/-- num.Reader).Num: what it asks. -/
def vc70 (p1 : Option PA) (h : Heap) (Q : AV → Heap → Prop) : Prop :=
 AC Try.prog 110 [.ptr p1, .int .i64 1] h fun v2 h3 => ∃ n4 : Int, v2 = .int .i64 n4 ∧
 vif (decide (n4 < 240))
 (Q (.int .i64 n4) h3)
 (vif (decide (n4 < 248))
 (AC Try.prog 110 [.ptr p1, .int .i64 1] h3 fun v5 h6 => ∃ n7 : Int, v5 = .int .i64 n7 ∧
 AC Try.prog 111 [.ptr p1, .int .i64 (wrapK .i64 ((wrapK .i64 (240 + (shlK .i64 (wrapK .i64 (n4 - 240)) 8))) + n7)), .bool true] h6 fun v8 h9 => ∃ n10 : Int, v8 = .int .i64 n10 ∧
 Q (.int .i64 n10) h9)
 (vif (decide (n4 ≤ 254))
 (AC Try.prog 110 [.ptr p1, .int .i64 (wrapK .i64 (n4 - 246))] h3 fun v11 h12 => ∃ n13 : Int, v11 = .int .i64 n13 ∧
 vif (decide (n13 ≥ 2288))
 (AC Try.prog 112 [.int .i64 n13] h12 fun v14 h15 => ∃ n16 : Int, v14 = .int .i64 n16 ∧
 AC Try.prog 111 [.ptr p1, .int .i64 n13, .bool (n16 == (wrapK .i64 ((wrapK .i64 (n4 - 246)) + 1)))] h15 fun v17 h18 => ∃ n19 : Int, v17 = .int .i64 n19 ∧
 Q (.int .i64 n19) h18)
 (AC Try.prog 111 [.ptr p1, .int .i64 n13, .bool false] h12 fun v20 h21 => ∃ n22 : Int, v20 = .int .i64 n22 ∧
 Q (.int .i64 n22) h21))
 (AC Try.prog 113 [.ptr p1] h3 fun v23 h24 => ∃ n25 : Int, v23 = .int .i64 n25 ∧
 Q (.int .i64 n25) h24)))
theorem ac70 {p1 : Option PA} {h : Heap} {Q : AV → Heap → Prop} (hk : vc70 p1 h Q) : AC Try.prog 70 [.ptr p1] h Q :=
 AC_by (H := hintsOf [] []) (by kernel_rfl) (by kernel_rfl) hk

/-- num.Reader).Text: what it asks. -/
def vc72 (p1 : Option PA) (n2 : Int) (h : Heap) (Q : AV → Heap → Prop) : Prop :=
 AC Try.prog 70 [.ptr p1] h fun v3 h4 => ∃ n5 : Int, v3 = .int .i64 n5 ∧
 AC Try.prog 71 [.ptr p1] h4 fun v6 h7 => ∃ b8 : Bool, v6 = .bool b8 ∧
 vif b8
 (AC Try.prog 113 [.ptr p1] h7 fun v9 h10 => ∃ n11 : Int, v9 = .int .i64 n11 ∧
 Q (.str []) h10)
 (vif (decide (n5 > n2))
 (AC Try.prog 113 [.ptr p1] h7 fun v12 h13 => ∃ n14 : Int, v12 = .int .i64 n14 ∧
 Q (.str []) h13)
 (AC Try.prog 114 [.ptr p1, .int .i64 n5] h7 fun v15 h16 => ∃ q17 : Option SL, v15 = .sl q17 ∧
 PStr h16 q17 fun s18 =>
 Q (.str s18) h16))
theorem ac72 {p1 : Option PA} {n2 : Int} {h : Heap} {Q : AV → Heap → Prop} (hk : vc72 p1 n2 h Q) : AC Try.prog 72 [.ptr p1, .int .i64 n2] h Q :=
 AC_by (H := hintsOf [] []) (by kernel_rfl) (by kernel_rfl) hk

/-- num.Reader).Done: what it asks. -/
def vc73 (p1 : Option PA) (h : Heap) (Q : AV → Heap → Prop) : Prop :=
 AC Try.prog 71 [.ptr p1] h fun v2 h3 => ∃ b4 : Bool, v2 = .bool b4 ∧
 vif b4
 (Q (.int .i64 10) h3)
 (vPtr p1 fun p5 =>
 ∃ q6 : Option SL, cellsAt h3 ⟨p5.b, p5.o + 0⟩ 1 = some [.sl q6] ∧
 vif (decide ((slLen q6 : Int) > 0))
 (Q (.int .i64 10) h3)
 (Q (.int .i64 0) h3))
theorem ac73 {p1 : Option PA} {h : Heap} {Q : AV → Heap → Prop} (hk : vc73 p1 h Q) : AC Try.prog 73 [.ptr p1] h Q :=
 AC_by (H := hintsOf [] []) (by kernel_rfl) (by kernel_rfl) hk

/-- edit.Get: what it asks. -/
def vc19 (q1 : Option SL) (h : Heap) (Q : AV → Heap → Prop) : Prop :=
 AC Try.prog 69 [.sl q1] h fun v2 h3 => ∃ p4 : Option PA, v2 = .ptr p4 ∧
 AC Try.prog 70 [.ptr p4] h3 fun v5 h6 => ∃ n7 : Int, v5 = .int .i64 n7 ∧
 AC Try.prog 70 [.ptr p4] h6 fun v8 h9 => ∃ n10 : Int, v8 = .int .i64 n10 ∧
 AC Try.prog 70 [.ptr p4] h9 fun v11 h12 => ∃ n13 : Int, v11 = .int .i64 n13 ∧
 AC Try.prog 70 [.ptr p4] h12 fun v14 h15 => ∃ n16 : Int, v14 = .int .i64 n16 ∧
 AC Try.prog 71 [.ptr p4] h15 fun v17 h18 => ∃ b19 : Bool, v17 = .bool b19 ∧
 vif b19
 (Q (.tup [.agg [.int .i64 0, .int .i64 0, .int .i64 0, .sl none], .int .i64 140]) h18)
 (vif (decide (n16 > 256))
 (Q (.tup [.agg [.int .i64 0, .int .i64 0, .int .i64 0, .sl none], .int .i64 140]) h18)
 (∃ (I25 : List AV → Heap → Prop) (m26 : List AV → Heap → Nat), I25 [.int .i64 0, .int .i64 n7, .int .i64 n10, .int .i64 n13, .sl none] h18 ∧
 ∀ n20 : Int, ∀ n21 : Int, ∀ n22 : Int, ∀ n23 : Int, ∀ q24 : Option SL, ∀ h27 : Heap, I25 [.int .i64 n20, .int .i64 n21, .int .i64 n22, .int .i64 n23, .sl q24] h27 →
 vif (decide (n20 < n16))
 (AC Try.prog 72 [.ptr p4, .int .i64 24] h27 fun v28 h29 => ∃ s30 : List UInt8, v28 = .str s30 ∧
 (LV.val (.sl q24) = LV.val (.sl q24)) ∧
 AC Try.prog 70 [.ptr p4] h29 fun v31 h32 => ∃ n33 : Int, v31 = .int .i64 n33 ∧
 (LV.val (.sl q24) = LV.val (.sl q24)) ∧
 AC Try.prog 70 [.ptr p4] h32 fun v34 h35 => ∃ n36 : Int, v34 = .int .i64 n36 ∧
 (LV.val (.sl q24) = LV.val (.sl q24)) ∧
 PNew [.str s30, .int .i64 n33, .int .i64 n36] true h35 fun a37 h38 =>
 (LV.val (.sl q24) = LV.val (.sl q24)) ∧
 PAppendS 3 32 q24 (some ⟨a37, 0, 1, 1, 0⟩) h38 fun q39 h40 =>
 (True ∧ (some [.int .i64 0, .int .i64 0, .int .i64 0, .sl none] : Option (List AV)) = some [.int .i64 0, .int .i64 0, .int .i64 0, .sl none] ∧ True) ∧ I25 [.int .i64 (wrapK .i64 (n20 + 1)), .int .i64 n21, .int .i64 n22, .int .i64 n23, .sl q39] h40 ∧ m26 [.int .i64 (wrapK .i64 (n20 + 1)), .int .i64 n21, .int .i64 n22, .int .i64 n23, .sl q39] h40 < m26 [.int .i64 n20, .int .i64 n21, .int .i64 n22, .int .i64 n23, .sl q24] h27)
 (AC Try.prog 73 [.ptr p4] h27 fun v41 h42 => ∃ n43 : Int, v41 = .int .i64 n43 ∧
 vif (n43 != 0)
 (Q (.tup [.agg [.int .i64 0, .int .i64 0, .int .i64 0, .sl none], .int .i64 140]) h42)
 (AC Try.prog 18 [.agg [.int .i64 n21, .int .i64 n22, .int .i64 n23, .sl q24]] h42 fun v44 h45 => ∃ n46 : Int, v44 = .int .i64 n46 ∧
 vif (n46 != 0)
 (Q (.tup [.agg [.int .i64 0, .int .i64 0, .int .i64 0, .sl none], .int .i64 140]) h45)
 (Q (.tup [.agg [.int .i64 n21, .int .i64 n22, .int .i64 n23, .sl q24], .int .i64 0]) h45)))))
theorem ac19 {q1 : Option SL} {h : Heap} {Q : AV → Heap → Prop} (hk : vc19 q1 h Q) : AC Try.prog 19 [.sl q1] h Q :=
 AC_by (H := hintsOf [2, 5] [(0, [27], [1])]) (by kernel_rfl) (by kernel_rfl) hk

/-- api.Ref]: what it asks. -/
def vc63 (q1 : Option SL) (q2 : Option SL) (h : Heap) (Q : AV → Heap → Prop) : Prop :=
 vif ((slLen q1 : Int) != (slLen q2 : Int))
 (Q (.bool false) h)
 (∃ (I4 : List AV → Heap → Prop) (m5 : List AV → Heap → Nat), I4 [.int .i64 0] h ∧
 ∀ n3 : Int, ∀ h6 : Heap, I4 [.int .i64 n3] h6 →
 vif (decide (n3 < (slLen q1 : Int)))
 (vIdx q1 n3 3 fun p7 =>
 ∃ s8 : List UInt8, ∃ n9 : Int, ∃ n10 : Int, cellsAt h6 p7 3 = some [.str s8, .int .i64 n9, .int .i64 n10] ∧
 vIdx q2 n3 3 fun p11 =>
 ∃ s12 : List UInt8, ∃ n13 : Int, ∃ n14 : Int, cellsAt h6 p11 3 = some [.str s12, .int .i64 n13, .int .i64 n14] ∧
 vif (!((s8 == s12) && ((n9 == n13) && ((n10 == n14) && true))))
 (Q (.bool false) h6)
 ((True) ∧ I4 [.int .i64 (wrapK .i64 (n3 + 1))] h6 ∧ m5 [.int .i64 (wrapK .i64 (n3 + 1))] h6 < m5 [.int .i64 n3] h6))
 (Q (.bool true) h6))
theorem ac63 {q1 : Option SL} {q2 : Option SL} {h : Heap} {Q : AV → Heap → Prop} (hk : vc63 q1 q2 h Q) : AC Try.prog 63 [.sl q1, .sl q2] h Q :=
 AC_by (H := hintsOf [] [(0, [13], [])]) (by kernel_rfl) (by kernel_rfl) hk

/-- edit.Same: what it asks. -/
def vc15 (n1 : Int) (n2 : Int) (n3 : Int) (q4 : Option SL) (n5 : Int) (n6 : Int) (n7 : Int) (q8 : Option SL) (h : Heap) (Q : AV → Heap → Prop) : Prop :=
 vif (n1 == n5)
 (vif ((n2 == n6) && ((n3 == n7) && true))
 (AC Try.prog 63 [.sl q4, .sl q8] h fun v9 h10 => ∃ b11 : Bool, v9 = .bool b11 ∧
 Q (.bool b11) h10)
 (Q (.bool false) h))
 (Q (.bool false) h)
theorem ac15 {n1 : Int} {n2 : Int} {n3 : Int} {q4 : Option SL} {n5 : Int} {n6 : Int} {n7 : Int} {q8 : Option SL} {h : Heap} {Q : AV → Heap → Prop} (hk : vc15 n1 n2 n3 q4 n5 n6 n7 q8 h Q) : AC Try.prog 15 [.agg [.int .i64 n1, .int .i64 n2, .int .i64 n3, .sl q4], .agg [.int .i64 n5, .int .i64 n6, .int .i64 n7, .sl q8]] h Q :=
 AC_by (H := hintsOf [2, 3] []) (by kernel_rfl) (by kernel_rfl) hk

/-- oxbowref01.Fix: what it asks. -/
def vc115 (n1 : Int) (n2 : Int) (h : Heap) (Q : AV → Heap → Prop) : Prop :=
 vif (decide (n1 < 0))
 (Q (.tup [.sl none, .bool false]) h)
 (vif (decide (n2 < 1))
 (Q (.tup [.sl none, .bool false]) h)
 (vif (decide (n2 > 8))
 (Q (.tup [.sl none, .bool false]) h)
 (PMake [.int .u8 0] 1 n2 n2 h fun q3 h4 =>
 ∃ (I7 : List AV → Heap → Prop) (m8 : List AV → Heap → Nat), I7 [.int .i64 n1, .int .i64 (wrapK .i64 (n2 - 1))] h4 ∧
 ∀ n5 : Int, ∀ n6 : Int, ∀ h9 : Heap, I7 [.int .i64 n5, .int .i64 n6] h9 →
 vif (decide (n6 ≥ 0))
 (vIdx q3 n6 1 fun p10 =>
 PStore h9 p10 [.int .u8 (wrapK .u8 (Int.tmod n5 256))] fun h11 =>
 (True) ∧ I7 [.int .i64 (wrapK .i64 (Int.tdiv n5 256)), .int .i64 (wrapK .i64 (n6 - 1))] h11 ∧ m8 [.int .i64 (wrapK .i64 (Int.tdiv n5 256)), .int .i64 (wrapK .i64 (n6 - 1))] h11 < m8 [.int .i64 n5, .int .i64 n6] h9)
 (Q (.tup [.sl q3, .bool (n5 == 0)]) h9))))
theorem ac115 {n1 : Int} {n2 : Int} {h : Heap} {Q : AV → Heap → Prop} (hk : vc115 n1 n2 h Q) : AC Try.prog 115 [.int .i64 n1, .int .i64 n2] h Q :=
 AC_by (H := hintsOf [] [(0, [0, 7], [])]) (by kernel_rfl) (by kernel_rfl) hk

/-- oxbowref01.Put: what it asks. -/
def vc74 (n1 : Int) (h : Heap) (Q : AV → Heap → Prop) : Prop :=
 vif (decide (n1 < 240))
 (PNew [.int .u8 (wrapK .u8 n1)] true h fun a2 h3 =>
 Q (.sl (some ⟨a2, 0, 1, 1, 0⟩)) h3)
 (vif (decide (n1 < 2288))
 (PNew [.int .u8 (wrapK .u8 (wrapK .i64 (240 + (wrapK .i64 (Int.tdiv (wrapK .i64 (n1 - 240)) 256))))), .int .u8 (wrapK .u8 (Int.tmod (wrapK .i64 (n1 - 240)) 256))] true h fun a4 h5 =>
 Q (.sl (some ⟨a4, 0, 2, 2, 0⟩)) h5)
 (∃ (I7 : List AV → Heap → Prop) (m8 : List AV → Heap → Nat), I7 [.int .i64 2] h ∧
 ∀ n6 : Int, ∀ h9 : Heap, I7 [.int .i64 n6] h9 →
 vif (decide (n6 < 8))
 (AC Try.prog 115 [.int .i64 n1, .int .i64 n6] h9 fun v10 h11 => ∃ q12 : Option SL, ∃ b13 : Bool, v10 = .tup [.sl q12, .bool b13] ∧
 vif b13
 (PNew [.int .u8 (wrapK .u8 (wrapK .i64 (246 + n6)))] true h11 fun a14 h15 =>
 PAppendS 1 1 (some ⟨a14, 0, 1, 1, 0⟩) q12 h15 fun q16 h17 =>
 Q (.sl q16) h17)
 ((True) ∧ I7 [.int .i64 (wrapK .i64 (n6 + 1))] h11 ∧ m8 [.int .i64 (wrapK .i64 (n6 + 1))] h11 < m8 [.int .i64 n6] h9))
 (AC Try.prog 115 [.int .i64 n1, .int .i64 8] h9 fun v18 h19 => ∃ q20 : Option SL, ∃ b21 : Bool, v18 = .tup [.sl q20, .bool b21] ∧
 PNew [.int .u8 254] true h19 fun a22 h23 =>
 PAppendS 1 1 (some ⟨a22, 0, 1, 1, 0⟩) q20 h23 fun q24 h25 =>
 Q (.sl q24) h25)))
theorem ac74 {n1 : Int} {h : Heap} {Q : AV → Heap → Prop} (hk : vc74 n1 h Q) : AC Try.prog 74 [.int .i64 n1] h Q :=
 AC_by (H := hintsOf [] [(1, [3], [])]) (by kernel_rfl) (by kernel_rfl) hk

/-- oxbowref04.Put: what it asks. -/
def vc75 (n1 : Int) (n2 : Int) (h : Heap) (Q : AV → Heap → Prop) : Prop :=
 AC Try.prog 74 [.int .i64 n1] h fun v3 h4 => ∃ q5 : Option SL, v3 = .sl q5 ∧
 (LV.val (.int .i64 n2) = LV.val (.int .i64 n2)) ∧
 AC Try.prog 74 [.int .i64 n2] h4 fun v6 h7 => ∃ q8 : Option SL, v6 = .sl q8 ∧
 PAppendS 1 1 q5 q8 h7 fun q9 h10 =>
 Q (.sl q9) h10
theorem ac75 {n1 : Int} {n2 : Int} {h : Heap} {Q : AV → Heap → Prop} (hk : vc75 n1 n2 h Q) : AC Try.prog 75 [.agg [.int .i64 n1, .int .i64 n2]] h Q :=
 AC_by (H := hintsOf [1] []) (by kernel_rfl) (by kernel_rfl) hk

/-- oxbowref01.Text: what it asks. -/
def vc76 (s1 : List UInt8) (h : Heap) (Q : AV → Heap → Prop) : Prop :=
 AC Try.prog 74 [.int .i64 (s1.length : Int)] h fun v2 h3 => ∃ q4 : Option SL, v2 = .sl q4 ∧
 PAppend 1 1 q4 s1.length (byteAVs s1) h3 fun q5 h6 =>
 Q (.sl q5) h6
theorem ac76 {s1 : List UInt8} {h : Heap} {Q : AV → Heap → Prop} (hk : vc76 s1 h Q) : AC Try.prog 76 [.str s1] h Q :=
 AC_by (H := hintsOf [] []) (by kernel_rfl) (by kernel_rfl) hk

/-- oxbowref14.Put: what it asks. -/
def vc20 (n1 : Int) (n2 : Int) (n3 : Int) (q4 : Option SL) (h : Heap) (Q : AV → Heap → Prop) : Prop :=
 AC Try.prog 74 [.int .i64 n1] h fun v5 h6 => ∃ q7 : Option SL, v5 = .sl q7 ∧
 (LV.val (.agg [.int .i64 n2, .int .i64 n3]) = LV.val (.agg [.int .i64 n2, .int .i64 n3])) ∧
 AC Try.prog 75 [.agg [.int .i64 n2, .int .i64 n3]] h6 fun v8 h9 => ∃ q10 : Option SL, v8 = .sl q10 ∧
 PAppendS 1 1 q7 q10 h9 fun q11 h12 =>
 AC Try.prog 74 [.int .i64 (slLen q4 : Int)] h12 fun v13 h14 => ∃ q15 : Option SL, v13 = .sl q15 ∧
 PAppendS 1 1 q11 q15 h14 fun q16 h17 =>
 ∃ (I20 : List AV → Heap → Prop) (m21 : List AV → Heap → Nat), I20 [.sl q16, .int .i64 0] h17 ∧
 ∀ q18 : Option SL, ∀ n19 : Int, ∀ h22 : Heap, I20 [.sl q18, .int .i64 n19] h22 →
 vif (decide (n19 < (slLen q4 : Int)))
 (vIdx q4 n19 3 fun p23 =>
 ∃ s24 : List UInt8, cellsAt h22 ⟨p23.b, p23.o + 0⟩ 1 = some [.str s24] ∧
 AC Try.prog 76 [.str s24] h22 fun v25 h26 => ∃ q27 : Option SL, v25 = .sl q27 ∧
 PAppendS 1 1 q18 q27 h26 fun q28 h29 =>
 vIdx q4 n19 3 fun p30 =>
 ∃ n31 : Int, cellsAt h29 ⟨p30.b, p30.o + 1⟩ 1 = some [.int .i64 n31] ∧
 AC Try.prog 74 [.int .i64 n31] h29 fun v32 h33 => ∃ q34 : Option SL, v32 = .sl q34 ∧
 PAppendS 1 1 q28 q34 h33 fun q35 h36 =>
 vIdx q4 n19 3 fun p37 =>
 ∃ n38 : Int, cellsAt h36 ⟨p37.b, p37.o + 2⟩ 1 = some [.int .i64 n38] ∧
 AC Try.prog 74 [.int .i64 n38] h36 fun v39 h40 => ∃ q41 : Option SL, v39 = .sl q41 ∧
 PAppendS 1 1 q35 q41 h40 fun q42 h43 =>
 ((some [.int .i64 n1, .int .i64 n2, .int .i64 n3, .sl q4] : Option (List AV)) = some [.int .i64 n1, .int .i64 n2, .int .i64 n3, .sl q4] ∧ True) ∧ I20 [.sl q42, .int .i64 (wrapK .i64 (n19 + 1))] h43 ∧ m21 [.sl q42, .int .i64 (wrapK .i64 (n19 + 1))] h43 < m21 [.sl q18, .int .i64 n19] h22)
 (Q (.sl q18) h22)
theorem ac20 {n1 : Int} {n2 : Int} {n3 : Int} {q4 : Option SL} {h : Heap} {Q : AV → Heap → Prop} (hk : vc20 n1 n2 n3 q4 h Q) : AC Try.prog 20 [.agg [.int .i64 n1, .int .i64 n2, .int .i64 n3, .sl q4]] h Q :=
 AC_by (H := hintsOf [1] [(0, [3, 4], [])]) (by kernel_rfl) (by kernel_rfl) hk

/-- oxbowref01.Reader).Bytes: what it asks. -/
def vc116 (p1 : Option PA) (n2 : Int) (h : Heap) (Q : AV → Heap → Prop) : Prop :=
 vPtr p1 fun p3 =>
 ∃ b4 : Bool, cellsAt h ⟨p3.b, p3.o + 1⟩ 1 = some [.bool b4] ∧
 vif b4
 (vPtr p1 fun p5 =>
 PStore h ⟨p5.b, p5.o + 1⟩ [.bool true] fun h6 =>
 Q (.sl none) h6)
 (vif (decide (n2 < 0))
 (vPtr p1 fun p7 =>
 PStore h ⟨p7.b, p7.o + 1⟩ [.bool true] fun h8 =>
 Q (.sl none) h8)
 (vPtr p1 fun p9 =>
 ∃ q10 : Option SL, cellsAt h ⟨p9.b, p9.o + 0⟩ 1 = some [.sl q10] ∧
 vif (decide (n2 > (slLen q10 : Int)))
 (vPtr p1 fun p11 =>
 PStore h ⟨p11.b, p11.o + 1⟩ [.bool true] fun h12 =>
 Q (.sl none) h12)
 (PNew [] true h fun a13 h14 =>
 vPtr p1 fun p15 =>
 ∃ q16 : Option SL, cellsAt h14 ⟨p15.b, p15.o + 0⟩ 1 = some [.sl q16] ∧
 PSlice 1 q16 0 (some n2) none fun q17 =>
 PAppendS 1 1 (some ⟨a13, 0, 0, 0, 0⟩) q17 h14 fun q18 h19 =>
 vPtr p1 fun p20 =>
 ∃ q21 : Option SL, cellsAt h19 ⟨p20.b, p20.o + 0⟩ 1 = some [.sl q21] ∧
 PSlice 1 q21 n2 none none fun q22 =>
 vPtr p1 fun p23 =>
 PStore h19 ⟨p23.b, p23.o + 0⟩ [.sl q22] fun h24 =>
 Q (.sl q18) h24)))
theorem ac116 {p1 : Option PA} {n2 : Int} {h : Heap} {Q : AV → Heap → Prop} (hk : vc116 p1 n2 h Q) : AC Try.prog 116 [.ptr p1, .int .i64 n2] h Q :=
 AC_by (H := hintsOf [] []) (by kernel_rfl) (by kernel_rfl) hk

/-- oxbowref01.sizeOf: what it asks. -/
def vc118 (n1 : Int) (h : Heap) (Q : AV → Heap → Prop) : Prop :=
 vif (decide (n1 < 248))
 (Q (.int .i64 2) h)
 (Q (.int .i64 (wrapK .i64 (n1 - 245))) h)
theorem ac118 {n1 : Int} {h : Heap} {Q : AV → Heap → Prop} (hk : vc118 n1 h Q) : AC Try.prog 118 [.int .i64 n1] h Q :=
 AC_by (H := hintsOf [] []) (by kernel_rfl) (by kernel_rfl) hk

/-- oxbowref01.Reader).Fixed: what it asks. -/
def vc117 (p1 : Option PA) (n2 : Int) (h : Heap) (Q : AV → Heap → Prop) : Prop :=
 vif (decide (n2 < 1))
 (vPtr p1 fun p3 =>
 PStore h ⟨p3.b, p3.o + 1⟩ [.bool true] fun h4 =>
 Q (.int .i64 0) h4)
 (vif (decide (n2 > 8))
 (vPtr p1 fun p5 =>
 PStore h ⟨p5.b, p5.o + 1⟩ [.bool true] fun h6 =>
 Q (.int .i64 0) h6)
 (AC Try.prog 116 [.ptr p1, .int .i64 n2] h fun v7 h8 => ∃ q9 : Option SL, v7 = .sl q9 ∧
 vPtr p1 fun p10 =>
 ∃ b11 : Bool, cellsAt h8 ⟨p10.b, p10.o + 1⟩ 1 = some [.bool b11] ∧
 vif b11
 (vPtr p1 fun p12 =>
 PStore h8 ⟨p12.b, p12.o + 1⟩ [.bool true] fun h13 =>
 Q (.int .i64 0) h13)
 (vif (n2 == 8)
 (vIdx q9 0 1 fun p14 =>
 ∃ n15 : Int, cellsAt h8 p14 1 = some [.int .u8 n15] ∧
 vif (decide (n15 > 127))
 (vPtr p1 fun p16 =>
 PStore h8 ⟨p16.b, p16.o + 1⟩ [.bool true] fun h17 =>
 Q (.int .i64 0) h17)
 (∃ (I20 : List AV → Heap → Prop) (m21 : List AV → Heap → Nat), I20 [.int .i64 0, .int .i64 0] h8 ∧
 ∀ n18 : Int, ∀ n19 : Int, ∀ h22 : Heap, I20 [.int .i64 n18, .int .i64 n19] h22 →
 vif (decide (n19 < n2))
 (vIdx q9 n19 1 fun p23 =>
 ∃ n24 : Int, cellsAt h22 p23 1 = some [.int .u8 n24] ∧
 (True) ∧ I20 [.int .i64 (wrapK .i64 ((wrapK .i64 (256 * n18)) + (wrapK .i64 n24))), .int .i64 (wrapK .i64 (n19 + 1))] h22 ∧ m21 [.int .i64 (wrapK .i64 ((wrapK .i64 (256 * n18)) + (wrapK .i64 n24))), .int .i64 (wrapK .i64 (n19 + 1))] h22 < m21 [.int .i64 n18, .int .i64 n19] h22)
 (Q (.int .i64 n18) h22)))
 (∃ (I27 : List AV → Heap → Prop) (m28 : List AV → Heap → Nat), I27 [.int .i64 0, .int .i64 0] h8 ∧
 ∀ n25 : Int, ∀ n26 : Int, ∀ h29 : Heap, I27 [.int .i64 n25, .int .i64 n26] h29 →
 vif (decide (n26 < n2))
 (vIdx q9 n26 1 fun p30 =>
 ∃ n31 : Int, cellsAt h29 p30 1 = some [.int .u8 n31] ∧
 (True) ∧ I27 [.int .i64 (wrapK .i64 ((wrapK .i64 (256 * n25)) + (wrapK .i64 n31))), .int .i64 (wrapK .i64 (n26 + 1))] h29 ∧ m28 [.int .i64 (wrapK .i64 ((wrapK .i64 (256 * n25)) + (wrapK .i64 n31))), .int .i64 (wrapK .i64 (n26 + 1))] h29 < m28 [.int .i64 n25, .int .i64 n26] h29)
 (Q (.int .i64 n25) h29)))))
theorem ac117 {p1 : Option PA} {n2 : Int} {h : Heap} {Q : AV → Heap → Prop} (hk : vc117 p1 n2 h Q) : AC Try.prog 117 [.ptr p1, .int .i64 n2] h Q :=
 AC_by (H := hintsOf [] [(0, [6, 7], [])]) (by kernel_rfl) (by kernel_rfl) hk

/-- oxbowref01.Reader).Num: what it asks. -/
def vc77 (p1 : Option PA) (h : Heap) (Q : AV → Heap → Prop) : Prop :=
 AC Try.prog 116 [.ptr p1, .int .i64 1] h fun v2 h3 => ∃ q4 : Option SL, v2 = .sl q4 ∧
 vPtr p1 fun p5 =>
 ∃ b6 : Bool, cellsAt h3 ⟨p5.b, p5.o + 1⟩ 1 = some [.bool b6] ∧
 vif b6
 (Q (.int .i64 0) h3)
 (vIdx q4 0 1 fun p7 =>
 ∃ n8 : Int, cellsAt h3 p7 1 = some [.int .u8 n8] ∧
 vif (decide ((wrapK .i64 n8) < 240))
 (Q (.int .i64 (wrapK .i64 n8)) h3)
 (vif (decide ((wrapK .i64 n8) < 248))
 (AC Try.prog 117 [.ptr p1, .int .i64 1] h3 fun v9 h10 => ∃ n11 : Int, v9 = .int .i64 n11 ∧
 vPtr p1 fun p12 =>
 ∃ b13 : Bool, cellsAt h10 ⟨p12.b, p12.o + 1⟩ 1 = some [.bool b13] ∧
 vif b13
 (vPtr p1 fun p14 =>
 PStore h10 ⟨p14.b, p14.o + 1⟩ [.bool true] fun h15 =>
 Q (.int .i64 0) h15)
 (AC Try.prog 74 [.int .i64 (wrapK .i64 ((wrapK .i64 (240 + (wrapK .i64 (256 * (wrapK .i64 ((wrapK .i64 n8) - 240)))))) + n11))] h10 fun v16 h17 => ∃ q18 : Option SL, v16 = .sl q18 ∧
 AC Try.prog 118 [.int .i64 (wrapK .i64 n8)] h17 fun v19 h20 => ∃ n21 : Int, v19 = .int .i64 n21 ∧
 vif ((slLen q18 : Int) != n21)
 (vPtr p1 fun p22 =>
 PStore h20 ⟨p22.b, p22.o + 1⟩ [.bool true] fun h23 =>
 Q (.int .i64 0) h23)
 (Q (.int .i64 (wrapK .i64 ((wrapK .i64 (240 + (wrapK .i64 (256 * (wrapK .i64 ((wrapK .i64 n8) - 240)))))) + n11))) h20)))
 (vif (decide ((wrapK .i64 n8) < 255))
 (AC Try.prog 117 [.ptr p1, .int .i64 (wrapK .i64 ((wrapK .i64 n8) - 246))] h3 fun v24 h25 => ∃ n26 : Int, v24 = .int .i64 n26 ∧
 vPtr p1 fun p27 =>
 ∃ b28 : Bool, cellsAt h25 ⟨p27.b, p27.o + 1⟩ 1 = some [.bool b28] ∧
 vif b28
 (vPtr p1 fun p29 =>
 PStore h25 ⟨p29.b, p29.o + 1⟩ [.bool true] fun h30 =>
 Q (.int .i64 0) h30)
 (AC Try.prog 74 [.int .i64 n26] h25 fun v31 h32 => ∃ q33 : Option SL, v31 = .sl q33 ∧
 AC Try.prog 118 [.int .i64 (wrapK .i64 n8)] h32 fun v34 h35 => ∃ n36 : Int, v34 = .int .i64 n36 ∧
 vif ((slLen q33 : Int) != n36)
 (vPtr p1 fun p37 =>
 PStore h35 ⟨p37.b, p37.o + 1⟩ [.bool true] fun h38 =>
 Q (.int .i64 0) h38)
 (Q (.int .i64 n26) h35)))
 (vPtr p1 fun p39 =>
 PStore h3 ⟨p39.b, p39.o + 1⟩ [.bool true] fun h40 =>
 vPtr p1 fun p41 =>
 ∃ b42 : Bool, cellsAt h40 ⟨p41.b, p41.o + 1⟩ 1 = some [.bool b42] ∧
 vif b42
 (vPtr p1 fun p43 =>
 PStore h40 ⟨p43.b, p43.o + 1⟩ [.bool true] fun h44 =>
 Q (.int .i64 0) h44)
 (AC Try.prog 74 [.int .i64 (wrapK .i64 n8)] h40 fun v45 h46 => ∃ q47 : Option SL, v45 = .sl q47 ∧
 AC Try.prog 118 [.int .i64 (wrapK .i64 n8)] h46 fun v48 h49 => ∃ n50 : Int, v48 = .int .i64 n50 ∧
 vif ((slLen q47 : Int) != n50)
 (vPtr p1 fun p51 =>
 PStore h49 ⟨p51.b, p51.o + 1⟩ [.bool true] fun h52 =>
 Q (.int .i64 0) h52)
 (Q (.int .i64 (wrapK .i64 n8)) h49))))))
theorem ac77 {p1 : Option PA} {h : Heap} {Q : AV → Heap → Prop} (hk : vc77 p1 h Q) : AC Try.prog 77 [.ptr p1] h Q :=
 AC_by (H := hintsOf [] []) (by kernel_rfl) (by kernel_rfl) hk

/-- oxbowref01.Reader).Text: what it asks. -/
def vc78 (p1 : Option PA) (n2 : Int) (h : Heap) (Q : AV → Heap → Prop) : Prop :=
 AC Try.prog 77 [.ptr p1] h fun v3 h4 => ∃ n5 : Int, v3 = .int .i64 n5 ∧
 vPtr p1 fun p6 =>
 ∃ b7 : Bool, cellsAt h4 ⟨p6.b, p6.o + 1⟩ 1 = some [.bool b7] ∧
 vif b7
 (vPtr p1 fun p8 =>
 PStore h4 ⟨p8.b, p8.o + 1⟩ [.bool true] fun h9 =>
 Q (.str []) h9)
 (vif (decide (n5 > n2))
 (vPtr p1 fun p10 =>
 PStore h4 ⟨p10.b, p10.o + 1⟩ [.bool true] fun h11 =>
 Q (.str []) h11)
 (AC Try.prog 116 [.ptr p1, .int .i64 n5] h4 fun v12 h13 => ∃ q14 : Option SL, v12 = .sl q14 ∧
 PStr h13 q14 fun s15 =>
 Q (.str s15) h13))
theorem ac78 {p1 : Option PA} {n2 : Int} {h : Heap} {Q : AV → Heap → Prop} (hk : vc78 p1 n2 h Q) : AC Try.prog 78 [.ptr p1, .int .i64 n2] h Q :=
 AC_by (H := hintsOf [] []) (by kernel_rfl) (by kernel_rfl) hk

/-- oxbowref14.Get: what it asks. -/
def vc21 (q1 : Option SL) (h : Heap) (Q : AV → Heap → Prop) : Prop :=
 PNew [] true h fun a2 h3 =>
 PAppendS 1 1 (some ⟨a2, 0, 0, 0, 0⟩) q1 h3 fun q4 h5 =>
 PNew [.sl q4, .bool false] true h5 fun a6 h7 =>
 AC Try.prog 77 [.ptr (some ⟨a6, 0⟩)] h7 fun v8 h9 => ∃ n10 : Int, v8 = .int .i64 n10 ∧
 AC Try.prog 77 [.ptr (some ⟨a6, 0⟩)] h9 fun v11 h12 => ∃ n13 : Int, v11 = .int .i64 n13 ∧
 AC Try.prog 77 [.ptr (some ⟨a6, 0⟩)] h12 fun v14 h15 => ∃ n16 : Int, v14 = .int .i64 n16 ∧
 AC Try.prog 77 [.ptr (some ⟨a6, 0⟩)] h15 fun v17 h18 => ∃ n19 : Int, v17 = .int .i64 n19 ∧
 ∃ b20 : Bool, cellsAt h18 ⟨a6, 1⟩ 1 = some [.bool b20] ∧
 vif b20
 (Q (.tup [.agg [.int .i64 0, .int .i64 0, .int .i64 0, .sl none], .bool false]) h18)
 (vif (decide (n19 > 256))
 (Q (.tup [.agg [.int .i64 0, .int .i64 0, .int .i64 0, .sl none], .bool false]) h18)
 (∃ (I26 : List AV → Heap → Prop) (m27 : List AV → Heap → Nat), I26 [.int .i64 0, .int .i64 n10, .int .i64 n13, .int .i64 n16, .sl none] h18 ∧
 ∀ n21 : Int, ∀ n22 : Int, ∀ n23 : Int, ∀ n24 : Int, ∀ q25 : Option SL, ∀ h28 : Heap, I26 [.int .i64 n21, .int .i64 n22, .int .i64 n23, .int .i64 n24, .sl q25] h28 →
 vif (decide (n21 < n19))
 (AC Try.prog 78 [.ptr (some ⟨a6, 0⟩), .int .i64 24] h28 fun v29 h30 => ∃ s31 : List UInt8, v29 = .str s31 ∧
 (LV.val (.sl q25) = LV.val (.sl q25)) ∧
 AC Try.prog 77 [.ptr (some ⟨a6, 0⟩)] h30 fun v32 h33 => ∃ n34 : Int, v32 = .int .i64 n34 ∧
 (LV.val (.sl q25) = LV.val (.sl q25)) ∧
 AC Try.prog 77 [.ptr (some ⟨a6, 0⟩)] h33 fun v35 h36 => ∃ n37 : Int, v35 = .int .i64 n37 ∧
 (LV.val (.sl q25) = LV.val (.sl q25)) ∧
 PNew [.str s31, .int .i64 n34, .int .i64 n37] true h36 fun a38 h39 =>
 (LV.val (.sl q25) = LV.val (.sl q25)) ∧
 PAppendS 3 32 q25 (some ⟨a38, 0, 1, 1, 0⟩) h39 fun q40 h41 =>
 (True ∧ (some [.int .i64 0, .int .i64 0, .int .i64 0, .sl none] : Option (List AV)) = some [.int .i64 0, .int .i64 0, .int .i64 0, .sl none] ∧ True) ∧ I26 [.int .i64 (wrapK .i64 (n21 + 1)), .int .i64 n22, .int .i64 n23, .int .i64 n24, .sl q40] h41 ∧ m27 [.int .i64 (wrapK .i64 (n21 + 1)), .int .i64 n22, .int .i64 n23, .int .i64 n24, .sl q40] h41 < m27 [.int .i64 n21, .int .i64 n22, .int .i64 n23, .int .i64 n24, .sl q25] h28)
 (∃ b42 : Bool, cellsAt h28 ⟨a6, 1⟩ 1 = some [.bool b42] ∧
 vif b42
 (Q (.tup [.agg [.int .i64 0, .int .i64 0, .int .i64 0, .sl none], .bool false]) h28)
 (∃ q43 : Option SL, cellsAt h28 ⟨a6, 0⟩ 1 = some [.sl q43] ∧
 vif (decide ((slLen q43 : Int) > 0))
 (Q (.tup [.agg [.int .i64 0, .int .i64 0, .int .i64 0, .sl none], .bool false]) h28)
 (AC Try.prog 17 [.agg [.int .i64 n22, .int .i64 n23, .int .i64 n24, .sl q25]] h28 fun v44 h45 => ∃ b46 : Bool, v44 = .bool b46 ∧
 vif (!b46)
 (Q (.tup [.agg [.int .i64 0, .int .i64 0, .int .i64 0, .sl none], .bool false]) h45)
 (Q (.tup [.agg [.int .i64 n22, .int .i64 n23, .int .i64 n24, .sl q25], .bool true]) h45))))))
theorem ac21 {q1 : Option SL} {h : Heap} {Q : AV → Heap → Prop} (hk : vc21 q1 h Q) : AC Try.prog 21 [.sl q1] h Q :=
 AC_by (H := hintsOf [2, 5] [(0, [7], [1])]) (by kernel_rfl) (by kernel_rfl) hk

/-- oxbowlaw14.EditCodes: what it asks. -/
def vc3 (n1 : Int) (n2 : Int) (n3 : Int) (q4 : Option SL) (n5 : Int) (n6 : Int) (n7 : Int) (q8 : Option SL) (h : Heap) (Q : AV → Heap → Prop) : Prop :=
 AC Try.prog 12 [.agg [.int .i64 n1, .int .i64 n2, .int .i64 n3, .sl q4]] h fun v9 h10 => ∃ b11 : Bool, v9 = .bool b11 ∧
 vif b11
 (AC Try.prog 13 [] h10 fun v12 h13 => ∃ b14 : Bool, v12 = .bool b14 ∧
 Q (.bool b14) h13)
 (AC Try.prog 12 [.agg [.int .i64 n5, .int .i64 n6, .int .i64 n7, .sl q8]] h10 fun v15 h16 => ∃ b17 : Bool, v15 = .bool b17 ∧
 vif b17
 (AC Try.prog 13 [] h16 fun v18 h19 => ∃ b20 : Bool, v18 = .bool b20 ∧
 Q (.bool b20) h19)
 (AC Try.prog 14 [.agg [.int .i64 n1, .int .i64 n2, .int .i64 n3, .sl q4]] h16 fun v21 h22 => ∃ q23 : Option SL, ∃ n24 : Int, v21 = .tup [.sl q23, .int .i64 n24] ∧
 AC Try.prog 13 [] h22 fun v25 h26 => ∃ b27 : Bool, v25 = .bool b27 ∧
 vif (!b27)
 ((LV.val (.tup []) = LV.val (.tup [])) ∧
 (LV.val (.tup []) = LV.val (.tup [])) ∧
 Q (.bool false) h26)
 (AC Try.prog 15 [.agg [.int .i64 n1, .int .i64 n2, .int .i64 n3, .sl q4], .agg [.int .i64 n5, .int .i64 n6, .int .i64 n7, .sl q8]] h26 fun v28 h29 => ∃ b30 : Bool, v28 = .bool b30 ∧
 (LV.val (.agg [.int .i64 n5, .int .i64 n6, .int .i64 n7, .sl q8]) = LV.val (.agg [.int .i64 n5, .int .i64 n6, .int .i64 n7, .sl q8])) ∧
 (LV.val (.agg [.int .i64 n1, .int .i64 n2, .int .i64 n3, .sl q4]) = LV.val (.agg [.int .i64 n1, .int .i64 n2, .int .i64 n3, .sl q4])) ∧
 AC Try.prog 16 [.agg [.int .i64 n1, .int .i64 n2, .int .i64 n3, .sl q4], .agg [.int .i64 n5, .int .i64 n6, .int .i64 n7, .sl q8]] h29 fun v31 h32 => ∃ b33 : Bool, v31 = .bool b33 ∧
 vif (!(b30 == b33))
 (Q (.bool false) h32)
 (AC Try.prog 17 [.agg [.int .i64 n1, .int .i64 n2, .int .i64 n3, .sl q4]] h32 fun v34 h35 => ∃ b36 : Bool, v34 = .bool b36 ∧
 vif (!b36)
 (vif (n24 == 140)
 (vif ((slLen q23 : Int) == 0)
 (AC Try.prog 18 [.agg [.int .i64 n1, .int .i64 n2, .int .i64 n3, .sl q4]] h35 fun v37 h38 => ∃ n39 : Int, v37 = .int .i64 n39 ∧
 Q (.bool (n39 == 140)) h38)
 (Q (.bool false) h35))
 (Q (.bool false) h35))
 (AC Try.prog 19 [.sl q23] h35 fun v40 h41 => ∃ n42 : Int, ∃ n43 : Int, ∃ n44 : Int, ∃ q45 : Option SL, ∃ n46 : Int, v40 = .tup [.agg [.int .i64 n42, .int .i64 n43, .int .i64 n44, .sl q45], .int .i64 n46] ∧
 vif (n24 == 0)
 (AC Try.prog 18 [.agg [.int .i64 n1, .int .i64 n2, .int .i64 n3, .sl q4]] h41 fun v47 h48 => ∃ n49 : Int, v47 = .int .i64 n49 ∧
 vif (n49 == 0)
 (PStr h48 q23 fun s50 =>
 AC Try.prog 20 [.agg [.int .i64 n1, .int .i64 n2, .int .i64 n3, .sl q4]] h48 fun v51 h52 => ∃ q53 : Option SL, v51 = .sl q53 ∧
 (PStr h52 q23 fun s58 =>
 LV.val (.str s58) = LV.val (.str s50)) ∧
 PStr h52 q53 fun s54 =>
 vif (s50 == s54)
 (vif (n46 == 0)
 (AC Try.prog 16 [.agg [.int .i64 n42, .int .i64 n43, .int .i64 n44, .sl q45], .agg [.int .i64 n1, .int .i64 n2, .int .i64 n3, .sl q4]] h52 fun v55 h56 => ∃ b57 : Bool, v55 = .bool b57 ∧
 Q (.bool b57) h56)
 (Q (.bool false) h52))
 (Q (.bool false) h52))
 ((LV.val (.tup []) = LV.val (.tup [])) ∧
 Q (.bool false) h48))
 ((LV.val (.tup []) = LV.val (.tup [])) ∧
 Q (.bool false) h41))))))
theorem ac3 {n1 : Int} {n2 : Int} {n3 : Int} {q4 : Option SL} {n5 : Int} {n6 : Int} {n7 : Int} {q8 : Option SL} {h : Heap} {Q : AV → Heap → Prop} (hk : vc3 n1 n2 n3 q4 n5 n6 n7 q8 h Q) : AC Try.prog 3 [.agg [.int .i64 n1, .int .i64 n2, .int .i64 n3, .sl q4], .agg [.int .i64 n5, .int .i64 n6, .int .i64 n7, .sl q8]] h Q :=
 AC_by (H := hintsOf [2, 3, 7] []) (by kernel_rfl) (by kernel_rfl) hk

/-- oxbowlaw14.EditGets: what it asks. -/
def vc4 (q1 : Option SL) (h : Heap) (Q : AV → Heap → Prop) : Prop :=
 vif (decide ((slLen q1 : Int) > 5000))
 (AC Try.prog 13 [] h fun v2 h3 => ∃ b4 : Bool, v2 = .bool b4 ∧
 Q (.bool b4) h3)
 (AC Try.prog 19 [.sl q1] h fun v5 h6 => ∃ n7 : Int, ∃ n8 : Int, ∃ n9 : Int, ∃ q10 : Option SL, ∃ n11 : Int, v5 = .tup [.agg [.int .i64 n7, .int .i64 n8, .int .i64 n9, .sl q10], .int .i64 n11] ∧
 AC Try.prog 21 [.sl q1] h6 fun v12 h13 => ∃ n14 : Int, ∃ n15 : Int, ∃ n16 : Int, ∃ q17 : Option SL, ∃ b18 : Bool, v12 = .tup [.agg [.int .i64 n14, .int .i64 n15, .int .i64 n16, .sl q17], .bool b18] ∧
 AC Try.prog 13 [] h13 fun v19 h20 => ∃ b21 : Bool, v19 = .bool b21 ∧
 vif (!b21)
 (Q (.bool false) h20)
 (AC Try.prog 16 [.agg [.int .i64 n7, .int .i64 n8, .int .i64 n9, .sl q10], .agg [.int .i64 n14, .int .i64 n15, .int .i64 n16, .sl q17]] h20 fun v22 h23 => ∃ b24 : Bool, v22 = .bool b24 ∧
 vif (!b24)
 (Q (.bool false) h23)
 (vif (!((n11 == 0) == b18))
 (Q (.bool false) h23)
 (vif (!b18)
 (vif (n11 != 140)
 (Q (.bool false) h23)
 (vif (!b18)
 (Q (.bool true) h23)
 (AC Try.prog 14 [.agg [.int .i64 n7, .int .i64 n8, .int .i64 n9, .sl q10]] h23 fun v25 h26 => ∃ q27 : Option SL, ∃ n28 : Int, v25 = .tup [.sl q27, .int .i64 n28] ∧
 vif (n28 == 0)
 (PStr h26 q27 fun s29 =>
 PStr h26 q1 fun s30 =>
 Q (.bool (s29 == s30)) h26)
 (Q (.bool false) h26))))
 (vif (!b18)
 (Q (.bool true) h23)
 (AC Try.prog 14 [.agg [.int .i64 n7, .int .i64 n8, .int .i64 n9, .sl q10]] h23 fun v31 h32 => ∃ q33 : Option SL, ∃ n34 : Int, v31 = .tup [.sl q33, .int .i64 n34] ∧
 vif (n34 == 0)
 (PStr h32 q33 fun s35 =>
 PStr h32 q1 fun s36 =>
 Q (.bool (s35 == s36)) h32)
 (Q (.bool false) h32)))))))
theorem ac4 {q1 : Option SL} {h : Heap} {Q : AV → Heap → Prop} (hk : vc4 q1 h Q) : AC Try.prog 4 [.sl q1] h Q :=
 AC_by (H := hintsOf [3, 5] []) (by kernel_rfl) (by kernel_rfl) hk

end Go.Proofs

/- Conditions, printed. -/
namespace Go.Proofs
open Go.Ab
set_option maxRecDepth 100000
set_option linter.unusedVariables false

/-- oxbowlaw14.EditMakes: what it asks. -/
def vc6 (q1 : Option SL) (h : Heap) (Q : AV → Heap → Prop) : Prop :=
 AC Try.prog 22 [] h fun v2 h3 => ∃ p4 : Option PA, v2 = .ptr p4 ∧
 AC Try.prog 22 [] h3 fun v5 h6 => ∃ p7 : Option PA, v5 = .ptr p7 ∧
 AC Try.prog 13 [] h6 fun v8 h9 => ∃ b10 : Bool, v8 = .bool b10 ∧
 vif (!b10)
 (Q (.bool false) h9)
 (vif (p4.isNone)
 (Q (.bool false) h9)
 (vif (p7.isNone)
 (Q (.bool false) h9)
 (∃ (I12 : List AV → Heap → Prop) (m13 : List AV → Heap → Nat), I12 [.int .i64 0] h9 ∧
 ∀ n11 : Int, ∀ h14 : Heap, I12 [.int .i64 n11] h14 →
 vif (decide (n11 < (slLen q1 : Int)))
 (vif (decide (n11 < 60))
 (vIdx q1 n11 4 fun p15 =>
 ∃ n16 : Int, ∃ n17 : Int, ∃ n18 : Int, ∃ q19 : Option SL, cellsAt h14 p15 4 = some [.int .i64 n16, .int .i64 n17, .int .i64 n18, .sl q19] ∧
 AC Try.prog 12 [.agg [.int .i64 n16, .int .i64 n17, .int .i64 n18, .sl q19]] h14 fun v20 h21 => ∃ b22 : Bool, v20 = .bool b22 ∧
 vif (!b22)
 (vIdx q1 n11 4 fun p23 =>
 ∃ n24 : Int, ∃ n25 : Int, ∃ n26 : Int, ∃ q27 : Option SL, cellsAt h21 p23 4 = some [.int .i64 n24, .int .i64 n25, .int .i64 n26, .sl q27] ∧
 AC Try.prog 23 [.ptr p4, .agg [.int .i64 n24, .int .i64 n25, .int .i64 n26, .sl q27]] h21 fun v28 h29 => ∃ n30 : Int, v28 = .int .i64 n30 ∧
 (True) ∧ I12 [.int .i64 (wrapK .i64 (n11 + 1))] h29 ∧ m13 [.int .i64 (wrapK .i64 (n11 + 1))] h29 < m13 [.int .i64 n11] h14)
 ((True) ∧ I12 [.int .i64 (wrapK .i64 (n11 + 1))] h21 ∧ m13 [.int .i64 (wrapK .i64 (n11 + 1))] h21 < m13 [.int .i64 n11] h14))
 (AC Try.prog 26 [.ptr p4] h14 fun v31 h32 => ∃ q33 : Option SL, v31 = .sl q33 ∧
 ∃ (I35 : List AV → Heap → Prop) (m36 : List AV → Heap → Nat), I35 [.int .i64 0] h32 ∧
 ∀ n34 : Int, ∀ h37 : Heap, I35 [.int .i64 n34] h37 →
 vif (decide (n34 < (slLen q33 : Int)))
 (vIdx q33 n34 4 fun p38 =>
 ∃ n39 : Int, ∃ n40 : Int, ∃ n41 : Int, ∃ q42 : Option SL, cellsAt h37 p38 4 = some [.int .i64 n39, .int .i64 n40, .int .i64 n41, .sl q42] ∧
 AC Try.prog 23 [.ptr p7, .agg [.int .i64 n39, .int .i64 n40, .int .i64 n41, .sl q42]] h37 fun v43 h44 => ∃ n45 : Int, v43 = .int .i64 n45 ∧
 vif (n45 != 0)
 (Q (.bool false) h44)
 ((True) ∧ I35 [.int .i64 (wrapK .i64 (n34 + 1))] h44 ∧ m36 [.int .i64 (wrapK .i64 (n34 + 1))] h44 < m36 [.int .i64 n34] h37))
 (AC Try.prog 27 [.ptr p4] h37 fun v46 h47 => ∃ n48 : Int, ∃ n49 : Int, ∃ n50 : Int, ∃ q51 : Option SL, ∃ b52 : Bool, v46 = .tup [.agg [.int .i64 n48, .int .i64 n49, .int .i64 n50, .sl q51], .bool b52] ∧
 AC Try.prog 27 [.ptr p7] h47 fun v53 h54 => ∃ n55 : Int, ∃ n56 : Int, ∃ n57 : Int, ∃ q58 : Option SL, ∃ b59 : Bool, v53 = .tup [.agg [.int .i64 n55, .int .i64 n56, .int .i64 n57, .sl q58], .bool b59] ∧
 AC Try.prog 26 [.ptr p7] h54 fun v60 h61 => ∃ q62 : Option SL, v60 = .sl q62 ∧
 AC Try.prog 28 [.sl q33, .sl q62] h61 fun v63 h64 => ∃ b65 : Bool, v63 = .bool b65 ∧
 vif b65
 (AC Try.prog 29 [.ptr p4] h64 fun v66 h67 => ∃ n68 : Int, v66 = .int .i64 n68 ∧
 AC Try.prog 29 [.ptr p7] h67 fun v69 h70 => ∃ n71 : Int, v69 = .int .i64 n71 ∧
 vif (n68 == n71)
 (vif (b52 == b59)
 (AC Try.prog 16 [.agg [.int .i64 n48, .int .i64 n49, .int .i64 n50, .sl q51], .agg [.int .i64 n55, .int .i64 n56, .int .i64 n57, .sl q58]] h70 fun v72 h73 => ∃ b74 : Bool, v72 = .bool b74 ∧
 Q (.bool b74) h73)
 (Q (.bool false) h70))
 (Q (.bool false) h70))
 (Q (.bool false) h64))))
 (AC Try.prog 26 [.ptr p4] h14 fun v75 h76 => ∃ q77 : Option SL, v75 = .sl q77 ∧
 ∃ (I79 : List AV → Heap → Prop) (m80 : List AV → Heap → Nat), I79 [.int .i64 0] h76 ∧
 ∀ n78 : Int, ∀ h81 : Heap, I79 [.int .i64 n78] h81 →
 vif (decide (n78 < (slLen q77 : Int)))
 (vIdx q77 n78 4 fun p82 =>
 ∃ n83 : Int, ∃ n84 : Int, ∃ n85 : Int, ∃ q86 : Option SL, cellsAt h81 p82 4 = some [.int .i64 n83, .int .i64 n84, .int .i64 n85, .sl q86] ∧
 AC Try.prog 23 [.ptr p7, .agg [.int .i64 n83, .int .i64 n84, .int .i64 n85, .sl q86]] h81 fun v87 h88 => ∃ n89 : Int, v87 = .int .i64 n89 ∧
 vif (n89 != 0)
 (Q (.bool false) h88)
 ((True) ∧ I79 [.int .i64 (wrapK .i64 (n78 + 1))] h88 ∧ m80 [.int .i64 (wrapK .i64 (n78 + 1))] h88 < m80 [.int .i64 n78] h81))
 (AC Try.prog 27 [.ptr p4] h81 fun v90 h91 => ∃ n92 : Int, ∃ n93 : Int, ∃ n94 : Int, ∃ q95 : Option SL, ∃ b96 : Bool, v90 = .tup [.agg [.int .i64 n92, .int .i64 n93, .int .i64 n94, .sl q95], .bool b96] ∧
 AC Try.prog 27 [.ptr p7] h91 fun v97 h98 => ∃ n99 : Int, ∃ n100 : Int, ∃ n101 : Int, ∃ q102 : Option SL, ∃ b103 : Bool, v97 = .tup [.agg [.int .i64 n99, .int .i64 n100, .int .i64 n101, .sl q102], .bool b103] ∧
 AC Try.prog 26 [.ptr p7] h98 fun v104 h105 => ∃ q106 : Option SL, v104 = .sl q106 ∧
 AC Try.prog 28 [.sl q77, .sl q106] h105 fun v107 h108 => ∃ b109 : Bool, v107 = .bool b109 ∧
 vif b109
 (AC Try.prog 29 [.ptr p4] h108 fun v110 h111 => ∃ n112 : Int, v110 = .int .i64 n112 ∧
 AC Try.prog 29 [.ptr p7] h111 fun v113 h114 => ∃ n115 : Int, v113 = .int .i64 n115 ∧
 vif (n112 == n115)
 (vif (b96 == b103)
 (AC Try.prog 16 [.agg [.int .i64 n92, .int .i64 n93, .int .i64 n94, .sl q95], .agg [.int .i64 n99, .int .i64 n100, .int .i64 n101, .sl q102]] h114 fun v116 h117 => ∃ b118 : Bool, v116 = .bool b118 ∧
 Q (.bool b118) h117)
 (Q (.bool false) h114))
 (Q (.bool false) h114))
 (Q (.bool false) h108))))))
theorem ac6 {q1 : Option SL} {h : Heap} {Q : AV → Heap → Prop} (hk : vc6 q1 h Q) : AC Try.prog 6 [.sl q1] h Q :=
 AC_by (H := hintsOf [8, 10] [(0, [5], []), (2, [7], [])]) (by kernel_rfl) (by kernel_rfl) hk

/-- edit.New: what it asks. -/
def vc22  (h : Heap) (Q : AV → Heap → Prop) : Prop :=
 PNew [.sl none, .int .i64 0, .int .i64 0, .int .i64 0, .sl none, .bool false] true h fun a1 h2 =>
 Q (.ptr (some ⟨a1, 0⟩)) h2
theorem ac22  {h : Heap} {Q : AV → Heap → Prop} (hk : vc22  h Q) : AC Try.prog 22 [] h Q :=
 AC_by (H := hintsOf [] []) (by kernel_rfl) (by kernel_rfl) hk

/-- moment.Check: what it asks. -/
def vc67 (n1 : Int) (n2 : Int) (h : Heap) (Q : AV → Heap → Prop) : Prop :=
 vif (decide (n1 < 0))
 (Q (.int .i64 40) h)
 (vif (decide (n1 ≥ 65536))
 (Q (.int .i64 40) h)
 (vif (decide (n2 < 0))
 (Q (.int .i64 40) h)
 (vif (decide (n2 ≥ 65536))
 (Q (.int .i64 40) h)
 (Q (.int .i64 0) h))))
theorem ac67 {n1 : Int} {n2 : Int} {h : Heap} {Q : AV → Heap → Prop} (hk : vc67 n1 n2 h Q) : AC Try.prog 67 [.agg [.int .i64 n1, .int .i64 n2]] h Q :=
 AC_by (H := hintsOf [1] []) (by kernel_rfl) (by kernel_rfl) hk

/-- edit.ref: what it asks. -/
def vc66 (s1 : List UInt8) (n2 : Int) (n3 : Int) (h : Heap) (Q : AV → Heap → Prop) : Prop :=
 vif (decide ((s1.length : Int) ≥ 1))
 (vif (decide ((s1.length : Int) ≤ 24))
 (vif (decide (n2 ≥ 1))
 (vif (decide (n2 ≤ 2305843009213693952))
 (vif (decide (n3 ≥ 0))
 (Q (.bool (decide (n3 ≤ 16384))) h)
 (Q (.bool false) h))
 (Q (.bool false) h))
 (Q (.bool false) h))
 (Q (.bool false) h))
 (Q (.bool false) h)
theorem ac66 {s1 : List UInt8} {n2 : Int} {n3 : Int} {h : Heap} {Q : AV → Heap → Prop} (hk : vc66 s1 n2 n3 h Q) : AC Try.prog 66 [.agg [.str s1, .int .i64 n2, .int .i64 n3]] h Q :=
 AC_by (H := hintsOf [1] []) (by kernel_rfl) (by kernel_rfl) hk

/-- edit.Check$1: what it asks. -/
def vc65 (s1 : List UInt8) (n2 : Int) (n3 : Int) (h : Heap) (Q : AV → Heap → Prop) : Prop :=
 AC Try.prog 66 [.agg [.str s1, .int .i64 n2, .int .i64 n3]] h fun v4 h5 => ∃ b6 : Bool, v4 = .bool b6 ∧
 Q (.bool (!b6)) h5
theorem ac65 {s1 : List UInt8} {n2 : Int} {n3 : Int} {h : Heap} {Q : AV → Heap → Prop} (hk : vc65 s1 n2 n3 h Q) : AC Try.prog 65 [.agg [.str s1, .int .i64 n2, .int .i64 n3]] h Q :=
 AC_by (H := hintsOf [1] []) (by kernel_rfl) (by kernel_rfl) hk

/-- edit.State).goes: what it asks. -/
def vc79 (p1 : Option PA) (n2 : Int) (n3 : Int) (n4 : Int) (q5 : Option SL) (h : Heap) (Q : AV → Heap → Prop) : Prop :=
 vPtr p1 fun p6 =>
 ∃ q7 : Option SL, cellsAt h ⟨p6.b, p6.o + 0⟩ 1 = some [.sl q7] ∧
 vif (n3 != (slLen q7 : Int))
 (Q (.bool false) h)
 (vif (n2 == 2)
 (Q (.bool true) h)
 (vPtr p1 fun p8 =>
 ∃ b9 : Bool, cellsAt h ⟨p8.b, p8.o + 5⟩ 1 = some [.bool b9] ∧
 vif (!b9)
 (Q (.bool true) h)
 (vPtr p1 fun p10 =>
 ∃ n11 : Int, cellsAt h ⟨p10.b, ((p10.o + 1) + 1) + 1⟩ 1 = some [.int .i64 n11] ∧
 Q (.bool (decide (n4 > n11))) h)))
theorem ac79 {p1 : Option PA} {n2 : Int} {n3 : Int} {n4 : Int} {q5 : Option SL} {h : Heap} {Q : AV → Heap → Prop} (hk : vc79 p1 n2 n3 n4 q5 h Q) : AC Try.prog 79 [.ptr p1, .agg [.int .i64 n2, .int .i64 n3, .int .i64 n4, .sl q5]] h Q :=
 AC_by (H := hintsOf [3] []) (by kernel_rfl) (by kernel_rfl) hk

/-- api.Ref]: what it asks. -/
def vc119 (q1 : Option SL) (h : Heap) (Q : AV → Heap → Prop) : Prop :=
 vif (q1.isNone)
 (Q (.sl none) h)
 (PNew [] true h fun a2 h3 =>
 PAppendS 3 32 (some ⟨a2, 0, 0, 0, 0⟩) q1 h3 fun q4 h5 =>
 Q (.sl q4) h5)
theorem ac119 {q1 : Option SL} {h : Heap} {Q : AV → Heap → Prop} (hk : vc119 q1 h Q) : AC Try.prog 119 [.sl q1] h Q :=
 AC_by (H := hintsOf [] []) (by kernel_rfl) (by kernel_rfl) hk

/-- edit.clone: what it asks. -/
def vc80 (n1 : Int) (n2 : Int) (n3 : Int) (q4 : Option SL) (h : Heap) (Q : AV → Heap → Prop) : Prop :=
 AC Try.prog 119 [.sl q4] h fun v5 h6 => ∃ q7 : Option SL, v5 = .sl q7 ∧
 Q (.agg [.int .i64 n1, .int .i64 n2, .int .i64 n3, .sl q7]) h6
theorem ac80 {n1 : Int} {n2 : Int} {n3 : Int} {q4 : Option SL} {h : Heap} {Q : AV → Heap → Prop} (hk : vc80 n1 n2 n3 q4 h Q) : AC Try.prog 80 [.agg [.int .i64 n1, .int .i64 n2, .int .i64 n3, .sl q4]] h Q :=
 AC_by (H := hintsOf [1, 2] []) (by kernel_rfl) (by kernel_rfl) hk

/-- edit.State).Mark: what it asks. -/
def vc27 (p1 : Option PA) (h : Heap) (Q : AV → Heap → Prop) : Prop :=
 vif (p1.isNone)
 (Q (.tup [.agg [.int .i64 0, .int .i64 0, .int .i64 0, .sl none], .bool false]) h)
 (vPtr p1 fun p2 =>
 ∃ n3 : Int, ∃ n4 : Int, ∃ n5 : Int, ∃ q6 : Option SL, cellsAt h ⟨p2.b, p2.o + 1⟩ 4 = some [.int .i64 n3, .int .i64 n4, .int .i64 n5, .sl q6] ∧
 vPtr p1 fun p7 =>
 ∃ b8 : Bool, cellsAt h ⟨p7.b, p7.o + 5⟩ 1 = some [.bool b8] ∧
 AC Try.prog 80 [.agg [.int .i64 n3, .int .i64 n4, .int .i64 n5, .sl q6]] h fun v9 h10 => ∃ n11 : Int, ∃ n12 : Int, ∃ n13 : Int, ∃ q14 : Option SL, v9 = .agg [.int .i64 n11, .int .i64 n12, .int .i64 n13, .sl q14] ∧
 (∃ b16 : Bool, cellsAt h10 ⟨p7.b, p7.o + 5⟩ 1 = some [.bool b16] ∧
 LV.val (.bool b16) = LV.val (.bool b8)) ∧
 (∃ b15 : Bool, cellsAt h10 ⟨p7.b, p7.o + 5⟩ 1 = some [.bool b15] ∧
 LV.val (.bool b15) = LV.val (.bool b8)) ∧
 Q (.tup [.agg [.int .i64 n11, .int .i64 n12, .int .i64 n13, .sl q14], .bool b8]) h10)
theorem ac27 {p1 : Option PA} {h : Heap} {Q : AV → Heap → Prop} (hk : vc27 p1 h Q) : AC Try.prog 27 [.ptr p1] h Q :=
 AC_by (H := hintsOf [2] []) (by kernel_rfl) (by kernel_rfl) hk

/-- edit.State).Edits: what it asks. -/
def vc26 (p1 : Option PA) (h : Heap) (Q : AV → Heap → Prop) : Prop :=
 AC Try.prog 29 [.ptr p1] h fun v2 h3 => ∃ n4 : Int, v2 = .int .i64 n4 ∧
 ∃ (I7 : List AV → Heap → Prop) (m8 : List AV → Heap → Nat), I7 [.sl none, .int .i64 0] h3 ∧
 ∀ q5 : Option SL, ∀ n6 : Int, ∀ h9 : Heap, I7 [.sl q5, .int .i64 n6] h9 →
 vif (decide (n6 < n4))
 (vPtr p1 fun p10 =>
 ∃ q11 : Option SL, cellsAt h9 ⟨p10.b, p10.o + 0⟩ 1 = some [.sl q11] ∧
 vIdx q11 n6 4 fun p12 =>
 ∃ n13 : Int, ∃ n14 : Int, ∃ n15 : Int, ∃ q16 : Option SL, cellsAt h9 p12 4 = some [.int .i64 n13, .int .i64 n14, .int .i64 n15, .sl q16] ∧
 AC Try.prog 80 [.agg [.int .i64 n13, .int .i64 n14, .int .i64 n15, .sl q16]] h9 fun v17 h18 => ∃ n19 : Int, ∃ n20 : Int, ∃ n21 : Int, ∃ q22 : Option SL, v17 = .agg [.int .i64 n19, .int .i64 n20, .int .i64 n21, .sl q22] ∧
 PNew [.int .i64 n19, .int .i64 n20, .int .i64 n21, .sl q22] true h18 fun a23 h24 =>
 PAppendS 4 48 q5 (some ⟨a23, 0, 1, 1, 0⟩) h24 fun q25 h26 =>
 (True) ∧ I7 [.sl q25, .int .i64 (wrapK .i64 (n6 + 1))] h26 ∧ m8 [.sl q25, .int .i64 (wrapK .i64 (n6 + 1))] h26 < m8 [.sl q5, .int .i64 n6] h9)
 (AC Try.prog 27 [.ptr p1] h9 fun v27 h28 => ∃ n29 : Int, ∃ n30 : Int, ∃ n31 : Int, ∃ q32 : Option SL, ∃ b33 : Bool, v27 = .tup [.agg [.int .i64 n29, .int .i64 n30, .int .i64 n31, .sl q32], .bool b33] ∧
 vif b33
 (PNew [.int .i64 n29, .int .i64 n30, .int .i64 n31, .sl q32] true h28 fun a34 h35 =>
 PAppendS 4 48 q5 (some ⟨a34, 0, 1, 1, 0⟩) h35 fun q36 h37 =>
 Q (.sl q36) h37)
 (Q (.sl q5) h28))
theorem ac26 {p1 : Option PA} {h : Heap} {Q : AV → Heap → Prop} (hk : vc26 p1 h Q) : AC Try.prog 26 [.ptr p1] h Q :=
 AC_by (H := hintsOf [5] [(0, [3, 9], [])]) (by kernel_rfl) (by kernel_rfl) hk

/-- oxbowref14.SameList: what it asks. -/
def vc28 (q1 : Option SL) (q2 : Option SL) (h : Heap) (Q : AV → Heap → Prop) : Prop :=
 vif ((slLen q1 : Int) != (slLen q2 : Int))
 (Q (.bool false) h)
 (∃ (I4 : List AV → Heap → Prop) (m5 : List AV → Heap → Nat), I4 [.int .i64 0] h ∧
 ∀ n3 : Int, ∀ h6 : Heap, I4 [.int .i64 n3] h6 →
 vif (decide (n3 < (slLen q1 : Int)))
 (vIdx q1 n3 4 fun p7 =>
 ∃ n8 : Int, ∃ n9 : Int, ∃ n10 : Int, ∃ q11 : Option SL, cellsAt h6 p7 4 = some [.int .i64 n8, .int .i64 n9, .int .i64 n10, .sl q11] ∧
 vIdx q2 n3 4 fun p12 =>
 ∃ n13 : Int, ∃ n14 : Int, ∃ n15 : Int, ∃ q16 : Option SL, cellsAt h6 p12 4 = some [.int .i64 n13, .int .i64 n14, .int .i64 n15, .sl q16] ∧
 AC Try.prog 16 [.agg [.int .i64 n8, .int .i64 n9, .int .i64 n10, .sl q11], .agg [.int .i64 n13, .int .i64 n14, .int .i64 n15, .sl q16]] h6 fun v17 h18 => ∃ b19 : Bool, v17 = .bool b19 ∧
 vif (!b19)
 (Q (.bool false) h18)
 ((True) ∧ I4 [.int .i64 (wrapK .i64 (n3 + 1))] h18 ∧ m5 [.int .i64 (wrapK .i64 (n3 + 1))] h18 < m5 [.int .i64 n3] h6))
 (Q (.bool true) h6))
theorem ac28 {q1 : Option SL} {q2 : Option SL} {h : Heap} {Q : AV → Heap → Prop} (hk : vc28 q1 q2 h Q) : AC Try.prog 28 [.sl q1, .sl q2] h Q :=
 AC_by (H := hintsOf [] [(0, [5], [])]) (by kernel_rfl) (by kernel_rfl) hk

/-- oxbowref14.Same: what it asks. -/
def vc16 (n1 : Int) (n2 : Int) (n3 : Int) (q4 : Option SL) (n5 : Int) (n6 : Int) (n7 : Int) (q8 : Option SL) (h : Heap) (Q : AV → Heap → Prop) : Prop :=
 vif (n1 != n5)
 (Q (.bool false) h)
 (vif (!((n2 == n6) && ((n3 == n7) && true)))
 (Q (.bool false) h)
 (vif ((slLen q4 : Int) != (slLen q8 : Int))
 (Q (.bool false) h)
 (∃ (I10 : List AV → Heap → Prop) (m11 : List AV → Heap → Nat), I10 [.int .i64 0] h ∧
 ∀ n9 : Int, ∀ h12 : Heap, I10 [.int .i64 n9] h12 →
 vif (decide (n9 < (slLen q4 : Int)))
 (vIdx q4 n9 3 fun p13 =>
 ∃ s14 : List UInt8, ∃ n15 : Int, ∃ n16 : Int, cellsAt h12 p13 3 = some [.str s14, .int .i64 n15, .int .i64 n16] ∧
 vIdx q8 n9 3 fun p17 =>
 ∃ s18 : List UInt8, ∃ n19 : Int, ∃ n20 : Int, cellsAt h12 p17 3 = some [.str s18, .int .i64 n19, .int .i64 n20] ∧
 vif (!((s14 == s18) && ((n15 == n19) && ((n16 == n20) && true))))
 (Q (.bool false) h12)
 (((some [.int .i64 n5, .int .i64 n6, .int .i64 n7, .sl q8] : Option (List AV)) = some [.int .i64 n5, .int .i64 n6, .int .i64 n7, .sl q8] ∧ (some [.int .i64 n1, .int .i64 n2, .int .i64 n3, .sl q4] : Option (List AV)) = some [.int .i64 n1, .int .i64 n2, .int .i64 n3, .sl q4] ∧ True) ∧ I10 [.int .i64 (wrapK .i64 (n9 + 1))] h12 ∧ m11 [.int .i64 (wrapK .i64 (n9 + 1))] h12 < m11 [.int .i64 n9] h12))
 (Q (.bool true) h12))))
theorem ac16 {n1 : Int} {n2 : Int} {n3 : Int} {q4 : Option SL} {n5 : Int} {n6 : Int} {n7 : Int} {q8 : Option SL} {h : Heap} {Q : AV → Heap → Prop} (hk : vc16 n1 n2 n3 q4 n5 n6 n7 q8 h Q) : AC Try.prog 16 [.agg [.int .i64 n1, .int .i64 n2, .int .i64 n3, .sl q4], .agg [.int .i64 n5, .int .i64 n6, .int .i64 n7, .sl q8]] h Q :=
 AC_by (H := hintsOf [2, 3] [(0, [5], [])]) (by kernel_rfl) (by kernel_rfl) hk

/-- edit.Check: what it asks. -/
def vc18 (n1 : Int) (n2 : Int) (n3 : Int) (q4 : Option SL) (h : Heap) (Q : AV → Heap → Prop) : Prop :=
 vif (n1 == 1)
 (AC Try.prog 67 [.agg [.int .i64 n2, .int .i64 n3]] h fun v5 h6 => ∃ n7 : Int, v5 = .int .i64 n7 ∧
 vif (n7 != 0)
 (Q (.int .i64 140) h6)
 (vif (decide ((slLen q4 : Int) > 256))
 (Q (.int .i64 140) h6)
 (AC Try.prog 68 [.sl q4, .func (.func 65) [] []] h6 fun v8 h9 => ∃ b10 : Bool, v8 = .bool b10 ∧
 vif b10
 (Q (.int .i64 140) h9)
 (Q (.int .i64 0) h9))))
 (vif (n1 == 2)
 (vif (!(n3 == 0))
 (Q (.int .i64 140) h)
 (AC Try.prog 67 [.agg [.int .i64 n2, .int .i64 n3]] h fun v11 h12 => ∃ n13 : Int, v11 = .int .i64 n13 ∧
 vif (n13 != 0)
 (Q (.int .i64 140) h12)
 (vif (decide ((slLen q4 : Int) > 256))
 (Q (.int .i64 140) h12)
 (AC Try.prog 68 [.sl q4, .func (.func 65) [] []] h12 fun v14 h15 => ∃ b16 : Bool, v14 = .bool b16 ∧
 vif b16
 (Q (.int .i64 140) h15)
 (Q (.int .i64 0) h15)))))
 (Q (.int .i64 140) h))
theorem ac18 {n1 : Int} {n2 : Int} {n3 : Int} {q4 : Option SL} {h : Heap} {Q : AV → Heap → Prop} (hk : vc18 n1 n2 n3 q4 h Q) : AC Try.prog 18 [.agg [.int .i64 n1, .int .i64 n2, .int .i64 n3, .sl q4]] h Q :=
 AC_by (H := hintsOf [1] []) (by kernel_rfl) (by kernel_rfl) hk

/-- api.Ref]: what it asks. -/
def vc109 (q1 : Option SL) (h : Heap) (Q : AV → Heap → Prop) : Prop :=
 ∃ (I3 : List AV → Heap → Prop) (m4 : List AV → Heap → Nat), I3 [.int .i64 0] h ∧
 ∀ n2 : Int, ∀ h5 : Heap, I3 [.int .i64 n2] h5 →
 vif (decide (n2 < (slLen q1 : Int)))
 (vIdx q1 n2 3 fun p6 =>
 ∃ s7 : List UInt8, ∃ n8 : Int, ∃ n9 : Int, cellsAt h5 p6 3 = some [.str s7, .int .i64 n8, .int .i64 n9] ∧
 AC Try.prog 65 [.agg [.str s7, .int .i64 n8, .int .i64 n9]] h5 fun v10 h11 => ∃ b12 : Bool, v10 = .bool b12 ∧
 vif b12
 (Q (.int .i64 n2) h11)
 ((True) ∧ I3 [.int .i64 (wrapK .i64 (n2 + 1))] h11 ∧ m4 [.int .i64 (wrapK .i64 (n2 + 1))] h11 < m4 [.int .i64 n2] h5))
 (Q (.int .i64 (-1)) h5)
theorem ac109 {q1 : Option SL} {h : Heap} {Q : AV → Heap → Prop} (hk : vc109 q1 h Q) : AC Try.prog 109 [.sl q1, .func (.func 65) [] []] h Q :=
 AC_by (H := hintsOf [] [(0, [8], [])]) (by kernel_rfl) (by kernel_rfl) hk

/-- api.Ref]: what it asks. -/
def vc68 (q1 : Option SL) (h : Heap) (Q : AV → Heap → Prop) : Prop :=
 AC Try.prog 109 [.sl q1, .func (.func 65) [] []] h fun v2 h3 => ∃ n4 : Int, v2 = .int .i64 n4 ∧
 Q (.bool (decide (n4 ≥ 0))) h3
theorem ac68 {q1 : Option SL} {h : Heap} {Q : AV → Heap → Prop} (hk : vc68 q1 h Q) : AC Try.prog 68 [.sl q1, .func (.func 65) [] []] h Q :=
 AC_by (H := hintsOf [] []) (by kernel_rfl) (by kernel_rfl) hk

end Go.Proofs

/- Conditions, printed. -/
namespace Go.Proofs
open Go.Ab
set_option maxRecDepth 100000
set_option linter.unusedVariables false

/-- oxbowlaw14.large: what it asks. -/
def vc12 (n1 : Int) (n2 : Int) (n3 : Int) (q4 : Option SL) (h : Heap) (Q : AV → Heap → Prop) : Prop :=
 ∃ (I7 : List AV → Heap → Prop) (m8 : List AV → Heap → Nat), I7 [.int .i64 0, .int .i64 0] h ∧
 ∀ n5 : Int, ∀ n6 : Int, ∀ h9 : Heap, I7 [.int .i64 n5, .int .i64 n6] h9 →
 vif (decide (n6 < (slLen q4 : Int)))
 (vif (decide (n6 < 300))
 (vIdx q4 n6 3 fun p10 =>
 ∃ s11 : List UInt8, cellsAt h9 ⟨p10.b, p10.o + 0⟩ 1 = some [.str s11] ∧
 vif (decide ((wrapK .i64 (n5 + (s11.length : Int))) > 10000))
 (Q (.bool true) h9)
 (((some [.int .i64 n1, .int .i64 n2, .int .i64 n3, .sl q4] : Option (List AV)) = some [.int .i64 n1, .int .i64 n2, .int .i64 n3, .sl q4] ∧ True) ∧ I7 [.int .i64 (wrapK .i64 (n5 + (s11.length : Int))), .int .i64 (wrapK .i64 (n6 + 1))] h9 ∧ m8 [.int .i64 (wrapK .i64 (n5 + (s11.length : Int))), .int .i64 (wrapK .i64 (n6 + 1))] h9 < m8 [.int .i64 n5, .int .i64 n6] h9))
 (Q (.bool (decide ((slLen q4 : Int) > 300))) h9))
 (Q (.bool (decide ((slLen q4 : Int) > 300))) h9)
theorem ac12 {n1 : Int} {n2 : Int} {n3 : Int} {q4 : Option SL} {h : Heap} {Q : AV → Heap → Prop} (hk : vc12 n1 n2 n3 q4 h Q) : AC Try.prog 12 [.agg [.int .i64 n1, .int .i64 n2, .int .i64 n3, .sl q4]] h Q :=
 AC_by (H := hintsOf [1] [(0, [3, 4], [])]) (by kernel_rfl) (by kernel_rfl) hk

/-- oxbowlaw14.EditNobody: what it asks. -/
def vc7 (n1 : Int) (n2 : Int) (n3 : Int) (q4 : Option SL) (n5 : Int) (h : Heap) (Q : AV → Heap → Prop) : Prop :=
 AC Try.prog 12 [.agg [.int .i64 n1, .int .i64 n2, .int .i64 n3, .sl q4]] h fun v6 h7 => ∃ b8 : Bool, v6 = .bool b8 ∧
 vif b8
 (AC Try.prog 13 [] h7 fun v9 h10 => ∃ b11 : Bool, v9 = .bool b11 ∧
 Q (.bool b11) h10)
 (AC Try.prog 27 [.ptr none] h7 fun v12 h13 => ∃ n14 : Int, ∃ n15 : Int, ∃ n16 : Int, ∃ q17 : Option SL, ∃ b18 : Bool, v12 = .tup [.agg [.int .i64 n14, .int .i64 n15, .int .i64 n16, .sl q17], .bool b18] ∧
 AC Try.prog 30 [.ptr none, .int .i64 n5] h13 fun v19 h20 => ∃ n21 : Int, ∃ n22 : Int, ∃ n23 : Int, ∃ q24 : Option SL, ∃ b25 : Bool, v19 = .tup [.agg [.int .i64 n21, .int .i64 n22, .int .i64 n23, .sl q24], .bool b25] ∧
 AC Try.prog 13 [] h20 fun v26 h27 => ∃ b28 : Bool, v26 = .bool b28 ∧
 vif b28
 (AC Try.prog 23 [.ptr none, .agg [.int .i64 n1, .int .i64 n2, .int .i64 n3, .sl q4]] h27 fun v29 h30 => ∃ n31 : Int, v29 = .int .i64 n31 ∧
 vif (n31 == 6)
 (AC Try.prog 29 [.ptr none] h30 fun v32 h33 => ∃ n34 : Int, v32 = .int .i64 n34 ∧
 vif (n34 == 0)
 (vif (!b18)
 (vif (!b25)
 (AC Try.prog 26 [.ptr none] h33 fun v35 h36 => ∃ q37 : Option SL, v35 = .sl q37 ∧
 vif ((slLen q37 : Int) == 0)
 (AC Try.prog 31 [.ptr none] h36 fun v38 h39 => ∃ q40 : Option SL, v38 = .sl q40 ∧
 Q (.bool ((slLen q40 : Int) == 0)) h39)
 (Q (.bool false) h36))
 (Q (.bool false) h33))
 (Q (.bool false) h33))
 (Q (.bool false) h33))
 (Q (.bool false) h30))
 (Q (.bool false) h27))
theorem ac7 {n1 : Int} {n2 : Int} {n3 : Int} {q4 : Option SL} {n5 : Int} {h : Heap} {Q : AV → Heap → Prop} (hk : vc7 n1 n2 n3 q4 n5 h Q) : AC Try.prog 7 [.agg [.int .i64 n1, .int .i64 n2, .int .i64 n3, .sl q4], .int .i64 n5] h Q :=
 AC_by (H := hintsOf [2, 6, 8] []) (by kernel_rfl) (by kernel_rfl) hk

/-- edit.State).Done: what it asks. -/
def vc30 (p1 : Option PA) (n2 : Int) (h : Heap) (Q : AV → Heap → Prop) : Prop :=
 vif (decide (n2 < 0))
 (Q (.tup [.agg [.int .i64 0, .int .i64 0, .int .i64 0, .sl none], .bool false]) h)
 (AC Try.prog 29 [.ptr p1] h fun v3 h4 => ∃ n5 : Int, v3 = .int .i64 n5 ∧
 vif (decide (n2 ≥ n5))
 (Q (.tup [.agg [.int .i64 0, .int .i64 0, .int .i64 0, .sl none], .bool false]) h4)
 (vPtr p1 fun p6 =>
 ∃ q7 : Option SL, cellsAt h4 ⟨p6.b, p6.o + 0⟩ 1 = some [.sl q7] ∧
 vIdx q7 n2 4 fun p8 =>
 ∃ n9 : Int, ∃ n10 : Int, ∃ n11 : Int, ∃ q12 : Option SL, cellsAt h4 p8 4 = some [.int .i64 n9, .int .i64 n10, .int .i64 n11, .sl q12] ∧
 AC Try.prog 80 [.agg [.int .i64 n9, .int .i64 n10, .int .i64 n11, .sl q12]] h4 fun v13 h14 => ∃ n15 : Int, ∃ n16 : Int, ∃ n17 : Int, ∃ q18 : Option SL, v13 = .agg [.int .i64 n15, .int .i64 n16, .int .i64 n17, .sl q18] ∧
 Q (.tup [.agg [.int .i64 n15, .int .i64 n16, .int .i64 n17, .sl q18], .bool true]) h14))
theorem ac30 {p1 : Option PA} {n2 : Int} {h : Heap} {Q : AV → Heap → Prop} (hk : vc30 p1 n2 h Q) : AC Try.prog 30 [.ptr p1, .int .i64 n2] h Q :=
 AC_by (H := hintsOf [4] []) (by kernel_rfl) (by kernel_rfl) hk

/-- edit.State).Apply: what it asks. -/
def vc23 (p1 : Option PA) (n2 : Int) (n3 : Int) (n4 : Int) (q5 : Option SL) (h : Heap) (Q : AV → Heap → Prop) : Prop :=
 vif (p1.isNone)
 (Q (.int .i64 6) h)
 (AC Try.prog 18 [.agg [.int .i64 n2, .int .i64 n3, .int .i64 n4, .sl q5]] h fun v6 h7 => ∃ n8 : Int, v6 = .int .i64 n8 ∧
 vif (n8 != 0)
 (Q (.int .i64 n8) h7)
 (AC Try.prog 79 [.ptr p1, .agg [.int .i64 n2, .int .i64 n3, .int .i64 n4, .sl q5]] h7 fun v9 h10 => ∃ b11 : Bool, v9 = .bool b11 ∧
 vif (!b11)
 (Q (.int .i64 1) h10)
 (vPtr p1 fun p12 =>
 PStore h10 ⟨p12.b, p12.o + 1⟩ [.int .i64 0, .int .i64 0, .int .i64 0, .sl none] fun h13 =>
 vPtr p1 fun p14 =>
 PStore h13 ⟨p14.b, p14.o + 5⟩ [.bool false] fun h15 =>
 vif (n2 == 2)
 (vPtr p1 fun p16 =>
 ∃ q17 : Option SL, cellsAt h15 ⟨p16.b, p16.o + 0⟩ 1 = some [.sl q17] ∧
 AC Try.prog 80 [.agg [.int .i64 n2, .int .i64 n3, .int .i64 n4, .sl q5]] h15 fun v18 h19 => ∃ n20 : Int, ∃ n21 : Int, ∃ n22 : Int, ∃ q23 : Option SL, v18 = .agg [.int .i64 n20, .int .i64 n21, .int .i64 n22, .sl q23] ∧
 (∃ q31 : Option SL, cellsAt h19 ⟨p16.b, p16.o + 0⟩ 1 = some [.sl q31] ∧
 LV.val (.sl q31) = LV.val (.sl q17)) ∧
 PNew [.int .i64 n20, .int .i64 n21, .int .i64 n22, .sl q23] true h19 fun a24 h25 =>
 (∃ q30 : Option SL, cellsAt h25 ⟨p16.b, p16.o + 0⟩ 1 = some [.sl q30] ∧
 LV.val (.sl q30) = LV.val (.sl q17)) ∧
 PAppendS 4 48 q17 (some ⟨a24, 0, 1, 1, 0⟩) h25 fun q26 h27 =>
 vPtr p1 fun p28 =>
 PStore h27 ⟨p28.b, p28.o + 0⟩ [.sl q26] fun h29 =>
 Q (.int .i64 0) h29)
 (AC Try.prog 80 [.agg [.int .i64 n2, .int .i64 n3, .int .i64 n4, .sl q5]] h15 fun v32 h33 => ∃ n34 : Int, ∃ n35 : Int, ∃ n36 : Int, ∃ q37 : Option SL, v32 = .agg [.int .i64 n34, .int .i64 n35, .int .i64 n36, .sl q37] ∧
 vPtr p1 fun p38 =>
 PStore h33 ⟨p38.b, p38.o + 1⟩ [.int .i64 n34, .int .i64 n35, .int .i64 n36, .sl q37] fun h39 =>
 vPtr p1 fun p40 =>
 PStore h39 ⟨p40.b, p40.o + 5⟩ [.bool true] fun h41 =>
 Q (.int .i64 0) h41))))
theorem ac23 {p1 : Option PA} {n2 : Int} {n3 : Int} {n4 : Int} {q5 : Option SL} {h : Heap} {Q : AV → Heap → Prop} (hk : vc23 p1 n2 n3 n4 q5 h Q) : AC Try.prog 23 [.ptr p1, .agg [.int .i64 n2, .int .i64 n3, .int .i64 n4, .sl q5]] h Q :=
 AC_by (H := hintsOf [3] []) (by kernel_rfl) (by kernel_rfl) hk

/-- edit.State).Next: what it asks. -/
def vc29 (p1 : Option PA) (h : Heap) (Q : AV → Heap → Prop) : Prop :=
 vif (p1.isNone)
 (Q (.int .i64 0) h)
 (vPtr p1 fun p2 =>
 ∃ q3 : Option SL, cellsAt h ⟨p2.b, p2.o + 0⟩ 1 = some [.sl q3] ∧
 Q (.int .i64 (slLen q3 : Int)) h)
theorem ac29 {p1 : Option PA} {h : Heap} {Q : AV → Heap → Prop} (hk : vc29 p1 h Q) : AC Try.prog 29 [.ptr p1] h Q :=
 AC_by (H := hintsOf [] []) (by kernel_rfl) (by kernel_rfl) hk

end Go.Proofs
