/- Conditions, printed. -/
import Derived.Test.YtceplmmmlindnaaCAb18
import Derived.Test.YtceplmmmlindnaaProg
import Derived.KernelRfl
namespace Go.Proofs
open Go.Ab
set_option maxRecDepth 100000
set_option linter.unusedVariables false

/-- oxbowlaw14.EditMakes: what it asks. -/
def vc6 (q1 : Option SL) (h : Heap) (Q : AV → Heap → Prop) : Prop :=
 AC Try.prog 22 [] h fun v2 h3 => ∃ p4 : Option PA, v2 = .ptr p4 ∧
 AC Try.prog 22 [] h3 fun v5 h6 => ∃ p7 : Option PA, v5 = .ptr p7 ∧
 AC Try.prog 13 [] h6 fun v8 h9 => ∃ b10 : Bool, v8 = .bool b10 ∧
 vif (!b10)
 (Q (.bool false) h9)
 (vif (p4.isNone)
 (Q (.bool false) h9)
 (vif (p7.isNone)
 (Q (.bool false) h9)
 (∃ (I12 : List AV → Heap → Prop) (m13 : List AV → Heap → Nat), I12 [.int .i64 0] h9 ∧
 ∀ n11 : Int, ∀ h14 : Heap, I12 [.int .i64 n11] h14 →
 vif (decide (n11 < (slLen q1 : Int)))
 (vif (decide (n11 < 60))
 (vIdx q1 n11 4 fun p15 =>
 ∃ n16 : Int, ∃ n17 : Int, ∃ n18 : Int, ∃ q19 : Option SL, cellsAt h14 p15 4 = some [.int .i64 n16, .int .i64 n17, .int .i64 n18, .sl q19] ∧
 AC Try.prog 12 [.agg [.int .i64 n16, .int .i64 n17, .int .i64 n18, .sl q19]] h14 fun v20 h21 => ∃ b22 : Bool, v20 = .bool b22 ∧
 vif (!b22)
 (vIdx q1 n11 4 fun p23 =>
 ∃ n24 : Int, ∃ n25 : Int, ∃ n26 : Int, ∃ q27 : Option SL, cellsAt h21 p23 4 = some [.int .i64 n24, .int .i64 n25, .int .i64 n26, .sl q27] ∧
 AC Try.prog 23 [.ptr p4, .agg [.int .i64 n24, .int .i64 n25, .int .i64 n26, .sl q27]] h21 fun v28 h29 => ∃ n30 : Int, v28 = .int .i64 n30 ∧
 (True) ∧ I12 [.int .i64 (wrapK .i64 (n11 + 1))] h29 ∧ m13 [.int .i64 (wrapK .i64 (n11 + 1))] h29 < m13 [.int .i64 n11] h14)
 ((True) ∧ I12 [.int .i64 (wrapK .i64 (n11 + 1))] h21 ∧ m13 [.int .i64 (wrapK .i64 (n11 + 1))] h21 < m13 [.int .i64 n11] h14))
 (AC Try.prog 26 [.ptr p4] h14 fun v31 h32 => ∃ q33 : Option SL, v31 = .sl q33 ∧
 ∃ (I35 : List AV → Heap → Prop) (m36 : List AV → Heap → Nat), I35 [.int .i64 0] h32 ∧
 ∀ n34 : Int, ∀ h37 : Heap, I35 [.int .i64 n34] h37 →
 vif (decide (n34 < (slLen q33 : Int)))
 (vIdx q33 n34 4 fun p38 =>
 ∃ n39 : Int, ∃ n40 : Int, ∃ n41 : Int, ∃ q42 : Option SL, cellsAt h37 p38 4 = some [.int .i64 n39, .int .i64 n40, .int .i64 n41, .sl q42] ∧
 AC Try.prog 23 [.ptr p7, .agg [.int .i64 n39, .int .i64 n40, .int .i64 n41, .sl q42]] h37 fun v43 h44 => ∃ n45 : Int, v43 = .int .i64 n45 ∧
 vif (n45 != 0)
 (Q (.bool false) h44)
 ((True) ∧ I35 [.int .i64 (wrapK .i64 (n34 + 1))] h44 ∧ m36 [.int .i64 (wrapK .i64 (n34 + 1))] h44 < m36 [.int .i64 n34] h37))
 (AC Try.prog 27 [.ptr p4] h37 fun v46 h47 => ∃ n48 : Int, ∃ n49 : Int, ∃ n50 : Int, ∃ q51 : Option SL, ∃ b52 : Bool, v46 = .tup [.agg [.int .i64 n48, .int .i64 n49, .int .i64 n50, .sl q51], .bool b52] ∧
 AC Try.prog 27 [.ptr p7] h47 fun v53 h54 => ∃ n55 : Int, ∃ n56 : Int, ∃ n57 : Int, ∃ q58 : Option SL, ∃ b59 : Bool, v53 = .tup [.agg [.int .i64 n55, .int .i64 n56, .int .i64 n57, .sl q58], .bool b59] ∧
 AC Try.prog 26 [.ptr p7] h54 fun v60 h61 => ∃ q62 : Option SL, v60 = .sl q62 ∧
 AC Try.prog 28 [.sl q33, .sl q62] h61 fun v63 h64 => ∃ b65 : Bool, v63 = .bool b65 ∧
 vif b65
 (AC Try.prog 29 [.ptr p4] h64 fun v66 h67 => ∃ n68 : Int, v66 = .int .i64 n68 ∧
 AC Try.prog 29 [.ptr p7] h67 fun v69 h70 => ∃ n71 : Int, v69 = .int .i64 n71 ∧
 vif (n68 == n71)
 (vif (b52 == b59)
 (AC Try.prog 16 [.agg [.int .i64 n48, .int .i64 n49, .int .i64 n50, .sl q51], .agg [.int .i64 n55, .int .i64 n56, .int .i64 n57, .sl q58]] h70 fun v72 h73 => ∃ b74 : Bool, v72 = .bool b74 ∧
 Q (.bool b74) h73)
 (Q (.bool false) h70))
 (Q (.bool false) h70))
 (Q (.bool false) h64))))
 (AC Try.prog 26 [.ptr p4] h14 fun v75 h76 => ∃ q77 : Option SL, v75 = .sl q77 ∧
 ∃ (I79 : List AV → Heap → Prop) (m80 : List AV → Heap → Nat), I79 [.int .i64 0] h76 ∧
 ∀ n78 : Int, ∀ h81 : Heap, I79 [.int .i64 n78] h81 →
 vif (decide (n78 < (slLen q77 : Int)))
 (vIdx q77 n78 4 fun p82 =>
 ∃ n83 : Int, ∃ n84 : Int, ∃ n85 : Int, ∃ q86 : Option SL, cellsAt h81 p82 4 = some [.int .i64 n83, .int .i64 n84, .int .i64 n85, .sl q86] ∧
 AC Try.prog 23 [.ptr p7, .agg [.int .i64 n83, .int .i64 n84, .int .i64 n85, .sl q86]] h81 fun v87 h88 => ∃ n89 : Int, v87 = .int .i64 n89 ∧
 vif (n89 != 0)
 (Q (.bool false) h88)
 ((True) ∧ I79 [.int .i64 (wrapK .i64 (n78 + 1))] h88 ∧ m80 [.int .i64 (wrapK .i64 (n78 + 1))] h88 < m80 [.int .i64 n78] h81))
 (AC Try.prog 27 [.ptr p4] h81 fun v90 h91 => ∃ n92 : Int, ∃ n93 : Int, ∃ n94 : Int, ∃ q95 : Option SL, ∃ b96 : Bool, v90 = .tup [.agg [.int .i64 n92, .int .i64 n93, .int .i64 n94, .sl q95], .bool b96] ∧
 AC Try.prog 27 [.ptr p7] h91 fun v97 h98 => ∃ n99 : Int, ∃ n100 : Int, ∃ n101 : Int, ∃ q102 : Option SL, ∃ b103 : Bool, v97 = .tup [.agg [.int .i64 n99, .int .i64 n100, .int .i64 n101, .sl q102], .bool b103] ∧
 AC Try.prog 26 [.ptr p7] h98 fun v104 h105 => ∃ q106 : Option SL, v104 = .sl q106 ∧
 AC Try.prog 28 [.sl q77, .sl q106] h105 fun v107 h108 => ∃ b109 : Bool, v107 = .bool b109 ∧
 vif b109
 (AC Try.prog 29 [.ptr p4] h108 fun v110 h111 => ∃ n112 : Int, v110 = .int .i64 n112 ∧
 AC Try.prog 29 [.ptr p7] h111 fun v113 h114 => ∃ n115 : Int, v113 = .int .i64 n115 ∧
 vif (n112 == n115)
 (vif (b96 == b103)
 (AC Try.prog 16 [.agg [.int .i64 n92, .int .i64 n93, .int .i64 n94, .sl q95], .agg [.int .i64 n99, .int .i64 n100, .int .i64 n101, .sl q102]] h114 fun v116 h117 => ∃ b118 : Bool, v116 = .bool b118 ∧
 Q (.bool b118) h117)
 (Q (.bool false) h114))
 (Q (.bool false) h114))
 (Q (.bool false) h108))))))
theorem ac6 {q1 : Option SL} {h : Heap} {Q : AV → Heap → Prop} (hk : vc6 q1 h Q) : AC Try.prog 6 [.sl q1] h Q :=
 AC_by (H := hintsOf [8, 10] [(0, [5], []), (2, [7], [])]) (by kernel_rfl) (by kernel_rfl) hk

/-- edit.New: what it asks. -/
def vc22  (h : Heap) (Q : AV → Heap → Prop) : Prop :=
 PNew [.sl none, .int .i64 0, .int .i64 0, .int .i64 0, .sl none, .bool false] true h fun a1 h2 =>
 Q (.ptr (some ⟨a1, 0⟩)) h2
theorem ac22  {h : Heap} {Q : AV → Heap → Prop} (hk : vc22  h Q) : AC Try.prog 22 [] h Q :=
 AC_by (H := hintsOf [] []) (by kernel_rfl) (by kernel_rfl) hk

/-- moment.Check: what it asks. -/
def vc67 (n1 : Int) (n2 : Int) (h : Heap) (Q : AV → Heap → Prop) : Prop :=
 vif (decide (n1 < 0))
 (Q (.int .i64 40) h)
 (vif (decide (n1 ≥ 65536))
 (Q (.int .i64 40) h)
 (vif (decide (n2 < 0))
 (Q (.int .i64 40) h)
 (vif (decide (n2 ≥ 65536))
 (Q (.int .i64 40) h)
 (Q (.int .i64 0) h))))
theorem ac67 {n1 : Int} {n2 : Int} {h : Heap} {Q : AV → Heap → Prop} (hk : vc67 n1 n2 h Q) : AC Try.prog 67 [.agg [.int .i64 n1, .int .i64 n2]] h Q :=
 AC_by (H := hintsOf [1] []) (by kernel_rfl) (by kernel_rfl) hk

/-- edit.ref: what it asks. -/
def vc66 (s1 : List UInt8) (n2 : Int) (n3 : Int) (h : Heap) (Q : AV → Heap → Prop) : Prop :=
 vif (decide ((s1.length : Int) ≥ 1))
 (vif (decide ((s1.length : Int) ≤ 24))
 (vif (decide (n2 ≥ 1))
 (vif (decide (n2 ≤ 2305843009213693952))
 (vif (decide (n3 ≥ 0))
 (Q (.bool (decide (n3 ≤ 16384))) h)
 (Q (.bool false) h))
 (Q (.bool false) h))
 (Q (.bool false) h))
 (Q (.bool false) h))
 (Q (.bool false) h)
theorem ac66 {s1 : List UInt8} {n2 : Int} {n3 : Int} {h : Heap} {Q : AV → Heap → Prop} (hk : vc66 s1 n2 n3 h Q) : AC Try.prog 66 [.agg [.str s1, .int .i64 n2, .int .i64 n3]] h Q :=
 AC_by (H := hintsOf [1] []) (by kernel_rfl) (by kernel_rfl) hk

/-- edit.Check$1: what it asks. -/
def vc65 (s1 : List UInt8) (n2 : Int) (n3 : Int) (h : Heap) (Q : AV → Heap → Prop) : Prop :=
 AC Try.prog 66 [.agg [.str s1, .int .i64 n2, .int .i64 n3]] h fun v4 h5 => ∃ b6 : Bool, v4 = .bool b6 ∧
 Q (.bool (!b6)) h5
theorem ac65 {s1 : List UInt8} {n2 : Int} {n3 : Int} {h : Heap} {Q : AV → Heap → Prop} (hk : vc65 s1 n2 n3 h Q) : AC Try.prog 65 [.agg [.str s1, .int .i64 n2, .int .i64 n3]] h Q :=
 AC_by (H := hintsOf [1] []) (by kernel_rfl) (by kernel_rfl) hk

/-- edit.State).goes: what it asks. -/
def vc79 (p1 : Option PA) (n2 : Int) (n3 : Int) (n4 : Int) (q5 : Option SL) (h : Heap) (Q : AV → Heap → Prop) : Prop :=
 vPtr p1 fun p6 =>
 ∃ q7 : Option SL, cellsAt h ⟨p6.b, p6.o + 0⟩ 1 = some [.sl q7] ∧
 vif (n3 != (slLen q7 : Int))
 (Q (.bool false) h)
 (vif (n2 == 2)
 (Q (.bool true) h)
 (vPtr p1 fun p8 =>
 ∃ b9 : Bool, cellsAt h ⟨p8.b, p8.o + 5⟩ 1 = some [.bool b9] ∧
 vif (!b9)
 (Q (.bool true) h)
 (vPtr p1 fun p10 =>
 ∃ n11 : Int, cellsAt h ⟨p10.b, ((p10.o + 1) + 1) + 1⟩ 1 = some [.int .i64 n11] ∧
 Q (.bool (decide (n4 > n11))) h)))
theorem ac79 {p1 : Option PA} {n2 : Int} {n3 : Int} {n4 : Int} {q5 : Option SL} {h : Heap} {Q : AV → Heap → Prop} (hk : vc79 p1 n2 n3 n4 q5 h Q) : AC Try.prog 79 [.ptr p1, .agg [.int .i64 n2, .int .i64 n3, .int .i64 n4, .sl q5]] h Q :=
 AC_by (H := hintsOf [3] []) (by kernel_rfl) (by kernel_rfl) hk

/-- api.Ref]: what it asks. -/
def vc119 (q1 : Option SL) (h : Heap) (Q : AV → Heap → Prop) : Prop :=
 vif (q1.isNone)
 (Q (.sl none) h)
 (PNew [] true h fun a2 h3 =>
 PAppendS 3 32 (some ⟨a2, 0, 0, 0, 0⟩) q1 h3 fun q4 h5 =>
 Q (.sl q4) h5)
theorem ac119 {q1 : Option SL} {h : Heap} {Q : AV → Heap → Prop} (hk : vc119 q1 h Q) : AC Try.prog 119 [.sl q1] h Q :=
 AC_by (H := hintsOf [] []) (by kernel_rfl) (by kernel_rfl) hk

/-- edit.clone: what it asks. -/
def vc80 (n1 : Int) (n2 : Int) (n3 : Int) (q4 : Option SL) (h : Heap) (Q : AV → Heap → Prop) : Prop :=
 AC Try.prog 119 [.sl q4] h fun v5 h6 => ∃ q7 : Option SL, v5 = .sl q7 ∧
 Q (.agg [.int .i64 n1, .int .i64 n2, .int .i64 n3, .sl q7]) h6
theorem ac80 {n1 : Int} {n2 : Int} {n3 : Int} {q4 : Option SL} {h : Heap} {Q : AV → Heap → Prop} (hk : vc80 n1 n2 n3 q4 h Q) : AC Try.prog 80 [.agg [.int .i64 n1, .int .i64 n2, .int .i64 n3, .sl q4]] h Q :=
 AC_by (H := hintsOf [1, 2] []) (by kernel_rfl) (by kernel_rfl) hk

/-- edit.State).Mark: what it asks. -/
def vc27 (p1 : Option PA) (h : Heap) (Q : AV → Heap → Prop) : Prop :=
 vif (p1.isNone)
 (Q (.tup [.agg [.int .i64 0, .int .i64 0, .int .i64 0, .sl none], .bool false]) h)
 (vPtr p1 fun p2 =>
 ∃ n3 : Int, ∃ n4 : Int, ∃ n5 : Int, ∃ q6 : Option SL, cellsAt h ⟨p2.b, p2.o + 1⟩ 4 = some [.int .i64 n3, .int .i64 n4, .int .i64 n5, .sl q6] ∧
 vPtr p1 fun p7 =>
 ∃ b8 : Bool, cellsAt h ⟨p7.b, p7.o + 5⟩ 1 = some [.bool b8] ∧
 AC Try.prog 80 [.agg [.int .i64 n3, .int .i64 n4, .int .i64 n5, .sl q6]] h fun v9 h10 => ∃ n11 : Int, ∃ n12 : Int, ∃ n13 : Int, ∃ q14 : Option SL, v9 = .agg [.int .i64 n11, .int .i64 n12, .int .i64 n13, .sl q14] ∧
 (∃ b16 : Bool, cellsAt h10 ⟨p7.b, p7.o + 5⟩ 1 = some [.bool b16] ∧
 LV.val (.bool b16) = LV.val (.bool b8)) ∧
 (∃ b15 : Bool, cellsAt h10 ⟨p7.b, p7.o + 5⟩ 1 = some [.bool b15] ∧
 LV.val (.bool b15) = LV.val (.bool b8)) ∧
 Q (.tup [.agg [.int .i64 n11, .int .i64 n12, .int .i64 n13, .sl q14], .bool b8]) h10)
theorem ac27 {p1 : Option PA} {h : Heap} {Q : AV → Heap → Prop} (hk : vc27 p1 h Q) : AC Try.prog 27 [.ptr p1] h Q :=
 AC_by (H := hintsOf [2] []) (by kernel_rfl) (by kernel_rfl) hk

/-- edit.State).Edits: what it asks. -/
def vc26 (p1 : Option PA) (h : Heap) (Q : AV → Heap → Prop) : Prop :=
 AC Try.prog 29 [.ptr p1] h fun v2 h3 => ∃ n4 : Int, v2 = .int .i64 n4 ∧
 ∃ (I7 : List AV → Heap → Prop) (m8 : List AV → Heap → Nat), I7 [.sl none, .int .i64 0] h3 ∧
 ∀ q5 : Option SL, ∀ n6 : Int, ∀ h9 : Heap, I7 [.sl q5, .int .i64 n6] h9 →
 vif (decide (n6 < n4))
 (vPtr p1 fun p10 =>
 ∃ q11 : Option SL, cellsAt h9 ⟨p10.b, p10.o + 0⟩ 1 = some [.sl q11] ∧
 vIdx q11 n6 4 fun p12 =>
 ∃ n13 : Int, ∃ n14 : Int, ∃ n15 : Int, ∃ q16 : Option SL, cellsAt h9 p12 4 = some [.int .i64 n13, .int .i64 n14, .int .i64 n15, .sl q16] ∧
 AC Try.prog 80 [.agg [.int .i64 n13, .int .i64 n14, .int .i64 n15, .sl q16]] h9 fun v17 h18 => ∃ n19 : Int, ∃ n20 : Int, ∃ n21 : Int, ∃ q22 : Option SL, v17 = .agg [.int .i64 n19, .int .i64 n20, .int .i64 n21, .sl q22] ∧
 PNew [.int .i64 n19, .int .i64 n20, .int .i64 n21, .sl q22] true h18 fun a23 h24 =>
 PAppendS 4 48 q5 (some ⟨a23, 0, 1, 1, 0⟩) h24 fun q25 h26 =>
 (True) ∧ I7 [.sl q25, .int .i64 (wrapK .i64 (n6 + 1))] h26 ∧ m8 [.sl q25, .int .i64 (wrapK .i64 (n6 + 1))] h26 < m8 [.sl q5, .int .i64 n6] h9)
 (AC Try.prog 27 [.ptr p1] h9 fun v27 h28 => ∃ n29 : Int, ∃ n30 : Int, ∃ n31 : Int, ∃ q32 : Option SL, ∃ b33 : Bool, v27 = .tup [.agg [.int .i64 n29, .int .i64 n30, .int .i64 n31, .sl q32], .bool b33] ∧
 vif b33
 (PNew [.int .i64 n29, .int .i64 n30, .int .i64 n31, .sl q32] true h28 fun a34 h35 =>
 PAppendS 4 48 q5 (some ⟨a34, 0, 1, 1, 0⟩) h35 fun q36 h37 =>
 Q (.sl q36) h37)
 (Q (.sl q5) h28))
theorem ac26 {p1 : Option PA} {h : Heap} {Q : AV → Heap → Prop} (hk : vc26 p1 h Q) : AC Try.prog 26 [.ptr p1] h Q :=
 AC_by (H := hintsOf [5] [(0, [3, 9], [])]) (by kernel_rfl) (by kernel_rfl) hk

/-- oxbowref14.SameList: what it asks. -/
def vc28 (q1 : Option SL) (q2 : Option SL) (h : Heap) (Q : AV → Heap → Prop) : Prop :=
 vif ((slLen q1 : Int) != (slLen q2 : Int))
 (Q (.bool false) h)
 (∃ (I4 : List AV → Heap → Prop) (m5 : List AV → Heap → Nat), I4 [.int .i64 0] h ∧
 ∀ n3 : Int, ∀ h6 : Heap, I4 [.int .i64 n3] h6 →
 vif (decide (n3 < (slLen q1 : Int)))
 (vIdx q1 n3 4 fun p7 =>
 ∃ n8 : Int, ∃ n9 : Int, ∃ n10 : Int, ∃ q11 : Option SL, cellsAt h6 p7 4 = some [.int .i64 n8, .int .i64 n9, .int .i64 n10, .sl q11] ∧
 vIdx q2 n3 4 fun p12 =>
 ∃ n13 : Int, ∃ n14 : Int, ∃ n15 : Int, ∃ q16 : Option SL, cellsAt h6 p12 4 = some [.int .i64 n13, .int .i64 n14, .int .i64 n15, .sl q16] ∧
 AC Try.prog 16 [.agg [.int .i64 n8, .int .i64 n9, .int .i64 n10, .sl q11], .agg [.int .i64 n13, .int .i64 n14, .int .i64 n15, .sl q16]] h6 fun v17 h18 => ∃ b19 : Bool, v17 = .bool b19 ∧
 vif (!b19)
 (Q (.bool false) h18)
 ((True) ∧ I4 [.int .i64 (wrapK .i64 (n3 + 1))] h18 ∧ m5 [.int .i64 (wrapK .i64 (n3 + 1))] h18 < m5 [.int .i64 n3] h6))
 (Q (.bool true) h6))
theorem ac28 {q1 : Option SL} {q2 : Option SL} {h : Heap} {Q : AV → Heap → Prop} (hk : vc28 q1 q2 h Q) : AC Try.prog 28 [.sl q1, .sl q2] h Q :=
 AC_by (H := hintsOf [] [(0, [5], [])]) (by kernel_rfl) (by kernel_rfl) hk

/-- oxbowref14.Same: what it asks. -/
def vc16 (n1 : Int) (n2 : Int) (n3 : Int) (q4 : Option SL) (n5 : Int) (n6 : Int) (n7 : Int) (q8 : Option SL) (h : Heap) (Q : AV → Heap → Prop) : Prop :=
 vif (n1 != n5)
 (Q (.bool false) h)
 (vif (!((n2 == n6) && ((n3 == n7) && true)))
 (Q (.bool false) h)
 (vif ((slLen q4 : Int) != (slLen q8 : Int))
 (Q (.bool false) h)
 (∃ (I10 : List AV → Heap → Prop) (m11 : List AV → Heap → Nat), I10 [.int .i64 0] h ∧
 ∀ n9 : Int, ∀ h12 : Heap, I10 [.int .i64 n9] h12 →
 vif (decide (n9 < (slLen q4 : Int)))
 (vIdx q4 n9 3 fun p13 =>
 ∃ s14 : List UInt8, ∃ n15 : Int, ∃ n16 : Int, cellsAt h12 p13 3 = some [.str s14, .int .i64 n15, .int .i64 n16] ∧
 vIdx q8 n9 3 fun p17 =>
 ∃ s18 : List UInt8, ∃ n19 : Int, ∃ n20 : Int, cellsAt h12 p17 3 = some [.str s18, .int .i64 n19, .int .i64 n20] ∧
 vif (!((s14 == s18) && ((n15 == n19) && ((n16 == n20) && true))))
 (Q (.bool false) h12)
 (((some [.int .i64 n5, .int .i64 n6, .int .i64 n7, .sl q8] : Option (List AV)) = some [.int .i64 n5, .int .i64 n6, .int .i64 n7, .sl q8] ∧ (some [.int .i64 n1, .int .i64 n2, .int .i64 n3, .sl q4] : Option (List AV)) = some [.int .i64 n1, .int .i64 n2, .int .i64 n3, .sl q4] ∧ True) ∧ I10 [.int .i64 (wrapK .i64 (n9 + 1))] h12 ∧ m11 [.int .i64 (wrapK .i64 (n9 + 1))] h12 < m11 [.int .i64 n9] h12))
 (Q (.bool true) h12))))
theorem ac16 {n1 : Int} {n2 : Int} {n3 : Int} {q4 : Option SL} {n5 : Int} {n6 : Int} {n7 : Int} {q8 : Option SL} {h : Heap} {Q : AV → Heap → Prop} (hk : vc16 n1 n2 n3 q4 n5 n6 n7 q8 h Q) : AC Try.prog 16 [.agg [.int .i64 n1, .int .i64 n2, .int .i64 n3, .sl q4], .agg [.int .i64 n5, .int .i64 n6, .int .i64 n7, .sl q8]] h Q :=
 AC_by (H := hintsOf [2, 3] [(0, [5], [])]) (by kernel_rfl) (by kernel_rfl) hk

/-- edit.Check: what it asks. -/
def vc18 (n1 : Int) (n2 : Int) (n3 : Int) (q4 : Option SL) (h : Heap) (Q : AV → Heap → Prop) : Prop :=
 vif (n1 == 1)
 (AC Try.prog 67 [.agg [.int .i64 n2, .int .i64 n3]] h fun v5 h6 => ∃ n7 : Int, v5 = .int .i64 n7 ∧
 vif (n7 != 0)
 (Q (.int .i64 140) h6)
 (vif (decide ((slLen q4 : Int) > 256))
 (Q (.int .i64 140) h6)
 (AC Try.prog 68 [.sl q4, .func (.func 65) [] []] h6 fun v8 h9 => ∃ b10 : Bool, v8 = .bool b10 ∧
 vif b10
 (Q (.int .i64 140) h9)
 (Q (.int .i64 0) h9))))
 (vif (n1 == 2)
 (vif (!(n3 == 0))
 (Q (.int .i64 140) h)
 (AC Try.prog 67 [.agg [.int .i64 n2, .int .i64 n3]] h fun v11 h12 => ∃ n13 : Int, v11 = .int .i64 n13 ∧
 vif (n13 != 0)
 (Q (.int .i64 140) h12)
 (vif (decide ((slLen q4 : Int) > 256))
 (Q (.int .i64 140) h12)
 (AC Try.prog 68 [.sl q4, .func (.func 65) [] []] h12 fun v14 h15 => ∃ b16 : Bool, v14 = .bool b16 ∧
 vif b16
 (Q (.int .i64 140) h15)
 (Q (.int .i64 0) h15)))))
 (Q (.int .i64 140) h))
theorem ac18 {n1 : Int} {n2 : Int} {n3 : Int} {q4 : Option SL} {h : Heap} {Q : AV → Heap → Prop} (hk : vc18 n1 n2 n3 q4 h Q) : AC Try.prog 18 [.agg [.int .i64 n1, .int .i64 n2, .int .i64 n3, .sl q4]] h Q :=
 AC_by (H := hintsOf [1] []) (by kernel_rfl) (by kernel_rfl) hk

/-- api.Ref]: what it asks. -/
def vc109 (q1 : Option SL) (h : Heap) (Q : AV → Heap → Prop) : Prop :=
 ∃ (I3 : List AV → Heap → Prop) (m4 : List AV → Heap → Nat), I3 [.int .i64 0] h ∧
 ∀ n2 : Int, ∀ h5 : Heap, I3 [.int .i64 n2] h5 →
 vif (decide (n2 < (slLen q1 : Int)))
 (vIdx q1 n2 3 fun p6 =>
 ∃ s7 : List UInt8, ∃ n8 : Int, ∃ n9 : Int, cellsAt h5 p6 3 = some [.str s7, .int .i64 n8, .int .i64 n9] ∧
 AC Try.prog 65 [.agg [.str s7, .int .i64 n8, .int .i64 n9]] h5 fun v10 h11 => ∃ b12 : Bool, v10 = .bool b12 ∧
 vif b12
 (Q (.int .i64 n2) h11)
 ((True) ∧ I3 [.int .i64 (wrapK .i64 (n2 + 1))] h11 ∧ m4 [.int .i64 (wrapK .i64 (n2 + 1))] h11 < m4 [.int .i64 n2] h5))
 (Q (.int .i64 (-1)) h5)
theorem ac109 {q1 : Option SL} {h : Heap} {Q : AV → Heap → Prop} (hk : vc109 q1 h Q) : AC Try.prog 109 [.sl q1, .func (.func 65) [] []] h Q :=
 AC_by (H := hintsOf [] [(0, [8], [])]) (by kernel_rfl) (by kernel_rfl) hk

/-- api.Ref]: what it asks. -/
def vc68 (q1 : Option SL) (h : Heap) (Q : AV → Heap → Prop) : Prop :=
 AC Try.prog 109 [.sl q1, .func (.func 65) [] []] h fun v2 h3 => ∃ n4 : Int, v2 = .int .i64 n4 ∧
 Q (.bool (decide (n4 ≥ 0))) h3
theorem ac68 {q1 : Option SL} {h : Heap} {Q : AV → Heap → Prop} (hk : vc68 q1 h Q) : AC Try.prog 68 [.sl q1, .func (.func 65) [] []] h Q :=
 AC_by (H := hintsOf [] []) (by kernel_rfl) (by kernel_rfl) hk

end Go.Proofs
