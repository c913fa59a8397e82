/- Conditions, printed. -/
import Derived.Test.YtfafgnmlnhklaaaBG7
import Derived.Test.YtfafgnmlnhklaaaProg
import Derived.KernelRfl
namespace Go.Proofs
open Go.Ab
set_option maxRecDepth 100000
set_option linter.unusedVariables false

/-- oxbowlaw19.EvalReaches: what it asks. -/
def vc3 (q1 : Option SL) (n2 : Int) (h : Heap) (Q : AV → Heap → Prop) : Prop :=
 vif (decide ((slLen q1 : Int) > 30))
 (AC Try.prog 9 [] h fun v3 h4 => ∃ b5 : Bool, v3 = .bool b5 ∧
 Q (.bool b5) h4)
 (vif (decide (n2 < 0))
 (AC Try.prog 9 [] h fun v6 h7 => ∃ b8 : Bool, v6 = .bool b8 ∧
 Q (.bool b8) h7)
 (vif (decide (n2 > 11))
 (AC Try.prog 9 [] h fun v9 h10 => ∃ b11 : Bool, v9 = .bool b11 ∧
 Q (.bool b11) h10)
 (∃ (I14 : List AV → Heap → Prop) (m15 : List AV → Heap → Nat), I14 [.sl none, .int .i64 0] h ∧
 ∀ q12 : Option SL, ∀ n13 : Int, ∀ h16 : Heap, I14 [.sl q12, .int .i64 n13] h16 →
 vif (decide (n13 < (slLen q1 : Int)))
 (vIdx q1 n13 1 fun p17 =>
 ∃ n18 : Int, cellsAt h16 p17 1 = some [.int .i64 n18] ∧
 AC Try.prog 10 [.int .i64 (wrapK .i64 (Int.tdiv (Int.tmod (wrapK .i64 ((Int.tmod n18 144) + 144)) 144) 12)), .int .i64 (Int.tmod (Int.tmod (wrapK .i64 ((Int.tmod n18 144) + 144)) 144) 12)] h16 fun v19 h20 => ∃ n21 : Int, ∃ n22 : Int, v19 = .agg [.int .i64 n21, .int .i64 n22] ∧
 PNew [.int .i64 n21, .int .i64 n22] true h20 fun a23 h24 =>
 PAppendS 2 16 q12 (some ⟨a23, 0, 1, 1, 0⟩) h24 fun q25 h26 =>
 (True) ∧ I14 [.sl q25, .int .i64 (wrapK .i64 (n13 + 1))] h26 ∧ m15 [.sl q25, .int .i64 (wrapK .i64 (n13 + 1))] h26 < m15 [.sl q12, .int .i64 n13] h16)
 (PUpdate Try.prog 3 (List.length h16) (.int .i64 n2) (.bool true) (h16 ++ [.mp [] 0]) fun h27 =>
 ∃ (I29 : List AV → Heap → Prop) (m30 : List AV → Heap → Nat), I29 [.int .i64 0] h27 ∧
 ∀ n28 : Int, ∀ h31 : Heap, I29 [.int .i64 n28] h31 →
 vif (decide (n28 < 12))
 (∃ (I33 : List AV → Heap → Prop) (m34 : List AV → Heap → Nat), I33 [.int .i64 0] h31 ∧
 ∀ n32 : Int, ∀ h35 : Heap, I33 [.int .i64 n32] h35 →
 vif (decide (n32 < (slLen q12 : Int)))
 (vIdx q12 n32 2 fun p36 =>
 ∃ n37 : Int, cellsAt h35 ⟨p36.b, p36.o + 0⟩ 1 = some [.int .i64 n37] ∧
 PLookup Try.prog 3 4 (some (List.length h16)) (.int .i64 n37) false h35 fun v38 =>
 ∃ b39 : Bool, v38 = .bool b39 ∧
 vif b39
 (vIdx q12 n32 2 fun p40 =>
 ∃ n41 : Int, cellsAt h35 ⟨p40.b, p40.o + 1⟩ 1 = some [.int .i64 n41] ∧
 PUpdate Try.prog 3 (List.length h16) (.int .i64 n41) (.bool true) h35 fun h42 =>
 (True) ∧ I33 [.int .i64 (wrapK .i64 (n32 + 1))] h42 ∧ m34 [.int .i64 (wrapK .i64 (n32 + 1))] h42 < m34 [.int .i64 n32] h35)
 ((True) ∧ I33 [.int .i64 (wrapK .i64 (n32 + 1))] h35 ∧ m34 [.int .i64 (wrapK .i64 (n32 + 1))] h35 < m34 [.int .i64 n32] h35))
 ((True) ∧ I29 [.int .i64 (wrapK .i64 (n28 + 1))] h35 ∧ m30 [.int .i64 (wrapK .i64 (n28 + 1))] h35 < m30 [.int .i64 n28] h31))
 (∃ (I45 : List AV → Heap → Prop) (m46 : List AV → Heap → Nat), I45 [.sl none, .int .i64 0] h31 ∧
 ∀ q43 : Option SL, ∀ n44 : Int, ∀ h47 : Heap, I45 [.sl q43, .int .i64 n44] h47 →
 vif (decide (n44 < 12))
 (PLookup Try.prog 3 4 (some (List.length h16)) (.int .i64 n44) false h47 fun v48 =>
 ∃ b49 : Bool, v48 = .bool b49 ∧
 vif b49
 (AC Try.prog 10 [.int .i64 n44, .int .i64 0] h47 fun v50 h51 => ∃ n52 : Int, ∃ n53 : Int, v50 = .agg [.int .i64 n52, .int .i64 n53] ∧
 PNew [.int .i64 n52, .int .i64 n53] true h51 fun a54 h55 =>
 PAppendS 2 16 q43 (some ⟨a54, 0, 1, 1, 0⟩) h55 fun q56 h57 =>
 (True) ∧ I45 [.sl q56, .int .i64 (wrapK .i64 (n44 + 1))] h57 ∧ m46 [.sl q56, .int .i64 (wrapK .i64 (n44 + 1))] h57 < m46 [.sl q43, .int .i64 n44] h47)
 ((True) ∧ I45 [.sl q43, .int .i64 (wrapK .i64 (n44 + 1))] h47 ∧ m46 [.sl q43, .int .i64 (wrapK .i64 (n44 + 1))] h47 < m46 [.sl q43, .int .i64 n44] h47))
 (AC Try.prog 12 [.int .i64 20] h47 fun v58 h59 => ∃ q60 : Option SL, ∃ n61 : Int, v58 = .agg [.sl q60, .int .i64 n61] ∧
 AC Try.prog 10 [.int .i64 n2, .int .i64 0] h59 fun v62 h63 => ∃ n64 : Int, ∃ n65 : Int, v62 = .agg [.int .i64 n64, .int .i64 n65] ∧
 PNew [.int .i64 n64, .int .i64 n65] true h63 fun a66 h67 =>
 PNew [.sl q12, .sl (some ⟨a66, 0, 1, 1, 0⟩)] true h67 fun a68 h69 =>
 AC Try.prog 11 [.agg [.sl q60, .int .i64 n61], .sl (some ⟨a68, 0, 2, 2, 0⟩)] h69 fun v70 h71 => ∃ q72 : Option SL, ∃ n73 : Int, ∃ q74 : Option SL, ∃ n75 : Int, v70 = .tup [.agg [.sl q72, .int .i64 n73, .sl q74], .int .i64 n75] ∧
 AC Try.prog 9 [] h71 fun v76 h77 => ∃ b78 : Bool, v76 = .bool b78 ∧
 vif b78
 (vif (n75 == 0)
 (AC Try.prog 13 [.sl q72, .sl q43] h77 fun v79 h80 => ∃ b81 : Bool, v79 = .bool b81 ∧
 Q (.bool b81) h80)
 (Q (.bool false) h77))
 (Q (.bool false) h77)))))))
theorem ac3 {q1 : Option SL} {n2 : Int} {h : Heap} {Q : AV → Heap → Prop} (hk : vc3 q1 n2 h Q) : AC Try.prog 3 [.sl q1, .int .i64 n2] h Q :=
 AC_by (H := hintsOf [13] [(0, [5, 6], []), (2, [9], []), (4, [10], []), (6, [11, 12], [])]) (by kernel_rfl) (by kernel_rfl) hk

/-- oxbowlaw19.edge: what it asks. -/
def vc10 (n1 : Int) (n2 : Int) (h : Heap) (Q : AV → Heap → Prop) : Prop :=
 Q (.agg [.int .i64 n1, .int .i64 n2]) h
theorem ac10 {n1 : Int} {n2 : Int} {h : Heap} {Q : AV → Heap → Prop} (hk : vc10 n1 n2 h Q) : AC Try.prog 10 [.int .i64 n1, .int .i64 n2] h Q :=
 AC_by (H := hintsOf [4] []) (by kernel_rfl) (by kernel_rfl) hk

/-- eval.Eval: what it asks. -/
def vc11 (q1 : Option SL) (n2 : Int) (q3 : Option SL) (h : Heap) (Q : AV → Heap → Prop) : Prop :=
 AC Try.prog 28 [.agg [.sl q1, .int .i64 n2], .sl q3] h fun v4 h5 => ∃ p6 : Option PA, ∃ n7 : Int, v4 = .tup [.ptr p6, .int .i64 n7] ∧
 vif (n7 != 0)
 (Q (.tup [.agg [.sl none, .int .i64 0, .sl none], .int .i64 n7]) h5)
 (vPtr p6 fun p8 =>
 ∃ q9 : Option SL, cellsAt h5 ⟨p8.b, p8.o + 0 + 0⟩ 1 = some [.sl q9] ∧
 vPtr p6 fun p10 =>
 ∃ q11 : Option SL, cellsAt h5 ⟨p10.b, p10.o + 3⟩ 1 = some [.sl q11] ∧
 vPtr p6 fun p12 =>
 ∃ q13 : Option SL, cellsAt h5 ⟨p12.b, p12.o + 3⟩ 1 = some [.sl q13] ∧
 AC Try.prog 29 [.sl q9] h5 fun v14 h15 => ∃ q16 : Option SL, v14 = .sl q16 ∧
 (∃ q25 : Option SL, cellsAt h15 ⟨p12.b, p12.o + 3⟩ 1 = some [.sl q25] ∧
 LV.val (.sl q25) = LV.val (.sl q13)) ∧
 (∃ q24 : Option SL, cellsAt h15 ⟨p10.b, p10.o + 3⟩ 1 = some [.sl q24] ∧
 LV.val (.sl q24) = LV.val (.sl q11)) ∧
 (LV.val (.int .i64 n2) = LV.val (.int .i64 n2)) ∧
 vIdx q16 n2 1 fun p17 =>
 ∃ q18 : Option SL, cellsAt h15 p17 1 = some [.sl q18] ∧
 AC Try.prog 29 [.sl q13] h15 fun v19 h20 => ∃ q21 : Option SL, v19 = .sl q21 ∧
 (∃ q23 : Option SL, cellsAt h20 p17 1 = some [.sl q23] ∧
 LV.val (.sl q23) = LV.val (.sl q18)) ∧
 (∃ q22 : Option SL, cellsAt h20 ⟨p10.b, p10.o + 3⟩ 1 = some [.sl q22] ∧
 LV.val (.sl q22) = LV.val (.sl q11)) ∧
 (LV.val (.int .i64 n2) = LV.val (.int .i64 n2)) ∧
 Q (.tup [.agg [.sl q18, .int .i64 (maxI2 0 (wrapK .i64 ((slLen q11 : Int) - 1))), .sl q21], .int .i64 0]) h20)
theorem ac11 {q1 : Option SL} {n2 : Int} {q3 : Option SL} {h : Heap} {Q : AV → Heap → Prop} (hk : vc11 q1 n2 q3 h Q) : AC Try.prog 11 [.agg [.sl q1, .int .i64 n2], .sl q3] h Q :=
 AC_by (H := hintsOf [2, 4] []) (by kernel_rfl) (by kernel_rfl) hk

/-- oxbowlaw17.Reach: what it asks. -/
def vc12 (n1 : Int) (h : Heap) (Q : AV → Heap → Prop) : Prop :=
 PNew [.int .i64 1] true h fun a2 h3 =>
 PNew [.int .i64 0, .int .i64 1] true h3 fun a4 h5 =>
 PNew [.int .i64 2] true h5 fun a6 h7 =>
 PNew [.int .i64 3] true h7 fun a8 h9 =>
 PNew [.int .i64 0, .int .i64 4] true h9 fun a10 h11 =>
 PNew [.int .i64 5] true h11 fun a12 h13 =>
 PNew [.int .i64 10, .sl none, .int .i64 0, .int .i64 0, .int .i64 0, .sl none, .int .i64 11, .sl none, .int .i64 0, .int .i64 0, .int .i64 0, .sl none, .int .i64 6, .sl (some ⟨a4, 0, 2, 2, 0⟩), .int .i64 23, .int .i64 0, .int .i64 0, .sl none, .int .i64 2, .sl (some ⟨a6, 0, 1, 1, 0⟩), .int .i64 3, .int .i64 0, .int .i64 0, .sl none, .int .i64 2, .sl (some ⟨a8, 0, 1, 1, 0⟩), .int .i64 5, .int .i64 1, .int .i64 0, .sl none, .int .i64 8, .sl (some ⟨a10, 0, 2, 2, 0⟩), .int .i64 0, .int .i64 0, .int .i64 0, .sl none, .int .i64 7, .sl (some ⟨a12, 0, 1, 1, 0⟩), .int .i64 0, .int .i64 0, .int .i64 0, .sl none] true h13 fun a14 h15 =>
 PNew [.int .i64 1, .sl none, .int .i64 0, .int .i64 0, .int .i64 0, .sl none, .int .i64 1, .sl none, .int .i64 0, .int .i64 0, .int .i64 1, .sl none, .int .i64 9, .sl (some ⟨a2, 0, 1, 1, 0⟩), .int .i64 0, .int .i64 0, .int .i64 n1, .sl (some ⟨a14, 0, 7, 7, 0⟩)] true h15 fun a16 h17 =>
 Q (.agg [.sl (some ⟨a16, 0, 3, 3, 0⟩), .int .i64 2]) h17
theorem ac12 {n1 : Int} {h : Heap} {Q : AV → Heap → Prop} (hk : vc12 n1 h Q) : AC Try.prog 12 [.int .i64 n1] h Q :=
 AC_by (H := hintsOf [2] []) (by kernel_rfl) (by kernel_rfl) hk

/-- eval.Bags: what it asks. -/
def vc26 (q1 : Option SL) (n2 : Int) (q3 : Option SL) (h : Heap) (Q : AV → Heap → Prop) : Prop :=
 AC Try.prog 28 [.agg [.sl q1, .int .i64 n2], .sl q3] h fun v4 h5 => ∃ p6 : Option PA, ∃ n7 : Int, v4 = .tup [.ptr p6, .int .i64 n7] ∧
 vif (n7 != 0)
 (Q (.tup [.sl none, .int .i64 n7]) h5)
 (vPtr p6 fun p8 =>
 ∃ q9 : Option SL, cellsAt h5 ⟨p8.b, p8.o + 0 + 0⟩ 1 = some [.sl q9] ∧
 AC Try.prog 29 [.sl q9] h5 fun v10 h11 => ∃ q12 : Option SL, v10 = .sl q12 ∧
 Q (.tup [.sl q12, .int .i64 0]) h11)
theorem ac26 {q1 : Option SL} {n2 : Int} {q3 : Option SL} {h : Heap} {Q : AV → Heap → Prop} (hk : vc26 q1 n2 q3 h Q) : AC Try.prog 26 [.agg [.sl q1, .int .i64 n2], .sl q3] h Q :=
 AC_by (H := hintsOf [2] []) (by kernel_rfl) (by kernel_rfl) hk

/-- eval.Round: what it asks. -/
def vc27 (q1 : Option SL) (n2 : Int) (q3 : Option SL) (q4 : Option SL) (h : Heap) (Q : AV → Heap → Prop) : Prop :=
 AC Try.prog 43 [.agg [.sl q1, .int .i64 n2]] h fun v5 h6 => ∃ n7 : Int, v5 = .int .i64 n7 ∧
 vif (n7 != 0)
 (Q (.tup [.sl none, .int .i64 n7]) h6)
 (AC Try.prog 44 [.agg [.sl q1, .int .i64 n2]] h6 fun v8 h9 => ∃ n10 : Int, ∃ b11 : Bool, v8 = .tup [.int .i64 n10, .bool b11] ∧
 vif (!b11)
 (Q (.tup [.sl none, .int .i64 1]) h9)
 (vif ((slLen q3 : Int) != n10)
 (Q (.tup [.sl none, .int .i64 1]) h9)
 (AC Try.prog 29 [.sl q3] h9 fun v12 h13 => ∃ q14 : Option SL, v12 = .sl q14 ∧
 PNew [.sl q4] true h13 fun a15 h16 =>
 PAppendS 1 24 q14 (some ⟨a15, 0, 1, 1, 0⟩) h16 fun q17 h18 =>
 ∃ (I20 : List AV → Heap → Prop) (m21 : List AV → Heap → Nat), I20 [.int .i64 0] h18 ∧
 ∀ n19 : Int, ∀ h22 : Heap, I20 [.int .i64 n19] h22 →
 vif (decide (n19 < (slLen q17 : Int)))
 (vIdx q17 n19 1 fun p23 =>
 ∃ q24 : Option SL, cellsAt h22 p23 1 = some [.sl q24] ∧
 AC Try.prog 38 [.sl q24] h22 fun v25 h26 => ∃ n27 : Int, v25 = .int .i64 n27 ∧
 vif (n27 != 0)
 (Q (.tup [.sl none, .int .i64 n27]) h26)
 (((some [.sl q1, .int .i64 n2] : Option (List AV)) = some [.sl q1, .int .i64 n2] ∧ True) ∧ I20 [.int .i64 (wrapK .i64 (n19 + 1))] h26 ∧ m21 [.int .i64 (wrapK .i64 (n19 + 1))] h26 < m21 [.int .i64 n19] h22))
 (vIdx q1 n10 6 fun p28 =>
 ∃ q29 : Option SL, cellsAt h22 ⟨p28.b, p28.o + 5⟩ 1 = some [.sl q29] ∧
 AC Try.prog 45 [.agg [.sl q3, .sl q4], .sl q29] h22 fun v30 h31 => ∃ q32 : Option SL, ∃ n33 : Int, v30 = .tup [.sl q32, .int .i64 n33] ∧
 PNew [] true h31 fun a34 h35 =>
 PAppendS 2 16 (some ⟨a34, 0, 0, 0, 0⟩) q32 h35 fun q36 h37 =>
 Q (.tup [.sl q36, .int .i64 n33]) h37))))
theorem ac27 {q1 : Option SL} {n2 : Int} {q3 : Option SL} {q4 : Option SL} {h : Heap} {Q : AV → Heap → Prop} (hk : vc27 q1 n2 q3 q4 h Q) : AC Try.prog 27 [.agg [.sl q1, .int .i64 n2], .sl q3, .sl q4] h Q :=
 AC_by (H := hintsOf [3] [(0, [40], [])]) (by kernel_rfl) (by kernel_rfl) hk

/-- eval.run: what it asks. -/
def vc28 (q1 : Option SL) (n2 : Int) (q3 : Option SL) (h : Heap) (Q : AV → Heap → Prop) : Prop :=
 AC Try.prog 43 [.agg [.sl q1, .int .i64 n2]] h fun v4 h5 => ∃ n6 : Int, v4 = .int .i64 n6 ∧
 vif (n6 != 0)
 (Q (.tup [.ptr none, .int .i64 n6]) h5)
 (vif (decide ((slLen q3 : Int) > 4))
 (Q (.tup [.ptr none, .int .i64 1]) h5)
 (∃ (I8 : List AV → Heap → Prop) (m9 : List AV → Heap → Nat), I8 [.int .i64 0] h5 ∧
 ∀ n7 : Int, ∀ h10 : Heap, I8 [.int .i64 n7] h10 →
 vif (decide (n7 < (slLen q3 : Int)))
 (vIdx q3 n7 1 fun p11 =>
 ∃ q12 : Option SL, cellsAt h10 p11 1 = some [.sl q12] ∧
 AC Try.prog 38 [.sl q12] h10 fun v13 h14 => ∃ n15 : Int, v13 = .int .i64 n15 ∧
 vif (n15 != 0)
 (Q (.tup [.ptr none, .int .i64 n15]) h14)
 (((some [.sl q1, .int .i64 n2] : Option (List AV)) = some [.sl q1, .int .i64 n2] ∧ True) ∧ I8 [.int .i64 (wrapK .i64 (n7 + 1))] h14 ∧ m9 [.int .i64 (wrapK .i64 (n7 + 1))] h14 < m9 [.int .i64 n7] h10))
 (PNew [.sl none, .nilfunc, .sl q3, .sl none] true h10 fun a16 h17 =>
 PStore h17 ⟨a16, 1⟩ [.func (.func 46) [.ptr (some ⟨a16, 0⟩)] []] fun h18 =>
 AC Try.prog 47 [.ptr (some ⟨a16, 0⟩), .sl q1] h18 fun v19 h20 => ∃ n21 : Int, v19 = .int .i64 n21 ∧
 vif (n21 != 0)
 (Q (.tup [.ptr none, .int .i64 n21]) h20)
 (Q (.tup [.ptr (some ⟨a16, 0⟩), .int .i64 0]) h20))))
theorem ac28 {q1 : Option SL} {n2 : Int} {q3 : Option SL} {h : Heap} {Q : AV → Heap → Prop} (hk : vc28 q1 n2 q3 h Q) : AC Try.prog 28 [.agg [.sl q1, .int .i64 n2], .sl q3] h Q :=
 AC_by (H := hintsOf [2] [(0, [22], [])]) (by kernel_rfl) (by kernel_rfl) hk

/-- eval.copies: what it asks. -/
def vc29 (q1 : Option SL) (h : Heap) (Q : AV → Heap → Prop) : Prop :=
 ∃ (I4 : List AV → Heap → Prop) (m5 : List AV → Heap → Nat), I4 [.sl none, .int .i64 0] h ∧
 ∀ q2 : Option SL, ∀ n3 : Int, ∀ h6 : Heap, I4 [.sl q2, .int .i64 n3] h6 →
 vif (decide (n3 < (slLen q1 : Int)))
 (vIdx q1 n3 1 fun p7 =>
 ∃ q8 : Option SL, cellsAt h6 p7 1 = some [.sl q8] ∧
 PNew [] true h6 fun a9 h10 =>
 PAppendS 2 16 (some ⟨a9, 0, 0, 0, 0⟩) q8 h10 fun q11 h12 =>
 PNew [.sl q11] true h12 fun a13 h14 =>
 PAppendS 1 24 q2 (some ⟨a13, 0, 1, 1, 0⟩) h14 fun q15 h16 =>
 (True) ∧ I4 [.sl q15, .int .i64 (wrapK .i64 (n3 + 1))] h16 ∧ m5 [.sl q15, .int .i64 (wrapK .i64 (n3 + 1))] h16 < m5 [.sl q2, .int .i64 n3] h6)
 (Q (.sl q2) h6)
theorem ac29 {q1 : Option SL} {h : Heap} {Q : AV → Heap → Prop} (hk : vc29 q1 h Q) : AC Try.prog 29 [.sl q1] h Q :=
 AC_by (H := hintsOf [] [(0, [3, 8], [])]) (by kernel_rfl) (by kernel_rfl) hk

/-- graph.Check: what it asks. -/
def vc43 (q1 : Option SL) (n2 : Int) (h : Heap) (Q : AV → Heap → Prop) : Prop :=
 AC Try.prog 63 [.sl q1, .int .i64 (-1)] h fun v3 h4 => ∃ b5 : Bool, v3 = .bool b5 ∧
 vif (!b5)
 (Q (.int .i64 170) h4)
 (vif (decide (n2 < 0))
 (Q (.int .i64 170) h4)
 (vif (decide (n2 ≥ (slLen q1 : Int)))
 (Q (.int .i64 170) h4)
 (AC Try.prog 64 [.agg [.sl q1, .int .i64 n2]] h4 fun v6 h7 => ∃ n8 : Int, v6 = .int .i64 n8 ∧
 vif (decide (n8 > 1))
 (Q (.int .i64 170) h7)
 (Q (.int .i64 0) h7))))
theorem ac43 {q1 : Option SL} {n2 : Int} {h : Heap} {Q : AV → Heap → Prop} (hk : vc43 q1 n2 h Q) : AC Try.prog 43 [.agg [.sl q1, .int .i64 n2]] h Q :=
 AC_by (H := hintsOf [1] []) (by kernel_rfl) (by kernel_rfl) hk

/-- graph.Loop: what it asks. -/
def vc44 (q1 : Option SL) (n2 : Int) (h : Heap) (Q : AV → Heap → Prop) : Prop :=
 AC Try.prog 43 [.agg [.sl q1, .int .i64 n2]] h fun v3 h4 => ∃ n5 : Int, v3 = .int .i64 n5 ∧
 vif (n5 != 0)
 (Q (.tup [.int .i64 0, .bool false]) h4)
 (AC Try.prog 65 [.sl q1, .func (.func 66) [] []] h4 fun v6 h7 => ∃ n8 : Int, v6 = .int .i64 n8 ∧
 Q (.tup [.int .i64 (maxI2 n8 0), .bool (decide (n8 ≥ 0))]) h7)
theorem ac44 {q1 : Option SL} {n2 : Int} {h : Heap} {Q : AV → Heap → Prop} (hk : vc44 q1 n2 h Q) : AC Try.prog 44 [.agg [.sl q1, .int .i64 n2]] h Q :=
 AC_by (H := hintsOf [1] []) (by kernel_rfl) (by kernel_rfl) hk

/-- eval.round).body: what it asks. -/
def vc45 (q1 : Option SL) (q2 : Option SL) (q3 : Option SL) (h : Heap) (Q : AV → Heap → Prop) : Prop :=
 PNew [.sl none, .func (.func 67) [.agg [.sl q1, .sl q2]] []] true h fun a4 h5 =>
 AC Try.prog 47 [.ptr (some ⟨a4, 0⟩), .sl q3] h5 fun v6 h7 => ∃ n8 : Int, v6 = .int .i64 n8 ∧
 vif (n8 != 0)
 (Q (.tup [.sl none, .int .i64 n8]) h7)
 (∃ q9 : Option SL, cellsAt h7 ⟨a4, 0⟩ 1 = some [.sl q9] ∧
 ∃ q10 : Option SL, cellsAt h7 ⟨a4, 0⟩ 1 = some [.sl q10] ∧
 vIdx q9 (wrapK .i64 ((slLen q10 : Int) - 1)) 1 fun p11 =>
 ∃ q12 : Option SL, cellsAt h7 p11 1 = some [.sl q12] ∧
 Q (.tup [.sl q12, .int .i64 0]) h7)
theorem ac45 {q1 : Option SL} {q2 : Option SL} {q3 : Option SL} {h : Heap} {Q : AV → Heap → Prop} (hk : vc45 q1 q2 q3 h Q) : AC Try.prog 45 [.agg [.sl q1, .sl q2], .sl q3] h Q :=
 AC_by (H := hintsOf [2] []) (by kernel_rfl) (by kernel_rfl) hk

/-- eval.whole).node: what it asks. -/
def vc46 (p1 : Option PA) (n2 : Int) (q3 : Option SL) (n4 : Int) (n5 : Int) (n6 : Int) (q7 : Option SL) (h : Heap) (Q : AV → Heap → Prop) : Prop :=
 vif (n2 == 9)
 (AC Try.prog 68 [.ptr p1, .agg [.int .i64 n2, .sl q3, .int .i64 n4, .int .i64 n5, .int .i64 n6, .sl q7]] h fun v8 h9 => ∃ q10 : Option SL, ∃ n11 : Int, v8 = .tup [.sl q10, .int .i64 n11] ∧
 Q (.tup [.sl q10, .int .i64 n11]) h9)
 (vPtr p1 fun p12 =>
 ∃ q13 : Option SL, cellsAt h ⟨p12.b, p12.o + 2⟩ 1 = some [.sl q13] ∧
 vif (decide (n6 ≥ (slLen q13 : Int)))
 (Q (.tup [.sl none, .int .i64 0]) h)
 (vPtr p1 fun p14 =>
 ∃ q15 : Option SL, cellsAt h ⟨p14.b, p14.o + 2⟩ 1 = some [.sl q15] ∧
 vIdx q15 n6 1 fun p16 =>
 ∃ q17 : Option SL, cellsAt h p16 1 = some [.sl q17] ∧
 AC Try.prog 40 [.sl q17] h fun v18 h19 => ∃ q20 : Option SL, ∃ n21 : Int, v18 = .tup [.sl q20, .int .i64 n21] ∧
 Q (.tup [.sl q20, .int .i64 n21]) h19))
theorem ac46 {p1 : Option PA} {n2 : Int} {q3 : Option SL} {n4 : Int} {n5 : Int} {n6 : Int} {q7 : Option SL} {h : Heap} {Q : AV → Heap → Prop} (hk : vc46 p1 n2 q3 n4 n5 n6 q7 h Q) : AC Try.prog 46 [.ptr p1, .agg [.int .i64 n2, .sl q3, .int .i64 n4, .int .i64 n5, .int .i64 n6, .sl q7]] h Q :=
 AC_by (H := hintsOf [3] []) (by kernel_rfl) (by kernel_rfl) hk

/-- eval.maker).all: what it asks. -/
def vc47 (p1 : Option PA) (q2 : Option SL) (h : Heap) (Q : AV → Heap → Prop) : Prop :=
 ∃ (I4 : List AV → Heap → Prop) (m5 : List AV → Heap → Nat), I4 [.int .i64 0] h ∧
 ∀ n3 : Int, ∀ h6 : Heap, I4 [.int .i64 n3] h6 →
 vif (decide (n3 < (slLen q2 : Int)))
 (vIdx q2 n3 6 fun p7 =>
 ∃ n8 : Int, ∃ q9 : Option SL, ∃ n10 : Int, ∃ n11 : Int, ∃ n12 : Int, ∃ q13 : Option SL, cellsAt h6 p7 6 = some [.int .i64 n8, .sl q9, .int .i64 n10, .int .i64 n11, .int .i64 n12, .sl q13] ∧
 vPtr p1 fun p14 =>
 ∃ v15 : AV, v15.one = true ∧ cellsAt h6 ⟨p14.b, p14.o + 1⟩ 1 = some (AV.cells v15) ∧
 AC Try.prog 31 [.agg [.int .i64 n8, .sl q9, .int .i64 n10, .int .i64 n11, .int .i64 n12, .sl q13]] h6 fun v16 h17 => ∃ b18 : Bool, v16 = .bool b18 ∧
 vif b18
 (AC Try.prog 69 [.ptr p1, .agg [.int .i64 n8, .sl q9, .int .i64 n10, .int .i64 n11, .int .i64 n12, .sl q13]] h17 fun v19 h20 => ∃ q21 : Option SL, ∃ n22 : Int, v19 = .tup [.sl q21, .int .i64 n22] ∧
 vif (n22 != 0)
 (Q (.int .i64 n22) h20)
 (vPtr p1 fun p23 =>
 ∃ q24 : Option SL, cellsAt h20 ⟨p23.b, p23.o + 0⟩ 1 = some [.sl q24] ∧
 PNew [.sl q21] true h20 fun a25 h26 =>
 PAppendS 1 24 q24 (some ⟨a25, 0, 1, 1, 0⟩) h26 fun q27 h28 =>
 vPtr p1 fun p29 =>
 PStore h28 ⟨p29.b, p29.o + 0⟩ [.sl q27] fun h30 =>
 (True) ∧ I4 [.int .i64 (wrapK .i64 (n3 + 1))] h30 ∧ m5 [.int .i64 (wrapK .i64 (n3 + 1))] h30 < m5 [.int .i64 n3] h6))
 (vCallF Try.prog (AC Try.prog) v15 [.agg [.int .i64 n8, .sl q9, .int .i64 n10, .int .i64 n11, .int .i64 n12, .sl q13]] h17 fun v31 h32 => ∃ q33 : Option SL, ∃ n34 : Int, v31 = .tup [.sl q33, .int .i64 n34] ∧
 vif (n34 != 0)
 (Q (.int .i64 n34) h32)
 (vPtr p1 fun p35 =>
 ∃ q36 : Option SL, cellsAt h32 ⟨p35.b, p35.o + 0⟩ 1 = some [.sl q36] ∧
 PNew [.sl q33] true h32 fun a37 h38 =>
 PAppendS 1 24 q36 (some ⟨a37, 0, 1, 1, 0⟩) h38 fun q39 h40 =>
 vPtr p1 fun p41 =>
 PStore h40 ⟨p41.b, p41.o + 0⟩ [.sl q39] fun h42 =>
 (True) ∧ I4 [.int .i64 (wrapK .i64 (n3 + 1))] h42 ∧ m5 [.int .i64 (wrapK .i64 (n3 + 1))] h42 < m5 [.int .i64 n3] h6)))
 (Q (.int .i64 0) h6)
theorem ac47 {p1 : Option PA} {q2 : Option SL} {h : Heap} {Q : AV → Heap → Prop} (hk : vc47 p1 q2 h Q) : AC Try.prog 47 [.ptr p1, .sl q2] h Q :=
 AC_by (H := hintsOf [6] [(0, [12], [])]) (by kernel_rfl) (by kernel_rfl) hk

/-- graph.list: what it asks. -/
def vc63 (q1 : Option SL) (n2 : Int) (h : Heap) (Q : AV → Heap → Prop) : Prop :=
 vif (decide ((slLen q1 : Int) < 1))
 (Q (.bool false) h)
 (vif (decide ((slLen q1 : Int) > 32))
 (Q (.bool false) h)
 (∃ (I4 : List AV → Heap → Prop) (m5 : List AV → Heap → Nat), I4 [.int .i64 0] h ∧
 ∀ n3 : Int, ∀ h6 : Heap, I4 [.int .i64 n3] h6 →
 vif (decide (n3 < (slLen q1 : Int)))
 (vIdx q1 n3 6 fun p7 =>
 ∃ n8 : Int, ∃ q9 : Option SL, ∃ n10 : Int, ∃ n11 : Int, ∃ n12 : Int, ∃ q13 : Option SL, cellsAt h6 p7 6 = some [.int .i64 n8, .sl q9, .int .i64 n10, .int .i64 n11, .int .i64 n12, .sl q13] ∧
 AC Try.prog 86 [.agg [.int .i64 n8, .sl q9, .int .i64 n10, .int .i64 n11, .int .i64 n12, .sl q13], .int .i64 n3, .int .i64 n2] h6 fun v14 h15 => ∃ b16 : Bool, v14 = .bool b16 ∧
 vif (!b16)
 (Q (.bool false) h15)
 ((True) ∧ I4 [.int .i64 (wrapK .i64 (n3 + 1))] h15 ∧ m5 [.int .i64 (wrapK .i64 (n3 + 1))] h15 < m5 [.int .i64 n3] h6))
 (Q (.bool true) h6)))
theorem ac63 {q1 : Option SL} {n2 : Int} {h : Heap} {Q : AV → Heap → Prop} (hk : vc63 q1 n2 h Q) : AC Try.prog 63 [.sl q1, .int .i64 n2] h Q :=
 AC_by (H := hintsOf [6] [(0, [17], [])]) (by kernel_rfl) (by kernel_rfl) hk

/-- graph.loops: what it asks. -/
def vc64 (q1 : Option SL) (n2 : Int) (h : Heap) (Q : AV → Heap → Prop) : Prop :=
 ∃ (I5 : List AV → Heap → Prop) (m6 : List AV → Heap → Nat), I5 [.int .i64 0, .int .i64 0] h ∧
 ∀ n3 : Int, ∀ n4 : Int, ∀ h7 : Heap, I5 [.int .i64 n3, .int .i64 n4] h7 →
 vif (decide (n4 < (slLen q1 : Int)))
 (vIdx q1 n4 6 fun p8 =>
 ∃ n9 : Int, ∃ q10 : Option SL, ∃ n11 : Int, ∃ n12 : Int, ∃ n13 : Int, ∃ q14 : Option SL, cellsAt h7 p8 6 = some [.int .i64 n9, .sl q10, .int .i64 n11, .int .i64 n12, .int .i64 n13, .sl q14] ∧
 vif (n9 == 9)
 (((some [.sl q1, .int .i64 n2] : Option (List AV)) = some [.sl q1, .int .i64 n2] ∧ True) ∧ I5 [.int .i64 (wrapK .i64 (n3 + 1)), .int .i64 (wrapK .i64 (n4 + 1))] h7 ∧ m6 [.int .i64 (wrapK .i64 (n3 + 1)), .int .i64 (wrapK .i64 (n4 + 1))] h7 < m6 [.int .i64 n3, .int .i64 n4] h7)
 (((some [.sl q1, .int .i64 n2] : Option (List AV)) = some [.sl q1, .int .i64 n2] ∧ True) ∧ I5 [.int .i64 n3, .int .i64 (wrapK .i64 (n4 + 1))] h7 ∧ m6 [.int .i64 n3, .int .i64 (wrapK .i64 (n4 + 1))] h7 < m6 [.int .i64 n3, .int .i64 n4] h7))
 (Q (.int .i64 n3) h7)
theorem ac64 {q1 : Option SL} {n2 : Int} {h : Heap} {Q : AV → Heap → Prop} (hk : vc64 q1 n2 h Q) : AC Try.prog 64 [.agg [.sl q1, .int .i64 n2]] h Q :=
 AC_by (H := hintsOf [1, 5] [(0, [3, 9], [])]) (by kernel_rfl) (by kernel_rfl) hk

/-- slices.IndexFunc: what it asks. -/
def vc65 (q1 : Option SL) (h : Heap) (Q : AV → Heap → Prop) : Prop :=
 ∃ (I3 : List AV → Heap → Prop) (m4 : List AV → Heap → Nat), I3 [.int .i64 0] h ∧
 ∀ n2 : Int, ∀ h5 : Heap, I3 [.int .i64 n2] h5 →
 vif (decide (n2 < (slLen q1 : Int)))
 (vIdx q1 n2 6 fun p6 =>
 ∃ n7 : Int, ∃ q8 : Option SL, ∃ n9 : Int, ∃ n10 : Int, ∃ n11 : Int, ∃ q12 : Option SL, cellsAt h5 p6 6 = some [.int .i64 n7, .sl q8, .int .i64 n9, .int .i64 n10, .int .i64 n11, .sl q12] ∧
 AC Try.prog 66 [.agg [.int .i64 n7, .sl q8, .int .i64 n9, .int .i64 n10, .int .i64 n11, .sl q12]] h5 fun v13 h14 => ∃ b15 : Bool, v13 = .bool b15 ∧
 vif b15
 (Q (.int .i64 n2) h14)
 ((True) ∧ I3 [.int .i64 (wrapK .i64 (n2 + 1))] h14 ∧ m4 [.int .i64 (wrapK .i64 (n2 + 1))] h14 < m4 [.int .i64 n2] h5))
 (Q (.int .i64 (-1)) h5)
theorem ac65 {q1 : Option SL} {h : Heap} {Q : AV → Heap → Prop} (hk : vc65 q1 h Q) : AC Try.prog 65 [.sl q1, .func (.func 66) [] []] h Q :=
 AC_by (H := hintsOf [] [(0, [8], [])]) (by kernel_rfl) (by kernel_rfl) hk

/-- graph.Loop$1: what it asks. -/
def vc66 (n1 : Int) (q2 : Option SL) (n3 : Int) (n4 : Int) (n5 : Int) (q6 : Option SL) (h : Heap) (Q : AV → Heap → Prop) : Prop :=
 Q (.bool (n1 == 9)) h
theorem ac66 {n1 : Int} {q2 : Option SL} {n3 : Int} {n4 : Int} {n5 : Int} {q6 : Option SL} {h : Heap} {Q : AV → Heap → Prop} (hk : vc66 n1 q2 n3 n4 n5 q6 h Q) : AC Try.prog 66 [.agg [.int .i64 n1, .sl q2, .int .i64 n3, .int .i64 n4, .int .i64 n5, .sl q6]] h Q :=
 AC_by (H := hintsOf [1] []) (by kernel_rfl) (by kernel_rfl) hk

/-- eval.round).node: what it asks. -/
def vc67 (q1 : Option SL) (q2 : Option SL) (n3 : Int) (q4 : Option SL) (n5 : Int) (n6 : Int) (n7 : Int) (q8 : Option SL) (h : Heap) (Q : AV → Heap → Prop) : Prop :=
 vif (n3 == 11)
 (vIdx q1 n7 1 fun p9 =>
 ∃ q10 : Option SL, cellsAt h p9 1 = some [.sl q10] ∧
 AC Try.prog 40 [.sl q10] h fun v11 h12 => ∃ q13 : Option SL, ∃ n14 : Int, v11 = .tup [.sl q13, .int .i64 n14] ∧
 Q (.tup [.sl q13, .int .i64 n14]) h12)
 (AC Try.prog 40 [.sl q2] h fun v15 h16 => ∃ q17 : Option SL, ∃ n18 : Int, v15 = .tup [.sl q17, .int .i64 n18] ∧
 Q (.tup [.sl q17, .int .i64 n18]) h16)
theorem ac67 {q1 : Option SL} {q2 : Option SL} {n3 : Int} {q4 : Option SL} {n5 : Int} {n6 : Int} {n7 : Int} {q8 : Option SL} {h : Heap} {Q : AV → Heap → Prop} (hk : vc67 q1 q2 n3 q4 n5 n6 n7 q8 h Q) : AC Try.prog 67 [.agg [.sl q1, .sl q2], .agg [.int .i64 n3, .sl q4, .int .i64 n5, .int .i64 n6, .int .i64 n7, .sl q8]] h Q :=
 AC_by (H := hintsOf [2, 3] []) (by kernel_rfl) (by kernel_rfl) hk

/-- eval.whole).loop: what it asks. -/
def vc68 (p1 : Option PA) (n2 : Int) (q3 : Option SL) (n4 : Int) (n5 : Int) (n6 : Int) (q7 : Option SL) (h : Heap) (Q : AV → Heap → Prop) : Prop :=
 vPtr p1 fun p8 =>
 ∃ q9 : Option SL, cellsAt h ⟨p8.b, p8.o + 0 + 0⟩ 1 = some [.sl q9] ∧
 vIdx q3 0 1 fun p10 =>
 ∃ n11 : Int, cellsAt h p10 1 = some [.int .i64 n11] ∧
 vIdx q9 n11 1 fun p12 =>
 ∃ q13 : Option SL, cellsAt h p12 1 = some [.sl q13] ∧
 PNew [.sl q13] true h fun a14 h15 =>
 vPtr p1 fun p16 =>
 PStore h15 ⟨p16.b, p16.o + 3⟩ [.sl (some ⟨a14, 0, 1, 1, 0⟩)] fun h17 =>
 ∃ (I20 : List AV → Heap → Prop) (m21 : List AV → Heap → Nat), I20 [.sl q13, .int .i64 0] h17 ∧
 ∀ q18 : Option SL, ∀ n19 : Int, ∀ h22 : Heap, I20 [.sl q18, .int .i64 n19] h22 →
 vif (decide (n19 < n6))
 (vPtr p1 fun p23 =>
 ∃ q24 : Option SL, cellsAt h22 ⟨p23.b, p23.o + 0 + 0⟩ 1 = some [.sl q24] ∧
 AC Try.prog 45 [.agg [.sl q24, .sl q18], .sl q7] h22 fun v25 h26 => ∃ q27 : Option SL, ∃ n28 : Int, v25 = .tup [.sl q27, .int .i64 n28] ∧
 vif (n28 != 0)
 (Q (.tup [.sl none, .int .i64 n28]) h26)
 (AC Try.prog 87 [.sl q18, .sl q27] h26 fun v29 h30 => ∃ b31 : Bool, v29 = .bool b31 ∧
 vif b31
 (Q (.tup [.sl q18, .int .i64 0]) h30)
 (vPtr p1 fun p32 =>
 ∃ q33 : Option SL, cellsAt h30 ⟨p32.b, p32.o + 3⟩ 1 = some [.sl q33] ∧
 PNew [.sl q27] true h30 fun a34 h35 =>
 PAppendS 1 24 q33 (some ⟨a34, 0, 1, 1, 0⟩) h35 fun q36 h37 =>
 vPtr p1 fun p38 =>
 PStore h37 ⟨p38.b, p38.o + 3⟩ [.sl q36] fun h39 =>
 ((some [.int .i64 n2, .sl q3, .int .i64 n4, .int .i64 n5, .int .i64 n6, .sl q7] : Option (List AV)) = some [.int .i64 n2, .sl q3, .int .i64 n4, .int .i64 n5, .int .i64 n6, .sl q7] ∧ True) ∧ I20 [.sl q27, .int .i64 (wrapK .i64 (n19 + 1))] h39 ∧ m21 [.sl q27, .int .i64 (wrapK .i64 (n19 + 1))] h39 < m21 [.sl q18, .int .i64 n19] h22)))
 (Q (.tup [.sl q18, .int .i64 0]) h22)
theorem ac68 {p1 : Option PA} {n2 : Int} {q3 : Option SL} {n4 : Int} {n5 : Int} {n6 : Int} {q7 : Option SL} {h : Heap} {Q : AV → Heap → Prop} (hk : vc68 p1 n2 q3 n4 n5 n6 q7 h Q) : AC Try.prog 68 [.ptr p1, .agg [.int .i64 n2, .sl q3, .int .i64 n4, .int .i64 n5, .int .i64 n6, .sl q7]] h Q :=
 AC_by (H := hintsOf [3] [(0, [6, 27], [])]) (by kernel_rfl) (by kernel_rfl) hk

/-- eval.maker).apply: what it asks. -/
def vc69 (p1 : Option PA) (n2 : Int) (q3 : Option SL) (n4 : Int) (n5 : Int) (n6 : Int) (q7 : Option SL) (h : Heap) (Q : AV → Heap → Prop) : Prop :=
 AC Try.prog 88 [.ptr p1, .agg [.int .i64 n2, .sl q3, .int .i64 n4, .int .i64 n5, .int .i64 n6, .sl q7]] h fun v8 h9 => ∃ q10 : Option SL, v8 = .sl q10 ∧
 (LV.val (.agg [.int .i64 n2, .sl q3, .int .i64 n4, .int .i64 n5, .int .i64 n6, .sl q7]) = LV.val (.agg [.int .i64 n2, .sl q3, .int .i64 n4, .int .i64 n5, .int .i64 n6, .sl q7])) ∧
 AC Try.prog 21 [.agg [.int .i64 n2, .sl q3, .int .i64 n4, .int .i64 n5, .int .i64 n6, .sl q7], .sl q10] h9 fun v11 h12 => ∃ q13 : Option SL, ∃ n14 : Int, v11 = .tup [.sl q13, .int .i64 n14] ∧
 Q (.tup [.sl q13, .int .i64 n14]) h12
theorem ac69 {p1 : Option PA} {n2 : Int} {q3 : Option SL} {n4 : Int} {n5 : Int} {n6 : Int} {q7 : Option SL} {h : Heap} {Q : AV → Heap → Prop} (hk : vc69 p1 n2 q3 n4 n5 n6 q7 h Q) : AC Try.prog 69 [.ptr p1, .agg [.int .i64 n2, .sl q3, .int .i64 n4, .int .i64 n5, .int .i64 n6, .sl q7]] h Q :=
 AC_by (H := hintsOf [3] []) (by kernel_rfl) (by kernel_rfl) hk

/-- graph.node: what it asks. -/
def vc86 (n1 : Int) (q2 : Option SL) (n3 : Int) (n4 : Int) (n5 : Int) (q6 : Option SL) (n7 : Int) (n8 : Int) (h : Heap) (Q : AV → Heap → Prop) : Prop :=
 PNew [.int .i64 n7] true h fun a9 h10 =>
 AC Try.prog 70 [.int .i64 n1] h10 fun v11 h12 => ∃ n13 : Int, ∃ n14 : Int, ∃ b15 : Bool, v11 = .tup [.agg [.int .i64 n13, .int .i64 n14], .bool b15] ∧
 PNew [.nilfunc] true h12 fun a16 h17 =>
 PStore h17 ⟨a16, 0⟩ [.func (.func 111) [] [.ptr (some ⟨a9, 0⟩)]] fun h18 =>
 vif (!b15)
 (Q (.bool false) h18)
 (vif ((slLen q2 : Int) != n13)
 (Q (.bool false) h18)
 (AC Try.prog 112 [.sl q2, .func (.func 113) [] [.ptr (some ⟨a16, 0⟩)]] h18 fun v19 h20 => ∃ b21 : Bool, v19 = .bool b21 ∧
 vif b21
 (Q (.bool false) h20)
 (AC Try.prog 114 [.agg [.int .i64 n1, .sl q2, .int .i64 n3, .int .i64 n4, .int .i64 n5, .sl q6], .int .i64 n14] h20 fun v22 h23 => ∃ b24 : Bool, v22 = .bool b24 ∧
 vif (!b24)
 (Q (.bool false) h23)
 (AC Try.prog 115 [.agg [.int .i64 n1, .sl q2, .int .i64 n3, .int .i64 n4, .int .i64 n5, .sl q6], .int .i64 n8] h23 fun v25 h26 => ∃ b27 : Bool, v25 = .bool b27 ∧
 vif (!b27)
 (Q (.bool false) h26)
 (vif (n1 != 9)
 (Q (.bool ((slLen q6 : Int) == 0)) h26)
 (∃ n28 : Int, cellsAt h26 ⟨a9, 0⟩ 1 = some [.int .i64 n28] ∧
 AC Try.prog 63 [.sl q6, .int .i64 n28] h26 fun v29 h30 => ∃ b31 : Bool, v29 = .bool b31 ∧
 Q (.bool b31) h30))))))
theorem ac86 {n1 : Int} {q2 : Option SL} {n3 : Int} {n4 : Int} {n5 : Int} {q6 : Option SL} {n7 : Int} {n8 : Int} {h : Heap} {Q : AV → Heap → Prop} (hk : vc86 n1 q2 n3 n4 n5 q6 n7 n8 h Q) : AC Try.prog 86 [.agg [.int .i64 n1, .sl q2, .int .i64 n3, .int .i64 n4, .int .i64 n5, .sl q6], .int .i64 n7, .int .i64 n8] h Q :=
 AC_by (H := hintsOf [3, 7] []) (by kernel_rfl) (by kernel_rfl) hk

/-- eval.maker).ins: what it asks. -/
def vc88 (p1 : Option PA) (n2 : Int) (q3 : Option SL) (n4 : Int) (n5 : Int) (n6 : Int) (q7 : Option SL) (h : Heap) (Q : AV → Heap → Prop) : Prop :=
 ∃ (I10 : List AV → Heap → Prop) (m11 : List AV → Heap → Nat), I10 [.sl none, .int .i64 0] h ∧
 ∀ q8 : Option SL, ∀ n9 : Int, ∀ h12 : Heap, I10 [.sl q8, .int .i64 n9] h12 →
 vif (decide (n9 < (slLen q3 : Int)))
 (vIdx q3 n9 1 fun p13 =>
 ∃ n14 : Int, cellsAt h12 p13 1 = some [.int .i64 n14] ∧
 vPtr p1 fun p15 =>
 ∃ q16 : Option SL, cellsAt h12 ⟨p15.b, p15.o + 0⟩ 1 = some [.sl q16] ∧
 vIdx q16 n14 1 fun p17 =>
 ∃ q18 : Option SL, cellsAt h12 p17 1 = some [.sl q18] ∧
 PNew [.sl q18] true h12 fun a19 h20 =>
 PAppendS 1 24 q8 (some ⟨a19, 0, 1, 1, 0⟩) h20 fun q21 h22 =>
 ((some [.int .i64 n2, .sl q3, .int .i64 n4, .int .i64 n5, .int .i64 n6, .sl q7] : Option (List AV)) = some [.int .i64 n2, .sl q3, .int .i64 n4, .int .i64 n5, .int .i64 n6, .sl q7] ∧ True) ∧ I10 [.sl q21, .int .i64 (wrapK .i64 (n9 + 1))] h22 ∧ m11 [.sl q21, .int .i64 (wrapK .i64 (n9 + 1))] h22 < m11 [.sl q8, .int .i64 n9] h12)
 (Q (.sl q8) h12)
theorem ac88 {p1 : Option PA} {n2 : Int} {q3 : Option SL} {n4 : Int} {n5 : Int} {n6 : Int} {q7 : Option SL} {h : Heap} {Q : AV → Heap → Prop} (hk : vc88 p1 n2 q3 n4 n5 n6 q7 h Q) : AC Try.prog 88 [.ptr p1, .agg [.int .i64 n2, .sl q3, .int .i64 n4, .int .i64 n5, .int .i64 n6, .sl q7]] h Q :=
 AC_by (H := hintsOf [3] [(0, [5, 11], [])]) (by kernel_rfl) (by kernel_rfl) hk

/-- graph.node$1: what it asks. -/
def vc111 (n1 : Int) (p2 : PA) (h : Heap) (Q : AV → Heap → Prop) : Prop :=
 vif (decide (n1 ≥ 0))
 (∃ n3 : Int, cellsAt h p2 1 = some [.int .i64 n3] ∧
 Q (.bool (decide (n1 < n3))) h)
 (Q (.bool false) h)
theorem ac111 {n1 : Int} {p2 : PA} {h : Heap} {Q : AV → Heap → Prop} (hk : vc111 n1 p2 h Q) : AC Try.prog 111 [.int .i64 n1, .ptr (some p2)] h Q :=
 AC_by (H := hintsOf [] []) (by kernel_rfl) (by kernel_rfl) hk

/-- slices.ContainsFunc: what it asks. -/
def vc112 (q1 : Option SL) (p2 : PA) (h : Heap) (Q : AV → Heap → Prop) : Prop :=
 AC Try.prog 132 [.sl q1, .func (.func 113) [] [.ptr (some p2)]] h fun v3 h4 => ∃ n5 : Int, v3 = .int .i64 n5 ∧
 Q (.bool (decide (n5 ≥ 0))) h4
theorem ac112 {q1 : Option SL} {p2 : PA} {h : Heap} {Q : AV → Heap → Prop} (hk : vc112 q1 p2 h Q) : AC Try.prog 112 [.sl q1, .func (.func 113) [] [.ptr (some p2)]] h Q :=
 AC_by (H := hintsOf [] []) (by kernel_rfl) (by kernel_rfl) hk

/-- graph.node$2: what it asks. -/
def vc113 (n1 : Int) (p2 : PA) (h : Heap) (Q : AV → Heap → Prop) : Prop :=
 ∃ v3 : AV, v3.one = true ∧ cellsAt h p2 1 = some (AV.cells v3) ∧
 vCallF Try.prog (AC Try.prog) v3 [.int .i64 n1] h fun v4 h5 => ∃ b6 : Bool, v4 = .bool b6 ∧
 Q (.bool (!b6)) h5
theorem ac113 {n1 : Int} {p2 : PA} {h : Heap} {Q : AV → Heap → Prop} (hk : vc113 n1 p2 h Q) : AC Try.prog 113 [.int .i64 n1, .ptr (some p2)] h Q :=
 AC_by (H := hintsOf [] []) (by kernel_rfl) (by kernel_rfl) hk

/-- graph.function: what it asks. -/
def vc114 (n1 : Int) (q2 : Option SL) (n3 : Int) (n4 : Int) (n5 : Int) (q6 : Option SL) (n7 : Int) (h : Heap) (Q : AV → Heap → Prop) : Prop :=
 vif (n7 == 0)
 (Q (.bool ((n3 == 0) && ((n4 == 0) && true))) h)
 (AC Try.prog 49 [.agg [.int .i64 n3, .int .i64 n4]] h fun v8 h9 => ∃ n10 : Int, v8 = .int .i64 n10 ∧
 Q (.bool (n10 == n7)) h9)
theorem ac114 {n1 : Int} {q2 : Option SL} {n3 : Int} {n4 : Int} {n5 : Int} {q6 : Option SL} {n7 : Int} {h : Heap} {Q : AV → Heap → Prop} (hk : vc114 n1 q2 n3 n4 n5 q6 n7 h Q) : AC Try.prog 114 [.agg [.int .i64 n1, .sl q2, .int .i64 n3, .int .i64 n4, .int .i64 n5, .sl q6], .int .i64 n7] h Q :=
 AC_by (H := hintsOf [2] []) (by kernel_rfl) (by kernel_rfl) hk

/-- graph.number: what it asks. -/
def vc115 (n1 : Int) (q2 : Option SL) (n3 : Int) (n4 : Int) (n5 : Int) (q6 : Option SL) (n7 : Int) (h : Heap) (Q : AV → Heap → Prop) : Prop :=
 vif (n1 == 1)
 (vif (!(n7 != (-1)))
 (vif (decide (n5 ≥ 0))
 (Q (.bool (decide (n5 < 4))) h)
 (Q (.bool false) h))
 (Q (.bool false) h))
 (vif (n1 == 9)
 (vif (!(n7 != (-1)))
 (vif (decide (n5 ≥ 1))
 (Q (.bool (decide (n5 ≤ 64))) h)
 (Q (.bool false) h))
 (Q (.bool false) h))
 (vif (n1 == 10)
 (vif (n7 != (-1))
 (Q (.bool (n5 == 0)) h)
 (Q (.bool false) h))
 (vif (n1 == 11)
 (vif (n7 != (-1))
 (vif (decide (n5 ≥ 0))
 (Q (.bool (decide (n5 < n7))) h)
 (Q (.bool false) h))
 (Q (.bool false) h))
 (Q (.bool (n5 == 0)) h))))
theorem ac115 {n1 : Int} {q2 : Option SL} {n3 : Int} {n4 : Int} {n5 : Int} {q6 : Option SL} {n7 : Int} {h : Heap} {Q : AV → Heap → Prop} (hk : vc115 n1 q2 n3 n4 n5 q6 n7 h Q) : AC Try.prog 115 [.agg [.int .i64 n1, .sl q2, .int .i64 n3, .int .i64 n4, .int .i64 n5, .sl q6], .int .i64 n7] h Q :=
 AC_by (H := hintsOf [2] []) (by kernel_rfl) (by kernel_rfl) hk

/-- slices.IndexFunc: what it asks. -/
def vc132 (q1 : Option SL) (p2 : PA) (h : Heap) (Q : AV → Heap → Prop) : Prop :=
 ∃ (I4 : List AV → Heap → Prop) (m5 : List AV → Heap → Nat), I4 [.int .i64 0] h ∧
 ∀ n3 : Int, ∀ h6 : Heap, I4 [.int .i64 n3] h6 →
 vif (decide (n3 < (slLen q1 : Int)))
 (vIdx q1 n3 1 fun p7 =>
 ∃ n8 : Int, cellsAt h6 p7 1 = some [.int .i64 n8] ∧
 AC Try.prog 113 [.int .i64 n8, .ptr (some p2)] h6 fun v9 h10 => ∃ b11 : Bool, v9 = .bool b11 ∧
 vif b11
 (Q (.int .i64 n3) h10)
 ((True) ∧ I4 [.int .i64 (wrapK .i64 (n3 + 1))] h10 ∧ m5 [.int .i64 (wrapK .i64 (n3 + 1))] h10 < m5 [.int .i64 n3] h6))
 (Q (.int .i64 (-1)) h6)
theorem ac132 {q1 : Option SL} {p2 : PA} {h : Heap} {Q : AV → Heap → Prop} (hk : vc132 q1 p2 h Q) : AC Try.prog 132 [.sl q1, .func (.func 113) [] [.ptr (some p2)]] h Q :=
 AC_by (H := hintsOf [] [(0, [8], [])]) (by kernel_rfl) (by kernel_rfl) hk

end Go.Proofs
