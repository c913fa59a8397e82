/- EditNobody answers yes for every edit (any numbers, any list of refs) and every epoch. -/
import Derived.Test.YtceplmmmlindnaaCR2v
import Derived.Test.YtceplmmmlindnaaCR2s
import Derived.Test.YtceplmmmlindnaaCR2k
import Derived.Test.YtceplmmmlindnaaCAb23
namespace Go.Proofs.Ytceplmmmlindnaa
open Go.Ab
open Go.ChangeShapes Go.WideShapes Go.ChangeAt Go.RowKit
set_option linter.unusedVariables false
set_option linter.unusedSimpArgs false

abbrev ovF : Ovr := ovKS [(85, 122), (96, 125)] 84
def refE : Enc (List UInt8 × Int × Int) := ⟨3, fun r => [.str r.1, .int .i64 r.2.1, .int .i64 r.2.2], fun _ => rfl, by omega, fun _ => rfl⟩

/-- large: says something, and turns nothing. -/
theorem s12 {n1 n2 n3 : Int} {q : Option SL} {h : Heap} {Q : AV → Heap → Prop} {l : List (List UInt8 × Int × Int)} (hL : HasL refE h q l) (hQ : ∀ b, (b = false → l.length ≤ 300) → Q (.bool b) h) : AC Try.prog 12 [.agg [.int .i64 n1, .int .i64 n2, .int .i64 n3, .sl q]] h Q := ac12 (by
  unfold vc12
  refine ⟨fun xs h9 => h9 = h ∧ ∃ a i : Int, xs = [.int .i64 a, .int .i64 i] ∧ 0 ≤ i, fun xs _ => match xs with | [_, .int _ i] => (l.length - i).toNat | _ => 0, ⟨rfl, 0, 0, rfl, by omega⟩, ?_⟩
  rintro a i h9 ⟨rfl, a', i', hx, h0⟩
  simp only [List.cons.injEq, AV.int.injEq, true_and, and_true] at hx
  obtain ⟨rfl, rfl⟩ := hx
  have hlen := hL.len
  have hend : Q (.bool (decide ((slLen q : Int) > 300))) h9 := hQ _ (by intro hb; simp at hb; omega)
  refine vif_mk (fun h1 => ?_) (fun _ => hend)
  refine vif_mk (fun h2 => ?_) (fun _ => hend)
  simp only [decide_eq_true_eq] at h1 h2
  refine hL.idx h0 (by omega) fun p x hx hc => ?_
  refine ⟨x.1, ?_, ?_⟩
  · have := cellsAt_sub (k := 0) (m := 1) hc (by show 0 + 1 ≤ 3; omega)
    simpa [refE] using this
  · refine vif_mk (fun _ => hQ _ (by simp)) (fun _ => ?_)
    refine ⟨⟨rfl, trivial⟩, ⟨rfl, _, _, rfl, ?_⟩, ?_⟩
    · rw [wrapK_i64 ⟨by omega, by omega⟩]; omega
    · simp only
      rw [wrapK_i64 ⟨by omega, by omega⟩]
      omega)

def isNilSl (v : AV) (_ : EH) : Bool := match v with | .sl none => true | _ => false
def isZero (v : AV) (_ : EH) : Bool := match v with | .int .i64 (.ofNat 0) => true | _ => false
theorem isNilSl_ok {v : AV} {e : EH} (h : isNilSl v e = true) : v = .sl none := by
  unfold isNilSl at h
  split at h <;> simp_all
set_option maxRecDepth 100000 in
theorem run13 : erun Try.prog slotsOf ovF 60 13 [] ⟨.e, 0⟩ isTrue = true := by kernel_rfl
set_option maxRecDepth 100000 in
theorem run31 : erun Try.prog slotsOf ovF 60 31 [.ptr none] ⟨.e, 0⟩ isNilSl = true := by kernel_rfl
set_option maxRecDepth 100000 in
theorem run26 : erun Try.prog slotsOf ovF 60 26 [.ptr none] ⟨.e, 0⟩ isNilSl = true := by kernel_rfl
abbrev noMark : AV := .tup [.agg [.int .i64 0, .int .i64 0, .int .i64 0, .sl none], .bool false]
set_option maxRecDepth 100000 in
theorem run27 : erun Try.prog slotsOf ovF 60 27 [.ptr none] ⟨.e, 0⟩ (fun v _ => avEq v noMark) = true := by kernel_rfl

section
variable {h : Heap} {Q : AV → Heap → Prop}
/-- What lives in every program lives in this one. -/
theorem s13 (hQ : Q (.bool true) h) : AC Try.prog 13 [] h Q :=
  AC_frame (v := .bool true) (erun_ok Try.ovOk 60 13 _ _ _ _ _ HFor_nil (fun v e' h' _ hv => isTrue_ok hv) run13) (fun _ _ h => h) (fun _ _ _ h => h) hQ
theorem n31 (hQ : Q (.sl none) h) : AC Try.prog 31 [.ptr none] h Q :=
  AC_frame (v := .sl none) (erun_ok Try.ovOk 60 31 _ _ _ _ _ HFor_nil (fun v e' h' _ hv => isNilSl_ok hv) run31) (fun _ _ h => h) (fun _ _ _ h => h) hQ
theorem n26 (hQ : Q (.sl none) h) : AC Try.prog 26 [.ptr none] h Q :=
  AC_frame (v := .sl none) (erun_ok Try.ovOk 60 26 _ _ _ _ _ HFor_nil (fun v e' h' _ hv => isNilSl_ok hv) run26) (fun _ _ h => h) (fun _ _ _ h => h) hQ
theorem n27 (hQ : Q noMark h) : AC Try.prog 27 [.ptr none] h Q :=
  AC_frame (v := noMark) (erun_ok Try.ovOk 60 27 _ _ _ _ _ HFor_nil (fun v e' h' _ hv => avEq_ok _ _ hv) run27) (fun _ _ h => h) (fun _ _ _ h => h) hQ
theorem n29 (hQ : Q (.int .i64 0) h) : AC Try.prog 29 [.ptr none] h Q := ac29 (by unfold vc29; exact hQ)
theorem n30 {n : Int} (hQ : Q noMark h) : AC Try.prog 30 [.ptr none, .int .i64 n] h Q := ac30 (by
  unfold vc30
  refine vif_mk (fun _ => hQ) (fun h1 => n29 ⟨_, rfl, ?_⟩)
  refine vif_mk (fun _ => hQ) (fun h2 => ?_)
  simp at h1 h2; omega)
theorem n23 {a b c : Int} {q : Option SL} (hQ : Q (.int .i64 6) h) : AC Try.prog 23 [.ptr none, .agg [.int .i64 a, .int .i64 b, .int .i64 c, .sl q]] h Q := ac23 (by unfold vc23; exact hQ)

theorem s7 {a b c n : Int} {q : Option SL} {l : List (List UInt8 × Int × Int)} (hL : HasL refE h q l) : AC Try.prog 7 [.agg [.int .i64 a, .int .i64 b, .int .i64 c, .sl q], .int .i64 n] h fun v _ => v = .bool true := ac7 (by
  unfold vc7
  refine s12 hL fun b8 _ => ⟨b8, rfl, ?_⟩
  refine vif_mk (fun _ => s13 ⟨_, rfl, rfl⟩) (fun _ => ?_)
  refine n27 ⟨_, _, _, _, _, rfl, ?_⟩
  refine n30 ⟨_, _, _, _, _, rfl, ?_⟩
  refine s13 ⟨_, rfl, ?_⟩
  refine n23 ⟨_, rfl, ?_⟩
  refine n29 ⟨_, rfl, ?_⟩
  refine n26 ⟨_, rfl, ?_⟩
  refine n31 ⟨_, rfl, ?_⟩
  rfl)
end
end Go.Proofs.Ytceplmmmlindnaa
