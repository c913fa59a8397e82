/- The part of some records, by their keys; what stands in some. -/
import Derived.Test.YtfafgnmlnhklaaaAG16
namespace Go.Proofs.Ytfafgnmlnhklaaa
open Go.Ab
set_option linter.unusedVariables false
set_option linter.unusedSimpArgs false

section
variable {h : Heap} {Q : AV → Heap → Prop} {q : Option SL} {l : List Rec}
/-- Clone, and strike those that are not kept. -/
theorem part_ac {p2 : PA} {g : FuncId} {P : Int → Bool} {xs : List AV} (H : HasL recE h q l) (hl : l.length ≤ 1000000) (hp : cellsAt h p2 xs.length = some xs) (hx : 0 < xs.length)
    (hf : ∀ (h8 : Heap) (n : Int) (K : AV → Heap → Prop), cellsAt h8 p2 xs.length = some xs → K (.bool (P n)) h8 → AC Try.prog g [.ptr (some p2), .int .i64 n] h8 K)
    (hQ : ∀ q' h', NewJ recE h h' q' (l.filter fun r => P r.1) → Q (.sl q') h') :
    PNew [.func (.func g) [.ptr (some p2)] []] true h fun a3 h4 => AC Try.prog 36 [.sl q] h4 fun v5 h6 => ∃ q7 : Option SL, v5 = .sl q7 ∧
      AC Try.prog 35 [.sl q7, .func (.func 37) [] [.ptr (some ⟨a3, 0⟩)]] h6 fun v8 h9 => ∃ q10 : Option SL, v8 = .sl q10 ∧ Q (.sl q10) h9 := by
  refine pnew_mk ?_
  have x4 := Ext.app h [Blk.cells [.func (.func g) [.ptr (some p2)] []] true]
  have l4 : (h ++ [Blk.cells [AV.func (.func g) [.ptr (some p2)] []] true]).length = h.length + 1 := by simp
  have c4 : cellsAt (h ++ [Blk.cells [AV.func (.func g) [.ptr (some p2)] []] true]) ⟨h.length, 0⟩ 1 = some [AV.func (.func g) [.ptr (some p2)] []] := by
    unfold cellsAt; simp
  have hlt : p2.b < h.length := by
    obtain ⟨C, rw', e, _⟩ := cellsAt_elim hp
    exact lt_of_get e
  generalize h ++ [Blk.cells [.func (.func g) [.ptr (some p2)] []] true] = h4 at *
  refine c36 (H.mono x4) hl fun q7 h6 N => ⟨q7, rfl, ?_⟩
  have x6 := N.1
  have n7 := N.2.2
  refine c35 (P := P) (fv := .func (.func g) [.ptr (some p2)] []) rfl (x6.cells c4) (fun s hs => by have := n7 s hs; show s.b ≠ h.length; omega) (fun h8 n K K8 hK => ?_) (AppJ.of N.2.1) hl fun q' h' A K l' hq => ⟨q', rfl, ?_⟩
  · have : cellsAt h8 p2 xs.length = some xs := K8.cells (fun ⟨s, a1, a2⟩ => by have := n7 s a1; omega) (x6.cells (x4.cells hp))
    exact hf h8 n K this hK
  · exact hQ q' h' (((NewJ.of N).inplace A K hq).back x4)
theorem c17 {p2 : PA} {n m : Int} (hp : cellsAt h p2 1 = some [.int .i64 n]) (hQ : Q (.bool (decide (m < n))) h) : AC Try.prog 17 [.ptr (some p2), .int .i64 m] h Q := ac17 (by
  unfold vc17 vPtr
  exact ⟨n, hp, hQ⟩)
theorem c22 {p2 : PA} {n s m : Int} (hp : cellsAt h p2 2 = some [.int .i64 n, .int .i64 s]) (hn : n ≠ 0) (hQ : Q (.bool (Int.tmod m n == s)) h) : AC Try.prog 22 [.ptr (some p2), .int .i64 m] h Q := ac22 (by
  unfold vc22 vPtr
  refine ⟨n, cellsAt_sub (k := 0) (m := 1) hp (by omega), ?_⟩
  rw [need_var]
  exact ⟨by simp [hn], s, cellsAt_sub (k := 1) (m := 1) hp (by omega), hQ⟩)
/-- Part, of keys below a number. -/
theorem c16c {p2 : PA} {n : Int} (H : HasL recE h q l) (hl : l.length ≤ 1000000) (hp : cellsAt h p2 1 = some [.int .i64 n]) (hQ : ∀ q' h', NewJ recE h h' q' (l.filter fun r => decide (r.1 < n)) → Q (.sl q') h') :
    AC Try.prog 16 [.sl q, .func (.func 17) [.ptr (some p2)] []] h Q := ac16c (by
  unfold vc16c
  exact part_ac (xs := [.int .i64 n]) (P := fun k => decide (k < n)) H hl hp (by simp) (fun h8 m K hp hK => c17 hp hK) hQ)
/-- Part, of keys of a rest. -/
theorem c16r {p2 : PA} {n s : Int} (H : HasL recE h q l) (hl : l.length ≤ 1000000) (hp : cellsAt h p2 2 = some [.int .i64 n, .int .i64 s]) (hn : n ≠ 0) (hQ : ∀ q' h', NewJ recE h h' q' (l.filter fun r => Int.tmod r.1 n == s) → Q (.sl q') h') :
    AC Try.prog 16 [.sl q, .func (.func 22) [.ptr (some p2)] []] h Q := ac16r (by
  unfold vc16r
  exact part_ac (xs := [.int .i64 n, .int .i64 s]) (P := fun k => Int.tmod k n == s) H hl hp (by simp) (fun h8 m K hp hK => c22 hp hn hK) hQ)
/-- has -/
theorem c18 {l : List Int} {n : Int} (H : HasL intE h q l) (hl : l.length ≤ 1000000) (hm : n ∈ l) (hQ : Q (.bool true) h) : AC Try.prog 18 [.sl q, .int .i64 n] h Q := ac18 (by
  unfold vc18
  refine ⟨fun xs h6 => h6 = h ∧ ∃ i : Nat, xs = [.int .i64 i] ∧ i ≤ l.length ∧ n ∈ l.drop i, left l.length, ⟨rfl, 0, rfl, by omega, by simpa using hm⟩, ?_⟩
  rintro n3 h6 ⟨rfl, i, hx, hi, ha⟩
  simp only [List.cons.injEq, AV.int.injEq, true_and, and_true] at hx
  subst hx
  rw [H.len]
  refine vif_mk (fun g => ?_) (fun g => ?_)
  · replace g := of_decide_eq_true g
    refine H.idx (E := intE) (by omega) (by omega) fun p x hx hc => ⟨x, hc, ?_⟩
    simp only [Int.toNat_natCast] at hx
    refine vif_mk (fun g1 => hQ) (fun g1 => ?_)
    have g1 : x ≠ n := by simpa using g1
    rw [wrapK_i64 ⟨by omega, by omega⟩]
    refine ⟨trivial, ⟨rfl, i + 1, by simp, by omega, ?_⟩, by simp only [left]; omega⟩
    have hlt : i < l.length := by omega
    rw [List.drop_eq_getElem_cons hlt] at ha
    rw [List.getElem?_eq_getElem hlt] at hx
    cases hx
    rcases List.mem_cons.1 ha with e | e
    · exact absurd e.symm g1
    · exact e
  · replace g := of_decide_eq_false g
    rw [List.drop_eq_nil_of_le (by omega)] at ha
    simp at ha)
/-- some -/
theorem c19 {n : Int} (H : HasL recE h q l) (hl : l.length ≤ 1000000) (hm : ∃ r ∈ l, r.1 = n) (hQ : Q (.bool true) h) : AC Try.prog 19 [.sl q, .int .i64 n] h Q := ac19 (by
  unfold vc19
  refine ⟨fun xs h6 => h6 = h ∧ ∃ i : Nat, xs = [.int .i64 i] ∧ i ≤ l.length ∧ ∃ r ∈ l.drop i, r.1 = n, left l.length, ⟨rfl, 0, rfl, by omega, by simpa using hm⟩, ?_⟩
  rintro n3 h6 ⟨rfl, i, hx, hi, ha⟩
  simp only [List.cons.injEq, AV.int.injEq, true_and, and_true] at hx
  subst hx
  rw [H.len]
  refine vif_mk (fun g => ?_) (fun g => ?_)
  · replace g := of_decide_eq_true g
    refine H.idx (E := recE) (by omega) (by omega) fun p x hx hc => ⟨x.1, cellsAt_sub (k := 0) (m := 1) hc (by show 0 + 1 ≤ 2; omega), ?_⟩
    simp only [Int.toNat_natCast] at hx
    refine vif_mk (fun g1 => hQ) (fun g1 => ?_)
    have g1 : x.1 ≠ n := by simpa using g1
    rw [wrapK_i64 ⟨by omega, by omega⟩]
    refine ⟨trivial, ⟨rfl, i + 1, by simp, by omega, ?_⟩, by simp only [left]; omega⟩
    have hlt : i < l.length := by omega
    obtain ⟨r, hr, e⟩ := ha
    rw [List.drop_eq_getElem_cons hlt] at hr
    rw [List.getElem?_eq_getElem hlt] at hx
    cases hx
    rcases List.mem_cons.1 hr with e2 | e2
    · rw [e2] at e; exact absurd e g1
    · exact ⟨r, e2, e⟩
  · replace g := of_decide_eq_false g
    obtain ⟨r, hr, _⟩ := ha
    rw [List.drop_eq_nil_of_le (by omega)] at hr
    simp at hr)
end
end Go.Proofs.Ytfafgnmlnhklaaa
