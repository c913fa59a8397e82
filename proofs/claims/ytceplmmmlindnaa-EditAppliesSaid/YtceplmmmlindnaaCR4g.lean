/- Both states tell the same. -/
import Derived.Test.YtceplmmmlindnaaCR4f
namespace Go.Proofs.Ytceplmmmlindnaa
open Go.Ab
set_option linter.unusedVariables false
set_option linter.unusedSimpArgs false

section
variable {h : Heap} {Q : AV → Heap → Prop} {p1 p2 : Nat} {has : Bool} {done : List ED} {mark : ED}

theorem u28 {q1 q2 : Option SL} {l : List ED} (E1 : InL h q1 l) (E2 : InL h q2 l) (hl : l.length ≤ 1000) (hs : ∀ d ∈ l, d.2.2.2.length ≤ 256) (hQ : Q (.bool true) h) : AC Try.prog 28 [.sl q1, .sl q2] h Q := ac28 (by
  have hlen := E1.len
  have hlen2 := E2.len
  obtain ⟨L1, g1, k1, f1⟩ := E1
  obtain ⟨L2, g2, k2, f2⟩ := E2
  unfold vc28
  refine vif_mk (fun g => ?_) fun _ => ?_
  · rw [hlen, hlen2] at g; simp at g
  refine ⟨fun xs h9 => h9 = h ∧ ∃ i : Nat, xs = [.int .i64 i], fun xs _ => match xs with | [.int _ i] => (l.length - i).toNat | _ => 0, ⟨rfl, 0, rfl⟩, ?_⟩
  rintro i h9 ⟨rfl, i', hx⟩
  simp only [List.cons.injEq, AV.int.injEq, true_and, and_true] at hx
  subst hx
  refine vif_mk (fun h1 => ?_) (fun _ => hQ)
  simp only [decide_eq_true_eq] at h1
  refine HasL.idx (E := edE) g1 (by omega) (by omega) fun pp x hx hc => ?_
  refine ⟨x.1, x.2.1, x.2.2.1, x.2.2.2, hc, ?_⟩
  refine HasL.idx (E := edE) g2 (by omega) (by omega) fun pp2 y hy hc2 => ?_
  refine ⟨y.1, y.2.1, y.2.2.1, y.2.2.2, hc2, ?_⟩
  have hd : i' < l.length := by omega
  have hx' : L1[i']? = some x := by simpa using hx
  have hy' : L2[i']? = some y := by simpa using hy
  have hdd : l[i']? = some l[i'] := List.getElem?_eq_getElem hd
  refine t16 (e := x) (e2 := y) (f1 _ _ _ hx' hdd) (f2 _ _ _ hy' hdd) (hs _ (List.getElem_mem _)) ⟨true, rfl, vif_mk (fun g => by simp at g) fun _ => ?_⟩
  rw [wrapK_i64 ⟨by omega, by omega⟩]
  refine ⟨trivial, ⟨rfl, i' + 1, by simp⟩, ?_⟩
  simp only; omega)

theorem tail25 (S : StV h p1 has done mark) (S2 : StV h p2 has done mark) (V : Vld has done mark) (hd : done.length ≤ 100) (hrl : ∀ d ∈ edits has done mark, d.2.2.2.length ≤ 256) {kp : Prop} (hkp : kp) (hQ : ∀ h', Ext h h' → Q (.bool true) h') :
    AC Try.prog 31 [.ptr (some ⟨p1, 0⟩)] h fun v57 h58 => ∃ q59 : Option SL, v57 = .sl q59 ∧
    AC Try.prog 83 [.ptr (some ⟨p2, 0⟩)] h58 fun v60 h61 => ∃ q62 : Option SL, v60 = .sl q62 ∧
    vif ((slLen q59 : Int) != (slLen q62 : Int))
    (Q (.bool false) h61)
    (∃ (I64 : List AV → Heap → Prop) (m65 : List AV → Heap → Nat), I64 [.int .i64 0] h61 ∧
    ∀ n63 : Int, ∀ h66 : Heap, I64 [.int .i64 n63] h66 →
    vif (decide (n63 < (slLen q59 : Int)))
    (vIdx q59 n63 1 fun p67 =>
    ∃ s68 : List UInt8, cellsAt h66 p67 1 = some [.str s68] ∧
    vIdx q62 n63 1 fun p69 =>
    ∃ s70 : List UInt8, cellsAt h66 p69 1 = some [.str s70] ∧
    vif (!(s68 == s70))
    (Q (.bool false) h66)
    (kp ∧ I64 [.int .i64 (wrapK .i64 (n63 + 1))] h66 ∧ m65 [.int .i64 (wrapK .i64 (n63 + 1))] h66 < m65 [.int .i64 n63] h66))
    (Q (.bool true) h66)) := by
  have nl : (docNames (namesOf (edits has done mark))).length ≤ 25856 := by
    have h1 := namesOf_len hrl
    have h2 := docNames_len (l := namesOf (edits has done mark))
    have : (edits has done mark).length ≤ 101 := by unfold edits; cases has <;> simp <;> omega
    omega
  refine v31 S V hd fun q59 h58 hxA H => ⟨q59, rfl, ?_⟩
  refine u83 (S2.ext hxA) hd hrl fun q62 h61 hx2 H2 => ⟨q62, rfl, ?_⟩
  have H1 := H.mono hx2
  generalize docNames (namesOf (edits has done mark)) = l at *
  have l1 := H1.len
  have l2 := H2.len
  refine vif_mk (fun g => by rw [l1, l2] at g; simp at g) fun _ => ?_
  refine ⟨fun xs h9 => h9 = h61 ∧ ∃ i : Nat, xs = [.int .i64 i] ∧ i ≤ l.length, fun xs _ => match xs with | [.int _ i] => (l.length - i).toNat | _ => 0, ⟨rfl, 0, rfl, by omega⟩, ?_⟩
  rintro i h9 ⟨rfl, i', hx, hi⟩
  simp only [List.cons.injEq, AV.int.injEq, true_and, and_true] at hx
  subst hx
  refine vif_mk (fun g1 => ?_) fun _ => hQ _ (hxA.trans hx2)
  simp only [decide_eq_true_eq] at g1
  refine HasL.idx (E := strE) H1 (by omega) (by omega) fun pp x hx hc => ⟨x, hc, ?_⟩
  refine HasL.idx (E := strE) H2 (by omega) (by omega) fun pp2 y hy hc2 => ⟨y, hc2, ?_⟩
  rw [hx] at hy; cases hy
  refine vif_mk (fun g => by simp at g) fun _ => ?_
  rw [wrapK_i64 ⟨by omega, by omega⟩]
  refine ⟨hkp, ⟨rfl, i' + 1, by simp, by omega⟩, ?_⟩
  simp only; omega

/-- alike. -/
theorem u25 (S : StV h p1 has done mark) (S2 : StV h p2 has done mark) (V : Vld has done mark) (hd : done.length ≤ 100) {n : Int} (hQ : ∀ h', Ext h h' → Q (.bool true) h') : AC Try.prog 25 [.ptr (some ⟨p1, 0⟩), .ptr (some ⟨p2, 0⟩), .int .i64 n] h Q := ac25 (by
  have S20 := S2
  obtain ⟨qd, m, b1, b2, b3, b7, b8⟩ := S2
  have hlen := b2.len
  have hrl : ∀ d ∈ edits has done mark, d.2.2.2.length ≤ 256 := by
    intro d hm
    unfold edits at hm
    rcases List.mem_append.1 hm with hm | hm
    · exact b7 d hm
    · cases has with
      | true => simp at hm; subst hm; exact b8
      | false => simp at hm
  have hel : (edits has done mark).length ≤ 1000 := by unfold edits; cases has <;> simp <;> omega
  unfold vc25
  refine v27 S fun e h5 hx5 hR hs => ⟨e.1, e.2.1, e.2.2.1, e.2.2.2, has, rfl, ?_⟩
  refine v30 (S.ext hx5) fun e2 h12 hx12 hR2 => ⟨e2.1, e2.2.1, e2.2.2.1, e2.2.2.2, isDone done n, rfl, ?_⟩
  have hxA := hx5.trans hx12
  refine ⟨qd, cells6 (hxA _ _ b1) (o := 0) (k := 1) (by simp), ?_⟩
  refine v29 (S.ext hxA) ⟨_, rfl, ⟨qd, cells6 (hxA _ _ b1) (o := 0) (k := 1) (by simp), rfl⟩, vif_mk (fun g => by rw [hlen] at g; simp at g) fun _ => ?_⟩
  refine ⟨has, cells6 (hxA _ _ b1) (o := 5) (k := 1) (by simp), vif_mk (fun g => by simp at g) fun _ => ?_⟩
  refine ⟨m.1, m.2.1, m.2.2.1, m.2.2.2, cells6 (hxA _ _ b1) (o := 1) (k := 4) (by simp), ?_⟩
  refine t16 (e := e) (e2 := m) (d := mark) ⟨hR.1, hR.2.1, hR.2.2.1, hR.2.2.2.mono hx12⟩ ⟨b3.1, b3.2.1, b3.2.2.1, b3.2.2.2.mono hxA⟩ b8 ⟨true, rfl, vif_mk (fun g => by simp at g) fun _ => ?_⟩
  refine v26 (S.ext hxA) hd fun q35 h34 hx34 hE => ⟨q35, rfl, ?_⟩
  refine u82 (S20.ext (hxA.trans hx34)) hd fun q38 h37 hx37 hE2 => ⟨q38, rfl, ?_⟩
  refine u28 (hE.inL.ext hx37) hE2 hel hrl ⟨true, rfl, vif_mk (fun g => by simp at g) fun _ => ?_⟩
  have hxB := (hxA.trans hx34).trans hx37
  have SB := S.ext hxB
  have SB2 := S20.ext hxB
  have c0 := cells6 (hxB _ _ b1) (o := 0) (k := 1) (by simp)
  have hR2' : EdR h37 e2 (doneAt done n) := ⟨hR2.1, hR2.2.1, hR2.2.2.1, hR2.2.2.2.mono (hx34.trans hx37)⟩
  have fin : ∀ {kp : Prop}, kp → _ := fun {kp} hkp => tail25 SB SB2 V hd hrl (kp := kp) hkp (fun h' hx' => hQ h' (hxB.trans hx'))
  have hzero : isDone done n = false → doneAt done n = zeroD := by
    intro hf
    unfold doneAt
    split
    · rename_i h0
      have : done.length ≤ n.toNat := by
        simp only [isDone, Bool.and_eq_false_iff, decide_eq_false_iff_not] at hf
        omega
      rw [List.getElem?_eq_none this]; rfl
    · rfl
  have same0 : isDone done n = false → ∀ {K : AV → Heap → Prop}, K (.bool true) h37 → AC Try.prog 16 [.agg [.int .i64 e2.1, .int .i64 e2.2.1, .int .i64 e2.2.2.1, .sl e2.2.2.2], .agg [.int .i64 0, .int .i64 0, .int .i64 0, .sl none]] h37 K := by
    intro hf K hK
    exact t16 (e := e2) (e2 := zeroV) (d := zeroD) (by rw [← hzero hf]; exact hR2') ⟨rfl, rfl, rfl, rfl⟩ (by simp) hK
  refine vif_mk (fun g1 => ?_) (fun g1 => ?_)
  · simp only [decide_eq_true_eq] at g1
    have hid : isDone done n = decide (n < (slLen qd : Int)) := by
      simp only [isDone, hlen]
      have : decide (0 ≤ n) = true := by simpa using g1
      rw [this]; rfl
    refine ⟨qd, c0, vif_mk (fun g => by rw [hid] at g; simp at g) fun _ => ?_⟩
    refine vif_mk (fun g2 => ?_) (fun g2 => ?_)
    · simp only [decide_eq_true_eq] at g2
      obtain ⟨L, g, hL, he⟩ := (b2.ext hxB : InL h37 qd done)
      refine ⟨qd, c0, HasL.idx (E := edE) g (by omega) (by omega) fun pp x hx hc => ⟨x.1, x.2.1, x.2.2.1, x.2.2.2, hc, ?_⟩⟩
      have hdl : n.toNat < done.length := by omega
      have hd' : done[n.toNat]? = some done[n.toNat] := List.getElem?_eq_getElem hdl
      have e2' : doneAt done n = done[n.toNat] := by
        unfold doneAt
        rw [if_pos (by omega), hd']; rfl
      refine t16 (e := e2) (e2 := x) (d := done[n.toNat]) (by rw [← e2']; exact hR2') (he _ x _ hx hd') (b7 _ (List.getElem_mem _)) ⟨true, rfl, vif_mk (fun g => by simp at g) fun _ => ?_⟩
      refine vif_mk (fun g3 => ?_) (fun g3 => fin ⟨rfl, rfl, trivial⟩)
      have : ¬ n < (slLen qd : Int) := by simpa using g3
      omega
    · have hf : isDone done n = false := by rw [hid]; exact g2
      refine vif_mk (fun g3 => ?_) (fun g3 => ?_)
      · exact same0 hf ⟨true, rfl, vif_mk (fun g => by simp at g) fun _ => fin ⟨rfl, rfl, trivial⟩⟩
      · rw [g2] at g3; simp at g3
  · simp only [decide_eq_false_iff_not] at g1
    have hf : isDone done n = false := by simp [isDone]; omega
    refine vif_mk (fun g => by rw [hf] at g; simp at g) fun _ => ?_
    exact same0 hf ⟨true, rfl, vif_mk (fun g => by simp at g) fun _ => fin ⟨rfl, rfl, trivial⟩⟩)
end
end Go.Proofs.Ytceplmmmlindnaa
