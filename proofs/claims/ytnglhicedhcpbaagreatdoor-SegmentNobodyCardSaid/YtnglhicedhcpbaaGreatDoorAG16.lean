/- Numbers as bytes: what the functions make. -/
import Derived.Test.YtnglhicedhcpbaaGreatDoorAG5
import Derived.Test.YtnglhicedhcpbaaGreatDoorAG13
import Derived.Test.YtnglhicedhcpbaaGreatDoorAG14
import Derived.Test.YtnglhicedhcpbaaGreatDoorAG15
namespace Go.Proofs.YtnglhicedhcpbaaGreatDoor
open Go.Ab
open Go.Num hiding Bs
set_option linter.unusedVariables false
set_option linter.unusedSimpArgs false
section
variable {h : Heap} {Q : AV → Heap → Prop}
theorem t269 {n : Nat} (hn : n < 9223372036854775808) (hQ : Q (.int .i64 (wid n : Nat)) h) : AC Tryz.prog 269 [.int .i64 n] h Q := ac269 (by
  have hw : wid n ≤ 8 := (wid_lt 8 n (by omega)).2 (by omega)
  unfold vc269
  rw [shr8]
  refine ⟨fun xs h6 => h6 = h ∧ ∃ m s : Nat, xs = [.int .i64 m, .int .i64 s] ∧ wid n = s + (if m = 0 then 0 else wid m), fun xs _ => match xs with | [.int _ m, _] => m.toNat | _ => 0, ⟨rfl, n / 256, 1, rfl, ?_⟩, ?_⟩
  · rw [wid]
    split
    · rename_i h; rw [Nat.div_eq_of_lt h]; rfl
    · rename_i h; rw [if_neg (by omega)]
  rintro m s h6 ⟨rfl, m', s', hx, hw2⟩
  simp only [List.cons.injEq, AV.int.injEq, true_and, and_true] at hx
  obtain ⟨rfl, rfl⟩ := hx
  refine vif_mk (fun h1 => ?_) (fun h1 => ?_)
  · simp only [decide_eq_true_eq] at h1
    rw [if_neg (by omega)] at hw2
    have := wid_pos (n := m')
    rw [shr8, wrapK_i64 ⟨by omega, by omega⟩]
    refine ⟨trivial, ⟨rfl, m' / 256, s' + 1, by simp, ?_⟩, by simp only; omega⟩
    rw [hw2, wid]
    split
    · rename_i h; rw [Nat.div_eq_of_lt h]; rfl
    · rename_i h; rw [if_neg (by omega)]; omega
  · simp only [decide_eq_false_iff_not] at h1
    have : m' = 0 := by omega
    subst this
    rw [if_pos rfl] at hw2
    rw [hw2] at hQ; exact hQ)

theorem zeros_flat {k : Nat} : (List.replicate k [AV.int .u8 0]).flatten = byteAVs (List.replicate k 0) := by
  induction k with
  | zero => rfl
  | succ k ih => rw [List.replicate_succ, List.flatten_cons, ih]; rfl

/-- The block that is being filled, from below. -/
theorem t274 {n k : Nat} (hk : 1 ≤ k ∧ k ≤ 8) (hQ : ∀ q h', New byE h h' q (beL n k) → Q (.sl q) h') : AC Tryz.prog 274 [.int .i64 n, .int .i64 k] h Q := ac274 (by
  unfold vc274
  refine ⟨by omega, by omega, by simp; omega, by simp only [maxI]; omega, ?_⟩
  simp only [Int.toNat_natCast]
  rw [zeros_flat]
  have fin : ∀ cur : Bs, cur.length = k → (∀ j, j < k → cur[j]? = (beL n k)[j]?) → Q (.sl (some ⟨h.length, 0, k, k, 0⟩)) (h ++ [.cells (byteAVs cur) true]) := by
    intro cur hl hc
    have : cur = beL n k := by
      refine List.ext_getElem? fun j => ?_
      rcases Nat.lt_or_ge j k with hj | hj
      · exact hc j hj
      · rw [List.getElem?_eq_none (by omega), List.getElem?_eq_none (by rw [beL_len]; omega)]
    subst this
    exact hQ _ _ (New.mk1 (E := byE) (beL_len _ _).symm byE_all.symm)
  refine ⟨fun xs h8 => ∃ (i : Nat) (cur : Bs), xs = [.int .i64 i] ∧ i ≤ k ∧ h8 = h ++ [.cells (byteAVs cur) true] ∧ cur.length = k ∧ ∀ j, j < i → cur[j]? = (beL n k)[j]?, fun xs _ => match xs with | [.int _ i] => (k - i).toNat | _ => 0, ⟨0, _, rfl, by omega, rfl, by simp, fun j hj => by omega⟩, ?_⟩
  rintro i h8 ⟨i', cur, hx, hi, rfl, hl, hc⟩
  simp only [List.cons.injEq, AV.int.injEq, true_and, and_true] at hx
  subst hx
  refine vif_mk (fun h1 => ?_) (fun h1 => ?_)
  · replace h1 := of_decide_eq_true h1
    simp only [slLen] at h1
    have hik : i' < k := by omega
    rw [wrapK_i64 (n := (k : Int) - 1) ⟨by omega, by omega⟩, wrapK_i64 (n := (k : Int) - 1 - i') ⟨by omega, by omega⟩, wrapK_i64 (n := 8 * ((k : Int) - 1 - i')) ⟨by omega, by omega⟩]
    have e8 : (8 * ((k : Int) - 1 - i')) = ((8 * (k - 1 - i') : Nat) : Int) := by omega
    rw [e8, shrB (by omega), u8c, wrapK_i64 ⟨by omega, by omega⟩]
    refine need_mk (by simp; omega) ⟨by omega, by omega, ?_⟩
    unfold PStore
    simp only [Int.toNat_natCast, Nat.mul_one, Nat.zero_add]
    rw [List.getElem?_append_right (by omega)]
    simp only [Nat.sub_self, List.getElem?_cons_zero]
    refine ⟨by rw [byAV_len, hl]; simp; omega, trivial, ⟨i' + 1, cur.set i' (UInt8.ofNat (n / 256 ^ (k - 1 - i') % 256)), by simp, by omega, ?_, by simp [hl], fun j hj => ?_⟩, by omega⟩
    · rw [splice_setB (by omega)]
      simp
    · rw [List.getElem?_set]
      split
      · rename_i he; subst he
        rw [if_pos (by omega), beL_get k n i' hik]
      · exact hc j (by omega)
  · replace h1 := of_decide_eq_false h1
    simp only [slLen] at h1
    have : i' = k := by omega
    subst this
    exact fin cur hl hc)
end
end Go.Proofs.YtnglhicedhcpbaaGreatDoor

/- num.Put. -/
namespace Go.Proofs.YtnglhicedhcpbaaGreatDoor
open Go.Ab
open Go.Num hiding Bs
set_option linter.unusedVariables false
set_option linter.unusedSimpArgs false
abbrev M63 : Nat := 9223372036854775808

theorem wid_le {n : Nat} (h : n < M63) : wid n ≤ 8 := (wid_lt 8 n (by omega)).2 (by simp only [M63] at h; omega)
theorem numB_len {n : Nat} (h : n < M63) : (numB n).length ≤ 9 := by
  have := wid_le h
  unfold numB
  split
  · simp
  · split
    · simp
    · simp [beL_len]; omega
section
variable {h : Heap} {Q : AV → Heap → Prop}

theorem by1 {n : Nat} (hn : n < 256) : [AV.int .u8 (wrapK .u8 (n : Int))] = byE.all [UInt8.ofNat n] := by
  rw [u8c, Nat.mod_eq_of_lt hn]; rfl
theorem numB_lo {n : Nat} (hn : n < 240) : numB n = [UInt8.ofNat n] := by unfold numB; rw [if_pos hn]
theorem numB_mid {n : Nat} (h0 : ¬ n < 240) (hn : n < 2288) : numB n = [UInt8.ofNat (240 + (n - 240) / 256), UInt8.ofNat ((n - 240) % 256)] := by unfold numB; rw [if_neg h0, if_pos hn]
theorem numB_hi {n : Nat} (hn : ¬ n < 2288) : numB n = UInt8.ofNat (246 + wid n) :: beL n (wid n) := by unfold numB; rw [if_neg (by omega), if_neg hn]
theorem byMid {n : Nat} (h0 : ¬ n < 240) (hn : n < 2288) {x y : Int} (hx : x = ((240 + (n - 240) / 256 : Nat) : Int)) (hy : y = ((n - 240 : Nat) : Int)) : [AV.int .u8 (wrapK .u8 x), .int .u8 (wrapK .u8 y)] = byE.all (numB n) := by
  subst hx hy
  rw [numB_mid h0 hn, u8c, u8c, Nat.mod_eq_of_lt (by omega : 240 + (n - 240) / 256 < 256)]; rfl

set_option maxRecDepth 20000 in
/-- num.Put. -/
theorem t236 {n : Nat} (hn : n < M63) (hQ : ∀ q h', New byE h h' q (numB n) → Q (.tup [.sl q, .int .i64 0]) h') : AC Tryz.prog 236 [.int .i64 n] h Q := ac236 (by
  simp only [M63] at hn
  unfold vc236 PNew

  refine vif_mk (fun g => ?_) (fun _ => ?_)
  · replace g := of_decide_eq_true g
    omega
  refine vif_mk (fun g => ?_) (fun g => ?_)
  · replace g := of_decide_eq_true g
    exact hQ _ _ (New.mk1 (E := byE) (by rw [numB_lo (by omega)]; rfl) (by rw [numB_lo (by omega), by1 (by omega)]))
  refine vif_mk (fun g2 => ?_) (fun g2 => ?_)
  · replace g := of_decide_eq_false g
    replace g2 := of_decide_eq_true g2
    refine hQ _ _ (New.mk1 (E := byE) (by rw [numB_mid (by omega) (by omega)]; rfl) ?_)
    rw [wrapK_i64 (n := (n : Int) - 240) ⟨by omega, by omega⟩]
    have e : ((n : Int) - 240) = ((n - 240 : Nat) : Int) := by omega
    rw [e, shr8]
    exact byMid (by omega) (by omega) (wrapK_i64 ⟨by omega, by omega⟩) rfl
  · replace g := of_decide_eq_false g
    replace g2 := of_decide_eq_false g2
    have hw := wid_le (n := n) hn
    refine t269 hn ⟨_, rfl, ?_⟩
    refine t274 ⟨wid_pos, hw⟩ fun q13 h12 N => ⟨q13, rfl, ?_⟩
    rw [wrapK_i64 (n := 246 + ((wid n : Nat) : Int)) ⟨by omega, by omega⟩] at N
    have e : (246 + ((wid n : Nat) : Int)) = ((246 + wid n : Nat) : Int) := by omega
    rw [e, by1 (by omega)] at N
    have N1 : New byE h h12 (some ⟨h.length, 0, 1, 1, 0⟩) [UInt8.ofNat (246 + wid n)] := (New.mk1 (E := byE) rfl rfl).ext N.1
    refine New.append (E := byE) N1 N.hasL (by simp [beL_len]; omega) fun q14 h15 N2 => hQ _ _ ?_
    rw [numB_hi (by omega)]
    exact N2)

end
end Go.Proofs.YtnglhicedhcpbaaGreatDoor

/- slices.Concat of bytes. -/
namespace Go.Proofs.YtnglhicedhcpbaaGreatDoor
open Go.Ab
open Go.Num hiding Bs
set_option linter.unusedVariables false
set_option linter.unusedSimpArgs false
theorem splice_bytes {C m : Bs} {o : Nat} : splice (byteAVs C) o (byteAVs m) = byteAVs (splice C o m) := by
  unfold splice byteAVs
  simp

section
variable {h : Heap} {Q : AV → Heap → Prop}
set_option maxRecDepth 20000 in
theorem t275 {n : Nat} (hn : n ≤ 100000) (hQ0 : n = 0 → Q (.sl none) h) (hQ1 : n ≠ 0 → Q (.sl (some ⟨h.length, 0, 0, n, 1⟩)) (h ++ [.cells (byteAVs (List.replicate n 0)) true])) : AC Tryz.prog 275 [.sl none, .int .i64 n] h Q := ac275 (by
  unfold vc275
  have e : wrapK .i64 ((n : Int) - 0) = n := by rw [wrapK_i64 ⟨by omega, by omega⟩]; omega
  rw [e]
  refine vif_mk (fun g => ?_) (fun _ => ?_)
  · replace g := of_decide_eq_true g
    omega
  refine vif_mk (fun g => ?_) (fun g => ?_)
  · replace g := of_decide_eq_true g
    refine ⟨rfl, rfl, rfl, by omega, by simp only [maxI]; omega, by omega, ?_⟩
    simp only [Int.toNat_natCast]
    rw [zeros_flat]
    refine ⟨by simp [byAV_len], ?_⟩
    simp only
    rw [if_neg (by omega)]
    refine ⟨by omega, by omega, ?_⟩
    refine ⟨.inr rfl, by omega, by simp, by simp, by simp, ?_⟩
    have := hQ1 (by omega)
    simpa using this
  · replace g := of_decide_eq_false g
    exact hQ0 (by omega))

/-- slices.Concat. -/
theorem t239 {q : Option SL} {qs : List (Option SL)} {ls : List Bs} (H : HasL slE h q qs) (hl : qs.length = ls.length) (hq : ∀ (i : Nat) (s : Option SL) (l : Bs), qs[i]? = some s → ls[i]? = some l → HasL byE h s l) (hT : ls.flatten.length ≤ 100000) (hn : ls.length ≤ 10)
    (hQ : ∀ q h', New byE h h' q ls.flatten → Q (.sl q) h') : AC Tryz.prog 239 [.sl q] h Q := ac239 (by
  unfold vc239
  have hlen := H.len
  have nxt : ∀ (i : Nat) (l : Bs), ls[i]? = some l → (ls.take (i + 1)).flatten = (ls.take i).flatten ++ l := fun i l hi => by
    rw [List.take_add_one, hi]; simp
  have pre : ∀ i, (ls.take i).flatten.length ≤ ls.flatten.length := fun i => by
    have : ls.flatten = (ls.take i).flatten ++ (ls.drop i).flatten := by rw [← List.flatten_append, List.take_append_drop]
    rw [this, List.length_append]; omega
  refine ⟨fun xs h6 => h6 = h ∧ ∃ i : Nat, xs = [.int .i64 ((ls.take i).flatten.length : Nat), .int .i64 i] ∧ i ≤ ls.length, fun xs _ => match xs with | [_, .int _ i] => (ls.length - i).toNat | _ => 0, ⟨rfl, 0, by simp, by omega⟩, ?_⟩
  rintro n i h6 ⟨rfl, i', hx, hi⟩
  simp only [List.cons.injEq, AV.int.injEq, true_and, and_true] at hx
  obtain ⟨rfl, rfl⟩ := hx
  refine vif_mk (fun g => ?_) (fun g => ?_)
  · replace g := of_decide_eq_true g
    refine HasL.idx (E := slE) H (by omega) (by omega) fun pp x hx hc => ⟨x, hc, ?_⟩
    have hx' : qs[i']? = some x := by simpa using hx
    have hli : ls[i']? = some (ls[i']'(by omega)) := List.getElem?_eq_getElem _
    have hxl := (hq i' x _ hx' hli).len
    have h1 := nxt i' _ hli
    have h2 := pre (i' + 1)
    have h3 : (ls.take (i' + 1)).flatten.length = (ls.take i').flatten.length + (ls[i']'(by omega)).length := by rw [h1, List.length_append]
    have e : wrapK .i64 ((((ls.take i').flatten.length : Nat) : Int) + (slLen x : Int)) = (((ls.take (i' + 1)).flatten.length : Nat) : Int) := by
      rw [wrapK_i64 ⟨by omega, by omega⟩, hxl, h3]; omega
    rw [e]
    refine vif_mk (fun g => ?_) (fun _ => ?_)
    · replace g := of_decide_eq_true g
      omega
    rw [wrapK_i64 ⟨by omega, by omega⟩]
    exact ⟨trivial, ⟨rfl, i' + 1, by simp, by omega⟩, by simp only; omega⟩
  · replace g := of_decide_eq_false g
    have : i' = ls.length := by omega
    subst this
    rw [List.take_length]
    have body : ∀ (q11 : Option SL) (h10 : Heap), Ext h6 h10 → (ls.flatten.length = 0 ∧ q11 = none ∨ ∃ a, h6.length ≤ a ∧ q11 = some ⟨a, 0, 0, ls.flatten.length, 1⟩ ∧ h10[a]? = some (.cells (byteAVs (List.replicate ls.flatten.length 0)) true)) →
        ∃ (I14 : List AV → Heap → Prop) (m15 : List AV → Heap → Nat), I14 [.sl q11, .int .i64 0] h10 ∧
        ∀ q12 : Option SL, ∀ n13 : Int, ∀ h16 : Heap, I14 [.sl q12, .int .i64 n13] h16 →
        vif (decide (n13 < (slLen q : Int)))
        (vIdx q n13 1 fun p17 =>
        ∃ q18 : Option SL, cellsAt h16 p17 1 = some [.sl q18] ∧
        PAppendS 1 1 q12 q18 h16 fun q19 h20 =>
        (True) ∧ I14 [.sl q19, .int .i64 (wrapK .i64 (n13 + 1))] h20 ∧ m15 [.sl q19, .int .i64 (wrapK .i64 (n13 + 1))] h20 < m15 [.sl q12, .int .i64 n13] h16)
        (Q (.sl q12) h16) := by
      intro q11 h10 hx10 hB
      refine ⟨fun xs h16 => ∃ (q12 : Option SL) (i : Nat), xs = [.sl q12, .int .i64 i] ∧ i ≤ ls.length ∧ Ext h6 h16 ∧ (ls.flatten.length = 0 ∧ q12 = none ∨ ∃ a C, h6.length ≤ a ∧ q12 = some ⟨a, 0, (ls.take i).flatten.length, ls.flatten.length, 1⟩ ∧ h16[a]? = some (.cells (byteAVs C) true) ∧ C.length = ls.flatten.length ∧ C.take (ls.take i).flatten.length = (ls.take i).flatten),
        fun xs _ => match xs with | [_, .int _ i] => (ls.length - i).toNat | _ => 0, ⟨q11, 0, rfl, by omega, hx10, ?_⟩, ?_⟩
      · rcases hB with hB | ⟨a, b1, b2, b3⟩
        · exact .inl hB
        · exact .inr ⟨a, _, b1, by simpa using b2, b3, by simp, by simp⟩
      · rintro q12 i h16 ⟨q12', i', hx, hi, hx16, hB⟩
        simp only [List.cons.injEq, AV.int.injEq, AV.sl.injEq, true_and, and_true] at hx
        obtain ⟨rfl, rfl⟩ := hx
        refine vif_mk (fun g => ?_) (fun g => ?_)
        · replace g := of_decide_eq_true g
          refine HasL.idx (E := slE) (H.mono hx16) (by omega) (by omega) fun pp x hx hc => ⟨x, hc, ?_⟩
          have hx' : qs[i']? = some x := by simpa using hx
          have hli : ls[i']? = some (ls[i']'(by omega)) := List.getElem?_eq_getElem _
          have hX := (hq i' x _ hx' hli).mono hx16
          have hxl := hX.len
          have h1 := nxt i' _ hli
          have h2 := pre (i' + 1)
          have h3 : (ls.take (i' + 1)).flatten.length = (ls.take i').flatten.length + (ls[i']'(by omega)).length := by rw [h1, List.length_append]
          generalize hml : ls[i']'(by omega) = m at *
          refine ⟨byE.all m, hX.cells, by rw [Enc.all_length, hxl]; rfl, ?_⟩
          rw [hxl, wrapK_i64 (n := (i' : Int) + 1) ⟨by omega, by omega⟩]
          rcases hB with ⟨hz, rfl⟩ | ⟨a, C, b1, rfl, b3, b4, b5⟩
          · simp only
            rw [if_pos (by omega)]
            exact ⟨trivial, ⟨none, i' + 1, by simp, by omega, hx16, .inl ⟨hz, rfl⟩⟩, by omega⟩
          · simp only
            rw [if_pos (by omega), b3]
            simp only [Nat.zero_add, Nat.mul_one]
            have hlt := lt_of_get b3
            rw [byE_all, splice_bytes]
            refine ⟨by rw [byAV_len, byAV_len]; omega, trivial, ⟨_, i' + 1, rfl, by omega, hx16.set b1, .inr ⟨a, splice C (ls.take i').flatten.length m, b1, by rw [h3], by rw [List.getElem?_set_self hlt], by rw [splice_length (by omega)]; exact b4, ?_⟩⟩, by omega⟩
            rw [h1, List.length_append]
            unfold splice
            rw [b5, List.append_assoc, List.take_append, List.take_of_length_le (by omega)]
            simp
        · replace g := of_decide_eq_false g
          have : i' = ls.length := by omega
          subst this
          refine hQ _ _ ⟨hx16, ?_, ?_⟩
          · rcases hB with ⟨hz, rfl⟩ | ⟨a, C, b1, rfl, b3, b4, b5⟩
            · exact .inl ⟨rfl, List.eq_nil_of_length_eq_zero hz⟩
            · rw [List.take_length] at b5 ⊢
              rw [← b4, List.take_length] at b5
              subst b5
              exact Apd.mk rfl (.inr rfl) (by rw [byE_all]; exact b3)
          · intro s hs
            rcases hB with ⟨hz, rfl⟩ | ⟨a, C, b1, rfl, b3, b4, b5⟩
            · cases hs
            · cases hs; exact b1
    refine t275 hT (fun h0 => ⟨_, rfl, body _ _ (.refl _) (.inl ⟨h0, rfl⟩)⟩) (fun h0 => ⟨_, rfl, body _ _ (.app _ _) (.inr ⟨h6.length, Nat.le_refl _, rfl, by simp⟩)⟩))
end
end Go.Proofs.YtnglhicedhcpbaaGreatDoor
