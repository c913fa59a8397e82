import Derived.Test.YtnglhicedhcpbaaGreatDoorLG6
import Derived.Test.YtnglhicedhcpbaaGreatDoorLG11
import Derived.Test.YtnglhicedhcpbaaGreatDoorLG18
import Derived.Test.YtnglhicedhcpbaaGreatDoorLG19
namespace Go.Proofs.YtnglhicedhcpbaaGreatDoor
open Go.Ab
open Go.Num hiding Bs
set_option linter.unusedVariables false
set_option linter.unusedSimpArgs false
section
variable {h : Heap} {Q : AHp}
theorem t269 {n : Nat} (hn : n < 9223372036854775808) (hQ : Q (.int .i64 (wid n : Nat)) h) : AC Tryz.prog 269 [.int .i64 n] h Q := ac269 (by
 have hw : wid n <= 8 := (zDC 8 n (by omega)).2 (by omega)
 unfold vc269
 rw [shr8]
 refine ⟨fun xs h6 => h6 = h /\ ∃ m s : Nat, xs = [.int .i64 m, .int .i64 s] /\ wid n = s + (if m = 0 then 0 else wid m), fun xs _ => match xs with | [.int _ m, _] => m.toNat | _ => 0, ⟨rfl, n / 256, 1, rfl, ?_⟩, ?_⟩
 ·rw [wid]
  split
  ·rename_i h; rw [Nat.div_eq_of_lt h]; rfl
  ·rename_i h; rw [if_neg (by omega)]
 rintro m s h6 ⟨rfl, m', s', hx, hw2⟩
 simp only [List.cons.injEq, AV.int.injEq, true_and, and_true] at hx
 obtain ⟨rfl, rfl⟩ := hx
 refine zB (fun h1 => ?_) (fun h1 => ?_)
 ·simp only [decide_eq_true_eq] at h1
  rw [if_neg (by omega)] at hw2
  have := zF3 (n := m')
  rw [shr8, zF ⟨by omega, by omega⟩]
  refine ⟨trivial, ⟨rfl, m' / 256, s' + 1, by simp, ?_⟩, by simp only; omega⟩
  rw [hw2, wid]
  split
  ·rename_i h; rw [Nat.div_eq_of_lt h]; rfl
  ·rename_i h; rw [if_neg (by omega)]; omega
 ·simp only [decide_eq_false_iff_not] at h1
  have : m' = 0 := by omega
  subst this
  rw [if_pos rfl] at hw2
  rw [hw2] at hQ; exact hQ)
theorem zBB {k : Nat} : (List.replicate k [AV.int .u8 0]).flatten = zR (List.replicate k 0) := by
 induction k with
 | zero => rfl
 | succ k ih => rw [List.replicate_succ, List.flatten_cons, ih]; rfl
theorem t274 {n k : Nat} (hk : 1 <= k /\ k <= 8) (hQ : ∀ q h', New byE h h' q (beL n k) -> Q (.sl q) h') : AC Tryz.prog 274 [.int .i64 n, .int .i64 k] h Q := ac274 (by
 unfold vc274
 refine ⟨by omega, by omega, by simp; omega, by simp only [maxI]; omega, ?_⟩
 simp only [Int.toNat_natCast]
 rw [zBB]
 have fin : ∀ cur : Bs, cur.length = k -> (∀ j, j < k -> cur[j]? = (beL n k)[j]?) -> Q (.sl (some ⟨h.length, 0, k, k, 0⟩)) (h ++ [.cells (zR cur) true]) := by
  intro cur hl hc
  have : cur = beL n k := by
   refine List.ext_getElem? fun j => ?_
   rcases Nat.lt_or_ge j k with hj | hj
   ·exact hc j hj
   ·rw [List.getElem?_eq_none (by omega), List.getElem?_eq_none (by rw [yE]; omega)]
  subst this
  exact hQ _ _ (New.mk1 (E := byE) (yE _ _).symm jD.symm)
 refine ⟨fun xs h8 => ∃ (i : Nat) (cur : Bs), xs = [.int .i64 i] /\ i <= k /\ h8 = h ++ [.cells (zR cur) true] /\ cur.length = k /\ ∀ j, j < i -> cur[j]? = (beL n k)[j]?, fun xs _ => match xs with | [.int _ i] => (k - i).toNat | _ => 0, ⟨0, _, rfl, by omega, rfl, by simp, fun j hj => by omega⟩, ?_⟩
 rintro i h8 ⟨i', cur, hx, hi, rfl, hl, hc⟩
 simp only [List.cons.injEq, AV.int.injEq, true_and, and_true] at hx
 subst hx
 refine zB (fun h1 => ?_) (fun h1 => ?_)
 ·replace h1 := of_decide_eq_true h1
  simp only [zJ] at h1
  have hik : i' < k := by omega
  rw [zF (n := (k : Int) - 1) ⟨by omega, by omega⟩, zF (n := (k : Int) - 1 - i') ⟨by omega, by omega⟩, zF (n := 8 * ((k : Int) - 1 - i')) ⟨by omega, by omega⟩]
  have e8 : (8 * ((k : Int) - 1 - i')) = ((8 * (k - 1 - i') : Nat) : Int) := by omega
  rw [e8, shrB (by omega), u8c, zF ⟨by omega, by omega⟩]
  refine yA (by simp; omega) ⟨by omega, by omega, ?_⟩
  unfold zI
  simp only [Int.toNat_natCast, Nat.mul_one, Nat.zero_add]
  rw [List.getElem?_append_right (by omega)]
  simp only [Nat.sub_self, List.getElem?_cons_zero]
  refine ⟨by rw [zBL, hl]; simp; omega, trivial, ⟨i' + 1, cur.set i' (UInt8.ofNat (n / 256 ^ (k - 1 - i') % 256)), by simp, by omega, ?_, by simp [hl], fun j hj => ?_⟩, by omega⟩
  ·rw [zBU (by omega)]
   simp
  ·rw [List.getElem?_set]
   split
   ·rename_i he; subst he
    rw [if_pos (by omega), zJT k n i' hik]
   ·exact hc j (by omega)
 ·replace h1 := of_decide_eq_false h1
  simp only [zJ] at h1
  have : i' = k := by omega
  subst this
  exact fin cur hl hc)
end
abbrev M63 : Nat := 9223372036854775808
theorem zG4 {n : Nat} (h : n < M63) : wid n <= 8 := (zDC 8 n (by omega)).2 (by simp only [M63] at h; omega)
theorem zY {n : Nat} (h : n < M63) : (numB n).length <= 9 := by
 have := zG4 h
 unfold numB
 split
 ·simp
 ·split
  ·simp
  ·simp [yE]; omega
section
variable {h : Heap} {Q : AHp}
theorem by1 {n : Nat} (hn : n < 256) : [AV.int .u8 (zE .u8 (n : Int))] = byE.all [UInt8.ofNat n] := by
 rw [u8c, Nat.mod_eq_of_lt hn]; rfl
theorem zGQ {n : Nat} (hn : n < 240) : numB n = [UInt8.ofNat n] := by unfold numB; rw [if_pos hn]
theorem zGP {n : Nat} (h0 : ¬ n < 240) (hn : n < 2288) : numB n = [UInt8.ofNat (240 + (n - 240) / 256), UInt8.ofNat ((n - 240) % 256)] := by unfold numB; rw [if_neg h0, if_pos hn]
theorem zN1 {n : Nat} (hn : ¬ n < 2288) : numB n = UInt8.ofNat (246 + wid n) :: beL n (wid n) := by unfold numB; rw [if_neg (by omega), if_neg hn]
theorem byMid {n : Nat} (h0 : ¬ n < 240) (hn : n < 2288) {x y : Int} (hx : x = ((240 + (n - 240) / 256 : Nat) : Int)) (hy : y = ((n - 240 : Nat) : Int)) : [AV.int .u8 (zE .u8 x), .int .u8 (zE .u8 y)] = byE.all (numB n) := by
 subst hx hy
 rw [zGP h0 hn, u8c, u8c, Nat.mod_eq_of_lt (by omega : 240 + (n - 240) / 256 < 256)]; rfl
set_option maxRecDepth 20000 in
theorem t236 {n : Nat} (hn : n < M63) (hQ : ∀ q h', New byE h h' q (numB n) -> Q (.tup [.sl q, .int .i64 0]) h') : AC Tryz.prog 236 [.int .i64 n] h Q := ac236 (by
 simp only [M63] at hn
 unfold vc236 PNew
 refine zB (fun g => ?_) (fun _ => ?_)
 ·replace g := of_decide_eq_true g
  omega
 refine zB (fun g => ?_) (fun g => ?_)
 ·replace g := of_decide_eq_true g
  exact hQ _ _ (New.mk1 (E := byE) (by rw [zGQ (by omega)]; rfl) (by rw [zGQ (by omega), by1 (by omega)]))
 refine zB (fun g2 => ?_) (fun g2 => ?_)
 ·replace g := of_decide_eq_false g
  replace g2 := of_decide_eq_true g2
  refine hQ _ _ (New.mk1 (E := byE) (by rw [zGP (by omega) (by omega)]; rfl) ?_)
  rw [zF (n := (n : Int) - 240) ⟨by omega, by omega⟩]
  have e : ((n : Int) - 240) = ((n - 240 : Nat) : Int) := by omega
  rw [e, shr8]
  exact byMid (by omega) (by omega) (zF ⟨by omega, by omega⟩) rfl
 ·replace g := of_decide_eq_false g
  replace g2 := of_decide_eq_false g2
  have hw := zG4 (n := n) hn
  refine t269 hn ⟨_, rfl, ?_⟩
  refine t274 ⟨zF3, hw⟩ fun q13 h12 N => ⟨q13, rfl, ?_⟩
  rw [zF (n := 246 + ((wid n : Nat) : Int)) ⟨by omega, by omega⟩] at N
  have e : (246 + ((wid n : Nat) : Int)) = ((246 + wid n : Nat) : Int) := by omega
  rw [e, by1 (by omega)] at N
  have N1 : New byE h h12 (some ⟨h.length, 0, 1, 1, 0⟩) [UInt8.ofNat (246 + wid n)] := (New.mk1 (E := byE) rfl rfl).ext N.1
  refine New.append (E := byE) N1 N.hasL (by simp [yE]; omega) fun q14 h15 N2 => hQ _ _ ?_
  rw [zN1 (by omega)]
  exact N2)
end
theorem zHA {C m : Bs} {o : Nat} : splice (zR C) o (zR m) = zR (splice C o m) := by
 unfold splice zR
 simp
section
variable {h : Heap} {Q : AHp}
set_option maxRecDepth 20000 in
theorem t275 {n : Nat} (hn : n <= 100000) (hQ0 : n = 0 -> Q (.sl none) h) (hQ1 : n ≠ 0 -> Q (.sl (some ⟨h.length, 0, 0, n, 1⟩)) (h ++ [.cells (zR (List.replicate n 0)) true])) : AC Tryz.prog 275 [.sl none, .int .i64 n] h Q := ac275 (by
 unfold vc275
 have e : zE .i64 ((n : Int) - 0) = n := by rw [zF ⟨by omega, by omega⟩]; omega
 rw [e]
 refine zB (fun g => ?_) (fun _ => ?_)
 ·replace g := of_decide_eq_true g
  omega
 refine zB (fun g => ?_) (fun g => ?_)
 ·replace g := of_decide_eq_true g
  refine ⟨rfl, rfl, rfl, by omega, by simp only [maxI]; omega, by omega, ?_⟩
  simp only [Int.toNat_natCast]
  rw [zBB]
  refine ⟨by simp [zBL], ?_⟩
  simp only
  rw [if_neg (by omega)]
  refine ⟨by omega, by omega, ?_⟩
  refine ⟨.inr rfl, by omega, by simp, by simp, by simp, ?_⟩
  have := hQ1 (by omega)
  simpa using this
 ·replace g := of_decide_eq_false g
  exact hQ0 (by omega))
theorem t239 {q : OSl} {qs : List (OSl)} {ls : List Bs} (H : HasL slE h q qs) (hl : qs.length = ls.length) (hq : ∀ (i : Nat) (s : OSl) (l : Bs), qs[i]? = some s -> ls[i]? = some l -> HasL byE h s l) (hT : ls.flatten.length <= 100000) (hn : ls.length <= 10)
  (hQ : ∀ q h', New byE h h' q ls.flatten -> Q (.sl q) h') : AC Tryz.prog 239 [.sl q] h Q := ac239 (by
 unfold vc239
 have hlen := H.len
 have nxt : ∀ (i : Nat) (l : Bs), ls[i]? = some l -> (ls.take (i + 1)).flatten = (ls.take i).flatten ++ l := fun i l hi => by
  rw [List.take_add_one, hi]; simp
 have pre : ∀ i, (ls.take i).flatten.length <= ls.flatten.length := fun i => by
  have : ls.flatten = (ls.take i).flatten ++ (ls.drop i).flatten := by rw [<- List.flatten_append, List.take_append_drop]
  rw [this, List.length_append]; omega
 refine ⟨fun xs h6 => h6 = h /\ ∃ i : Nat, xs = [.int .i64 ((ls.take i).flatten.length : Nat), .int .i64 i] /\ i <= ls.length, fun xs _ => match xs with | [_, .int _ i] => (ls.length - i).toNat | _ => 0, ⟨rfl, 0, by simp, by omega⟩, ?_⟩
 rintro n i h6 ⟨rfl, i', hx, hi⟩
 simp only [List.cons.injEq, AV.int.injEq, true_and, and_true] at hx
 obtain ⟨rfl, rfl⟩ := hx
 refine zB (fun g => ?_) (fun g => ?_)
 ·replace g := of_decide_eq_true g
  refine HasL.idx (E := slE) H (by omega) (by omega) fun pp x hx hc => ⟨x, hc, ?_⟩
  have hx' : qs[i']? = some x := by simpa using hx
  have hli : ls[i']? = some (ls[i']'(by omega)) := List.getElem?_eq_getElem _
  have hxl := (hq i' x _ hx' hli).len
  have h1 := nxt i' _ hli
  have h2 := pre (i' + 1)
  have h3 : (ls.take (i' + 1)).flatten.length = (ls.take i').flatten.length + (ls[i']'(by omega)).length := by rw [h1, List.length_append]
  have e : zE .i64 ((((ls.take i').flatten.length : Nat) : Int) + (zJ x : Int)) = (((ls.take (i' + 1)).flatten.length : Nat) : Int) := by
   rw [zF ⟨by omega, by omega⟩, hxl, h3]; omega
  rw [e]
  refine zB (fun g => ?_) (fun _ => ?_)
  ·replace g := of_decide_eq_true g
   omega
  rw [zF ⟨by omega, by omega⟩]
  exact ⟨trivial, ⟨rfl, i' + 1, by simp, by omega⟩, by simp only; omega⟩
 ·replace g := of_decide_eq_false g
  have : i' = ls.length := by omega
  subst this
  rw [List.take_length]
  have body : ∀ (q11 : OSl) (h10 : Heap), Ext h6 h10 -> (ls.flatten.length = 0 /\ q11 = none ∨ ∃ a, h6.length <= a /\ q11 = some ⟨a, 0, 0, ls.flatten.length, 1⟩ /\ h10[a]? = some (.cells (zR (List.replicate ls.flatten.length 0)) true)) ->
    ∃ (I14 : LHp) (m15 : LHn), I14 [.sl q11, .int .i64 0] h10 /\
    ∀ q12 : OSl, ∀ n13 : Int, ∀ h16 : Heap, I14 [.sl q12, .int .i64 n13] h16 ->
    vif (decide (n13 < (zJ q : Int)))
    (vIdx q n13 1 fun p17 =>
    ∃ q18 : OSl, zA h16 p17 1 = some [.sl q18] /\
    zC 1 1 q12 q18 h16 fun q19 h20 =>
    (True) /\ I14 [.sl q19, .int .i64 (zE .i64 (n13 + 1))] h20 /\ m15 [.sl q19, .int .i64 (zE .i64 (n13 + 1))] h20 < m15 [.sl q12, .int .i64 n13] h16)
    (Q (.sl q12) h16) := by
   intro q11 h10 hx10 hB
   refine ⟨fun xs h16 => ∃ (q12 : OSl) (i : Nat), xs = [.sl q12, .int .i64 i] /\ i <= ls.length /\ Ext h6 h16 /\ (ls.flatten.length = 0 /\ q12 = none ∨ ∃ a C, h6.length <= a /\ q12 = some ⟨a, 0, (ls.take i).flatten.length, ls.flatten.length, 1⟩ /\ h16[a]? = some (.cells (zR C) true) /\ C.length = ls.flatten.length /\ C.take (ls.take i).flatten.length = (ls.take i).flatten),
    fun xs _ => match xs with | [_, .int _ i] => (ls.length - i).toNat | _ => 0, ⟨q11, 0, rfl, by omega, hx10, ?_⟩, ?_⟩
   ·rcases hB with hB | ⟨a, b1, b2, b3⟩
    ·exact .inl hB
    ·exact .inr ⟨a, _, b1, by simpa using b2, b3, by simp, by simp⟩
   ·rintro q12 i h16 ⟨q12', i', hx, hi, hx16, hB⟩
    simp only [List.cons.injEq, AV.int.injEq, AV.sl.injEq, true_and, and_true] at hx
    obtain ⟨rfl, rfl⟩ := hx
    refine zB (fun g => ?_) (fun g => ?_)
    ·replace g := of_decide_eq_true g
     refine HasL.idx (E := slE) (H.mono hx16) (by omega) (by omega) fun pp x hx hc => ⟨x, hc, ?_⟩
     have hx' : qs[i']? = some x := by simpa using hx
     have hli : ls[i']? = some (ls[i']'(by omega)) := List.getElem?_eq_getElem _
     have hX := (hq i' x _ hx' hli).mono hx16
     have hxl := hX.len
     have h1 := nxt i' _ hli
     have h2 := pre (i' + 1)
     have h3 : (ls.take (i' + 1)).flatten.length = (ls.take i').flatten.length + (ls[i']'(by omega)).length := by rw [h1, List.length_append]
     generalize hml : ls[i']'(by omega) = m at *
     refine ⟨byE.all m, hX.cells, by rw [Enc.all_length, hxl]; rfl, ?_⟩
     rw [hxl, zF (n := (i' : Int) + 1) ⟨by omega, by omega⟩]
     rcases hB with ⟨hz, rfl⟩ | ⟨a, C, b1, rfl, b3, b4, b5⟩
     ·simp only
      rw [if_pos (by omega)]
      exact ⟨trivial, ⟨none, i' + 1, by simp, by omega, hx16, .inl ⟨hz, rfl⟩⟩, by omega⟩
     ·simp only
      rw [if_pos (by omega), b3]
      simp only [Nat.zero_add, Nat.mul_one]
      have hlt := zD b3
      rw [jD, zHA]
      refine ⟨by rw [zBL, zBL]; omega, trivial, ⟨_, i' + 1, rfl, by omega, hx16.set b1, .inr ⟨a, splice C (ls.take i').flatten.length m, b1, by rw [h3], by rw [List.getElem?_set_self hlt], by rw [xL (by omega)]; exact b4, ?_⟩⟩, by omega⟩
      rw [h1, List.length_append]
      unfold splice
      rw [b5, List.append_assoc, List.take_append, List.take_of_length_le (by omega)]
      simp
    ·replace g := of_decide_eq_false g
     have : i' = ls.length := by omega
     subst this
     refine hQ _ _ ⟨hx16, ?_, ?_⟩
     ·rcases hB with ⟨hz, rfl⟩ | ⟨a, C, b1, rfl, b3, b4, b5⟩
      ·exact .inl ⟨rfl, List.eq_nil_of_length_eq_zero hz⟩
      ·rw [List.take_length] at b5 ⊢
       rw [<- b4, List.take_length] at b5
       subst b5
       exact Apd.mk rfl (.inr rfl) (by rw [jD]; exact b3)
     ·intro s hs
      rcases hB with ⟨hz, rfl⟩ | ⟨a, C, b1, rfl, b3, b4, b5⟩
      ·cases hs
      ·cases hs; exact b1
  refine t275 hT (fun h0 => ⟨_, rfl, body _ _ (.refl _) (.inl ⟨h0, rfl⟩)⟩) (fun h0 => ⟨_, rfl, body _ _ (.app _ _) (.inr ⟨h6.length, Nat.le_refl _, rfl, by simp⟩)⟩))
end
section
variable {h : Heap} {Q : AHp}
set_option maxRecDepth 20000 in
theorem t217 {n k : Nat} (hn : n < M63) (hk : 1 <= k /\ k <= 8) (hQ : ∀ q h', New byE h h' q (beL n k) -> Q (.tup [.sl q, .bool (decide (n < 256 ^ k))]) h') : AC Tryz.prog 217 [.int .i64 n, .int .i64 k] h Q := ac217 (by
 simp only [M63] at hn
 unfold vc217
 refine zB (fun g => ?_) (fun _ => ?_)
 ·replace g := of_decide_eq_true g
  omega
 refine zB (fun g => ?_) (fun _ => ?_)
 ·replace g := of_decide_eq_true g
  omega
 refine zB (fun g => ?_) (fun _ => ?_)
 ·replace g := of_decide_eq_true g
  omega
 refine ⟨by omega, by omega, by simp; omega, by simp only [maxI]; omega, ?_⟩
 simp only [Int.toNat_natCast]
 rw [zBB, zF (n := (k : Int) - 1) ⟨by omega, by omega⟩]
 have fin : ∀ (cur : Bs) (b : Bool), cur.length = k -> (∀ j, j < k -> cur[j]? = (beL n k)[j]?) -> b = decide (n < 256 ^ k) -> Q (.tup [.sl (some ⟨h.length, 0, k, k, 0⟩), .bool b]) (h ++ [.cells (zR cur) true]) := by
  intro cur b hl hc hb
  have : cur = beL n k := by
   refine List.ext_getElem? fun j => ?_
   rcases Nat.lt_or_ge j k with hj | hj
   ·exact hc j hj
   ·rw [List.getElem?_eq_none (by omega), List.getElem?_eq_none (by rw [yE]; omega)]
  subst this hb
  exact hQ _ _ (New.mk1 (E := byE) (yE _ _).symm jD.symm)
 refine ⟨fun xs h8 => ∃ (i : Nat) (cur : Bs), xs = [.int .i64 ((n / 256 ^ (k - i) : Nat) : Int), .int .i64 ((i : Int) - 1)] /\ i <= k /\ h8 = h ++ [.cells (zR cur) true] /\ cur.length = k /\ ∀ j, i <= j -> j < k -> cur[j]? = (beL n k)[j]?, fun xs _ => match xs with | [_, .int _ i] => (i + 1).toNat | _ => 0, ⟨k, _, by simp, by omega, rfl, by simp, fun j hj => by omega⟩, ?_⟩
 rintro n5 n6 h8 ⟨i', cur, hx, hi, rfl, hl, hc⟩
 simp only [List.cons.injEq, AV.int.injEq, true_and, and_true] at hx
 obtain ⟨rfl, rfl⟩ := hx
 refine zB (fun h1 => ?_) (fun h1 => ?_)
 ·replace h1 := of_decide_eq_true h1
  obtain ⟨i, rfl⟩ : ∃ i, i' = i + 1 := ⟨i' - 1, by omega⟩
  have e0 : (((i + 1 : Nat) : Int) - 1) = (i : Int) := by omega
  rw [e0]
  have hv : n / 256 ^ (k - (i + 1)) <= n := Nat.div_le_self _ _
  have e1 : (((n / 256 ^ (k - (i + 1)) : Nat) : Int).tmod 256) = ((n / 256 ^ (k - 1 - i) % 256 : Nat) : Int) := by
   rw [zJ2 (Int.natCast_nonneg _)]
   have : k - (i + 1) = k - 1 - i := by omega
   rw [this]; generalize n / 256 ^ (k - 1 - i) = v; omega
  have e2 : (((n / 256 ^ (k - (i + 1)) : Nat) : Int).tdiv 256) = ((n / 256 ^ (k - i) : Nat) : Int) := by
   rw [zJ3 (Int.natCast_nonneg _)]
   have : 256 ^ (k - i) = 256 ^ (k - (i + 1)) * 256 := by rw [<- Nat.pow_succ]; congr 1; omega
   rw [this, <- Nat.div_div_eq_div_mul]; generalize n / 256 ^ (k - (i + 1)) = v; omega
  have hv2 : n / 256 ^ (k - i) <= n := Nat.div_le_self _ _
  have e3 : (zE .u8 ((n / 256 ^ (k - 1 - i) % 256 : Nat) : Int)) = ((UInt8.ofNat (n / 256 ^ (k - 1 - i) % 256)).toNat : Int) := by
   rw [u8c]; simp
  rw [e1, e2, e3, zF (n := ((n / 256 ^ (k - i) : Nat) : Int)) ⟨by generalize n / 256 ^ (k - i) = v at *; omega, by generalize n / 256 ^ (k - i) = v at *; omega⟩, zF (n := (i : Int) - 1) ⟨by omega, by omega⟩]
  refine ⟨by omega, by simp only; omega, ?_⟩
  unfold zI
  simp only [Int.toNat_natCast, Nat.mul_one, Nat.zero_add]
  rw [List.getElem?_append_right (by omega)]
  simp only [Nat.sub_self, List.getElem?_cons_zero]
  refine ⟨by rw [zBL, hl]; simp; omega, trivial, ⟨i, cur.set i (UInt8.ofNat (n / 256 ^ (k - 1 - i) % 256)), rfl, by omega, ?_, by simp [hl], fun j hj hj2 => ?_⟩, by omega⟩
  ·rw [zBU (by omega)]
   simp
  ·rw [List.getElem?_set]
   split
   ·rename_i he; subst he
    rw [if_pos (by omega), zJT k n i (by omega)]
   ·exact hc j (by omega) hj2
 ·replace h1 := of_decide_eq_false h1
  have : i' = 0 := by omega
  subst this
  refine fin cur _ hl (fun j hj => hc j (by omega) hj) ?_
  rw [Nat.sub_zero]
  have : (((n / 256 ^ k : Nat) : Int) == 0) = decide (n / 256 ^ k = 0) := by
   generalize n / 256 ^ k = v
   rw [Bool.eq_iff_iff]; simp
  rw [this]
  congr 1
  rw [Nat.div_eq_zero_iff_lt (Nat.pow_pos (by omega))])
set_option maxRecDepth 20000 in
theorem t141 {n : Nat} (hn : n < M63) (hQ : ∀ q h', New byE h h' q (numB n) -> Q (.sl q) h') : AC Tryz.prog 141 [.int .i64 n] h Q := ac141 (by
 have hn0 := hn
 simp only [M63] at hn
 unfold vc141 PNew
 refine zB (fun g => ?_) (fun g => ?_)
 ·replace g := of_decide_eq_true g
  exact hQ _ _ (New.mk1 (E := byE) (by rw [zGQ (by omega)]; rfl) (by rw [zGQ (by omega), by1 (by omega)]))
 refine zB (fun g2 => ?_) (fun g2 => ?_)
 ·replace g := of_decide_eq_false g
  replace g2 := of_decide_eq_true g2
  refine hQ _ _ (New.mk1 (E := byE) (by rw [zGP (by omega) (by omega)]; rfl) ?_)
  rw [zF (n := (n : Int) - 240) ⟨by omega, by omega⟩, zJ2 (by omega), zJ3 (by omega)]
  have e1 : ((n : Int) - 240) / 256 = (((n - 240) / 256 : Nat) : Int) := by omega
  have e2 : zE .u8 (((n : Int) - 240) % 256) = zE .u8 (((n - 240 : Nat) : Int)) := by rw [zF1, zF1]; omega
  rw [e1, e2, zF (n := (((n - 240) / 256 : Nat) : Int)) ⟨by omega, by omega⟩, zF ⟨by omega, by omega⟩]
  exact byMid (by omega) (by omega) (by omega) rfl
 ·replace g := of_decide_eq_false g
  replace g2 := of_decide_eq_false g2
  have hw := zG4 (n := n) hn0
  have fin : ∀ (k : Nat) (q : OSl) (hA hB : Heap), k = wid n -> Ext h hA -> New byE hA hB q (beL n k) -> ∀ b : Nat, b = 246 + k -> zC 1 1 (some ⟨hB.length, 0, 1, 1, 0⟩) q (hB ++ [.cells [.int .u8 (zE .u8 (b : Int))] true]) fun q16 h17 => Q (.sl q16) h17 := by
   intro k q hA hB hk hxA N b hb
   subst hk hb
   have N1 : New byE h (hB ++ [.cells [.int .u8 (zE .u8 ((246 + wid n : Nat) : Int))] true]) (some ⟨hB.length, 0, 1, 1, 0⟩) [UInt8.ofNat (246 + wid n)] := (New.mk1 (E := byE) rfl (by1 (by omega))).of (hxA.trans N.1)
   refine New.append (E := byE) N1 (N.hasL.mono (Ext.app _ _)) (by simp [yE]; omega) fun q14 h15 N2 => hQ _ _ ?_
   rw [zN1 (by omega)]
   exact N2
  refine ⟨fun xs h6 => ∃ i : Nat, xs = [.int .i64 i] /\ 2 <= i /\ i <= 8 /\ Ext h h6 /\ i <= wid n, fun xs _ => match xs with | [.int _ i] => (8 - i).toNat | _ => 0, ⟨2, rfl, by omega, by omega, .refl _, ?_⟩, ?_⟩
  ·rcases Nat.lt_or_ge (wid n) 2 with h | h
   ·have := (zDC 1 n (by omega)).1 (by omega)
    simp at this; omega
   ·exact h
  rintro i h9 ⟨i', hx, hi, hi8, hx9, hw2⟩
  simp only [List.cons.injEq, AV.int.injEq, true_and, and_true] at hx
  subst hx
  refine zB (fun h1 => ?_) (fun h1 => ?_)
  ·replace h1 := of_decide_eq_true h1
   refine t217 hn0 ⟨by omega, by omega⟩ fun q12 h11 N => ⟨q12, _, rfl, ?_⟩
   have hiff := zDC i' n (by omega)
   refine zB (fun h2 => ?_) (fun h2 => ?_)
   ·replace h2 := of_decide_eq_true h2
    rw [zF (n := 246 + (i' : Int)) ⟨by omega, by omega⟩]
    have e : (246 + (i' : Int)) = ((246 + i' : Nat) : Int) := by omega
    rw [e]
    exact fin i' q12 h9 h11 (by have := hiff.2 h2; omega) hx9 N _ rfl
   ·replace h2 := of_decide_eq_false h2
    rw [zF ⟨by omega, by omega⟩]
    refine ⟨trivial, ⟨i' + 1, by simp, by omega, by omega, hx9.trans N.1, ?_⟩, by simp only; omega⟩
    have : ¬ wid n <= i' := fun hh => h2 (hiff.1 hh)
    omega
  ·replace h1 := of_decide_eq_false h1
   have : i' = 8 := by omega
   subst this
   refine t217 (k := 8) hn0 ⟨by omega, by omega⟩ fun q12 h11 N => ⟨q12, _, rfl, ?_⟩
   have := fin 8 q12 h9 h11 (by omega) hx9 N 254 rfl
   exact this)
theorem t263 {a b : Nat} (ha : a < M63) (hb : b < M63) (hQ : ∀ q h', New byE h h' q (numB a ++ numB b) -> Q (.sl q) h') : AC Tryz.prog 263 [.agg [.int .i64 a, .int .i64 b]] h Q := ac263 (by
 unfold vc263
 refine t141 ha fun q5 h4 N => ⟨q5, rfl, rfl, ?_⟩
 refine t141 hb fun q8 h7 N2 => ⟨q8, rfl, ?_⟩
 have h1 := zY ha
 have h2 := zY hb
 exact New.append (E := byE) (N.ext N2.1) N2.hasL (by omega) fun q9 h10 N3 => hQ _ _ N3)
end
def Rd (h : Heap) (p : Nat) : Option Bs -> Prop
 | some l => ∃ q, h[p]? = some (.cells [.sl q, .bool false] true) /\ HasL byE h q l /\ ∀ s, q = some s -> s.b < p
 | none => ∃ q, h[p]? = some (.cells [.sl q, .bool true] true)
structure Fr (p : Nat) (h h' : Heap) : Prop where
 keeps : zM (fun b => b = p) h h'
 len : h.length <= h'.length
theorem Fr.trans {p : Nat} {a b c : Heap} (x : Fr p a b) (y : Fr p b c) : Fr p a c := ⟨x.keeps.trans y.keeps, Nat.le_trans x.len y.len⟩
theorem Fr.ofExt {p : Nat} {a b : Heap} (x : Ext a b) : Fr p a b := ⟨zK x, x.len⟩
def tk (n : Int) : Option Bs -> Option (Bs × Bs)
 | some l => if 0 <= n /\ n <= l.length then some (l.take n.toNat, l.drop n.toNat) else none
 | none => none
def fx (k : Int) (o : Option Bs) : Option (Nat × Bs) :=
 if 1 <= k /\ k <= 8 then (match tk k o with | some (a, b) => if beV a < M63 then some (beV a, b) else none | none => none) else none
def nm (o : Option Bs) : Option (Nat × Bs) := match o with | some l => rdN l | none => none
def rdT (most : Nat) (l : Bs) : Option (Bs × Bs) := match rdN l with | some (n, l') => if n <= most /\ n <= l'.length then some (l'.take n, l'.drop n) else none | none => none
def tx (most : Nat) (o : Option Bs) : Option (Bs × Bs) := match o with | some l => rdT most l | none => none
def valN (r : Option (Nat × Bs)) : Int := match r with | some (n, _) => (n : Int) | none => 0
def valS (r : Option (Bs × Bs)) : Bs := match r with | some (s, _) => s | none => []
def stO {α : Type} (r : Option (α × Bs)) : Option Bs := match r with | some (_, b) => some b | none => none
theorem or8 {n c : Nat} (hn : n < 72057594037927936) (hc : c < 256) : zFY .u64 (shlK .u64 (n : Int) 8) (zE .u64 (c : Int)) = ((n * 256 + c : Nat) : Int) := by
 have e : min ((8 : Int).toNat) IntKind.u64.bits = 8 := by decide
 have e1 : shlK .u64 (n : Int) 8 = ((n * 256 : Nat) : Int) := by
  simp only [shlK, e]
  have : ((n : Int) * 2 ^ 8) = ((n * 256 : Nat) : Int) := by simp
  rw [this]
  exact zD6 ⟨by omega, by omega⟩
 have e2 : zE .u64 (c : Int) = (c : Int) := zD6 ⟨by omega, by omega⟩
 rw [e1, e2]
 unfold zFY
 have e3 : (BitVec.ofInt IntKind.u64.bits ((n * 256 : Nat) : Int) ||| BitVec.ofInt IntKind.u64.bits ((c : Nat) : Int)).toNat = n * 256 + c := by
  show (BitVec.ofInt 64 ((n * 256 : Nat) : Int) ||| BitVec.ofInt 64 ((c : Nat) : Int)).toNat = n * 256 + c
  rw [BitVec.toNat_or, BitVec.ofInt_natCast, BitVec.ofInt_natCast, BitVec.toNat_ofNat, BitVec.toNat_ofNat, Nat.mod_eq_of_lt (by omega : n * 256 < 2 ^ 64), Nat.mod_eq_of_lt (by omega : c < 2 ^ 64)]
  have := Nat.shiftLeft_add_eq_or_of_lt (i := 8) (b := c) (by omega) n
  rw [Nat.shiftLeft_eq] at this
  exact this.symm
 rw [e3]
 exact zD6 ⟨by omega, by omega⟩
section
variable {h : Heap} {Q : AHp} {p : Nat} {o : Option Bs}
theorem rd_bad (R : Rd h p o) : zA h ⟨p, 0 + 1⟩ 1 = some [.bool o.isNone] := by
 cases o with
 | none => obtain ⟨q, hb⟩ := R; rw [zQ (p := ⟨p, 0 + 1⟩) hb (by simp)]; rfl
 | some l => obtain ⟨q, hb, _⟩ := R; rw [zQ (p := ⟨p, 0 + 1⟩) hb (by simp)]; rfl
theorem rd_fail {K : Heap -> Prop} (R : Rd h p o) (hK : ∀ h', Fr p h h' -> Rd h' p none -> K h') : zI h ⟨p, 0 + 1⟩ [.bool true] K := by
 have : ∃ q b, h[p]? = some (.cells [.sl q, .bool b] true) := by
  cases o with
  | none => obtain ⟨q, hb⟩ := R; exact ⟨q, _, hb⟩
  | some l => obtain ⟨q, hb, _⟩ := R; exact ⟨q, _, hb⟩
 obtain ⟨q, b, hb⟩ := this
 unfold zI
 simp only [hb]
 refine ⟨by simp, hK _ ⟨zT rfl, by simp⟩ ⟨q, ?_⟩⟩
 rw [List.getElem?_set_self (zD hb)]; rfl
theorem rd_buf {l : Bs} (R : Rd h p (some l)) : ∃ q, zA h ⟨p, 0 + 0⟩ 1 = some [.sl q] /\ HasL byE h q l /\ ∀ s, q = some s -> s.b < p := by
 obtain ⟨q, hb, hl, hn⟩ := R
 exact ⟨q, by rw [zQ (p := ⟨p, 0 + 0⟩) hb (by simp)]; rfl, hl, hn⟩
theorem rd_cut {l l' : Bs} {q' : OSl} {K : Heap -> Prop} (R : Rd h p (some l)) (H : HasL byE h q' l') (hn : ∀ s, q' = some s -> s.b < p) (hK : ∀ h', Fr p h h' -> Rd h' p (some l') -> K h') : zI h ⟨p, 0 + 0⟩ [.sl q'] K := by
 obtain ⟨q, hb, _, _⟩ := R
 unfold zI
 simp only [hb]
 have K1 : zM (fun b => b = p) h (h.set p (.cells (splice [.sl q, .bool false] (0 + 0) [.sl q']) true)) := zT rfl
 refine ⟨by simp, hK _ ⟨K1, by simp⟩ ⟨q', ?_, K1.hasL (fun s hs => Nat.ne_of_lt (hn s hs)) H, hn⟩⟩
 rw [List.getElem?_set_self (zD hb)]; rfl
theorem Rd.ext {h' : Heap} (R : Rd h p o) (K : Ext h h') : Rd h' p o := by
 cases o with
 | none => obtain ⟨q, hb⟩ := R; exact ⟨q, K _ _ hb⟩
 | some l => obtain ⟨q, hb, hl, hn⟩ := R; exact ⟨q, K _ _ hb, hl.mono K, hn⟩
theorem Rd.keeps {h' : Heap} {X : Nat -> Prop} (R : Rd h p o) (K : zM X h h') (hX : ∀ b, b <= p -> ¬ X b) : Rd h' p o := by
 cases o with
 | none => obtain ⟨q, hb⟩ := R; exact ⟨q, K _ _ (hX _ (Nat.le_refl _)) hb⟩
 | some l => obtain ⟨q, hb, hl, hn⟩ := R; exact ⟨q, K _ _ (hX _ (Nat.le_refl _)) hb, K.hasL (fun s hs => hX _ (Nat.le_of_lt (hn s hs))) hl, hn⟩
theorem Rd.live (R : Rd h p o) : p < h.length := by
 cases o with
 | none => obtain ⟨q, hb⟩ := R; exact zD hb
 | some l => obtain ⟨q, hb, _⟩ := R; exact zD hb
theorem e131 {q : OSl} {l : Bs} (H : HasL byE h q l) (hl : l.length <= 100000) (hQ : ∀ q' h', Ext h h' -> HasL byE h' q' l -> (∀ s, q' = some s -> h.length <= s.b) -> Q (.sl q') h') : AC Tryz.prog 131 [.sl q] h Q := ac131 (by
 unfold vc131 PNew
 refine zB (fun g => ?_) (fun g => ?_)
 ·cases q with
  | some s => cases g
  | none => exact hQ none h (.refl _) H (fun s hs => by cases hs)
 ·refine zA6 (E := byE) (a := h.length) (by simp) (H.mono (Ext.app _ _)) (by omega) fun q' h' hx O hq => hQ _ _ ((Ext.app _ _).trans hx) O.hasL (fun s hs => ?_)
  rcases hq s hs with a | a
  ·omega
  ·simp at a; omega)
theorem e231 (R : Rd h p o) (hQ : Q (.bool o.isNone) h) : AC Tryz.prog 231 [.ptr (some ⟨p, 0⟩)] h Q := ac231 (by
 unfold vc231
 exact ⟨_, rd_bad R, hQ⟩)
theorem e230 (R : Rd h p o) (hQ : ∀ h', Fr p h h' -> Rd h' p none -> Q (.int .i64 0) h') : AC Tryz.prog 230 [.ptr (some ⟨p, 0⟩)] h Q := ac230 (by
 unfold vc230
 exact rd_fail R hQ)
set_option maxRecDepth 20000 in
theorem e268 {n : Int} (R : Rd h p o) (hl : ∀ l, o = some l -> l.length <= 100000) (hQ0 : tk n o = none -> ∀ h', Fr p h h' -> Rd h' p none -> Q (.sl none) h')
  (hQ1 : ∀ a b, tk n o = some (a, b) -> ∀ q h', Fr p h h' -> HasL byE h' q a -> (∀ s, q = some s -> h.length <= s.b) -> Rd h' p (some b) -> Q (.sl q) h') : AC Tryz.prog 268 [.ptr (some ⟨p, 0⟩), .int .i64 n] h Q := ac268 (by
 unfold vc268
 refine e231 R ⟨_, rfl, ?_⟩
 cases o with
 | none =>
  refine zB (fun _ => ?_) (fun g => by simp at g)
  exact e230 R fun h' F R' => ⟨_, rfl, hQ0 rfl h' F R'⟩
 | some l =>
  refine zB (fun g => by simp at g) (fun _ => ?_)
  obtain ⟨q, c1, c2, c3⟩ := rd_buf R
  have c4 := c2.len
  refine zB (fun g => ?_) (fun g => ?_)
  ·replace g := of_decide_eq_true g
   exact e230 R fun h' F R' => ⟨_, rfl, hQ0 (by simp only [tk]; rw [if_neg (by omega)]) h' F R'⟩
  replace g := of_decide_eq_false g
  refine ⟨q, c1, zB (fun g2 => ?_) (fun g2 => ?_)⟩
  ·replace g2 := of_decide_eq_true g2
   exact e230 R fun h' F R' => ⟨_, rfl, hQ0 (by simp only [tk]; rw [if_neg (by omega)]) h' F R'⟩
  replace g2 := of_decide_eq_false g2
  refine ⟨q, c1, HasL.slice (E := byE) c2 (by omega) (by simp; omega) (by simp; omega) fun q19 H19 => ?_⟩
  have H19 : HasL byE h q19 (l.take n.toNat) := by simpa using H19
  have hll := hl l rfl
  refine e131 H19 (by have := List.length_take_le' n.toNat l; omega) fun q22 h21 hx H22 hq22 => ⟨q22, rfl, q, hx.cells c1, ?_⟩
  refine HasL.slice2 (E := byE) (c2.mono hx) (by omega) (by simp; omega) (by simp) fun q25 H25 hq25 => ?_
  have H25 : HasL byE h21 q25 (l.drop n.toNat) := by simpa using H25
  have hpl := R.live
  refine rd_cut (R.ext hx) H25 (fun s hs => by obtain ⟨s', a1, a2⟩ := hq25 s hs; rw [a2]; exact c3 s' a1) fun h27 F27 R27 => ?_
  refine hQ1 (l.take n.toNat) (l.drop n.toNat) (by simp only [tk]; rw [if_pos (by omega)]) q22 h27 ((Fr.ofExt hx).trans F27) (F27.keeps.hasL (fun s hs he => by have := hq22 s hs; have he : s.b = p := he; omega) H22) hq22 R27)
theorem zQZ {a : Bs} {i : Nat} {x : UInt8} (h : a[i]? = some x) : beV (a.take (i + 1)) = beV (a.take i) * 256 + x.toNat := by
 rw [List.take_add_one, h]; exact zD4
theorem zM7 {n : Int} {a b : Bs} (h : tk n o = some (a, b)) : ∃ l, o = some l /\ 0 <= n /\ n <= l.length /\ a = l.take n.toNat /\ b = l.drop n.toNat := by
 cases o with
 | none => cases h
 | some l =>
  simp only [tk] at h
  split at h
  ·rename_i hc
   simp only [Option.some.injEq, Prod.mk.injEq] at h
   exact ⟨l, rfl, hc.1, hc.2, h.1.symm, h.2.symm⟩
  ·cases h
set_option maxRecDepth 20000 in
theorem e227 {k : Int} (R : Rd h p o) (hl : ∀ l, o = some l -> l.length <= 100000) (hQ : ∀ h', Fr p h h' -> Rd h' p (stO (fx k o)) -> Q (.int .i64 (valN (fx k o))) h') : AC Tryz.prog 227 [.ptr (some ⟨p, 0⟩), .int .i64 k] h Q := ac227 (by
 unfold vc227
 refine zB (fun g => ?_) (fun g => ?_)
 ·replace g := of_decide_eq_true g
  have e : fx k o = none := by unfold fx; rw [if_neg (by omega)]
  rw [e] at hQ
  exact e230 R fun h' F R' => ⟨_, rfl, hQ h' F R'⟩
 replace g := of_decide_eq_false g
 refine zB (fun g2 => ?_) (fun g2 => ?_)
 ·replace g2 := of_decide_eq_true g2
  have e : fx k o = none := by unfold fx; rw [if_neg (by omega)]
  rw [e] at hQ
  exact e230 R fun h' F R' => ⟨_, rfl, hQ h' F R'⟩
 replace g2 := of_decide_eq_false g2
 have efx : fx k o = match tk k o with | some (a, b) => if beV a < M63 then some (beV a, b) else none | none => none := by unfold fx; rw [if_pos (by omega)]
 refine e268 R hl (fun ht h10 F10 R10 => ⟨none, rfl, ?_⟩) (fun a b ht q11 h10 F10 H11 _ R10 => ⟨q11, rfl, ?_⟩)
 ·rw [ht] at efx
  rw [efx] at hQ
  refine ⟨fun xs h16 => h16 = h10 /\ ∃ n13 : Int, xs = [.int .u64 0, .int .i64 n13] /\ 0 <= n13, fun _ _ => 0, ⟨rfl, 0, rfl, by omega⟩, ?_⟩
  rintro n12 n13 h16 ⟨rfl, n', hx, hn⟩
  simp only [List.cons.injEq, AV.int.injEq, true_and, and_true] at hx
  obtain ⟨rfl, rfl⟩ := hx
  refine zB (fun g => ?_) (fun _ => ?_)
  ·replace g := of_decide_eq_true g
   simp only [zJ] at g; omega
  ·refine e231 R10 ⟨_, rfl, zB (fun _ => ?_) (fun g => by simp at g)⟩
   exact e230 R10 fun h' F R' => ⟨_, rfl, hQ h' (F10.trans F) R'⟩
 ·rw [ht] at efx
  simp only at efx
  obtain ⟨l, rfl, b1, b2, rfl, rfl⟩ := zM7 ht
  have hlen := H11.len
  generalize ha : l.take k.toNat = a at *
  have hal : a.length = k.toNat := by rw [<- ha, List.length_take]; omega
  refine ⟨fun xs h16 => h16 = h10 /\ ∃ i : Nat, xs = [.int .u64 ((beV (a.take i) : Nat) : Int), .int .i64 i] /\ i <= a.length, fun xs _ => match xs with | [_, .int _ i] => (a.length - i).toNat | _ => 0, ⟨rfl, 0, rfl, by omega⟩, ?_⟩
  rintro n12 n13 h16 ⟨rfl, i', hx, hi⟩
  simp only [List.cons.injEq, AV.int.injEq, true_and, and_true] at hx
  obtain ⟨rfl, rfl⟩ := hx
  refine zB (fun g => ?_) (fun g => ?_)
  ·replace g := of_decide_eq_true g
   refine HasL.idx (E := byE) H11 (by omega) (by omega) fun pp x hx hc => ⟨((x.toNat : Nat) : Int), hc, ?_⟩
   have hx' : a[i']? = some x := by simpa using hx
   have hb : beV (a.take i') < 72057594037927936 := by
    have h1 := beV_lt (a.take i')
    have h2 : (a.take i').length <= 7 := by rw [List.length_take]; omega
    have h3 : 256 ^ (a.take i').length <= 256 ^ 7 := Nat.pow_le_pow_right (by omega) h2
    omega
   rw [or8 hb x.toNat_lt, <- zQZ hx', zF ⟨by omega, by omega⟩]
   exact ⟨trivial, ⟨rfl, i' + 1, by simp, by omega⟩, by simp only; omega⟩
  ·replace g := of_decide_eq_false g
   have : i' = a.length := by omega
   subst this
   rw [List.take_length]
   refine e231 R10 ⟨_, rfl, zB (fun g => by simp at g) (fun _ => ?_)⟩
   refine zB (fun g3 => ?_) (fun g3 => ?_)
   ·replace g3 := of_decide_eq_true g3
    rw [if_neg (by simp only [M63]; omega)] at efx
    rw [efx] at hQ
    exact e230 R10 fun h' F R' => ⟨_, rfl, hQ h' (F10.trans F) R'⟩
   ·replace g3 := of_decide_eq_false g3
    rw [if_pos (by simp only [M63]; omega)] at efx
    rw [efx] at hQ
    rw [zF ⟨by omega, by omega⟩]
    exact hQ _ F10 R10)
theorem e228 {n : Int} {b : Bool} (R : Rd h p o) (hQ0 : (o = none ∨ b = false) -> ∀ h', Fr p h h' -> Rd h' p none -> Q (.int .i64 0) h') (hQ1 : o ≠ none -> b = true -> Q (.int .i64 n) h) : AC Tryz.prog 228 [.ptr (some ⟨p, 0⟩), .int .i64 n, .bool b] h Q := ac228 (by
 unfold vc228
 refine e231 R ⟨_, rfl, zB (fun g => ?_) (fun g => ?_)⟩
 ·cases o with
  | none => exact e230 R fun h' F R' => ⟨_, rfl, hQ0 (.inl rfl) h' F R'⟩
  | some l => simp at g
 ·cases o with
  | none => simp at g
  | some l =>
   refine zB (fun g => ?_) (fun g => ?_)
   ·exact e230 R fun h' F R' => ⟨_, rfl, hQ0 (.inr (by simpa using g)) h' F R'⟩
   ·exact hQ1 (by simp) (by simpa using g))
set_option maxRecDepth 20000 in
theorem e229 {n : Nat} (hn : n < M63) (h2 : 2288 <= n) (hQ : Q (.int .i64 ((1 + wid n : Nat) : Int)) h) : AC Tryz.prog 229 [.int .i64 n] h Q := ac229 (by
 have hw := zG4 hn
 unfold vc229
 refine zB (fun g => ?_) (fun _ => ?_)
 ·replace g := of_decide_eq_true g; omega
 refine zB (fun g => ?_) (fun _ => ?_)
 ·replace g := of_decide_eq_true g; omega
 refine zB (fun g => ?_) (fun _ => ?_)
 ·replace g := of_decide_eq_true g; omega
 refine t269 hn ⟨_, rfl, ?_⟩
 rw [zF ⟨by omega, by omega⟩]
 have e : (1 + ((wid n : Nat) : Int)) = ((1 + wid n : Nat) : Int) := by omega
 rw [e]; exact hQ)
end
theorem zNO {l b : Bs} {n : Nat} (h : rdN l = some (n, b)) : b.length <= l.length := by
 obtain ⟨h1, _⟩ := zQF h
 rw [h1, List.length_append]; omega
theorem rdT_len {m : Nat} {l b s : Bs} (h : rdT m l = some (s, b)) : b.length <= l.length := by
 unfold rdT at h
 split at h
 ·rename_i n l' heq
  split at h
  ·simp only [Option.some.injEq, Prod.mk.injEq] at h
   obtain ⟨_, rfl⟩ := h
   have := zNO heq
   rw [List.length_drop]; omega
  ·cases h
 ·cases h
theorem fx1 {c : UInt8} {l : Bs} : fx 1 (some (c :: l)) = some (c.toNat, l) := by
 have hc := c.toNat_lt
 have e : tk 1 (some (c :: l)) = some ([c], l) := by simp [tk]; omega
 unfold fx
 rw [if_pos (by omega), e]
 have : beV [c] = c.toNat := by simp [beV]
 simp only [this]
 rw [if_pos (by simp only [M63]; omega)]
theorem zOK : fx 1 (some []) = none := by
 unfold fx
 rw [if_pos (by omega)]
 have : tk 1 (some []) = none := by simp [tk]
 rw [this]
theorem zQQ : fx 1 none = none := by
 unfold fx
 rw [if_pos (by omega)]
 rfl
theorem jT {n : Nat} {b : Bs} : valN (some (n, b)) = n := rfl
section
variable {h : Heap} {Q : AHp} {p : Nat} {o : Option Bs}
set_option maxRecDepth 20000 in
theorem e159 (R : Rd h p o) (hl : ∀ l, o = some l -> l.length <= 100000) (hQ : ∀ h', Fr p h h' -> Rd h' p (stO (nm o)) -> Q (.int .i64 (valN (nm o))) h') : AC Tryz.prog 159 [.ptr (some ⟨p, 0⟩)] h Q := ac159 (by
 unfold vc159
 refine e227 R hl fun h3 F3 R3 => ⟨_, rfl, ?_⟩
 match o with
 | none =>
  rw [zQQ] at R3 ⊢
  refine zB (fun _ => hQ h3 F3 R3) (fun g => ?_)
  replace g := of_decide_eq_false g
  simp only [valN] at g; omega
 | some [] =>
  rw [zOK] at R3 ⊢
  refine zB (fun _ => hQ h3 F3 R3) (fun g => ?_)
  replace g := of_decide_eq_false g
  simp only [valN] at g; omega
 | some (c :: l) =>
  have hcl := hl _ rfl
  rw [List.length_cons] at hcl
  have hc := c.toNat_lt
  rw [fx1] at R3 ⊢
  simp only [stO] at R3
  rw [jT]
  refine zB (fun g => ?_) (fun g => ?_)
  ·replace g := of_decide_eq_true g
   have e : nm (some (c :: l)) = some (c.toNat, l) := by simp only [nm, rdN]; rw [if_pos (by omega)]
   rw [e] at hQ
   exact hQ h3 F3 R3
  replace g := of_decide_eq_false g
  refine zB (fun g2 => ?_) (fun g2 => ?_)
  ·replace g2 := of_decide_eq_true g2
   refine e227 R3 (fun l' h => by cases h; omega) fun h6 F6 R6 => ⟨_, rfl, ?_⟩
   cases l with
   | nil =>
    have e : nm (some (c :: [])) = none := by simp only [nm, rdN]; rw [if_neg (by omega), if_pos (by omega)]
    rw [e] at hQ
    rw [zOK] at R6
    exact e228 R6 (fun _ h9 F9 R9 => ⟨_, rfl, hQ h9 ((F3.trans F6).trans F9) R9⟩) (fun h => (h rfl).elim)
   | cons x l =>
    have hx := x.toNat_lt
    have e : nm (some (c :: x :: l)) = some (240 + (c.toNat - 240) * 256 + x.toNat, l) := by simp only [nm, rdN]; rw [if_neg (by omega), if_pos (by omega)]
    rw [e] at hQ
    rw [fx1] at R6 ⊢
    refine e228 R6 (fun h => by rcases h with h | h <;> cases h) (fun _ _ => ⟨_, rfl, ?_⟩)
    have e2 : shlK .i64 (zE .i64 ((c.toNat : Int) - 240)) 8 = (((c.toNat - 240) * 256 : Nat) : Int) := by
     have e : min ((8 : Int).toNat) IntKind.i64.bits = 8 := by decide
     rw [zF ⟨by omega, by omega⟩]
     simp only [shlK, e]
     have : (((c.toNat : Int) - 240) * 2 ^ 8) = (((c.toNat - 240) * 256 : Nat) : Int) := by omega
     rw [this]
     exact zF ⟨by omega, by omega⟩
    rw [jT, e2, zF (n := 240 + (((c.toNat - 240) * 256 : Nat) : Int)) ⟨by omega, by omega⟩, zF ⟨by omega, by omega⟩]
    have e3 : (240 + (((c.toNat - 240) * 256 : Nat) : Int) + (x.toNat : Int)) = ((240 + (c.toNat - 240) * 256 + x.toNat : Nat) : Int) := by omega
    rw [e3]
    exact hQ h6 (F3.trans F6) R6
  replace g2 := of_decide_eq_false g2
  refine zB (fun g3 => ?_) (fun g3 => ?_)
  ·replace g3 := of_decide_eq_true g3
   rw [zF (n := (c.toNat : Int) - 246) ⟨by omega, by omega⟩, zF (n := (c.toNat : Int) - 246 + 1) ⟨by omega, by omega⟩]
   have ek : ((c.toNat : Int) - 246) = ((c.toNat - 246 : Nat) : Int) := by omega
   rw [ek]
   generalize hk : c.toNat - 246 = k at *
   have ern : nm (some (c :: l)) = if k <= l.length /\ beV (l.take k) < 9223372036854775808 /\ 2288 <= beV (l.take k) /\ wid (beV (l.take k)) = k then some (beV (l.take k), l.drop k) else none := by
    simp only [nm, rdN]
    rw [if_neg (by omega), if_neg (by omega), if_pos (by omega), hk]
   have efx : fx (k : Int) (some l) = if k <= l.length then (if beV (l.take k) < M63 then some (beV (l.take k), l.drop k) else none) else none := by
    unfold fx
    rw [if_pos (by omega)]
    simp only [tk]
    by_cases hkl : k <= l.length
    ·rw [if_pos (by omega), if_pos hkl]; simp
    ·rw [if_neg (by omega), if_neg hkl]
   refine e227 R3 (fun l' h => by cases h; omega) fun h12 F12 R12 => ⟨_, rfl, ?_⟩
   have bad : ∀ (h12 : Heap), Fr p h3 h12 -> Rd h12 p (stO (fx (k : Int) (some l))) -> nm (some (c :: l)) = none -> ∀ n : Int, ∀ o', Rd h12 p o' -> AC Tryz.prog 228 [.ptr (some ⟨p, 0⟩), .int .i64 n, .bool false] h12 fun v20 h21 => ∃ n22 : Int, v20 = .int .i64 n22 /\ Q (.int .i64 n22) h21 := by
    intro h12 F12 R12 e n o' R'
    rw [e] at hQ
    exact e228 R' (fun _ h9 F9 R9 => ⟨_, rfl, hQ h9 ((F3.trans F12).trans F9) R9⟩) (fun _ h => by cases h)
   refine zB (fun g4 => ?_) (fun g4 => ?_)
   ·replace g4 := of_decide_eq_true g4
    by_cases hkl : k <= l.length
    ·rw [if_pos hkl] at efx
     by_cases hv : beV (l.take k) < M63
     ·rw [if_pos hv] at efx
      rw [efx] at R12 g4 ⊢
      rw [jT] at g4 ⊢
      simp only [stO] at R12
      refine e229 hv (by omega) ⟨_, rfl, ?_⟩
      refine e228 R12 (fun hor h9 F9 R9 => ⟨_, rfl, ?_⟩) (fun _ hb => ⟨_, rfl, ?_⟩)
      ·rcases hor with hor | hor
       ·cases hor
       ·have hne : ¬ wid (beV (l.take k)) = k := by
         intro he
         rw [he] at hor
         have : (((1 + k : Nat) : Int) == (k : Int) + 1) = true := by simp; omega
         rw [this] at hor; cases hor
        rw [if_neg (fun h => hne h.2.2.2)] at ern
        rw [ern] at hQ
        exact hQ h9 ((F3.trans F12).trans F9) R9
      ·have he : wid (beV (l.take k)) = k := by
        have : ((1 + wid (beV (l.take k)) : Nat) : Int) = (k : Int) + 1 := by simpa using hb
        omega
       rw [if_pos ⟨hkl, hv, by omega, he⟩] at ern
       rw [ern] at hQ
       exact hQ h12 (F3.trans F12) R12
     ·rw [if_neg hv] at efx
      rw [efx] at g4
      simp only [valN] at g4; omega
    ·rw [if_neg hkl] at efx
     rw [efx] at g4
     simp only [valN] at g4; omega
   ·replace g4 := of_decide_eq_false g4
    refine bad h12 F12 R12 ?_ _ _ R12
    rw [ern, if_neg]
    rintro ⟨a1, a2, a3, a4⟩
    rw [if_pos a1, if_pos (by simp only [M63]; exact a2)] at efx
    rw [efx, jT] at g4
    omega
  ·replace g3 := of_decide_eq_false g3
   have e : nm (some (c :: l)) = none := by simp only [nm, rdN]; rw [if_neg (by omega), if_neg (by omega), if_neg (by omega)]
   rw [e] at hQ
   exact e230 R3 fun h' F R' => ⟨_, rfl, hQ h' (F3.trans F) R'⟩)
end
def Bd (o : Option Bs) : Prop := ∀ l, o = some l -> l.length <= 100000
theorem Bd.nm {o : Option Bs} (B : Bd o) : Bd (stO (nm o)) := by
 intro l hl
 cases o with
 | none => cases hl
 | some l0 =>
  have := B l0 rfl
  simp only [Go.Proofs.YtnglhicedhcpbaaGreatDoor.nm] at hl
  cases hr : rdN l0 with
  | none => rw [hr] at hl; cases hl
  | some r => rw [hr] at hl; cases hl; have := zNO hr; omega
section
variable {h : Heap} {Q : AHp} {p : Nat} {o : Option Bs}
theorem e160 (R : Rd h p o) (hQ : Q (.int .i64 (match o with | none => 10 | some l => if l = [] then 0 else 10)) h) : AC Tryz.prog 160 [.ptr (some ⟨p, 0⟩)] h Q := ac160 (by
 unfold vc160
 refine e231 R ⟨_, rfl, ?_⟩
 cases o with
 | none => exact zB (fun _ => hQ) (fun g => by cases g)
 | some l =>
  refine zB (fun g => by cases g) (fun _ => ?_)
  obtain ⟨q, c1, c2, c3⟩ := rd_buf R
  have c4 := c2.len
  refine ⟨q, c1, zB (fun g => ?_) (fun g => ?_)⟩
  ·replace g := of_decide_eq_true g
   have : l ≠ [] := by intro h; rw [h] at c4; simp at c4; omega
   simp only [if_neg this] at hQ; exact hQ
  ·replace g := of_decide_eq_false g
   have : l = [] := List.eq_nil_of_length_eq_zero (by omega)
   simp only [if_pos this] at hQ; exact hQ)
theorem e158 {q : OSl} {l : Bs} (H : HasL byE h q l) (hl : l.length <= 100000) (hQ : ∀ p h', Ext h h' -> h.length <= p -> Rd h' p (some l) -> Q (.ptr (some ⟨p, 0⟩)) h') : AC Tryz.prog 158 [.sl q] h Q := ac158 (by
 unfold vc158 PNew
 refine e131 H hl fun q4 h3 hx H4 _ => ⟨q4, rfl, hQ _ _ (hx.trans (Ext.app _ _)) hx.len ⟨q4, by simp, H4.mono (Ext.app _ _), fun s hs => HasL.live H4 s hs⟩⟩)
theorem Fr.ext {h0 h' : Heap} (F : Fr p h h') (K : Ext h0 h) (hp : h0.length <= p) : Ext h0 h' := fun b B hB => F.keeps b B (fun he => by have he : b = p := he; have := zD hB; omega) (K _ _ hB)
end
end Go.Proofs.YtnglhicedhcpbaaGreatDoor




namespace Go.Proofs.YtnglhicedhcpbaaGreatDoor
open Go.Ab
open Go.Num hiding Bs snoc_ind
open Go.Ent
set_option linter.unusedVariables false
set_option linter.unusedSimpArgs false
section
variable {h : Heap} {Q : AHp}
abbrev encP (gs : Gs) : List Bs := gs.map encL
end
end Go.Proofs.YtnglhicedhcpbaaGreatDoor


