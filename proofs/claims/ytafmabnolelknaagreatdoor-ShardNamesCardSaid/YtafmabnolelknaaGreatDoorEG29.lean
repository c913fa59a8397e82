import Derived.Test.YtafmabnolelknaaGreatDoorEG5
import Derived.Test.YtafmabnolelknaaGreatDoorEG10
import Derived.Test.YtafmabnolelknaaGreatDoorEG21
import Derived.Test.YtafmabnolelknaaGreatDoorEG22
namespace Go.Proofs.YtafmabnolelknaaGreatDoor
open Go.Ab
open Go.Num hiding Bs snoc_ind
open Go.Ent
set_option linter.unusedVariables false
set_option linter.unusedSimpArgs false
def entE : Enc Ent := ⟨4, fun e => [.int .i64 e.1, .int .i64 e.2.1, .int .i64 e.2.2.1, .int .i64 e.2.2.2], fun _ => rfl, by omega, fun _ => rfl⟩
end Go.Proofs.YtafmabnolelknaaGreatDoor
namespace Go.Proofs.YtafmabnolelknaaGreatDoor
open Go.Ab
open Go.Num hiding Bs
set_option linter.unusedVariables false
set_option linter.unusedSimpArgs false
section
variable {h : Heap} {Q : AV → Heap → Prop}
theorem t356 {n : Nat} (hn : n < 9223372036854775808) (hQ : Q (.int .i64 (wid n : Nat)) h) : AC Tryz.prog 356 [.int .i64 n] h Q := ac356 (by
 have hw : wid n ≤ 8 := (wid_lt 8 n (by omega)).2 (by omega)
 unfold vc356
 rw [shr8]
 refine ⟨fun xs h6 => h6 = h ∧ ∃ m s : Nat, xs = [.int .i64 m, .int .i64 s] ∧ wid n = s + (if m = 0 then 0 else wid m), fun xs _ => match xs with | [.int _ m, _] => m.toNat | _ => 0, ⟨rfl, n / 256, 1, rfl, ?_⟩, ?_⟩
 ·rw [wid]
  split
  ·rename_i h; rw [Nat.div_eq_of_lt h]; rfl
  ·rename_i h; rw [if_neg (by omega)]
 rintro m s h6 ⟨rfl, m', s', hx, hw2⟩
 simp only [List.cons.injEq, AV.int.injEq, true_and, and_true] at hx
 obtain ⟨rfl, rfl⟩ := hx
 refine vif_mk (fun h1 => ?_) (fun h1 => ?_)
 ·simp only [decide_eq_true_eq] at h1
  rw [if_neg (by omega)] at hw2
  have := wid_pos (n := m')
  rw [shr8, wrapK_i64 ⟨by omega, by omega⟩]
  refine ⟨trivial, ⟨rfl, m' / 256, s' + 1, by simp, ?_⟩, by simp only; omega⟩
  rw [hw2, wid]
  split
  ·rename_i h; rw [Nat.div_eq_of_lt h]; rfl
  ·rename_i h; rw [if_neg (by omega)]; omega
 ·simp only [decide_eq_false_iff_not] at h1
  have : m' = 0 := by omega
  subst this
  rw [if_pos rfl] at hw2
  rw [hw2] at hQ; exact hQ)
theorem zeros_flat {k : Nat} : (List.replicate k [AV.int .u8 0]).flatten = byteAVs (List.replicate k 0) := by
 induction k with
 | zero => rfl
 | succ k ih => rw [List.replicate_succ, List.flatten_cons, ih]; rfl
theorem t357 {n k : Nat} (hk : 1 ≤ k ∧ k ≤ 8) (hQ : ∀ q h', New byE h h' q (beL n k) → Q (.sl q) h') : AC Tryz.prog 357 [.int .i64 n, .int .i64 k] h Q := ac357 (by
 unfold vc357
 refine ⟨by omega, by omega, by simp; omega, by simp only [maxI]; omega, ?_⟩
 simp only [Int.toNat_natCast]
 rw [zeros_flat]
 have fin : ∀ cur : Bs, cur.length = k → (∀ j, j < k → cur[j]? = (beL n k)[j]?) → Q (.sl (some ⟨h.length, 0, k, k, 0⟩)) (h ++ [.cells (byteAVs cur) true]) := by
  intro cur hl hc
  have : cur = beL n k := by
   refine List.ext_getElem? fun j => ?_
   rcases Nat.lt_or_ge j k with hj | hj
   ·exact hc j hj
   ·rw [List.getElem?_eq_none (by omega), List.getElem?_eq_none (by rw [beL_len]; omega)]
  subst this
  exact hQ _ _ (New.mk1 (E := byE) (beL_len _ _).symm byE_all.symm)
 refine ⟨fun xs h8 => ∃ (i : Nat) (cur : Bs), xs = [.int .i64 i] ∧ i ≤ k ∧ h8 = h ++ [.cells (byteAVs cur) true] ∧ cur.length = k ∧ ∀ j, j < i → cur[j]? = (beL n k)[j]?, fun xs _ => match xs with | [.int _ i] => (k - i).toNat | _ => 0, ⟨0, _, rfl, by omega, rfl, by simp, fun j hj => by omega⟩, ?_⟩
 rintro i h8 ⟨i', cur, hx, hi, rfl, hl, hc⟩
 simp only [List.cons.injEq, AV.int.injEq, true_and, and_true] at hx
 subst hx
 refine vif_mk (fun h1 => ?_) (fun h1 => ?_)
 ·replace h1 := of_decide_eq_true h1
  simp only [slLen] at h1
  have hik : i' < k := by omega
  rw [wrapK_i64 (n := (k : Int) - 1) ⟨by omega, by omega⟩, wrapK_i64 (n := (k : Int) - 1 - i') ⟨by omega, by omega⟩, wrapK_i64 (n := 8 * ((k : Int) - 1 - i')) ⟨by omega, by omega⟩]
  have e8 : (8 * ((k : Int) - 1 - i')) = ((8 * (k - 1 - i') : Nat) : Int) := by omega
  rw [e8, shrB (by omega), u8c, wrapK_i64 ⟨by omega, by omega⟩]
  refine need_mk (by simp; omega) ⟨by omega, by omega, ?_⟩
  unfold PStore
  simp only [Int.toNat_natCast, Nat.mul_one, Nat.zero_add]
  rw [List.getElem?_append_right (by omega)]
  simp only [Nat.sub_self, List.getElem?_cons_zero]
  refine ⟨by rw [byAV_len, hl]; simp; omega, trivial, ⟨i' + 1, cur.set i' (UInt8.ofNat (n / 256 ^ (k - 1 - i') % 256)), by simp, by omega, ?_, by simp [hl], fun j hj => ?_⟩, by omega⟩
  ·rw [splice_setB (by omega)]
   simp
  ·rw [List.getElem?_set]
   split
   ·rename_i he; subst he
    rw [if_pos (by omega), beL_get k n i' hik]
   ·exact hc j (by omega)
 ·replace h1 := of_decide_eq_false h1
  simp only [slLen] at h1
  have : i' = k := by omega
  subst this
  exact fin cur hl hc)
end
abbrev M63 : Nat := 9223372036854775808
theorem wid_le {n : Nat} (h : n < M63) : wid n ≤ 8 := (wid_lt 8 n (by omega)).2 (by simp only [M63] at h; omega)
theorem numB_len {n : Nat} (h : n < M63) : (numB n).length ≤ 9 := by
 have := wid_le h
 unfold numB
 split
 ·simp
 ·split
  ·simp
  ·simp [beL_len]; omega
section
variable {h : Heap} {Q : AV → Heap → Prop}
theorem by1 {n : Nat} (hn : n < 256) : [AV.int .u8 (wrapK .u8 (n : Int))] = byE.all [UInt8.ofNat n] := by
 rw [u8c, Nat.mod_eq_of_lt hn]; rfl
theorem numB_lo {n : Nat} (hn : n < 240) : numB n = [UInt8.ofNat n] := by unfold numB; rw [if_pos hn]
theorem numB_mid {n : Nat} (h0 : ¬ n < 240) (hn : n < 2288) : numB n = [UInt8.ofNat (240 + (n - 240) / 256), UInt8.ofNat ((n - 240) % 256)] := by unfold numB; rw [if_neg h0, if_pos hn]
theorem numB_hi {n : Nat} (hn : ¬ n < 2288) : numB n = UInt8.ofNat (246 + wid n) :: beL n (wid n) := by unfold numB; rw [if_neg (by omega), if_neg hn]
theorem byMid {n : Nat} (h0 : ¬ n < 240) (hn : n < 2288) {x y : Int} (hx : x = ((240 + (n - 240) / 256 : Nat) : Int)) (hy : y = ((n - 240 : Nat) : Int)) : [AV.int .u8 (wrapK .u8 x), .int .u8 (wrapK .u8 y)] = byE.all (numB n) := by
 subst hx hy
 rw [numB_mid h0 hn, u8c, u8c, Nat.mod_eq_of_lt (by omega : 240 + (n - 240) / 256 < 256)]; rfl
set_option maxRecDepth 20000 in
theorem t296 {n : Nat} (hn : n < M63) (hQ : ∀ q h', New byE h h' q (numB n) → Q (.tup [.sl q, .int .i64 0]) h') : AC Tryz.prog 296 [.int .i64 n] h Q := ac296 (by
 simp only [M63] at hn
 unfold vc296 PNew
 refine vif_mk (fun g => ?_) (fun _ => ?_)
 ·replace g := of_decide_eq_true g
  omega
 refine vif_mk (fun g => ?_) (fun g => ?_)
 ·replace g := of_decide_eq_true g
  exact hQ _ _ (New.mk1 (E := byE) (by rw [numB_lo (by omega)]; rfl) (by rw [numB_lo (by omega), by1 (by omega)]))
 refine vif_mk (fun g2 => ?_) (fun g2 => ?_)
 ·replace g := of_decide_eq_false g
  replace g2 := of_decide_eq_true g2
  refine hQ _ _ (New.mk1 (E := byE) (by rw [numB_mid (by omega) (by omega)]; rfl) ?_)
  rw [wrapK_i64 (n := (n : Int) - 240) ⟨by omega, by omega⟩]
  have e : ((n : Int) - 240) = ((n - 240 : Nat) : Int) := by omega
  rw [e, shr8]
  exact byMid (by omega) (by omega) (wrapK_i64 ⟨by omega, by omega⟩) rfl
 ·replace g := of_decide_eq_false g
  replace g2 := of_decide_eq_false g2
  have hw := wid_le (n := n) hn
  refine t356 hn ⟨_, rfl, ?_⟩
  refine t357 ⟨wid_pos, hw⟩ fun q13 h12 N => ⟨q13, rfl, ?_⟩
  rw [wrapK_i64 (n := 246 + ((wid n : Nat) : Int)) ⟨by omega, by omega⟩] at N
  have e : (246 + ((wid n : Nat) : Int)) = ((246 + wid n : Nat) : Int) := by omega
  rw [e, by1 (by omega)] at N
  have N1 : New byE h h12 (some ⟨h.length, 0, 1, 1, 0⟩) [UInt8.ofNat (246 + wid n)] := (New.mk1 (E := byE) rfl rfl).ext N.1
  refine New.append (E := byE) N1 N.hasL (by simp [beL_len]; omega) fun q14 h15 N2 => hQ _ _ ?_
  rw [numB_hi (by omega)]
  exact N2)
end
end Go.Proofs.YtafmabnolelknaaGreatDoor


namespace Go.Proofs.YtafmabnolelknaaGreatDoor
open Go.Ab
open Go.Num hiding Bs
set_option linter.unusedVariables false
set_option linter.unusedSimpArgs false
def Rd (h : Heap) (p : Nat) : Option Bs → Prop
 | some l => ∃ q, h[p]? = some (.cells [.sl q, .bool false] true) ∧ HasL byE h q l ∧ ∀ s, q = some s → s.b < p
 | none => ∃ q, h[p]? = some (.cells [.sl q, .bool true] true)
structure Fr (p : Nat) (h h' : Heap) : Prop where
 keeps : Keeps (fun b => b = p) h h'
 len : h.length ≤ h'.length
theorem Fr.trans {p : Nat} {a b c : Heap} (x : Fr p a b) (y : Fr p b c) : Fr p a c := ⟨x.keeps.trans y.keeps, Nat.le_trans x.len y.len⟩
theorem Fr.ofExt {p : Nat} {a b : Heap} (x : Ext a b) : Fr p a b := ⟨keeps_of_ext x, x.len⟩
def tk (n : Int) : Option Bs → Option (Bs × Bs)
 | some l => if 0 ≤ n ∧ n ≤ l.length then some (l.take n.toNat, l.drop n.toNat) else none
 | none => none
def fx (k : Int) (o : Option Bs) : Option (Nat × Bs) :=
 if 1 ≤ k ∧ k ≤ 8 then (match tk k o with | some (a, b) => if beV a < M63 then some (beV a, b) else none | none => none) else none
def nm (o : Option Bs) : Option (Nat × Bs) := match o with | some l => rdN l | none => none
def valN (r : Option (Nat × Bs)) : Int := match r with | some (n, _) => (n : Int) | none => 0
def stO {α : Type} (r : Option (α × Bs)) : Option Bs := match r with | some (_, b) => some b | none => none
theorem or8 {n c : Nat} (hn : n < 72057594037927936) (hc : c < 256) : bitsOr .u64 (shlK .u64 (n : Int) 8) (wrapK .u64 (c : Int)) = ((n * 256 + c : Nat) : Int) := by
 have e : min ((8 : Int).toNat) IntKind.u64.bits = 8 := by decide
 have e1 : shlK .u64 (n : Int) 8 = ((n * 256 : Nat) : Int) := by
  simp only [shlK, e]
  have : ((n : Int) * 2 ^ 8) = ((n * 256 : Nat) : Int) := by simp
  rw [this]
  exact wrapK_u64 ⟨by omega, by omega⟩
 have e2 : wrapK .u64 (c : Int) = (c : Int) := wrapK_u64 ⟨by omega, by omega⟩
 rw [e1, e2]
 unfold bitsOr
 have e3 : (BitVec.ofInt IntKind.u64.bits ((n * 256 : Nat) : Int) ||| BitVec.ofInt IntKind.u64.bits ((c : Nat) : Int)).toNat = n * 256 + c := by
  show (BitVec.ofInt 64 ((n * 256 : Nat) : Int) ||| BitVec.ofInt 64 ((c : Nat) : Int)).toNat = n * 256 + c
  rw [BitVec.toNat_or, BitVec.ofInt_natCast, BitVec.ofInt_natCast, BitVec.toNat_ofNat, BitVec.toNat_ofNat, Nat.mod_eq_of_lt (by omega : n * 256 < 2 ^ 64), Nat.mod_eq_of_lt (by omega : c < 2 ^ 64)]
  have := Nat.shiftLeft_add_eq_or_of_lt (i := 8) (b := c) (by omega) n
  rw [Nat.shiftLeft_eq] at this
  exact this.symm
 rw [e3]
 exact wrapK_u64 ⟨by omega, by omega⟩
section
variable {h : Heap} {Q : AV → Heap → Prop} {p : Nat} {o : Option Bs}
theorem rd_bad (R : Rd h p o) : cellsAt h ⟨p, 0 + 1⟩ 1 = some [.bool o.isNone] := by
 cases o with
 | none => obtain ⟨q, hb⟩ := R; rw [cellsAt_mk (p := ⟨p, 0 + 1⟩) hb (by simp)]; rfl
 | some l => obtain ⟨q, hb, _⟩ := R; rw [cellsAt_mk (p := ⟨p, 0 + 1⟩) hb (by simp)]; rfl
theorem rd_fail {K : Heap → Prop} (R : Rd h p o) (hK : ∀ h', Fr p h h' → Rd h' p none → K h') : PStore h ⟨p, 0 + 1⟩ [.bool true] K := by
 have : ∃ q b, h[p]? = some (.cells [.sl q, .bool b] true) := by
  cases o with
  | none => obtain ⟨q, hb⟩ := R; exact ⟨q, _, hb⟩
  | some l => obtain ⟨q, hb, _⟩ := R; exact ⟨q, _, hb⟩
 obtain ⟨q, b, hb⟩ := this
 unfold PStore
 simp only [hb]
 refine ⟨by simp, hK _ ⟨keeps_set rfl, by simp⟩ ⟨q, ?_⟩⟩
 rw [List.getElem?_set_self (lt_of_get hb)]; rfl
theorem rd_buf {l : Bs} (R : Rd h p (some l)) : ∃ q, cellsAt h ⟨p, 0 + 0⟩ 1 = some [.sl q] ∧ HasL byE h q l ∧ ∀ s, q = some s → s.b < p := by
 obtain ⟨q, hb, hl, hn⟩ := R
 exact ⟨q, by rw [cellsAt_mk (p := ⟨p, 0 + 0⟩) hb (by simp)]; rfl, hl, hn⟩
theorem rd_cut {l l' : Bs} {q' : Option SL} {K : Heap → Prop} (R : Rd h p (some l)) (H : HasL byE h q' l') (hn : ∀ s, q' = some s → s.b < p) (hK : ∀ h', Fr p h h' → Rd h' p (some l') → K h') : PStore h ⟨p, 0 + 0⟩ [.sl q'] K := by
 obtain ⟨q, hb, _, _⟩ := R
 unfold PStore
 simp only [hb]
 have K1 : Keeps (fun b => b = p) h (h.set p (.cells (splice [.sl q, .bool false] (0 + 0) [.sl q']) true)) := keeps_set rfl
 refine ⟨by simp, hK _ ⟨K1, by simp⟩ ⟨q', ?_, K1.hasL (fun s hs => Nat.ne_of_lt (hn s hs)) H, hn⟩⟩
 rw [List.getElem?_set_self (lt_of_get hb)]; rfl
theorem Rd.ext {h' : Heap} (R : Rd h p o) (K : Ext h h') : Rd h' p o := by
 cases o with
 | none => obtain ⟨q, hb⟩ := R; exact ⟨q, K _ _ hb⟩
 | some l => obtain ⟨q, hb, hl, hn⟩ := R; exact ⟨q, K _ _ hb, hl.mono K, hn⟩
theorem Rd.keeps {h' : Heap} {X : Nat → Prop} (R : Rd h p o) (K : Keeps X h h') (hX : ∀ b, b ≤ p → ¬ X b) : Rd h' p o := by
 cases o with
 | none => obtain ⟨q, hb⟩ := R; exact ⟨q, K _ _ (hX _ (Nat.le_refl _)) hb⟩
 | some l => obtain ⟨q, hb, hl, hn⟩ := R; exact ⟨q, K _ _ (hX _ (Nat.le_refl _)) hb, K.hasL (fun s hs => hX _ (Nat.le_of_lt (hn s hs))) hl, hn⟩
theorem Rd.live (R : Rd h p o) : p < h.length := by
 cases o with
 | none => obtain ⟨q, hb⟩ := R; exact lt_of_get hb
 | some l => obtain ⟨q, hb, _⟩ := R; exact lt_of_get hb
theorem e235 {q : Option SL} {l : Bs} (H : HasL byE h q l) (hl : l.length ≤ 100000) (hQ : ∀ q' h', Ext h h' → HasL byE h' q' l → (∀ s, q' = some s → h.length ≤ s.b) → Q (.sl q') h') : AC Tryz.prog 235 [.sl q] h Q := ac235 (by
 unfold vc235 PNew
 refine vif_mk (fun g => ?_) (fun g => ?_)
 ·cases q with
  | some s => cases g
  | none => exact hQ none h (.refl _) H (fun s hs => by cases hs)
 ·refine copy0 (E := byE) (a := h.length) (by simp) (H.mono (Ext.app _ _)) (by omega) fun q' h' hx O hq => hQ _ _ ((Ext.app _ _).trans hx) O.hasL (fun s hs => ?_)
  rcases hq s hs with a | a
  ·omega
  ·simp at a; omega)
theorem e315 (R : Rd h p o) (hQ : Q (.bool o.isNone) h) : AC Tryz.prog 315 [.ptr (some ⟨p, 0⟩)] h Q := ac315 (by
 unfold vc315
 exact ⟨_, rd_bad R, hQ⟩)
theorem e320 (R : Rd h p o) (hQ : ∀ h', Fr p h h' → Rd h' p none → Q (.int .i64 0) h') : AC Tryz.prog 320 [.ptr (some ⟨p, 0⟩)] h Q := ac320 (by
 unfold vc320
 exact rd_fail R hQ)
set_option maxRecDepth 20000 in
theorem e366 {n : Int} (R : Rd h p o) (hl : ∀ l, o = some l → l.length ≤ 100000) (hQ0 : tk n o = none → ∀ h', Fr p h h' → Rd h' p none → Q (.sl none) h')
  (hQ1 : ∀ a b, tk n o = some (a, b) → ∀ q h', Fr p h h' → HasL byE h' q a → (∀ s, q = some s → h.length ≤ s.b) → Rd h' p (some b) → Q (.sl q) h') : AC Tryz.prog 366 [.ptr (some ⟨p, 0⟩), .int .i64 n] h Q := ac366 (by
 unfold vc366
 refine e315 R ⟨_, rfl, ?_⟩
 cases o with
 | none =>
  refine vif_mk (fun _ => ?_) (fun g => by simp at g)
  exact e320 R fun h' F R' => ⟨_, rfl, hQ0 rfl h' F R'⟩
 | some l =>
  refine vif_mk (fun g => by simp at g) (fun _ => ?_)
  obtain ⟨q, c1, c2, c3⟩ := rd_buf R
  have c4 := c2.len
  refine vif_mk (fun g => ?_) (fun g => ?_)
  ·replace g := of_decide_eq_true g
   exact e320 R fun h' F R' => ⟨_, rfl, hQ0 (by simp only [tk]; rw [if_neg (by omega)]) h' F R'⟩
  replace g := of_decide_eq_false g
  refine ⟨q, c1, vif_mk (fun g2 => ?_) (fun g2 => ?_)⟩
  ·replace g2 := of_decide_eq_true g2
   exact e320 R fun h' F R' => ⟨_, rfl, hQ0 (by simp only [tk]; rw [if_neg (by omega)]) h' F R'⟩
  replace g2 := of_decide_eq_false g2
  refine ⟨q, c1, HasL.slice (E := byE) c2 (by omega) (by simp; omega) (by simp; omega) fun q19 H19 => ?_⟩
  have H19 : HasL byE h q19 (l.take n.toNat) := by simpa using H19
  have hll := hl l rfl
  refine e235 H19 (by have := List.length_take_le' n.toNat l; omega) fun q22 h21 hx H22 hq22 => ⟨q22, rfl, q, hx.cells c1, ?_⟩
  refine HasL.slice2 (E := byE) (c2.mono hx) (by omega) (by simp; omega) (by simp) fun q25 H25 hq25 => ?_
  have H25 : HasL byE h21 q25 (l.drop n.toNat) := by simpa using H25
  have hpl := R.live
  refine rd_cut (R.ext hx) H25 (fun s hs => by obtain ⟨s', a1, a2⟩ := hq25 s hs; rw [a2]; exact c3 s' a1) fun h27 F27 R27 => ?_
  refine hQ1 (l.take n.toNat) (l.drop n.toNat) (by simp only [tk]; rw [if_pos (by omega)]) q22 h27 ((Fr.ofExt hx).trans F27) (F27.keeps.hasL (fun s hs he => by have := hq22 s hs; have he : s.b = p := he; omega) H22) hq22 R27)
theorem beV_take {a : Bs} {i : Nat} {x : UInt8} (h : a[i]? = some x) : beV (a.take (i + 1)) = beV (a.take i) * 256 + x.toNat := by
 rw [List.take_add_one, h]; exact beV_snoc
theorem tk_some {n : Int} {a b : Bs} (h : tk n o = some (a, b)) : ∃ l, o = some l ∧ 0 ≤ n ∧ n ≤ l.length ∧ a = l.take n.toNat ∧ b = l.drop n.toNat := by
 cases o with
 | none => cases h
 | some l =>
  simp only [tk] at h
  split at h
  ·rename_i hc
   simp only [Option.some.injEq, Prod.mk.injEq] at h
   exact ⟨l, rfl, hc.1, hc.2, h.1.symm, h.2.symm⟩
  ·cases h
set_option maxRecDepth 20000 in
theorem e317 {k : Int} (R : Rd h p o) (hl : ∀ l, o = some l → l.length ≤ 100000) (hQ : ∀ h', Fr p h h' → Rd h' p (stO (fx k o)) → Q (.int .i64 (valN (fx k o))) h') : AC Tryz.prog 317 [.ptr (some ⟨p, 0⟩), .int .i64 k] h Q := ac317 (by
 unfold vc317
 refine vif_mk (fun g => ?_) (fun g => ?_)
 ·replace g := of_decide_eq_true g
  have e : fx k o = none := by unfold fx; rw [if_neg (by omega)]
  rw [e] at hQ
  exact e320 R fun h' F R' => ⟨_, rfl, hQ h' F R'⟩
 replace g := of_decide_eq_false g
 refine vif_mk (fun g2 => ?_) (fun g2 => ?_)
 ·replace g2 := of_decide_eq_true g2
  have e : fx k o = none := by unfold fx; rw [if_neg (by omega)]
  rw [e] at hQ
  exact e320 R fun h' F R' => ⟨_, rfl, hQ h' F R'⟩
 replace g2 := of_decide_eq_false g2
 have efx : fx k o = match tk k o with | some (a, b) => if beV a < M63 then some (beV a, b) else none | none => none := by unfold fx; rw [if_pos (by omega)]
 refine e366 R hl (fun ht h10 F10 R10 => ⟨none, rfl, ?_⟩) (fun a b ht q11 h10 F10 H11 _ R10 => ⟨q11, rfl, ?_⟩)
 ·rw [ht] at efx
  rw [efx] at hQ
  refine ⟨fun xs h16 => h16 = h10 ∧ ∃ n13 : Int, xs = [.int .u64 0, .int .i64 n13] ∧ 0 ≤ n13, fun _ _ => 0, ⟨rfl, 0, rfl, by omega⟩, ?_⟩
  rintro n12 n13 h16 ⟨rfl, n', hx, hn⟩
  simp only [List.cons.injEq, AV.int.injEq, true_and, and_true] at hx
  obtain ⟨rfl, rfl⟩ := hx
  refine vif_mk (fun g => ?_) (fun _ => ?_)
  ·replace g := of_decide_eq_true g
   simp only [slLen] at g; omega
  ·refine e315 R10 ⟨_, rfl, vif_mk (fun _ => ?_) (fun g => by simp at g)⟩
   exact e320 R10 fun h' F R' => ⟨_, rfl, hQ h' (F10.trans F) R'⟩
 ·rw [ht] at efx
  simp only at efx
  obtain ⟨l, rfl, b1, b2, rfl, rfl⟩ := tk_some ht
  have hlen := H11.len
  generalize ha : l.take k.toNat = a at *
  have hal : a.length = k.toNat := by rw [← ha, List.length_take]; omega
  refine ⟨fun xs h16 => h16 = h10 ∧ ∃ i : Nat, xs = [.int .u64 ((beV (a.take i) : Nat) : Int), .int .i64 i] ∧ i ≤ a.length, fun xs _ => match xs with | [_, .int _ i] => (a.length - i).toNat | _ => 0, ⟨rfl, 0, rfl, by omega⟩, ?_⟩
  rintro n12 n13 h16 ⟨rfl, i', hx, hi⟩
  simp only [List.cons.injEq, AV.int.injEq, true_and, and_true] at hx
  obtain ⟨rfl, rfl⟩ := hx
  refine vif_mk (fun g => ?_) (fun g => ?_)
  ·replace g := of_decide_eq_true g
   refine HasL.idx (E := byE) H11 (by omega) (by omega) fun pp x hx hc => ⟨((x.toNat : Nat) : Int), hc, ?_⟩
   have hx' : a[i']? = some x := by simpa using hx
   have hb : beV (a.take i') < 72057594037927936 := by
    have h1 := beV_lt (a.take i')
    have h2 : (a.take i').length ≤ 7 := by rw [List.length_take]; omega
    have h3 : 256 ^ (a.take i').length ≤ 256 ^ 7 := Nat.pow_le_pow_right (by omega) h2
    omega
   rw [or8 hb x.toNat_lt, ← beV_take hx', wrapK_i64 ⟨by omega, by omega⟩]
   exact ⟨trivial, ⟨rfl, i' + 1, by simp, by omega⟩, by simp only; omega⟩
  ·replace g := of_decide_eq_false g
   have : i' = a.length := by omega
   subst this
   rw [List.take_length]
   refine e315 R10 ⟨_, rfl, vif_mk (fun g => by simp at g) (fun _ => ?_)⟩
   refine vif_mk (fun g3 => ?_) (fun g3 => ?_)
   ·replace g3 := of_decide_eq_true g3
    rw [if_neg (by simp only [M63]; omega)] at efx
    rw [efx] at hQ
    exact e320 R10 fun h' F R' => ⟨_, rfl, hQ h' (F10.trans F) R'⟩
   ·replace g3 := of_decide_eq_false g3
    rw [if_pos (by simp only [M63]; omega)] at efx
    rw [efx] at hQ
    rw [wrapK_i64 ⟨by omega, by omega⟩]
    exact hQ _ F10 R10)
theorem e318 {n : Int} {b : Bool} (R : Rd h p o) (hQ0 : (o = none ∨ b = false) → ∀ h', Fr p h h' → Rd h' p none → Q (.int .i64 0) h') (hQ1 : o ≠ none → b = true → Q (.int .i64 n) h) : AC Tryz.prog 318 [.ptr (some ⟨p, 0⟩), .int .i64 n, .bool b] h Q := ac318 (by
 unfold vc318
 refine e315 R ⟨_, rfl, vif_mk (fun g => ?_) (fun g => ?_)⟩
 ·cases o with
  | none => exact e320 R fun h' F R' => ⟨_, rfl, hQ0 (.inl rfl) h' F R'⟩
  | some l => simp at g
 ·cases o with
  | none => simp at g
  | some l =>
   refine vif_mk (fun g => ?_) (fun g => ?_)
   ·exact e320 R fun h' F R' => ⟨_, rfl, hQ0 (.inr (by simpa using g)) h' F R'⟩
   ·exact hQ1 (by simp) (by simpa using g))
set_option maxRecDepth 20000 in
theorem e319 {n : Nat} (hn : n < M63) (h2 : 2288 ≤ n) (hQ : Q (.int .i64 ((1 + wid n : Nat) : Int)) h) : AC Tryz.prog 319 [.int .i64 n] h Q := ac319 (by
 have hw := wid_le hn
 unfold vc319
 refine vif_mk (fun g => ?_) (fun _ => ?_)
 ·replace g := of_decide_eq_true g; omega
 refine vif_mk (fun g => ?_) (fun _ => ?_)
 ·replace g := of_decide_eq_true g; omega
 refine vif_mk (fun g => ?_) (fun _ => ?_)
 ·replace g := of_decide_eq_true g; omega
 refine t356 hn ⟨_, rfl, ?_⟩
 rw [wrapK_i64 ⟨by omega, by omega⟩]
 have e : (1 + ((wid n : Nat) : Int)) = ((1 + wid n : Nat) : Int) := by omega
 rw [e]; exact hQ)
end
theorem fx1 {c : UInt8} {l : Bs} : fx 1 (some (c :: l)) = some (c.toNat, l) := by
 have hc := c.toNat_lt
 have e : tk 1 (some (c :: l)) = some ([c], l) := by simp [tk]; omega
 unfold fx
 rw [if_pos (by omega), e]
 have : beV [c] = c.toNat := by simp [beV]
 simp only [this]
 rw [if_pos (by simp only [M63]; omega)]
theorem fx1_nil : fx 1 (some []) = none := by
 unfold fx
 rw [if_pos (by omega)]
 have : tk 1 (some []) = none := by simp [tk]
 rw [this]
theorem fx1_none : fx 1 none = none := by
 unfold fx
 rw [if_pos (by omega)]
 rfl
theorem valN_some {n : Nat} {b : Bs} : valN (some (n, b)) = n := rfl
section
variable {h : Heap} {Q : AV → Heap → Prop} {p : Nat} {o : Option Bs}
set_option maxRecDepth 20000 in
theorem e249 (R : Rd h p o) (hl : ∀ l, o = some l → l.length ≤ 100000) (hQ : ∀ h', Fr p h h' → Rd h' p (stO (nm o)) → Q (.int .i64 (valN (nm o))) h') : AC Tryz.prog 249 [.ptr (some ⟨p, 0⟩)] h Q := ac249 (by
 unfold vc249
 refine e317 R hl fun h3 F3 R3 => ⟨_, rfl, ?_⟩
 match o with
 | none =>
  rw [fx1_none] at R3 ⊢
  refine vif_mk (fun _ => hQ h3 F3 R3) (fun g => ?_)
  replace g := of_decide_eq_false g
  simp only [valN] at g; omega
 | some [] =>
  rw [fx1_nil] at R3 ⊢
  refine vif_mk (fun _ => hQ h3 F3 R3) (fun g => ?_)
  replace g := of_decide_eq_false g
  simp only [valN] at g; omega
 | some (c :: l) =>
  have hcl := hl _ rfl
  rw [List.length_cons] at hcl
  have hc := c.toNat_lt
  rw [fx1] at R3 ⊢
  simp only [stO] at R3
  rw [valN_some]
  refine vif_mk (fun g => ?_) (fun g => ?_)
  ·replace g := of_decide_eq_true g
   have e : nm (some (c :: l)) = some (c.toNat, l) := by simp only [nm, rdN]; rw [if_pos (by omega)]
   rw [e] at hQ
   exact hQ h3 F3 R3
  replace g := of_decide_eq_false g
  refine vif_mk (fun g2 => ?_) (fun g2 => ?_)
  ·replace g2 := of_decide_eq_true g2
   refine e317 R3 (fun l' h => by cases h; omega) fun h6 F6 R6 => ⟨_, rfl, ?_⟩
   cases l with
   | nil =>
    have e : nm (some (c :: [])) = none := by simp only [nm, rdN]; rw [if_neg (by omega), if_pos (by omega)]
    rw [e] at hQ
    rw [fx1_nil] at R6
    exact e318 R6 (fun _ h9 F9 R9 => ⟨_, rfl, hQ h9 ((F3.trans F6).trans F9) R9⟩) (fun h => (h rfl).elim)
   | cons x l =>
    have hx := x.toNat_lt
    have e : nm (some (c :: x :: l)) = some (240 + (c.toNat - 240) * 256 + x.toNat, l) := by simp only [nm, rdN]; rw [if_neg (by omega), if_pos (by omega)]
    rw [e] at hQ
    rw [fx1] at R6 ⊢
    refine e318 R6 (fun h => by rcases h with h | h <;> cases h) (fun _ _ => ⟨_, rfl, ?_⟩)
    have e2 : shlK .i64 (wrapK .i64 ((c.toNat : Int) - 240)) 8 = (((c.toNat - 240) * 256 : Nat) : Int) := by
     have e : min ((8 : Int).toNat) IntKind.i64.bits = 8 := by decide
     rw [wrapK_i64 ⟨by omega, by omega⟩]
     simp only [shlK, e]
     have : (((c.toNat : Int) - 240) * 2 ^ 8) = (((c.toNat - 240) * 256 : Nat) : Int) := by omega
     rw [this]
     exact wrapK_i64 ⟨by omega, by omega⟩
    rw [valN_some, e2, wrapK_i64 (n := 240 + (((c.toNat - 240) * 256 : Nat) : Int)) ⟨by omega, by omega⟩, wrapK_i64 ⟨by omega, by omega⟩]
    have e3 : (240 + (((c.toNat - 240) * 256 : Nat) : Int) + (x.toNat : Int)) = ((240 + (c.toNat - 240) * 256 + x.toNat : Nat) : Int) := by omega
    rw [e3]
    exact hQ h6 (F3.trans F6) R6
  replace g2 := of_decide_eq_false g2
  refine vif_mk (fun g3 => ?_) (fun g3 => ?_)
  ·replace g3 := of_decide_eq_true g3
   rw [wrapK_i64 (n := (c.toNat : Int) - 246) ⟨by omega, by omega⟩, wrapK_i64 (n := (c.toNat : Int) - 246 + 1) ⟨by omega, by omega⟩]
   have ek : ((c.toNat : Int) - 246) = ((c.toNat - 246 : Nat) : Int) := by omega
   rw [ek]
   generalize hk : c.toNat - 246 = k at *
   have ern : nm (some (c :: l)) = if k ≤ l.length ∧ beV (l.take k) < 9223372036854775808 ∧ 2288 ≤ beV (l.take k) ∧ wid (beV (l.take k)) = k then some (beV (l.take k), l.drop k) else none := by
    simp only [nm, rdN]
    rw [if_neg (by omega), if_neg (by omega), if_pos (by omega), hk]
   have efx : fx (k : Int) (some l) = if k ≤ l.length then (if beV (l.take k) < M63 then some (beV (l.take k), l.drop k) else none) else none := by
    unfold fx
    rw [if_pos (by omega)]
    simp only [tk]
    by_cases hkl : k ≤ l.length
    ·rw [if_pos (by omega), if_pos hkl]; simp
    ·rw [if_neg (by omega), if_neg hkl]
   refine e317 R3 (fun l' h => by cases h; omega) fun h12 F12 R12 => ⟨_, rfl, ?_⟩
   have bad : ∀ (h12 : Heap), Fr p h3 h12 → Rd h12 p (stO (fx (k : Int) (some l))) → nm (some (c :: l)) = none → ∀ n : Int, ∀ o', Rd h12 p o' → AC Tryz.prog 318 [.ptr (some ⟨p, 0⟩), .int .i64 n, .bool false] h12 fun v20 h21 => ∃ n22 : Int, v20 = .int .i64 n22 ∧ Q (.int .i64 n22) h21 := by
    intro h12 F12 R12 e n o' R'
    rw [e] at hQ
    exact e318 R' (fun _ h9 F9 R9 => ⟨_, rfl, hQ h9 ((F3.trans F12).trans F9) R9⟩) (fun _ h => by cases h)
   refine vif_mk (fun g4 => ?_) (fun g4 => ?_)
   ·replace g4 := of_decide_eq_true g4
    by_cases hkl : k ≤ l.length
    ·rw [if_pos hkl] at efx
     by_cases hv : beV (l.take k) < M63
     ·rw [if_pos hv] at efx
      rw [efx] at R12 g4 ⊢
      rw [valN_some] at g4 ⊢
      simp only [stO] at R12
      refine e319 hv (by omega) ⟨_, rfl, ?_⟩
      refine e318 R12 (fun hor h9 F9 R9 => ⟨_, rfl, ?_⟩) (fun _ hb => ⟨_, rfl, ?_⟩)
      ·rcases hor with hor | hor
       ·cases hor
       ·have hne : ¬ wid (beV (l.take k)) = k := by
         intro he
         rw [he] at hor
         have : (((1 + k : Nat) : Int) == (k : Int) + 1) = true := by simp; omega
         rw [this] at hor; cases hor
        rw [if_neg (fun h => hne h.2.2.2)] at ern
        rw [ern] at hQ
        exact hQ h9 ((F3.trans F12).trans F9) R9
      ·have he : wid (beV (l.take k)) = k := by
        have : ((1 + wid (beV (l.take k)) : Nat) : Int) = (k : Int) + 1 := by simpa using hb
        omega
       rw [if_pos ⟨hkl, hv, by omega, he⟩] at ern
       rw [ern] at hQ
       exact hQ h12 (F3.trans F12) R12
     ·rw [if_neg hv] at efx
      rw [efx] at g4
      simp only [valN] at g4; omega
    ·rw [if_neg hkl] at efx
     rw [efx] at g4
     simp only [valN] at g4; omega
   ·replace g4 := of_decide_eq_false g4
    refine bad h12 F12 R12 ?_ _ _ R12
    rw [ern, if_neg]
    rintro ⟨a1, a2, a3, a4⟩
    rw [if_pos a1, if_pos (by simp only [M63]; exact a2)] at efx
    rw [efx, valN_some] at g4
    omega
  ·replace g3 := of_decide_eq_false g3
   have e : nm (some (c :: l)) = none := by simp only [nm, rdN]; rw [if_neg (by omega), if_neg (by omega), if_neg (by omega)]
   rw [e] at hQ
   exact e320 R3 fun h' F R' => ⟨_, rfl, hQ h' (F3.trans F) R'⟩)
end
section
variable {h : Heap} {Q : AV → Heap → Prop} {p : Nat} {o : Option Bs}
theorem e250 (R : Rd h p o) (hQ : Q (.int .i64 (match o with | none => 10 | some l => if l = [] then 0 else 10)) h) : AC Tryz.prog 250 [.ptr (some ⟨p, 0⟩)] h Q := ac250 (by
 unfold vc250
 refine e315 R ⟨_, rfl, ?_⟩
 cases o with
 | none => exact vif_mk (fun _ => hQ) (fun g => by cases g)
 | some l =>
  refine vif_mk (fun g => by cases g) (fun _ => ?_)
  obtain ⟨q, c1, c2, c3⟩ := rd_buf R
  have c4 := c2.len
  refine ⟨q, c1, vif_mk (fun g => ?_) (fun g => ?_)⟩
  ·replace g := of_decide_eq_true g
   have : l ≠ [] := by intro h; rw [h] at c4; simp at c4; omega
   simp only [if_neg this] at hQ; exact hQ
  ·replace g := of_decide_eq_false g
   have : l = [] := List.eq_nil_of_length_eq_zero (by omega)
   simp only [if_pos this] at hQ; exact hQ)
theorem e247 {q : Option SL} {l : Bs} (H : HasL byE h q l) (hl : l.length ≤ 100000) (hQ : ∀ p h', Ext h h' → h.length ≤ p → Rd h' p (some l) → Q (.ptr (some ⟨p, 0⟩)) h') : AC Tryz.prog 247 [.sl q] h Q := ac247 (by
 unfold vc247 PNew
 refine e235 H hl fun q4 h3 hx H4 _ => ⟨q4, rfl, hQ _ _ (hx.trans (Ext.app _ _)) hx.len ⟨q4, by simp, H4.mono (Ext.app _ _), fun s hs => HasL.live H4 s hs⟩⟩)
end
end Go.Proofs.YtafmabnolelknaaGreatDoor


namespace Go.Proofs.YtafmabnolelknaaGreatDoor
open Go.Ab
open Go.Num hiding Bs
set_option linter.unusedVariables false
set_option linter.unusedSimpArgs false
theorem vptr_mk {p : PA} {K : PA → Prop} (h : K p) : vPtr (some p) K := h
end Go.Proofs.YtafmabnolelknaaGreatDoor



