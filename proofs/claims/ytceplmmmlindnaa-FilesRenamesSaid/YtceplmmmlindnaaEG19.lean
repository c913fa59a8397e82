/- Readers: the engine's. -/
import Derived.Test.YtceplmmmlindnaaEG17
import Derived.Test.YtceplmmmlindnaaEG18
namespace Go.Proofs.Ytceplmmmlindnaa
open Go.Ab
set_option linter.unusedVariables false
set_option linter.unusedSimpArgs false

/-- A reader at p: what is left, or it is bad. -/
def Rd (h : Heap) (p : Nat) : Option Bs → Prop
  | some l => ∃ q, h[p]? = some (.cells [.sl q, .bool false] true) ∧ HasL byE h q l ∧ ∀ s, q = some s → s.b < p
  | none => ∃ q, h[p]? = some (.cells [.sl q, .bool true] true)
structure Fr (p : Nat) (h h' : Heap) : Prop where
  keeps : Keeps (fun b => b = p) h h'
  len : h.length ≤ h'.length
theorem Fr.refl (p : Nat) (h : Heap) : Fr p h h := ⟨.refl _ _, Nat.le_refl _⟩
theorem Fr.trans {p : Nat} {a b c : Heap} (x : Fr p a b) (y : Fr p b c) : Fr p a c := ⟨x.keeps.trans y.keeps, Nat.le_trans x.len y.len⟩
theorem Fr.ofExt {p : Nat} {a b : Heap} (x : Ext a b) : Fr p a b := ⟨keeps_of_ext x, x.len⟩

/-- n bytes of what is left. -/
def tk (n : Int) : Option Bs → Option (Bs × Bs)
  | some l => if 0 ≤ n ∧ n ≤ l.length then some (l.take n.toNat, l.drop n.toNat) else none
  | none => none
def fx (k : Int) (o : Option Bs) : Option (Nat × Bs) :=
  if 1 ≤ k ∧ k ≤ 8 then (match tk k o with | some (a, b) => if beV a < M63 then some (beV a, b) else none | none => none) else none
def nm (o : Option Bs) : Option (Nat × Bs) := match o with | some l => rdN l | none => none
def rdT (most : Nat) (l : Bs) : Option (Bs × Bs) := match rdN l with | some (n, l') => if n ≤ most ∧ n ≤ l'.length then some (l'.take n, l'.drop n) else none | none => none
def tx (most : Nat) (o : Option Bs) : Option (Bs × Bs) := match o with | some l => rdT most l | none => none
def valN (r : Option (Nat × Bs)) : Int := match r with | some (n, _) => (n : Int) | none => 0
def valS (r : Option (Bs × Bs)) : Bs := match r with | some (s, _) => s | none => []
def stO {α : Type} (r : Option (α × Bs)) : Option Bs := match r with | some (_, b) => some b | none => none

theorem or8 {n c : Nat} (hn : n < 72057594037927936) (hc : c < 256) : bitsOr .u64 (shlK .u64 (n : Int) 8) (wrapK .u64 (c : Int)) = ((n * 256 + c : Nat) : Int) := by
  have e : min ((8 : Int).toNat) IntKind.u64.bits = 8 := by decide
  have e1 : shlK .u64 (n : Int) 8 = ((n * 256 : Nat) : Int) := by
    simp only [shlK, e]
    have : ((n : Int) * 2 ^ 8) = ((n * 256 : Nat) : Int) := by simp
    rw [this]
    exact wrapK_u64 ⟨by omega, by omega⟩
  have e2 : wrapK .u64 (c : Int) = (c : Int) := wrapK_u64 ⟨by omega, by omega⟩
  rw [e1, e2]
  unfold bitsOr
  have e3 : (BitVec.ofInt IntKind.u64.bits ((n * 256 : Nat) : Int) ||| BitVec.ofInt IntKind.u64.bits ((c : Nat) : Int)).toNat = n * 256 + c := by
    show (BitVec.ofInt 64 ((n * 256 : Nat) : Int) ||| BitVec.ofInt 64 ((c : Nat) : Int)).toNat = n * 256 + c
    rw [BitVec.toNat_or, BitVec.ofInt_natCast, BitVec.ofInt_natCast, BitVec.toNat_ofNat, BitVec.toNat_ofNat, Nat.mod_eq_of_lt (by omega : n * 256 < 2 ^ 64), Nat.mod_eq_of_lt (by omega : c < 2 ^ 64)]
    have := Nat.shiftLeft_add_eq_or_of_lt (i := 8) (b := c) (by omega) n
    rw [Nat.shiftLeft_eq] at this
    exact this.symm
  rw [e3]
  exact wrapK_u64 ⟨by omega, by omega⟩

theorem pslice_blk {sz : Nat} {q : Option SL} {lo : Int} {hi mx : Option Int} {K K2 : Option SL → Prop} (P : PSlice sz q lo hi mx K) (hK : ∀ q', K q' → (∀ s', q' = some s' → ∃ s, q = some s ∧ s'.b = s.b) → K2 q') : PSlice sz q lo hi mx K2 := by
  unfold PSlice at P ⊢
  cases q with
  | none => exact ⟨P.1, P.2.1, P.2.2.1, hK _ P.2.2.2 (fun s' h => by cases h)⟩
  | some s => exact ⟨P.1, P.2.1, P.2.2.1, P.2.2.2.1, P.2.2.2.2.1, hK _ P.2.2.2.2.2 (fun s' h => by cases h; exact ⟨s, rfl, rfl⟩)⟩
/-- s[lo:hi] of a list, in the same block. -/
theorem HasL.slice2 {α : Type} {E : Enc α} {h : Heap} {q : Option SL} {l : List α} (H : HasL E h q l) {lo : Int} {hi : Option Int} {K : Option SL → Prop} (h0 : 0 ≤ lo) (h1 : lo ≤ hi.getD l.length) (h2 : hi.getD l.length ≤ l.length)
    (hK : ∀ q', HasL E h q' ((l.take (hi.getD l.length).toNat).drop lo.toNat) → (∀ s', q' = some s' → ∃ s, q = some s ∧ s'.b = s.b) → K q') : PSlice E.sz q lo hi none K :=
  pslice_blk (H.slice (K := fun q' => HasL E h q' ((l.take (hi.getD l.length).toNat).drop lo.toNat)) h0 h1 h2 fun _ h => h) hK

section
variable {h : Heap} {Q : AV → Heap → Prop} {p : Nat} {o : Option Bs}

theorem rd_bad (R : Rd h p o) : cellsAt h ⟨p, 0 + 1⟩ 1 = some [.bool o.isNone] := by
  cases o with
  | none => obtain ⟨q, hb⟩ := R; rw [cellsAt_mk (p := ⟨p, 0 + 1⟩) hb (by simp)]; rfl
  | some l => obtain ⟨q, hb, _⟩ := R; rw [cellsAt_mk (p := ⟨p, 0 + 1⟩) hb (by simp)]; rfl
theorem rd_fail {K : Heap → Prop} (R : Rd h p o) (hK : ∀ h', Fr p h h' → Rd h' p none → K h') : PStore h ⟨p, 0 + 1⟩ [.bool true] K := by
  have : ∃ q b, h[p]? = some (.cells [.sl q, .bool b] true) := by
    cases o with
    | none => obtain ⟨q, hb⟩ := R; exact ⟨q, _, hb⟩
    | some l => obtain ⟨q, hb, _⟩ := R; exact ⟨q, _, hb⟩
  obtain ⟨q, b, hb⟩ := this
  unfold PStore
  simp only [hb]
  refine ⟨by simp, hK _ ⟨keeps_set rfl, by simp⟩ ⟨q, ?_⟩⟩
  rw [List.getElem?_set_self (lt_of_get hb)]; rfl
theorem rd_buf {l : Bs} (R : Rd h p (some l)) : ∃ q, cellsAt h ⟨p, 0 + 0⟩ 1 = some [.sl q] ∧ HasL byE h q l ∧ ∀ s, q = some s → s.b < p := by
  obtain ⟨q, hb, hl, hn⟩ := R
  exact ⟨q, by rw [cellsAt_mk (p := ⟨p, 0 + 0⟩) hb (by simp)]; rfl, hl, hn⟩
theorem rd_cut {l l' : Bs} {q' : Option SL} {K : Heap → Prop} (R : Rd h p (some l)) (H : HasL byE h q' l') (hn : ∀ s, q' = some s → s.b < p) (hK : ∀ h', Fr p h h' → Rd h' p (some l') → K h') : PStore h ⟨p, 0 + 0⟩ [.sl q'] K := by
  obtain ⟨q, hb, _, _⟩ := R
  unfold PStore
  simp only [hb]
  have K1 : Keeps (fun b => b = p) h (h.set p (.cells (splice [.sl q, .bool false] (0 + 0) [.sl q']) true)) := keeps_set rfl
  refine ⟨by simp, hK _ ⟨K1, by simp⟩ ⟨q', ?_, K1.hasL (fun s hs => Nat.ne_of_lt (hn s hs)) H, hn⟩⟩
  rw [List.getElem?_set_self (lt_of_get hb)]; rfl
theorem Rd.ext {h' : Heap} (R : Rd h p o) (K : Ext h h') : Rd h' p o := by
  cases o with
  | none => obtain ⟨q, hb⟩ := R; exact ⟨q, K _ _ hb⟩
  | some l => obtain ⟨q, hb, hl, hn⟩ := R; exact ⟨q, K _ _ hb, hl.mono K, hn⟩
theorem Rd.keeps {h' : Heap} {X : Nat → Prop} (R : Rd h p o) (K : Keeps X h h') (hX : ∀ b, b ≤ p → ¬ X b) : Rd h' p o := by
  cases o with
  | none => obtain ⟨q, hb⟩ := R; exact ⟨q, K _ _ (hX _ (Nat.le_refl _)) hb⟩
  | some l => obtain ⟨q, hb, hl, hn⟩ := R; exact ⟨q, K _ _ (hX _ (Nat.le_refl _)) hb, K.hasL (fun s hs => hX _ (Nat.le_of_lt (hn s hs))) hl, hn⟩
theorem Rd.live (R : Rd h p o) : p < h.length := by
  cases o with
  | none => obtain ⟨q, hb⟩ := R; exact lt_of_get hb
  | some l => obtain ⟨q, hb, _⟩ := R; exact lt_of_get hb

/-- slices.Clone of bytes. -/
theorem e94 {q : Option SL} {l : Bs} (H : HasL byE h q l) (hl : l.length ≤ 100000) (hQ : ∀ q' h', Ext h h' → HasL byE h' q' l → (∀ s, q' = some s → h.length ≤ s.b) → Q (.sl q') h') : AC Try.prog 94 [.sl q] h Q := ac94 (by
  unfold vc94 PNew
  refine vif_mk (fun g => ?_) (fun g => ?_)
  · cases q with
    | some s => cases g
    | none => exact hQ none h (.refl _) H (fun s hs => by cases hs)
  · refine copy0 (E := byE) (a := h.length) (by simp) (H.mono (Ext.app _ _)) (by omega) fun q' h' hx O hq => hQ _ _ ((Ext.app _ _).trans hx) O.hasL (fun s hs => ?_)
    rcases hq s hs with a | a
    · omega
    · simp at a; omega)

/-- Bad. -/
theorem e71 (R : Rd h p o) (hQ : Q (.bool o.isNone) h) : AC Try.prog 71 [.ptr (some ⟨p, 0⟩)] h Q := ac71 (by
  unfold vc71
  exact ⟨_, rd_bad R, hQ⟩)
/-- fail. -/
theorem e113 (R : Rd h p o) (hQ : ∀ h', Fr p h h' → Rd h' p none → Q (.int .i64 0) h') : AC Try.prog 113 [.ptr (some ⟨p, 0⟩)] h Q := ac113 (by
  unfold vc113
  exact rd_fail R hQ)

set_option maxRecDepth 20000 in
/-- Bytes. -/
theorem e114 {n : Int} (R : Rd h p o) (hl : ∀ l, o = some l → l.length ≤ 100000) (hQ0 : tk n o = none → ∀ h', Fr p h h' → Rd h' p none → Q (.sl none) h')
    (hQ1 : ∀ a b, tk n o = some (a, b) → ∀ q h', Fr p h h' → HasL byE h' q a → (∀ s, q = some s → h.length ≤ s.b) → Rd h' p (some b) → Q (.sl q) h') : AC Try.prog 114 [.ptr (some ⟨p, 0⟩), .int .i64 n] h Q := ac114 (by
  unfold vc114
  refine e71 R ⟨_, rfl, ?_⟩
  cases o with
  | none =>
    refine vif_mk (fun _ => ?_) (fun g => by simp at g)
    exact e113 R fun h' F R' => ⟨_, rfl, hQ0 rfl h' F R'⟩
  | some l =>
    refine vif_mk (fun g => by simp at g) (fun _ => ?_)
    obtain ⟨q, c1, c2, c3⟩ := rd_buf R
    have c4 := c2.len
    refine vif_mk (fun g => ?_) (fun g => ?_)
    · replace g := of_decide_eq_true g
      exact e113 R fun h' F R' => ⟨_, rfl, hQ0 (by simp only [tk]; rw [if_neg (by omega)]) h' F R'⟩
    replace g := of_decide_eq_false g
    refine ⟨q, c1, vif_mk (fun g2 => ?_) (fun g2 => ?_)⟩
    · replace g2 := of_decide_eq_true g2
      exact e113 R fun h' F R' => ⟨_, rfl, hQ0 (by simp only [tk]; rw [if_neg (by omega)]) h' F R'⟩
    replace g2 := of_decide_eq_false g2
    refine ⟨q, c1, HasL.slice (E := byE) c2 (by omega) (by simp; omega) (by simp; omega) fun q19 H19 => ?_⟩
    have H19 : HasL byE h q19 (l.take n.toNat) := by simpa using H19
    have hll := hl l rfl
    refine e94 H19 (by have := List.length_take_le' n.toNat l; omega) fun q22 h21 hx H22 hq22 => ⟨q22, rfl, q, hx.cells c1, ?_⟩
    refine HasL.slice2 (E := byE) (c2.mono hx) (by omega) (by simp; omega) (by simp) fun q25 H25 hq25 => ?_
    have H25 : HasL byE h21 q25 (l.drop n.toNat) := by simpa using H25
    have hpl := R.live
    refine rd_cut (R.ext hx) H25 (fun s hs => by obtain ⟨s', a1, a2⟩ := hq25 s hs; rw [a2]; exact c3 s' a1) fun h27 F27 R27 => ?_
    refine hQ1 (l.take n.toNat) (l.drop n.toNat) (by simp only [tk]; rw [if_pos (by omega)]) q22 h27 ((Fr.ofExt hx).trans F27) (F27.keeps.hasL (fun s hs he => by have := hq22 s hs; have he : s.b = p := he; omega) H22) hq22 R27)

theorem beV_take {a : Bs} {i : Nat} {x : UInt8} (h : a[i]? = some x) : beV (a.take (i + 1)) = beV (a.take i) * 256 + x.toNat := by
  rw [List.take_add_one, h]; exact beV_snoc
theorem tk_some {n : Int} {a b : Bs} (h : tk n o = some (a, b)) : ∃ l, o = some l ∧ 0 ≤ n ∧ n ≤ l.length ∧ a = l.take n.toNat ∧ b = l.drop n.toNat := by
  cases o with
  | none => cases h
  | some l =>
    simp only [tk] at h
    split at h
    · rename_i hc
      simp only [Option.some.injEq, Prod.mk.injEq] at h
      exact ⟨l, rfl, hc.1, hc.2, h.1.symm, h.2.symm⟩
    · cases h

set_option maxRecDepth 20000 in
/-- Fixed. -/
theorem e110 {k : Int} (R : Rd h p o) (hl : ∀ l, o = some l → l.length ≤ 100000) (hQ : ∀ h', Fr p h h' → Rd h' p (stO (fx k o)) → Q (.int .i64 (valN (fx k o))) h') : AC Try.prog 110 [.ptr (some ⟨p, 0⟩), .int .i64 k] h Q := ac110 (by
  unfold vc110
  refine vif_mk (fun g => ?_) (fun g => ?_)
  · replace g := of_decide_eq_true g
    have e : fx k o = none := by unfold fx; rw [if_neg (by omega)]
    rw [e] at hQ
    exact e113 R fun h' F R' => ⟨_, rfl, hQ h' F R'⟩
  replace g := of_decide_eq_false g
  refine vif_mk (fun g2 => ?_) (fun g2 => ?_)
  · replace g2 := of_decide_eq_true g2
    have e : fx k o = none := by unfold fx; rw [if_neg (by omega)]
    rw [e] at hQ
    exact e113 R fun h' F R' => ⟨_, rfl, hQ h' F R'⟩
  replace g2 := of_decide_eq_false g2
  have efx : fx k o = match tk k o with | some (a, b) => if beV a < M63 then some (beV a, b) else none | none => none := by unfold fx; rw [if_pos (by omega)]
  refine e114 R hl (fun ht h10 F10 R10 => ⟨none, rfl, ?_⟩) (fun a b ht q11 h10 F10 H11 _ R10 => ⟨q11, rfl, ?_⟩)
  · rw [ht] at efx
    rw [efx] at hQ
    refine ⟨fun xs h16 => h16 = h10 ∧ ∃ n13 : Int, xs = [.int .u64 0, .int .i64 n13] ∧ 0 ≤ n13, fun _ _ => 0, ⟨rfl, 0, rfl, by omega⟩, ?_⟩
    rintro n12 n13 h16 ⟨rfl, n', hx, hn⟩
    simp only [List.cons.injEq, AV.int.injEq, true_and, and_true] at hx
    obtain ⟨rfl, rfl⟩ := hx
    refine vif_mk (fun g => ?_) (fun _ => ?_)
    · replace g := of_decide_eq_true g
      simp only [slLen] at g; omega
    · refine e71 R10 ⟨_, rfl, vif_mk (fun _ => ?_) (fun g => by simp at g)⟩
      exact e113 R10 fun h' F R' => ⟨_, rfl, hQ h' (F10.trans F) R'⟩
  · rw [ht] at efx
    simp only at efx
    obtain ⟨l, rfl, b1, b2, rfl, rfl⟩ := tk_some ht
    have hlen := H11.len
    generalize ha : l.take k.toNat = a at *
    have hal : a.length = k.toNat := by rw [← ha, List.length_take]; omega
    refine ⟨fun xs h16 => h16 = h10 ∧ ∃ i : Nat, xs = [.int .u64 ((beV (a.take i) : Nat) : Int), .int .i64 i] ∧ i ≤ a.length, fun xs _ => match xs with | [_, .int _ i] => (a.length - i).toNat | _ => 0, ⟨rfl, 0, rfl, by omega⟩, ?_⟩
    rintro n12 n13 h16 ⟨rfl, i', hx, hi⟩
    simp only [List.cons.injEq, AV.int.injEq, true_and, and_true] at hx
    obtain ⟨rfl, rfl⟩ := hx
    refine vif_mk (fun g => ?_) (fun g => ?_)
    · replace g := of_decide_eq_true g
      refine HasL.idx (E := byE) H11 (by omega) (by omega) fun pp x hx hc => ⟨((x.toNat : Nat) : Int), hc, ?_⟩
      have hx' : a[i']? = some x := by simpa using hx
      have hb : beV (a.take i') < 72057594037927936 := by
        have h1 := beV_lt (a.take i')
        have h2 : (a.take i').length ≤ 7 := by rw [List.length_take]; omega
        have h3 : 256 ^ (a.take i').length ≤ 256 ^ 7 := Nat.pow_le_pow_right (by omega) h2
        omega
      rw [or8 hb x.toNat_lt, ← beV_take hx', wrapK_i64 ⟨by omega, by omega⟩]
      exact ⟨trivial, ⟨rfl, i' + 1, by simp, by omega⟩, by simp only; omega⟩
    · replace g := of_decide_eq_false g
      have : i' = a.length := by omega
      subst this
      rw [List.take_length]
      refine e71 R10 ⟨_, rfl, vif_mk (fun g => by simp at g) (fun _ => ?_)⟩
      refine vif_mk (fun g3 => ?_) (fun g3 => ?_)
      · replace g3 := of_decide_eq_true g3
        rw [if_neg (by simp only [M63]; omega)] at efx
        rw [efx] at hQ
        exact e113 R10 fun h' F R' => ⟨_, rfl, hQ h' (F10.trans F) R'⟩
      · replace g3 := of_decide_eq_false g3
        rw [if_pos (by simp only [M63]; omega)] at efx
        rw [efx] at hQ
        rw [wrapK_i64 ⟨by omega, by omega⟩]
        exact hQ _ F10 R10)

/-- must. -/
theorem e111 {n : Int} {b : Bool} (R : Rd h p o) (hQ0 : (o = none ∨ b = false) → ∀ h', Fr p h h' → Rd h' p none → Q (.int .i64 0) h') (hQ1 : o ≠ none → b = true → Q (.int .i64 n) h) : AC Try.prog 111 [.ptr (some ⟨p, 0⟩), .int .i64 n, .bool b] h Q := ac111 (by
  unfold vc111
  refine e71 R ⟨_, rfl, vif_mk (fun g => ?_) (fun g => ?_)⟩
  · cases o with
    | none => exact e113 R fun h' F R' => ⟨_, rfl, hQ0 (.inl rfl) h' F R'⟩
    | some l => simp at g
  · cases o with
    | none => simp at g
    | some l =>
      refine vif_mk (fun g => ?_) (fun g => ?_)
      · exact e113 R fun h' F R' => ⟨_, rfl, hQ0 (.inr (by simpa using g)) h' F R'⟩
      · exact hQ1 (by simp) (by simpa using g))
set_option maxRecDepth 20000 in
/-- Size. -/
theorem e112 {n : Nat} (hn : n < M63) (h2 : 2288 ≤ n) (hQ : Q (.int .i64 ((1 + wid n : Nat) : Int)) h) : AC Try.prog 112 [.int .i64 n] h Q := ac112 (by
  have hw := wid_le hn
  unfold vc112
  refine vif_mk (fun g => ?_) (fun _ => ?_)
  · replace g := of_decide_eq_true g; omega
  refine vif_mk (fun g => ?_) (fun _ => ?_)
  · replace g := of_decide_eq_true g; omega
  refine vif_mk (fun g => ?_) (fun _ => ?_)
  · replace g := of_decide_eq_true g; omega
  refine t131 hn ⟨_, rfl, ?_⟩
  rw [wrapK_i64 ⟨by omega, by omega⟩]
  have e : (1 + ((wid n : Nat) : Int)) = ((1 + wid n : Nat) : Int) := by omega
  rw [e]; exact hQ)
end
end Go.Proofs.Ytceplmmmlindnaa

/- The disk: Read, Pending, keep. -/
namespace Go.Proofs.Ytceplmmmlindnaa
open Go.Ab
set_option linter.unusedVariables false
set_option linter.unusedSimpArgs false

/-- A sector's bytes. -/
def pad (s : Bs) : Bs := (List.range 64).map fun i => s.getD i 0
theorem pad_len {s : Bs} : (pad s).length = 64 := by simp [pad]
theorem pad_bytes {s : Bs} : byE.all (pad s) = secA s := by
  rw [byE_all]
  simp [byteAVs, pad, secA, secB, cel, List.map_map, Function.comp_def, List.getD_eq_getElem?_getD]
theorem pad_self {s : Bs} (h : s.length = 64) : pad s = s := by
  refine List.ext_getElem? fun i => ?_
  rcases Nat.lt_or_ge i 64 with hi | hi
  · rw [pad, List.getElem?_map, List.getElem?_range hi, List.getElem?_eq_getElem (by omega)]
    simp [List.getD_eq_getElem?_getD, List.getElem?_eq_getElem (by omega : i < s.length)]
  · rw [List.getElem?_eq_none (by rw [pad_len]; omega), List.getElem?_eq_none (by omega)]

section
variable {h h' : Heap} {ow ow' : Roles} {p m : Nat} {qp : Option SL} {es : Ents} {cl : Nat} {D : DS} {f f' : FA} {Q : AV → Heap → Prop}

/-- Read -/
theorem d41 (R : DiskR h ow p D) {s : Bs} {n : Int} (h0 : ∀ v, (D.off = true → v = 50) → (D.off = false → v = 4) → (D.off = false → ∀ f, D.find s = some f → ¬ (0 ≤ n ∧ n < f.now.length)) → Q (.tup [.sl none, .int .i64 v]) h)
    (h1 : ∀ f x q h', D.off = false → D.find s = some f → 0 ≤ n → f.now[n.toNat]? = some x → Ext h h' → HasL byE h' q (pad x) → (∀ s, q = some s → h.length ≤ s.b) → Q (.tup [.sl q, .int .i64 0]) h') : AC Try.prog 41 [.ptr (some ⟨p, 0⟩), .str s, .int .i64 n] h Q := ac41 (by
  unfold vc41
  refine d90 R (fun ho => ⟨_, _, rfl, ?_⟩) (fun ho hn => ⟨_, _, rfl, ?_⟩) fun f ho hfd hf hfn => ⟨_, _, rfl, ?_⟩
  · exact h0 50 (fun _ => rfl) (fun h => by rw [ho] at h; cases h) (fun h => by rw [ho] at h; cases h)
  · exact h0 4 (fun h => by rw [ho] at h; cases h) (fun _ => rfl) (fun _ f hf => by rw [hn] at hf; cases hf)
  obtain ⟨m, qp, es, cl, C⟩ := R
  obtain ⟨qn, qs, c0, c1, c2, c, a1, a2, r1, r2⟩ := (C.file f hf).at
  have bad : ¬ (0 ≤ n ∧ n < f.now.length) → Q (.tup [.sl none, .int .i64 4]) h := fun hb => h0 4 (fun h => by rw [ho] at h; cases h) (fun _ => rfl) (fun _ g hg => by rw [hfd] at hg; cases hg; exact hb)
  show vif (decide (n < 0)) _ _
  refine vif_mk (fun g => ?_) (fun g => ?_)
  · replace g := of_decide_eq_true g
    exact bad (by omega)
  replace g := of_decide_eq_false g
  have hlen := a1.hasL.len
  refine ⟨qn, c1, vif_mk (fun g2 => ?_) (fun g2 => ?_)⟩
  · replace g2 := of_decide_eq_true g2
    exact bad (by omega)
  replace g2 := of_decide_eq_false g2
  refine ⟨qn, c1, AppJ.idx (E := secE) a1 (by omega) (by omega) fun pp x hx hc hpp => ?_⟩
  have H : HasL byE h (some ⟨pp.b, pp.o, 64, 64, 0⟩) (pad x) := by
    refine ⟨pad_len.symm, Nat.le_refl _, .inl rfl, ?_⟩
    rw [pad_bytes, pad_len]; exact hc
  refine HasL.slice (E := byE) H (by omega) (by simp [pad_len]) (by simp) fun q13 H13 => ?_
  have H13 : HasL byE h q13 (pad x) := by
    have e : ((pad x).take ((Option.getD none ((pad x).length : Int))).toNat).drop (0 : Int).toNat = pad x := by simp
    rw [e] at H13; exact H13
  refine e94 H13 (by rw [pad_len]; omega) fun q14 h15 hx15 H15 hq15 => ⟨q14, rfl, ?_⟩
  exact h1 f x q14 h15 ho hfd (by omega) hx hx15 H15 hq15)

/-- Pending -/
def DS.nameOf (D : DS) (b : Nat) : Bs := match D.files.find? (fun f => f.b == b) with | some f => f.name | none => []
def DS.pendL (D : DS) : List (Bs × Nat) := D.pends.map fun x => (D.nameOf x.1, x.2.1)
theorem nameOf_of (hn : (D.files.map (·.b)).Nodup) (hf : f ∈ D.files) : D.nameOf f.b = f.name := by
  have : (D.files.find? (fun g => g.b == f.b)).isSome := by
    rw [List.find?_isSome]; exact ⟨f, hf, by simp⟩
  obtain ⟨g, hg⟩ := Option.isSome_iff_exists.1 this
  have h1 := List.mem_of_find?_eq_some hg
  have h2 : g.b = f.b := by simpa using List.find?_some hg
  rw [DS.nameOf, hg, uniq_b hn h1 hf h2]
theorem d47 (R : DiskR h ow p D) (hpl : D.pends.length ≤ 1000000) (hQ : ∀ q h', New lisE h h' q D.pendL → Q (.sl q) h') : AC Try.prog 47 [.ptr (some ⟨p, 0⟩)] h Q := ac47 (by
  unfold vc47 PNew
  refine d86 R ⟨_, rfl, vif_mk (fun g => by cases g) (fun _ => ?_)⟩
  obtain ⟨m, qp, es, cl, C⟩ := R
  refine ⟨qp, C.at (k := 1) rfl, ?_⟩
  have hlen := C.pnd.hasL.len
  refine ⟨fun xs h11 => ∃ (q7 : Option SL) (i : Nat), xs = [.sl q7, .int .i64 i] ∧ i ≤ D.pends.length ∧ New lisE h h11 q7 (D.pendL.take i), fun xs _ => match xs with | [_, .int _ i] => (D.pends.length - i).toNat | _ => 0, ⟨none, 0, rfl, by omega, by simpa using New.none⟩, ?_⟩
  rintro q7 n8 h11 ⟨q7', i, hx, hi, N⟩
  simp only [List.cons.injEq, AV.int.injEq, AV.sl.injEq, true_and, and_true] at hx
  obtain ⟨rfl, rfl⟩ := hx
  refine vif_mk (fun g => ?_) (fun g => ?_)
  · replace g := of_decide_eq_true g
    have C11 : DiskC h11 ow p m qp es cl D := C.ext (keeps_of_ext N.1) N.1.len
    refine AppJ.idx (E := pendE) C11.pnd (by omega) (by omega) fun pp x hx hc hpp => ⟨some ⟨x.1, 0⟩, ((x.2.1 : Nat) : Int), exC_mk (b := secB x.2.2) ⟨hc, ?_⟩⟩
    have hx' : D.pends[i]? = some x := by simpa using hx
    obtain ⟨f, hf, h1, h2⟩ := C.pfile x (List.mem_of_getElem? hx')
    obtain ⟨qn, qs, c0, c1, c2, c, a1, a2, r1, r2⟩ := (C11.file f hf).at
    rw [← h1]
    refine ⟨f.name, c0, ?_⟩
    refine New.append (E := lisE) (m := [(f.name, x.2.1)]) (N.ext (Ext.app _ _)) (HasL.new (E := lisE) (l := [(f.name, x.2.1)]) (n := 1) rfl rfl) (by simp; omega) fun q20 h21 N2 => ?_
    rw [wrapK_i64 ⟨by omega, by omega⟩]
    refine ⟨trivial, ⟨q20, i + 1, by simp, by omega, ?_⟩, by simp only; omega⟩
    have : D.pendL.take (i + 1) = D.pendL.take i ++ [(f.name, x.2.1)] := by
      rw [List.take_add_one]
      simp only [DS.pendL, List.getElem?_map, hx', Option.map_some, Option.toList_some]
      rw [← h1, nameOf_of C.blocks hf]
    rw [this]; exact N2
  · replace g := of_decide_eq_false g
    have hi' : i = D.pends.length := by omega
    subst hi'
    rw [List.take_of_length_le (by simp [DS.pendL])] at N
    exact hQ _ _ N)

/-- A file's sectors as kept are others. -/
theorem DiskC.setSafe (C : DiskC h ow p m qp es cl D) (hf : f ∈ D.files) {h1 : Heap} {qn qs q' : Option SL} (hc : h[f.b]? = some (.cells [.str f.name, .sl qn, .sl qs] true)) (a1 : AppJ secE h qn f.now) (r1 : ∀ s, qn = some s → ow s.b = some (.now f.b))
    {safe' : List Bs} (A : AppJ secE h1 q' safe') (K : Keeps (fun b => ow b = some (.safe f.b)) h h1) (hl : h.length ≤ h1.length) (hq : ∀ s, q' = some s → h.length ≤ s.b ∨ ow s.b = some (.safe f.b))
    (hs : safe'.length ≤ f.now.length) {B : Blk} (hB : B = .cells [.str f.name, .sl qn, .sl q'] true) :
    DiskC (h1.set f.b B) (setOw ow q' (.safe f.b)) p m qp es cl { D with files := upF D.files { f with safe := safe' } } ∧ DStep ow h (setOw ow q' (.safe f.b)) (h1.set f.b B) := by
  have ho := setOw_keep (r := .safe f.b) C.live hq
  have hfr := (C.file f hf).role
  have hfl := C.live f.b (by simp [hfr])
  have hqf : ∀ s, q' = some s → s.b ≠ f.b := by
    intro s hs he
    rcases hq s hs with h | h
    · omega
    · rw [he, hfr] at h; cases h
  have K2 : Keeps (fun b => b = f.b ∨ ow b = some (.safe f.b)) h (h1.set f.b B) := by
    intro b X hb hX
    rw [List.getElem?_set, if_neg (fun e => hb (.inl e.symm))]
    exact K _ _ (fun h => hb (.inr h)) hX
  refine C.upFile (f' := { f with safe := safe' }) hf rfl rfl ?_ (fun b X hb hX => K2 _ _ (fun hx => hb (hx.imp id .inr)) hX) (by simpa using hl) ho (fun b hb => ?_) (fun b hb => setOw_some hq b hb) (fun x hx hxb => by
      obtain ⟨g, hg, h1, h2⟩ := C.pfile x hx
      have := uniq_b C.blocks hg hf (by rw [h1, hxb])
      subst this
      exact h2) hs ?_
  · refine ⟨ho _ _ hfr, qn, q', ?_, ?_, ?_, fun s hs => ho _ _ (r1 s hs), setOw_self⟩
    · show (h1.set f.b B)[f.b]? = _
      rw [List.getElem?_set_self (by omega), hB]
    · refine a1.keeps K2 (fun s hs hx => ?_)
      have := r1 s hs
      rcases hx with hx | hx
      · rw [hx, hfr] at this; cases this
      · rw [this] at hx; cases hx
    · exact A.keeps (X := fun b => b = f.b) (keeps_set rfl) (fun s hs => hqf s hs)
  · rw [List.length_set]
    rcases setOw_some hq b hb with h | h
    · exact Nat.lt_of_lt_of_le (C.live b h) hl
    · have : ∃ s, q' = some s ∧ b = s.b := by
        unfold setOw at hb
        cases q' with
        | none => have := C.live b hb; omega
        | some s =>
          simp only at hb
          split at hb
          · rename_i he; exact ⟨s, rfl, he⟩
          · have := C.live b hb; omega
      obtain ⟨s, hs, rfl⟩ := this
      exact A.live s hs
  · have := upF_same (fs := D.files) (f := f) (f' := { f with safe := safe' }) (·.now.length) C.blocks hf rfl rfl
    rw [this]; exact C.used

/-- The first so many bytes of a sector over another one's. -/
def mixS (s r : Bs) (n : Nat) : Bs := (List.range 64).map fun i => if i < n then s.getD i 0 else r.getD i 0
theorem mix_cells {s r : Bs} {n : Nat} (hn : n ≤ 64) : secE.f (mixS s r n) = splice (secE.f r) 0 ((secA s).take n) := by
  refine List.ext_getElem? fun i => ?_
  have hlen : ((secA s).take n).length = n := by rw [List.length_take, cel_len]; omega
  show (secA (mixS s r n))[i]? = _
  rw [splice_get (by rw [hlen]; show 0 + n ≤ (secA r).length; rw [cel_len]; omega), hlen, if_neg (by omega), Nat.zero_add, Nat.sub_zero]
  have hget : ∀ t : Bs, (secA t)[i]? = if i < 64 then some (.int .u8 ((t.getD i 0).toNat : Nat)) else none := by
    intro t
    simp only [secA, cel, List.getElem?_map]
    split
    · rename_i hi; rw [List.getElem?_range hi]; rfl
    · rename_i hi; rw [List.getElem?_eq_none (by simp; omega)]; rfl
  rw [hget]
  have hg : i < 64 → (mixS s r n).getD i 0 = if i < n then s.getD i 0 else r.getD i 0 := by
    intro hi
    rw [mixS, List.getD_eq_getElem?_getD, List.getElem?_map, List.getElem?_range hi]; rfl
  by_cases h1 : i < n
  · rw [if_pos h1, if_pos (by omega), List.getElem?_take, if_pos h1, hget, if_pos (by omega), hg (by omega), if_pos h1]
  · rw [if_neg h1]
    show _ = (secA r)[i]?
    rw [hget]
    split
    · rename_i hi; rw [hg hi, if_neg h1]
    · rfl
/-- keep -/
def padTo (l : List Bs) (n : Nat) : List Bs := l ++ List.replicate (n - l.length) []
def keepF (f : FA) (i : Nat) (s : Bs) (n : Int) : FA :=
  if n < 1 then f else { f with safe := (padTo f.safe (i + 1)).set i (mixS s ((padTo f.safe (i + 1)).getD i []) (min n 64).toNat) }
theorem minI_eq {a b : Int} : minI a b = min a b := by
  unfold minI; split <;> omega
theorem upF_self {fs : List FA} (hn : (fs.map (·.b)).Nodup) (hf : f ∈ fs) : upF fs f = fs := by
  unfold upF
  conv => rhs; rw [← List.map_id fs]
  apply List.map_congr_left
  intro g hg
  split
  · rename_i h; rw [uniq_b hn hg hf h]; rfl
  · rfl
end
end Go.Proofs.Ytceplmmmlindnaa

/- The disk: a pending write is kept. -/
namespace Go.Proofs.Ytceplmmmlindnaa
open Go.Ab
set_option linter.unusedVariables false
set_option linter.unusedSimpArgs false

section
variable {h h' : Heap} {ow ow' : Roles} {p m : Nat} {qp : Option SL} {es : Ents} {cl : Nat} {D : DS} {f f' : FA} {Q : AV → Heap → Prop}

theorem upF_in {fs : List FA} {f f' : FA} (hf : f ∈ fs) (hb : f'.b = f.b) : f' ∈ upF fs f' := List.mem_map.2 ⟨f, hf, by rw [if_pos hb.symm]⟩

/-- What a new one holds, of sectors beyond the end: none. -/
theorem padTo_get {l : List Bs} {n i : Nat} (h : l.length ≤ i) : (padTo l n).getD i [] = [] := by
  rw [List.getD_eq_getElem?_getD, padTo, List.getElem?_append_right h, List.getElem?_replicate]
  split <;> rfl
theorem padTo_len {l : List Bs} {n : Nat} : (padTo l n).length = max l.length n := by simp [padTo]; omega
theorem padTo_id {l : List Bs} {n : Nat} (h : n ≤ l.length) : padTo l n = l := by simp [padTo, Nat.sub_eq_zero_of_le h]
theorem padTo_padTo {l : List Bs} {i j : Nat} (h : i ≤ j) : padTo (padTo l i) j = padTo l j := by
  simp only [padTo, List.length_append, List.length_replicate, List.append_assoc, List.replicate_append_replicate]
  congr 2
  omega

def safeLen (h : Heap) (b : Nat) : Nat := match cellsAt h ⟨b, 0 + 2⟩ 1 with | some [.sl q] => slLen q | _ => 0

set_option maxRecDepth 20000 in
theorem d92 (C : DiskC h ow p m qp es cl D) (hf : f ∈ D.files) {i : Nat} (hi : i < f.now.length) {s : Bs} {n : Int}
    (hQ : ∀ h' ow', DiskC h' ow' p m qp es cl { D with files := upF D.files (keepF f i s n) } → DStep ow h ow' h' → Q (.tup []) h') :
    AC Try.prog 92 [.agg ([.ptr (some ⟨f.b, 0⟩), .int .i64 (i : Nat)] ++ cel .u8 64 (secB s)), .int .i64 n] h Q := ac92 (by
  unfold vc92 PNew
  generalize hcs : [AV.ptr (some ⟨f.b, 0⟩), .int .i64 (i : Nat)] ++ cel .u8 64 (secB s) = cs
  have hclen : cs.length = 66 := by rw [← hcs]; simp [cel_len]
  have hx6 : Ext h (h ++ [Blk.cells cs true]) := .app _ _
  have C6 := C.ext (keeps_of_ext hx6) hx6.len
  have S6 : DStep ow h ow (h ++ [Blk.cells cs true]) := .ext hx6
  have ha : (h ++ [Blk.cells cs true])[h.length]? = some (.cells cs true) := by simp
  have hoa : ow h.length = none := by
    cases ho : ow h.length with
    | none => rfl
    | some r => have := C.live h.length (by simp [ho]); omega
  generalize hh6 : h ++ [Blk.cells cs true] = h6 at *
  rw [minI_eq]
  refine vif_mk (fun g => ?_) (fun g => ?_)
  · replace g := of_decide_eq_true g
    have : keepF f i s n = f := by unfold keepF; rw [if_pos (by omega)]
    rw [this, upF_self C.blocks hf] at hQ
    exact hQ _ _ C6 S6
  replace g := of_decide_eq_false g
  have hfr := (C.file f hf).role
  -- the state at a round's head
  let St : Heap → Roles → Nat → Prop := fun h9 ow9 j => DiskC h9 ow9 p m qp es cl { D with files := upF D.files { f with safe := padTo f.safe j } } ∧ DStep ow h6 ow9 h9 ∧ j ≤ i + 1
  have hsl := C.safe f hf
  have rd : ∀ {h9 : Heap} {ow9 : Roles} {j : Nat}, St h9 ow9 j → ∃ qn qs, cellsAt h9 ⟨f.b, 0 + 2⟩ 1 = some [.sl qs] ∧ h9[f.b]? = some (.cells [.str f.name, .sl qn, .sl qs] true) ∧ AppJ secE h9 qn f.now ∧ AppJ secE h9 qs (padTo f.safe j) ∧ (∀ s, qn = some s → ow9 s.b = some (.now f.b)) ∧ (∀ s, qs = some s → ow9 s.b = some (.safe f.b)) ∧ ow9 f.b = some .file := by
    rintro h9 ow9 j ⟨C9, _, _⟩
    have F := C9.file { f with safe := padTo f.safe j } (upF_in hf rfl)
    obtain ⟨qn, qs, c0, c1, c2, c, a1, a2, r1, r2⟩ := F.at
    exact ⟨qn, qs, c2, c, a1, a2, r1, r2, F.role⟩
  have box : ∀ {h9 : Heap} {ow9 : Roles}, DStep ow h6 ow9 h9 → h9[h.length]? = some (.cells cs true) := fun S => S.keeps _ _ (by simp [hoa]) ha
  have b0 : ∀ {h9 : Heap}, h9[h.length]? = some (.cells cs true) → cellsAt h9 ⟨h.length, 0⟩ 1 = some [.ptr (some ⟨f.b, 0⟩)] := fun hb => by
    rw [cellsAt_mk (p := ⟨h.length, 0⟩) hb (by rw [hclen]; show 0 + 1 ≤ 66; omega), ← hcs]; rfl
  have b1 : ∀ {h9 : Heap}, h9[h.length]? = some (.cells cs true) → cellsAt h9 ⟨h.length, 1⟩ 1 = some [.int .i64 (i : Nat)] := fun hb => by
    rw [cellsAt_mk (p := ⟨h.length, 1⟩) hb (by rw [hclen]; show 1 + 1 ≤ 66; omega), ← hcs]; rfl
  have hl6 : h.length < h6.length := by rw [← hh6]; simp
  have e0 : upF D.files { f with safe := padTo f.safe 0 } = D.files := by rw [padTo_id (by omega)]; exact upF_self C.blocks hf
  refine ⟨fun xs h9 => xs = [] ∧ ∃ ow9 j, St h9 ow9 j, fun _ h9 => i + 1 - safeLen h9 f.b, ⟨rfl, ow, 0, by show DiskC h6 ow p m qp es cl { D with files := upF D.files { f with safe := padTo f.safe 0 } }; rw [e0]; exact C6, .refl _ _, by omega⟩, ?_⟩
  rintro h9 ⟨_, ow9, j, S9⟩
  obtain ⟨qn, qs, c2, c, a1, a2, r1, r2, fr9⟩ := rd S9
  have hb9 := box S9.2.1
  have hlq := a2.hasL.len
  refine ⟨_, b0 hb9, qs, c2, _, b1 hb9, vif_mk (fun g2 => ?_) (fun g2 => ?_)⟩
  · replace g2 := of_decide_eq_true g2
    have hx19 : Ext h9 (h9 ++ [Blk.cells (List.replicate 64 (AV.int .u8 0)) true]) := .app _ _
    refine ⟨_, b0 hb9, _, b0 hb9, qs, c2, ?_⟩
    refine ⟨⟨qs, hx19.cells c2, rfl⟩, ⟨_, hx19.cells (b0 hb9), rfl⟩, ⟨_, hx19.cells (b0 hb9), rfl⟩, ?_⟩
    have hpl : (padTo f.safe j).length ≤ i := by omega
    have hul : f.now.length ≤ 16384 := by
      have hsum := upF_sum (fs := D.files) (f := f) (f' := { f with now := [] }) (·.now.length) C.blocks hf rfl
      have := C.used
      simp only [List.length_nil] at hsum; omega
    refine AppJ.append (E := secE) (m := [([] : Bs)]) (a2.ext hx19) (HasL.new (E := secE) (l := [([] : Bs)]) (n := 1) rfl (by simp [Enc.all, secE, ← secA_zero])) (by simp; omega) fun q20 h21 A21 K21 hl21 hq21 => ?_
    simp only [List.length_append, List.length_cons, List.length_nil] at hl21 hq21
    have K21' : Keeps (fun b => ow9 b = some (.safe f.b)) h9 h21 := by
      intro b X hb hX
      exact K21 _ _ (fun ⟨s', h1, h2⟩ => hb (by rw [← h2]; exact r2 s' h1)) (hx19 _ _ hX)
    have how9 : ow9 h.length = none := by
      cases ho : ow9 h.length with
      | none => rfl
      | some r =>
        rcases S9.2.1.own h.length (by simp [ho]) with h1 | h1
        · exact (h1 hoa).elim
        · omega
    have hb21 : h21[h.length]? = some (.cells cs true) := K21' _ _ (by simp [how9]) hb9
    have hcf : h21[f.b]? = some (.cells [.str f.name, .sl qn, .sl qs] true) := K21' _ _ (by simp [fr9]) c
    refine ⟨⟨_, b0 hb21, rfl⟩, ?_⟩
    refine store6v hcf (by simp) ?_
    obtain ⟨C23, S23⟩ := S9.1.setSafe (f := { f with safe := padTo f.safe j }) (upF_in hf rfl) (q' := q20) (safe' := padTo f.safe j ++ [[]]) c a1 r1 A21 K21' (by omega) (fun s' hs' => by
      rcases hq21 s' hs' with h | ⟨s2, h1, h2⟩
      · left; omega
      · right; rw [← h2]; exact r2 s2 h1) (by simp; omega) (B := .cells (splice [.str f.name, .sl qn, .sl qs] (0 + 2) [.sl q20]) true) rfl
    have e1 : padTo f.safe j ++ [[]] = padTo f.safe ((padTo f.safe j).length + 1) := by
      rw [padTo_len]
      rcases Nat.le_total j f.safe.length with hj | hj
      · rw [padTo_id hj, Nat.max_eq_left hj]; simp [padTo]
      · rw [Nat.max_eq_right hj]
        simp only [padTo, List.append_assoc]
        congr 1
        rw [← List.replicate_succ']; congr 1; omega
    have e2 : upF (upF D.files { f with safe := padTo f.safe j }) { f with safe := padTo f.safe j ++ [[]] } = upF D.files { f with safe := padTo f.safe ((padTo f.safe j).length + 1) } := by
      rw [← e1]; exact upF_upF (f1 := { f with safe := padTo f.safe j }) rfl
    have C23' : DiskC (h21.set f.b (.cells (splice [.str f.name, .sl qn, .sl qs] (0 + 2) [.sl q20]) true)) (setOw ow9 q20 (.safe f.b)) p m qp es cl { D with files := upF D.files { f with safe := padTo f.safe ((padTo f.safe j).length + 1) } } := by
      rw [← e2]; exact C23
    have hm9 : safeLen h9 f.b = (padTo f.safe j).length := by unfold safeLen; rw [c2]; exact hlq
    have hm23 : safeLen (h21.set f.b (.cells (splice [.str f.name, .sl qn, .sl qs] (0 + 2) [.sl q20]) true)) f.b = (padTo f.safe j).length + 1 := by
      have hb : (h21.set f.b (Blk.cells (splice [.str f.name, .sl qn, .sl qs] (0 + 2) [.sl q20]) true))[f.b]? = some (.cells [.str f.name, .sl qn, .sl q20] true) := by
        rw [List.getElem?_set_self (lt_of_get hcf)]; rfl
      unfold safeLen
      rw [cells6 hb (by simp)]
      show slLen q20 = _
      have := A21.hasL.len
      simpa using this
    refine ⟨trivial, ⟨rfl, _, (padTo f.safe j).length + 1, C23', S9.2.1.trans S23, by omega⟩, ?_⟩
    show i + 1 - _ < i + 1 - _
    rw [hm9, hm23]; omega
  · replace g2 := of_decide_eq_false g2
    have hpl : i < (padTo f.safe j).length := by omega
    have hpe : padTo f.safe j = padTo f.safe (i + 1) := by
      have := S9.2.2
      have h1 : padTo (padTo f.safe j) (i + 1) = padTo f.safe j := padTo_id (by omega)
      rw [← h1, padTo_padTo (by omega)]
    refine ⟨_, b0 hb9, qs, c2, _, b1 hb9, ?_⟩
    refine AppJ.idx (E := secE) a2 (by omega) (by omega) fun pp r hr hc hpp => ?_
    have hr' : (padTo f.safe j)[i]? = some r := by simpa using hr
    have hn1 : 1 ≤ min n 64 := by omega
    have hn64 : (min n 64).toNat ≤ 64 := by omega
    refine ⟨.inl rfl, by omega, by simp; omega, by simp; omega, by simp, ?_⟩
    refine ⟨.inl rfl, by omega, by simp; omega, by simp; omega, by simp, ?_⟩
    simp only [Option.getD_some, Option.getD_none, Int.sub_zero, Int.toNat_zero, Nat.zero_mul, Nat.add_zero]
    have hk : ((min n 64).toNat) = (min n 64).toNat := rfl
    generalize hkk : (min n 64).toNat = k at *
    have hk1 : 1 ≤ k := by omega
    refine ⟨(secA s).take k, ?_, ?_⟩
    · simp only [slLen, Nat.min_self, Nat.mul_one, slCells]
      rw [cellsAt_mk (p := ⟨h.length, 2⟩) hb9 (by rw [hclen]; simp only; omega), ← hcs]
      rfl
    · refine ⟨by simp only [slLen, Nat.min_self, List.length_take, cel_len]; omega, by simp only [slLen]; omega, ?_⟩
      refine AppJ.store (E := secE) (k := 0) (r' := mixS s r k) (i := i) (r := r) a2 hr' (by show 0 + ((secA s).take k).length ≤ 64; rw [List.length_take, cel_len]; omega) (mix_cells hn64) (fun s' hs' => by rw [hpp s' hs']; simp) fun h36 A36 K36 hl36 => ?_
      have K36' : Keeps (fun b => ow9 b = some (.safe f.b)) h9 h36 := by
        intro b X hb hX
        exact K36 _ _ (fun ⟨s', h1, h2⟩ => hb (by rw [← h2]; exact r2 s' h1)) hX
      have C9 := S9.1
      have hlen9 : (padTo f.safe j).length ≤ f.now.length := C9.safe { f with safe := padTo f.safe j } (upF_in hf rfl)
      obtain ⟨C37, S37⟩ := C9.upFile (f := { f with safe := padTo f.safe j }) (f' := { f with safe := (padTo f.safe j).set i (mixS s r k) }) (upF_in hf rfl) rfl rfl
        ⟨fr9, qn, qs, K36' _ _ (by simp [fr9]) c, a1.keeps K36' (fun s' hs' => by simp [r1 s' hs']), A36, r1, r2⟩
        (fun b X hb hX => K36' _ _ (fun hx => hb (.inr (.inr hx))) hX) (by omega) (fun _ _ h => h) (fun b hb => by rw [hl36]; exact C9.live b hb) (fun b hb => .inl hb) (fun x hx hxb => by
          obtain ⟨g0, hg, h1, h2⟩ := C9.pfile x hx
          have := uniq_b C9.blocks hg (upF_in hf (f' := { f with safe := padTo f.safe j }) rfl) (by rw [h1]; exact hxb)
          subst this
          exact h2) (by simp; omega) (by
          have e0 : upF (upF D.files { f with safe := padTo f.safe j }) { f with safe := (padTo f.safe j).set i (mixS s r k) } = upF D.files { f with safe := (padTo f.safe j).set i (mixS s r k) } := upF_upF (f1 := { f with safe := padTo f.safe j }) rfl
          show ((upF (upF D.files { f with safe := padTo f.safe j }) { f with safe := (padTo f.safe j).set i (mixS s r k) }).map (·.now.length)).sum ≤ _
          have e4 := upF_same (fs := D.files) (f := f) (f' := { f with safe := (padTo f.safe j).set i (mixS s r k) }) (·.now.length) C.blocks hf rfl rfl
          rw [e0, e4]; exact C.used)
      have e3 : upF (upF D.files { f with safe := padTo f.safe j }) { f with safe := (padTo f.safe j).set i (mixS s r k) } = upF D.files (keepF f i s n) := by
        have : keepF f i s n = { f with safe := (padTo f.safe j).set i (mixS s r k) } := by
          unfold keepF
          rw [if_neg (by omega), ← hpe, hkk]
          congr 2
          rw [List.getD_eq_getElem?_getD, hr']; rfl
        rw [this]; exact upF_upF (f1 := { f with safe := padTo f.safe j }) rfl
      have C37' : DiskC h36 ow9 p m qp es cl { D with files := upF D.files (keepF f i s n) } := by rw [← e3]; exact C37
      exact hQ _ _ C37' (S6.trans (S9.2.1.trans S37)))
end
end Go.Proofs.Ytceplmmmlindnaa

/- The disk: what is pending of a file is there no more; Sync. -/
namespace Go.Proofs.Ytceplmmmlindnaa
open Go.Ab
set_option linter.unusedVariables false
set_option linter.unusedSimpArgs false

theorem aEq_ptr {P : Program} {t e : TypeId} (hu : P.underlying t = some (.pointer e)) (hz : 0 < tsz P e) {h : Heap} {x b : Nat} {K : Bool → Prop} (hx : ∃ c, h[x]? = some (.cells c true)) (hb : ∃ c, h[b]? = some (.cells c true))
    (hK : K (decide (x = b))) : aEq P t h (.ptr (some ⟨x, 0⟩)) (.ptr (some ⟨b, 0⟩)) K := by
  unfold aEq
  rw [hu]
  refine need_mk (by simpa using hz) ?_
  unfold Go.Ab.ptrEq
  by_cases he : x = b
  · subst he; simpa using hK
  · rw [if_neg he]
    obtain ⟨c, hc⟩ := hx
    obtain ⟨c2, hc2⟩ := hb
    rw [decide_eq_false he] at hK
    simp only [hc, hc2]
    exact hK

set_option maxRecDepth 20000 in
theorem file_eq {h : Heap} {x b : Nat} {K : Bool → Prop} (hx : ∃ c, h[x]? = some (.cells c true)) (hb : ∃ c, h[b]? = some (.cells c true))
    (hK : K (decide (x = b))) : aEq Try.prog 136 h (.ptr (some ⟨x, 0⟩)) (.ptr (some ⟨b, 0⟩)) K := by
  have hz : tsz Try.prog 139 = 3 := by kernel_rfl
  exact aEq_ptr (e := 139) Try.underlying136 (by rw [hz]; omega) hx hb hK

section
variable {h h' : Heap} {ow ow' : Roles} {p m : Nat} {qp : Option SL} {es : Ents} {cl : Nat} {D : DS} {f f' : FA} {Q : AV → Heap → Prop} {q : Option SL} {l : List PD} {a b : Nat}

set_option maxRecDepth 20000 in
theorem d124 {x : PD} (hb : h[a]? = some (.cells [.ptr (some ⟨b, 0⟩)] true)) (hx : ∃ c, h[x.1]? = some (.cells c true)) (hf : ∃ c, h[b]? = some (.cells c true)) (hQ : Q (.bool (decide (x.1 = b))) h) :
    AC Try.prog 124 [.agg ([.ptr (some ⟨x.1, 0⟩), .int .i64 (x.2.1 : Nat)] ++ cel .u8 64 (secB x.2.2)), .ptr (some ⟨a, 0⟩)] h Q := ac124 (by
  unfold vc124
  refine ⟨some ⟨b, 0⟩, by rw [cellsAt_mk (p := ⟨a, 0⟩) hb (by simp)]; rfl, ?_⟩
  exact file_eq hx hf hQ)

theorem d136 (A : AppJ pendE h q l) (hl : l.length ≤ 1000000) (hb : h[a]? = some (.cells [.ptr (some ⟨b, 0⟩)] true)) (hx : ∀ x ∈ l, ∃ c, h[x.1]? = some (.cells c true)) (hf : ∃ c, h[b]? = some (.cells c true))
    (hQ0 : (∀ x ∈ l, x.1 ≠ b) → Q (.int .i64 (-1)) h) (hQ1 : ∀ k x, l[k]? = some x → x.1 = b → (∀ y ∈ l.take k, y.1 ≠ b) → Q (.int .i64 (k : Nat)) h) : AC Try.prog 136 [.sl q, .func (.func 124) [] [.ptr (some ⟨a, 0⟩)]] h Q := ac136 (by
  unfold vc136
  have hlen := A.hasL.len
  refine ⟨fun xs h6 => h6 = h ∧ ∃ i : Nat, xs = [.int .i64 i] ∧ i ≤ l.length ∧ ∀ y ∈ l.take i, y.1 ≠ b, fun xs _ => match xs with | [.int _ i] => (l.length - i).toNat | _ => 0, ⟨rfl, 0, rfl, by omega, by simp⟩, ?_⟩
  rintro n3 h6 ⟨rfl, i, hxs, hi, hn⟩
  simp only [List.cons.injEq, AV.int.injEq, true_and, and_true] at hxs
  subst hxs
  refine vif_mk (fun g => ?_) (fun g => ?_)
  · replace g := of_decide_eq_true g
    refine AppJ.idx (E := pendE) A (by omega) (by omega) fun pp x hx0 hc hpp => ⟨some ⟨x.1, 0⟩, ((x.2.1 : Nat) : Int), exC_mk (b := secB x.2.2) ⟨hc, ?_⟩⟩
    have hx' : l[i]? = some x := by simpa using hx0
    refine d124 hb (hx x (List.mem_of_getElem? hx')) hf ⟨_, rfl, vif_mk (fun g2 => ?_) (fun g2 => ?_)⟩
    · exact hQ1 i x hx' (of_decide_eq_true g2) hn
    · replace g2 := of_decide_eq_false g2
      rw [wrapK_i64 ⟨by omega, by omega⟩]
      refine ⟨trivial, ⟨rfl, i + 1, by simp, by omega, ?_⟩, by simp only; omega⟩
      intro y hy
      rw [List.take_add_one, hx'] at hy
      rcases List.mem_append.1 hy with hy | hy
      · exact hn y hy
      · simp at hy; subst hy; exact g2
  · replace g := of_decide_eq_false g
    have : i = l.length := by omega
    subst this
    rw [List.take_length] at hn
    exact hQ0 hn)

def notB (b : Nat) (x : PD) : Bool := !(x.1 == b)
theorem filter_all {l : List PD} (h : ∀ x ∈ l, x.1 ≠ b) : l.filter (notB b) = l := List.filter_eq_self.2 fun x hx => by simp [notB, h x hx]

set_option maxRecDepth 20000 in
theorem d123 (A : AppJ pendE h q l) (hl : l.length ≤ 1000000) (hb : h[a]? = some (.cells [.ptr (some ⟨b, 0⟩)] true)) (hx : ∀ x ∈ l, ∃ c, h[x.1]? = some (.cells c true)) (hf : ∃ c, h[b]? = some (.cells c true))
    (hsep : ∀ s, q = some s → s.b ≠ a ∧ s.b ≠ b ∧ ∀ x ∈ l, s.b ≠ x.1)
    (hQ : ∀ q' h', AppJ pendE h' q' (l.filter (notB b)) → Keeps (fun c => ∃ s, q = some s ∧ s.b = c) h h' → h'.length = h.length → (∀ s', q' = some s' → ∃ s, q = some s ∧ s.b = s'.b) → Q (.sl q') h') :
    AC Try.prog 123 [.sl q, .func (.func 124) [] [.ptr (some ⟨a, 0⟩)]] h Q := ac123 (by
  unfold vc123
  have hlen := A.hasL.len
  refine d136 A hl hb hx hf (fun hn => ⟨_, rfl, ?_⟩) fun k x0 hk hkb hn => ⟨_, rfl, ?_⟩
  · have := hQ q h
    rw [filter_all hn] at this
    exact this A (.refl _ _) rfl (fun s hs => ⟨s, hs, rfl⟩)
  have hkl := lt_of_get hk
  refine vif_mk (fun g => by simp at g) (fun _ => ?_)
  rw [wrapK_i64 ⟨by omega, by omega⟩]
  have h0 : (l.take (k + 1)).filter (notB b) = l.take k := by
    rw [List.take_add_one, hk, List.filter_append, filter_all hn]
    simp [notB, hkb]
  let I : Heap → Nat → Nat → Prop := fun h10 i j => ∃ cur : List PD, AppJ pendE h10 q cur ∧ cur.length = l.length ∧ cur.take i = (l.take j).filter (notB b) ∧ i < j ∧ j ≤ l.length ∧ cur.drop j = l.drop j ∧ Keeps (fun c => ∃ s, q = some s ∧ s.b = c) h h10 ∧ h10.length = h.length
  refine ⟨fun xs h10 => ∃ i j : Nat, xs = [.int .i64 i, .int .i64 j] ∧ I h10 i j, fun xs _ => match xs with | [_, .int _ j] => (l.length - j).toNat | _ => 0, ⟨k, k + 1, by simp, l, A, rfl, h0.symm, by omega, by omega, rfl, .refl _ _, rfl⟩, ?_⟩
  rintro n6 n7 h10 ⟨i, j, hxs, cur, A10, hcl, hti, hij, hj, hdj, K10, hl10⟩
  simp only [List.cons.injEq, AV.int.injEq, true_and, and_true] at hxs
  obtain ⟨rfl, rfl⟩ := hxs
  have kp : ∀ {c : Nat} {X : Blk}, (∀ s, q = some s → s.b ≠ c) → h[c]? = some X → h10[c]? = some X := fun hc hX => K10 _ _ (fun ⟨s, h1, h2⟩ => hc s h1 h2) hX
  refine vif_mk (fun g => ?_) (fun g => ?_)
  · replace g := of_decide_eq_true g
    refine AppJ.idx (E := pendE) A10 (by omega) (by omega) fun pp x hx0 hc hpp => ⟨some ⟨x.1, 0⟩, ((x.2.1 : Nat) : Int), exC_mk (b := secB x.2.2) ⟨hc, ?_⟩⟩
    have hx1 : cur[j]? = some x := by simpa using hx0
    have hx' : l[j]? = some x := by
      have e1 : (cur.drop j)[0]? = cur[j]? := by rw [List.getElem?_drop]; simp
      have e2 : (l.drop j)[0]? = l[j]? := by rw [List.getElem?_drop]; simp
      rw [← e2, ← hdj, e1, hx1]
    have hxm := List.mem_of_getElem? hx'
    obtain ⟨c1, hc1⟩ := hx x hxm
    obtain ⟨c2, hc2⟩ := hf
    have hd : cur.drop (j + 1) = l.drop (j + 1) := by
      have := congrArg (List.drop 1) hdj
      simpa [List.drop_drop] using this
    refine d124 (kp (fun s hs => (hsep s hs).1) hb) ⟨c1, kp (fun s hs => (hsep s hs).2.2 x hxm) hc1⟩ ⟨c2, kp (fun s hs => (hsep s hs).2.1) hc2⟩ ⟨_, rfl, ?_⟩
    refine vif_mk (fun g2 => ?_) (fun g2 => ?_)
    · have g2 : x.1 ≠ b := by simpa using g2
      refine AppJ.idx (E := pendE) A10 (by omega) (by omega) fun pp2 y hy hcy hpp2 => ?_
      refine AppJ.store (E := pendE) (k := 0) (r' := x) (xs := pendE.f x) A10 (i := i) (r := y) (by simpa using hy) (by rw [Nat.zero_add, pendE.len]; exact Nat.le_refl _) (by rw [splice_full (by rw [pendE.len, pendE.len])]) (fun s' hs' => by rw [hpp2 s' hs']; simp) fun h19 A19 K19 hl19 => ?_
      rw [wrapK_i64 (n := (i : Int) + 1) ⟨by omega, by omega⟩, wrapK_i64 (n := (j : Int) + 1) ⟨by omega, by omega⟩]
      refine ⟨trivial, ⟨i + 1, j + 1, by simp, cur.set i x, A19, by simp [hcl], ?_, by omega, by omega, ?_, K10.trans K19, by omega⟩, by simp only; omega⟩
      · rw [List.take_add_one, List.take_set_of_le (Nat.le_refl _), hti, List.getElem?_set_self (by omega), List.take_add_one, hx', List.filter_append]
        have : notB b x = true := by simp [notB, g2]
        simp only [Option.toList_some, List.filter_cons, this, if_true, List.filter_nil]
      · rw [List.drop_set_of_lt (by omega), hd]
    · have g2 : x.1 = b := by simpa using g2
      rw [wrapK_i64 (n := (j : Int) + 1) ⟨by omega, by omega⟩]
      refine ⟨trivial, ⟨i, j + 1, by simp, cur, A10, hcl, ?_, by omega, by omega, hd, K10, hl10⟩, by simp only; omega⟩
      rw [hti, List.take_add_one, hx', List.filter_append]
      simp [notB, g2]
  · replace g := of_decide_eq_false g
    have hje : j = l.length := by omega
    subst hje
    rw [List.take_length] at hti
    rcases A10 with ⟨rfl, rfl⟩ | ⟨a', c, o, jk, rfl, ho, hb5, hjl, hc⟩
    · simp at hcl; omega
    have hal : (pendE.all cur).length = cur.length * 66 := Enc.all_length
    have hzl : ∀ n, (List.replicate n ([AV.ptr none, .int .i64 0] ++ List.replicate 64 (AV.int .u8 0))).flatten.length = n * 66 := by
      intro n; simp
    refine ⟨ho, by omega, by simp; omega, by simp; omega, by simp, ?_⟩
    simp only [Option.getD_none, Int.toNat_natCast, Nat.zero_add]
    have e1 : ((cur.length : Nat) : Int) - (i : Nat) = ((cur.length - i : Nat) : Int) := by omega
    rw [e1, Int.toNat_natCast]
    unfold PClear
    obtain ⟨z, hz⟩ : ∃ z, cur.length - i = z + 1 := ⟨cur.length - i - 1, by omega⟩
    simp only [hz]
    refine need_mk (by kernel_rfl) ?_
    unfold PStore
    simp only [hb5]
    refine ⟨by rw [hzl, List.length_append, hal]; omega, ?_⟩
    refine ⟨ho, by omega, by simp, by simp; omega, by simp, ?_⟩
    simp only [Option.getD_some, Option.getD_none, Int.toNat_natCast, Int.toNat_zero, Nat.zero_mul, Nat.add_zero, Int.sub_zero, Option.isNone_none, if_true]
    have hil : i = (l.filter (notB b)).length := by rw [← hti, List.length_take]; omega
    refine hQ _ _ (.inr ⟨a', c, o, (List.replicate (z + 1) ([AV.ptr none, .int .i64 0] ++ List.replicate 64 (AV.int .u8 0))).flatten ++ jk, by rw [hil], ho, ?_, ?_, by omega⟩) (K10.trans (keeps_set ⟨_, rfl, rfl⟩)) (by simp [hl10]) (fun s' hs' => by cases hs'; exact ⟨_, rfl, rfl⟩)
    · rw [List.getElem?_set_self (lt_of_get hb5), ← hti]
      congr 2
      have e2 : pendE.all cur = pendE.all (cur.take i) ++ pendE.all (cur.drop i) := by rw [← Enc.all_append, List.take_append_drop]
      have e3 : (pendE.all (cur.take i)).length = i * 66 := by rw [Enc.all_length, List.length_take]; show min i cur.length * 66 = _; rw [Nat.min_eq_left (by omega)]
      have e4 : (pendE.all (cur.drop i)).length = (z + 1) * 66 := by rw [Enc.all_length, List.length_drop, hz]; rfl
      rw [splice, hzl, e2, List.append_assoc (pendE.all (cur.take i)), ← e3, List.take_left' rfl, ← List.drop_drop, List.drop_left' rfl, ← e4, List.drop_left' rfl, List.append_assoc]
    · rw [List.length_append, hzl, hjl, ← hil]
      show (z + 1) * 66 + (c - cur.length) * 66 = (c - i) * 66
      rw [← Nat.add_mul]; congr 1; omega)

/-- forget -/
def DS.forget (D : DS) (b : Nat) : DS := { D with pends := D.pends.filter (notB b) }
theorem d95 (C : DiskC h ow p m qp es cl D) (hf : f ∈ D.files) (hpl : D.pends.length ≤ 1000000) (hQ : ∀ q' h' ow', DiskC h' ow' p m q' es cl (D.forget f.b) → DStep ow h ow' h' → Q (.tup []) h') :
    AC Try.prog 95 [.ptr (some ⟨p, 0⟩), .ptr (some ⟨f.b, 0⟩)] h Q := ac95 (by
  unfold vc95 PNew
  have hx4 : Ext h (h ++ [Blk.cells [.ptr (some ⟨f.b, 0⟩)] true]) := .app _ _
  have C4 := C.ext (keeps_of_ext hx4) hx4.len
  refine ⟨qp, C4.at (k := 1) rfl, ?_⟩
  have fcell : ∀ g ∈ D.files, ∃ c, (h ++ [Blk.cells [.ptr (some ⟨f.b, 0⟩)] true])[g.b]? = some (.cells c true) := by
    intro g hg
    obtain ⟨_, qn, qs, c, _⟩ := C4.file g hg
    exact ⟨_, c⟩
  have fne : ∀ g ∈ D.files, ∀ s, qp = some s → s.b ≠ g.b := by
    intro g hg s hs he
    have h1 := C.pndr s hs
    have h2 := (C.file g hg).role
    rw [he, h2] at h1; cases h1
  refine d123 (b := f.b) C4.pnd hpl (by simp) (fun x hx => ?_) (fcell f hf) (fun s hs => ⟨?_, fne f hf s hs, fun x hx => ?_⟩) fun q9 h8 A8 K8 hl8 hq9 => ⟨q9, rfl, ?_⟩
  · obtain ⟨g, hg, h1, _⟩ := C.pfile x hx
    rw [← h1]; exact fcell g hg
  · have := C.live s.b (by simp [C.pndr s hs]); omega
  · obtain ⟨g, hg, h1, _⟩ := C.pfile x hx
    rw [← h1]; exact fne g hg s hs
  have K8' : Keeps (fun b => ow b = some .pends) h h8 := by
    intro b X hb hX
    exact K8 _ _ (fun ⟨s', h1, h2⟩ => hb (by rw [← h2]; exact C.pndr s' h1)) (hx4 _ _ hX)
  have hpb : h8[p]? = some (.cells [.map (some m), .sl qp, .int .i64 D.limit, .int .i64 D.left, .bool D.off] true) := K8' _ _ (by simp [C.pr]) C.pb
  refine store6v hpb (by simp) ?_
  simp only [List.length_append, List.length_cons, List.length_nil] at hl8
  obtain ⟨C16, S16⟩ := C.setPend (l' := D.pends.filter (notB f.b)) (q' := q9) A8 K8' (by omega) (fun s' hs' => by
      obtain ⟨s2, h1, h2⟩ := hq9 s' hs'
      right; rw [← h2]; exact C.pndr s2 h1) (fun x hx => C.pfile x (List.mem_filter.1 hx).1) (B := .cells (splice [.map (some m), .sl qp, .int .i64 D.limit, .int .i64 D.left, .bool D.off] (0 + 1) [.sl q9]) true) rfl
  exact hQ _ _ _ C16 S16)
end
end Go.Proofs.Ytceplmmmlindnaa

/- The disk: Sync, Rename. -/
namespace Go.Proofs.Ytceplmmmlindnaa
open Go.Ab
set_option linter.unusedVariables false
set_option linter.unusedSimpArgs false

section
variable {h h' : Heap} {ow ow' : Roles} {p m : Nat} {qp : Option SL} {es : Ents} {cl : Nat} {D : DS} {f f' : FA} {Q : AV → Heap → Prop}

theorem keepF_b {i : Nat} {s : Bs} {n : Int} : (keepF f i s n).b = f.b ∧ (keepF f i s n).name = f.name ∧ (keepF f i s n).now = f.now := by
  unfold keepF; split <;> exact ⟨rfl, rfl, rfl⟩
/-- All that is pending of a file is kept. -/
def keepAll (f : FA) (l : List PD) : FA := l.foldl (fun g x => if x.1 = f.b then keepF g x.2.1 x.2.2 64 else g) f
theorem keepAll_snoc {l : List PD} {x : PD} : keepAll f (l ++ [x]) = if x.1 = f.b then keepF (keepAll f l) x.2.1 x.2.2 64 else keepAll f l := by simp [keepAll]
theorem keepAll_b (l : List PD) : (keepAll f l).b = f.b ∧ (keepAll f l).name = f.name ∧ (keepAll f l).now = f.now := by
  have : ∀ (l : List PD) (g : FA), (l.foldl (fun g x => if x.1 = f.b then keepF g x.2.1 x.2.2 64 else g) g).b = g.b ∧ (l.foldl (fun g x => if x.1 = f.b then keepF g x.2.1 x.2.2 64 else g) g).name = g.name ∧ (l.foldl (fun g x => if x.1 = f.b then keepF g x.2.1 x.2.2 64 else g) g).now = g.now := by
    intro l
    induction l with
    | nil => intro g; exact ⟨rfl, rfl, rfl⟩
    | cons x l ih =>
      intro g
      simp only [List.foldl_cons]
      have h := ih (if x.1 = f.b then keepF g x.2.1 x.2.2 64 else g)
      by_cases hx : x.1 = f.b
      · simp only [hx, if_true] at h ⊢
        obtain ⟨k1, k2, k3⟩ := @keepF_b g x.2.1 x.2.2 64
        rw [k1, k2, k3] at h; exact h
      · simp only [hx, if_false] at h ⊢; exact h
  exact this l f

/-- Sync -/
def DS.sync (D : DS) (s : Bs) : Int × DS :=
  if D.off then (50, D) else match D.find s with
  | none => (4, D)
  | some f => if D.deed.1 = 0 then (0, { D.deed.2 with files := upF D.files (keepAll f D.pends), pends := D.pends.filter (notB f.b) }) else D.deed

set_option maxRecDepth 20000 in
theorem d43 (R : DiskR h ow p D) {s : Bs} (hpl : D.pends.length ≤ 1000000) (hQ : ∀ h' ow', DiskR h' ow' p (D.sync s).2 → DStep ow h ow' h' → Q (.int .i64 (D.sync s).1) h') : AC Try.prog 43 [.ptr (some ⟨p, 0⟩), .str s] h Q := ac43 (by
  unfold vc43
  unfold DS.sync at hQ
  refine d90 R (fun ho => ⟨_, _, rfl, ?_⟩) (fun ho hn => ⟨_, _, rfl, ?_⟩) fun f ho hfd hf hfn => ⟨_, _, rfl, ?_⟩
  · rw [ho] at hQ; exact hQ h ow R (.refl _ _)
  · rw [ho, hn] at hQ; exact hQ h ow R (.refl _ _)
  rw [ho, hfd] at hQ
  simp only [Bool.false_eq_true, if_false] at hQ
  show AC Try.prog 89 _ _ _
  refine d89 R fun h8 R8 S8 => ⟨_, rfl, vif_mk (fun g => ?_) (fun g => ?_)⟩
  · have g : ¬ D.deed.1 = 0 := by simpa using g
    rw [if_neg g] at hQ
    exact hQ h8 ow R8 S8
  have g : D.deed.1 = 0 := by simpa using g
  rw [if_pos g] at hQ
  obtain ⟨m, qp, es, cl, C⟩ := R8
  have hf8 : f ∈ D.deed.2.files := by rw [deed_files]; exact hf
  have hblk : (D.files.map (·.b)).Nodup := by rw [← deed_files]; exact C.blocks
  refine ⟨qp, C.at (k := 1) rfl, ?_⟩
  have hlen := C.pnd.hasL.len
  rw [deed_pends] at hlen
  let St : Heap → Roles → Nat → Prop := fun h9 ow9 j => DiskC h9 ow9 p m qp es cl { D.deed.2 with files := upF D.files (keepAll f (D.pends.take j)) } ∧ DStep ow h8 ow9 h9
  have e0 : upF D.files (keepAll f (D.pends.take 0)) = D.deed.2.files := by rw [deed_files]; exact upF_self hblk hf
  refine ⟨fun xs h15 => ∃ (i : Nat) (ow15 : Roles), xs = [.int .i64 i] ∧ i ≤ D.pends.length ∧ St h15 ow15 i, fun xs _ => match xs with | [.int _ i] => (D.pends.length - i).toNat | _ => 0, ⟨0, ow, rfl, by omega, by
    show DiskC h8 ow p m qp es cl { D.deed.2 with files := upF D.files (keepAll f (D.pends.take 0)) }
    rw [e0]; exact C, .refl _ _⟩, ?_⟩
  rintro n12 h15 ⟨i, ow15, hx, hi, C15, S15⟩
  simp only [List.cons.injEq, AV.int.injEq, true_and, and_true] at hx
  subst hx
  obtain ⟨kb, kn, know⟩ := keepAll_b (f := f) (D.pends.take i)
  refine vif_mk (fun g1 => ?_) (fun g1 => ?_)
  · replace g1 := of_decide_eq_true g1
    have hpn : D.deed.2.pends = D.pends := deed_pends
    have A15 : AppJ pendE h15 qp D.pends := by have := C15.pnd; rwa [show ({ D.deed.2 with files := upF D.files (keepAll f (D.pends.take i)) } : DS).pends = D.pends from hpn] at this
    refine AppJ.idx (E := pendE) A15 (by omega) (by omega) fun pp x hx0 hc hpp => ⟨some ⟨x.1, 0⟩, ((x.2.1 : Nat) : Int), exC_mk (b := secB x.2.2) ⟨hc, ?_⟩⟩
    have hx' : D.pends[i]? = some x := by simpa using hx0
    have ht : D.pends.take (i + 1) = D.pends.take i ++ [x] := by rw [List.take_add_one, hx']; rfl
    obtain ⟨g2, hg2, hg2b, hg2l⟩ := C15.pfile x (by rw [show ({ D.deed.2 with files := upF D.files (keepAll f (D.pends.take i)) } : DS).pends = D.pends from hpn]; exact List.mem_of_getElem? hx')
    have fcell : ∀ g ∈ upF D.files (keepAll f (D.pends.take i)), ∃ c, h15[g.b]? = some (.cells c true) := by
      intro g hg
      obtain ⟨_, qn, qs, c, _⟩ := C15.file g hg
      exact ⟨_, c⟩
    have hfin : keepAll f (D.pends.take i) ∈ upF D.files (keepAll f (D.pends.take i)) := upF_in hf kb
    refine file_eq (by rw [← hg2b]; exact fcell g2 hg2) (by rw [← kb]; exact fcell _ hfin) ?_
    rw [wrapK_i64 ⟨by omega, by omega⟩]
    refine vif_mk (fun g3 => ?_) (fun g3 => ?_)
    · replace g3 := of_decide_eq_true g3
      have hgl : x.2.1 < (keepAll f (D.pends.take i)).now.length := by
        have := uniq_b C15.blocks hg2 hfin (by rw [hg2b, g3, kb])
        rw [← this]; exact hg2l
      rw [g3]
      rw [← kb]
      refine d92 C15 hfin hgl fun h22 ow22 C22 S22 => ⟨rfl, trivial, ⟨i + 1, ow22, by simp, by omega, ?_, S15.trans S22⟩, by simp only; omega⟩
      show DiskC h22 ow22 p m qp es cl { D.deed.2 with files := upF D.files (keepAll f (D.pends.take (i + 1))) }
      rw [ht, keepAll_snoc, if_pos g3]
      have e1 : upF (upF D.files (keepAll f (D.pends.take i))) (keepF (keepAll f (D.pends.take i)) x.2.1 x.2.2 64) = upF D.files (keepF (keepAll f (D.pends.take i)) x.2.1 x.2.2 64) := upF_upF (by rw [keepF_b.1])
      rw [← e1]
      exact C22
    · replace g3 := of_decide_eq_false g3
      refine ⟨trivial, ⟨i + 1, ow15, by simp, by omega, ?_, S15⟩, by simp only; omega⟩
      show DiskC h15 ow15 p m qp es cl { D.deed.2 with files := upF D.files (keepAll f (D.pends.take (i + 1))) }
      rw [ht, keepAll_snoc, if_neg g3]
      exact C15
  · replace g1 := of_decide_eq_false g1
    have : i = D.pends.length := by omega
    subst this
    rw [List.take_length] at C15 kb
    have hfin : keepAll f D.pends ∈ upF D.files (keepAll f D.pends) := upF_in hf kb
    rw [← kb]
    refine d95 C15 hfin (by show D.deed.2.pends.length ≤ _; rw [deed_pends]; exact hpl) fun q' h24 ow24 C24 S24 => ⟨rfl, ?_⟩
    have : (DS.forget { D.deed.2 with files := upF D.files (keepAll f D.pends) } (keepAll f D.pends).b) = { D.deed.2 with files := upF D.files (keepAll f D.pends), pends := D.pends.filter (notB f.b) } := by
      unfold DS.forget; simp only [deed_pends, kb]
    rw [this] at C24
    exact hQ _ _ ⟨_, _, _, _, C24⟩ (S8.trans (S15.trans S24)))

/-- A file goes by another name. -/
theorem DiskC.rename (C : DiskC h ow p m qp es cl D) (hf : f ∈ D.files) {to : Bs} {fs' : List FA} {es' : Ents} {cl' : Nat} {X : Blk} {qn qs : Option SL} (hc : h[f.b]? = some (.cells [.str f.name, .sl qn, .sl qs] true))
    (a1 : AppJ secE h qn f.now) (a2 : AppJ secE h qs f.safe) (r1 : ∀ s, qn = some s → ow s.b = some (.now f.b)) (r2 : ∀ s, qs = some s → ow s.b = some (.safe f.b))
    (hents : es'.map (fun e => (e.1, e.2.1)) = fs'.map entOf) (hborn : (es'.map (·.2.2)).Nodup) (hclk : ∀ e ∈ es', e.2.2 < cl') (hfs : ∀ g ∈ fs', g = { f with name := to } ∨ (g ∈ D.files ∧ g.b ≠ f.b))
    (hnames : (fs'.map (·.name)).Nodup) (hblocks : (fs'.map (·.b)).Nodup) (hpf : ∀ x ∈ D.pends, ∃ f ∈ fs', f.b = x.1 ∧ x.2.1 < f.now.length) (h24 : to.length ≤ 24) (hmany : fs'.length ≤ 256) (hused : (fs'.map (·.now.length)).sum ≤ 16384) {B : Blk}
    (hB : B = .cells [.str to, .sl qn, .sl qs] true) :
    DiskC (((h.set m X).set f.b B).set m (.mp es' cl')) ow p m qp es' cl' { D with files := fs' } ∧ DStep ow h ow (((h.set m X).set f.b B).set m (.mp es' cl')) := by
  have hfr := (C.file f hf).role
  have hmf : m ≠ f.b := fun e => by have := C.mr; rw [e, hfr] at this; cases this
  have hml := C.live m (by simp [C.mr])
  have hfl := C.live f.b (by simp [hfr])
  generalize hH : ((h.set m X).set f.b B).set m (.mp es' cl') = H
  have hHl : H.length = h.length := by rw [← hH]; simp
  have hHm : H[m]? = some (.mp es' cl') := by rw [← hH, List.getElem?_set_self (by simp; omega)]
  have hHf : H[f.b]? = some B := by rw [← hH, List.getElem?_set, if_neg hmf, List.getElem?_set_self (by simp; omega)]
  have K : Keeps (fun b => b = m ∨ b = f.b) h H := by
    intro b Y hb hY
    rw [← hH, List.getElem?_set, if_neg (fun e => hb (.inl e.symm)), List.getElem?_set, if_neg (fun e => hb (.inr e.symm)), List.getElem?_set, if_neg (fun e => hb (.inl e.symm))]
    exact hY
  have ne : ∀ b r, ow b = some r → r ≠ .map → r ≠ .file → ¬ (b = m ∨ b = f.b) := by
    intro b r hr h1 h2 hx
    rcases hx with rfl | rfl
    · rw [C.mr] at hr; exact h1 (Option.some.inj hr).symm
    · rw [hfr] at hr; exact h2 (Option.some.inj hr).symm
  refine ⟨⟨fun b hb => by rw [hHl]; exact C.live b hb, C.pr, C.mr, K _ _ (ne _ _ C.pr (by simp) (by simp)) C.pb, hHm, hents, hborn, hclk, C.pnd.keeps K (fun s hs => ne _ _ (C.pndr s hs) (by simp) (by simp)), C.pndr, fun g hg => ?_, hnames, hblocks, hpf, fun g hg => ?_, fun g hg => ?_, hmany, hused, C.lim, C.lft⟩, ⟨fun b Y hb hY => K _ _ (fun hx => hb ?_) hY, by omega, fun b hb => .inl hb⟩⟩
  · rcases hfs g hg with rfl | ⟨hg, hgb⟩
    · exact ⟨hfr, qn, qs, by rw [← hB]; exact hHf, a1.keeps K (fun s hs => ne _ _ (r1 s hs) (by simp) (by simp)), a2.keeps K (fun s hs => ne _ _ (r2 s hs) (by simp) (by simp)), r1, r2⟩
    · refine (C.file g hg).keeps K (fun b hc hx => ?_) (fun _ _ h => h)
      rcases hc with ⟨h1, h2⟩ | h1 | h1
      · rcases hx with rfl | rfl
        · rw [C.mr] at h1; cases h1
        · exact hgb h2.symm
      · exact ne _ _ h1 (by simp) (by simp) hx
      · exact ne _ _ h1 (by simp) (by simp) hx
  · rcases hfs g hg with rfl | ⟨hg, _⟩
    · exact C.safe f hf
    · exact C.safe g hg
  · rcases hfs g hg with rfl | ⟨hg, _⟩
    · exact h24
    · exact C.nlen g hg
  · show ow b ≠ none
    rcases hx with rfl | rfl
    · rw [C.mr]; simp
    · rw [hfr]; simp
end
end Go.Proofs.Ytceplmmmlindnaa

/- The disk: Rename, Crash. -/
namespace Go.Proofs.Ytceplmmmlindnaa
open Go.Ab
set_option linter.unusedVariables false
set_option linter.unusedSimpArgs false

section
variable {h h' : Heap} {ow ow' : Roles} {p m : Nat} {qp : Option SL} {es : Ents} {cl : Nat} {D : DS} {f f' : FA} {Q : AV → Heap → Prop}

theorem eraseIdx_b : ∀ {fs : List FA} {j : Nat} {f : FA}, (fs.map (·.b)).Nodup → fs[j]? = some f → fs.eraseIdx j = fs.filter (fun g => !(g.b == f.b))
  | [], j, f, _, h => by simp at h
  | x :: fs, 0, f, hn, h => by
    simp at h; subst h
    simp only [List.map_cons, List.nodup_cons, List.mem_map, not_exists, not_and] at hn
    simp only [List.eraseIdx_cons_zero, List.filter_cons, beq_self_eq_true, Bool.not_true, Bool.false_eq_true, if_false]
    exact (List.filter_eq_self.2 fun g hg => by simpa using hn.1 g hg).symm
  | x :: fs, j + 1, f, hn, h => by
    have hf : fs[j]? = some f := by simpa using h
    simp only [List.map_cons, List.nodup_cons, List.mem_map, not_exists, not_and] at hn
    have hx : ¬ x.b = f.b := fun he => hn.1 f (List.mem_of_getElem? hf) he.symm
    simp only [List.eraseIdx_cons_succ, List.filter_cons]
    rw [eraseIdx_b hn.2 hf]
    simp [hx]
theorem setIdx_b : ∀ {fs : List FA} {j : Nat} {g f' : FA}, (fs.map (·.b)).Nodup → fs[j]? = some g → fs.set j f' = fs.map (fun x => if x.b = g.b then f' else x)
  | [], j, g, f', _, h => by simp at h
  | x :: fs, 0, g, f', hn, h => by
    simp at h; subst h
    simp only [List.map_cons, List.nodup_cons, List.mem_map, not_exists, not_and] at hn
    simp only [List.set_cons_zero, List.map_cons, if_true]
    congr 1
    conv => lhs; rw [← List.map_id fs]
    apply List.map_congr_left
    intro y hy
    rw [if_neg (hn.1 y hy)]; rfl
  | x :: fs, j + 1, g, f', hn, h => by
    have hf : fs[j]? = some g := by simpa using h
    simp only [List.map_cons, List.nodup_cons, List.mem_map, not_exists, not_and] at hn
    have hx : ¬ x.b = g.b := fun he => hn.1 g (List.mem_of_getElem? hf) he.symm
    simp only [List.set_cons_succ, List.map_cons, if_neg hx]
    rw [setIdx_b hn.2 hf]

/-- The files, one of which goes by another name. -/
def reN (fs : List FA) (f : FA) (to : Bs) : List FA :=
  match (fs.filter (fun g => !(g.b == f.b))).find? (fun g => g.name == to) with
  | some g => (fs.filter (fun g => !(g.b == f.b))).map (fun x => if x.b = g.b then { f with name := to } else x)
  | none => fs.filter (fun g => !(g.b == f.b)) ++ [{ f with name := to }]

theorem map_erase {α β : Type} (g : α → β) : ∀ (l : List α) (j : Nat), (l.eraseIdx j).map g = (l.map g).eraseIdx j
  | [], _ => rfl
  | x :: l, 0 => rfl
  | x :: l, j + 1 => by simp [map_erase g l j]
theorem sum_erase : ∀ {l : List Nat} {j x : Nat}, l[j]? = some x → (l.eraseIdx j).sum + x = l.sum
  | [], j, x, h => by simp at h
  | y :: l, 0, x, h => by simp at h; subst h; simp; omega
  | y :: l, j + 1, x, h => by
    have := sum_erase (l := l) (j := j) (x := x) (by simpa using h)
    simp; omega
theorem sum_set : ∀ {l : List Nat} {j x y : Nat}, l[j]? = some x → (l.set j y).sum + x = l.sum + y
  | [], j, x, y, h => by simp at h
  | z :: l, 0, x, y, h => by simp at h; subst h; simp; omega
  | z :: l, j + 1, x, y, h => by
    have := sum_set (l := l) (j := j) (x := x) (y := y) (by simpa using h)
    simp; omega
theorem nodup_erase {α : Type} {l : List α} (h : l.Nodup) (j : Nat) : (l.eraseIdx j).Nodup := (List.eraseIdx_sublist l j).nodup h
theorem nodup_set' {α : Type} : ∀ {l : List α} {j : Nat} {a : α}, l.Nodup → a ∉ l → (l.set j a).Nodup
  | [], _, _, h, _ => h
  | x :: l, 0, a, h, ha => by
    simp only [List.nodup_cons, List.mem_cons, not_or] at h ha
    simp only [List.set_cons_zero, List.nodup_cons]
    exact ⟨ha.2, h.2⟩
  | x :: l, j + 1, a, h, ha => by
    simp only [List.nodup_cons, List.mem_cons, not_or] at h ha
    simp only [List.set_cons_succ, List.nodup_cons]
    refine ⟨fun hm => ?_, nodup_set' h.2 ha.2⟩
    rcases List.mem_or_eq_of_mem_set hm with hm | hm
    · exact h.1 hm
    · exact ha.1 hm.symm

/-- Rename -/
def DS.rename (D : DS) (s to : Bs) : Int × DS :=
  if !mayN to then (1, D) else if D.off then (50, D) else match D.find s with
  | none => (4, D)
  | some f => if D.deed.1 = 0 then (0, if s = to then D.deed.2 else { D.deed.2 with files := reN D.files f to, pends := match D.find to with | some g => D.pends.filter (notB g.b) | none => D.pends }) else D.deed

/-- The last steps: the map and the file. -/
theorem ren_tail (C : DiskC h ow p m qp es cl D) (hf : f ∈ D.files) {to : Bs} (hne : f.name ≠ to) (h24 : to.length ≤ 24) (hpg : ∀ g, D.find to = some g → ∀ x ∈ D.pends, x.1 ≠ g.b)
    (hQ : ∀ h' es' cl', DiskC h' ow p m qp es' cl' { D with files := reN D.files f to } → DStep ow h ow h' → Q (.int .i64 0) h') :
    PDelete Try.prog 9 (some m) (.str f.name) h fun h25 => vPtr (some ⟨f.b, 0⟩) fun p26 => PStore h25 ⟨p26.b, p26.o + 0⟩ [.str to] fun h27 => vPtr (some ⟨p, 0⟩) fun p28 =>
      ∃ m29 : Option Nat, cellsAt h27 ⟨p28.b, p28.o + 0⟩ 1 = some [.map m29] ∧ vMap m29 fun a31 => PUpdate Try.prog 9 a31 (.str to) (.ptr (some ⟨f.b, 0⟩)) h27 fun h30 => Q (.int .i64 0) h30 := by
  obtain ⟨qn, qs, c0, c1, c2, c, a1, a2, r1, r2⟩ := (C.file f hf).at
  have hfr := (C.file f hf).role
  have hml := C.live m (by simp [C.mr])
  have hpl := C.live p (by simp [C.pr])
  have hfl := C.live f.b (by simp [hfr])
  have hmf : m ≠ f.b := fun e => by have := C.mr; rw [e, hfr] at this; cases this
  have hpm : m ≠ p := fun e => by have := C.mr; rw [e, C.pr] at this; cases this
  have hpf : f.b ≠ p := fun e => by rw [e, C.pr] at hfr; cases hfr
  unfold PDelete
  simp only [C.mb]
  have hk : ∀ s, keyOk Try.prog 9 (.str s) = true := fun s => by simp only [keyOk, Try.underlying9]
  simp only [hk, need]
  have hff : D.files.find? (fun g => g.name == f.name) = some f := find_self C.names hf
  refine findP_file Try.underlying9 C.ents (fun hn => by rw [hff] at hn; cases hn) fun j f0 n e1 e2 e3 => ?_
  rw [hff] at e1
  obtain rfl : f = f0 := Option.some.inj e1
  simp only [Nat.zero_add]
  have hcf : (h.set m (.mp (es.eraseIdx j) cl))[f.b]? = some (.cells [.str f.name, .sl qn, .sl qs] true) := by rw [List.getElem?_set, if_neg hmf]; exact c
  refine store6v hcf (by simp) ?_
  have hsp : splice [AV.str f.name, .sl qn, .sl qs] (0 + 0) [.str to] = [.str to, .sl qn, .sl qs] := rfl
  rw [hsp]
  have hcp : ((h.set m (.mp (es.eraseIdx j) cl)).set f.b (.cells [.str to, .sl qn, .sl qs] true))[p]? = some (.cells [.map (some m), .sl qp, .int .i64 D.limit, .int .i64 D.left, .bool D.off] true) := by
    rw [List.getElem?_set, if_neg hpf, List.getElem?_set, if_neg hpm]; exact C.pb
  refine ⟨some m, by rw [cells6 hcp (by simp)]; rfl, ?_⟩
  show PUpdate _ _ _ _ _ _ _
  have hcm : ((h.set m (.mp (es.eraseIdx j) cl)).set f.b (.cells [.str to, .sl qn, .sl qs] true))[m]? = some (.mp (es.eraseIdx j) cl) := by
    rw [List.getElem?_set, if_neg (Ne.symm hmf), List.getElem?_set_self hml]
  unfold PUpdate
  rw [hcm]
  simp only [hk, isTup, Bool.not_false, Bool.and_true, need]
  have hfi : D.files.eraseIdx j = D.files.filter (fun g => !(g.b == f.b)) := eraseIdx_b C.blocks e2
  have hents1 : (es.eraseIdx j).map (fun e => (e.1, e.2.1)) = (D.files.eraseIdx j).map entOf := by rw [map_erase, map_erase, C.ents]
  have hborn1 : ((es.eraseIdx j).map (·.2.2)).Nodup := by rw [map_erase]; exact nodup_erase C.born j
  have hclk1 : ∀ e ∈ es.eraseIdx j, e.2.2 < cl := fun e he => C.clk e (List.mem_of_mem_eraseIdx he)
  have hb1 : ((D.files.eraseIdx j).map (·.b)).Nodup := by rw [map_erase]; exact nodup_erase C.blocks j
  have hn1 : ((D.files.eraseIdx j).map (·.name)).Nodup := by rw [map_erase]; exact nodup_erase C.names j
  have hm1 : ∀ g ∈ D.files.eraseIdx j, g ∈ D.files ∧ g.b ≠ f.b := by
    intro g hg
    rw [hfi] at hg
    have := List.mem_filter.1 hg
    exact ⟨this.1, by simpa using this.2⟩
  have hfb1 : f.b ∉ (D.files.eraseIdx j).map (·.b) := by
    intro hh
    obtain ⟨g, hg, he⟩ := List.mem_map.1 hh
    exact (hm1 g hg).2 he
  have hl1 : (D.files.eraseIdx j).length ≤ 255 := by
    have := lt_of_get e2
    have := C.many
    rw [List.length_eraseIdx]; split <;> omega
  have hs1 : ((D.files.eraseIdx j).map (·.now.length)).sum + f.now.length = (D.files.map (·.now.length)).sum := by
    rw [map_erase]; exact sum_erase (by rw [List.getElem?_map, e2]; rfl)
  have hu := C.used
  refine findP_file Try.underlying9 hents1 (fun hnf => ?_) fun j2 g n2 g1 g2 g3 => ?_
  · have hre : reN D.files f to = D.files.eraseIdx j ++ [{ f with name := to }] := by
      unfold reN
      rw [← hfi, hnf]
    obtain ⟨C2, S2⟩ := C.rename (to := to) (fs' := D.files.eraseIdx j ++ [{ f with name := to }]) (es' := es.eraseIdx j ++ [(.str to, .ptr (some ⟨f.b, 0⟩), cl)]) (cl' := cl + 1) (X := .mp (es.eraseIdx j) cl) hf c a1 a2 r1 r2 (by
        rw [List.map_append, List.map_append, hents1]; rfl) (by
        rw [List.map_append, List.nodup_append]
        refine ⟨hborn1, by simp, fun a ha b hb => ?_⟩
        obtain ⟨e, he, rfl⟩ := List.mem_map.1 ha
        have := hclk1 e he
        simp at hb; omega) (by
        intro e he
        rcases List.mem_append.1 he with he | he
        · have := hclk1 e he; omega
        · simp at he; subst he; simp) (by
        intro g hg
        rcases List.mem_append.1 hg with hg | hg
        · exact .inr (hm1 g hg)
        · exact .inl (by simpa using hg)) (by
        rw [List.map_append, List.nodup_append]
        refine ⟨hn1, by simp, fun a ha b hb => ?_⟩
        obtain ⟨g, hg, rfl⟩ := List.mem_map.1 ha
        simp at hb; subst hb
        intro he
        have := List.find?_eq_none.1 hnf g hg
        simp [he] at this) (by
        rw [List.map_append, List.nodup_append]
        refine ⟨hb1, by simp, fun a ha b hb => ?_⟩
        simp at hb; subst hb
        intro he; subst he; exact hfb1 ha) (by
        intro x hx
        obtain ⟨g, hg, h1, h2⟩ := C.pfile x hx
        by_cases he : g.b = f.b
        · have := uniq_b C.blocks hg hf he
          subst this
          exact ⟨{ g with name := to }, by simp, h1, h2⟩
        · refine ⟨g, List.mem_append_left _ ?_, h1, h2⟩
          rw [hfi]; exact List.mem_filter.2 ⟨hg, by simpa using he⟩) h24 (by simp only [List.length_append, List.length_cons, List.length_nil]; omega) (by
        simp only [List.map_append, List.sum_append, List.map_cons, List.map_nil, List.sum_cons, List.sum_nil]; omega) (B := .cells [.str to, .sl qn, .sl qs] true) rfl
    rw [← hre] at C2
    exact hQ _ _ _ C2 S2
  · simp only [Nat.zero_add]
    have hgm := List.mem_of_getElem? g2
    have hgn : g.name = to := by have := List.find?_some g1; simpa using this
    have hset : (D.files.eraseIdx j).set j2 { f with name := to } = (D.files.eraseIdx j).map (fun x => if x.b = g.b then { f with name := to } else x) := setIdx_b hb1 g2
    have hre : reN D.files f to = (D.files.eraseIdx j).set j2 { f with name := to } := by
      unfold reN
      rw [← hfi, g1, hset]
    have hmn : ((D.files.eraseIdx j).set j2 { f with name := to }).map (·.name) = (D.files.eraseIdx j).map (·.name) := by
      rw [List.map_set]
      show ((D.files.eraseIdx j).map (·.name)).set j2 to = _
      refine set_same ?_
      rw [List.getElem?_map, g2]; simp [hgn]
    have hbset : (es.eraseIdx j).set j2 (.str to, .ptr (some ⟨f.b, 0⟩), n2) = (es.eraseIdx j).set j2 (.str to, .ptr (some ⟨f.b, 0⟩), n2) := rfl
    have hbn : ((es.eraseIdx j).set j2 (.str to, .ptr (some ⟨f.b, 0⟩), n2)).map (·.2.2) = (es.eraseIdx j).map (·.2.2) := by
      rw [List.map_set]
      refine set_same ?_
      rw [List.getElem?_map, g3]; rfl
    have hfg : D.find to = some g := by
      have := find_self C.names (hm1 g hgm).1
      rw [hgn] at this; exact this
    obtain ⟨C2, S2⟩ := C.rename (to := to) (fs' := (D.files.eraseIdx j).set j2 { f with name := to }) (es' := (es.eraseIdx j).set j2 (.str to, .ptr (some ⟨f.b, 0⟩), n2)) (cl' := cl) (X := .mp (es.eraseIdx j) cl) hf c a1 a2 r1 r2 (by
        rw [List.map_set, List.map_set, hents1]; rfl) (by rw [hbn]; exact hborn1) (by
        intro e he
        have : e.2.2 ∈ ((es.eraseIdx j).set j2 (.str to, .ptr (some ⟨f.b, 0⟩), n2)).map (·.2.2) := List.mem_map_of_mem he
        rw [hbn] at this
        obtain ⟨e', he', h'⟩ := List.mem_map.1 this
        rw [← h']; exact hclk1 e' he') (by
        intro x hx
        rcases List.mem_or_eq_of_mem_set hx with hx | hx
        · exact .inr (hm1 x hx)
        · exact .inl hx) (by rw [hmn]; exact hn1) (by
        rw [List.map_set]; exact nodup_set' hb1 hfb1) (by
        intro x hx
        obtain ⟨g0, hg0, h1, h2⟩ := C.pfile x hx
        by_cases he : g0.b = f.b
        · have := uniq_b C.blocks hg0 hf he
          subst this
          refine ⟨{ g0 with name := to }, List.mem_iff_getElem?.2 ⟨j2, List.getElem?_set_self (lt_of_get g2)⟩, h1, h2⟩
        · refine ⟨g0, ?_, h1, h2⟩
          rw [hset]
          refine List.mem_map.2 ⟨g0, by rw [hfi]; exact List.mem_filter.2 ⟨hg0, by simpa using he⟩, ?_⟩
          rw [if_neg]
          intro hb
          exact hpg g hfg x hx (by rw [← h1, hb])) h24 (by rw [List.length_set]; omega) (by
        rw [List.map_set]
        have := sum_set (l := (D.files.eraseIdx j).map (·.now.length)) (j := j2) (x := g.now.length) (y := f.now.length) (by rw [List.getElem?_map, g2]; rfl)
        show (((D.files.eraseIdx j).map (·.now.length)).set j2 f.now.length).sum ≤ _
        omega) (B := .cells [.str to, .sl qn, .sl qs] true) rfl
    rw [← hre] at C2
    exact hQ _ _ _ C2 S2

set_option maxRecDepth 20000 in
theorem d44 (R : DiskR h ow p D) {s to : Bs} (hpl : D.pends.length ≤ 1000000) (hQ : ∀ h' ow', DiskR h' ow' p (D.rename s to).2 → DStep ow h ow' h' → Q (.int .i64 (D.rename s to).1) h') : AC Try.prog 44 [.ptr (some ⟨p, 0⟩), .str s, .str to] h Q := ac44 (by
  unfold vc44
  unfold DS.rename at hQ
  refine d86 R ⟨_, rfl, vif_mk (fun _ => ?_) (fun g => by cases g)⟩
  refine d87 ⟨_, rfl, vif_mk (fun g => ?_) (fun g => ?_)⟩
  · rw [if_pos g] at hQ; exact hQ h ow R (.refl _ _)
  rw [g] at hQ
  simp only [Bool.false_eq_true, if_false] at hQ
  refine d90 R (fun ho => ⟨_, _, rfl, ?_⟩) (fun ho hn => ⟨_, _, rfl, ?_⟩) fun f ho hfd hf hfn => ⟨_, _, rfl, ?_⟩
  · rw [ho] at hQ; exact hQ h ow R (.refl _ _)
  · rw [ho, hn] at hQ; exact hQ h ow R (.refl _ _)
  rw [ho, hfd] at hQ
  simp only [Bool.false_eq_true, if_false] at hQ
  show AC Try.prog 89 _ _ _
  refine d89 R fun h8 R8 S8 => ⟨_, rfl, vif_mk (fun g1 => ?_) (fun g1 => ?_)⟩
  · have g1 : ¬ D.deed.1 = 0 := by simpa using g1
    rw [if_neg g1] at hQ
    exact hQ h8 ow R8 S8
  have g1 : D.deed.1 = 0 := by simpa using g1
  rw [if_pos g1] at hQ
  refine vif_mk (fun g2 => ?_) (fun g2 => ?_)
  · have g2 : s = to := by simpa using g2
    rw [if_pos g2] at hQ
    exact hQ h8 ow R8 S8
  have g2 : ¬ s = to := by simpa using g2
  rw [if_neg g2] at hQ
  have h24 : to.length ≤ 24 := by
    simp only [mayN, Bool.not_eq_false', Bool.and_eq_true, decide_eq_true_eq] at g; exact g.2
  obtain ⟨m, qp, es, cl, C⟩ := R8
  have hf8 : f ∈ D.deed.2.files := by rw [deed_files]; exact hf
  have hdf : D.deed.2.find to = D.find to := by unfold DS.find; rw [deed_files]
  refine ⟨_, C.at (k := 0) rfl, ?_⟩
  subst hfn
  refine C.look (fun hn => ⟨_, rfl, ?_⟩) fun g0 hg hgm hgn => ⟨_, rfl, ?_⟩
  · rw [hdf] at hn
    refine ⟨_, C.at (k := 0) rfl, ?_⟩
    refine ren_tail (to := to) C hf8 g2 h24 (fun g hg => by rw [hdf, hn] at hg; cases hg) fun h' es' cl' C' S' => ?_
    have e : ({ D.deed.2 with files := reN D.files f to, pends := match D.find to with | some g => D.pends.filter (notB g.b) | none => D.pends } : DS) = { D.deed.2 with files := reN D.deed.2.files f to } := by
      rw [hn, deed_files]; simp only [← deed_pends (D := D)]
    simp only [e] at hQ
    exact hQ _ _ ⟨_, _, _, _, C'⟩ (S8.trans S')
  · rw [hdf] at hg
    refine d95 C hgm (by rw [deed_pends]; exact hpl) fun q' h22 ow22 C22 S22 => ⟨rfl, ?_⟩
    refine ⟨_, C22.at (k := 0) rfl, ?_⟩
    refine ren_tail (to := to) C22 hf8 g2 h24 (fun g hg' x hx => ?_) fun h' es' cl' C' S' => ?_
    · have hg2 : D.deed.2.find to = some g := hg'
      rw [hdf, hg] at hg2
      cases hg2
      have := (List.mem_filter.1 hx).2
      simpa [notB] using this
    · have e : ({ D.deed.2 with files := reN D.files f to, pends := match D.find to with | some g => D.pends.filter (notB g.b) | none => D.pends } : DS) = { D.deed.2.forget g0.b with files := reN D.deed.2.files f to } := by
        rw [hg, deed_files]; simp only [DS.forget, deed_pends (D := D)]
      simp only [e] at hQ
      exact hQ _ _ ⟨_, _, _, _, C'⟩ (S8.trans (S22.trans S')))
end
end Go.Proofs.Ytceplmmmlindnaa
