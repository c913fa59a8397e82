/- Readers: the engine's. -/
import Derived.Test.YtceplmmmlindnaaDG16
namespace Go.Proofs.Ytceplmmmlindnaa
open Go.Ab
set_option linter.unusedVariables false
set_option linter.unusedSimpArgs false

/-- A reader at p: what is left, or it is bad. -/
def Rd (h : Heap) (p : Nat) : Option Bs → Prop
  | some l => ∃ q, h[p]? = some (.cells [.sl q, .bool false] true) ∧ HasL byE h q l ∧ ∀ s, q = some s → s.b < p
  | none => ∃ q, h[p]? = some (.cells [.sl q, .bool true] true)
structure Fr (p : Nat) (h h' : Heap) : Prop where
  keeps : Keeps (fun b => b = p) h h'
  len : h.length ≤ h'.length
theorem Fr.refl (p : Nat) (h : Heap) : Fr p h h := ⟨.refl _ _, Nat.le_refl _⟩
theorem Fr.trans {p : Nat} {a b c : Heap} (x : Fr p a b) (y : Fr p b c) : Fr p a c := ⟨x.keeps.trans y.keeps, Nat.le_trans x.len y.len⟩
theorem Fr.ofExt {p : Nat} {a b : Heap} (x : Ext a b) : Fr p a b := ⟨keeps_of_ext x, x.len⟩

/-- n bytes of what is left. -/
def tk (n : Int) : Option Bs → Option (Bs × Bs)
  | some l => if 0 ≤ n ∧ n ≤ l.length then some (l.take n.toNat, l.drop n.toNat) else none
  | none => none
def fx (k : Int) (o : Option Bs) : Option (Nat × Bs) :=
  if 1 ≤ k ∧ k ≤ 8 then (match tk k o with | some (a, b) => if beV a < M63 then some (beV a, b) else none | none => none) else none
def nm (o : Option Bs) : Option (Nat × Bs) := match o with | some l => rdN l | none => none
def rdT (most : Nat) (l : Bs) : Option (Bs × Bs) := match rdN l with | some (n, l') => if n ≤ most ∧ n ≤ l'.length then some (l'.take n, l'.drop n) else none | none => none
def tx (most : Nat) (o : Option Bs) : Option (Bs × Bs) := match o with | some l => rdT most l | none => none
def valN (r : Option (Nat × Bs)) : Int := match r with | some (n, _) => (n : Int) | none => 0
def valS (r : Option (Bs × Bs)) : Bs := match r with | some (s, _) => s | none => []
def stO {α : Type} (r : Option (α × Bs)) : Option Bs := match r with | some (_, b) => some b | none => none

theorem or8 {n c : Nat} (hn : n < 72057594037927936) (hc : c < 256) : bitsOr .u64 (shlK .u64 (n : Int) 8) (wrapK .u64 (c : Int)) = ((n * 256 + c : Nat) : Int) := by
  have e : min ((8 : Int).toNat) IntKind.u64.bits = 8 := by decide
  have e1 : shlK .u64 (n : Int) 8 = ((n * 256 : Nat) : Int) := by
    simp only [shlK, e]
    have : ((n : Int) * 2 ^ 8) = ((n * 256 : Nat) : Int) := by simp
    rw [this]
    exact wrapK_u64 ⟨by omega, by omega⟩
  have e2 : wrapK .u64 (c : Int) = (c : Int) := wrapK_u64 ⟨by omega, by omega⟩
  rw [e1, e2]
  unfold bitsOr
  have e3 : (BitVec.ofInt IntKind.u64.bits ((n * 256 : Nat) : Int) ||| BitVec.ofInt IntKind.u64.bits ((c : Nat) : Int)).toNat = n * 256 + c := by
    show (BitVec.ofInt 64 ((n * 256 : Nat) : Int) ||| BitVec.ofInt 64 ((c : Nat) : Int)).toNat = n * 256 + c
    rw [BitVec.toNat_or, BitVec.ofInt_natCast, BitVec.ofInt_natCast, BitVec.toNat_ofNat, BitVec.toNat_ofNat, Nat.mod_eq_of_lt (by omega : n * 256 < 2 ^ 64), Nat.mod_eq_of_lt (by omega : c < 2 ^ 64)]
    have := Nat.shiftLeft_add_eq_or_of_lt (i := 8) (b := c) (by omega) n
    rw [Nat.shiftLeft_eq] at this
    exact this.symm
  rw [e3]
  exact wrapK_u64 ⟨by omega, by omega⟩

theorem pslice_blk {sz : Nat} {q : Option SL} {lo : Int} {hi mx : Option Int} {K K2 : Option SL → Prop} (P : PSlice sz q lo hi mx K) (hK : ∀ q', K q' → (∀ s', q' = some s' → ∃ s, q = some s ∧ s'.b = s.b) → K2 q') : PSlice sz q lo hi mx K2 := by
  unfold PSlice at P ⊢
  cases q with
  | none => exact ⟨P.1, P.2.1, P.2.2.1, hK _ P.2.2.2 (fun s' h => by cases h)⟩
  | some s => exact ⟨P.1, P.2.1, P.2.2.1, P.2.2.2.1, P.2.2.2.2.1, hK _ P.2.2.2.2.2 (fun s' h => by cases h; exact ⟨s, rfl, rfl⟩)⟩
/-- s[lo:hi] of a list, in the same block. -/
theorem HasL.slice2 {α : Type} {E : Enc α} {h : Heap} {q : Option SL} {l : List α} (H : HasL E h q l) {lo : Int} {hi : Option Int} {K : Option SL → Prop} (h0 : 0 ≤ lo) (h1 : lo ≤ hi.getD l.length) (h2 : hi.getD l.length ≤ l.length)
    (hK : ∀ q', HasL E h q' ((l.take (hi.getD l.length).toNat).drop lo.toNat) → (∀ s', q' = some s' → ∃ s, q = some s ∧ s'.b = s.b) → K q') : PSlice E.sz q lo hi none K :=
  pslice_blk (H.slice (K := fun q' => HasL E h q' ((l.take (hi.getD l.length).toNat).drop lo.toNat)) h0 h1 h2 fun _ h => h) hK

section
variable {h : Heap} {Q : AV → Heap → Prop} {p : Nat} {o : Option Bs}

theorem rd_bad (R : Rd h p o) : cellsAt h ⟨p, 0 + 1⟩ 1 = some [.bool o.isNone] := by
  cases o with
  | none => obtain ⟨q, hb⟩ := R; rw [cellsAt_mk (p := ⟨p, 0 + 1⟩) hb (by simp)]; rfl
  | some l => obtain ⟨q, hb, _⟩ := R; rw [cellsAt_mk (p := ⟨p, 0 + 1⟩) hb (by simp)]; rfl
theorem rd_fail {K : Heap → Prop} (R : Rd h p o) (hK : ∀ h', Fr p h h' → Rd h' p none → K h') : PStore h ⟨p, 0 + 1⟩ [.bool true] K := by
  have : ∃ q b, h[p]? = some (.cells [.sl q, .bool b] true) := by
    cases o with
    | none => obtain ⟨q, hb⟩ := R; exact ⟨q, _, hb⟩
    | some l => obtain ⟨q, hb, _⟩ := R; exact ⟨q, _, hb⟩
  obtain ⟨q, b, hb⟩ := this
  unfold PStore
  simp only [hb]
  refine ⟨by simp, hK _ ⟨keeps_set rfl, by simp⟩ ⟨q, ?_⟩⟩
  rw [List.getElem?_set_self (lt_of_get hb)]; rfl
theorem rd_buf {l : Bs} (R : Rd h p (some l)) : ∃ q, cellsAt h ⟨p, 0 + 0⟩ 1 = some [.sl q] ∧ HasL byE h q l ∧ ∀ s, q = some s → s.b < p := by
  obtain ⟨q, hb, hl, hn⟩ := R
  exact ⟨q, by rw [cellsAt_mk (p := ⟨p, 0 + 0⟩) hb (by simp)]; rfl, hl, hn⟩
theorem rd_cut {l l' : Bs} {q' : Option SL} {K : Heap → Prop} (R : Rd h p (some l)) (H : HasL byE h q' l') (hn : ∀ s, q' = some s → s.b < p) (hK : ∀ h', Fr p h h' → Rd h' p (some l') → K h') : PStore h ⟨p, 0 + 0⟩ [.sl q'] K := by
  obtain ⟨q, hb, _, _⟩ := R
  unfold PStore
  simp only [hb]
  have K1 : Keeps (fun b => b = p) h (h.set p (.cells (splice [.sl q, .bool false] (0 + 0) [.sl q']) true)) := keeps_set rfl
  refine ⟨by simp, hK _ ⟨K1, by simp⟩ ⟨q', ?_, K1.hasL (fun s hs => Nat.ne_of_lt (hn s hs)) H, hn⟩⟩
  rw [List.getElem?_set_self (lt_of_get hb)]; rfl
theorem Rd.ext {h' : Heap} (R : Rd h p o) (K : Ext h h') : Rd h' p o := by
  cases o with
  | none => obtain ⟨q, hb⟩ := R; exact ⟨q, K _ _ hb⟩
  | some l => obtain ⟨q, hb, hl, hn⟩ := R; exact ⟨q, K _ _ hb, hl.mono K, hn⟩
theorem Rd.keeps {h' : Heap} {X : Nat → Prop} (R : Rd h p o) (K : Keeps X h h') (hX : ∀ b, b ≤ p → ¬ X b) : Rd h' p o := by
  cases o with
  | none => obtain ⟨q, hb⟩ := R; exact ⟨q, K _ _ (hX _ (Nat.le_refl _)) hb⟩
  | some l => obtain ⟨q, hb, hl, hn⟩ := R; exact ⟨q, K _ _ (hX _ (Nat.le_refl _)) hb, K.hasL (fun s hs => hX _ (Nat.le_of_lt (hn s hs))) hl, hn⟩
theorem Rd.live (R : Rd h p o) : p < h.length := by
  cases o with
  | none => obtain ⟨q, hb⟩ := R; exact lt_of_get hb
  | some l => obtain ⟨q, hb, _⟩ := R; exact lt_of_get hb

/-- slices.Clone of bytes. -/
theorem e94 {q : Option SL} {l : Bs} (H : HasL byE h q l) (hl : l.length ≤ 100000) (hQ : ∀ q' h', Ext h h' → HasL byE h' q' l → (∀ s, q' = some s → h.length ≤ s.b) → Q (.sl q') h') : AC Try.prog 94 [.sl q] h Q := ac94 (by
  unfold vc94 PNew
  refine vif_mk (fun g => ?_) (fun g => ?_)
  · cases q with
    | some s => cases g
    | none => exact hQ none h (.refl _) H (fun s hs => by cases hs)
  · refine copy0 (E := byE) (a := h.length) (by simp) (H.mono (Ext.app _ _)) (by omega) fun q' h' hx O hq => hQ _ _ ((Ext.app _ _).trans hx) O.hasL (fun s hs => ?_)
    rcases hq s hs with a | a
    · omega
    · simp at a; omega)

/-- Bad. -/
theorem e71 (R : Rd h p o) (hQ : Q (.bool o.isNone) h) : AC Try.prog 71 [.ptr (some ⟨p, 0⟩)] h Q := ac71 (by
  unfold vc71
  exact ⟨_, rd_bad R, hQ⟩)
/-- fail. -/
theorem e113 (R : Rd h p o) (hQ : ∀ h', Fr p h h' → Rd h' p none → Q (.int .i64 0) h') : AC Try.prog 113 [.ptr (some ⟨p, 0⟩)] h Q := ac113 (by
  unfold vc113
  exact rd_fail R hQ)

set_option maxRecDepth 20000 in
/-- Bytes. -/
theorem e114 {n : Int} (R : Rd h p o) (hl : ∀ l, o = some l → l.length ≤ 100000) (hQ0 : tk n o = none → ∀ h', Fr p h h' → Rd h' p none → Q (.sl none) h')
    (hQ1 : ∀ a b, tk n o = some (a, b) → ∀ q h', Fr p h h' → HasL byE h' q a → (∀ s, q = some s → h.length ≤ s.b) → Rd h' p (some b) → Q (.sl q) h') : AC Try.prog 114 [.ptr (some ⟨p, 0⟩), .int .i64 n] h Q := ac114 (by
  unfold vc114
  refine e71 R ⟨_, rfl, ?_⟩
  cases o with
  | none =>
    refine vif_mk (fun _ => ?_) (fun g => by simp at g)
    exact e113 R fun h' F R' => ⟨_, rfl, hQ0 rfl h' F R'⟩
  | some l =>
    refine vif_mk (fun g => by simp at g) (fun _ => ?_)
    obtain ⟨q, c1, c2, c3⟩ := rd_buf R
    have c4 := c2.len
    refine vif_mk (fun g => ?_) (fun g => ?_)
    · replace g := of_decide_eq_true g
      exact e113 R fun h' F R' => ⟨_, rfl, hQ0 (by simp only [tk]; rw [if_neg (by omega)]) h' F R'⟩
    replace g := of_decide_eq_false g
    refine ⟨q, c1, vif_mk (fun g2 => ?_) (fun g2 => ?_)⟩
    · replace g2 := of_decide_eq_true g2
      exact e113 R fun h' F R' => ⟨_, rfl, hQ0 (by simp only [tk]; rw [if_neg (by omega)]) h' F R'⟩
    replace g2 := of_decide_eq_false g2
    refine ⟨q, c1, HasL.slice (E := byE) c2 (by omega) (by simp; omega) (by simp; omega) fun q19 H19 => ?_⟩
    have H19 : HasL byE h q19 (l.take n.toNat) := by simpa using H19
    have hll := hl l rfl
    refine e94 H19 (by have := List.length_take_le' n.toNat l; omega) fun q22 h21 hx H22 hq22 => ⟨q22, rfl, q, hx.cells c1, ?_⟩
    refine HasL.slice2 (E := byE) (c2.mono hx) (by omega) (by simp; omega) (by simp) fun q25 H25 hq25 => ?_
    have H25 : HasL byE h21 q25 (l.drop n.toNat) := by simpa using H25
    have hpl := R.live
    refine rd_cut (R.ext hx) H25 (fun s hs => by obtain ⟨s', a1, a2⟩ := hq25 s hs; rw [a2]; exact c3 s' a1) fun h27 F27 R27 => ?_
    refine hQ1 (l.take n.toNat) (l.drop n.toNat) (by simp only [tk]; rw [if_pos (by omega)]) q22 h27 ((Fr.ofExt hx).trans F27) (F27.keeps.hasL (fun s hs he => by have := hq22 s hs; have he : s.b = p := he; omega) H22) hq22 R27)

theorem beV_take {a : Bs} {i : Nat} {x : UInt8} (h : a[i]? = some x) : beV (a.take (i + 1)) = beV (a.take i) * 256 + x.toNat := by
  rw [List.take_add_one, h]; exact beV_snoc
theorem tk_some {n : Int} {a b : Bs} (h : tk n o = some (a, b)) : ∃ l, o = some l ∧ 0 ≤ n ∧ n ≤ l.length ∧ a = l.take n.toNat ∧ b = l.drop n.toNat := by
  cases o with
  | none => cases h
  | some l =>
    simp only [tk] at h
    split at h
    · rename_i hc
      simp only [Option.some.injEq, Prod.mk.injEq] at h
      exact ⟨l, rfl, hc.1, hc.2, h.1.symm, h.2.symm⟩
    · cases h

set_option maxRecDepth 20000 in
/-- Fixed. -/
theorem e110 {k : Int} (R : Rd h p o) (hl : ∀ l, o = some l → l.length ≤ 100000) (hQ : ∀ h', Fr p h h' → Rd h' p (stO (fx k o)) → Q (.int .i64 (valN (fx k o))) h') : AC Try.prog 110 [.ptr (some ⟨p, 0⟩), .int .i64 k] h Q := ac110 (by
  unfold vc110
  refine vif_mk (fun g => ?_) (fun g => ?_)
  · replace g := of_decide_eq_true g
    have e : fx k o = none := by unfold fx; rw [if_neg (by omega)]
    rw [e] at hQ
    exact e113 R fun h' F R' => ⟨_, rfl, hQ h' F R'⟩
  replace g := of_decide_eq_false g
  refine vif_mk (fun g2 => ?_) (fun g2 => ?_)
  · replace g2 := of_decide_eq_true g2
    have e : fx k o = none := by unfold fx; rw [if_neg (by omega)]
    rw [e] at hQ
    exact e113 R fun h' F R' => ⟨_, rfl, hQ h' F R'⟩
  replace g2 := of_decide_eq_false g2
  have efx : fx k o = match tk k o with | some (a, b) => if beV a < M63 then some (beV a, b) else none | none => none := by unfold fx; rw [if_pos (by omega)]
  refine e114 R hl (fun ht h10 F10 R10 => ⟨none, rfl, ?_⟩) (fun a b ht q11 h10 F10 H11 _ R10 => ⟨q11, rfl, ?_⟩)
  · rw [ht] at efx
    rw [efx] at hQ
    refine ⟨fun xs h16 => h16 = h10 ∧ ∃ n13 : Int, xs = [.int .u64 0, .int .i64 n13] ∧ 0 ≤ n13, fun _ _ => 0, ⟨rfl, 0, rfl, by omega⟩, ?_⟩
    rintro n12 n13 h16 ⟨rfl, n', hx, hn⟩
    simp only [List.cons.injEq, AV.int.injEq, true_and, and_true] at hx
    obtain ⟨rfl, rfl⟩ := hx
    refine vif_mk (fun g => ?_) (fun _ => ?_)
    · replace g := of_decide_eq_true g
      simp only [slLen] at g; omega
    · refine e71 R10 ⟨_, rfl, vif_mk (fun _ => ?_) (fun g => by simp at g)⟩
      exact e113 R10 fun h' F R' => ⟨_, rfl, hQ h' (F10.trans F) R'⟩
  · rw [ht] at efx
    simp only at efx
    obtain ⟨l, rfl, b1, b2, rfl, rfl⟩ := tk_some ht
    have hlen := H11.len
    generalize ha : l.take k.toNat = a at *
    have hal : a.length = k.toNat := by rw [← ha, List.length_take]; omega
    refine ⟨fun xs h16 => h16 = h10 ∧ ∃ i : Nat, xs = [.int .u64 ((beV (a.take i) : Nat) : Int), .int .i64 i] ∧ i ≤ a.length, fun xs _ => match xs with | [_, .int _ i] => (a.length - i).toNat | _ => 0, ⟨rfl, 0, rfl, by omega⟩, ?_⟩
    rintro n12 n13 h16 ⟨rfl, i', hx, hi⟩
    simp only [List.cons.injEq, AV.int.injEq, true_and, and_true] at hx
    obtain ⟨rfl, rfl⟩ := hx
    refine vif_mk (fun g => ?_) (fun g => ?_)
    · replace g := of_decide_eq_true g
      refine HasL.idx (E := byE) H11 (by omega) (by omega) fun pp x hx hc => ⟨((x.toNat : Nat) : Int), hc, ?_⟩
      have hx' : a[i']? = some x := by simpa using hx
      have hb : beV (a.take i') < 72057594037927936 := by
        have h1 := beV_lt (a.take i')
        have h2 : (a.take i').length ≤ 7 := by rw [List.length_take]; omega
        have h3 : 256 ^ (a.take i').length ≤ 256 ^ 7 := Nat.pow_le_pow_right (by omega) h2
        omega
      rw [or8 hb x.toNat_lt, ← beV_take hx', wrapK_i64 ⟨by omega, by omega⟩]
      exact ⟨trivial, ⟨rfl, i' + 1, by simp, by omega⟩, by simp only; omega⟩
    · replace g := of_decide_eq_false g
      have : i' = a.length := by omega
      subst this
      rw [List.take_length]
      refine e71 R10 ⟨_, rfl, vif_mk (fun g => by simp at g) (fun _ => ?_)⟩
      refine vif_mk (fun g3 => ?_) (fun g3 => ?_)
      · replace g3 := of_decide_eq_true g3
        rw [if_neg (by simp only [M63]; omega)] at efx
        rw [efx] at hQ
        exact e113 R10 fun h' F R' => ⟨_, rfl, hQ h' (F10.trans F) R'⟩
      · replace g3 := of_decide_eq_false g3
        rw [if_pos (by simp only [M63]; omega)] at efx
        rw [efx] at hQ
        rw [wrapK_i64 ⟨by omega, by omega⟩]
        exact hQ _ F10 R10)

/-- must. -/
theorem e111 {n : Int} {b : Bool} (R : Rd h p o) (hQ0 : (o = none ∨ b = false) → ∀ h', Fr p h h' → Rd h' p none → Q (.int .i64 0) h') (hQ1 : o ≠ none → b = true → Q (.int .i64 n) h) : AC Try.prog 111 [.ptr (some ⟨p, 0⟩), .int .i64 n, .bool b] h Q := ac111 (by
  unfold vc111
  refine e71 R ⟨_, rfl, vif_mk (fun g => ?_) (fun g => ?_)⟩
  · cases o with
    | none => exact e113 R fun h' F R' => ⟨_, rfl, hQ0 (.inl rfl) h' F R'⟩
    | some l => simp at g
  · cases o with
    | none => simp at g
    | some l =>
      refine vif_mk (fun g => ?_) (fun g => ?_)
      · exact e113 R fun h' F R' => ⟨_, rfl, hQ0 (.inr (by simpa using g)) h' F R'⟩
      · exact hQ1 (by simp) (by simpa using g))
set_option maxRecDepth 20000 in
/-- Size. -/
theorem e112 {n : Nat} (hn : n < M63) (h2 : 2288 ≤ n) (hQ : Q (.int .i64 ((1 + wid n : Nat) : Int)) h) : AC Try.prog 112 [.int .i64 n] h Q := ac112 (by
  have hw := wid_le hn
  unfold vc112
  refine vif_mk (fun g => ?_) (fun _ => ?_)
  · replace g := of_decide_eq_true g; omega
  refine vif_mk (fun g => ?_) (fun _ => ?_)
  · replace g := of_decide_eq_true g; omega
  refine vif_mk (fun g => ?_) (fun _ => ?_)
  · replace g := of_decide_eq_true g; omega
  refine t131 hn ⟨_, rfl, ?_⟩
  rw [wrapK_i64 ⟨by omega, by omega⟩]
  have e : (1 + ((wid n : Nat) : Int)) = ((1 + wid n : Nat) : Int) := by omega
  rw [e]; exact hQ)
end
end Go.Proofs.Ytceplmmmlindnaa

/- The engine's reader of numbers, of texts; what any bytes are as an edit. -/
namespace Go.Proofs.Ytceplmmmlindnaa
open Go.Ab
set_option linter.unusedVariables false
set_option linter.unusedSimpArgs false

theorem rdN_len {l b : Bs} {n : Nat} (h : rdN l = some (n, b)) : b.length ≤ l.length := by
  obtain ⟨h1, _⟩ := numB_rdN h
  rw [h1, List.length_append]; omega
theorem rdT_len {m : Nat} {l b s : Bs} (h : rdT m l = some (s, b)) : b.length ≤ l.length := by
  unfold rdT at h
  split at h
  · rename_i n l' heq
    split at h
    · simp only [Option.some.injEq, Prod.mk.injEq] at h
      obtain ⟨_, rfl⟩ := h
      have := rdN_len heq
      rw [List.length_drop]; omega
    · cases h
  · cases h
theorem fx1 {c : UInt8} {l : Bs} : fx 1 (some (c :: l)) = some (c.toNat, l) := by
  have hc := c.toNat_lt
  have e : tk 1 (some (c :: l)) = some ([c], l) := by simp [tk]; omega
  unfold fx
  rw [if_pos (by omega), e]
  have : beV [c] = c.toNat := by simp [beV]
  simp only [this]
  rw [if_pos (by simp only [M63]; omega)]
theorem fx1_nil : fx 1 (some []) = none := by
  unfold fx
  rw [if_pos (by omega)]
  have : tk 1 (some []) = none := by simp [tk]
  rw [this]
theorem fx1_none : fx 1 none = none := by
  unfold fx
  rw [if_pos (by omega)]
  rfl
theorem valN_some {n : Nat} {b : Bs} : valN (some (n, b)) = n := rfl

section
variable {h : Heap} {Q : AV → Heap → Prop} {p : Nat} {o : Option Bs}
set_option maxRecDepth 20000 in
/-- Num. -/
theorem e70 (R : Rd h p o) (hl : ∀ l, o = some l → l.length ≤ 100000) (hQ : ∀ h', Fr p h h' → Rd h' p (stO (nm o)) → Q (.int .i64 (valN (nm o))) h') : AC Try.prog 70 [.ptr (some ⟨p, 0⟩)] h Q := ac70 (by
  unfold vc70
  refine e110 R hl fun h3 F3 R3 => ⟨_, rfl, ?_⟩
  match o with
  | none =>
    rw [fx1_none] at R3 ⊢
    refine vif_mk (fun _ => hQ h3 F3 R3) (fun g => ?_)
    replace g := of_decide_eq_false g
    simp only [valN] at g; omega
  | some [] =>
    rw [fx1_nil] at R3 ⊢
    refine vif_mk (fun _ => hQ h3 F3 R3) (fun g => ?_)
    replace g := of_decide_eq_false g
    simp only [valN] at g; omega
  | some (c :: l) =>
    have hcl := hl _ rfl
    rw [List.length_cons] at hcl
    have hc := c.toNat_lt
    rw [fx1] at R3 ⊢
    simp only [stO] at R3
    rw [valN_some]
    refine vif_mk (fun g => ?_) (fun g => ?_)
    · replace g := of_decide_eq_true g
      have e : nm (some (c :: l)) = some (c.toNat, l) := by simp only [nm, rdN]; rw [if_pos (by omega)]
      rw [e] at hQ
      exact hQ h3 F3 R3
    replace g := of_decide_eq_false g
    refine vif_mk (fun g2 => ?_) (fun g2 => ?_)
    · replace g2 := of_decide_eq_true g2
      refine e110 R3 (fun l' h => by cases h; omega) fun h6 F6 R6 => ⟨_, rfl, ?_⟩
      cases l with
      | nil =>
        have e : nm (some (c :: [])) = none := by simp only [nm, rdN]; rw [if_neg (by omega), if_pos (by omega)]
        rw [e] at hQ
        rw [fx1_nil] at R6
        exact e111 R6 (fun _ h9 F9 R9 => ⟨_, rfl, hQ h9 ((F3.trans F6).trans F9) R9⟩) (fun h => (h rfl).elim)
      | cons x l =>
        have hx := x.toNat_lt
        have e : nm (some (c :: x :: l)) = some (240 + (c.toNat - 240) * 256 + x.toNat, l) := by simp only [nm, rdN]; rw [if_neg (by omega), if_pos (by omega)]
        rw [e] at hQ
        rw [fx1] at R6 ⊢
        refine e111 R6 (fun h => by rcases h with h | h <;> cases h) (fun _ _ => ⟨_, rfl, ?_⟩)
        have e2 : shlK .i64 (wrapK .i64 ((c.toNat : Int) - 240)) 8 = (((c.toNat - 240) * 256 : Nat) : Int) := by
          have e : min ((8 : Int).toNat) IntKind.i64.bits = 8 := by decide
          rw [wrapK_i64 ⟨by omega, by omega⟩]
          simp only [shlK, e]
          have : (((c.toNat : Int) - 240) * 2 ^ 8) = (((c.toNat - 240) * 256 : Nat) : Int) := by omega
          rw [this]
          exact wrapK_i64 ⟨by omega, by omega⟩
        rw [valN_some, e2, wrapK_i64 (n := 240 + (((c.toNat - 240) * 256 : Nat) : Int)) ⟨by omega, by omega⟩, wrapK_i64 ⟨by omega, by omega⟩]
        have e3 : (240 + (((c.toNat - 240) * 256 : Nat) : Int) + (x.toNat : Int)) = ((240 + (c.toNat - 240) * 256 + x.toNat : Nat) : Int) := by omega
        rw [e3]
        exact hQ h6 (F3.trans F6) R6
    replace g2 := of_decide_eq_false g2
    refine vif_mk (fun g3 => ?_) (fun g3 => ?_)
    · replace g3 := of_decide_eq_true g3
      rw [wrapK_i64 (n := (c.toNat : Int) - 246) ⟨by omega, by omega⟩, wrapK_i64 (n := (c.toNat : Int) - 246 + 1) ⟨by omega, by omega⟩]
      have ek : ((c.toNat : Int) - 246) = ((c.toNat - 246 : Nat) : Int) := by omega
      rw [ek]
      generalize hk : c.toNat - 246 = k at *
      have ern : nm (some (c :: l)) = if k ≤ l.length ∧ beV (l.take k) < 9223372036854775808 ∧ 2288 ≤ beV (l.take k) ∧ wid (beV (l.take k)) = k then some (beV (l.take k), l.drop k) else none := by
        simp only [nm, rdN]
        rw [if_neg (by omega), if_neg (by omega), if_pos (by omega), hk]
      have efx : fx (k : Int) (some l) = if k ≤ l.length then (if beV (l.take k) < M63 then some (beV (l.take k), l.drop k) else none) else none := by
        unfold fx
        rw [if_pos (by omega)]
        simp only [tk]
        by_cases hkl : k ≤ l.length
        · rw [if_pos (by omega), if_pos hkl]; simp
        · rw [if_neg (by omega), if_neg hkl]
      refine e110 R3 (fun l' h => by cases h; omega) fun h12 F12 R12 => ⟨_, rfl, ?_⟩
      have bad : ∀ (h12 : Heap), Fr p h3 h12 → Rd h12 p (stO (fx (k : Int) (some l))) → nm (some (c :: l)) = none → ∀ n : Int, ∀ o', Rd h12 p o' → AC Try.prog 111 [.ptr (some ⟨p, 0⟩), .int .i64 n, .bool false] h12 fun v20 h21 => ∃ n22 : Int, v20 = .int .i64 n22 ∧ Q (.int .i64 n22) h21 := by
        intro h12 F12 R12 e n o' R'
        rw [e] at hQ
        exact e111 R' (fun _ h9 F9 R9 => ⟨_, rfl, hQ h9 ((F3.trans F12).trans F9) R9⟩) (fun _ h => by cases h)
      refine vif_mk (fun g4 => ?_) (fun g4 => ?_)
      · replace g4 := of_decide_eq_true g4
        by_cases hkl : k ≤ l.length
        · rw [if_pos hkl] at efx
          by_cases hv : beV (l.take k) < M63
          · rw [if_pos hv] at efx
            rw [efx] at R12 g4 ⊢
            rw [valN_some] at g4 ⊢
            simp only [stO] at R12
            refine e112 hv (by omega) ⟨_, rfl, ?_⟩
            refine e111 R12 (fun hor h9 F9 R9 => ⟨_, rfl, ?_⟩) (fun _ hb => ⟨_, rfl, ?_⟩)
            · rcases hor with hor | hor
              · cases hor
              · have hne : ¬ wid (beV (l.take k)) = k := by
                  intro he
                  rw [he] at hor
                  have : (((1 + k : Nat) : Int) == (k : Int) + 1) = true := by simp; omega
                  rw [this] at hor; cases hor
                rw [if_neg (fun h => hne h.2.2.2)] at ern
                rw [ern] at hQ
                exact hQ h9 ((F3.trans F12).trans F9) R9
            · have he : wid (beV (l.take k)) = k := by
                have : ((1 + wid (beV (l.take k)) : Nat) : Int) = (k : Int) + 1 := by simpa using hb
                omega
              rw [if_pos ⟨hkl, hv, by omega, he⟩] at ern
              rw [ern] at hQ
              exact hQ h12 (F3.trans F12) R12
          · rw [if_neg hv] at efx
            rw [efx] at g4
            simp only [valN] at g4; omega
        · rw [if_neg hkl] at efx
          rw [efx] at g4
          simp only [valN] at g4; omega
      · replace g4 := of_decide_eq_false g4
        refine bad h12 F12 R12 ?_ _ _ R12
        rw [ern, if_neg]
        rintro ⟨a1, a2, a3, a4⟩
        rw [if_pos a1, if_pos (by simp only [M63]; exact a2)] at efx
        rw [efx, valN_some] at g4
        omega
    · replace g3 := of_decide_eq_false g3
      have e : nm (some (c :: l)) = none := by simp only [nm, rdN]; rw [if_neg (by omega), if_neg (by omega), if_neg (by omega)]
      rw [e] at hQ
      exact e113 R3 fun h' F R' => ⟨_, rfl, hQ h' (F3.trans F) R'⟩)
end
end Go.Proofs.Ytceplmmmlindnaa

/- What any bytes are as an edit: the engine's Get. -/
namespace Go.Proofs.Ytceplmmmlindnaa
open Go.Ab
set_option linter.unusedVariables false
set_option linter.unusedSimpArgs false

def rdRs : Nat → Option Bs → Option (List Rf × Bs)
  | 0, o => (match o with | some l => some ([], l) | none => none)
  | n + 1, o => (match nm (stO (nm (stO (tx 24 o)))) with
    | none => none
    | some (c, l) => (match rdRs n (some l) with
      | some (rs, l') => some ((valS (tx 24 o), valN (nm (stO (tx 24 o))), (c : Int)) :: rs, l')
      | none => none))
def rdE (b : Bs) : Option ED :=
  match nm (stO (nm (stO (nm (stO (nm (some b))))))) with
  | none => none
  | some (n, l) => if n > 256 then none else (match rdRs n (some l) with
    | some (rs, l') => if l' = [] ∧ chk (valN (nm (some b)), valN (nm (stO (nm (some b)))), valN (nm (stO (nm (stO (nm (some b)))))), rs) = true then some (valN (nm (some b)), valN (nm (stO (nm (some b)))), valN (nm (stO (nm (stO (nm (some b)))))), rs) else none
    | none => none)
theorem rdRs_none : ∀ {n : Nat}, rdRs n none = none
  | 0 => rfl
  | n + 1 => by
    have e : nm (stO (nm (stO (tx 24 none)))) = none := rfl
    simp only [rdRs, e]

def Bd (o : Option Bs) : Prop := ∀ l, o = some l → l.length ≤ 100000
theorem Bd.nm {o : Option Bs} (B : Bd o) : Bd (stO (nm o)) := by
  intro l hl
  cases o with
  | none => cases hl
  | some l0 =>
    have := B l0 rfl
    simp only [Go.Proofs.Ytceplmmmlindnaa.nm] at hl
    cases hr : rdN l0 with
    | none => rw [hr] at hl; cases hl
    | some r => rw [hr] at hl; cases hl; have := rdN_len hr; omega
theorem Bd.tx {o : Option Bs} {m : Nat} (B : Bd o) : Bd (stO (tx m o)) := by
  intro l hl
  cases o with
  | none => cases hl
  | some l0 =>
    have := B l0 rfl
    simp only [Go.Proofs.Ytceplmmmlindnaa.tx] at hl
    cases hr : rdT m l0 with
    | none => rw [hr] at hl; cases hl
    | some r => rw [hr] at hl; cases hl; have := rdT_len hr; omega

section
variable {h : Heap} {Q : AV → Heap → Prop} {p : Nat} {o : Option Bs}
set_option maxRecDepth 20000 in
/-- Text. -/
theorem e72 {m : Nat} (R : Rd h p o) (hl : Bd o) (hQ : ∀ h', Fr p h h' → Rd h' p (stO (tx m o)) → Q (.str (valS (tx m o))) h') : AC Try.prog 72 [.ptr (some ⟨p, 0⟩), .int .i64 m] h Q := ac72 (by
  unfold vc72
  refine e70 R hl fun h4 F4 R4 => ⟨_, rfl, ?_⟩
  refine e71 R4 ⟨_, rfl, ?_⟩
  have bad : tx m o = none → ∀ o' h', Fr p h h' → Rd h' p o' → AC Try.prog 113 [.ptr (some ⟨p, 0⟩)] h' fun v9 h10 => ∃ n11 : Int, v9 = .int .i64 n11 ∧ Q (.str []) h10 := by
    intro e o' h' F R'
    rw [e] at hQ
    exact e113 R' fun h2 F2 R2 => ⟨_, rfl, hQ h2 (F.trans F2) R2⟩
  have hB := hl.nm
  cases o with
  | none => exact vif_mk (fun _ => bad rfl _ _ F4 R4) (fun g => by cases g)
  | some l =>
  have etx : tx m (some l) = match rdN l with | some (n, l') => if n ≤ m ∧ n ≤ l'.length then some (l'.take n, l'.drop n) else none | none => none := rfl
  have enm : nm (some l) = rdN l := rfl
  cases hr : rdN l with
  | none =>
    rw [hr] at etx enm
    refine vif_mk (fun _ => bad etx _ _ F4 R4) (fun g => ?_)
    rw [enm] at g; cases g
  | some r =>
    obtain ⟨n, l'⟩ := r
    rw [hr] at etx enm
    rw [enm] at R4 hB ⊢
    simp only [stO] at R4
    rw [valN_some]
    refine vif_mk (fun g => by cases g) (fun _ => vif_mk (fun g => ?_) (fun g => ?_))
    · replace g := of_decide_eq_true g
      refine bad ?_ _ _ F4 R4
      rw [etx]; simp only; rw [if_neg (by omega)]
    · replace g := of_decide_eq_false g
      refine e114 R4 hB (fun ht h' F' R' => ⟨_, rfl, ?_⟩) (fun a b ht q h' F' H' _ R' => ⟨_, rfl, ?_⟩)
      · have : tx m (some l) = none := by
          rw [etx]; simp only
          rw [if_neg]
          rintro ⟨_, h2⟩
          simp only [tk] at ht
          rw [if_pos (by omega)] at ht
          cases ht
        rw [this] at hQ
        exact ⟨[], rfl, hQ h' (F4.trans F') R'⟩
      · obtain ⟨l2, e1, b1, b2, rfl, rfl⟩ := tk_some ht
        cases e1
        have : tx m (some l) = some (l'.take n, l'.drop n) := by
          rw [etx]; simp only
          rw [if_pos (by omega)]
        rw [this] at hQ
        simp only [Int.toNat_natCast] at H' R'
        refine ⟨l'.take n, ?_, hQ h' (F4.trans F') R'⟩
        have := H'.cells
        rw [byE_all] at this
        simpa [byE] using this)

/-- Done. -/
theorem e73 (R : Rd h p o) (hQ : Q (.int .i64 (match o with | none => 10 | some l => if l = [] then 0 else 10)) h) : AC Try.prog 73 [.ptr (some ⟨p, 0⟩)] h Q := ac73 (by
  unfold vc73
  refine e71 R ⟨_, rfl, ?_⟩
  cases o with
  | none => exact vif_mk (fun _ => hQ) (fun g => by cases g)
  | some l =>
    refine vif_mk (fun g => by cases g) (fun _ => ?_)
    obtain ⟨q, c1, c2, c3⟩ := rd_buf R
    have c4 := c2.len
    refine ⟨q, c1, vif_mk (fun g => ?_) (fun g => ?_)⟩
    · replace g := of_decide_eq_true g
      have : l ≠ [] := by intro h; rw [h] at c4; simp at c4; omega
      simp only [if_neg this] at hQ; exact hQ
    · replace g := of_decide_eq_false g
      have : l = [] := List.eq_nil_of_length_eq_zero (by omega)
      simp only [if_pos this] at hQ; exact hQ)

/-- From. -/
theorem e69 {q : Option SL} {l : Bs} (H : HasL byE h q l) (hl : l.length ≤ 100000) (hQ : ∀ p h', Ext h h' → h.length ≤ p → Rd h' p (some l) → Q (.ptr (some ⟨p, 0⟩)) h') : AC Try.prog 69 [.sl q] h Q := ac69 (by
  unfold vc69 PNew
  refine e94 H hl fun q4 h3 hx H4 _ => ⟨q4, rfl, hQ _ _ (hx.trans (Ext.app _ _)) hx.len ⟨q4, by simp, H4.mono (Ext.app _ _), fun s hs => HasL.live H4 s hs⟩⟩)

/-- What changes at p and from m on only, p itself being new: the old blocks are as they were. -/
theorem Fr.ext {h0 h' : Heap} (F : Fr p h h') (K : Ext h0 h) (hp : h0.length ≤ p) : Ext h0 h' := fun b B hB => F.keeps b B (fun he => by have he : b = p := he; have := lt_of_get hB; omega) (K _ _ hB)

set_option maxRecDepth 20000 in
/-- edit.Get. -/
theorem e19 {q : Option SL} {l : Bs} (H : HasL byE h q l) (hl : l.length ≤ 100000) (hQ0 : rdE l = none → ∀ h', Ext h h' → Q (.tup [evV zeroV, .int .i64 140]) h') (hQ1 : ∀ d e h', rdE l = some d → Ext h h' → EdR h' e d → Q (.tup [evV e, .int .i64 0]) h') : AC Try.prog 19 [.sl q] h Q := ac19 (by
  unfold vc19
  refine e69 H hl fun p h3 hx3 hp R0 => ⟨_, rfl, ?_⟩
  have B0 : Bd (some l) := fun l' h => by cases h; exact hl
  refine e70 R0 B0 fun h6 F1 R1 => ⟨_, rfl, ?_⟩
  refine e70 R1 B0.nm fun h9 F2 R2 => ⟨_, rfl, ?_⟩
  refine e70 R2 B0.nm.nm fun h12 F3 R3 => ⟨_, rfl, ?_⟩
  refine e70 R3 B0.nm.nm.nm fun h15 F4 R4 => ⟨_, rfl, ?_⟩
  refine e71 R4 ⟨_, rfl, ?_⟩
  have B4 := B0.nm.nm.nm.nm
  have x15 : Ext h h15 := (((F1.trans F2).trans F3).trans F4).ext hx3 hp
  have erd : rdE l = match nm (stO (nm (stO (nm (stO (nm (some l))))))) with
    | none => none
    | some (n, l1) => if n > 256 then none else (match rdRs n (some l1) with
      | some (rs, l') => if l' = [] ∧ chk (valN (nm (some l)), valN (nm (stO (nm (some l)))), valN (nm (stO (nm (stO (nm (some l)))))), rs) = true then some (valN (nm (some l)), valN (nm (stO (nm (some l)))), valN (nm (stO (nm (stO (nm (some l)))))), rs) else none
      | none => none) := rfl
  generalize valN (nm (some l)) = v1 at *
  generalize valN (nm (stO (nm (some l)))) = v2 at *
  generalize valN (nm (stO (nm (stO (nm (some l)))))) = v3 at *
  generalize nm (stO (nm (stO (nm (stO (nm (some l))))))) = r4 at *
  cases r4 with
  | none =>
    exact vif_mk (fun _ => hQ0 erd h15 x15) (fun g => by cases g)
  | some r =>
  obtain ⟨N, l1⟩ := r
  simp only [stO] at R4 B4
  rw [valN_some]
  refine vif_mk (fun g => by cases g) (fun _ => vif_mk (fun g => ?_) (fun g => ?_))
  · replace g := of_decide_eq_true g
    simp only at erd
    rw [if_pos (by omega)] at erd
    exact hQ0 erd h15 x15
  replace g := of_decide_eq_false g
  simp only at erd
  rw [if_neg (by omega)] at erd
  have hp15 : p < h15.length := R4.live
  refine ⟨fun xs h27 => ∃ (i : Nat) (q24 : Option SL) (rs : List Rf) (o : Option Bs), xs = [.int .i64 i, .int .i64 v1, .int .i64 v2, .int .i64 v3, .sl q24] ∧ i ≤ N ∧ rs.length = i ∧ Ext h h27 ∧ Rd h27 p o ∧ Bd o ∧ App refE h27 q24 rs ∧ (∀ s, q24 = some s → p < s.b) ∧
      rdRs N (some l1) = (match rdRs (N - i) o with | some (rs', l') => some (rs ++ rs', l') | none => none),
    fun xs _ => match xs with | [.int _ i, _, _, _, _] => (N - i).toNat | _ => 0, ⟨0, none, [], some l1, rfl, by omega, rfl, x15, R4, B4, .inl ⟨rfl, rfl⟩, fun s hs => (by cases hs), ?_⟩, ?_⟩
  · rw [Nat.sub_zero]
    cases rdRs N (some l1) with
    | none => rfl
    | some x => rfl
  rintro n20 n21 n22 n23 q24 h27 ⟨i', q24', rs, o, hx, hi, hrs, x27, R, B, A, hq, hI⟩
  simp only [List.cons.injEq, AV.int.injEq, AV.sl.injEq, true_and, and_true] at hx
  obtain ⟨rfl, rfl, rfl, rfl, rfl⟩ := hx
  refine vif_mk (fun g2 => ?_) (fun g2 => ?_)
  · replace g2 := of_decide_eq_true g2
    refine e72 (m := 24) R B fun h29 F29 R29 => ⟨_, rfl, rfl, ?_⟩
    refine e70 R29 B.tx fun h32 F32 R32 => ⟨_, rfl, rfl, ?_⟩
    refine e70 R32 B.tx.nm fun h35 F35 R35 => ⟨_, rfl, rfl, ?_⟩
    have F := (F29.trans F32).trans F35
    have A35 : App refE h35 q24 rs := A.keeps F.keeps (fun s hs he => by have := hq s hs; have he : s.b = p := he; omega)
    have x35 : Ext h h35 := F.ext x27 (by have := hx3.len; omega)
    unfold PNew
    have xn : Ext h35 (h35 ++ [.cells [.str (valS (tx 24 o)), .int .i64 (valN (nm (stO (tx 24 o)))), .int .i64 (valN (nm (stO (nm (stO (tx 24 o))))))] true]) := .app _ _
    have hsrc : HasL refE (h35 ++ [.cells [.str (valS (tx 24 o)), .int .i64 (valN (nm (stO (tx 24 o)))), .int .i64 (valN (nm (stO (nm (stO (tx 24 o))))))] true]) (some ⟨h35.length, 0, 1, 1, 0⟩) [(valS (tx 24 o), valN (nm (stO (tx 24 o))), valN (nm (stO (nm (stO (tx 24 o))))))] := HasL.new (E := refE) (l := [(valS (tx 24 o), valN (nm (stO (tx 24 o))), valN (nm (stO (nm (stO (tx 24 o))))))]) rfl (by simp [Enc.all, refE])
    refine ⟨rfl, App.append (E := refE) (A35.ext xn) hsrc (by simp; omega) fun q39 h40 A40 K40 hl40 hq40 => ?_⟩
    rw [wrapK_i64 ⟨by omega, by omega⟩]
    have hpl := R35.live
    refine ⟨⟨trivial, rfl, trivial⟩, ⟨i' + 1, q39, _, stO (nm (stO (nm (stO (tx 24 o))))), by simp, by omega, by simp [hrs], ?_, ?_, B.tx.nm.nm, A40, ?_, ?_⟩, by simp only; omega⟩
    · intro b B' hB
      exact K40 b B' (fun ⟨s, a1, a2⟩ => by have := hq s a1; have := lt_of_get hB; have := hx3.len; omega) (xn _ _ (x35 _ _ hB))
    · exact (R35.ext xn).keeps K40 (fun b hb ⟨s, a1, a2⟩ => by have := hq s a1; omega)
    · intro s hs
      rcases hq40 s hs with a | ⟨s', a1, a2⟩
      · simp at a; omega
      · have := hq s' a1; omega
    · rw [hI]
      obtain ⟨k, hk⟩ : ∃ k, N - i' = k + 1 := ⟨N - i' - 1, by omega⟩
      have hk2 : N - (i' + 1) = k := by omega
      rw [hk, hk2]
      simp only [rdRs]
      generalize tx 24 o = r1
      generalize nm (stO r1) = r2
      generalize nm (stO r2) = r3
      cases r3 with
      | none => simp only [stO, rdRs_none]
      | some r3 =>
        obtain ⟨c, l3⟩ := r3
        simp only [stO, valN_some]
        cases rdRs k (some l3) with
        | none => rfl
        | some x => obtain ⟨rs', l'⟩ := x; simp
  · replace g2 := of_decide_eq_false g2
    have : i' = N := by omega
    subst this
    rw [Nat.sub_self] at hI
    refine e73 R ⟨_, rfl, ?_⟩
    cases o with
    | none =>
      simp only [rdRs] at hI
      rw [hI] at erd
      exact vif_mk (fun _ => hQ0 erd h27 x27) (fun g => by cases g)
    | some l' =>
      simp only [rdRs] at hI
      rw [hI] at erd
      simp only [List.append_nil] at erd
      by_cases hl' : l' = []
      · simp only [if_pos hl']
        refine vif_mk (fun g => by cases g) (fun _ => ?_)
        refine u18 (e := (n21, n22, n23, q24)) (d := (n21, n22, n23, rs)) ⟨rfl, rfl, rfl, A.hasL⟩ ⟨_, rfl, ?_⟩
        cases hc : chk (n21, n22, n23, rs) with
        | true =>
          rw [if_pos ⟨hl', hc⟩] at erd
          exact vif_mk (fun g => by cases g) (fun _ => hQ1 (n21, n22, n23, rs) (n21, n22, n23, q24) h27 erd x27 ⟨rfl, rfl, rfl, A.hasL⟩)
        | false =>
          rw [if_neg (fun hh => by rw [hc] at hh; cases hh.2)] at erd
          exact vif_mk (fun _ => hQ0 erd h27 x27) (fun g => by cases g)
      · simp only [if_neg hl']
        rw [if_neg (fun hh => hl' hh.1)] at erd
        exact vif_mk (fun _ => hQ0 erd h27 x27) (fun g => by cases g))
end
end Go.Proofs.Ytceplmmmlindnaa

/- The document's reader; its Get. -/
namespace Go.Proofs.Ytceplmmmlindnaa
open Go.Ab
set_option linter.unusedVariables false
set_option linter.unusedSimpArgs false

theorem beV_append {a b : Bs} : beV (a ++ b) = beV a * 256 ^ b.length + beV b := by
  induction b using snoc_ind with
  | h0 => simp [beV]
  | h1 l x ih =>
    rw [← List.append_assoc, beV_snoc, beV_snoc, ih, List.length_append, List.length_cons, List.length_nil, Nat.pow_succ, Nat.add_mul, Nat.mul_assoc]
    omega
theorem beV_take_le {a : Bs} {i : Nat} : beV (a.take i) ≤ beV a := by
  have : beV a = beV (a.take i) * 256 ^ (a.drop i).length + beV (a.drop i) := by rw [← beV_append, List.take_append_drop]
  have h2 : 0 < 256 ^ (a.drop i).length := Nat.pow_pos (by omega)
  have := Nat.le_mul_of_pos_right (beV (a.take i)) h2
  omega
theorem beV_hi {a : Bs} {c : UInt8} (h8 : a.length = 8) (h0 : a[0]? = some c) : beV a < M63 ↔ c.toNat ≤ 127 := by
  cases a with
  | nil => cases h0
  | cons x t =>
    simp at h0
    subst h0
    have hl : t.length = 7 := by simpa using h8
    have e : beV (x :: t) = x.toNat * 256 ^ 7 + beV t := by
      have := beV_append (a := [x]) (b := t)
      rw [hl] at this
      have e1 : beV [x] = x.toNat := by simp [beV]
      rw [e1] at this
      exact this
    have hb := beV_lt t
    rw [hl] at hb
    rw [e]
    simp only [M63]
    omega
theorem beV_lo {a : Bs} (h : a.length ≤ 7) : beV a < M63 := by
  have h1 := beV_lt a
  have h3 : 256 ^ a.length ≤ 256 ^ 7 := Nat.pow_le_pow_right (by omega) h
  simp only [M63]; omega

section
variable {h : Heap} {Q : AV → Heap → Prop} {p : Nat} {o : Option Bs}
set_option maxRecDepth 20000 in
/-- Bytes. -/
theorem u116 {n : Int} (R : Rd h p o) (hl : Bd o) (hQ0 : tk n o = none → ∀ h', Fr p h h' → Rd h' p none → Q (.sl none) h')
    (hQ1 : ∀ a b, tk n o = some (a, b) → ∀ q h', Fr p h h' → HasL byE h' q a → (∀ s, q = some s → h.length ≤ s.b) → Rd h' p (some b) → Q (.sl q) h') : AC Try.prog 116 [.ptr (some ⟨p, 0⟩), .int .i64 n] h Q := ac116 (by
  unfold vc116
  refine ⟨_, rd_bad R, ?_⟩
  cases o with
  | none => exact vif_mk (fun _ => rd_fail R fun h' F R' => hQ0 rfl h' F R') (fun g => by cases g)
  | some l =>
    refine vif_mk (fun g => by cases g) (fun _ => ?_)
    obtain ⟨q, c1, c2, c3⟩ := rd_buf R
    have c4 := c2.len
    refine vif_mk (fun g => ?_) (fun g => ?_)
    · replace g := of_decide_eq_true g
      exact rd_fail R fun h' F R' => hQ0 (by simp only [tk]; rw [if_neg (by omega)]) h' F R'
    replace g := of_decide_eq_false g
    refine ⟨q, c1, vif_mk (fun g2 => ?_) (fun g2 => ?_)⟩
    · replace g2 := of_decide_eq_true g2
      exact rd_fail R fun h' F R' => hQ0 (by simp only [tk]; rw [if_neg (by omega)]) h' F R'
    replace g2 := of_decide_eq_false g2
    have hll := hl l rfl
    unfold PNew
    have x0 : Ext h (h ++ [.cells [] true]) := .app _ _
    refine ⟨q, x0.cells c1, HasL.slice (E := byE) (c2.mono x0) (by omega) (by simp; omega) (by simp; omega) fun q19 H19 => ?_⟩
    have H19 : HasL byE (h ++ [.cells [] true]) q19 (l.take n.toNat) := by simpa using H19
    refine copy0 (E := byE) (a := h.length) (by simp) H19 (by have := List.length_take_le' n.toNat l; omega) fun q22 h21 hx' O hq22 => ?_
    have hx := x0.trans hx'
    have hq22' : ∀ s, q22 = some s → h.length ≤ s.b := fun s hs => by
      rcases hq22 s hs with a | a
      · omega
      · simp at a; omega
    refine ⟨q, hx.cells c1, ?_⟩
    refine HasL.slice2 (E := byE) (c2.mono hx) (by omega) (by simp; omega) (by simp) fun q25 H25 hq25 => ?_
    have H25 : HasL byE h21 q25 (l.drop n.toNat) := by simpa using H25
    have hpl := R.live
    refine rd_cut (R.ext hx) H25 (fun s hs => by obtain ⟨s', a1, a2⟩ := hq25 s hs; rw [a2]; exact c3 s' a1) fun h27 F27 R27 => ?_
    refine hQ1 (l.take n.toNat) (l.drop n.toNat) (by simp only [tk]; rw [if_pos (by omega)]) q22 h27 ((Fr.ofExt hx).trans F27) (F27.keeps.hasL (fun s hs he => by have := hq22' s hs; have he : s.b = p := he; omega) O.hasL) hq22' R27)

/-- The loop of Fixed. -/
theorem fix_loop {a : Bs} {q9 : Option SL} {n2 : Int} {h8 : Heap} (H : HasL byE h8 q9 a) (hn : n2 = a.length) (h8' : a.length ≤ 8) (hv : beV a < M63) (hQ : Q (.int .i64 ((beV a : Nat) : Int)) h8) :
    (∃ (I20 : List AV → Heap → Prop) (m21 : List AV → Heap → Nat), I20 [.int .i64 0, .int .i64 0] h8 ∧
    ∀ n18 : Int, ∀ n19 : Int, ∀ h22 : Heap, I20 [.int .i64 n18, .int .i64 n19] h22 →
    vif (decide (n19 < n2))
    (vIdx q9 n19 1 fun p23 =>
    ∃ n24 : Int, cellsAt h22 p23 1 = some [.int .u8 n24] ∧
    (True) ∧ I20 [.int .i64 (wrapK .i64 ((wrapK .i64 (256 * n18)) + (wrapK .i64 n24))), .int .i64 (wrapK .i64 (n19 + 1))] h22 ∧ m21 [.int .i64 (wrapK .i64 ((wrapK .i64 (256 * n18)) + (wrapK .i64 n24))), .int .i64 (wrapK .i64 (n19 + 1))] h22 < m21 [.int .i64 n18, .int .i64 n19] h22)
    (Q (.int .i64 n18) h22)) := by
  subst hn
  simp only [M63] at hv
  refine ⟨fun xs h16 => h16 = h8 ∧ ∃ i : Nat, xs = [.int .i64 ((beV (a.take i) : Nat) : Int), .int .i64 i] ∧ i ≤ a.length, fun xs _ => match xs with | [_, .int _ i] => (a.length - i).toNat | _ => 0, ⟨rfl, 0, rfl, by omega⟩, ?_⟩
  rintro n12 n13 h16 ⟨rfl, i', hx, hi⟩
  simp only [List.cons.injEq, AV.int.injEq, true_and, and_true] at hx
  obtain ⟨rfl, rfl⟩ := hx
  refine vif_mk (fun g => ?_) (fun g => ?_)
  · replace g := of_decide_eq_true g
    refine HasL.idx (E := byE) H (by omega) (by omega) fun pp x hx hc => ⟨((x.toNat : Nat) : Int), hc, ?_⟩
    have hx' : a[i']? = some x := by simpa using hx
    have e := beV_take hx'
    have hb := beV_take_le (a := a) (i := i' + 1)
    have hx8 := x.toNat_lt
    rw [wrapK_i64 (n := (x.toNat : Int)) ⟨by omega, by omega⟩, wrapK_i64 (n := 256 * ((beV (a.take i') : Nat) : Int)) ⟨by omega, by omega⟩, wrapK_i64 (n := 256 * ((beV (a.take i') : Nat) : Int) + (x.toNat : Int)) ⟨by omega, by omega⟩, wrapK_i64 (n := (i' : Int) + 1) ⟨by omega, by omega⟩]
    exact ⟨trivial, ⟨rfl, i' + 1, by rw [e]; simp; omega, by omega⟩, by simp only; omega⟩
  · replace g := of_decide_eq_false g
    have : i' = a.length := by omega
    subst this
    rw [List.take_length]
    exact hQ

set_option maxRecDepth 20000 in
/-- Fixed. -/
theorem u117 {k : Int} (R : Rd h p o) (hl : Bd o) (hQ : ∀ h', Fr p h h' → Rd h' p (stO (fx k o)) → Q (.int .i64 (valN (fx k o))) h') : AC Try.prog 117 [.ptr (some ⟨p, 0⟩), .int .i64 k] h Q := ac117 (by
  unfold vc117
  refine vif_mk (fun g => ?_) (fun g => ?_)
  · replace g := of_decide_eq_true g
    have e : fx k o = none := by unfold fx; rw [if_neg (by omega)]
    rw [e] at hQ
    exact rd_fail R fun h' F R' => hQ h' F R'
  replace g := of_decide_eq_false g
  refine vif_mk (fun g2 => ?_) (fun g2 => ?_)
  · replace g2 := of_decide_eq_true g2
    have e : fx k o = none := by unfold fx; rw [if_neg (by omega)]
    rw [e] at hQ
    exact rd_fail R fun h' F R' => hQ h' F R'
  replace g2 := of_decide_eq_false g2
  have efx : fx k o = match tk k o with | some (a, b) => if beV a < M63 then some (beV a, b) else none | none => none := by unfold fx; rw [if_pos (by omega)] <;> rfl
  refine u116 R hl (fun ht h10 F10 R10 => ⟨none, rfl, ?_⟩) (fun a b ht q11 h10 F10 H11 _ R10 => ⟨q11, rfl, ?_⟩)
  · rw [ht] at efx
    rw [efx] at hQ
    refine ⟨_, rd_bad R10, vif_mk (fun _ => ?_) (fun g => by cases g)⟩
    exact rd_fail R10 fun h' F R' => hQ h' (F10.trans F) R'
  · rw [ht] at efx
    simp only at efx
    refine ⟨_, rd_bad R10, vif_mk (fun g => by cases g) (fun _ => ?_)⟩
    obtain ⟨l, rfl, b1, b2, rfl, rfl⟩ := tk_some ht
    generalize ha : l.take k.toNat = a at *
    have hal : a.length = k.toNat := by rw [← ha, List.length_take]; omega
    have good : beV a < M63 → Q (.int .i64 ((beV a : Nat) : Int)) h10 := by
      intro hv
      rw [if_pos hv] at efx
      rw [efx] at hQ
      exact hQ h10 F10 R10
    refine vif_mk (fun g3 => ?_) (fun g3 => ?_)
    · have g3 : k = 8 := by simpa using g3
      refine HasL.idx (E := byE) H11 (by omega) (by omega) fun pp x hx hc => ⟨((x.toNat : Nat) : Int), hc, ?_⟩
      have hx' : a[0]? = some x := by simpa using hx
      have hh := beV_hi (by omega) hx'
      refine vif_mk (fun g4 => ?_) (fun g4 => ?_)
      · replace g4 := of_decide_eq_true g4
        rw [if_neg (fun hv => by have := hh.1 hv; omega)] at efx
        rw [efx] at hQ
        exact rd_fail R10 fun h' F R' => hQ h' (F10.trans F) R'
      · replace g4 := of_decide_eq_false g4
        have hv := hh.2 (by omega)
        exact fix_loop H11 (by omega) (by omega) hv (good hv)
    · have g3 : ¬ k = 8 := by simpa using g3
      have hv := beV_lo (a := a) (by omega)
      exact fix_loop H11 (by omega) (by omega) hv (good hv))

set_option maxRecDepth 20000 in
theorem u118 {n : Nat} (hn : n < 256) (hQ : Q (.int .i64 ((if n < 248 then 2 else n - 245 : Nat) : Int)) h) : AC Try.prog 118 [.int .i64 n] h Q := ac118 (by
  unfold vc118
  refine vif_mk (fun g => ?_) (fun g => ?_)
  · replace g := of_decide_eq_true g
    rw [if_pos (by omega)] at hQ; exact hQ
  · replace g := of_decide_eq_false g
    rw [if_neg (by omega)] at hQ
    rw [wrapK_i64 ⟨by omega, by omega⟩]
    have : ((n : Int) - 245) = ((n - 245 : Nat) : Int) := by omega
    rw [this]; exact hQ)
end
end Go.Proofs.Ytceplmmmlindnaa

/- The document's Get. -/
namespace Go.Proofs.Ytceplmmmlindnaa
open Go.Ab
set_option linter.unusedVariables false
set_option linter.unusedSimpArgs false

theorem tk1 {c : UInt8} {l : Bs} : tk 1 (some (c :: l)) = some ([c], l) := by simp [tk]; omega
theorem numB_len_eq {n : Nat} : (numB n).length = if n < 240 then 1 else if n < 2288 then 2 else 1 + wid n := by
  unfold numB
  split
  · rfl
  · split
    · rfl
    · simp [beL_len]; omega

theorem vptr_mk {p : PA} {K : PA → Prop} (h : K p) : vPtr (some p) K := h
section
variable {h : Heap} {Q : AV → Heap → Prop} {p : Nat} {o : Option Bs}
set_option maxRecDepth 20000 in
/-- Num. -/
theorem u77 (R : Rd h p o) (hl : Bd o) (hQ : ∀ h', Fr p h h' → Rd h' p (stO (nm o)) → Q (.int .i64 (valN (nm o))) h') : AC Try.prog 77 [.ptr (some ⟨p, 0⟩)] h Q := ac77 (by
  unfold vc77
  have bad0 : nm o = none → ∀ o' h3, Fr p h h3 → Rd h3 p o' → PStore h3 ⟨p, 0 + 1⟩ [.bool true] fun h4 => Q (.int .i64 0) h4 := by
    intro e o' h3 F3 R3
    rw [e] at hQ
    exact rd_fail R3 fun h4 F4 R4 => hQ h4 (F3.trans F4) R4
  refine u116 R hl (fun ht h3 F3 R3 => ⟨none, rfl, ?_⟩) (fun a b ht q4 h3 F3 H3 _ R3 => ⟨q4, rfl, ?_⟩)
  · refine ⟨_, rd_bad R3, vif_mk (fun _ => ?_) (fun g => by cases g)⟩
    match o with
    | none => exact hQ h3 F3 R3
    | some [] => exact hQ h3 F3 R3
    | some (c :: l) => rw [tk1] at ht; cases ht
  · refine ⟨_, rd_bad R3, vif_mk (fun g => by cases g) (fun _ => ?_)⟩
    match o with
    | none => cases ht
    | some [] => simp [tk] at ht
    | some (c :: l) =>
      rw [tk1] at ht
      simp only [Option.some.injEq, Prod.mk.injEq] at ht
      obtain ⟨rfl, rfl⟩ := ht
      have hcl := hl _ rfl
      rw [List.length_cons] at hcl
      have hc := c.toNat_lt
      refine HasL.idx (E := byE) H3 (by omega) (by simp) fun pp x hx hcx => ?_
      have hx : c = x := by simpa using hx
      subst hx
      refine ⟨((c.toNat : Nat) : Int), hcx, ?_⟩
      rw [wrapK_i64 (n := (c.toNat : Int)) ⟨by omega, by omega⟩]
      refine vif_mk (fun g => ?_) (fun g => ?_)
      · replace g := of_decide_eq_true g
        have e : nm (some (c :: l)) = some (c.toNat, l) := by simp only [nm, rdN]; rw [if_pos (by omega)]
        rw [e] at hQ
        exact hQ h3 F3 R3
      replace g := of_decide_eq_false g
      refine vif_mk (fun g2 => ?_) (fun g2 => ?_)
      · replace g2 := of_decide_eq_true g2
        refine u117 R3 (fun l' h => by cases h; omega) fun h6 F6 R6 => ⟨_, rfl, ?_⟩
        cases l with
        | nil =>
          have e : nm (some (c :: [])) = none := by simp only [nm, rdN]; rw [if_neg (by omega), if_pos (by omega)]
          rw [fx1_nil] at R6
          exact ⟨_, rd_bad R6, vif_mk (fun _ => bad0 e _ _ (F3.trans F6) R6) (fun g => by cases g)⟩
        | cons x l =>
          have hx := x.toNat_lt
          have e : nm (some (c :: x :: l)) = some (240 + (c.toNat - 240) * 256 + x.toNat, l) := by simp only [nm, rdN]; rw [if_neg (by omega), if_pos (by omega)]
          rw [e] at hQ
          rw [fx1] at R6 ⊢
          simp only [stO] at R6
          refine ⟨_, rd_bad R6, vif_mk (fun g => by cases g) (fun _ => ?_)⟩
          rw [valN_some, wrapK_i64 (n := (c.toNat : Int) - 240) ⟨by omega, by omega⟩, wrapK_i64 (n := 256 * ((c.toNat : Int) - 240)) ⟨by omega, by omega⟩, wrapK_i64 (n := 240 + 256 * ((c.toNat : Int) - 240)) ⟨by omega, by omega⟩, wrapK_i64 (n := 240 + 256 * ((c.toNat : Int) - 240) + (x.toNat : Int)) ⟨by omega, by omega⟩]
          have e3 : (240 + 256 * ((c.toNat : Int) - 240) + (x.toNat : Int)) = ((240 + (c.toNat - 240) * 256 + x.toNat : Nat) : Int) := by omega
          rw [e3]
          refine t74 (by simp only [M63]; omega) fun q18 h17 N => ⟨q18, rfl, ?_⟩
          refine u118 hc ⟨_, rfl, ?_⟩
          have hln := N.hasL.len
          rw [numB_len_eq, if_neg (by omega), if_pos (by omega)] at hln
          rw [hln, if_pos (by omega)]
          refine vif_mk (fun g => by cases g) (fun _ => ?_)
          exact hQ h17 ((F3.trans F6).trans (Fr.ofExt N.1)) (R6.ext N.1)
      replace g2 := of_decide_eq_false g2
      refine vif_mk (fun g3 => ?_) (fun g3 => ?_)
      · replace g3 := of_decide_eq_true g3
        rw [wrapK_i64 (n := (c.toNat : Int) - 246) ⟨by omega, by omega⟩]
        have ek : ((c.toNat : Int) - 246) = ((c.toNat - 246 : Nat) : Int) := by omega
        rw [ek]
        generalize hk : c.toNat - 246 = k at *
        have ern : nm (some (c :: l)) = if k ≤ l.length ∧ beV (l.take k) < 9223372036854775808 ∧ 2288 ≤ beV (l.take k) ∧ wid (beV (l.take k)) = k then some (beV (l.take k), l.drop k) else none := by
          simp only [nm, rdN]
          rw [if_neg (by omega), if_neg (by omega), if_pos (by omega), hk]
        have efx : fx (k : Int) (some l) = if k ≤ l.length then (if beV (l.take k) < M63 then some (beV (l.take k), l.drop k) else none) else none := by
          unfold fx
          rw [if_pos (by omega)]
          simp only [tk]
          by_cases hkl : k ≤ l.length
          · rw [if_pos (by omega), if_pos hkl]; simp
          · rw [if_neg (by omega), if_neg hkl]
        refine u117 R3 (fun l' h => by cases h; omega) fun h12 F12 R12 => ⟨_, rfl, ?_⟩
        refine ⟨_, rd_bad R12, ?_⟩
        by_cases hok : k ≤ l.length ∧ beV (l.take k) < M63
        · rw [if_pos hok.1, if_pos hok.2] at efx
          rw [efx] at R12 ⊢
          simp only [stO] at R12
          rw [valN_some]
          refine vif_mk (fun g => by cases g) (fun _ => ?_)
          have h63 := hok.2
          simp only [M63] at h63
          refine t74 hok.2 fun q18 h17 N => ⟨q18, rfl, ?_⟩
          refine u118 hc ⟨_, rfl, ?_⟩
          have hln := N.hasL.len
          rw [if_neg (by omega)]
          have F17 := (F3.trans F12).trans (Fr.ofExt N.1)
          refine vif_mk (fun g5 => ?_) (fun g5 => ?_)
          · refine bad0 ?_ _ _ F17 (R12.ext N.1)
            rw [ern, if_neg]
            rintro ⟨a1, a2, a3, a4⟩
            rw [numB_len_eq, if_neg (by omega), if_neg (by omega), a4] at hln
            rw [hln] at g5
            have : ((1 + k : Nat) : Int) ≠ ((c.toNat - 245 : Nat) : Int) := by simpa using g5
            omega
          · have hlen : ((slLen q18 : Nat) : Int) = ((c.toNat - 245 : Nat) : Int) := by simpa using g5
            rw [hln, numB_len_eq] at hlen
            have h2288 : 2288 ≤ beV (l.take k) := by
              rcases Nat.lt_or_ge (beV (l.take k)) 2288 with hh | hh
              · exfalso
                split at hlen
                · omega
                · omega
              · exact hh
            rw [if_neg (by omega), if_neg (by omega)] at hlen
            rw [if_pos ⟨hok.1, h63, h2288, by omega⟩] at ern
            rw [ern] at hQ
            exact hQ h17 F17 (R12.ext N.1)
        · have hf : fx (k : Int) (some l) = none := by
            rw [efx]
            by_cases h1 : k ≤ l.length
            · rw [if_pos h1, if_neg (fun h2 => hok ⟨h1, h2⟩)]
            · rw [if_neg h1]
          rw [hf] at R12 ⊢
          refine vif_mk (fun _ => bad0 ?_ _ _ (F3.trans F12) R12) (fun g => by cases g)
          rw [ern, if_neg]
          rintro ⟨a1, a2, _⟩
          exact hok ⟨a1, a2⟩
      · replace g3 := of_decide_eq_false g3
        have e : nm (some (c :: l)) = none := by simp only [nm, rdN]; rw [if_neg (by omega), if_neg (by omega), if_neg (by omega)]
        refine vptr_mk (rd_fail R3 fun h4 F4 R4 => ⟨_, rd_bad R4, vif_mk (fun _ => bad0 e _ _ (F3.trans F4) R4) (fun g => by cases g)⟩))

set_option maxRecDepth 20000 in
/-- Text. -/
theorem u78 {m : Nat} (R : Rd h p o) (hl : Bd o) (hQ : ∀ h', Fr p h h' → Rd h' p (stO (tx m o)) → Q (.str (valS (tx m o))) h') : AC Try.prog 78 [.ptr (some ⟨p, 0⟩), .int .i64 m] h Q := ac78 (by
  unfold vc78
  refine u77 R hl fun h4 F4 R4 => ⟨_, rfl, ?_⟩
  refine ⟨_, rd_bad R4, ?_⟩
  have bad : tx m o = none → ∀ o' h', Fr p h h' → Rd h' p o' → PStore h' ⟨p, 0 + 1⟩ [.bool true] fun h4 => Q (.str []) h4 := by
    intro e o' h' F R'
    rw [e] at hQ
    exact rd_fail R' fun h2 F2 R2 => hQ h2 (F.trans F2) R2
  have hB := hl.nm
  cases o with
  | none => exact vif_mk (fun _ => bad rfl _ _ F4 R4) (fun g => by cases g)
  | some l =>
  have etx : tx m (some l) = match rdN l with | some (n, l') => if n ≤ m ∧ n ≤ l'.length then some (l'.take n, l'.drop n) else none | none => none := rfl
  have enm : nm (some l) = rdN l := rfl
  cases hr : rdN l with
  | none =>
    rw [hr] at etx enm
    refine vif_mk (fun _ => bad etx _ _ F4 R4) (fun g => ?_)
    rw [enm] at g; cases g
  | some r =>
    obtain ⟨n, l'⟩ := r
    rw [hr] at etx enm
    rw [enm] at R4 hB ⊢
    simp only [stO] at R4
    rw [valN_some]
    refine vif_mk (fun g => by cases g) (fun _ => vif_mk (fun g => ?_) (fun g => ?_))
    · replace g := of_decide_eq_true g
      refine bad ?_ _ _ F4 R4
      rw [etx]; simp only; rw [if_neg (by omega)]
    · replace g := of_decide_eq_false g
      refine u116 R4 hB (fun ht h' F' R' => ⟨_, rfl, ?_⟩) (fun a b ht q h' F' H' _ R' => ⟨_, rfl, ?_⟩)
      · have : tx m (some l) = none := by
          rw [etx]; simp only
          rw [if_neg]
          rintro ⟨_, h2⟩
          simp only [tk] at ht
          rw [if_pos (by omega)] at ht
          cases ht
        rw [this] at hQ
        exact ⟨[], rfl, hQ h' (F4.trans F') R'⟩
      · obtain ⟨l2, e1, b1, b2, rfl, rfl⟩ := tk_some ht
        cases e1
        have : tx m (some l) = some (l'.take n, l'.drop n) := by
          rw [etx]; simp only
          rw [if_pos (by omega)]
        rw [this] at hQ
        simp only [Int.toNat_natCast] at H' R'
        refine ⟨l'.take n, ?_, hQ h' (F4.trans F') R'⟩
        have := H'.cells
        rw [byE_all] at this
        simpa [byE] using this)

set_option maxRecDepth 20000 in
/-- The document's Get. -/
theorem u21 {q : Option SL} {l : Bs} (H : HasL byE h q l) (hl : l.length ≤ 100000) (hQ0 : rdE l = none → ∀ h', Ext h h' → Q (.tup [evV zeroV, .bool false]) h') (hQ1 : ∀ d e h', rdE l = some d → Ext h h' → EdR h' e d → Q (.tup [evV e, .bool true]) h') : AC Try.prog 21 [.sl q] h Q := ac21 (by
  unfold vc21 PNew
  refine copy0 (E := byE) (a := h.length) (by simp) (H.mono (Ext.app _ _)) (by omega) fun q4 h5 hx5' O5 hq5 => ?_
  have hx5 : Ext h h5 := (Ext.app _ _).trans hx5'
  have hx3 : Ext h (h5 ++ [.cells [.sl q4, .bool false] true]) := hx5.trans (Ext.app _ _)
  have hp : h.length ≤ h5.length := hx5.len
  have R0 : Rd (h5 ++ [.cells [.sl q4, .bool false] true]) h5.length (some l) := ⟨q4, by simp, O5.hasL.mono (Ext.app _ _), fun s hs => HasL.live O5.hasL s hs⟩
  generalize (h5 ++ [Blk.cells [AV.sl q4, AV.bool false] true]) = h3 at *
  generalize h5.length = p at *
  have B0 : Bd (some l) := fun l' h => by cases h; exact hl
  refine u77 R0 B0 fun h6 F1 R1 => ⟨_, rfl, ?_⟩
  refine u77 R1 B0.nm fun h9 F2 R2 => ⟨_, rfl, ?_⟩
  refine u77 R2 B0.nm.nm fun h12 F3 R3 => ⟨_, rfl, ?_⟩
  refine u77 R3 B0.nm.nm.nm fun h15 F4 R4 => ⟨_, rfl, ?_⟩
  refine ⟨_, rd_bad R4, ?_⟩
  have B4 := B0.nm.nm.nm.nm
  have x15 : Ext h h15 := (((F1.trans F2).trans F3).trans F4).ext hx3 hp
  have erd : rdE l = match nm (stO (nm (stO (nm (stO (nm (some l))))))) with
    | none => none
    | some (n, l1) => if n > 256 then none else (match rdRs n (some l1) with
      | some (rs, l') => if l' = [] ∧ chk (valN (nm (some l)), valN (nm (stO (nm (some l)))), valN (nm (stO (nm (stO (nm (some l)))))), rs) = true then some (valN (nm (some l)), valN (nm (stO (nm (some l)))), valN (nm (stO (nm (stO (nm (some l)))))), rs) else none
      | none => none) := rfl
  generalize valN (nm (some l)) = v1 at *
  generalize valN (nm (stO (nm (some l)))) = v2 at *
  generalize valN (nm (stO (nm (stO (nm (some l)))))) = v3 at *
  generalize nm (stO (nm (stO (nm (stO (nm (some l))))))) = r4 at *
  cases r4 with
  | none =>
    exact vif_mk (fun _ => hQ0 erd h15 x15) (fun g => by cases g)
  | some r =>
  obtain ⟨N, l1⟩ := r
  simp only [stO] at R4 B4
  rw [valN_some]
  refine vif_mk (fun g => by cases g) (fun _ => vif_mk (fun g => ?_) (fun g => ?_))
  · replace g := of_decide_eq_true g
    simp only at erd
    rw [if_pos (by omega)] at erd
    exact hQ0 erd h15 x15
  replace g := of_decide_eq_false g
  simp only at erd
  rw [if_neg (by omega)] at erd
  have hp15 : p < h15.length := R4.live
  refine ⟨fun xs h27 => ∃ (i : Nat) (q24 : Option SL) (rs : List Rf) (o : Option Bs), xs = [.int .i64 i, .int .i64 v1, .int .i64 v2, .int .i64 v3, .sl q24] ∧ i ≤ N ∧ rs.length = i ∧ Ext h h27 ∧ Rd h27 p o ∧ Bd o ∧ App refE h27 q24 rs ∧ (∀ s, q24 = some s → p < s.b) ∧
      rdRs N (some l1) = (match rdRs (N - i) o with | some (rs', l') => some (rs ++ rs', l') | none => none),
    fun xs _ => match xs with | [.int _ i, _, _, _, _] => (N - i).toNat | _ => 0, ⟨0, none, [], some l1, rfl, by omega, rfl, x15, R4, B4, .inl ⟨rfl, rfl⟩, fun s hs => (by cases hs), ?_⟩, ?_⟩
  · rw [Nat.sub_zero]
    cases rdRs N (some l1) with
    | none => rfl
    | some x => rfl
  rintro n20 n21 n22 n23 q24 h27 ⟨i', q24', rs, o, hx, hi, hrs, x27, R, B, A, hq, hI⟩
  simp only [List.cons.injEq, AV.int.injEq, AV.sl.injEq, true_and, and_true] at hx
  obtain ⟨rfl, rfl, rfl, rfl, rfl⟩ := hx
  refine vif_mk (fun g2 => ?_) (fun g2 => ?_)
  · replace g2 := of_decide_eq_true g2
    refine u78 (m := 24) R B fun h29 F29 R29 => ⟨_, rfl, rfl, ?_⟩
    refine u77 R29 B.tx fun h32 F32 R32 => ⟨_, rfl, rfl, ?_⟩
    refine u77 R32 B.tx.nm fun h35 F35 R35 => ⟨_, rfl, rfl, ?_⟩
    have F := (F29.trans F32).trans F35
    have A35 : App refE h35 q24 rs := A.keeps F.keeps (fun s hs he => by have := hq s hs; have he : s.b = p := he; omega)
    have x35 : Ext h h35 := F.ext x27 hp
    have xn : Ext h35 (h35 ++ [.cells [.str (valS (tx 24 o)), .int .i64 (valN (nm (stO (tx 24 o)))), .int .i64 (valN (nm (stO (nm (stO (tx 24 o))))))] true]) := .app _ _
    have hsrc : HasL refE (h35 ++ [.cells [.str (valS (tx 24 o)), .int .i64 (valN (nm (stO (tx 24 o)))), .int .i64 (valN (nm (stO (nm (stO (tx 24 o))))))] true]) (some ⟨h35.length, 0, 1, 1, 0⟩) [(valS (tx 24 o), valN (nm (stO (tx 24 o))), valN (nm (stO (nm (stO (tx 24 o))))))] := HasL.new (E := refE) (l := [(valS (tx 24 o), valN (nm (stO (tx 24 o))), valN (nm (stO (nm (stO (tx 24 o))))))]) rfl (by simp [Enc.all, refE])
    refine ⟨rfl, App.append (E := refE) (A35.ext xn) hsrc (by simp; omega) fun q39 h40 A40 K40 hl40 hq40 => ?_⟩
    rw [wrapK_i64 ⟨by omega, by omega⟩]
    have hpl := R35.live
    refine ⟨⟨trivial, rfl, trivial⟩, ⟨i' + 1, q39, _, stO (nm (stO (nm (stO (tx 24 o))))), by simp, by omega, by simp [hrs], ?_, ?_, B.tx.nm.nm, A40, ?_, ?_⟩, by simp only; omega⟩
    · intro b B' hB
      exact K40 b B' (fun ⟨s, a1, a2⟩ => by have := hq s a1; have := lt_of_get hB; omega) (xn _ _ (x35 _ _ hB))
    · exact (R35.ext xn).keeps K40 (fun b hb ⟨s, a1, a2⟩ => by have := hq s a1; omega)
    · intro s hs
      rcases hq40 s hs with a | ⟨s', a1, a2⟩
      · simp at a; omega
      · have := hq s' a1; omega
    · rw [hI]
      obtain ⟨k, hk⟩ : ∃ k, N - i' = k + 1 := ⟨N - i' - 1, by omega⟩
      have hk2 : N - (i' + 1) = k := by omega
      rw [hk, hk2]
      simp only [rdRs]
      generalize tx 24 o = r1
      generalize nm (stO r1) = r2
      generalize nm (stO r2) = r3
      cases r3 with
      | none => simp only [stO, rdRs_none]
      | some r3 =>
        obtain ⟨c, l3⟩ := r3
        simp only [stO, valN_some]
        cases rdRs k (some l3) with
        | none => rfl
        | some x => obtain ⟨rs', l'⟩ := x; simp
  · replace g2 := of_decide_eq_false g2
    have : i' = N := by omega
    subst this
    rw [Nat.sub_self] at hI
    refine ⟨_, rd_bad R, ?_⟩
    cases o with
    | none =>
      simp only [rdRs] at hI
      rw [hI] at erd
      exact vif_mk (fun _ => hQ0 erd h27 x27) (fun g => by cases g)
    | some l' =>
      simp only [rdRs] at hI
      rw [hI] at erd
      simp only [List.append_nil] at erd
      refine vif_mk (fun g => by cases g) (fun _ => ?_)
      obtain ⟨q43, c1, c2, c3⟩ := rd_buf R
      have c4 := c2.len
      refine ⟨q43, c1, vif_mk (fun g6 => ?_) (fun g6 => ?_)⟩
      · replace g6 := of_decide_eq_true g6
        have hl' : l' ≠ [] := by intro h; rw [h] at c4; simp at c4; omega
        rw [if_neg (fun hh => hl' hh.1)] at erd
        exact hQ0 erd h27 x27
      · replace g6 := of_decide_eq_false g6
        have hl' : l' = [] := List.eq_nil_of_length_eq_zero (by omega)
        refine u17 (e := (n21, n22, n23, q24)) (d := (n21, n22, n23, rs)) ⟨rfl, rfl, rfl, A.hasL⟩ ⟨_, rfl, ?_⟩
        cases hc : chk (n21, n22, n23, rs) with
        | true =>
          rw [if_pos ⟨hl', hc⟩] at erd
          exact vif_mk (fun g => by cases g) (fun _ => hQ1 (n21, n22, n23, rs) (n21, n22, n23, q24) h27 erd x27 ⟨rfl, rfl, rfl, A.hasL⟩)
        | false =>
          rw [if_neg (fun hh => by rw [hc] at hh; cases hh.2)] at erd
          exact vif_mk (fun _ => hQ0 erd h27 x27) (fun g => by cases g))
end
end Go.Proofs.Ytceplmmmlindnaa

/- Edits and their bytes: the plain law. Same. -/
namespace Go.Proofs.Ytceplmmmlindnaa
open Go.Ab
set_option linter.unusedVariables false
set_option linter.unusedSimpArgs false

theorem nm_enc {n : Nat} (hn : n < M63) {l : Bs} : nm (some (numB n ++ l)) = some (n, l) := rdN_numB (by simpa only [M63] using hn)
theorem tx_enc {m : Nat} {s l : Bs} (h : s.length ≤ m) (hm : m < 1000) : tx m (some (numB s.length ++ (s ++ l))) = some (s, l) := by
  simp only [tx, rdT]
  rw [rdN_numB (by omega)]
  simp only
  rw [if_pos ⟨h, by simp⟩]
  simp
theorem rdRs_enc : ∀ {rs : List Rf} {t : Bs}, rs.all refOk = true → rdRs rs.length (some (encRs rs ++ t)) = some (rs, t)
  | [], t, _ => by simp [rdRs, encRs]
  | r :: rs, t, h => by
    rw [List.all_cons, Bool.and_eq_true] at h
    obtain ⟨y1, ⟨y2, y2'⟩, ⟨y3, y3'⟩⟩ := ref_nums h.1
    have e0 : encRs (r :: rs) ++ t = numB r.1.length ++ (r.1 ++ (numB r.2.1.toNat ++ (numB r.2.2.toNat ++ (encRs rs ++ t)))) := by simp [encRs, encR]
    rw [e0, List.length_cons]
    simp only [rdRs]
    rw [tx_enc (m := 24) y1 (by omega)]
    simp only [stO]
    rw [nm_enc y2']
    simp only [stO]
    rw [nm_enc y3']
    simp only [stO]
    rw [rdRs_enc h.2]
    simp only [valS, valN]
    rw [← y2, ← y3]
theorem rdE_mk {b b1 b2 b3 b4 : Bs} {k e r n : Nat} {rs : List Rf} (h1 : nm (some b) = some (k, b1)) (h2 : nm (some b1) = some (e, b2)) (h3 : nm (some b2) = some (r, b3)) (h4 : nm (some b3) = some (n, b4)) (h5 : rdRs n (some b4) = some (rs, [])) (hn : n ≤ 256) (hc : chk ((k : Int), (e : Int), (r : Int), rs) = true) :
    rdE b = some ((k : Int), (e : Int), (r : Int), rs) := by
  have hn' : ¬ n > 256 := by omega
  simp only [rdE, h1, stO, h2, h3, h4, h5, valN, hc, hn', if_false, and_self, if_true]
theorem rdE_encD {d : ED} (h : chk d = true) : rdE (encD d) = some d := by
  obtain ⟨⟨c1, c1'⟩, ⟨c2, c2'⟩, ⟨c3, c3'⟩, c4, c5⟩ := chk_nums h
  have len63 : d.2.2.2.length < M63 := by simp only [M63]; omega
  have e0 : encD d = numB d.1.toNat ++ (numB d.2.1.toNat ++ (numB d.2.2.1.toNat ++ (numB d.2.2.2.length ++ (encRs d.2.2.2 ++ [])))) := by simp [encD]
  have := rdE_mk (b := encD d) (by rw [e0]; exact nm_enc c1') (nm_enc c2') (nm_enc c3') (nm_enc len63) (rdRs_enc c5) c4 (by rw [← c1, ← c2, ← c3]; exact h)
  rw [this, ← c1, ← c2, ← c3]

theorem nm_inv {o : Option Bs} {n : Nat} {l : Bs} (h : nm o = some (n, l)) : o = some (numB n ++ l) := by
  cases o with
  | none => cases h
  | some l0 => rw [(numB_rdN h).1]
theorem tx_inv {o : Option Bs} {m : Nat} {s l : Bs} (h : tx m o = some (s, l)) : o = some (numB s.length ++ (s ++ l)) := by
  cases o with
  | none => cases h
  | some l0 =>
    simp only [tx, rdT] at h
    split at h
    · rename_i n l' heq
      split at h
      · rename_i hc
        simp only [Option.some.injEq, Prod.mk.injEq] at h
        obtain ⟨rfl, rfl⟩ := h
        have e : (l'.take n).length = n := by rw [List.length_take]; omega
        rw [e, List.take_append_drop]
        exact nm_inv heq
      · cases h
    · cases h
theorem stO_some {α : Type} {r : Option (α × Bs)} {l : Bs} (h : stO r = some l) : ∃ x, r = some (x, l) := by
  cases r with
  | none => cases h
  | some x => obtain ⟨x, l'⟩ := x; cases h; exact ⟨x, rfl⟩
theorem rdRs_inv : ∀ {n : Nat} {o : Option Bs} {rs : List Rf} {t : Bs}, rdRs n o = some (rs, t) → o = some (encRs rs ++ t) ∧ rs.length = n
  | 0, o, rs, t, h => by
    cases o with
    | none => cases h
    | some l => cases h; simp [encRs]
  | n + 1, o, rs, t, h => by
    simp only [rdRs] at h
    split at h
    · cases h
    · rename_i c l hc
      split at h
      · rename_i rs' l' hr
        simp only [Option.some.injEq, Prod.mk.injEq] at h
        obtain ⟨rfl, rfl⟩ := h
        obtain ⟨e1, e2⟩ := rdRs_inv hr
        have h3 := nm_inv hc
        obtain ⟨b, h2⟩ := stO_some h3
        have h2' := nm_inv h2
        obtain ⟨s, h1⟩ := stO_some h2'
        have h1' := tx_inv h1
        cases e1
        refine ⟨?_, by simp [e2]⟩
        rw [h1, h1']
        simp only [stO]
        rw [nm_enc (numB_rdN (by rw [h1] at h2; exact h2)).2]
        simp [encRs, encR, valS, valN]
      · cases h
theorem encD_rdE {b : Bs} {d : ED} (h : rdE b = some d) : b = encD d ∧ chk d = true := by
  simp only [rdE] at h
  split at h
  · cases h
  · rename_i n l hn
    split at h
    · cases h
    · split at h
      · rename_i rs l' hr
        split at h
        · rename_i hc
          obtain ⟨rfl, hc⟩ := hc
          obtain ⟨e1, e2⟩ := rdRs_inv hr
          cases e1
          have h4 := nm_inv hn
          obtain ⟨r, h3⟩ := stO_some h4
          have h3' := nm_inv h3
          obtain ⟨e, h2⟩ := stO_some h3'
          have h2' := nm_inv h2
          obtain ⟨k, h1⟩ := stO_some h2'
          have h1' := nm_inv h1
          cases h1'
          simp only [Option.some.injEq] at h
          rw [h] at hc
          refine ⟨?_, hc⟩
          rw [← h]
          rw [h3, h2, h1]
          simp [encD, valN, e2]
        · cases h
      · cases h

/-- Are two edits the same? -/
def sameD (d d2 : ED) : Bool := decide (d = d2)
theorem sameD_eq {d d2 : ED} : sameD d d2 = ((d.1 == d2.1) && ((d.2.1 == d2.2.1) && (d.2.2.1 == d2.2.2.1)) && decide (d.2.2.2 = d2.2.2.2)) := by
  obtain ⟨a, b, c, l⟩ := d
  obtain ⟨a2, b2, c2, l2⟩ := d2
  unfold sameD
  rw [Bool.eq_iff_iff]
  simp [and_assoc]

section
variable {h : Heap} {Q : AV → Heap → Prop}
/-- The loop that compares. -/
theorem eq_step {l l2 : List Rf} {i : Nat} {x y : Rf} (hx : l[i]? = some x) (hy : l2[i]? = some y) (ht : l.take i = l2.take i) (h : x = y) : l.take (i + 1) = l2.take (i + 1) := by
  rw [List.take_add_one, List.take_add_one, hx, hy, ht, h]

theorem u63 {q q2 : Option SL} {l l2 : List Rf} (H : HasL refE h q l) (H2 : HasL refE h q2 l2) (hl : l.length ≤ 300) (hQ : Q (.bool (decide (l = l2))) h) : AC Try.prog 63 [.sl q, .sl q2] h Q := ac63 (by
  have hlen := H.len
  have hlen2 := H2.len
  unfold vc63
  refine vif_mk (fun g => ?_) (fun g => ?_)
  · have : ¬ l = l2 := by
      intro he; subst he
      rw [hlen, hlen2] at g; simp at g
    rw [decide_eq_false this] at hQ; exact hQ
  have hle : l.length = l2.length := by
    rw [hlen, hlen2] at g
    have : ((l.length : Nat) : Int) = (l2.length : Nat) := by simpa using g
    omega
  refine ⟨fun xs h9 => h9 = h ∧ ∃ i : Nat, xs = [.int .i64 i] ∧ i ≤ l.length ∧ l.take i = l2.take i, fun xs _ => match xs with | [.int _ i] => (l.length - i).toNat | _ => 0, ⟨rfl, 0, rfl, by omega, by simp⟩, ?_⟩
  rintro i h9 ⟨rfl, i', hx, hi, ht⟩
  simp only [List.cons.injEq, AV.int.injEq, true_and, and_true] at hx
  subst hx
  refine vif_mk (fun g1 => ?_) (fun g1 => ?_)
  · replace g1 := of_decide_eq_true g1
    refine HasL.idx (E := refE) H (by omega) (by omega) fun pp x hx hc => ⟨x.1, x.2.1, x.2.2, hc, ?_⟩
    refine HasL.idx (E := refE) H2 (by omega) (by omega) fun pp2 y hy hc2 => ⟨y.1, y.2.1, y.2.2, hc2, ?_⟩
    have hx' : l[i']? = some x := by simpa using hx
    have hy' : l2[i']? = some y := by simpa using hy
    refine vif_mk (fun g2 => ?_) (fun g2 => ?_)
    · have hne : ¬ l = l2 := by
        intro he; subst he
        rw [hx'] at hy'; cases hy'
        simp at g2
      rw [decide_eq_false hne] at hQ; exact hQ
    · have hxy : x = y := by
        simp at g2
        obtain ⟨a, b, c⟩ := x
        obtain ⟨a2, b2, c2⟩ := y
        simp at g2 ⊢; exact g2
      rw [wrapK_i64 ⟨by omega, by omega⟩]
      exact ⟨trivial, ⟨rfl, i' + 1, by simp, by omega, eq_step hx' hy' ht hxy⟩, by simp only; omega⟩
  · replace g1 := of_decide_eq_false g1
    have : i' = l.length := by omega
    subst this
    have he : l = l2 := by rw [List.take_length, hle, List.take_length] at ht; exact ht
    rw [decide_eq_true he] at hQ; exact hQ)

theorem u15 {e e2 : EV} {d d2 : ED} (hR : EdR h e d) (hR2 : EdR h e2 d2) (hl : d.2.2.2.length ≤ 300) (hQ : Q (.bool (sameD d d2)) h) : AC Try.prog 15 [evV e, evV e2] h Q := ac15 (by
  obtain ⟨r1, r2, r3, hL⟩ := hR
  obtain ⟨s1, s2, s3, hL2⟩ := hR2
  unfold vc15
  rw [r1, r2, r3, s1, s2, s3]
  rw [sameD_eq] at hQ
  refine vif_mk (fun g => vif_mk (fun g2 => ?_) (fun g2 => ?_)) (fun g => ?_)
  · rw [Bool.and_true] at g2
    rw [g, g2] at hQ
    exact u63 hL hL2 hl ⟨_, rfl, by simpa using hQ⟩
  · rw [Bool.and_true] at g2
    rw [g2] at hQ; simpa using hQ
  · rw [g] at hQ; simpa using hQ)

theorem u16 {e e2 : EV} {d d2 : ED} (hR : EdR h e d) (hR2 : EdR h e2 d2) (hl : d.2.2.2.length ≤ 300) (hQ : Q (.bool (sameD d d2)) h) : AC Try.prog 16 [evV e, evV e2] h Q := ac16 (by
  obtain ⟨r1, r2, r3, H⟩ := hR
  obtain ⟨s1, s2, s3, H2⟩ := hR2
  have hlen := H.len
  have hlen2 := H2.len
  unfold vc16
  rw [r1, r2, r3, s1, s2, s3]
  rw [sameD_eq] at hQ
  refine vif_mk (fun g => ?_) (fun g => ?_)
  · have : (d.1 == d2.1) = false := by simpa using g
    rw [this] at hQ; simpa using hQ
  refine vif_mk (fun g2 => ?_) (fun g2 => ?_)
  · rw [Bool.and_true] at g2
    have : (d.2.1 == d2.2.1 && d.2.2.1 == d2.2.2.1) = false := by
      cases hx : (d.2.1 == d2.2.1 && d.2.2.1 == d2.2.2.1)
      · rfl
      · rw [hx] at g2; cases g2
    rw [this] at hQ; simpa using hQ
  have hb : ((d.1 == d2.1) && ((d.2.1 == d2.2.1) && (d.2.2.1 == d2.2.2.1))) = true := by
    rw [Bool.and_true] at g2
    have h1 : (d.1 == d2.1) = true := by simpa using g
    have h2 : (d.2.1 == d2.2.1 && d.2.2.1 == d2.2.2.1) = true := by
      cases hx : (d.2.1 == d2.2.1 && d.2.2.1 == d2.2.2.1)
      · rw [hx] at g2; cases g2
      · rfl
    rw [h1, h2]; rfl
  rw [hb, Bool.true_and] at hQ
  generalize d.2.2.2 = l at *
  generalize d2.2.2.2 = l2 at *
  refine vif_mk (fun g => ?_) (fun g => ?_)
  · have : ¬ l = l2 := by
      intro he; subst he
      rw [hlen, hlen2] at g; simp at g
    rw [decide_eq_false this] at hQ; exact hQ
  have hle : l.length = l2.length := by
    rw [hlen, hlen2] at g
    have : ((l.length : Nat) : Int) = (l2.length : Nat) := by simpa using g
    omega
  refine ⟨fun xs h9 => h9 = h ∧ ∃ i : Nat, xs = [.int .i64 i] ∧ i ≤ l.length ∧ l.take i = l2.take i, fun xs _ => match xs with | [.int _ i] => (l.length - i).toNat | _ => 0, ⟨rfl, 0, rfl, by omega, by simp⟩, ?_⟩
  rintro i h9 ⟨rfl, i', hx, hi, ht⟩
  simp only [List.cons.injEq, AV.int.injEq, true_and, and_true] at hx
  subst hx
  refine vif_mk (fun g1 => ?_) (fun g1 => ?_)
  · replace g1 := of_decide_eq_true g1
    refine HasL.idx (E := refE) H (by omega) (by omega) fun pp x hx hc => ⟨x.1, x.2.1, x.2.2, hc, ?_⟩
    refine HasL.idx (E := refE) H2 (by omega) (by omega) fun pp2 y hy hc2 => ⟨y.1, y.2.1, y.2.2, hc2, ?_⟩
    have hx' : l[i']? = some x := by simpa using hx
    have hy' : l2[i']? = some y := by simpa using hy
    refine vif_mk (fun g2 => ?_) (fun g2 => ?_)
    · have hne : ¬ l = l2 := by
        intro he; subst he
        rw [hx'] at hy'; cases hy'
        simp at g2
      rw [decide_eq_false hne] at hQ; exact hQ
    · have hxy : x = y := by
        simp at g2
        obtain ⟨a, b, c⟩ := x
        obtain ⟨a2, b2, c2⟩ := y
        simp at g2 ⊢; exact g2
      rw [wrapK_i64 ⟨by omega, by omega⟩]
      exact ⟨⟨rfl, rfl, trivial⟩, ⟨rfl, i' + 1, by simp, by omega, eq_step hx' hy' ht hxy⟩, by simp only; omega⟩
  · replace g1 := of_decide_eq_false g1
    have : i' = l.length := by omega
    subst this
    have he : l = l2 := by rw [List.take_length, hle, List.take_length] at ht; exact ht
    rw [decide_eq_true he] at hQ; exact hQ)
end
end Go.Proofs.Ytceplmmmlindnaa

/- EditCodes and EditGets over the abstract heap. -/
namespace Go.Proofs.Ytceplmmmlindnaa
open Go.Ab
set_option linter.unusedVariables false
set_option linter.unusedSimpArgs false

section
variable {h : Heap} {Q : AV → Heap → Prop}
theorem pstr_of {q : Option SL} {l : Bs} {K : Bs → Prop} (H : HasL byE h q l) (hK : K l) : PStr h q K := by
  refine ⟨l, ?_, hK⟩
  have := H.cells
  rw [byE_all] at this
  simpa [byE] using this

theorem s4 {q : Option SL} {l : Bs} (H : HasL byE h q l) : AC Try.prog 4 [.sl q] h fun v _ => v = .bool true := ac4 (by
  unfold vc4
  have hlen := H.len
  refine vif_mk (fun _ => s13 ⟨true, rfl, rfl⟩) (fun g => ?_)
  replace g := of_decide_eq_false g
  cases hr : rdE l with
  | none =>
    refine e19 H (by omega) (fun _ h6 x6 => ⟨0, 0, 0, none, 140, rfl, ?_⟩) (fun d e h' hd => by rw [hr] at hd; cases hd)
    refine u21 (H.mono x6) (by omega) (fun _ h13 x13 => ⟨0, 0, 0, none, false, rfl, ?_⟩) (fun d e h' hd => by rw [hr] at hd; cases hd)
    refine s13 ⟨true, rfl, vif_mk (fun g => by cases g) (fun _ => ?_)⟩
    refine u16 (e := zeroV) (e2 := zeroV) (d := zeroD) (d2 := zeroD) ⟨rfl, rfl, rfl, rfl⟩ ⟨rfl, rfl, rfl, rfl⟩ (by simp) ⟨_, rfl, ?_⟩
    rfl
  | some d =>
    obtain ⟨hb, hc⟩ := encD_rdE hr
    obtain ⟨_, _, _, c4, _⟩ := chk_nums hc
    refine e19 H (by omega) (fun hd => by rw [hr] at hd; cases hd) (fun d1 e h6 hd x6 R1 => ⟨e.1, e.2.1, e.2.2.1, e.2.2.2, 0, rfl, ?_⟩)
    rw [hr] at hd; cases hd
    refine u21 (H.mono x6) (by omega) (fun hd => by rw [hr] at hd; cases hd) (fun d1 e2 h13 hd x13 R2 => ⟨e2.1, e2.2.1, e2.2.2.1, e2.2.2.2, true, rfl, ?_⟩)
    rw [hr] at hd; cases hd
    refine s13 ⟨true, rfl, vif_mk (fun g => by cases g) (fun _ => ?_)⟩
    refine u16 (e := e) (e2 := e2) (R1.ext x13) R2 (by omega) ⟨_, rfl, ?_⟩
    have hs : sameD d d = true := by simp [sameD]
    rw [hs]
    refine vif_mk (fun g => by cases g) (fun _ => vif_mk (fun g => by cases g) (fun _ => vif_mk (fun g => by cases g) (fun _ => vif_mk (fun g => by cases g) (fun _ => ?_))))
    refine t14 (e := e) (R1.ext x13) (fun hf => by rw [hc] at hf; cases hf) (fun q33 h32 _ N => ⟨q33, 0, rfl, vif_mk (fun _ => ?_) (fun g => by cases g)⟩)
    refine pstr_of N.hasL (pstr_of ((H.mono (x6.trans x13)).mono N.1) ?_)
    rw [hb]; simp)

theorem s3 {e e2 : EV} {d d2 : ED} (hR : EdR h e d) (hR2 : EdR h e2 d2) : AC Try.prog 3 [evV e, evV e2] h fun v _ => v = .bool true := ac3 (by
  unfold vc3
  refine s12 (l := d.2.2.2) hR.2.2.2 fun b hb => ⟨b, rfl, vif_mk (fun _ => s13 ⟨true, rfl, rfl⟩) (fun g => ?_)⟩
  have hl := hb g
  refine s12 (l := d2.2.2.2) hR2.2.2.2 fun b2 hb2 => ⟨b2, rfl, vif_mk (fun _ => s13 ⟨true, rfl, rfl⟩) (fun g2 => ?_)⟩
  have rest : ∀ (q23 : Option SL) (n24 : Int) (h22 : Heap), Ext h h22 → (chk d = true → n24 = 0 ∧ HasL byE h22 q23 (encD d)) → (chk d = false → n24 = 140 ∧ q23 = none) → _ := fun q23 n24 h22 x22 y1 y2 =>
    (show AC Try.prog 13 [] h22 (fun v25 h26 => ∃ b27 : Bool, v25 = .bool b27 ∧
 vif (!b27)
 ((LV.val (.tup []) = LV.val (.tup [])) ∧
 (LV.val (.tup []) = LV.val (.tup [])) ∧
 (fun (v : AV) (_ : Heap) => v = .bool true) (.bool false) h26)
 (AC Try.prog 15 [evV e, evV e2] h26 fun v28 h29 => ∃ b30 : Bool, v28 = .bool b30 ∧
 (LV.val (evV e2) = LV.val (evV e2)) ∧
 (LV.val (evV e) = LV.val (evV e)) ∧
 AC Try.prog 16 [evV e, evV e2] h29 fun v31 h32 => ∃ b33 : Bool, v31 = .bool b33 ∧
 vif (!(b30 == b33))
 ((fun (v : AV) (_ : Heap) => v = .bool true) (.bool false) h32)
 (AC Try.prog 17 [evV e] h32 fun v34 h35 => ∃ b36 : Bool, v34 = .bool b36 ∧
 vif (!b36)
 (vif (n24 == 140)
 (vif ((slLen q23 : Int) == 0)
 (AC Try.prog 18 [evV e] h35 fun v37 h38 => ∃ n39 : Int, v37 = .int .i64 n39 ∧
 (fun (v : AV) (_ : Heap) => v = .bool true) (.bool (n39 == 140)) h38)
 ((fun (v : AV) (_ : Heap) => v = .bool true) (.bool false) h35))
 ((fun (v : AV) (_ : Heap) => v = .bool true) (.bool false) h35))
 (AC Try.prog 19 [.sl q23] h35 fun v40 h41 => ∃ n42 : Int, ∃ n43 : Int, ∃ n44 : Int, ∃ q45 : Option SL, ∃ n46 : Int, v40 = .tup [.agg [.int .i64 n42, .int .i64 n43, .int .i64 n44, .sl q45], .int .i64 n46] ∧
 vif (n24 == 0)
 (AC Try.prog 18 [evV e] h41 fun v47 h48 => ∃ n49 : Int, v47 = .int .i64 n49 ∧
 vif (n49 == 0)
 (PStr h48 q23 fun s50 =>
 AC Try.prog 20 [evV e] h48 fun v51 h52 => ∃ q53 : Option SL, v51 = .sl q53 ∧
 (PStr h52 q23 fun s58 =>
 LV.val (.str s58) = LV.val (.str s50)) ∧
 PStr h52 q53 fun s54 =>
 vif (s50 == s54)
 (vif (n46 == 0)
 (AC Try.prog 16 [.agg [.int .i64 n42, .int .i64 n43, .int .i64 n44, .sl q45], evV e] h52 fun v55 h56 => ∃ b57 : Bool, v55 = .bool b57 ∧
 (fun (v : AV) (_ : Heap) => v = .bool true) (.bool b57) h56)
 ((fun (v : AV) (_ : Heap) => v = .bool true) (.bool false) h52))
 ((fun (v : AV) (_ : Heap) => v = .bool true) (.bool false) h52))
 ((LV.val (.tup []) = LV.val (.tup [])) ∧
 (fun (v : AV) (_ : Heap) => v = .bool true) (.bool false) h48))
 ((LV.val (.tup []) = LV.val (.tup [])) ∧
 (fun (v : AV) (_ : Heap) => v = .bool true) (.bool false) h41))))) from by
      refine s13 ⟨true, rfl, vif_mk (fun g => by cases g) (fun _ => ?_)⟩
      refine u15 (e := e) (e2 := e2) (hR.ext x22) (hR2.ext x22) hl ⟨_, rfl, rfl, rfl, ?_⟩
      refine u16 (e := e) (e2 := e2) (hR.ext x22) (hR2.ext x22) hl ⟨_, rfl, vif_mk (fun g => by simp at g) (fun _ => ?_)⟩
      refine u17 (e := e) (hR.ext x22) ⟨_, rfl, ?_⟩
      cases hc : chk d with
      | false =>
        obtain ⟨rfl, rfl⟩ := y2 hc
        refine vif_mk (fun _ => ?_) (fun g => by cases g)
        refine u18 (e := e) (d := d) (hR.ext x22) ⟨_, rfl, ?_⟩
        rw [hc]; rfl
      | true =>
        obtain ⟨rfl, H⟩ := y1 hc
        refine vif_mk (fun g => by cases g) (fun _ => ?_)
        have hlen : (encD d).length ≤ 100000 := by
          obtain ⟨⟨c1, c1'⟩, ⟨c2, c2'⟩, ⟨c3, c3'⟩, c4, c5⟩ := chk_nums hc
          have h1 := numB_len c1'
          have h2 := numB_len c2'
          have h3 := numB_len c3'
          have h4 := numB_len (n := d.2.2.2.length) (by simp only [M63]; omega)
          have h5 := encRs_len c5
          simp only [encD, List.length_append]; omega
        refine e19 H hlen (fun hd => by rw [rdE_encD hc] at hd; cases hd) (fun d1 e3 h41 hd x41 R3 => ⟨e3.1, e3.2.1, e3.2.2.1, e3.2.2.2, 0, rfl, vif_mk (fun _ => ?_) (fun g => by cases g)⟩)
        rw [rdE_encD hc] at hd; cases hd
        have xA := x22.trans x41
        refine u18 (e := e) (d := d) (hR.ext xA) ⟨_, rfl, ?_⟩
        rw [hc]
        refine vif_mk (fun _ => ?_) (fun g => by cases g)
        refine pstr_of (H.mono x41) ?_
        refine t20 (e := e) (hR.ext xA) hc fun q53 h52 N => ⟨q53, rfl, pstr_of ((H.mono x41).mono N.1) rfl, pstr_of N.hasL (vif_mk (fun _ => ?_) (fun g => by simp at g))⟩
        refine vif_mk (fun _ => ?_) (fun g => by cases g)
        refine u16 (e := e3) (e2 := e) (d := d) (d2 := d) (R3.ext N.1) (hR.ext (xA.trans N.1)) hl ⟨_, rfl, ?_⟩
        simp [sameD])
  refine t14 (e := e) hR (fun hf => ⟨none, 140, rfl, rest none 140 h (.refl _) (fun ht => by rw [hf] at ht; cases ht) (fun _ => ⟨rfl, rfl⟩)⟩) (fun q23 h22 hc N => ⟨q23, 0, rfl, rest q23 0 h22 N.1 (fun _ => ⟨rfl, N.hasL⟩) (fun hf => by rw [hc] at hf; cases hf)⟩))
end
end Go.Proofs.Ytceplmmmlindnaa
