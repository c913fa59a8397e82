import Derived.Test.YtnglhicedhcpbaaGreatDoorHG3
import Derived.Test.YtnglhicedhcpbaaGreatDoorHG11
import Derived.Test.YtnglhicedhcpbaaGreatDoorHG15
import Derived.Test.YtnglhicedhcpbaaGreatDoorHG19
import Derived.Test.YtnglhicedhcpbaaGreatDoorHG24
namespace Go.Proofs.YtnglhicedhcpbaaGreatDoor
open Go.Ab
open Go.Num hiding Bs snoc_ind
open Go.Ent Go.Seg
open Go.Page hiding Bs get
open Go.Dsk hiding Bs
open Go.Man (pendsOf pendsOf_snoc keepAll_pends notB_all find_of pendsOf_b)
set_option linter.unusedVariables false
set_option linter.unusedSimpArgs false
section
attribute [local irreducible] momErr recErr
def LlsB {α : Type} (E : Enc α) (h : Heap) (q : Option SL) (ls : List (List α)) (lo hi : Nat) : Prop :=
  ∃ qs : List (Option SL), HasL slE h q qs ∧ qs.length = ls.length ∧ (∀ (i : Nat) (s : Option SL) (l : List α), qs[i]? = some s → ls[i]? = some l → HasL E h s l) ∧
    (∀ s, q = some s → lo ≤ s.b ∧ s.b < hi) ∧ ∀ (i : Nat) (t : SL), qs[i]? = some (some t) → lo ≤ t.b ∧ t.b < hi
theorem LL.llsB {α : Type} {E : Enc α} {h0 h : Heap} {out : Option SL} {qs : List (Option SL)} {ls : List (List α)} (L : LL E h0 h out qs ls) : LlsB E h out ls h0.length h.length :=
  ⟨qs, L.oa.hasL, L.len, L.el, fun s hs => ⟨L.ob s hs, HasL.live L.oa.hasL s hs⟩, fun i t ht => ⟨(L.eb i t ht).1, L.live ht⟩⟩
theorem LlsB.keeps {α : Type} {E : Enc α} {h h' : Heap} {q : Option SL} {ls : List (List α)} {lo hi : Nat} {X : Nat → Prop} (I : LlsB E h q ls lo hi) (K : Keeps X h h') (hX : ∀ b, lo ≤ b → b < hi → ¬ X b) : LlsB E h' q ls lo hi := by
  obtain ⟨qs, a, b, c, d, e⟩ := I
  exact ⟨qs, K.hasL (fun s hs => hX _ (d s hs).1 (d s hs).2) a, b, fun i s l h1 h2 => K.hasL (fun t ht => hX _ (e i t (by rw [h1, ht])).1 (e i t (by rw [h1, ht])).2) (c i s l h1 h2), d, e⟩
theorem LlsB.idx {α : Type} {E : Enc α} {h : Heap} {q : Option SL} {ls : List (List α)} {lo hi : Nat} (I : LlsB E h q ls lo hi) {i : Int} {K : PA → Prop} (h0 : 0 ≤ i) (h1 : i < ls.length)
    (hK : ∀ p s l, ls[i.toNat]? = some l → cellsAt h p 1 = some [.sl s] → HasL E h s l → (∀ t, s = some t → lo ≤ t.b ∧ t.b < hi) → K p) : vIdx q i 1 K := by
  obtain ⟨qs, a, b, c, d, e⟩ := I
  refine HasL.idx (E := slE) a h0 (by omega) fun p s hs hc => ?_
  have hl : ls[i.toNat]? = some (ls[i.toNat]'(by omega)) := List.getElem?_eq_getElem _
  exact hK p s _ hl hc (c _ _ _ hs hl) fun t ht => e _ t (by rw [hs, ht])
theorem LlsB.len {α : Type} {E : Enc α} {h : Heap} {q : Option SL} {ls : List (List α)} {lo hi : Nat} (I : LlsB E h q ls lo hi) : slLen q = ls.length := by
  obtain ⟨qs, a, b, _⟩ := I
  rw [a.len, b]
theorem sectors_len64 {base : Nat} {l : List Ent} (hok : ∀ e ∈ l, entOk e = true) (hl : l.length ≤ 16384) : ∀ s ∈ sectors base l, s.length = 64 := fun s hs => by
  obtain ⟨i, hi⟩ := List.getElem?_of_mem hs
  obtain ⟨b, hb, _, rfl⟩ := sectors_get hi
  exact put_len (pagesB_fit hok hl b hb)
section
variable {h : Heap} {Q : AV → Heap → Prop} {ow : Roles} {p : Nat}
theorem mayS_cases {n : Int} {l : List Ent} : (baseOk n = false ∧ mayS n l = 1) ∨ (baseOk n = true ∧ mayE l ≠ 0 ∧ mayS n l = mayE l) ∨ (baseOk n = true ∧ mayE l = 0 ∧ ¬ SortedL l ∧ mayS n l = 1) ∨ (baseOk n = true ∧ mayE l = 0 ∧ SortedL l ∧ mayS n l = 0) := by
  unfold mayS
  by_cases h1 : baseOk n = false
  · exact .inl ⟨h1, by rw [if_pos h1]⟩
  have h1' : baseOk n = true := by simpa using h1
  by_cases h2 : mayE l ≠ 0
  · exact .inr (.inl ⟨h1', h2, by rw [if_neg h1, if_pos h2]⟩)
  by_cases h3 : SortedL l
  · exact .inr (.inr (.inr ⟨h1', by simpa using h2, h3, by rw [if_neg h1, if_neg h2, if_pos h3]⟩))
  · exact .inr (.inr (.inl ⟨h1', by simpa using h2, h3, by rw [if_neg h1, if_neg h2, if_neg h3]⟩))
end
end
end Go.Proofs.YtnglhicedhcpbaaGreatDoor
namespace Go.Proofs.YtnglhicedhcpbaaGreatDoor
open Go.Ab
open Go.Num hiding Bs snoc_ind
open Go.Ent Go.Seg
open Go.Page hiding Bs get
open Go.Dsk hiding Bs
set_option linter.unusedVariables false
set_option linter.unusedSimpArgs false
section
attribute [local irreducible] momErr recErr
structure Lies (D : DS) (s : Bs) (S : List Bs) : Prop where
  on : D.off = false
  is : ∃ f, D.find s = some f ∧ S = f.now.map pad
section
variable {h h' : Heap} {Q : AV → Heap → Prop} {ow : Roles} {dp : Nat} {D : DS} {s : Bs} {S : List Bs}
theorem k155 {base i : Nat} (L : Laid h) (R : DiskR h ow dp D) (Z : Lies D s S) (b1 : 1 ≤ base) (b2 : base + i ≤ maxTag) {x : Bs} (hx : S[i]? = some x) (hb : base ≤ 2305843009213693952) (hi : i ≤ 1000000)
    (h0 : Go.Page.get x (base + i) = none → ∀ h', Ext h h' → Q (.tup [.sl none, .int .i64 80]) h')
    (h1 : ∀ b q h', Go.Page.get x (base + i) = some b → Ext h h' → HasL byE h' q b → (∀ s, q = some s → h.length ≤ s.b) → Q (.tup [.sl q, .int .i64 0]) h') :
    AC Tryz.prog 155 [.agg [.ptr (some ⟨dp, 0⟩), .str s, .int .i64 (base : Nat)], .int .i64 (i : Nat)] h Q := ac155 (by
  unfold vc155
  obtain ⟨f, hf, rfl⟩ := Z.is
  have hx' : ∃ y, f.now[i]? = some y ∧ x = pad y := by
    rw [List.getElem?_map] at hx
    obtain ⟨y, h1, h2⟩ := Option.map_eq_some_iff.1 hx
    exact ⟨y, h1, h2.symm⟩
  obtain ⟨y, hy, rfl⟩ := hx'
  have hil := (List.getElem?_eq_some_iff.1 hy).1
  refine d56 R (fun v _ _ hn => ?_) fun f' y' q7 h6 _ hf' _ hy' x6 H7 f7 => ⟨_, _, rfl, vif_mk (fun g => by simp at g) (fun _ => ?_)⟩
  · exact absurd ⟨by omega, by omega⟩ (hn Z.on f hf)
  rw [hf] at hf'; cases hf'
  have : y' = y := by
    have : f.now[((i : Nat) : Int).toNat]? = some y' := hy'
    simp only [Int.toNat_natCast] at this
    rw [hy] at this; cases this; rfl
  subst this
  have e : wrapK .i64 (((base : Nat) : Int) + ((i : Nat) : Int)) = ((base + i : Nat) : Int) := by rw [wrapK_i64 ⟨by omega, by omega⟩]; omega
  rw [e]
  refine k223 (L.ext x6) H7 (by rw [pad_len]; omega) (by omega) b2 (fun hg e h10 he x10 => ⟨_, _, rfl, vif_mk (fun _ => h0 hg _ (x6.trans x10)) (fun g => absurd (by simpa using g) he)⟩) fun b q11 h10 hg x10 H11 f11 => ⟨_, _, rfl, vif_mk (fun g => by simp at g) (fun _ => ?_)⟩
  exact h1 _ _ _ hg (x6.trans x10) H11 fun t ht => by have := f11 t ht; have := x6.len; omega)
theorem k84 {base i : Nat} (L : Laid h) (R : DiskR h ow dp D) (Z : Lies D s S) (b1 : 1 ≤ base) (b2 : base + i ≤ maxTag) (hil : i < S.length) (hb : base ≤ 2305843009213693952) (hi : i ≤ 1000000)
    (h0 : packAt S base i = none → ∀ h', Ext h h' → Q (.tup [.sl none, .int .i64 80]) h')
    (h1 : ∀ l q h', packAt S base i = some l → Ext h h' → Apd entE h' q l → (∀ s, q = some s → h.length ≤ s.b) → (∀ e ∈ l, entOk e = true) → l.length ≤ 43 → Q (.tup [.sl q, .int .i64 0]) h') :
    AC Tryz.prog 84 [.agg [.ptr (some ⟨dp, 0⟩), .str s, .int .i64 (base : Nat)], .int .i64 (i : Nat)] h Q := ac84 (by
  unfold vc84
  have hx : S[i]? = some S[i] := List.getElem?_eq_getElem hil
  have hp : packAt S base i = (Go.Page.get S[i] (base + i)).bind unpack := by unfold packAt; rw [hx]; rfl
  refine k155 L R Z b1 b2 hx hb hi (fun hg h' x' => ⟨_, _, rfl, vif_mk (fun _ => h0 (by rw [hp, hg]; rfl) _ x') (fun g => by simp at g)⟩) fun b q7 h6 hg x6 H7 f7 => ⟨_, _, rfl, vif_mk (fun g => by simp at g) (fun _ => ?_)⟩
  have hbl : b.length ≤ 43 := (get_some.1 hg).1
  refine k156 H7 (by omega) (fun hu e h10 he x10 => ⟨_, _, rfl, vif_mk (fun _ => h0 ?_ _ (x6.trans x10)) (fun g => absurd (by simpa using g) he)⟩) fun l q11 h10 _ hu x10 A11 f11 => ⟨_, _, rfl, vif_mk (fun g => by simp at g) (fun _ => ?_)⟩
  · rcases hu with hu | hu
    · omega
    · rw [hp, hg]; exact hu
  · obtain ⟨hb', hok⟩ := unpack_iff.1 hu
    refine h1 l _ _ (by rw [hp, hg]; exact hu) (x6.trans x10) A11 (fun t ht => by have := f11 t ht; have := x6.len; omega) hok ?_
    have h2 : ∀ l : List Ent, l.length ≤ (encL l).length := by
      intro l
      induction l with
      | nil => simp
      | cons a l ih => have := entB_pos (e := a); simp only [encL, List.flatMap_cons, List.length_append, List.length_cons] at *; omega
    have := h2 l
    rw [← hb'] at this; omega)
end
end
section
attribute [local irreducible] momErr recErr
abbrev segC (dp : Nat) (s : Bs) (base count : Nat) (qh : Option SL) : Blk := .cells [.ptr (some ⟨dp, 0⟩), .str s, .int .i64 (base : Nat), .int .i64 (count : Nat), .sl qh] true
section
variable {h h' : Heap} {Q : AV → Heap → Prop} {ow : Roles} {dp sp : Nat} {D : DS} {s : Bs} {S : List Bs} {base : Nat}
theorem seg_at {count : Nat} {qh : Option SL} (hs : h[sp]? = some (segC dp s base count qh)) {k : Nat} {x : AV} (hx : [AV.ptr (some ⟨dp, 0⟩), .str s, .int .i64 (base : Nat), .int .i64 (count : Nat), .sl qh][k]? = some x) : cellsAt h ⟨sp, 0 + k⟩ 1 = some [x] := by
  have hk := (List.getElem?_eq_some_iff.1 hx).1
  rw [cells6 hs (by simp at hk ⊢; omega)]
  congr 1
  have hd : [AV.ptr (some ⟨dp, 0⟩), .str s, .int .i64 (base : Nat), .int .i64 (count : Nat), .sl qh].drop k = x :: [AV.ptr (some ⟨dp, 0⟩), .str s, .int .i64 (base : Nat), .int .i64 (count : Nat), .sl qh].drop (k + 1) := by
    obtain ⟨_, rfl⟩ := List.getElem?_eq_some_iff.1 hx
    exact List.drop_eq_getElem_cons hk
  rw [hd]; rfl
theorem seg_src {count : Nat} {qh : Option SL} (hs : h[sp]? = some (segC dp s base count qh)) : cellsAt h ⟨sp, 0 + 0⟩ 3 = some [.ptr (some ⟨dp, 0⟩), .str s, .int .i64 (base : Nat)] := by
  rw [cells6 hs (by simp)]; rfl
theorem rdN_le {l b : Bs} {n : Nat} (h : rdN l = some (n, b)) : n < M63 := (numB_rdN h).2
def endV : Option Bs → Int | none => 10 | some l => if l = [] then 0 else 10
theorem e160w {p : Nat} {o : Option Bs} (R : Rd h p o) (hQ : Q (.int .i64 (endV o)) h) : AC Tryz.prog 160 [.ptr (some ⟨p, 0⟩)] h Q := e160 R (by cases o <;> exact hQ)
theorem k87 (L : Laid h) (R : DiskR h ow dp D) (Z : Lies D s S) (b1 : 1 ≤ base) (hb : base ≤ 2305843009213693952) (hS : S.length ≤ 100000) {qh : Option SL} (hs : h[sp]? = some (segC dp s base 0 qh))
    (h0 : lastS S base = none → ∀ h', Ext h h' → Q (.tup [.int .i64 0, .int .i64 0, .int .i64 80]) h')
    (h1 : ∀ c d x h1 h', lastS S base = some (c, d, x) → Ext h h1 → h' = h1.set sp (segC dp s base c qh) → Q (.tup [.int .i64 (d : Nat), .int .i64 (x : Nat), .int .i64 0]) h') :
    AC Tryz.prog 87 [.ptr (some ⟨sp, 0⟩), .int .i64 (S.length : Nat)] h Q := ac87 (by
  unfold vc87
  refine vif_mk (fun g => ?_) (fun g => ?_)
  · have g : S.length = 0 := by simpa using g
    exact h0 (by unfold lastS; rw [if_pos (List.eq_nil_of_length_eq_zero g)]) _ (.refl _)
  have g : S.length ≠ 0 := by simpa using g
  have hne : S ≠ [] := fun h => g (by rw [h]; rfl)
  have hx : S[S.length - 1]? = some (S[S.length - 1]'(by omega)) := List.getElem?_eq_getElem _
  generalize S[S.length - 1]'(by omega) = x at hx
  have hlast : ∀ b, Go.Page.get x (base + (S.length - 1)) = some b → lastS S base = (rd3 b).bind fun r => if r.2.1 + r.2.2 + 1 = S.length then some r else none := fun b hg => by
    unfold lastS; rw [if_neg hne, hx, Option.bind_some, hg]; rfl
  refine ⟨_, _, _, seg_src hs, ?_⟩
  have e1 : wrapK .i64 (((S.length : Nat) : Int) - 1) = ((S.length - 1 : Nat) : Int) := by rw [wrapK_i64 ⟨by omega, by omega⟩]; omega
  rw [e1]
  refine k155 L R Z b1 (by simp only [maxTag]; omega) hx hb (by omega) (fun hg h' x' => ⟨_, _, rfl, vif_mk (fun _ => h0 ?_ _ x') (fun g => by simp at g)⟩) fun b q9 h8 hg x8 H9 f9 => ⟨_, _, rfl, vif_mk (fun g => by simp at g) (fun _ => ?_)⟩
  · unfold lastS; rw [if_neg hne, hx, Option.bind_some, hg]; rfl
  have hl := hlast b hg
  have hbl : b.length ≤ 43 := (get_some.1 hg).1
  refine e158 H9 (by omega) fun p h12 x12 hp Rd0 => ⟨_, rfl, ?_⟩
  have bd0 : Bd (some b) := fun l hl => by cases hl; omega
  refine e159 Rd0 bd0 fun h15 F15 R15 => ⟨_, rfl, ?_⟩
  refine e159 R15 bd0.nm fun h18 F18 R18 => ⟨_, rfl, ?_⟩
  refine e159 R18 bd0.nm.nm fun h21 F21 R21 => ⟨_, rfl, ?_⟩
  have x21 : Ext h h21 := by
    have := ((F15.trans F18).trans F21).ext x12 hp
    exact x8.trans this
  refine e160w R21 ⟨_, rfl, ?_⟩
  have no : ∀ {h'}, Ext h h' → rd3 b = none → Q (.tup [.int .i64 0, .int .i64 0, .int .i64 80]) h' := fun hx' hr => h0 (by rw [hl, hr]; rfl) _ hx'
  have h1' : nm (some b) = rdN b := rfl
  cases n1 : rdN b with
  | none =>
    have o3 : stO (nm (stO (nm (stO (nm (some b)))))) = none := by rw [h1', n1]; rfl
    rw [o3]
    exact vif_mk (fun _ => no x21 (by unfold rd3; rw [n1])) (fun g => by simp [endV] at g)
  | some r1 =>
    obtain ⟨c, l1⟩ := r1
    have v1 : valN (nm (some b)) = c := by rw [h1', n1]; rfl
    have s1 : stO (nm (some b)) = some l1 := by rw [h1', n1]; rfl
    rw [s1, v1]
    have h2' : nm (some l1) = rdN l1 := rfl
    cases n2 : rdN l1 with
    | none =>
      have o3 : stO (nm (stO (nm (some l1)))) = none := by rw [h2', n2]; rfl
      rw [o3]
      exact vif_mk (fun _ => no x21 (by unfold rd3; rw [n1]; simp only; rw [n2])) (fun g => by simp [endV] at g)
    | some r2 =>
      obtain ⟨d, l2⟩ := r2
      have v2 : valN (nm (some l1)) = d := by rw [h2', n2]; rfl
      have s2 : stO (nm (some l1)) = some l2 := by rw [h2', n2]; rfl
      rw [s2, v2]
      have h3' : nm (some l2) = rdN l2 := rfl
      cases n3 : rdN l2 with
      | none =>
        have o3 : stO (nm (some l2)) = none := by rw [h3', n3]; rfl
        rw [o3]
        exact vif_mk (fun _ => no x21 (by unfold rd3; rw [n1]; simp only; rw [n2]; simp only; rw [n3])) (fun g => by simp [endV] at g)
      | some r3 =>
        obtain ⟨z, l3⟩ := r3
        have v3 : valN (nm (some l2)) = z := by rw [h3', n3]; rfl
        have s3 : stO (nm (some l2)) = some l3 := by rw [h3', n3]; rfl
        rw [s3, v3]
        have c1 := rdN_le n1
        have c2 := rdN_le n2
        have c3 := rdN_le n3
        simp only [M63] at c1 c2 c3
        by_cases hl3 : l3 = []
        · have hr : rd3 b = some (c, d, z) := by unfold rd3; rw [n1]; simp only; rw [n2]; simp only; rw [n3]; simp only; rw [if_pos hl3]
          rw [hr] at hl
          simp only [Option.bind_some] at hl
          have bad : d + z + 1 ≠ S.length → ∀ h', Ext h h' → Q (.tup [.int .i64 0, .int .i64 0, .int .i64 80]) h' := fun hne h' hx' => h0 (by rw [hl, if_neg hne]) _ hx'
          refine vif_mk (fun g => by simp [endV, hl3] at g) (fun _ => ?_)
          refine vif_mk (fun g => ?_) (fun g2 => ?_)
          · have := of_decide_eq_true g
            exact bad (by omega) _ x21
          replace g2 := of_decide_eq_false g2
          refine vif_mk (fun g => ?_) (fun g3 => ?_)
          · have := of_decide_eq_true g
            exact bad (by omega) _ x21
          replace g3 := of_decide_eq_false g3
          rw [wrapK_i64 (n := ((d : Nat) : Int) + ((z : Nat) : Int)) ⟨by omega, by omega⟩, wrapK_i64 ⟨by omega, by omega⟩]
          refine vif_mk (fun g => ?_) (fun g4 => ?_)
          · have : d + z + 1 ≠ S.length := by intro he; rw [bne_iff_ne] at g; omega
            exact bad this _ x21
          have g4 : d + z + 1 = S.length := by rw [bne_eq_false_iff_eq] at g4; omega
          have hs21 := x21 _ _ hs
          refine store6v (o := 3) hs21 (by simp) ?_
          refine h1 c d z h21 _ (by rw [hl, if_pos g4]) x21 ?_
          rfl
        · have hr : rd3 b = none := by unfold rd3; rw [n1]; simp only; rw [n2]; simp only; rw [n3]; simp only; rw [if_neg hl3]
          exact vif_mk (fun _ => no x21 hr) (fun g => by simp [endV, hl3] at g))
end
end
section
attribute [local irreducible] momErr recErr
section
variable {h h' : Heap} {Q : AV → Heap → Prop}
abbrev lensZ (gs : Gs) : List Int := gs.map fun g => ((g.length : Nat) : Int)
theorem k161 {q q2 : Option SL} {l : List Ent} {gs : Gs} (H : HasL entE h q l) (hl : l.length ≤ 16384) (hok : ∀ e ∈ l, entOk e = true) (H2 : HasL intE h q2 (lensZ gs)) (hg : l = gs.flatten)
    (hQ : ∀ h', Ext h h' → Q (.bool (decide (packG l = gs))) h') : AC Tryz.prog 161 [.sl q, .sl q2] h Q := ac161 (by
  unfold vc161
  have hno : packG l ≠ gs → ∀ h', Ext h h' → Q (.bool false) h' := fun hne h' x => by
    have := hQ h' x
    rwa [decide_eq_false hne] at this
  have hyes : packG l = gs → ∀ h', Ext h h' → Q (.bool true) h' := fun he h' x => by
    have := hQ h' x
    rwa [decide_eq_true he] at this
  have hm : mayE l = 0 := mayE_ok.2 ⟨hok, hl⟩
  refine k165 H (by omega) (fun hne => absurd hm hne) fun _ q5 qs h4 LLx => ⟨_, _, rfl, vif_mk (fun g => by simp at g) (fun _ => ?_)⟩
  have x4 : Ext h h4 := LLx.ext
  have I := LL.llsB LLx
  have hpl : (packG l).length ≤ l.length := packG_len hok
  have hl5 : slLen q5 = (packG l).length := by rw [I.len, encP, List.length_map]
  have hl2 : slLen q2 = gs.length := by rw [H2.len, lensZ, List.length_map]
  rw [hl5, hl2]
  refine vif_mk (fun g => hno (fun he => by rw [he] at g; simp at g) _ x4) (fun g => ?_)
  have hlen : (packG l).length = gs.length := by
    rw [bne_eq_false_iff_eq] at g
    omega
  refine ⟨fun xs h10 => ∃ i : Nat, xs = [.int .i64 i] ∧ i ≤ gs.length ∧ Ext h4 h10 ∧ ∀ j, j < i → ((packG l)[j]?).map List.length = (gs[j]?).map List.length, fun xs _ => match xs with | [.int _ i] => (gs.length - i).toNat | _ => 0, ⟨0, rfl, by omega, .refl _, fun j hj => by omega⟩, ?_⟩
  rintro n7 h10 ⟨i, hxs, hi, x10, hsame⟩
  simp only [List.cons.injEq, AV.int.injEq, true_and, and_true] at hxs
  subst hxs
  refine vif_mk (fun g => ?_) (fun g => ?_)
  · have hin : i < gs.length := by have := of_decide_eq_true g; omega
    have I10 : LlsB byE h10 q5 (encP (packG l)) h.length h4.length := I.keeps (X := fun _ => False) (keeps_of_ext x10) (fun _ _ _ h => h)
    refine I10.idx (by omega) (by simp only [encP, List.length_map]; omega) fun p s b hb hc Hb _ => ⟨_, hc, ?_⟩
    rw [Int.toNat_natCast] at hb
    simp only [encP, List.getElem?_map, Option.map_eq_some_iff] at hb
    obtain ⟨gp, hgp, rfl⟩ := hb
    have hgm : gp ∈ packG l := List.mem_of_getElem? hgp
    obtain ⟨hne, hfit⟩ := packG_fit hok gp hgm
    have hu : unpack (encL gp) = some gp := unpack_enc (packG_ok hok gp hgm)
    refine k156 Hb (by omega) (fun hbad => absurd hbad (by rw [hu]; simp; omega)) fun l' q15 h14 _ hl' x14 A15 _ => ⟨_, _, rfl, ?_⟩
    obtain rfl : l' = gp := by rw [hu] at hl'; exact (Option.some.inj hl').symm
    have hg2 : gs[i]? = some (gs[i]'hin) := List.getElem?_eq_getElem hin
    refine HasL.idx (E := intE) (H2.mono (x4.trans (x10.trans x14))) (by omega) (by simp; omega) fun p z hz hc => ?_
    rw [Int.toNat_natCast, lensZ, List.getElem?_map, hg2] at hz
    cases hz
    refine ⟨_, hc, ?_⟩
    rw [A15.hasL.len]
    refine vif_mk (fun g3 => hno (fun he => ?_) _ (x4.trans (x10.trans x14))) (fun g3 => ?_)
    · rw [he, hg2] at hgp
      cases hgp
      simp at g3
    · have e1 : wrapK .i64 (((i : Nat) : Int) + 1) = ((i + 1 : Nat) : Int) := by rw [wrapK_i64 ⟨by omega, by omega⟩]; omega
      rw [e1]
      refine ⟨trivial, ⟨i + 1, rfl, by omega, x10.trans x14, fun j hj => ?_⟩, ?_⟩
      · by_cases hji : j = i
        · subst hji
          rw [hgp, hg2]
          have : l'.length = (gs[j]'hin).length := by
            rw [bne_eq_false_iff_eq] at g3
            have g4 : ((l'.length : Nat) : Int) = (((gs[j]'hin).length : Nat) : Int) := g3
            omega
          simp only [Option.map_some, this]
        · exact hsame j (by omega)
      · simp only
        omega
  · have hin : ¬ i < gs.length := by have := of_decide_eq_false g; omega
    refine hyes (flat_sizes (by rw [packG_flat]; exact hg) (List.ext_getElem? fun j => ?_)) _ (x4.trans x10)
    rw [List.getElem?_map, List.getElem?_map]
    by_cases hj : j < i
    · exact hsame j hj
    · rw [List.getElem?_eq_none (by omega), List.getElem?_eq_none (by omega)])
end
end
section
attribute [local irreducible] momErr recErr
abbrev segX (h : Heap) (sp : Nat) : Nat → Prop := fun b => b = sp ∨ h.length ≤ b
structure IxI (h : Heap) (S : List Bs) (base data count dp sp : Nat) (s : Bs) (h8 : Heap) (q4 : Option SL) (i : Nat) (gs : Gs) (q : Option SL) : Prop where
  pk : packsFrom S base data i = some gs
  len : gs.length = i
  kp : Keeps (segX h sp) h h8
  hl : h.length ≤ h8.length
  at' : h8[sp]? = some (segC dp s base count q)
  hd : Apd entE h8 q gs.flatten
  hq : ∀ t, q = some t → h.length ≤ t.b
  sz : Apd intE h8 q4 (lensZ gs)
  sq : ∀ t, q4 = some t → h.length ≤ t.b
  dj : ∀ t u, q = some t → q4 = some u → t.b ≠ u.b
  ok : ∀ e ∈ gs.flatten, entOk e = true
  fl : gs.flatten.length ≤ 43 * i
section
variable {h : Heap} {Q : AV → Heap → Prop} {ow : Roles} {dp sp : Nat} {D : DS} {s : Bs} {S : List Bs} {base : Nat}
theorem segX_disk (R : DiskR h ow dp D) (hsp : ow sp = none) {h8 : Heap} (K : Keeps (segX h sp) h h8) (hl : h.length ≤ h8.length) : DiskR h8 ow dp D := by
  refine R.ext (fun b B hb hB => K b B (fun hx => ?_) hB) hl
  rcases hx with rfl | hx
  · exact hb hsp
  · have := R.live b hb; omega
theorem segX_laid (L : Laid h) (h2 : 2 ≤ sp) {h8 : Heap} (K : Keeps (segX h sp) h h8) : Laid h8 := by
  have := L.len
  exact L.keeps K (fun hx => by rcases hx with hx | hx <;> omega) (fun hx => by rcases hx with hx | hx <;> omega)
theorem k88 {data index count : Nat} (L : Laid h) (R : DiskR h ow dp D) (Z : Lies D s S) (b1 : 1 ≤ base) (hb : base ≤ 2305843009213693952) (hS : S.length ≤ 16384) (hdi : data + index + 1 = S.length)
    (hs : h[sp]? = some (segC dp s base count none)) (hsp : ow sp = none) (h2 : 2 ≤ sp)
    (h0 : (∀ gs, packsFrom S base data index = some gs → ¬ (gs.flatten.length = data ∧ SortedL gs.flatten ∧ packG gs.flatten = gs)) → ∀ h', Keeps (segX h sp) h h' → h.length ≤ h'.length → Q (.int .i64 80) h')
    (h1 : ∀ gs q h', packsFrom S base data index = some gs → gs.flatten.length = data → SortedL gs.flatten → packG gs.flatten = gs → Keeps (segX h sp) h h' → h.length ≤ h'.length → h'[sp]? = some (segC dp s base count q) → Apd entE h' q gs.flatten →
      (∀ t, q = some t → h.length ≤ t.b) → (∀ e ∈ gs.flatten, entOk e = true) → Q (.int .i64 0) h') :
    AC Tryz.prog 88 [.ptr (some ⟨sp, 0⟩), .int .i64 (data : Nat), .int .i64 (index : Nat)] h Q := ac88 (by
  unfold vc88 PNew
  have hspl := lt_of_get hs
  refine ⟨fun xs h8 => ∃ (q4 : Option SL) (i : Nat) (gs : Gs) (q : Option SL), xs = [.sl q4, .int .i64 ((data + i : Nat) : Int)] ∧ i ≤ index ∧ IxI h S base data count dp sp s h8 q4 i gs q, fun xs _ => match xs with | [_, .int _ n] => ((data + index : Nat) - n).toNat | _ => 0,
    ⟨none, 0, [], none, rfl, by omega, rfl, rfl, .refl _ _, Nat.le_refl _, hs, .inl ⟨rfl, rfl⟩, (by intro t h; cases h), .inl ⟨rfl, rfl⟩, (by intro t h; cases h), (by intro t u h; cases h), by simp, by simp⟩, ?_⟩
  rintro q4 n5 h8 ⟨q4', i, gs, q, hxs, hi, I⟩
  simp only [List.cons.injEq, AV.int.injEq, AV.sl.injEq, true_and, and_true] at hxs
  obtain ⟨rfl, rfl⟩ := hxs
  have e0 : wrapK .i64 (((data : Nat) : Int) + ((index : Nat) : Int)) = ((data + index : Nat) : Int) := by rw [wrapK_i64 ⟨by omega, by omega⟩]; omega
  rw [e0]
  refine vif_mk (fun g => ?_) (fun g => ?_)
  · have hin : i < index := by have := of_decide_eq_true g; omega
    refine ⟨_, _, _, seg_src I.at', ?_⟩
    have R8 := segX_disk R hsp I.kp I.hl
    have L8 := segX_laid L h2 I.kp
    refine k84 L8 R8 Z b1 (by simp only [maxTag]; omega) (by omega) hb (by omega) (fun hn h14 x14 => ⟨_, _, rfl, vif_mk (fun _ => h0 (fun gs' hgs' => ?_) _ (I.kp.trans (keeps_of_ext x14)) (by have := x14.len; have := I.hl; omega)) (fun g => by simp at g)⟩)
      fun l q15 h14 hl x14 A15 f15 hok hll => ⟨_, _, rfl, vif_mk (fun g => by simp at g) (fun _ => ?_)⟩
    · rw [packsFrom_none hin hn] at hgs'; cases hgs'
    have at14 := x14 _ _ I.at'
    have hd14 := I.hd.ext x14
    have sz14 := I.sz.ext x14
    have l8 := I.hl
    have l14 := x14.len
    refine ⟨q, seg_at at14 (k := 4) rfl, ?_⟩
    refine Apd.append (E := entE) (by' := 32) hd14 A15.hasL (by have := I.fl; omega) fun q19 h20 A20 K20 l20 f20 => ?_
    have hnsp : ∀ t : SL, q = some t → t.b ≠ sp := fun t ht he => by have := I.hq t ht; omega
    have at20 : h20[sp]? = some (segC dp s base count q) := K20 _ _ (fun ⟨t, ht, he⟩ => hnsp t ht he) at14
    have sz20 : Apd intE h20 q4 (lensZ gs) := sz14.keeps K20 fun u hu ⟨t, ht, he⟩ => I.dj t u ht hu he
    have hq19 : ∀ t, q19 = some t → h.length ≤ t.b ∧ ∀ u, q4 = some u → t.b ≠ u.b := fun t ht => by
      rcases f20 t ht with hf | ⟨t', ht', he⟩
      · exact ⟨by omega, fun u hu he => by
          have := HasL.live sz14.hasL u hu
          omega⟩
      · exact ⟨by have := I.hq t' ht'; omega, fun u hu => by rw [← he]; exact I.dj t' u ht' hu⟩
    refine store6v (o := 4) at20 (by simp) ?_
    have hset : (splice [AV.ptr (some ⟨dp, 0⟩), .str s, .int .i64 (base : Nat), .int .i64 (count : Nat), .sl q] 4 [.sl q19]) = [AV.ptr (some ⟨dp, 0⟩), .str s, .int .i64 (base : Nat), .int .i64 (count : Nat), .sl q19] := rfl
    rw [hset]
    generalize hh22 : h20.set sp (.cells [AV.ptr (some ⟨dp, 0⟩), .str s, .int .i64 (base : Nat), .int .i64 (count : Nat), .sl q19] true) = h22
    have K22 : Keeps (fun b => b = sp) h20 h22 := by rw [← hh22]; exact keeps_set rfl
    have l22 : h22.length = h20.length := by rw [← hh22, List.length_set]
    have at22 : h22[sp]? = some (segC dp s base count q19) := by rw [← hh22, List.getElem?_set, if_pos rfl, if_pos (lt_of_get at20)]
    have A22 : Apd entE h22 q19 (gs.flatten ++ l) := A20.keeps K22 fun t ht he => by have := (hq19 t ht).1; omega
    have sz22 : Apd intE h22 q4 (lensZ gs) := sz20.keeps K22 fun u hu he => by have := I.sq u hu; omega
    rw [A15.hasL.len]
    have H24 := HasL.new (E := intE) (h := h22) (l := [((l.length : Nat) : Int)]) (n := 1) rfl (c := [.int .i64 ((l.length : Nat) : Int)]) rfl
    have x24 : Ext h22 (h22 ++ [.cells [.int .i64 ((l.length : Nat) : Int)] true]) := .app _ _
    refine Apd.append (E := intE) (by' := 8) (sz22.ext x24) H24 (by have := I.len; simp; omega) fun q25 h26 A26 K26 l26 f26 => ?_
    have l24 := x24.len
    have e1 : wrapK .i64 (((data + i : Nat) : Int) + 1) = ((data + (i + 1) : Nat) : Int) := by rw [wrapK_i64 ⟨by omega, by omega⟩]; omega
    rw [e1]
    have hfl : (gs ++ [l]).flatten = gs.flatten ++ l := by simp
    refine ⟨trivial, ⟨q25, i + 1, gs ++ [l], q19, rfl, by omega, packsFrom_snoc I.pk hl, by simp [I.len], ?_, by omega, ?_, ?_, fun t ht => (hq19 t ht).1, ?_, fun t ht => ?_, fun t u ht hu => ?_, ?_, ?_⟩, ?_⟩
    · refine I.kp.trans ?_
      intro b B hx hB
      have hx1 : ¬ b = sp := fun h => hx (.inl h)
      have hx2 : b < h.length := by rcases Nat.lt_or_ge b h.length with h | h; exact h; exact absurd (.inr h) hx
      refine K26 _ _ (fun ⟨u, hu, he⟩ => by have := I.sq u hu; omega) (x24 _ _ (K22 _ _ hx1 (K20 _ _ (fun ⟨t, ht, he⟩ => by have := I.hq t ht; omega) (x14 _ _ hB))))
    · exact K26 _ _ (fun ⟨u, hu, he⟩ => by have := I.sq u hu; omega) (x24 _ _ at22)
    · rw [hfl]
      exact (A22.ext x24).keeps K26 fun t ht ⟨u, hu, he⟩ => (hq19 t ht).2 u hu he.symm
    · have : lensZ (gs ++ [l]) = lensZ gs ++ [((l.length : Nat) : Int)] := by simp [lensZ]
      rw [this]; exact A26
    · rcases f26 t ht with hf | ⟨u, hu, he⟩
      · omega
      · have := I.sq u hu; omega
    · rcases f26 u hu with hf | ⟨u', hu', he⟩
      · have := HasL.live A22.hasL t ht; omega
      · rw [← he]; exact (hq19 t ht).2 u' hu'
    · rw [hfl]; intro e he
      rcases List.mem_append.1 he with he | he
      · exact I.ok e he
      · exact hok e he
    · rw [hfl, List.length_append]; have := I.fl; omega
    · simp only; omega
  · have hin : i = index := by have := of_decide_eq_false g; omega
    subst hin
    have bad : ¬ (gs.flatten.length = data ∧ SortedL gs.flatten ∧ packG gs.flatten = gs) → ∀ h', Ext h8 h' → Q (.int .i64 80) h' := fun hn h' x => h0 (fun gs' hgs' => by
      rw [I.pk] at hgs'; cases hgs'; exact hn) _ (I.kp.trans (keeps_of_ext x)) (by have := x.len; have := I.hl; omega)
    refine ⟨q, seg_at I.at' (k := 4) rfl, ?_⟩
    rw [I.hd.hasL.len]
    refine vif_mk (fun g => bad (fun ⟨hh, _⟩ => by rw [hh] at g; simp at g) _ (.refl _)) (fun g => ?_)
    have hlen : gs.flatten.length = data := by rw [bne_eq_false_iff_eq] at g; omega
    refine ⟨q, seg_at I.at' (k := 4) rfl, ?_⟩
    refine z85 I.hd.hasL (by omega) fun h32 x32 => ⟨_, rfl, ?_⟩
    refine vif_mk (fun g => bad (fun ⟨_, hh, _⟩ => by simp [hh] at g) _ x32) (fun g => ?_)
    have hso : SortedL gs.flatten := by simpa using g
    refine ⟨q, seg_at (x32 _ _ I.at') (k := 4) rfl, ?_⟩
    refine k161 (gs := gs) (I.hd.ext x32).hasL (by omega) I.ok (I.sz.ext x32).hasL rfl fun h37 x37 => ⟨_, rfl, ?_⟩
    refine vif_mk (fun g => bad (fun ⟨_, _, hh⟩ => by simp [hh] at g) _ (x32.trans x37)) (fun g => ?_)
    have hpk : packG gs.flatten = gs := by simpa using g
    have x := x32.trans x37
    exact h1 gs q h37 I.pk hlen hso hpk (I.kp.trans (keeps_of_ext x)) (by have := x.len; have := I.hl; omega) (x _ _ I.at') (I.hd.ext x) I.hq I.ok)
end
end
section
attribute [local irreducible] momErr recErr
section
variable {h : Heap} {Q : AV → Heap → Prop} {ow : Roles} {dp : Nat} {D : DS} {s : Bs} {S : List Bs} {base : Nat}
structure SegO (h h' : Heap) (dp sp : Nat) (s : Bs) (base count : Nat) (heads : List Ent) (q : Option SL) : Prop where
  keep : Ext h h'
  new : h.length ≤ sp
  at' : h'[sp]? = some (segC dp s base count q)
  hd : Apd entE h' q heads
  hq : ∀ t, q = some t → h.length ≤ t.b
  ok : ∀ e ∈ heads, entOk e = true
theorem k18 (L : Laid h) (R : DiskR h ow dp D) (Z : Lies D s S) (b1 : 1 ≤ base) (hb : base ≤ 2305843009213693952) (hS : S.length ≤ 16384)
    (h0 : openS S base = none → ∀ h', Ext h h' → Q (.tup [.ptr none, .int .i64 80]) h')
    (h1 : ∀ c heads sp q h', openS S base = some (c, heads) → SegO h h' dp sp s base c heads q → Q (.tup [.ptr (some ⟨sp, 0⟩), .int .i64 0]) h') :
    AC Tryz.prog 18 [.ptr (some ⟨dp, 0⟩), .str s, .int .i64 (base : Nat)] h Q := ac18 (by
  unfold vc18 PNew
  have hbo : baseOk (base : Int) = true := decide_eq_true ⟨by omega, by omega⟩
  refine k86 ⟨_, rfl, ?_⟩
  rw [hbo]
  refine vif_mk (fun g => by simp at g) (fun _ => ?_)
  obtain ⟨f0, hf0, hS0⟩ := Z.is
  have hsl : f0.now.length = S.length := by rw [hS0, List.length_map]
  refine d64 R (fun hn => by rw [hf0] at hn; cases hn) fun f hf => ⟨_, _, rfl, vif_mk (fun g => by simp at g) (fun _ => ?_)⟩
  obtain rfl : f = f0 := by rw [hf0] at hf; exact (Option.some.inj hf).symm
  rw [hsl]
  have x12 : Ext h (h ++ [segC dp s base 0 none]) := .app _ _
  have hs : (h ++ [segC dp s base 0 none])[h.length]? = some (segC dp s base 0 none) := by simp
  have hl2 := L.len
  have hnone : ow h.length = none := by
    cases ho : ow h.length with
    | none => rfl
    | some r => have := R.live h.length (by rw [ho]; simp); omega
  refine k87 (L.ext x12) (R.grow x12) Z b1 hb (by omega) hs (fun hn h' x' => ⟨_, _, _, rfl, vif_mk (fun g => by simp at g) (fun _ => vif_mk (fun _ => h0 (by unfold openS; rw [hn]; rfl) _ (x12.trans x')) (fun g => by simp at g))⟩) ?_
  intro c d x hh1 h14 hlast x1 he14
  refine ⟨_, _, _, rfl, vif_mk (fun _ => ?_) (fun g => by simp at g)⟩
  have hl1 : h.length + 1 ≤ hh1.length := by
    have := x1.len
    rw [List.length_append] at this
    exact this
  have K14 : Ext h h14 := by
    intro b B hB
    have hbl := lt_of_get hB
    rw [he14, List.getElem?_set, if_neg (by omega)]
    exact x1 _ _ (x12 _ _ hB)
  have l14 : h14.length = hh1.length := by rw [he14, List.length_set]
  have at14 : h14[h.length]? = some (segC dp s base c none) := by rw [he14, List.getElem?_set, if_pos rfl, if_pos (by omega)]
  have hdx : d + x + 1 = S.length := by
    unfold lastS at hlast
    split at hlast
    · cases hlast
    · obtain ⟨r, _, hr⟩ := Option.bind_eq_some_iff.1 hlast
      split at hr
      · rename_i hr2; cases hr; exact hr2
      · cases hr
  have hop : openS S base = (packsFrom S base d x).bind fun gs => if gs.flatten.length = d ∧ SortedL gs.flatten ∧ packG gs.flatten = gs then some (c, gs.flatten) else none := by unfold openS; rw [hlast]; rfl
  have ext : ∀ {h'}, Keeps (segX h14 h.length) h14 h' → Ext h h' := fun K b B hB => by
    have hbl := lt_of_get hB
    exact K _ _ (fun hx => by rcases hx with hx | hx <;> omega) (K14 _ _ hB)
  refine k88 (L.ext K14) (R.grow K14) Z b1 hb hS hdx at14 hnone hl2 (fun hno h' K l' => ⟨_, rfl, vif_mk (fun _ => h0 ?_ _ (ext K)) (fun g => by simp at g)⟩)
    fun gs q h' hpk hg1 hg2 hg3 K l' at' hd hq hok => ⟨_, rfl, vif_mk (fun g => by simp at g) (fun _ => h1 c gs.flatten h.length q h' ?_ ⟨ext K, Nat.le_refl _, at', hd, fun t ht => by have := hq t ht; omega, hok⟩)⟩
  · rw [hop]
    cases hp : packsFrom S base d x with
    | none => rfl
    | some gs => simp only [Option.bind_some]; rw [if_neg (hno gs hp)]
  · rw [hop, hpk, Option.bind_some, if_pos ⟨hg1, hg2, hg3⟩])
end
end
section
variable {h : Heap} {Q : AV → Heap → Prop} {dp sp : Nat} {s : Bs} {base count : Nat} {q : Option SL} {heads : List Ent}
theorem k20 (hs : h[sp]? = some (segC dp s base count q)) (hQ : Q (.str s) h) : AC Tryz.prog 20 [.ptr (some ⟨sp, 0⟩)] h Q := ac20 (by
  unfold vc20
  exact vif_mk (fun g => by simp at g) (fun _ => ⟨_, seg_at hs (k := 1) rfl, hQ⟩))
theorem k22 (hs : h[sp]? = some (segC dp s base count q)) (H : HasL entE h q heads) (hQ : Q (.int .i64 (heads.length : Nat)) h) : AC Tryz.prog 22 [.ptr (some ⟨sp, 0⟩)] h Q := ac22 (by
  unfold vc22
  refine vif_mk (fun g => by simp at g) (fun _ => ⟨_, seg_at hs (k := 4) rfl, ?_⟩)
  rw [H.len]; exact hQ)
end
section
variable {h : Heap} {Q : AV → Heap → Prop} {dp sp : Nat} {s : Bs} {base count : Nat} {q : Option SL} {heads : List Ent}
theorem k15 {n : Int} (hs : h[sp]? = some (segC dp s base count q)) (H : HasL entE h q heads)
    (h0 : ¬ (0 ≤ n ∧ n < heads.length) → Q (.tup [entV (0, 0, 0, 0), .bool false]) h)
    (h1 : ∀ e, 0 ≤ n → heads[n.toNat]? = some e → Q (.tup [entV e, .bool true]) h) : AC Tryz.prog 15 [.ptr (some ⟨sp, 0⟩), .int .i64 n] h Q := ac15 (by
  unfold vc15
  refine vif_mk (fun g => h0 (by have := of_decide_eq_true g; omega)) (fun g => ?_)
  have hn := of_decide_eq_false g
  refine k22 hs H ⟨_, rfl, ?_⟩
  refine vif_mk (fun g => h0 (by have := of_decide_eq_true g; omega)) (fun g2 => ?_)
  have hn2 := of_decide_eq_false g2
  refine ⟨_, seg_at hs (k := 4) rfl, ?_⟩
  refine HasL.idx (E := entE) H (by omega) (by omega) fun p e he hc => ?_
  exact ⟨_, _, _, _, hc, h1 e (by omega) he⟩)
end
section
variable {h : Heap} {Q : AV → Heap → Prop} {ow : Roles} {dp sp : Nat} {D : DS} {s : Bs} {S : List Bs} {base count : Nat} {q : Option SL} {heads : List Ent}
theorem k16 {i : Nat} (L : Laid h) (R : DiskR h ow dp D) (Z : Lies D s S) (b1 : 1 ≤ base) (hb : base ≤ 2305843009213693952) (hS : S.length ≤ 16384) (hs : h[sp]? = some (segC dp s base count q)) (H : HasL entE h q heads) (hh : heads.length ≤ S.length) (hi : i < heads.length)
    (h0 : pageS S base heads i = none → ∀ h', Ext h h' → Q (.tup [.sl none, .int .i64 80]) h')
    (h1 : ∀ l q' h', pageS S base heads i = some l → Ext h h' → Apd entE h' q' l → (∀ t, q' = some t → h.length ≤ t.b) → Q (.tup [.sl q', .int .i64 0]) h') : AC Tryz.prog 16 [.ptr (some ⟨sp, 0⟩), .int .i64 (i : Nat)] h Q := ac16 (by
  unfold vc16
  refine vif_mk (fun g => by simp at g) (fun _ => ⟨_, seg_at hs (k := 0) rfl, vif_mk (fun g => by simp at g) (fun _ => ?_)⟩)
  refine k15 hs H (fun hn => absurd ⟨by omega, by omega⟩ hn) fun e _ he => ⟨_, _, _, _, _, rfl, vif_mk (fun g => by simp at g) (fun _ => ⟨_, _, _, seg_src hs, ?_⟩)⟩
  rw [Int.toNat_natCast] at he
  have hp : ∀ l, packAt S base i = some l → pageS S base heads i = if l ≠ [] ∧ SortedL l ∧ l.head? = some e then some l else none := fun l hl => by
    unfold pageS; rw [hl, Option.bind_some, he]
  refine k84 L R Z b1 (by simp only [maxTag]; omega) (by omega) hb (by omega) (fun hn h17 x17 => ⟨_, _, rfl, vif_mk (fun _ => h0 (by unfold pageS; rw [hn]; rfl) _ x17) (fun g => by simp at g)⟩)
    fun l q18 h17 hl x17 A17 f17 hok hll => ⟨_, _, rfl, vif_mk (fun g => by simp at g) (fun _ => ?_)⟩
  have hpl := hp l hl
  rw [A17.hasL.len]
  refine vif_mk (fun g => h0 ?_ _ x17) (fun g => ?_)
  · have : l = [] := List.eq_nil_of_length_eq_zero (by have := eq_of_beq g; omega)
    rw [hpl, if_neg (fun hc => hc.1 this)]
  have hne : l ≠ [] := fun hc => by subst hc; simp at g
  refine z85 A17.hasL (by omega) fun h21 x21 => ⟨_, rfl, ?_⟩
  refine vif_mk (fun g => h0 ?_ _ (x17.trans x21)) (fun g => ?_)
  · rw [hpl, if_neg (fun hc => by simp [hc.2.1] at g)]
  have hso : SortedL l := by simpa using g
  have hpos : 0 < l.length := List.length_pos_iff.2 hne
  refine HasL.idx (E := entE) (A17.ext x21).hasL (by omega) (by omega) fun p y hy hc => ?_
  have hy' : l.head? = some y := by
    rw [List.head?_eq_getElem?]; exact hy
  refine ⟨_, _, _, _, hc, ?_⟩
  obtain ⟨y1, y2, y3, y4⟩ := y
  obtain ⟨e1, e2, e3, e4⟩ := e
  refine vif_mk (fun g => h0 ?_ _ (x17.trans x21)) (fun g => ?_)
  · rw [hpl, if_neg (fun hc => ?_)]
    have := hc.2.2
    rw [hy'] at this
    cases this
    simp at g
  · have : (y1, y2, y3, y4) = (e1, e2, e3, e4) := by simp at g ⊢; omega
    exact h1 l q18 h21 (by rw [hpl, if_pos ⟨hne, hso, by rw [hy', this]⟩]) (x17.trans x21) (A17.ext x21) f17)
end
end Go.Proofs.YtnglhicedhcpbaaGreatDoor
namespace Go.Proofs.YtnglhicedhcpbaaGreatDoor
open Go.Ab
open Go.Ent Go.Seg
open Go.Pool hiding Bs Ents set_at
set_option linter.unusedVariables false
set_option linter.unusedSimpArgs false
abbrev entZ (z : Nat → Prop) : EncZ := ⟨entE, z⟩
abbrev PC (z : Nat → Prop) := PoolC (entZ z)
abbrev PD2 (z : Nat → Prop) := PoolD (entZ z)
set_option maxRecDepth 100000 in
theorem spot_in : Tryz.prog.stoodInHeld 233 = false := by kernel_rfl
theorem spot_key (s s' : Bs) (i i' : Int) (K : Bool → Prop) (hK : K ((s == s') && (i == i'))) : keyIs Tryz.prog 233 (spotV s i) (spotV s' i') K := by
  unfold keyIs
  rw [Tryz.underlying233]
  simp only [keyS, spot_in, keysIs, keyIs1, Tryz.underlying9, Tryz.underlying3]
  simpa using hK
theorem spot_ok (s : Bs) (i : Int) : keyOk Tryz.prog 233 (spotV s i) = true := by
  unfold keyOk
  rw [Tryz.underlying233]
  simp [keysOk, keyOk1, Tryz.underlying9, Tryz.underlying3]
section
variable {z : Nat → Prop} {h h' : Heap} {Q : AV → Heap → Prop} {p fb mb : Nat} {rs : List RF} {es : List (AV × AV × Nat)} {cl : Nat} {P : PS}
theorem k144 (C : PC z h p fb mb rs es cl P) (hQ : Q (.bool true) h) : AC Tryz.prog 144 [.ptr (some ⟨p, 0⟩)] h Q := ac144 (by
  unfold vc144
  exact vif_mk (fun _ => ⟨_, C.at (k := 1) rfl, hQ⟩) (fun g => by simp at g))
attribute [local irreducible] findP keyIs in
theorem k145 {s : Bs} {i : Int} (C : PC z h p fb mb rs es cl P) (h0 : P.at s i = none → Q (.ptr none) h) (h1 : ∀ k, P.at s i = some k → Q (.ptr (some ⟨fb, k * 6⟩)) h) : AC Tryz.prog 145 [.ptr (some ⟨p, 0⟩), .str s, .int .i64 i] h Q := ac145 (by
  unfold vc145
  refine k144 C ⟨_, rfl, vif_mk (fun g => by simp at g) (fun _ => ⟨_, C.at (k := 1) rfl, ?_⟩)⟩
  unfold PLookup
  have hm : mapEs h (some mb) = some es := by simp only [mapEs, C.mbk]
  have hz : tz Tryz.prog 3 = some (.int .i64 0) := by kernel_rfl
  rw [hm, hz]
  simp only
  have hko := spot_ok s i
  simp only [hko, need]
  refine C.find spot_key ?_ ?_
  · intro hn
    exact ⟨_, _, rfl, vif_mk (fun _ => h0 hn) (fun g => by simp at g)⟩
  intro j k n hk hj
  refine ⟨_, _, rfl, vif_mk (fun g => by simp at g) (fun _ => ⟨_, C.at (k := 0) rfl, ?_⟩)⟩
  obtain ⟨f, hf, _⟩ := of_at hk
  exact fidx rfl (List.getElem?_eq_some_iff.1 hf).1 (h1 k hk))
theorem k74 {s : Bs} {i : Int} (C : PC z h p fb mb rs es cl P) (hQ : Q (.bool (P.at s i).isSome) h) : AC Tryz.prog 74 [.ptr (some ⟨p, 0⟩), .str s, .int .i64 i] h Q := ac74 (by
  unfold vc74
  refine k145 C (fun hn => ⟨_, rfl, ?_⟩) fun k hk => ⟨_, rfl, ?_⟩
  · rw [hn] at hQ; exact hQ
  · rw [hk] at hQ; exact hQ)
theorem k148 {q : Option SL} {l : List Ent} (H : HasL entE h q l) (hl : l.length ≤ 1000000) (hQ : ∀ q' h', New entE h h' q' l → Q (.sl q') h') : AC Tryz.prog 148 [.sl q] h Q := ac148 (by
  unfold vc148 PNew
  refine vif_mk (fun g => ?_) (fun g => ?_)
  · cases q with
    | none =>
      have : l = [] := H
      subst this
      exact hQ none h New.none
    | some s => simp at g
  · exact copyNew (E := entE) H (by omega) hQ)
theorem k150 {r : RF} {k : Nat} (hb : h[fb]? = some (.cells (rfE.all rs) true)) (hr : rs[k]? = some r) (hQ : Q (.bool (decide (0 < r.held))) h) : AC Tryz.prog 150 [.ptr (some ⟨fb, k * 6⟩)] h Q := ac150 (by
  unfold vc150
  refine ⟨_, fcell hb hr (j := 3) rfl, ?_⟩
  have e : decide (((r.held : Nat) : Int) > 0) = decide (0 < r.held) := decide_eq_decide.2 ⟨fun h => by omega, fun h => by omega⟩
  rw [e]; exact hQ)
theorem k151 {r : RF} {k : Nat} (hb : h[fb]? = some (.cells (rfE.all rs) true)) (hr : rs[k]? = some r) (hQ : Q (.bool r.is) h) : AC Tryz.prog 151 [.ptr (some ⟨fb, k * 6⟩)] h Q := ac151 (by
  unfold vc151
  exact ⟨_, fcell hb hr (j := 5) rfl, hQ⟩)
theorem raw_at (C : PC z h p fb mb rs es cl P) {k : Nat} {f : Pool.Fr} (hf : P.fr[k]? = some f) : ∃ r, rs[k]? = some r ∧ RelF (entZ z) h p fb mb r f := by
  have hk := (List.getElem?_eq_some_iff.1 hf).1
  have hr : rs[k]? = some (rs[k]'(by rw [C.rl]; exact hk)) := List.getElem?_eq_getElem _
  exact ⟨_, hr, C.rel k _ f hr hf⟩
theorem k75 (C : PC z h p fb mb rs es cl P) (hQ : Q (.int .i64 (P.held : Nat)) h) : AC Tryz.prog 75 [.ptr (some ⟨p, 0⟩)] h Q := ac75 (by
  unfold vc75
  refine ac149h ?_
  unfold vc149h
  have few := C.ok.few
  refine k144 C ⟨_, rfl, vif_mk (fun g => by simp at g) (fun _ => ⟨_, C.at (k := 0) rfl, ?_⟩)⟩
  refine ⟨fun xs h11 => h11 = h ∧ ∃ i : Nat, xs = [.int .i64 ((P.fr.take i).countP fun f => decide (0 < f.held) : Nat), .int .i64 (i : Nat)] ∧ i ≤ P.fr.length, fun xs _ => match xs with | [_, .int _ i] => (P.fr.length - i).toNat | _ => 0, ⟨rfl, 0, rfl, by omega⟩, ?_⟩
  rintro n7 n8 h11 ⟨rfl, i, hx, hi⟩
  simp only [List.cons.injEq, AV.int.injEq, true_and, and_true] at hx
  obtain ⟨rfl, rfl⟩ := hx
  have hc : ((P.fr.take i).countP fun f => decide (0 < f.held)) ≤ i := by
    have := List.countP_le_length (p := fun f : Pool.Fr => decide (0 < f.held)) (l := P.fr.take i)
    rw [List.length_take] at this; omega
  refine vif_mk (fun g => ?_) (fun g => ?_)
  · have g : i < P.fr.length := by have := of_decide_eq_true g; simp only [slLen] at this; omega
    refine ⟨_, C.at (k := 0) rfl, fidx rfl g ?_⟩
    have hf : P.fr[i]? = some P.fr[i] := List.getElem?_eq_getElem g
    obtain ⟨r, hr, R⟩ := raw_at C hf
    refine k150 C.fbk hr ⟨_, rfl, ?_⟩
    have ct := countP_take (fun f : Pool.Fr => decide (0 < f.held)) hf
    rw [← R.held] at ct
    rw [wrapK_i64 (n := (i : Int) + 1) ⟨by omega, by omega⟩]
    refine vif_mk (fun g2 => ?_) (fun g2 => ?_)
    · rw [if_pos g2] at ct
      rw [wrapK_i64 ⟨by omega, by omega⟩]
      exact ⟨trivial, ⟨rfl, i + 1, by rw [ct]; simp, by omega⟩, by simp only; omega⟩
    · rw [if_neg (by simp [g2])] at ct
      exact ⟨trivial, ⟨rfl, i + 1, by rw [ct]; simp, by omega⟩, by simp only; omega⟩
  · have g : ¬ i < P.fr.length := by have := of_decide_eq_false g; simp only [slLen] at this; omega
    have : i = P.fr.length := by omega
    subst this
    rw [List.take_length]
    exact ⟨_, rfl, hQ⟩)
theorem k76 (C : PC z h p fb mb rs es cl P) (hQ : Q (.int .i64 (P.used : Nat)) h) : AC Tryz.prog 76 [.ptr (some ⟨p, 0⟩)] h Q := ac76 (by
  unfold vc76
  refine ac149u ?_
  unfold vc149u
  have few := C.ok.few
  refine k144 C ⟨_, rfl, vif_mk (fun g => by simp at g) (fun _ => ⟨_, C.at (k := 0) rfl, ?_⟩)⟩
  refine ⟨fun xs h11 => h11 = h ∧ ∃ i : Nat, xs = [.int .i64 ((P.fr.take i).countP fun f => f.is : Nat), .int .i64 (i : Nat)] ∧ i ≤ P.fr.length, fun xs _ => match xs with | [_, .int _ i] => (P.fr.length - i).toNat | _ => 0, ⟨rfl, 0, rfl, by omega⟩, ?_⟩
  rintro n7 n8 h11 ⟨rfl, i, hx, hi⟩
  simp only [List.cons.injEq, AV.int.injEq, true_and, and_true] at hx
  obtain ⟨rfl, rfl⟩ := hx
  have hc : ((P.fr.take i).countP fun f => f.is) ≤ i := by
    have := List.countP_le_length (p := fun f : Pool.Fr => f.is) (l := P.fr.take i)
    rw [List.length_take] at this; omega
  refine vif_mk (fun g => ?_) (fun g => ?_)
  · have g : i < P.fr.length := by have := of_decide_eq_true g; simp only [slLen] at this; omega
    refine ⟨_, C.at (k := 0) rfl, fidx rfl g ?_⟩
    have hf : P.fr[i]? = some P.fr[i] := List.getElem?_eq_getElem g
    obtain ⟨r, hr, R⟩ := raw_at C hf
    refine k151 C.fbk hr ⟨_, rfl, ?_⟩
    have ct := countP_take (fun f : Pool.Fr => f.is) hf
    rw [← R.is] at ct
    rw [wrapK_i64 (n := (i : Int) + 1) ⟨by omega, by omega⟩]
    refine vif_mk (fun g2 => ?_) (fun g2 => ?_)
    · rw [if_pos g2] at ct
      rw [wrapK_i64 ⟨by omega, by omega⟩]
      exact ⟨trivial, ⟨rfl, i + 1, by rw [ct]; simp, by omega⟩, by simp only; omega⟩
    · rw [if_neg (by simp [g2])] at ct
      exact ⟨trivial, ⟨rfl, i + 1, by rw [ct]; simp, by omega⟩, by simp only; omega⟩
  · have g : ¬ i < P.fr.length := by have := of_decide_eq_false g; simp only [slLen] at this; omega
    have : i = P.fr.length := by omega
    subst this
    rw [List.take_length]
    exact ⟨_, rfl, hQ⟩)
theorem k77 (C : PC z h p fb mb rs es cl P) (hQ : Q (.int .i64 (P.fr.length : Nat)) h) : AC Tryz.prog 77 [.ptr (some ⟨p, 0⟩)] h Q := ac77 (by
  unfold vc77
  exact k144 C ⟨_, rfl, vif_mk (fun g => by simp at g) (fun _ => ⟨_, C.at (k := 0) rfl, hQ⟩)⟩)
theorem k220 (C : PC z h p fb mb rs es cl P) (h0 : P.fr.findIdx? (fun f => !f.is) = none → Q (.int .i64 (-1)) h) (h1 : ∀ k, P.fr.findIdx? (fun f => !f.is) = some k → Q (.int .i64 (k : Nat)) h) :
    AC Tryz.prog 220 [.sl (some ⟨fb, 0, P.fr.length, P.fr.length, 0⟩), .func (.func 219) [] []] h Q := ac220 (by
  unfold vc220
  have few := C.ok.few
  refine ⟨fun xs h5 => h5 = h ∧ ∃ i : Nat, xs = [.int .i64 (i : Nat)] ∧ i ≤ P.fr.length ∧ ∀ f ∈ P.fr.take i, (!f.is) = false, fun xs _ => match xs with | [.int _ i] => (P.fr.length - i).toNat | _ => 0, ⟨rfl, 0, rfl, by omega, by simp⟩, ?_⟩
  rintro n2 h5 ⟨rfl, i, hx, hi, hn⟩
  simp only [List.cons.injEq, AV.int.injEq, true_and, and_true] at hx
  subst hx
  refine vif_mk (fun g => ?_) (fun g => ?_)
  · have g : i < P.fr.length := by have := of_decide_eq_true g; simp only [slLen] at this; omega
    refine fidx rfl g ?_
    have hf : P.fr[i]? = some P.fr[i] := List.getElem?_eq_getElem g
    obtain ⟨r, hr, R⟩ := raw_at C hf
    have hc : cellsAt h5 ⟨fb, i * 6⟩ 6 = some [.str r.name, .int .i64 r.i, .sl r.q, .int .i64 (r.held : Nat), .bool r.mark, .bool r.is] := by
      have := fpart C.fbk hr (j := 0) (m := 6) (by omega)
      rwa [Nat.add_zero] at this
    refine ⟨_, _, _, _, _, _, hc, ac219 ?_⟩
    unfold vc219
    refine ⟨_, rfl, ?_⟩
    rw [R.is]
    refine vif_mk (fun g2 => h1 i (findIdx_at hn hf g2)) (fun g2 => ?_)
    rw [wrapK_i64 ⟨by omega, by omega⟩]
    refine ⟨trivial, ⟨rfl, i + 1, by simp, by omega, fun f hfm => ?_⟩, by simp only; omega⟩
    rw [List.take_add_one, hf] at hfm
    rcases List.mem_append.1 hfm with hm | hm
    · exact hn f hm
    · simp at hm; subst hm; exact g2
  · have g : ¬ i < P.fr.length := by have := of_decide_eq_false g; simp only [slLen] at this; omega
    have : i = P.fr.length := by omega
    subst this
    rw [List.take_length] at hn
    exact h0 (findIdx_none hn))
theorem k221 (C : PC z h p fb mb rs es cl P) (hh : P.hand < P.fr.length) (hQ : ∀ h', PC z h' p fb mb rs es cl { P with hand := (P.hand + 1) % P.fr.length } → Keeps (pbl p fb mb) h h' → h'.length = h.length → Q (.int .i64 (P.hand : Nat)) h') :
    AC Tryz.prog 221 [.ptr (some ⟨p, 0⟩)] h Q := ac221 (by
  unfold vc221
  have few := C.ok.few
  refine ⟨_, C.at (k := 2) rfl, _, C.at (k := 2) rfl, _, C.at (k := 0) rfl, ?_⟩
  refine need_var.2 ⟨by simp only [slLen]; simp; intro hc; rw [hc] at hh; simp at hh, ?_⟩
  have e : Int.tmod (wrapK .i64 ((P.hand : Int) + 1)) ((slLen (some ⟨fb, 0, P.fr.length, P.fr.length, 0⟩) : Nat) : Int) = (((P.hand + 1) % P.fr.length : Nat) : Int) := by
    rw [wrapK_i64 ⟨by omega, by omega⟩, Int.tmod_eq_emod_of_nonneg (by omega)]
    simp [slLen]
  rw [e]
  refine pool_store (j := 2) C.pb (by omega) ?_
  refine hQ _ (C.setP (P' := { P with hand := (P.hand + 1) % P.fr.length }) rfl (.inl (Nat.mod_lt _ (by omega)))) (keeps_set (.inl rfl)) (by rw [List.length_set]))
end
theorem rfE_held {r : RF} {n : Nat} : rfE.f { r with held := n } = splice (rfE.f r) 3 [.int .i64 (n : Nat)] := rfl
theorem rfE_mark {r : RF} {b : Bool} : rfE.f { r with mark := b } = splice (rfE.f r) 4 [.bool b] := rfl
theorem set_get {α : Type} {l : List α} {k : Nat} {a : α} (hk : k < l.length) : (l.set k a)[k]? = some a := by
  rw [List.getElem?_set_self hk]
theorem fstorev {h : Heap} {fb k : Nat} {rs : List RF} {r r' : RF} (hb : h[fb]? = some (.cells (rfE.all rs) true)) (hr : rs[k]? = some r) {j : Nat} {xs : List AV} (hj : j + xs.length ≤ 6) (hr' : rfE.f r' = splice (rfE.f r) j xs) {K : Heap → Prop} (hK : K (h.set fb (.cells (rfE.all (rs.set k r')) true))) : vPtr (some ⟨fb, k * 6⟩) fun q => PStore h ⟨q.b, q.o + j⟩ xs K := fstore hb hr hj hr' hK
theorem pst_hits {h : Heap} {p fb mb n hand hits reads losses x : Nat} (hb : h[p]? = some (poolB fb mb n hand hits reads losses)) {K : Heap → Prop} (hK : K (h.set p (poolB fb mb n hand x reads losses))) : vPtr (some ⟨p, 0⟩) fun q => PStore h ⟨q.b, q.o + 3⟩ [.int .i64 (x : Nat)] K := pool_store (j := 3) hb (by omega) hK
theorem pst_reads {h : Heap} {p fb mb n hand hits reads losses x : Nat} (hb : h[p]? = some (poolB fb mb n hand hits reads losses)) {K : Heap → Prop} (hK : K (h.set p (poolB fb mb n hand hits x losses))) : vPtr (some ⟨p, 0⟩) fun q => PStore h ⟨q.b, q.o + 4⟩ [.int .i64 (x : Nat)] K := pool_store (j := 4) hb (by omega) hK
theorem pst_losses {h : Heap} {p fb mb n hand hits reads losses x : Nat} (hb : h[p]? = some (poolB fb mb n hand hits reads losses)) {K : Heap → Prop} (hK : K (h.set p (poolB fb mb n hand hits reads x))) : vPtr (some ⟨p, 0⟩) fun q => PStore h ⟨q.b, q.o + 5⟩ [.int .i64 (x : Nat)] K := pool_store (j := 5) hb (by omega) hK
section
variable {z : Nat → Prop} {h h' : Heap} {Q : AV → Heap → Prop} {p fb mb : Nat} {rs : List RF} {es : List (AV × AV × Nat)} {cl : Nat} {P : PS}
theorem relF_up {r : RF} {f : Pool.Fr} (R : RelF (entZ z) h p fb mb r f) {n : Nat} {b : Bool} : RelF (entZ z) h p fb mb { r with held := n, mark := b } { f with held := n, mark := b } := ⟨R.name, R.i, rfl, rfl, R.is, R.l, R.sep⟩
theorem k146 {k N : Nat} {f : Pool.Fr} (C : PC z h p fb mb rs es cl P) (hf : P.fr[k]? = some f) (hN : P.lt N) (hs : N ≤ 1000000000) (hl : f.l.length ≤ 1000000)
    (hQ : ∀ q' h' rs', PC z h' p fb mb rs' es cl { P with fr := P.fr.set k { f with held := f.held + 1, mark := true }, hits := P.hits + 1 } → Keeps (pbl p fb mb) h h' → h.length ≤ h'.length → HasL entE h' q' f.l → (∀ t, q' = some t → h.length ≤ t.b) → Q (.sl q') h') :
    AC Tryz.prog 146 [.ptr (some ⟨p, 0⟩), .ptr (some ⟨fb, k * 6⟩)] h Q := ac146 (by
  unfold vc146
  obtain ⟨r, hr, R⟩ := raw_at C hf
  have hk := (List.getElem?_eq_some_iff.1 hf).1
  have hkr := (List.getElem?_eq_some_iff.1 hr).1
  have hh := hN.held f (List.mem_of_getElem? hf)
  have hhit := hN.hits
  refine ⟨_, fcell C.fbk hr (j := 3) rfl, ?_⟩
  have e1 : wrapK .i64 (((r.held : Nat) : Int) + 1) = ((f.held + 1 : Nat) : Int) := by rw [R.held, wrapK_i64 ⟨by omega, by omega⟩]; omega
  rw [e1]
  have hfl := lt_of_get C.fbk
  refine fstorev (r' := { r with held := f.held + 1 }) C.fbk hr (by simp) rfE_held ?_
  have b6 : (h.set fb (.cells (rfE.all (rs.set k { r with held := f.held + 1 })) true))[fb]? = some (.cells (rfE.all (rs.set k { r with held := f.held + 1 })) true) := List.getElem?_set_self hfl
  refine fstorev (r := { r with held := f.held + 1 }) (r' := { r with held := f.held + 1, mark := true }) b6 (set_get hkr) (by simp) rfl ?_
  rw [List.set_set, List.set_set]
  have C8 := C.setF (r' := { r with held := f.held + 1, mark := true }) (f' := { f with held := f.held + 1, mark := true }) hf (relF_up R) rfl rfl rfl
  have K8 : Keeps (pbl p fb mb) h (h.set fb (.cells (rfE.all (rs.set k { r with held := f.held + 1, mark := true })) true)) := keeps_set (.inr (.inl rfl))
  have l8 : (h.set fb (.cells (rfE.all (rs.set k { r with held := f.held + 1, mark := true })) true)).length = h.length := List.length_set
  generalize h.set fb (.cells (rfE.all (rs.set k { r with held := f.held + 1, mark := true })) true) = h8 at *
  refine ⟨_, C8.at (k := 3) rfl, ?_⟩
  have e2 : wrapK .i64 (((P.hits : Nat) : Int) + 1) = ((P.hits + 1 : Nat) : Int) := by rw [wrapK_i64 ⟨by omega, by omega⟩]; omega
  simp only at e2 ⊢
  rw [e2]
  refine pst_hits C8.pb ?_
  have C12 := C8.setP (P' := { P with fr := P.fr.set k { f with held := f.held + 1, mark := true }, hits := P.hits + 1 }) rfl C8.ok.hand
  have K12 : Keeps (pbl p fb mb) h8 (h8.set p (poolB fb mb (P.fr.set k { f with held := f.held + 1, mark := true }).length P.hand (P.hits + 1) P.reads P.losses)) := keeps_set (.inl rfl)
  have l12 : (h8.set p (poolB fb mb (P.fr.set k { f with held := f.held + 1, mark := true }).length P.hand (P.hits + 1) P.reads P.losses)).length = h8.length := List.length_set
  generalize h8.set p (poolB fb mb (P.fr.set k { f with held := f.held + 1, mark := true }).length P.hand (P.hits + 1) P.reads P.losses) = h12 at *
  have hr12 : (rs.set k { r with held := f.held + 1, mark := true })[k]? = some { r with held := f.held + 1, mark := true } := set_get hkr
  refine ⟨r.q, fcell C12.fbk hr12 (j := 2) rfl, ?_⟩
  have R12 := C12.rel k _ _ hr12 (set_get hk)
  refine k148 R12.l hl fun q' h16 N16 => ⟨q', rfl, ?_⟩
  exact hQ q' h16 _ (C12.keeps (X := fun _ => False) (keeps_of_ext N16.1) (fun _ _ h => h)) ((K8.trans K12).trans (keeps_of_ext N16.1)) (by have := N16.1.len; omega) N16.hasL (fun t ht => by have := N16.2.2 t ht; omega))
theorem k71 {N : Nat} {s : Bs} {i : Int} (C : PC z h p fb mb rs es cl P) (hN : P.lt N) (hs : N ≤ 1000000000)
    (hQ : ∀ h' rs', PC z h' p fb mb rs' es cl (P.free s i).2 → Keeps (pbl p fb mb) h h' → h'.length = h.length → Q (.int .i64 (P.free s i).1) h') : AC Tryz.prog 71 [.ptr (some ⟨p, 0⟩), .str s, .int .i64 i] h Q := ac71 (by
  unfold vc71
  unfold PS.free at hQ
  refine k144 C ⟨_, rfl, vif_mk (fun g => by simp at g) (fun _ => ?_)⟩
  refine k145 C (fun hn => ⟨_, rfl, vif_mk (fun _ => ?_) (fun g => by simp at g)⟩) fun k hk => ⟨_, rfl, vif_mk (fun g => by simp at g) (fun _ => ?_)⟩
  · rw [hn] at hQ; exact hQ h rs C (.refl _ _) rfl
  rw [hk] at hQ
  obtain ⟨f, hf, _⟩ := of_at hk
  simp only [hf] at hQ
  obtain ⟨r, hr, R⟩ := raw_at C hf
  have hh := hN.held f (List.mem_of_getElem? hf)
  refine ⟨_, fcell C.fbk hr (j := 3) rfl, ?_⟩
  rw [R.held]
  refine vif_mk (fun g => ?_) (fun g => ?_)
  · have g : f.held = 0 := by simpa using g
    rw [if_pos g] at hQ
    exact hQ h rs C (.refl _ _) rfl
  · have g : f.held ≠ 0 := by simpa using g
    rw [if_neg g] at hQ
    refine ⟨_, fcell C.fbk hr (j := 3) rfl, ?_⟩
    have e1 : wrapK .i64 (((r.held : Nat) : Int) - 1) = ((f.held - 1 : Nat) : Int) := by rw [R.held, wrapK_i64 ⟨by omega, by omega⟩]; omega
    rw [e1]
    refine fstorev (r' := { r with held := f.held - 1 }) C.fbk hr (by simp) rfE_held ?_
    exact hQ _ _ (C.setF (f' := { f with held := f.held - 1 }) hf ⟨R.name, R.i, rfl, R.mark, R.is, R.l, R.sep⟩ rfl rfl rfl) (keeps_set (.inr (.inl rfl))) List.length_set)
theorem k69 {n : Nat} (hn : n ≤ 1024) (hQ : ∀ h', PC z h' (h.length + 2) h.length (h.length + 1) (List.replicate n ⟨[], 0, none, 0, false, false⟩) [] 0 (newP n) → Ext h h' → Q (.tup [.ptr (some ⟨h.length + 2, 0⟩), .int .i64 0]) h') : AC Tryz.prog 69 [.int .i64 (n : Nat)] h Q := ac69 (by
  unfold vc69 PMake PNew
  refine vif_mk (fun g => by have := of_decide_eq_true g; omega) (fun _ => vif_mk (fun g => by have := of_decide_eq_true g; omega) (fun _ => ?_))
  refine ⟨by omega, by omega, by omega, by simp only [maxI]; omega, ?_⟩
  simp only [Int.toNat_natCast, List.length_append, List.length_cons, List.length_nil]
  have hrep : (List.replicate n [AV.str [], .int .i64 0, .sl none, .int .i64 0, .bool false, .bool false]).flatten = rfE.all (List.replicate n ⟨[], 0, none, 0, false, false⟩) := by
    unfold Enc.all; rw [List.map_replicate]; rfl
  rw [hrep]
  have x : Ext h (((h ++ [Blk.cells (rfE.all (List.replicate n ⟨[], 0, none, 0, false, false⟩)) true]) ++ [Blk.mp [] 0]) ++ [Blk.cells [.sl (some ⟨h.length, 0, n, n, 0⟩), .map (some (h.length + (0 + 1))), .int .i64 0, .int .i64 0, .int .i64 0, .int .i64 0] true]) := ((Ext.app _ _).trans (.app _ _)).trans (.app _ _)
  refine hQ _ ⟨?_, ?_, ?_, ?_, ?_, by simp, ?_, by simp, ⟨?_, .inr rfl, by simp [newP]; omega⟩, by omega⟩ x
  · simp [newP]
  · simp
  · simp
  · simp [newP]
  · intro k r f hr hf
    simp only [newP, List.getElem?_replicate] at hr hf
    by_cases hk : k < n
    · rw [if_pos hk] at hr hf
      cases hr; cases hf
      exact ⟨rfl, rfl, rfl, rfl, rfl, rfl, fun s hs => by cases hs⟩
    · rw [if_neg hk] at hr; cases hr
  · intro k f hf hi
    simp only [newP, List.getElem?_replicate] at hf
    split at hf
    · cases hf; cases hi
    · cases hf
  · intro j k f g hf hg hi
    simp only [newP, List.getElem?_replicate] at hf
    split at hf
    · cases hf; cases hi
    · cases hf)
theorem k69no {n : Int} (hn : n < 0 ∨ 1024 < n) (hQ : Q (.tup [.ptr none, .int .i64 1]) h) : AC Tryz.prog 69 [.int .i64 n] h Q := ac69 (by
  unfold vc69
  exact vif_mk (fun _ => hQ) (fun g1 => vif_mk (fun _ => hQ) (fun g2 => by have := of_decide_eq_false g1; have := of_decide_eq_false g2; omega)))
end
section
variable {z : Nat → Prop} {h h' : Heap} {Q : AV → Heap → Prop} {p fb mb : Nat} {rs : List RF} {es : List (AV × AV × Nat)} {cl : Nat} {P : PS}
theorem k78 (C : PC z h p fb mb rs es cl P) (hQ : Q (.agg [.int .i64 (P.hits : Nat), .int .i64 (P.reads : Nat), .int .i64 (P.losses : Nat)]) h) : AC Tryz.prog 78 [.ptr (some ⟨p, 0⟩)] h Q := ac78 (by
  unfold vc78
  refine k144 C ⟨_, rfl, vif_mk (fun g => by simp at g) (fun _ => ⟨_, _, _, ?_, hQ⟩)⟩
  rw [cells6 C.pb (by simp)]
  rfl)
structure PlJ (z : Nat → Prop) (h10 h : Heap) (p fb mb : Nat) (es : List (AV × AV × Nat)) (cl : Nat) (P0 : PS) (r0 : Nat × List Pool.Fr × Nat) (n : Nat) : Prop where
  ex : ∃ rs P, PC z h p fb mb rs es cl P ∧ spin n P.fr P.hand = some r0 ∧ P.hand < P.fr.length ∧ P.fr.length = P0.fr.length ∧ P.hits = P0.hits ∧ P.reads = P0.reads ∧ P.losses = P0.losses
  keep : Keeps (pbl p fb mb) h10 h
  len : h.length = h10.length
attribute [local irreducible] findP keyIs in
theorem k147 {N : Nat} (C : PC z h p fb mb rs es cl P) (hN : P.lt N) (hs : N ≤ 1000000000) (h0 : P.place = none → Q (.tup [.int .i64 0, .bool false]) h)
    (h1 : ∀ k P' rs' es' h', P.place = some (k, P') → PD2 z h' p fb mb k rs' es' cl P' → Keeps (pbl p fb mb) h h' → h'.length = h.length → Q (.tup [.int .i64 (k : Nat), .bool true]) h') :
    AC Tryz.prog 147 [.ptr (some ⟨p, 0⟩)] h Q := ac147 (by
  unfold vc147
  have few := C.ok.few
  refine ⟨_, C.at (k := 0) rfl, ?_⟩
  refine k220 C (fun hn => ⟨_, rfl, vif_mk (fun g => by simp at g) (fun _ => ?_)⟩) fun k hk => ⟨_, rfl, vif_mk (fun _ => ?_) (fun g => by have := of_decide_eq_false g; omega)⟩
  rotate_left
  · rw [List.findIdx?_eq_some_iff_getElem] at hk
    obtain ⟨hl, hi, _⟩ := hk
    refine h1 k P rs es h ?_ (C.empty (List.getElem?_eq_getElem hl) (by simpa using hi)) (.refl _ _) rfl
    unfold PS.place
    rw [List.findIdx?_eq_some_iff_getElem.2 ⟨hl, hi, by assumption⟩]
  have hfull : ∀ f ∈ P.fr, f.is = true := fun f hf => by simpa using (List.findIdx?_eq_none_iff.1 hn) f hf
  refine ⟨_, C.at (k := 0) rfl, ?_⟩
  refine k75 C ⟨_, rfl, ⟨_, C.at (k := 0) rfl, rfl⟩, ?_⟩
  refine vif_mk (fun g => h0 ?_) (fun g => ?_)
  · have g : P.held = P.fr.length := by have : ((P.held : Nat) : Int) = ((P.fr.length : Nat) : Int) := by simpa [slLen] using g
                                        omega
    unfold PS.place
    rw [hn]; simp only; rw [if_pos g]
  have g : P.held ≠ P.fr.length := fun hc => by rw [hc] at g; simp [slLen] at g
  have hun : ∃ f ∈ P.fr, f.held = 0 := by
    apply Classical.byContradiction
    intro hc
    apply g
    unfold PS.held
    rw [List.countP_eq_length]
    intro f hf
    simp only [decide_eq_true_eq]
    apply Classical.byContradiction
    intro h2
    exact hc ⟨f, hf, by omega⟩
  have hne : 0 < P.fr.length := by
    obtain ⟨f, hf, _⟩ := hun
    exact List.length_pos_of_mem hf
  have hhand : P.hand < P.fr.length := by rcases C.ok.hand with h2 | h2 <;> omega
  obtain ⟨⟨k0, fr0, hand0⟩, hsp⟩ := spin_some hhand hun
  have hpl : P.place = some (k0, { P with fr := fr0, hand := hand0, losses := P.losses + 1 }) := by
    unfold PS.place
    rw [hn]; simp only; rw [if_neg g, hsp]
  have J0 : PlJ z h h p fb mb es cl P (k0, fr0, hand0) (2 * P.fr.length + 1) := ⟨⟨rs, P, C, hsp, hhand, rfl, rfl, rfl, rfl⟩, .refl _ _, rfl⟩
  refine ⟨fun xs h14 => xs = [] ∧ ∃ n, PlJ z h h14 p fb mb es cl P (k0, fr0, hand0) n, fun _ h14 => least fun n => PlJ z h h14 p fb mb es cl P (k0, fr0, hand0) n, ⟨rfl, _, J0⟩, ?_⟩
  rintro h14 ⟨_, hex⟩
  have J := least_is hex
  generalize hm : least (fun n => PlJ z h h14 p fb mb es cl P (k0, fr0, hand0) n) = n at *
  obtain ⟨⟨rs1, P1, C1, hs1, hh1, hl1, e1, e2, e3⟩, K1, l1⟩ := J
  cases n with
  | zero => simp [spin] at hs1
  | succ n =>
    have hf : P1.fr[P1.hand]? = some P1.fr[P1.hand] := List.getElem?_eq_getElem hh1
    generalize P1.fr[P1.hand] = f at hf
    have hs2 := hs1
    simp only [spin, hf] at hs1
    refine k221 C1 hh1 fun h16 C16 K16 l16 => ⟨_, rfl, ?_⟩
    have hhn : (P1.hand + 1) % P1.fr.length < P1.fr.length := Nat.mod_lt _ (by omega)
    obtain ⟨r, hr, R⟩ := raw_at (P := { P1 with hand := (P1.hand + 1) % P1.fr.length }) C16 hf
    refine ⟨_, C16.at (k := 0) rfl, fidx rfl hh1 ?_⟩
    refine ⟨_, fcell C16.fbk hr (j := 3) rfl, ?_⟩
    rw [R.held]
    refine vif_mk (fun gh => ?_) (fun gh => ?_)
    · have gh : 0 < f.held := by have := of_decide_eq_true gh; omega
      rw [if_pos gh] at hs1
      have J16 : PlJ z h h16 p fb mb es cl P (k0, fr0, hand0) n := ⟨⟨rs1, _, C16, hs1, hhn, hl1, e1, e2, e3⟩, K1.trans K16, by omega⟩
      refine ⟨trivial, ⟨rfl, n, J16⟩, ?_⟩
      have := least_le (p := fun n => PlJ z h h16 p fb mb es cl P (k0, fr0, hand0) n) J16
      show Pool.least _ < Pool.least _
      rw [hm]
      omega
    · have gh : f.held = 0 := by have := of_decide_eq_false gh; omega
      rw [if_neg (by omega)] at hs1
      refine ⟨_, fcell C16.fbk hr (j := 4) rfl, ?_⟩
      rw [R.mark]
      refine vif_mk (fun gm => ?_) (fun gm => ?_)
      · rw [if_pos gm] at hs1
        refine fstore (r' := { r with mark := false }) C16.fbk hr (by simp) rfE_mark ?_
        have C23 := C16.setF (r' := { r with mark := false }) (f' := { f with mark := false }) hf ⟨R.name, R.i, R.held, rfl, R.is, R.l, R.sep⟩ rfl rfl rfl
        have K23 : Keeps (pbl p fb mb) h16 (h16.set fb (.cells (rfE.all (rs1.set P1.hand { r with mark := false })) true)) := keeps_set (.inr (.inl rfl))
        have l23 : (h16.set fb (.cells (rfE.all (rs1.set P1.hand { r with mark := false })) true)).length = h16.length := List.length_set
        generalize h16.set fb (.cells (rfE.all (rs1.set P1.hand { r with mark := false })) true) = h23 at *
        have J23 : PlJ z h h23 p fb mb es cl P (k0, fr0, hand0) n := ⟨⟨_, _, C23, hs1, by simp only [List.length_set]; exact hhn, by simp only [List.length_set]; exact hl1, e1, e2, e3⟩, (K1.trans K16).trans K23, by omega⟩
        refine ⟨trivial, ⟨rfl, n, J23⟩, ?_⟩
        have := least_le (p := fun n => PlJ z h h23 p fb mb es cl P (k0, fr0, hand0) n) J23
        show Pool.least _ < Pool.least _
        rw [hm]
        omega
      · rw [if_neg (by simp [gm])] at hs1
        simp only [Option.some.injEq, Prod.mk.injEq] at hs1
        obtain ⟨rfl, rfl, rfl⟩ := hs1
        have hfm := List.mem_of_getElem? hf
        refine ⟨_, C16.at (k := 1) rfl, _, _, fpart C16.fbk hr (j := 0) (m := 2) (by omega), ?_⟩
        have hfi : f.is = true := by
          have hc := (spin_core hsp hhand).1
          have : (P1.fr.map core)[P1.hand]? = (P.fr.map core)[P1.hand]? := by rw [hc]
          rw [List.getElem?_map, hf, List.getElem?_map] at this
          cases hg : P.fr[P1.hand]? with
          | none => rw [hg] at this; cases this
          | some f2 =>
            rw [hg] at this
            simp only [Option.map_some, Option.some.injEq, core, Prod.mk.injEq] at this
            rw [this.2.2.2.2]; exact hfull f2 (List.mem_of_getElem? hg)
        rw [R.name, R.i]
        show PDelete Tryz.prog 233 (some mb) (.agg [.str f.name, .int .i64 f.i]) h16 _
        unfold PDelete
        simp only [C16.mbk]
        have hko := spot_ok f.name f.i
        simp only [hko, need]
        have hat : PS.at { P1 with hand := (P1.hand + 1) % P1.fr.length } f.name f.i = some P1.hand := at_some C16.ok hf hfi rfl rfl
        refine C16.find spot_key ?_ ?_
        · intro hn2; rw [hat] at hn2; cases hn2
        intro j k2 n2 hk2 hj
        rw [hat] at hk2; cases hk2
        have D28 := C16.forget hf hj
        have K28 : Keeps (pbl p fb mb) h16 (h16.set mb (.mp (es.eraseIdx j) cl)) := keeps_set (.inr (.inr rfl))
        have l28 : (h16.set mb (.mp (es.eraseIdx j) cl)).length = h16.length := List.length_set
        have hc30 : cellsAt (h16.set mb (.mp (es.eraseIdx j) cl)) ⟨p, 0 + 3 + 2⟩ 1 = some [.int .i64 (P1.losses : Nat)] := by
          rw [show 0 + 3 + 2 = 0 + 5 from rfl, cells6 D28.pb (by simp)]; rfl
        refine ⟨_, hc30, ?_⟩
        have hls := hN.losses
        have e5 : wrapK .i64 (((P1.losses : Nat) : Int) + 1) = ((P1.losses + 1 : Nat) : Int) := by rw [wrapK_i64 ⟨by omega, by omega⟩]; omega
        rw [e5]
        refine pst_losses D28.pb ?_
        have D32 := D28.setP (P' := { P with fr := P1.fr, hand := (P1.hand + 1) % P1.fr.length, losses := P.losses + 1 }) rfl (.inl hhn)
        have := h1 P1.hand _ _ _ _ hpl (by rw [← e3, ← e1, ← e2] at D32; simp only [e1, e2, e3] at D32 ⊢; exact D32) (((K1.trans K16).trans K28).trans (keeps_set (.inl rfl))) (by rw [List.length_set]; omega)
        simp only [e1, e2, e3] at this ⊢
        exact this)
end
theorem at_core {P P' : PS} (hk : P.ok) (hc : P'.fr.map core = P.fr.map core) {s : Bs} {n : Int} (h : P.at s n = none) : P'.at s n = none := by
  refine at_none fun f hf h1 h2 h3 => ?_
  obtain ⟨k, hk1⟩ := List.getElem?_of_mem hf
  have : (P'.fr.map core)[k]? = (P.fr.map core)[k]? := by rw [hc]
  rw [List.getElem?_map, hk1, List.getElem?_map] at this
  cases hg : P.fr[k]? with
  | none => rw [hg] at this; cases this
  | some f2 =>
    rw [hg] at this
    simp only [Option.map_some, Option.some.injEq, core, Prod.mk.injEq] at this
    exact at_not hk h k f2 hg (by rw [← this.2.2.2.2]; exact h1) (by rw [← this.1]; exact h2) (by rw [← this.2.1]; exact h3)
section
variable {z : Nat → Prop} {h h' : Heap} {Q : AV → Heap → Prop} {p fb mb : Nat} {rs : List RF} {es : List (AV × AV × Nat)} {cl : Nat} {P : PS}
attribute [local irreducible] findP keyIs in
set_option maxHeartbeats 1000000 in
theorem k70 {N dp sp base count : Nat} {q0 : Option SL} {s : Bs} {n : Int} {r : Int × List Ent} (C : PC z h p fb mb rs es cl P) (hN : P.lt N) (hs : N ≤ 1000000000) (hfl : ∀ f ∈ P.fr, f.l.length ≤ 1000000) (hrl : r.2.length ≤ 1000000) (hz : ∀ b, z b → b < h.length)
    (hsp : h[sp]? = some (segC dp s base count q0)) (hne : ¬ pbl p fb mb sp)
    (page : ∀ {h' : Heap} {K : AV → Heap → Prop}, Ext h h' → (r.1 ≠ 0 → ∀ h2, Ext h' h2 → K (.tup [.sl none, .int .i64 r.1]) h2) → (r.1 = 0 → ∀ q h2, Ext h' h2 → HasL entE h2 q r.2 → (∀ t, q = some t → h'.length ≤ t.b) → K (.tup [.sl q, .int .i64 0]) h2) → AC Tryz.prog 16 [.ptr (some ⟨sp, 0⟩), .int .i64 n] h' K)
    (hQ : ∀ q' h', PoolR (entZ z) h' p fb mb (P.hold s n r).2.2 → Keeps (pbl p fb mb) h h' → h.length ≤ h'.length → ((P.hold s n r).1 = 0 → HasL entE h' q' (P.hold s n r).2.1 ∧ ∀ t, q' = some t → h.length ≤ t.b) → ((P.hold s n r).1 ≠ 0 → q' = none) → Q (.tup [.sl q', .int .i64 (P.hold s n r).1]) h') :
    AC Tryz.prog 70 [.ptr (some ⟨p, 0⟩), .ptr (some ⟨sp, 0⟩), .int .i64 n] h Q := ac70 (by
  unfold vc70
  unfold PS.hold at hQ
  have few := C.ok.few
  refine k144 C ⟨_, rfl, vif_mk (fun g => by simp at g) (fun _ => ?_)⟩
  refine k20 hsp ⟨_, rfl, ?_⟩
  refine k145 C (fun hn => ⟨_, rfl, vif_mk (fun g => by simp at g) (fun _ => ?_)⟩) fun k hk => ⟨_, rfl, vif_mk (fun _ => vif_mk (fun _ => ?_) (fun g => by simp at g)) (fun g => by simp at g)⟩
  rotate_left
  ·
    rw [hk] at hQ
    obtain ⟨f, hf, _⟩ := of_at hk
    simp only [hf, up] at hQ
    refine k146 C hf hN hs (hfl f (List.mem_of_getElem? hf)) fun q' h14 rs' C' K' l' H' f' => ⟨q', rfl, ?_⟩
    exact hQ q' h14 ⟨rs', es, cl, C'⟩ K' l' (fun _ => ⟨H', f'⟩) (fun hc => absurd rfl hc)
  rw [hn] at hQ
  simp only at hQ
  refine page (.refl _) (fun he h43 x43 => ⟨_, _, rfl, vif_mk (fun _ => ?_) (fun g => absurd (by simpa using g) he)⟩) fun he q44 h43 x43 H44 f44 => ⟨_, _, rfl, vif_mk (fun g => by simp at g) (fun _ => ?_)⟩
  · rw [if_pos he] at hQ
    exact hQ none h43 (PoolR.ext (E := entZ z) ⟨rs, es, cl, C⟩ x43) (keeps_of_ext x43) x43.len (fun hc => absurd hc he) (fun _ => rfl)
  rw [if_neg (by simp [he])] at hQ
  have C43 := C.keeps (X := fun _ => False) (keeps_of_ext x43) (fun _ _ h => h)
  refine k147 C43 hN hs (fun hp => ⟨_, _, rfl, vif_mk (fun _ => ?_) (fun g => by simp at g)⟩) fun k P' rs' es' h47 hp D47 K47 l47 => ⟨_, _, rfl, vif_mk (fun g => by simp at g) (fun _ => ?_)⟩
  · rw [hp] at hQ
    exact hQ none h43 ⟨rs, es, cl, C43⟩ (keeps_of_ext x43) x43.len (fun hc => absurd hc (by simp)) (fun _ => rfl)
  rw [hp] at hQ
  simp only at hQ
  obtain ⟨hcore, ph, pr, pl⟩ := place_core hp C.ok.hand
  have hat := at_core C.ok hcore hn
  have lpb := lt_of_get C.pb
  have lfb := lt_of_get C.fbk
  have lmb := lt_of_get C.mbk
  have x43l := x43.len
  have hsp47 : h47[sp]? = some (segC dp s base count q0) := K47 _ _ hne (x43 _ _ hsp)
  refine k20 hsp47 ⟨_, rfl, ?_⟩
  have fr44 : ∀ t, q44 = some t → ¬ pbl p fb mb t.b := fun t ht hc => by
    have := f44 t ht
    rcases hc with hc | hc | hc <;> omega
  have H47 : HasL entE h47 q44 r.2 := K47.hasL (fun t ht => fr44 t ht) H44
  obtain ⟨r0, hr0⟩ : ∃ r0, rs'[k]? = some r0 := ⟨_, List.getElem?_eq_getElem (by rw [D47.rl]; exact D47.k0)⟩
  have c0 : cellsAt h47 ⟨p, 0 + 0⟩ 1 = some [.sl (some ⟨fb, 0, P'.fr.length, P'.fr.length, 0⟩)] := by rw [cells6 D47.pb (by simp)]; rfl
  refine ⟨_, c0, fidx rfl D47.k0 ?_⟩
  refine fstore (j := 0) (r' := ⟨s, n, q44, 1, true, true⟩) D47.fbk hr0 (by simp) rfl ?_
  have R' : RelF (entZ z) h47 p fb mb ⟨s, n, q44, 1, true, true⟩ ⟨s, n, r.2, 1, true, true⟩ := ⟨rfl, rfl, rfl, rfl, rfl, H47, fun t ht => ⟨fun hc => fr44 t ht (.inl hc), fun hc => fr44 t ht (.inr (.inl hc)), fun hc => fr44 t ht (.inr (.inr hc)), fun hc => by have := f44 t ht; have := hz _ hc; omega⟩⟩
  have C59 := D47.take R' rfl fun j g hj hg hi hn1 hn2 => at_not D47.ok hat j g hg hi hn1 hn2
  have b56p : (h47.set fb (.cells (rfE.all (rs'.set k ⟨s, n, q44, 1, true, true⟩)) true))[p]? = some (poolB fb mb P'.fr.length P'.hand P'.hits P'.reads P'.losses) := by
    rw [List.getElem?_set, if_neg (fun hc => D47.ne.1 hc.symm)]; exact D47.pb
  have b56m : (h47.set fb (.cells (rfE.all (rs'.set k ⟨s, n, q44, 1, true, true⟩)) true))[mb]? = some (.mp es' cl) := by
    rw [List.getElem?_set, if_neg D47.ne.2.2]; exact D47.mbk
  have K59 : Keeps (pbl p fb mb) h47 ((h47.set fb (.cells (rfE.all (rs'.set k ⟨s, n, q44, 1, true, true⟩)) true)).set mb (.mp (es' ++ [(spotV s n, .int .i64 (k : Nat), cl)]) (cl + 1))) :=
    Keeps.trans (b := h47.set fb (.cells (rfE.all (rs'.set k ⟨s, n, q44, 1, true, true⟩)) true)) (keeps_set (.inr (.inl rfl))) (keeps_set (.inr (.inr rfl)))
  have l59 : ((h47.set fb (.cells (rfE.all (rs'.set k ⟨s, n, q44, 1, true, true⟩)) true)).set mb (.mp (es' ++ [(spotV s n, .int .i64 (k : Nat), cl)]) (cl + 1))).length = h47.length := by rw [List.length_set, List.length_set]
  have c1 : cellsAt (h47.set fb (.cells (rfE.all (rs'.set k ⟨s, n, q44, 1, true, true⟩)) true)) ⟨p, 0 + 1⟩ 1 = some [.map (some mb)] := by rw [cells6 b56p (by simp)]; rfl
  refine ⟨_, c1, ?_⟩
  simp only [vMap]
  unfold PUpdate
  simp only [b56m]
  have hko := spot_ok s n
  simp only [hko, isTup, Bool.not_false, Bool.and_true, need]
  refine findP_spot spot_key ?_ ?_ ?_
  · intro e he
    obtain ⟨_, f, _, _, _, e1, _⟩ := D47.keys e he
    exact ⟨_, _, e1⟩
  rotate_left
  · intro j v n2 hj
    exfalso
    obtain ⟨k2, f, _, hf, hi, e1, _⟩ := D47.keys _ (List.mem_of_getElem? hj)
    simp only [AV.agg.injEq, List.cons.injEq, AV.str.injEq, AV.int.injEq, true_and, and_true] at e1
    exact at_not D47.ok hat k2 f hf hi e1.1.symm e1.2.symm
  intro _
  simp only at C59
  have c4 : cellsAt ((h47.set fb (.cells (rfE.all (rs'.set k ⟨s, n, q44, 1, true, true⟩)) true)).set mb (.mp (es' ++ [(spotV s n, .int .i64 (k : Nat), cl)]) (cl + 1))) ⟨p, 0 + 3 + 1⟩ 1 = some [.int .i64 (P'.reads : Nat)] := by
    rw [show 0 + 3 + 1 = 0 + 4 from rfl, cells6 C59.pb (by simp)]; rfl
  refine ⟨_, c4, ?_⟩
  have hrd := hN.reads
  have e6 : wrapK .i64 (((P'.reads : Nat) : Int) + 1) = ((P'.reads + 1 : Nat) : Int) := by rw [pr, wrapK_i64 ⟨by omega, by omega⟩]; omega
  rw [e6]
  refine pst_reads C59.pb ?_
  have C64 := C59.setP (P' := P'.take k s n r.2) rfl C59.ok.hand
  have H59 : HasL entE ((h47.set fb (.cells (rfE.all (rs'.set k ⟨s, n, q44, 1, true, true⟩)) true)).set mb (.mp (es' ++ [(spotV s n, .int .i64 (k : Nat), cl)]) (cl + 1))) q44 r.2 := K59.hasL (fun t ht => fr44 t ht) H47
  generalize (h47.set fb (.cells (rfE.all (rs'.set k ⟨s, n, q44, 1, true, true⟩)) true)).set mb (.mp (es' ++ [(spotV s n, .int .i64 (k : Nat), cl)]) (cl + 1)) = h59 at *
  have K64 : Keeps (pbl p fb mb) h59 (h59.set p (poolB fb mb (P'.fr.set k ⟨s, n, r.2, 1, true, true⟩).length P'.hand P'.hits (P'.reads + 1) P'.losses)) := keeps_set (.inl rfl)
  have l64 : (h59.set p (poolB fb mb (P'.fr.set k ⟨s, n, r.2, 1, true, true⟩).length P'.hand P'.hits (P'.reads + 1) P'.losses)).length = h59.length := List.length_set
  refine k148 (K64.hasL (fun t ht => fr44 t ht) H59) hrl fun q' h66 N66 => ⟨q', rfl, ?_⟩
  have n66 : h59.length ≤ h66.length := by have := N66.1.len; rw [List.length_set] at this; exact this
  refine hQ q' h66 (PoolR.ext (E := entZ z) ⟨_, _, _, C64⟩ N66.1) ((((keeps_of_ext x43).trans K47).trans K59).trans (K64.trans (keeps_of_ext N66.1))) (by omega) (fun _ => ⟨N66.hasL, fun t ht => ?_⟩) (fun hc => absurd rfl hc)
  have h7 := N66.2.2 t ht
  rw [List.length_set] at h7
  omega)
end
def gf (s : Bs) (f : Pool.Fr) : Pool.Fr := if gone s f then Fr.none else f
def dropL (fr : List Pool.Fr) (s : Bs) (i : Nat) : List Pool.Fr := (fr.take i).map (gf s) ++ fr.drop i
theorem dropL_len {fr : List Pool.Fr} {s : Bs} {i : Nat} : (dropL fr s i).length = fr.length := by
  unfold dropL
  rw [List.length_append, List.length_map, List.length_take, List.length_drop]; omega
theorem dropL_get {fr : List Pool.Fr} {s : Bs} {i : Nat} (hi : i < fr.length) : (dropL fr s i)[i]? = fr[i]? := by
  unfold dropL
  have : ((fr.take i).map (gf s)).length = i := by rw [List.length_map, List.length_take]; omega
  rw [List.getElem?_append_right (by omega), this, Nat.sub_self, List.getElem?_drop, Nat.add_zero]
theorem dropL_set {fr : List Pool.Fr} {s : Bs} {i : Nat} {f : Pool.Fr} (hf : fr[i]? = some f) : (dropL fr s i).set i (gf s f) = dropL fr s (i + 1) := by
  obtain ⟨hi, rfl⟩ := List.getElem?_eq_some_iff.1 hf
  unfold dropL
  have hl : ((fr.take i).map (gf s)).length = i := by rw [List.length_map, List.length_take]; omega
  rw [List.set_append_right _ _ (by omega), hl, Nat.sub_self, List.drop_eq_getElem_cons hi, List.set_cons_zero, List.take_add_one, hf]
  simp only [Option.toList, List.map_append, List.map_cons, List.map_nil, List.append_assoc, List.cons_append, List.nil_append]
theorem dropL_same {fr : List Pool.Fr} {s : Bs} {i : Nat} {f : Pool.Fr} (hf : fr[i]? = some f) (hg : gone s f = false) : dropL fr s (i + 1) = dropL fr s i := by
  have hi := (List.getElem?_eq_some_iff.1 hf).1
  rw [← dropL_set hf]
  have : gf s f = f := by unfold gf; rw [hg]; rfl
  rw [this]
  apply List.ext_getElem?
  intro j
  rw [List.getElem?_set]
  by_cases hj : i = j
  · subst hj
    rw [if_pos rfl, if_pos (by rw [dropL_len]; exact hi), dropL_get hi, hf]
  · rw [if_neg hj]
theorem dropL_end {fr : List Pool.Fr} {s : Bs} : dropL fr s fr.length = fr.map (gf s) := by simp [dropL]
section
variable {z : Nat → Prop} {h h' : Heap} {Q : AV → Heap → Prop} {p fb mb : Nat} {rs : List RF} {es : List (AV × AV × Nat)} {cl : Nat} {P : PS}
attribute [local irreducible] findP keyIs in
theorem k73 {s : Bs} (C : PC z h p fb mb rs es cl P) (hQ : ∀ h', PoolR (entZ z) h' p fb mb (P.drop s).2 → Keeps (pbl p fb mb) h h' → h'.length = h.length → Q (.int .i64 ((P.drop s).1 : Nat)) h') : AC Tryz.prog 73 [.ptr (some ⟨p, 0⟩), .str s] h Q := ac73 (by
  unfold vc73
  have few := C.ok.few
  refine k144 C ⟨_, rfl, vif_mk (fun g => by simp at g) (fun _ => ⟨_, C.at (k := 0) rfl, ?_⟩)⟩
  refine ⟨fun xs h12 => ∃ i : Nat, xs = [.int .i64 ((P.fr.take i).countP (gone s) : Nat), .int .i64 (i : Nat)] ∧ i ≤ P.fr.length ∧ PoolR (entZ z) h12 p fb mb { P with fr := dropL P.fr s i } ∧ Keeps (pbl p fb mb) h h12 ∧ h12.length = h.length,
    fun xs _ => match xs with | [_, .int _ i] => (P.fr.length - i).toNat | _ => 0, ⟨0, rfl, by omega, ⟨rs, es, cl, by simpa [dropL] using C⟩, .refl _ _, rfl⟩, ?_⟩
  rintro n8 n9 h12 ⟨i, hx, hi, ⟨rs1, es1, cl1, C1⟩, K1, l1⟩
  simp only [List.cons.injEq, AV.int.injEq, true_and, and_true] at hx
  obtain ⟨rfl, rfl⟩ := hx
  have hc : ((P.fr.take i).countP (gone s)) ≤ i := by
    have := List.countP_le_length (p := gone s) (l := P.fr.take i)
    rw [List.length_take] at this; omega
  refine vif_mk (fun g => ?_) (fun g => ?_)
  · have g : i < P.fr.length := by have := of_decide_eq_true g; simp only [slLen] at this; omega
    have hf : P.fr[i]? = some P.fr[i] := List.getElem?_eq_getElem g
    generalize P.fr[i] = f at hf
    have hf1 : (dropL P.fr s i)[i]? = some f := by rw [dropL_get g]; exact hf
    have hi1 : i < (dropL P.fr s i).length := by rw [dropL_len]; exact g
    obtain ⟨r, hr, R⟩ := raw_at C1 hf1
    have ct := countP_take (gone s) hf
    rw [wrapK_i64 (n := (i : Int) + 1) ⟨by omega, by omega⟩]
    have stay : gone s f = false → True ∧ (∃ i' : Nat, [AV.int .i64 ((P.fr.take i).countP (gone s) : Nat), .int .i64 ((i : Int) + 1)] = [.int .i64 ((P.fr.take i').countP (gone s) : Nat), .int .i64 (i' : Nat)] ∧ i' ≤ P.fr.length ∧ PoolR (entZ z) h12 p fb mb { P with fr := dropL P.fr s i' } ∧ Keeps (pbl p fb mb) h h12 ∧ h12.length = h.length) ∧ ((P.fr.length : Int) - ((i : Int) + 1)).toNat < ((P.fr.length : Int) - (i : Int)).toNat := fun hg => by
      rw [hg] at ct
      refine ⟨trivial, ⟨i + 1, by rw [ct]; simp, by omega, ⟨rs1, es1, cl1, by rw [dropL_same hf hg]; exact C1⟩, K1, l1⟩, by omega⟩
    refine ⟨_, C1.at (k := 0) rfl, fidx rfl hi1 ?_⟩
    refine ⟨_, fcell C1.fbk hr (j := 5) rfl, ?_⟩
    rw [R.is]
    refine vif_mk (fun g1 => stay (by unfold gone; simp at g1; rw [g1]; rfl)) (fun g1 => ?_)
    have g1 : f.is = true := by simpa using g1
    refine ⟨_, fcell C1.fbk hr (j := 0) rfl, ?_⟩
    rw [R.name]
    refine vif_mk (fun g2 => stay (by unfold gone; simp at g2; simp [g2])) (fun g2 => ?_)
    have g2 : f.name = s := by simpa using g2
    refine ⟨_, fcell C1.fbk hr (j := 3) rfl, ?_⟩
    rw [R.held]
    refine vif_mk (fun g3 => stay (by have := of_decide_eq_true g3; unfold gone; simp; omega)) (fun g3 => ?_)
    have g3 : f.held = 0 := by have := of_decide_eq_false g3; omega
    have hgo : gone s f = true := by unfold gone; rw [g1, g2, g3]; simp
    rw [hgo] at ct
    refine ⟨_, C1.at (k := 1) rfl, _, _, fpart C1.fbk hr (j := 0) (m := 2) (by omega), ?_⟩
    rw [R.name, R.i]
    unfold PDelete
    simp only [C1.mbk]
    have hko := spot_ok f.name f.i
    simp only [hko, need]
    have hat : PS.at { P with fr := dropL P.fr s i } f.name f.i = some i := at_some C1.ok hf1 g1 rfl rfl
    refine C1.find spot_key ?_ ?_
    · intro hn2; rw [hat] at hn2; cases hn2
    intro j k2 n2 hk2 hj
    rw [hat] at hk2; cases hk2
    obtain ⟨e1, e2, e3⟩ := erase_keys C1 hj
    have hml := lt_of_get C1.mbk
    have hfb2 : (h12.set mb (.mp (es1.eraseIdx j) cl1))[fb]? = some (.cells (rfE.all rs1) true) := by
      rw [List.getElem?_set, if_neg (fun hc => C1.ne.2.2 hc.symm)]; exact C1.fbk
    have CK := C1.setK (k := i) (r' := ⟨[], 0, none, 0, false, false⟩) (f' := Fr.none) hf1 ⟨rfl, rfl, rfl, rfl, rfl, rfl, fun s hs => by cases hs⟩ (es' := es1.eraseIdx j) (cl' := cl1) (B := .mp (es1.eraseIdx j) cl1) rfl
      (fun e he => .inr ⟨(e1 e he).1, fun hc => (e1 e he).2 hc.2⟩) (fun hc => by cases hc) (fun e he hc => e2 e he (fun hc2 => hc ⟨g1, hc2⟩)) e3 (fun hc => by cases hc)
    rw [List.set_comm _ _ C1.ne.2.2] at CK
    refine fstore (j := 0) (r' := ⟨[], 0, none, 0, false, false⟩) hfb2 hr (by simp) rfl ?_
    have e7 : wrapK .i64 ((((P.fr.take i).countP (gone s) : Nat) : Int) + 1) = (((P.fr.take i).countP (gone s) + 1 : Nat) : Int) := by rw [wrapK_i64 ⟨by omega, by omega⟩]; omega
    rw [e7]
    refine ⟨trivial, ⟨i + 1, by rw [ct]; simp, by omega, ⟨rs1.set i ⟨[], 0, none, 0, false, false⟩, es1.eraseIdx j, cl1, ?_⟩, K1.trans (Keeps.trans (b := h12.set mb (.mp (es1.eraseIdx j) cl1)) (keeps_set (.inr (.inr rfl))) (keeps_set (.inr (.inl rfl)))), by rw [List.length_set, List.length_set]; exact l1⟩, by omega⟩
    have hgf : gf s f = Fr.none := by unfold gf; rw [hgo]; rfl
    have hds := dropL_set (s := s) hf
    rw [hgf] at hds
    rw [← hds]
    exact CK
  · have g : ¬ i < P.fr.length := by have := of_decide_eq_false g; simp only [slLen] at this; omega
    have : i = P.fr.length := by omega
    subst this
    rw [List.take_length] at *
    rw [dropL_end] at C1
    exact hQ h12 ⟨rs1, es1, cl1, C1⟩ K1 l1)
end
end Go.Proofs.YtnglhicedhcpbaaGreatDoor
