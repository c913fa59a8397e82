import Derived.Test.YtankijamfedliaaGreatDoorFG1
import Derived.Test.YtankijamfedliaaGreatDoorFG3
import Derived.Test.YtankijamfedliaaGreatDoorFG13
import Derived.Test.YtankijamfedliaaGreatDoorFG15
import Derived.Test.YtankijamfedliaaGreatDoorFG20
import Derived.Test.YtankijamfedliaaGreatDoorFG24
namespace Go.Proofs.YtankijamfedliaaGreatDoor
open Go.Ab
open Go.Num hiding Bs snoc_ind
open Go.Ent Go.Seg
open Go.Page hiding Bs get
open Go.Dsk hiding Bs
open Go.Man (pendsOf pendsOf_snoc keepAll_pends notB_all find_of pendsOf_b)
set_option linter.unusedVariables false
set_option linter.unusedSimpArgs false
section
attribute [local irreducible] momErr recErr
def LlsB {α : Type} (E : Enc α) (h : Heap) (q : Option SL) (ls : List (List α)) (lo hi : Nat) : Prop :=
 ∃ qs : List (Option SL), HasL slE h q qs ∧ qs.length = ls.length ∧ (∀ (i : Nat) (s : Option SL) (l : List α), qs[i]? = some s → ls[i]? = some l → HasL E h s l) ∧
  (∀ s, q = some s → lo ≤ s.b ∧ s.b < hi) ∧ ∀ (i : Nat) (t : SL), qs[i]? = some (some t) → lo ≤ t.b ∧ t.b < hi
theorem LL.llsB {α : Type} {E : Enc α} {h0 h : Heap} {out : Option SL} {qs : List (Option SL)} {ls : List (List α)} (L : LL E h0 h out qs ls) : LlsB E h out ls h0.length h.length :=
 ⟨qs, L.oa.hasL, L.len, L.el, fun s hs => ⟨L.ob s hs, HasL.live L.oa.hasL s hs⟩, fun i t ht => ⟨(L.eb i t ht).1, L.live ht⟩⟩
theorem LlsB.keeps {α : Type} {E : Enc α} {h h' : Heap} {q : Option SL} {ls : List (List α)} {lo hi : Nat} {X : Nat → Prop} (I : LlsB E h q ls lo hi) (K : Keeps X h h') (hX : ∀ b, lo ≤ b → b < hi → ¬ X b) : LlsB E h' q ls lo hi := by
 obtain ⟨qs, a, b, c, d, e⟩ := I
 exact ⟨qs, K.hasL (fun s hs => hX _ (d s hs).1 (d s hs).2) a, b, fun i s l h1 h2 => K.hasL (fun t ht => hX _ (e i t (by rw [h1, ht])).1 (e i t (by rw [h1, ht])).2) (c i s l h1 h2), d, e⟩
theorem LlsB.idx {α : Type} {E : Enc α} {h : Heap} {q : Option SL} {ls : List (List α)} {lo hi : Nat} (I : LlsB E h q ls lo hi) {i : Int} {K : PA → Prop} (h0 : 0 ≤ i) (h1 : i < ls.length)
  (hK : ∀ p s l, ls[i.toNat]? = some l → cellsAt h p 1 = some [.sl s] → HasL E h s l → (∀ t, s = some t → lo ≤ t.b ∧ t.b < hi) → K p) : vIdx q i 1 K := by
 obtain ⟨qs, a, b, c, d, e⟩ := I
 refine HasL.idx (E := slE) a h0 (by omega) fun p s hs hc => ?_
 have hl : ls[i.toNat]? = some (ls[i.toNat]'(by omega)) := List.getElem?_eq_getElem _
 exact hK p s _ hl hc (c _ _ _ hs hl) fun t ht => e _ t (by rw [hs, ht])
theorem LlsB.len {α : Type} {E : Enc α} {h : Heap} {q : Option SL} {ls : List (List α)} {lo hi : Nat} (I : LlsB E h q ls lo hi) : slLen q = ls.length := by
 obtain ⟨qs, a, b, _⟩ := I
 rw [a.len, b]
def oneD (f : FA) (ps : List PD) (lim : Int) : DS := ⟨[f], ps, lim, -1, false⟩
def wrD (b : Nat) (s : Bs) (S : List Bs) (lim : Nat) : Int × DS :=
 if S.length ≤ lim then (0, oneD ⟨b, s, S, S⟩ [] lim) else (2, oneD ⟨b, s, S.take lim, []⟩ (pendsOf b 0 (S.take lim)) lim)
theorem oneD_find {f : FA} {ps : List PD} {lim : Int} : (oneD f ps lim).find f.name = some f := by simp [oneD, DS.find]
theorem oneD_used {f : FA} {ps : List PD} {lim : Int} : (oneD f ps lim).used = f.now.length := by simp [oneD, DS.used]
theorem create_empty {s : Bs} {b : Nat} {lim : Int} (hs : mayN s = true) : (emptyD lim).create s b = (0, oneD (mkF b s) [] lim) := by
 unfold DS.create
 rw [if_neg (by simp [hs]), if_neg (by simp [emptyD]), if_neg (by simp [emptyD, DS.find]), if_neg (by simp [emptyD])]
 rfl
theorem append_one {f : FA} {ps : List PD} {lim : Int} {x : Bs} (hx : x.length = 64) : (oneD f ps lim).append f.name x = if lim ≤ f.now.length then (2, oneD f ps lim) else (0, oneD { f with now := f.now ++ [x] } (ps ++ [(f.b, f.now.length, x)]) lim) := by
 unfold DS.append
 rw [if_neg (by simp [hx]), if_neg (by simp [oneD]), oneD_find]
 simp only [oneD_used]
 rw [show (oneD f ps lim).limit = lim from rfl]
 by_cases hl : lim ≤ (f.now.length : Int)
 ·rw [if_pos hl, if_pos hl]
 ·rw [if_neg hl, if_neg hl]
  have : (oneD f ps lim).deed = (0, oneD f ps lim) := rfl
  rw [this, if_pos rfl]
  simp [oneD, upF]
theorem sync_one {f : FA} {ps : List PD} {lim : Int} : (oneD f ps lim).sync f.name = (0, oneD (keepAll f ps) (ps.filter (notB f.b)) lim) := by
 unfold DS.sync
 rw [if_neg (by simp [oneD]), oneD_find]
 have : (oneD f ps lim).deed = (0, oneD f ps lim) := rfl
 rw [this]
 simp [oneD, upF, keepAll_b]
theorem sectors_len64 {base : Nat} {l : List Ent} (hok : ∀ e ∈ l, entOk e = true) (hl : l.length ≤ 16384) : ∀ s ∈ sectors base l, s.length = 64 := fun s hs => by
 obtain ⟨i, hi⟩ := List.getElem?_of_mem hs
 obtain ⟨b, hb, _, rfl⟩ := sectors_get hi
 exact put_len (pagesB_fit hok hl b hb)
section
variable {h : Heap} {Q : AV → Heap → Prop} {ow : Roles} {p : Nat}
theorem mayS_cases {n : Int} {l : List Ent} : (baseOk n = false ∧ mayS n l = 1) ∨ (baseOk n = true ∧ mayE l ≠ 0 ∧ mayS n l = mayE l) ∨ (baseOk n = true ∧ mayE l = 0 ∧ ¬ SortedL l ∧ mayS n l = 1) ∨ (baseOk n = true ∧ mayE l = 0 ∧ SortedL l ∧ mayS n l = 0) := by
 unfold mayS
 by_cases h1 : baseOk n = false
 ·exact .inl ⟨h1, by rw [if_pos h1]⟩
 have h1' : baseOk n = true := by simpa using h1
 by_cases h2 : mayE l ≠ 0
 ·exact .inr (.inl ⟨h1', h2, by rw [if_neg h1, if_pos h2]⟩)
 by_cases h3 : SortedL l
 ·exact .inr (.inr (.inr ⟨h1', by simpa using h2, h3, by rw [if_neg h1, if_neg h2, if_pos h3]⟩))
 ·exact .inr (.inr (.inl ⟨h1', by simpa using h2, h3, by rw [if_neg h1, if_neg h2, if_neg h3]⟩))
theorem k40 {lim : Nat} {n : Int} {s : Bs} {q : Option SL} {l : List Ent} (hs : mayN s = true) (hlim : lim ≤ 16384) (L : Laid h) (R : DiskR h ow p (emptyD lim)) (H : HasL entE h q l) (hl : l.length ≤ 100000)
  (h0 : mayS n l ≠ 0 → ∀ h', Ext h h' → Q (.int .i64 (mayS n l)) h')
  (h1 : ∀ base : Nat, n = base → 1 ≤ base → base ≤ 2305843009213693952 → mayE l = 0 → SortedL l → ∀ b h' ow', DiskR h' ow' p (wrD b s (sectors base l) lim).2 → DStep ow h ow' h' → Q (.int .i64 (wrD b s (sectors base l) lim).1) h') :
  AC Tryz.prog 40 [.ptr (some ⟨p, 0⟩), .str s, .int .i64 n, .sl q] h Q := ac40 (by
 unfold vc40
 refine k72 ⟨_, rfl, ?_⟩
 rcases mayS_cases (n := n) (l := l) with ⟨m1, m2⟩ | hrest
 ·rw [m1]
  rw [m2] at h0
  exact vif_mk (fun _ => h0 (by omega) _ (.refl _)) (fun g => by cases g)
 have m1 : baseOk n = true := by
  rcases hrest with ⟨m, _⟩ | ⟨m, _⟩ | ⟨m, _⟩ <;> exact m
 rw [m1]
 refine vif_mk (fun g => by cases g) (fun _ => ?_)
 obtain ⟨base, rfl, b1, b2⟩ := baseOk_nat m1
 refine k73 L H hl ⟨b1, b2⟩ (fun hm => ⟨_, _, rfl, vif_mk (fun _ => ?_) (fun g => absurd (by simpa using g) hm)⟩) fun hm q10 qs10 h9 L9 => ⟨_, _, rfl, vif_mk (fun g => by simp at g) (fun _ => ?_)⟩
 ·rcases hrest with ⟨_, m2, m3⟩ | ⟨_, m2, _⟩ | ⟨_, m2, _⟩
  ·rw [m3] at h0; exact h0 m2 _ (.refl _)
  ·exact absurd m2 hm
  ·exact absurd m2 hm
 obtain ⟨hok, hlm⟩ := mayE_ok.1 hm
 refine z74 (H.mono L9.ext) (by omega) fun h13 x13 => ⟨_, rfl, vif_mk (fun g => ?_) (fun g => ?_)⟩
 ·simp only [Bool.not_eq_true', decide_eq_false_iff_not] at g
  rcases hrest with ⟨_, m2, m3⟩ | ⟨_, _, m2, m3⟩ | ⟨_, _, m2, _⟩
  ·exact absurd hm m2
  ·rw [m3] at h0; exact h0 (by omega) _ (L9.ext.trans x13)
  ·exact absurd m2 g
 have g : SortedL l := by simpa using g
 have h1 := h1 base rfl b1 b2 hm g
 generalize hS : sectors base l = S at *
 have h64 : ∀ x ∈ S, x.length = 64 := by rw [← hS]; exact sectors_len64 hok hlm
 have hSl : S.length ≤ 40000 := by
  rw [← hS, sectors_len]
  have := packG_len hok; have := idx_len hok; omega
 have x0 : Ext h h13 := L9.ext.trans x13
 have I13 : LlsB byE h13 q10 S h.length h9.length := (LL.llsB L9).keeps (X := fun _ => False) (keeps_of_ext x13) (fun _ _ _ h => h)
 have lI := I13.len
 have R13 := R.grow x0
 refine d75 R13 fun b h16 ow16 R16 S16 => ⟨_, rfl, ?_⟩
 rw [create_empty hs] at R16 ⊢
 refine vif_mk (fun g => by simp at g) (fun _ => ?_)
 have hown : ∀ (ow' : Roles) (h' : Heap), DStep ow h13 ow' h' → ∀ c, h.length ≤ c → c < h9.length → ow' c = none := fun ow' h' st c c1 c2 => by
  cases hc : ow' c with
  | none => rfl
  | some r =>
   exfalso
   rcases st.own c (by rw [hc]; simp) with h2 | h2
   ·have := R.live c h2; omega
   ·have := x13.len; omega
 have hXs : ∀ (ow' : Roles) (h' : Heap), DStep ow h13 ow' h' → ∀ c, h.length ≤ c → c < h9.length → ¬ dsk ow' c := fun ow' h' st c c1 c2 hc => hc (hown ow' h' st c c1 c2)
 refine ⟨fun xs h21 => ∃ (i : Nat) (ow21 : Roles), xs = [.int .i64 i] ∧ i ≤ S.length ∧ i ≤ lim ∧ DiskR h21 ow21 p (oneD ⟨b, s, S.take i, []⟩ (pendsOf b 0 (S.take i)) lim) ∧ DStep ow h13 ow21 h21 ∧ LlsB byE h21 q10 S h.length h9.length,
  fun xs _ => match xs with | [.int _ i] => (S.length - i).toNat | _ => 0, ⟨0, ow16, rfl, by omega, by omega, by simpa [mkF, pendsOf] using R16, S16, I13.keeps S16.keeps (fun c c1 c2 hc => by have := R.live c hc; omega)⟩, ?_⟩
 rintro n18 h21 ⟨i, ow21, hx, hi, hi2, R21, S21, I21⟩
 simp only [List.cons.injEq, AV.int.injEq, true_and, and_true] at hx
 subst hx
 have e1 : (⟨b, s, S.take i, []⟩ : FA).name = s := rfl
 have htl : (S.take i).length = i := by rw [List.length_take]; omega
 have hpl : (pendsOf b 0 (S.take i)).length ≤ 1000000 := by
  have : ∀ (l : List Bs) (j : Nat), (pendsOf b j l).length = l.length := by
   intro l
   induction l with
   | nil => intro j; rfl
   | cons x l ih => intro j; simp [pendsOf, ih]
  rw [this, htl]; omega
 refine vif_mk (fun g2 => ?_) (fun g2 => ?_)
 ·replace g2 := of_decide_eq_true g2
  refine I21.idx (by omega) (by omega) fun p22 q23 x hx hc Hx hxb => ⟨q23, hc, ?_⟩
  have hx' : S[i]? = some x := by simpa using hx
  have hx64 := h64 x (List.mem_of_getElem? hx')
  refine d76 R21 Hx (fun t ht => hown ow21 h21 S21 _ (hxb t ht).1 (hxb t ht).2) hpl fun h25 ow25 R25 S25 => ⟨_, rfl, ?_⟩
  have ha := append_one (f := ⟨b, s, S.take i, []⟩) (ps := pendsOf b 0 (S.take i)) (lim := (lim : Int)) hx64
  rw [e1] at ha
  rw [ha] at R25 ⊢
  simp only [htl] at R25 ⊢
  by_cases hil : (lim : Int) ≤ (i : Int)
  ·rw [if_pos hil] at R25 ⊢
   have hw : wrD b s S lim = (2, oneD ⟨b, s, S.take i, []⟩ (pendsOf b 0 (S.take i)) lim) := by
    unfold wrD
    have : i = lim := by omega
    subst this
    rw [if_neg (by omega)]
   refine vif_mk (fun _ => ?_) (fun g => by simp at g)
   have := h1 b h25 ow25
   rw [hw] at this
   exact this R25 ((DStep.ext x0).trans (S21.trans S25))
  ·rw [if_neg hil] at R25 ⊢
   refine vif_mk (fun g => by simp at g) (fun _ => ?_)
   rw [wrapK_i64 ⟨by omega, by omega⟩]
   refine ⟨trivial, ⟨i + 1, ow25, by simp, by omega, by omega, ?_, S21.trans S25, I21.keeps S25.keeps (hXs ow21 h21 S21)⟩, by omega⟩
   have e2 : S.take (i + 1) = S.take i ++ [x] := by rw [List.take_add_one, hx']; rfl
   have e3 : pendsOf b 0 (S.take (i + 1)) = pendsOf b 0 (S.take i) ++ [(b, i, x)] := by rw [e2, pendsOf_snoc, htl, Nat.zero_add]
   rw [e3, e2]
   exact R25
 ·replace g2 := of_decide_eq_false g2
  have : i = S.length := by omega
  subst this
  rw [List.take_length] at R21 hpl
  refine d77 R21 hpl fun h28 ow28 R28 S28 => ⟨_, rfl, ?_⟩
  have hsy := sync_one (f := ⟨b, s, S, []⟩) (ps := pendsOf b 0 S) (lim := (lim : Int))
  have e1 : (⟨b, s, S, []⟩ : FA).name = s := rfl
  rw [e1] at hsy
  rw [hsy] at R28 ⊢
  have hk : keepAll ⟨b, s, S, []⟩ (pendsOf b 0 S) = ⟨b, s, S, S⟩ := by
   have k1 := keepAll_pends (base := []) (l := S) (f := ⟨b, s, S, []⟩) rfl h64
   obtain ⟨k2, k3, k4⟩ := keepAll_b (f := ⟨b, s, S, []⟩) (pendsOf b 0 S)
   simp only [List.length_nil, List.nil_append] at k1
   cases hF : keepAll ⟨b, s, S, []⟩ (pendsOf b 0 S) with
   | mk b' n' now' safe' =>
    rw [hF] at k1 k2 k3 k4
    simp only at k1 k2 k3 k4
    rw [k1, k2, k3, k4]
  have hw : wrD b s S lim = (0, oneD ⟨b, s, S, S⟩ [] lim) := by unfold wrD; rw [if_pos hi2]
  rw [hk, notB_all] at R28
  have := h1 b h28 ow28
  rw [hw] at this
  exact this R28 ((DStep.ext x0).trans (S21.trans S28)))
end
end
end Go.Proofs.YtankijamfedliaaGreatDoor
namespace Go.Proofs.YtankijamfedliaaGreatDoor
open Go.Ab
open Go.Num hiding Bs snoc_ind
open Go.Ent Go.Seg
open Go.Page hiding Bs get
open Go.Dsk hiding Bs
set_option linter.unusedVariables false
set_option linter.unusedSimpArgs false
section
attribute [local irreducible] momErr recErr
structure Lies (D : DS) (s : Bs) (S : List Bs) : Prop where
 on : D.off = false
 is : ∃ f, D.find s = some f ∧ S = f.now.map pad
section
variable {h h' : Heap} {Q : AV → Heap → Prop} {ow : Roles} {dp : Nat} {D : DS} {s : Bs} {S : List Bs}
theorem k110 {base i : Nat} (L : Laid h) (R : DiskR h ow dp D) (Z : Lies D s S) (b1 : 1 ≤ base) (b2 : base + i ≤ maxTag) {x : Bs} (hx : S[i]? = some x) (hb : base ≤ 2305843009213693952) (hi : i ≤ 1000000)
  (h0 : Go.Page.get x (base + i) = none → ∀ h', Ext h h' → Q (.tup [.sl none, .int .i64 80]) h')
  (h1 : ∀ b q h', Go.Page.get x (base + i) = some b → Ext h h' → HasL byE h' q b → (∀ s, q = some s → h.length ≤ s.b) → Q (.tup [.sl q, .int .i64 0]) h') :
  AC Tryz.prog 110 [.agg [.ptr (some ⟨dp, 0⟩), .str s, .int .i64 (base : Nat)], .int .i64 (i : Nat)] h Q := ac110 (by
 unfold vc110
 obtain ⟨f, hf, rfl⟩ := Z.is
 have hx' : ∃ y, f.now[i]? = some y ∧ x = pad y := by
  rw [List.getElem?_map] at hx
  obtain ⟨y, h1, h2⟩ := Option.map_eq_some_iff.1 hx
  exact ⟨y, h1, h2.symm⟩
 obtain ⟨y, hy, rfl⟩ := hx'
 have hil := (List.getElem?_eq_some_iff.1 hy).1
 refine d129 R (fun v _ _ hn => ?_) fun f' y' q7 h6 _ hf' _ hy' x6 H7 f7 => ⟨_, _, rfl, vif_mk (fun g => by simp at g) (fun _ => ?_)⟩
 ·exact absurd ⟨by omega, by omega⟩ (hn Z.on f hf)
 rw [hf] at hf'; cases hf'
 have : y' = y := by
  have : f.now[((i : Nat) : Int).toNat]? = some y' := hy'
  simp only [Int.toNat_natCast] at this
  rw [hy] at this; cases this; rfl
 subst this
 have e : wrapK .i64 (((base : Nat) : Int) + ((i : Nat) : Int)) = ((base + i : Nat) : Int) := by rw [wrapK_i64 ⟨by omega, by omega⟩]; omega
 rw [e]
 refine k130 (L.ext x6) H7 (by rw [pad_len]; omega) (by omega) b2 (fun hg e h10 he x10 => ⟨_, _, rfl, vif_mk (fun _ => h0 hg _ (x6.trans x10)) (fun g => absurd (by simpa using g) he)⟩) fun b q11 h10 hg x10 H11 f11 => ⟨_, _, rfl, vif_mk (fun g => by simp at g) (fun _ => ?_)⟩
 exact h1 _ _ _ hg (x6.trans x10) H11 fun t ht => by have := f11 t ht; have := x6.len; omega)
theorem k87 {base i : Nat} (L : Laid h) (R : DiskR h ow dp D) (Z : Lies D s S) (b1 : 1 ≤ base) (b2 : base + i ≤ maxTag) (hil : i < S.length) (hb : base ≤ 2305843009213693952) (hi : i ≤ 1000000)
  (h0 : packAt S base i = none → ∀ h', Ext h h' → Q (.tup [.sl none, .int .i64 80]) h')
  (h1 : ∀ l q h', packAt S base i = some l → Ext h h' → Apd entE h' q l → (∀ s, q = some s → h.length ≤ s.b) → (∀ e ∈ l, entOk e = true) → l.length ≤ 43 → Q (.tup [.sl q, .int .i64 0]) h') :
  AC Tryz.prog 87 [.agg [.ptr (some ⟨dp, 0⟩), .str s, .int .i64 (base : Nat)], .int .i64 (i : Nat)] h Q := ac87 (by
 unfold vc87
 have hx : S[i]? = some S[i] := List.getElem?_eq_getElem hil
 have hp : packAt S base i = (Go.Page.get S[i] (base + i)).bind unpack := by unfold packAt; rw [hx]; rfl
 refine k110 L R Z b1 b2 hx hb hi (fun hg h' x' => ⟨_, _, rfl, vif_mk (fun _ => h0 (by rw [hp, hg]; rfl) _ x') (fun g => by simp at g)⟩) fun b q7 h6 hg x6 H7 f7 => ⟨_, _, rfl, vif_mk (fun g => by simp at g) (fun _ => ?_)⟩
 have hbl : b.length ≤ 43 := (get_some.1 hg).1
 refine k116 H7 (by omega) (fun hu e h10 he x10 => ⟨_, _, rfl, vif_mk (fun _ => h0 ?_ _ (x6.trans x10)) (fun g => absurd (by simpa using g) he)⟩) fun l q11 h10 _ hu x10 A11 f11 => ⟨_, _, rfl, vif_mk (fun g => by simp at g) (fun _ => ?_)⟩
 ·rcases hu with hu | hu
  ·omega
  ·rw [hp, hg]; exact hu
 ·obtain ⟨hb', hok⟩ := unpack_iff.1 hu
  refine h1 l _ _ (by rw [hp, hg]; exact hu) (x6.trans x10) A11 (fun t ht => by have := f11 t ht; have := x6.len; omega) hok ?_
  have h2 : ∀ l : List Ent, l.length ≤ (encL l).length := by
   intro l
   induction l with
   | nil => simp
   | cons a l ih => have := entB_pos (e := a); simp only [encL, List.flatMap_cons, List.length_append, List.length_cons] at *; omega
  have := h2 l
  rw [← hb'] at this; omega)
end
end
section
attribute [local irreducible] momErr recErr
abbrev segC (dp : Nat) (s : Bs) (base count : Nat) (qh : Option SL) : Blk := .cells [.ptr (some ⟨dp, 0⟩), .str s, .int .i64 (base : Nat), .int .i64 (count : Nat), .sl qh] true
section
variable {h h' : Heap} {Q : AV → Heap → Prop} {ow : Roles} {dp sp : Nat} {D : DS} {s : Bs} {S : List Bs} {base : Nat}
theorem seg_at {count : Nat} {qh : Option SL} (hs : h[sp]? = some (segC dp s base count qh)) {k : Nat} {x : AV} (hx : [AV.ptr (some ⟨dp, 0⟩), .str s, .int .i64 (base : Nat), .int .i64 (count : Nat), .sl qh][k]? = some x) : cellsAt h ⟨sp, 0 + k⟩ 1 = some [x] := by
 have hk := (List.getElem?_eq_some_iff.1 hx).1
 rw [cells6 hs (by simp at hk ⊢; omega)]
 congr 1
 have hd : [AV.ptr (some ⟨dp, 0⟩), .str s, .int .i64 (base : Nat), .int .i64 (count : Nat), .sl qh].drop k = x :: [AV.ptr (some ⟨dp, 0⟩), .str s, .int .i64 (base : Nat), .int .i64 (count : Nat), .sl qh].drop (k + 1) := by
  obtain ⟨_, rfl⟩ := List.getElem?_eq_some_iff.1 hx
  exact List.drop_eq_getElem_cons hk
 rw [hd]; rfl
theorem seg_src {count : Nat} {qh : Option SL} (hs : h[sp]? = some (segC dp s base count qh)) : cellsAt h ⟨sp, 0 + 0⟩ 3 = some [.ptr (some ⟨dp, 0⟩), .str s, .int .i64 (base : Nat)] := by
 rw [cells6 hs (by simp)]; rfl
theorem rdN_le {l b : Bs} {n : Nat} (h : rdN l = some (n, b)) : n < M63 := (numB_rdN h).2
def endV : Option Bs → Int | none => 10 | some l => if l = [] then 0 else 10
theorem e113w {p : Nat} {o : Option Bs} (R : Rd h p o) (hQ : Q (.int .i64 (endV o)) h) : AC Tryz.prog 113 [.ptr (some ⟨p, 0⟩)] h Q := e113 R (by cases o <;> exact hQ)
theorem k79 (L : Laid h) (R : DiskR h ow dp D) (Z : Lies D s S) (b1 : 1 ≤ base) (hb : base ≤ 2305843009213693952) (hS : S.length ≤ 100000) {qh : Option SL} (hs : h[sp]? = some (segC dp s base 0 qh))
  (h0 : lastS S base = none → ∀ h', Ext h h' → Q (.tup [.int .i64 0, .int .i64 0, .int .i64 80]) h')
  (h1 : ∀ c d x h1 h', lastS S base = some (c, d, x) → Ext h h1 → h' = h1.set sp (segC dp s base c qh) → Q (.tup [.int .i64 (d : Nat), .int .i64 (x : Nat), .int .i64 0]) h') :
  AC Tryz.prog 79 [.ptr (some ⟨sp, 0⟩), .int .i64 (S.length : Nat)] h Q := ac79 (by
 unfold vc79
 refine vif_mk (fun g => ?_) (fun g => ?_)
 ·have g : S.length = 0 := by simpa using g
  exact h0 (by unfold lastS; rw [if_pos (List.eq_nil_of_length_eq_zero g)]) _ (.refl _)
 have g : S.length ≠ 0 := by simpa using g
 have hne : S ≠ [] := fun h => g (by rw [h]; rfl)
 have hx : S[S.length - 1]? = some (S[S.length - 1]'(by omega)) := List.getElem?_eq_getElem _
 generalize S[S.length - 1]'(by omega) = x at hx
 have hlast : ∀ b, Go.Page.get x (base + (S.length - 1)) = some b → lastS S base = (rd3 b).bind fun r => if r.2.1 + r.2.2 + 1 = S.length then some r else none := fun b hg => by
  unfold lastS; rw [if_neg hne, hx, Option.bind_some, hg]; rfl
 refine ⟨_, _, _, seg_src hs, ?_⟩
 have e1 : wrapK .i64 (((S.length : Nat) : Int) - 1) = ((S.length - 1 : Nat) : Int) := by rw [wrapK_i64 ⟨by omega, by omega⟩]; omega
 rw [e1]
 refine k110 L R Z b1 (by simp only [maxTag]; omega) hx hb (by omega) (fun hg h' x' => ⟨_, _, rfl, vif_mk (fun _ => h0 ?_ _ x') (fun g => by simp at g)⟩) fun b q9 h8 hg x8 H9 f9 => ⟨_, _, rfl, vif_mk (fun g => by simp at g) (fun _ => ?_)⟩
 ·unfold lastS; rw [if_neg hne, hx, Option.bind_some, hg]; rfl
 have hl := hlast b hg
 have hbl : b.length ≤ 43 := (get_some.1 hg).1
 refine e111 H9 (by omega) fun p h12 x12 hp Rd0 => ⟨_, rfl, ?_⟩
 have bd0 : Bd (some b) := fun l hl => by cases hl; omega
 refine e112 Rd0 bd0 fun h15 F15 R15 => ⟨_, rfl, ?_⟩
 refine e112 R15 bd0.nm fun h18 F18 R18 => ⟨_, rfl, ?_⟩
 refine e112 R18 bd0.nm.nm fun h21 F21 R21 => ⟨_, rfl, ?_⟩
 have x21 : Ext h h21 := by
  have := ((F15.trans F18).trans F21).ext x12 hp
  exact x8.trans this
 refine e113w R21 ⟨_, rfl, ?_⟩
 have no : ∀ {h'}, Ext h h' → rd3 b = none → Q (.tup [.int .i64 0, .int .i64 0, .int .i64 80]) h' := fun hx' hr => h0 (by rw [hl, hr]; rfl) _ hx'
 have h1' : nm (some b) = rdN b := rfl
 cases n1 : rdN b with
 | none =>
  have o3 : stO (nm (stO (nm (stO (nm (some b)))))) = none := by rw [h1', n1]; rfl
  rw [o3]
  exact vif_mk (fun _ => no x21 (by unfold rd3; rw [n1])) (fun g => by simp [endV] at g)
 | some r1 =>
  obtain ⟨c, l1⟩ := r1
  have v1 : valN (nm (some b)) = c := by rw [h1', n1]; rfl
  have s1 : stO (nm (some b)) = some l1 := by rw [h1', n1]; rfl
  rw [s1, v1]
  have h2' : nm (some l1) = rdN l1 := rfl
  cases n2 : rdN l1 with
  | none =>
   have o3 : stO (nm (stO (nm (some l1)))) = none := by rw [h2', n2]; rfl
   rw [o3]
   exact vif_mk (fun _ => no x21 (by unfold rd3; rw [n1]; simp only; rw [n2])) (fun g => by simp [endV] at g)
  | some r2 =>
   obtain ⟨d, l2⟩ := r2
   have v2 : valN (nm (some l1)) = d := by rw [h2', n2]; rfl
   have s2 : stO (nm (some l1)) = some l2 := by rw [h2', n2]; rfl
   rw [s2, v2]
   have h3' : nm (some l2) = rdN l2 := rfl
   cases n3 : rdN l2 with
   | none =>
    have o3 : stO (nm (some l2)) = none := by rw [h3', n3]; rfl
    rw [o3]
    exact vif_mk (fun _ => no x21 (by unfold rd3; rw [n1]; simp only; rw [n2]; simp only; rw [n3])) (fun g => by simp [endV] at g)
   | some r3 =>
    obtain ⟨z, l3⟩ := r3
    have v3 : valN (nm (some l2)) = z := by rw [h3', n3]; rfl
    have s3 : stO (nm (some l2)) = some l3 := by rw [h3', n3]; rfl
    rw [s3, v3]
    have c1 := rdN_le n1
    have c2 := rdN_le n2
    have c3 := rdN_le n3
    simp only [M63] at c1 c2 c3
    by_cases hl3 : l3 = []
    ·have hr : rd3 b = some (c, d, z) := by unfold rd3; rw [n1]; simp only; rw [n2]; simp only; rw [n3]; simp only; rw [if_pos hl3]
     rw [hr] at hl
     simp only [Option.bind_some] at hl
     have bad : d + z + 1 ≠ S.length → ∀ h', Ext h h' → Q (.tup [.int .i64 0, .int .i64 0, .int .i64 80]) h' := fun hne h' hx' => h0 (by rw [hl, if_neg hne]) _ hx'
     refine vif_mk (fun g => by simp [endV, hl3] at g) (fun _ => ?_)
     refine vif_mk (fun g => ?_) (fun g2 => ?_)
     ·have := of_decide_eq_true g
      exact bad (by omega) _ x21
     replace g2 := of_decide_eq_false g2
     refine vif_mk (fun g => ?_) (fun g3 => ?_)
     ·have := of_decide_eq_true g
      exact bad (by omega) _ x21
     replace g3 := of_decide_eq_false g3
     rw [wrapK_i64 (n := ((d : Nat) : Int) + ((z : Nat) : Int)) ⟨by omega, by omega⟩, wrapK_i64 ⟨by omega, by omega⟩]
     refine vif_mk (fun g => ?_) (fun g4 => ?_)
     ·have : d + z + 1 ≠ S.length := by intro he; rw [bne_iff_ne] at g; omega
      exact bad this _ x21
     have g4 : d + z + 1 = S.length := by rw [bne_eq_false_iff_eq] at g4; omega
     have hs21 := x21 _ _ hs
     refine store6v (o := 3) hs21 (by simp) ?_
     refine h1 c d z h21 _ (by rw [hl, if_pos g4]) x21 ?_
     rfl
    ·have hr : rd3 b = none := by unfold rd3; rw [n1]; simp only; rw [n2]; simp only; rw [n3]; simp only; rw [if_neg hl3]
     exact vif_mk (fun _ => no x21 hr) (fun g => by simp [endV, hl3] at g))
end
end
section
attribute [local irreducible] momErr recErr
section
variable {h h' : Heap} {Q : AV → Heap → Prop}
abbrev lensZ (gs : Gs) : List Int := gs.map fun g => ((g.length : Nat) : Int)
theorem k114 {q q2 : Option SL} {l : List Ent} {gs : Gs} (H : HasL entE h q l) (hl : l.length ≤ 16384) (hok : ∀ e ∈ l, entOk e = true) (H2 : HasL intE h q2 (lensZ gs)) (hg : l = gs.flatten)
  (hQ : ∀ h', Ext h h' → Q (.bool (decide (packG l = gs))) h') : AC Tryz.prog 114 [.sl q, .sl q2] h Q := ac114 (by
 unfold vc114
 have hno : packG l ≠ gs → ∀ h', Ext h h' → Q (.bool false) h' := fun hne h' x => by
  have := hQ h' x
  rwa [decide_eq_false hne] at this
 have hyes : packG l = gs → ∀ h', Ext h h' → Q (.bool true) h' := fun he h' x => by
  have := hQ h' x
  rwa [decide_eq_true he] at this
 have hm : mayE l = 0 := mayE_ok.2 ⟨hok, hl⟩
 refine k96 H (by omega) (fun hne => absurd hm hne) fun _ q5 qs h4 LLx => ⟨_, _, rfl, vif_mk (fun g => by simp at g) (fun _ => ?_)⟩
 have x4 : Ext h h4 := LLx.ext
 have I := LL.llsB LLx
 have hpl : (packG l).length ≤ l.length := packG_len hok
 have hl5 : slLen q5 = (packG l).length := by rw [I.len, encP, List.length_map]
 have hl2 : slLen q2 = gs.length := by rw [H2.len, lensZ, List.length_map]
 rw [hl5, hl2]
 refine vif_mk (fun g => hno (fun he => by rw [he] at g; simp at g) _ x4) (fun g => ?_)
 have hlen : (packG l).length = gs.length := by
  rw [bne_eq_false_iff_eq] at g
  omega
 refine ⟨fun xs h10 => ∃ i : Nat, xs = [.int .i64 i] ∧ i ≤ gs.length ∧ Ext h4 h10 ∧ ∀ j, j < i → ((packG l)[j]?).map List.length = (gs[j]?).map List.length, fun xs _ => match xs with | [.int _ i] => (gs.length - i).toNat | _ => 0, ⟨0, rfl, by omega, .refl _, fun j hj => by omega⟩, ?_⟩
 rintro n7 h10 ⟨i, hxs, hi, x10, hsame⟩
 simp only [List.cons.injEq, AV.int.injEq, true_and, and_true] at hxs
 subst hxs
 refine vif_mk (fun g => ?_) (fun g => ?_)
 ·have hin : i < gs.length := by have := of_decide_eq_true g; omega
  have I10 : LlsB byE h10 q5 (encP (packG l)) h.length h4.length := I.keeps (X := fun _ => False) (keeps_of_ext x10) (fun _ _ _ h => h)
  refine I10.idx (by omega) (by simp only [encP, List.length_map]; omega) fun p s b hb hc Hb _ => ⟨_, hc, ?_⟩
  rw [Int.toNat_natCast] at hb
  simp only [encP, List.getElem?_map, Option.map_eq_some_iff] at hb
  obtain ⟨gp, hgp, rfl⟩ := hb
  have hgm : gp ∈ packG l := List.mem_of_getElem? hgp
  obtain ⟨hne, hfit⟩ := packG_fit hok gp hgm
  have hu : unpack (encL gp) = some gp := unpack_enc (packG_ok hok gp hgm)
  refine k116 Hb (by omega) (fun hbad => absurd hbad (by rw [hu]; simp; omega)) fun l' q15 h14 _ hl' x14 A15 _ => ⟨_, _, rfl, ?_⟩
  obtain rfl : l' = gp := by rw [hu] at hl'; exact (Option.some.inj hl').symm
  have hg2 : gs[i]? = some (gs[i]'hin) := List.getElem?_eq_getElem hin
  refine HasL.idx (E := intE) (H2.mono (x4.trans (x10.trans x14))) (by omega) (by simp; omega) fun p z hz hc => ?_
  rw [Int.toNat_natCast, lensZ, List.getElem?_map, hg2] at hz
  cases hz
  refine ⟨_, hc, ?_⟩
  rw [A15.hasL.len]
  refine vif_mk (fun g3 => hno (fun he => ?_) _ (x4.trans (x10.trans x14))) (fun g3 => ?_)
  ·rw [he, hg2] at hgp
   cases hgp
   simp at g3
  ·have e1 : wrapK .i64 (((i : Nat) : Int) + 1) = ((i + 1 : Nat) : Int) := by rw [wrapK_i64 ⟨by omega, by omega⟩]; omega
   rw [e1]
   refine ⟨trivial, ⟨i + 1, rfl, by omega, x10.trans x14, fun j hj => ?_⟩, ?_⟩
   ·by_cases hji : j = i
    ·subst hji
     rw [hgp, hg2]
     have : l'.length = (gs[j]'hin).length := by
      rw [bne_eq_false_iff_eq] at g3
      have g4 : ((l'.length : Nat) : Int) = (((gs[j]'hin).length : Nat) : Int) := g3
      omega
     simp only [Option.map_some, this]
    ·exact hsame j (by omega)
   ·simp only
    omega
 ·have hin : ¬ i < gs.length := by have := of_decide_eq_false g; omega
  refine hyes (flat_sizes (by rw [packG_flat]; exact hg) (List.ext_getElem? fun j => ?_)) _ (x4.trans x10)
  rw [List.getElem?_map, List.getElem?_map]
  by_cases hj : j < i
  ·exact hsame j hj
  ·rw [List.getElem?_eq_none (by omega), List.getElem?_eq_none (by omega)])
end
end
section
attribute [local irreducible] momErr recErr
abbrev segX (h : Heap) (sp : Nat) : Nat → Prop := fun b => b = sp ∨ h.length ≤ b
structure IxI (h : Heap) (S : List Bs) (base data count dp sp : Nat) (s : Bs) (h8 : Heap) (q4 : Option SL) (i : Nat) (gs : Gs) (q : Option SL) : Prop where
 pk : packsFrom S base data i = some gs
 len : gs.length = i
 kp : Keeps (segX h sp) h h8
 hl : h.length ≤ h8.length
 at' : h8[sp]? = some (segC dp s base count q)
 hd : Apd entE h8 q gs.flatten
 hq : ∀ t, q = some t → h.length ≤ t.b
 sz : Apd intE h8 q4 (lensZ gs)
 sq : ∀ t, q4 = some t → h.length ≤ t.b
 dj : ∀ t u, q = some t → q4 = some u → t.b ≠ u.b
 ok : ∀ e ∈ gs.flatten, entOk e = true
 fl : gs.flatten.length ≤ 43 * i
section
variable {h : Heap} {Q : AV → Heap → Prop} {ow : Roles} {dp sp : Nat} {D : DS} {s : Bs} {S : List Bs} {base : Nat}
theorem segX_disk (R : DiskR h ow dp D) (hsp : ow sp = none) {h8 : Heap} (K : Keeps (segX h sp) h h8) (hl : h.length ≤ h8.length) : DiskR h8 ow dp D := by
 refine R.ext (fun b B hb hB => K b B (fun hx => ?_) hB) hl
 rcases hx with rfl | hx
 ·exact hb hsp
 ·have := R.live b hb; omega
theorem segX_laid (L : Laid h) (h2 : 2 ≤ sp) {h8 : Heap} (K : Keeps (segX h sp) h h8) : Laid h8 := by
 have := L.len
 exact L.keeps K (fun hx => by rcases hx with hx | hx <;> omega) (fun hx => by rcases hx with hx | hx <;> omega)
theorem k80 {data index count : Nat} (L : Laid h) (R : DiskR h ow dp D) (Z : Lies D s S) (b1 : 1 ≤ base) (hb : base ≤ 2305843009213693952) (hS : S.length ≤ 16384) (hdi : data + index + 1 = S.length)
  (hs : h[sp]? = some (segC dp s base count none)) (hsp : ow sp = none) (h2 : 2 ≤ sp)
  (h0 : (∀ gs, packsFrom S base data index = some gs → ¬ (gs.flatten.length = data ∧ SortedL gs.flatten ∧ packG gs.flatten = gs)) → ∀ h', Keeps (segX h sp) h h' → h.length ≤ h'.length → Q (.int .i64 80) h')
  (h1 : ∀ gs q h', packsFrom S base data index = some gs → gs.flatten.length = data → SortedL gs.flatten → packG gs.flatten = gs → Keeps (segX h sp) h h' → h.length ≤ h'.length → h'[sp]? = some (segC dp s base count q) → Apd entE h' q gs.flatten →
   (∀ t, q = some t → h.length ≤ t.b) → (∀ e ∈ gs.flatten, entOk e = true) → Q (.int .i64 0) h') :
  AC Tryz.prog 80 [.ptr (some ⟨sp, 0⟩), .int .i64 (data : Nat), .int .i64 (index : Nat)] h Q := ac80 (by
 unfold vc80 PNew
 have hspl := lt_of_get hs
 refine ⟨fun xs h8 => ∃ (q4 : Option SL) (i : Nat) (gs : Gs) (q : Option SL), xs = [.sl q4, .int .i64 ((data + i : Nat) : Int)] ∧ i ≤ index ∧ IxI h S base data count dp sp s h8 q4 i gs q, fun xs _ => match xs with | [_, .int _ n] => ((data + index : Nat) - n).toNat | _ => 0,
  ⟨none, 0, [], none, rfl, by omega, rfl, rfl, .refl _ _, Nat.le_refl _, hs, .inl ⟨rfl, rfl⟩, (by intro t h; cases h), .inl ⟨rfl, rfl⟩, (by intro t h; cases h), (by intro t u h; cases h), by simp, by simp⟩, ?_⟩
 rintro q4 n5 h8 ⟨q4', i, gs, q, hxs, hi, I⟩
 simp only [List.cons.injEq, AV.int.injEq, AV.sl.injEq, true_and, and_true] at hxs
 obtain ⟨rfl, rfl⟩ := hxs
 have e0 : wrapK .i64 (((data : Nat) : Int) + ((index : Nat) : Int)) = ((data + index : Nat) : Int) := by rw [wrapK_i64 ⟨by omega, by omega⟩]; omega
 rw [e0]
 refine vif_mk (fun g => ?_) (fun g => ?_)
 ·have hin : i < index := by have := of_decide_eq_true g; omega
  refine ⟨_, _, _, seg_src I.at', ?_⟩
  have R8 := segX_disk R hsp I.kp I.hl
  have L8 := segX_laid L h2 I.kp
  refine k87 L8 R8 Z b1 (by simp only [maxTag]; omega) (by omega) hb (by omega) (fun hn h14 x14 => ⟨_, _, rfl, vif_mk (fun _ => h0 (fun gs' hgs' => ?_) _ (I.kp.trans (keeps_of_ext x14)) (by have := x14.len; have := I.hl; omega)) (fun g => by simp at g)⟩)
   fun l q15 h14 hl x14 A15 f15 hok hll => ⟨_, _, rfl, vif_mk (fun g => by simp at g) (fun _ => ?_)⟩
  ·rw [packsFrom_none hin hn] at hgs'; cases hgs'
  have at14 := x14 _ _ I.at'
  have hd14 := I.hd.ext x14
  have sz14 := I.sz.ext x14
  have l8 := I.hl
  have l14 := x14.len
  refine ⟨q, seg_at at14 (k := 4) rfl, ?_⟩
  refine Apd.append (E := entE) (by' := 32) hd14 A15.hasL (by have := I.fl; omega) fun q19 h20 A20 K20 l20 f20 => ?_
  have hnsp : ∀ t : SL, q = some t → t.b ≠ sp := fun t ht he => by have := I.hq t ht; omega
  have at20 : h20[sp]? = some (segC dp s base count q) := K20 _ _ (fun ⟨t, ht, he⟩ => hnsp t ht he) at14
  have sz20 : Apd intE h20 q4 (lensZ gs) := sz14.keeps K20 fun u hu ⟨t, ht, he⟩ => I.dj t u ht hu he
  have hq19 : ∀ t, q19 = some t → h.length ≤ t.b ∧ ∀ u, q4 = some u → t.b ≠ u.b := fun t ht => by
   rcases f20 t ht with hf | ⟨t', ht', he⟩
   ·exact ⟨by omega, fun u hu he => by
     have := HasL.live sz14.hasL u hu
     omega⟩
   ·exact ⟨by have := I.hq t' ht'; omega, fun u hu => by rw [← he]; exact I.dj t' u ht' hu⟩
  refine store6v (o := 4) at20 (by simp) ?_
  have hset : (splice [AV.ptr (some ⟨dp, 0⟩), .str s, .int .i64 (base : Nat), .int .i64 (count : Nat), .sl q] 4 [.sl q19]) = [AV.ptr (some ⟨dp, 0⟩), .str s, .int .i64 (base : Nat), .int .i64 (count : Nat), .sl q19] := rfl
  rw [hset]
  generalize hh22 : h20.set sp (.cells [AV.ptr (some ⟨dp, 0⟩), .str s, .int .i64 (base : Nat), .int .i64 (count : Nat), .sl q19] true) = h22
  have K22 : Keeps (fun b => b = sp) h20 h22 := by rw [← hh22]; exact keeps_set rfl
  have l22 : h22.length = h20.length := by rw [← hh22, List.length_set]
  have at22 : h22[sp]? = some (segC dp s base count q19) := by rw [← hh22, List.getElem?_set, if_pos rfl, if_pos (lt_of_get at20)]
  have A22 : Apd entE h22 q19 (gs.flatten ++ l) := A20.keeps K22 fun t ht he => by have := (hq19 t ht).1; omega
  have sz22 : Apd intE h22 q4 (lensZ gs) := sz20.keeps K22 fun u hu he => by have := I.sq u hu; omega
  rw [A15.hasL.len]
  have H24 := HasL.new (E := intE) (h := h22) (l := [((l.length : Nat) : Int)]) (n := 1) rfl (c := [.int .i64 ((l.length : Nat) : Int)]) rfl
  have x24 : Ext h22 (h22 ++ [.cells [.int .i64 ((l.length : Nat) : Int)] true]) := .app _ _
  refine Apd.append (E := intE) (by' := 8) (sz22.ext x24) H24 (by have := I.len; simp; omega) fun q25 h26 A26 K26 l26 f26 => ?_
  have l24 := x24.len
  have e1 : wrapK .i64 (((data + i : Nat) : Int) + 1) = ((data + (i + 1) : Nat) : Int) := by rw [wrapK_i64 ⟨by omega, by omega⟩]; omega
  rw [e1]
  have hfl : (gs ++ [l]).flatten = gs.flatten ++ l := by simp
  refine ⟨trivial, ⟨q25, i + 1, gs ++ [l], q19, rfl, by omega, packsFrom_snoc I.pk hl, by simp [I.len], ?_, by omega, ?_, ?_, fun t ht => (hq19 t ht).1, ?_, fun t ht => ?_, fun t u ht hu => ?_, ?_, ?_⟩, ?_⟩
  ·refine I.kp.trans ?_
   intro b B hx hB
   have hx1 : ¬ b = sp := fun h => hx (.inl h)
   have hx2 : b < h.length := by rcases Nat.lt_or_ge b h.length with h | h; exact h; exact absurd (.inr h) hx
   refine K26 _ _ (fun ⟨u, hu, he⟩ => by have := I.sq u hu; omega) (x24 _ _ (K22 _ _ hx1 (K20 _ _ (fun ⟨t, ht, he⟩ => by have := I.hq t ht; omega) (x14 _ _ hB))))
  ·exact K26 _ _ (fun ⟨u, hu, he⟩ => by have := I.sq u hu; omega) (x24 _ _ at22)
  ·rw [hfl]
   exact (A22.ext x24).keeps K26 fun t ht ⟨u, hu, he⟩ => (hq19 t ht).2 u hu he.symm
  ·have : lensZ (gs ++ [l]) = lensZ gs ++ [((l.length : Nat) : Int)] := by simp [lensZ]
   rw [this]; exact A26
  ·rcases f26 t ht with hf | ⟨u, hu, he⟩
   ·omega
   ·have := I.sq u hu; omega
  ·rcases f26 u hu with hf | ⟨u', hu', he⟩
   ·have := HasL.live A22.hasL t ht; omega
   ·rw [← he]; exact (hq19 t ht).2 u' hu'
  ·rw [hfl]; intro e he
   rcases List.mem_append.1 he with he | he
   ·exact I.ok e he
   ·exact hok e he
  ·rw [hfl, List.length_append]; have := I.fl; omega
  ·simp only; omega
 ·have hin : i = index := by have := of_decide_eq_false g; omega
  subst hin
  have bad : ¬ (gs.flatten.length = data ∧ SortedL gs.flatten ∧ packG gs.flatten = gs) → ∀ h', Ext h8 h' → Q (.int .i64 80) h' := fun hn h' x => h0 (fun gs' hgs' => by
   rw [I.pk] at hgs'; cases hgs'; exact hn) _ (I.kp.trans (keeps_of_ext x)) (by have := x.len; have := I.hl; omega)
  refine ⟨q, seg_at I.at' (k := 4) rfl, ?_⟩
  rw [I.hd.hasL.len]
  refine vif_mk (fun g => bad (fun ⟨hh, _⟩ => by rw [hh] at g; simp at g) _ (.refl _)) (fun g => ?_)
  have hlen : gs.flatten.length = data := by rw [bne_eq_false_iff_eq] at g; omega
  refine ⟨q, seg_at I.at' (k := 4) rfl, ?_⟩
  refine z74 I.hd.hasL (by omega) fun h32 x32 => ⟨_, rfl, ?_⟩
  refine vif_mk (fun g => bad (fun ⟨_, hh, _⟩ => by simp [hh] at g) _ x32) (fun g => ?_)
  have hso : SortedL gs.flatten := by simpa using g
  refine ⟨q, seg_at (x32 _ _ I.at') (k := 4) rfl, ?_⟩
  refine k114 (gs := gs) (I.hd.ext x32).hasL (by omega) I.ok (I.sz.ext x32).hasL rfl fun h37 x37 => ⟨_, rfl, ?_⟩
  refine vif_mk (fun g => bad (fun ⟨_, _, hh⟩ => by simp [hh] at g) _ (x32.trans x37)) (fun g => ?_)
  have hpk : packG gs.flatten = gs := by simpa using g
  have x := x32.trans x37
  exact h1 gs q h37 I.pk hlen hso hpk (I.kp.trans (keeps_of_ext x)) (by have := x.len; have := I.hl; omega) (x _ _ I.at') (I.hd.ext x) I.hq I.ok)
end
end
section
attribute [local irreducible] momErr recErr
section
variable {h : Heap} {Q : AV → Heap → Prop} {ow : Roles} {dp : Nat} {D : DS} {s : Bs} {S : List Bs} {base : Nat}
structure SegO (h h' : Heap) (dp sp : Nat) (s : Bs) (base count : Nat) (heads : List Ent) (q : Option SL) : Prop where
 keep : Ext h h'
 new : h.length ≤ sp
 at' : h'[sp]? = some (segC dp s base count q)
 hd : Apd entE h' q heads
 hq : ∀ t, q = some t → h.length ≤ t.b
 ok : ∀ e ∈ heads, entOk e = true
theorem k41 (L : Laid h) (R : DiskR h ow dp D) (Z : Lies D s S) (b1 : 1 ≤ base) (hb : base ≤ 2305843009213693952) (hS : S.length ≤ 16384)
  (h0 : openS S base = none → ∀ h', Ext h h' → Q (.tup [.ptr none, .int .i64 80]) h')
  (h1 : ∀ c heads sp q h', openS S base = some (c, heads) → SegO h h' dp sp s base c heads q → Q (.tup [.ptr (some ⟨sp, 0⟩), .int .i64 0]) h') :
  AC Tryz.prog 41 [.ptr (some ⟨dp, 0⟩), .str s, .int .i64 (base : Nat)] h Q := ac41 (by
 unfold vc41 PNew
 have hbo : baseOk (base : Int) = true := decide_eq_true ⟨by omega, by omega⟩
 refine k72 ⟨_, rfl, ?_⟩
 rw [hbo]
 refine vif_mk (fun g => by simp at g) (fun _ => ?_)
 obtain ⟨f0, hf0, hS0⟩ := Z.is
 have hsl : f0.now.length = S.length := by rw [hS0, List.length_map]
 refine d78 R (fun hn => by rw [hf0] at hn; cases hn) fun f hf => ⟨_, _, rfl, vif_mk (fun g => by simp at g) (fun _ => ?_)⟩
 obtain rfl : f = f0 := by rw [hf0] at hf; exact (Option.some.inj hf).symm
 rw [hsl]
 have x12 : Ext h (h ++ [segC dp s base 0 none]) := .app _ _
 have hs : (h ++ [segC dp s base 0 none])[h.length]? = some (segC dp s base 0 none) := by simp
 have hl2 := L.len
 have hnone : ow h.length = none := by
  cases ho : ow h.length with
  | none => rfl
  | some r => have := R.live h.length (by rw [ho]; simp); omega
 refine k79 (L.ext x12) (R.grow x12) Z b1 hb (by omega) hs (fun hn h' x' => ⟨_, _, _, rfl, vif_mk (fun g => by simp at g) (fun _ => vif_mk (fun _ => h0 (by unfold openS; rw [hn]; rfl) _ (x12.trans x')) (fun g => by simp at g))⟩) ?_
 intro c d x hh1 h14 hlast x1 he14
 refine ⟨_, _, _, rfl, vif_mk (fun _ => ?_) (fun g => by simp at g)⟩
 have hl1 : h.length + 1 ≤ hh1.length := by
  have := x1.len
  rw [List.length_append] at this
  exact this
 have K14 : Ext h h14 := by
  intro b B hB
  have hbl := lt_of_get hB
  rw [he14, List.getElem?_set, if_neg (by omega)]
  exact x1 _ _ (x12 _ _ hB)
 have l14 : h14.length = hh1.length := by rw [he14, List.length_set]
 have at14 : h14[h.length]? = some (segC dp s base c none) := by rw [he14, List.getElem?_set, if_pos rfl, if_pos (by omega)]
 have hdx : d + x + 1 = S.length := by
  unfold lastS at hlast
  split at hlast
  ·cases hlast
  ·obtain ⟨r, _, hr⟩ := Option.bind_eq_some_iff.1 hlast
   split at hr
   ·rename_i hr2; cases hr; exact hr2
   ·cases hr
 have hop : openS S base = (packsFrom S base d x).bind fun gs => if gs.flatten.length = d ∧ SortedL gs.flatten ∧ packG gs.flatten = gs then some (c, gs.flatten) else none := by unfold openS; rw [hlast]; rfl
 have ext : ∀ {h'}, Keeps (segX h14 h.length) h14 h' → Ext h h' := fun K b B hB => by
  have hbl := lt_of_get hB
  exact K _ _ (fun hx => by rcases hx with hx | hx <;> omega) (K14 _ _ hB)
 refine k80 (L.ext K14) (R.grow K14) Z b1 hb hS hdx at14 hnone hl2 (fun hno h' K l' => ⟨_, rfl, vif_mk (fun _ => h0 ?_ _ (ext K)) (fun g => by simp at g)⟩)
  fun gs q h' hpk hg1 hg2 hg3 K l' at' hd hq hok => ⟨_, rfl, vif_mk (fun g => by simp at g) (fun _ => h1 c gs.flatten h.length q h' ?_ ⟨ext K, Nat.le_refl _, at', hd, fun t ht => by have := hq t ht; omega, hok⟩)⟩
 ·rw [hop]
  cases hp : packsFrom S base d x with
  | none => rfl
  | some gs => simp only [Option.bind_some]; rw [if_neg (hno gs hp)]
 ·rw [hop, hpk, Option.bind_some, if_pos ⟨hg1, hg2, hg3⟩])
end
end
section
variable {h : Heap} {Q : AV → Heap → Prop} {dp sp : Nat} {s : Bs} {base count : Nat} {q : Option SL} {heads : List Ent}
theorem k53 (hs : h[sp]? = some (segC dp s base count q)) (hQ : Q (.str s) h) : AC Tryz.prog 53 [.ptr (some ⟨sp, 0⟩)] h Q := ac53 (by
 unfold vc53
 exact vif_mk (fun g => by simp at g) (fun _ => ⟨_, seg_at hs (k := 1) rfl, hQ⟩))
theorem k21 (hs : h[sp]? = some (segC dp s base count q)) (H : HasL entE h q heads) (hQ : Q (.int .i64 (heads.length : Nat)) h) : AC Tryz.prog 21 [.ptr (some ⟨sp, 0⟩)] h Q := ac21 (by
 unfold vc21
 refine vif_mk (fun g => by simp at g) (fun _ => ⟨_, seg_at hs (k := 4) rfl, ?_⟩)
 rw [H.len]; exact hQ)
end
section
variable {h : Heap} {Q : AV → Heap → Prop} {dp sp : Nat} {s : Bs} {base count : Nat} {q : Option SL} {heads : List Ent}
theorem k25 {n : Int} (hs : h[sp]? = some (segC dp s base count q)) (H : HasL entE h q heads)
  (h0 : ¬ (0 ≤ n ∧ n < heads.length) → Q (.tup [entV (0, 0, 0, 0), .bool false]) h)
  (h1 : ∀ e, 0 ≤ n → heads[n.toNat]? = some e → Q (.tup [entV e, .bool true]) h) : AC Tryz.prog 25 [.ptr (some ⟨sp, 0⟩), .int .i64 n] h Q := ac25 (by
 unfold vc25
 refine vif_mk (fun g => h0 (by have := of_decide_eq_true g; omega)) (fun g => ?_)
 have hn := of_decide_eq_false g
 refine k21 hs H ⟨_, rfl, ?_⟩
 refine vif_mk (fun g => h0 (by have := of_decide_eq_true g; omega)) (fun g2 => ?_)
 have hn2 := of_decide_eq_false g2
 refine ⟨_, seg_at hs (k := 4) rfl, ?_⟩
 refine HasL.idx (E := entE) H (by omega) (by omega) fun p e he hc => ?_
 exact ⟨_, _, _, _, hc, h1 e (by omega) he⟩)
end
section
variable {h : Heap} {Q : AV → Heap → Prop} {ow : Roles} {dp sp : Nat} {D : DS} {s : Bs} {S : List Bs} {base count : Nat} {q : Option SL} {heads : List Ent}
theorem k55 {i : Nat} (L : Laid h) (R : DiskR h ow dp D) (Z : Lies D s S) (b1 : 1 ≤ base) (hb : base ≤ 2305843009213693952) (hS : S.length ≤ 16384) (hs : h[sp]? = some (segC dp s base count q)) (H : HasL entE h q heads) (hh : heads.length ≤ S.length) (hi : i < heads.length)
  (h0 : pageS S base heads i = none → ∀ h', Ext h h' → Q (.tup [.sl none, .int .i64 80]) h')
  (h1 : ∀ l q' h', pageS S base heads i = some l → Ext h h' → Apd entE h' q' l → (∀ t, q' = some t → h.length ≤ t.b) → Q (.tup [.sl q', .int .i64 0]) h') : AC Tryz.prog 55 [.ptr (some ⟨sp, 0⟩), .int .i64 (i : Nat)] h Q := ac55 (by
 unfold vc55
 refine vif_mk (fun g => by simp at g) (fun _ => ⟨_, seg_at hs (k := 0) rfl, vif_mk (fun g => by simp at g) (fun _ => ?_)⟩)
 refine k25 hs H (fun hn => absurd ⟨by omega, by omega⟩ hn) fun e _ he => ⟨_, _, _, _, _, rfl, vif_mk (fun g => by simp at g) (fun _ => ⟨_, _, _, seg_src hs, ?_⟩)⟩
 rw [Int.toNat_natCast] at he
 have hp : ∀ l, packAt S base i = some l → pageS S base heads i = if l ≠ [] ∧ SortedL l ∧ l.head? = some e then some l else none := fun l hl => by
  unfold pageS; rw [hl, Option.bind_some, he]
 refine k87 L R Z b1 (by simp only [maxTag]; omega) (by omega) hb (by omega) (fun hn h17 x17 => ⟨_, _, rfl, vif_mk (fun _ => h0 (by unfold pageS; rw [hn]; rfl) _ x17) (fun g => by simp at g)⟩)
  fun l q18 h17 hl x17 A17 f17 hok hll => ⟨_, _, rfl, vif_mk (fun g => by simp at g) (fun _ => ?_)⟩
 have hpl := hp l hl
 rw [A17.hasL.len]
 refine vif_mk (fun g => h0 ?_ _ x17) (fun g => ?_)
 ·have : l = [] := List.eq_nil_of_length_eq_zero (by have := eq_of_beq g; omega)
  rw [hpl, if_neg (fun hc => hc.1 this)]
 have hne : l ≠ [] := fun hc => by subst hc; simp at g
 refine z74 A17.hasL (by omega) fun h21 x21 => ⟨_, rfl, ?_⟩
 refine vif_mk (fun g => h0 ?_ _ (x17.trans x21)) (fun g => ?_)
 ·rw [hpl, if_neg (fun hc => by simp [hc.2.1] at g)]
 have hso : SortedL l := by simpa using g
 have hpos : 0 < l.length := List.length_pos_iff.2 hne
 refine HasL.idx (E := entE) (A17.ext x21).hasL (by omega) (by omega) fun p y hy hc => ?_
 have hy' : l.head? = some y := by
  rw [List.head?_eq_getElem?]; exact hy
 refine ⟨_, _, _, _, hc, ?_⟩
 obtain ⟨y1, y2, y3, y4⟩ := y
 obtain ⟨e1, e2, e3, e4⟩ := e
 refine vif_mk (fun g => h0 ?_ _ (x17.trans x21)) (fun g => ?_)
 ·rw [hpl, if_neg (fun hc => ?_)]
  have := hc.2.2
  rw [hy'] at this
  cases this
  simp at g
 ·have : (y1, y2, y3, y4) = (e1, e2, e3, e4) := by simp at g ⊢; omega
  exact h1 l q18 h21 (by rw [hpl, if_pos ⟨hne, hso, by rw [hy', this]⟩]) (x17.trans x21) (A17.ext x21) f17)
end
end Go.Proofs.YtankijamfedliaaGreatDoor
namespace Go.Proofs.YtankijamfedliaaGreatDoor
open Go.Ab
open Go.Ent Go.Seg
open Go.Pool hiding Bs Ents set_at
set_option linter.unusedVariables false
set_option linter.unusedSimpArgs false
abbrev entZ (z : Nat → Prop) : EncZ := ⟨entE, z⟩
abbrev PC (z : Nat → Prop) := PoolC (entZ z)
abbrev PD2 (z : Nat → Prop) := PoolD (entZ z)
set_option maxRecDepth 100000 in
theorem spot_in : Tryz.prog.stoodInHeld 87 = false := by kernel_rfl
theorem spot_key (s s' : Bs) (i i' : Int) (K : Bool → Prop) (hK : K ((s == s') && (i == i'))) : keyIs Tryz.prog 87 (spotV s i) (spotV s' i') K := by
 unfold keyIs
 rw [Tryz.underlying87]
 simp only [keyS, spot_in, keysIs, keyIs1, Tryz.underlying9, Tryz.underlying3]
 simpa using hK
theorem spot_ok (s : Bs) (i : Int) : keyOk Tryz.prog 87 (spotV s i) = true := by
 unfold keyOk
 rw [Tryz.underlying87]
 simp [keysOk, keyOk1, Tryz.underlying9, Tryz.underlying3]
section
variable {z : Nat → Prop} {h h' : Heap} {Q : AV → Heap → Prop} {p fb mb : Nat} {rs : List RF} {es : List (AV × AV × Nat)} {cl : Nat} {P : PS}
theorem k51 (C : PC z h p fb mb rs es cl P) (hQ : Q (.bool true) h) : AC Tryz.prog 51 [.ptr (some ⟨p, 0⟩)] h Q := ac51 (by
 unfold vc51
 exact vif_mk (fun _ => ⟨_, C.at (k := 1) rfl, hQ⟩) (fun g => by simp at g))
attribute [local irreducible] findP keyIs in
theorem k52 {s : Bs} {i : Int} (C : PC z h p fb mb rs es cl P) (h0 : P.at s i = none → Q (.ptr none) h) (h1 : ∀ k, P.at s i = some k → Q (.ptr (some ⟨fb, k * 6⟩)) h) : AC Tryz.prog 52 [.ptr (some ⟨p, 0⟩), .str s, .int .i64 i] h Q := ac52 (by
 unfold vc52
 refine k51 C ⟨_, rfl, vif_mk (fun g => by simp at g) (fun _ => ⟨_, C.at (k := 1) rfl, ?_⟩)⟩
 unfold PLookup
 have hm : mapEs h (some mb) = some es := by simp only [mapEs, C.mbk]
 have hz : tz Tryz.prog 3 = some (.int .i64 0) := by kernel_rfl
 rw [hm, hz]
 simp only
 have hko := spot_ok s i
 simp only [hko, need]
 refine C.find spot_key ?_ ?_
 ·intro hn
  exact ⟨_, _, rfl, vif_mk (fun _ => h0 hn) (fun g => by simp at g)⟩
 intro j k n hk hj
 refine ⟨_, _, rfl, vif_mk (fun g => by simp at g) (fun _ => ⟨_, C.at (k := 0) rfl, ?_⟩)⟩
 obtain ⟨f, hf, _⟩ := of_at hk
 exact fidx rfl (List.getElem?_eq_some_iff.1 hf).1 (h1 k hk))
theorem k57 {q : Option SL} {l : List Ent} (H : HasL entE h q l) (hl : l.length ≤ 1000000) (hQ : ∀ q' h', New entE h h' q' l → Q (.sl q') h') : AC Tryz.prog 57 [.sl q] h Q := ac57 (by
 unfold vc57 PNew
 refine vif_mk (fun g => ?_) (fun g => ?_)
 ·cases q with
  | none =>
   have : l = [] := H
   subst this
   exact hQ none h New.none
  | some s => simp at g
 ·exact copyNew (E := entE) H (by omega) hQ)
theorem k50 {r : RF} {k : Nat} (hb : h[fb]? = some (.cells (rfE.all rs) true)) (hr : rs[k]? = some r) (hQ : Q (.bool (decide (0 < r.held))) h) : AC Tryz.prog 50 [.ptr (some ⟨fb, k * 6⟩)] h Q := ac50 (by
 unfold vc50
 refine ⟨_, fcell hb hr (j := 3) rfl, ?_⟩
 have e : decide (((r.held : Nat) : Int) > 0) = decide (0 < r.held) := decide_eq_decide.2 ⟨fun h => by omega, fun h => by omega⟩
 rw [e]; exact hQ)
theorem raw_at (C : PC z h p fb mb rs es cl P) {k : Nat} {f : Pool.Fr} (hf : P.fr[k]? = some f) : ∃ r, rs[k]? = some r ∧ RelF (entZ z) h p fb mb r f := by
 have hk := (List.getElem?_eq_some_iff.1 hf).1
 have hr : rs[k]? = some (rs[k]'(by rw [C.rl]; exact hk)) := List.getElem?_eq_getElem _
 exact ⟨_, hr, C.rel k _ f hr hf⟩
theorem k15 (C : PC z h p fb mb rs es cl P) (hQ : Q (.int .i64 (P.held : Nat)) h) : AC Tryz.prog 15 [.ptr (some ⟨p, 0⟩)] h Q := ac15 (by
 unfold vc15
 refine ac49h ?_
 unfold vc49h
 have few := C.ok.few
 refine k51 C ⟨_, rfl, vif_mk (fun g => by simp at g) (fun _ => ⟨_, C.at (k := 0) rfl, ?_⟩)⟩
 refine ⟨fun xs h11 => h11 = h ∧ ∃ i : Nat, xs = [.int .i64 ((P.fr.take i).countP fun f => decide (0 < f.held) : Nat), .int .i64 (i : Nat)] ∧ i ≤ P.fr.length, fun xs _ => match xs with | [_, .int _ i] => (P.fr.length - i).toNat | _ => 0, ⟨rfl, 0, rfl, by omega⟩, ?_⟩
 rintro n7 n8 h11 ⟨rfl, i, hx, hi⟩
 simp only [List.cons.injEq, AV.int.injEq, true_and, and_true] at hx
 obtain ⟨rfl, rfl⟩ := hx
 have hc : ((P.fr.take i).countP fun f => decide (0 < f.held)) ≤ i := by
  have := List.countP_le_length (p := fun f : Pool.Fr => decide (0 < f.held)) (l := P.fr.take i)
  rw [List.length_take] at this; omega
 refine vif_mk (fun g => ?_) (fun g => ?_)
 ·have g : i < P.fr.length := by have := of_decide_eq_true g; simp only [slLen] at this; omega
  refine ⟨_, C.at (k := 0) rfl, fidx rfl g ?_⟩
  have hf : P.fr[i]? = some P.fr[i] := List.getElem?_eq_getElem g
  obtain ⟨r, hr, R⟩ := raw_at C hf
  refine k50 C.fbk hr ⟨_, rfl, ?_⟩
  have ct := countP_take (fun f : Pool.Fr => decide (0 < f.held)) hf
  rw [← R.held] at ct
  rw [wrapK_i64 (n := (i : Int) + 1) ⟨by omega, by omega⟩]
  refine vif_mk (fun g2 => ?_) (fun g2 => ?_)
  ·rw [if_pos g2] at ct
   rw [wrapK_i64 ⟨by omega, by omega⟩]
   exact ⟨trivial, ⟨rfl, i + 1, by rw [ct]; simp, by omega⟩, by simp only; omega⟩
  ·rw [if_neg (by simp [g2])] at ct
   exact ⟨trivial, ⟨rfl, i + 1, by rw [ct]; simp, by omega⟩, by simp only; omega⟩
 ·have g : ¬ i < P.fr.length := by have := of_decide_eq_false g; simp only [slLen] at this; omega
  have : i = P.fr.length := by omega
  subst this
  rw [List.take_length]
  exact ⟨_, rfl, hQ⟩)
theorem k89 (C : PC z h p fb mb rs es cl P) (h0 : P.fr.findIdx? (fun f => !f.is) = none → Q (.int .i64 (-1)) h) (h1 : ∀ k, P.fr.findIdx? (fun f => !f.is) = some k → Q (.int .i64 (k : Nat)) h) :
  AC Tryz.prog 89 [.sl (some ⟨fb, 0, P.fr.length, P.fr.length, 0⟩), .func (.func 88) [] []] h Q := ac89 (by
 unfold vc89
 have few := C.ok.few
 refine ⟨fun xs h5 => h5 = h ∧ ∃ i : Nat, xs = [.int .i64 (i : Nat)] ∧ i ≤ P.fr.length ∧ ∀ f ∈ P.fr.take i, (!f.is) = false, fun xs _ => match xs with | [.int _ i] => (P.fr.length - i).toNat | _ => 0, ⟨rfl, 0, rfl, by omega, by simp⟩, ?_⟩
 rintro n2 h5 ⟨rfl, i, hx, hi, hn⟩
 simp only [List.cons.injEq, AV.int.injEq, true_and, and_true] at hx
 subst hx
 refine vif_mk (fun g => ?_) (fun g => ?_)
 ·have g : i < P.fr.length := by have := of_decide_eq_true g; simp only [slLen] at this; omega
  refine fidx rfl g ?_
  have hf : P.fr[i]? = some P.fr[i] := List.getElem?_eq_getElem g
  obtain ⟨r, hr, R⟩ := raw_at C hf
  have hc : cellsAt h5 ⟨fb, i * 6⟩ 6 = some [.str r.name, .int .i64 r.i, .sl r.q, .int .i64 (r.held : Nat), .bool r.mark, .bool r.is] := by
   have := fpart C.fbk hr (j := 0) (m := 6) (by omega)
   rwa [Nat.add_zero] at this
  refine ⟨_, _, _, _, _, _, hc, ac88 ?_⟩
  unfold vc88
  refine ⟨_, rfl, ?_⟩
  rw [R.is]
  refine vif_mk (fun g2 => h1 i (findIdx_at hn hf g2)) (fun g2 => ?_)
  rw [wrapK_i64 ⟨by omega, by omega⟩]
  refine ⟨trivial, ⟨rfl, i + 1, by simp, by omega, fun f hfm => ?_⟩, by simp only; omega⟩
  rw [List.take_add_one, hf] at hfm
  rcases List.mem_append.1 hfm with hm | hm
  ·exact hn f hm
  ·simp at hm; subst hm; exact g2
 ·have g : ¬ i < P.fr.length := by have := of_decide_eq_false g; simp only [slLen] at this; omega
  have : i = P.fr.length := by omega
  subst this
  rw [List.take_length] at hn
  exact h0 (findIdx_none hn))
theorem k221 (C : PC z h p fb mb rs es cl P) (hh : P.hand < P.fr.length) (hQ : ∀ h', PC z h' p fb mb rs es cl { P with hand := (P.hand + 1) % P.fr.length } → Keeps (pbl p fb mb) h h' → h'.length = h.length → Q (.int .i64 (P.hand : Nat)) h') :
  AC Tryz.prog 90 [.ptr (some ⟨p, 0⟩)] h Q := ac90 (by
 unfold vc90
 have few := C.ok.few
 refine ⟨_, C.at (k := 2) rfl, _, C.at (k := 2) rfl, _, C.at (k := 0) rfl, ?_⟩
 refine need_var.2 ⟨by simp only [slLen]; simp; intro hc; rw [hc] at hh; simp at hh, ?_⟩
 have e : Int.tmod (wrapK .i64 ((P.hand : Int) + 1)) ((slLen (some ⟨fb, 0, P.fr.length, P.fr.length, 0⟩) : Nat) : Int) = (((P.hand + 1) % P.fr.length : Nat) : Int) := by
  rw [wrapK_i64 ⟨by omega, by omega⟩, Int.tmod_eq_emod_of_nonneg (by omega)]
  simp [slLen]
 rw [e]
 refine pool_store (j := 2) C.pb (by omega) ?_
 refine hQ _ (C.setP (P' := { P with hand := (P.hand + 1) % P.fr.length }) rfl (.inl (Nat.mod_lt _ (by omega)))) (keeps_set (.inl rfl)) (by rw [List.length_set]))
end
theorem rfE_held {r : RF} {n : Nat} : rfE.f { r with held := n } = splice (rfE.f r) 3 [.int .i64 (n : Nat)] := rfl
theorem rfE_mark {r : RF} {b : Bool} : rfE.f { r with mark := b } = splice (rfE.f r) 4 [.bool b] := rfl
theorem set_get {α : Type} {l : List α} {k : Nat} {a : α} (hk : k < l.length) : (l.set k a)[k]? = some a := by
 rw [List.getElem?_set_self hk]
theorem fstorev {h : Heap} {fb k : Nat} {rs : List RF} {r r' : RF} (hb : h[fb]? = some (.cells (rfE.all rs) true)) (hr : rs[k]? = some r) {j : Nat} {xs : List AV} (hj : j + xs.length ≤ 6) (hr' : rfE.f r' = splice (rfE.f r) j xs) {K : Heap → Prop} (hK : K (h.set fb (.cells (rfE.all (rs.set k r')) true))) : vPtr (some ⟨fb, k * 6⟩) fun q => PStore h ⟨q.b, q.o + j⟩ xs K := fstore hb hr hj hr' hK
theorem pst_hits {h : Heap} {p fb mb n hand hits reads losses x : Nat} (hb : h[p]? = some (poolB fb mb n hand hits reads losses)) {K : Heap → Prop} (hK : K (h.set p (poolB fb mb n hand x reads losses))) : vPtr (some ⟨p, 0⟩) fun q => PStore h ⟨q.b, q.o + 3⟩ [.int .i64 (x : Nat)] K := pool_store (j := 3) hb (by omega) hK
theorem pst_reads {h : Heap} {p fb mb n hand hits reads losses x : Nat} (hb : h[p]? = some (poolB fb mb n hand hits reads losses)) {K : Heap → Prop} (hK : K (h.set p (poolB fb mb n hand hits x losses))) : vPtr (some ⟨p, 0⟩) fun q => PStore h ⟨q.b, q.o + 4⟩ [.int .i64 (x : Nat)] K := pool_store (j := 4) hb (by omega) hK
theorem pst_losses {h : Heap} {p fb mb n hand hits reads losses x : Nat} (hb : h[p]? = some (poolB fb mb n hand hits reads losses)) {K : Heap → Prop} (hK : K (h.set p (poolB fb mb n hand hits reads x))) : vPtr (some ⟨p, 0⟩) fun q => PStore h ⟨q.b, q.o + 5⟩ [.int .i64 (x : Nat)] K := pool_store (j := 5) hb (by omega) hK
section
variable {z : Nat → Prop} {h h' : Heap} {Q : AV → Heap → Prop} {p fb mb : Nat} {rs : List RF} {es : List (AV × AV × Nat)} {cl : Nat} {P : PS}
theorem relF_up {r : RF} {f : Pool.Fr} (R : RelF (entZ z) h p fb mb r f) {n : Nat} {b : Bool} : RelF (entZ z) h p fb mb { r with held := n, mark := b } { f with held := n, mark := b } := ⟨R.name, R.i, rfl, rfl, R.is, R.l, R.sep⟩
theorem k146 {k N : Nat} {f : Pool.Fr} (C : PC z h p fb mb rs es cl P) (hf : P.fr[k]? = some f) (hN : P.lt N) (hs : N ≤ 1000000000) (hl : f.l.length ≤ 1000000)
  (hQ : ∀ q' h' rs', PC z h' p fb mb rs' es cl { P with fr := P.fr.set k { f with held := f.held + 1, mark := true }, hits := P.hits + 1 } → Keeps (pbl p fb mb) h h' → h.length ≤ h'.length → HasL entE h' q' f.l → (∀ t, q' = some t → h.length ≤ t.b) → Q (.sl q') h') :
  AC Tryz.prog 54 [.ptr (some ⟨p, 0⟩), .ptr (some ⟨fb, k * 6⟩)] h Q := ac54 (by
 unfold vc54
 obtain ⟨r, hr, R⟩ := raw_at C hf
 have hk := (List.getElem?_eq_some_iff.1 hf).1
 have hkr := (List.getElem?_eq_some_iff.1 hr).1
 have hh := hN.held f (List.mem_of_getElem? hf)
 have hhit := hN.hits
 refine ⟨_, fcell C.fbk hr (j := 3) rfl, ?_⟩
 have e1 : wrapK .i64 (((r.held : Nat) : Int) + 1) = ((f.held + 1 : Nat) : Int) := by rw [R.held, wrapK_i64 ⟨by omega, by omega⟩]; omega
 rw [e1]
 have hfl := lt_of_get C.fbk
 refine fstorev (r' := { r with held := f.held + 1 }) C.fbk hr (by simp) rfE_held ?_
 have b6 : (h.set fb (.cells (rfE.all (rs.set k { r with held := f.held + 1 })) true))[fb]? = some (.cells (rfE.all (rs.set k { r with held := f.held + 1 })) true) := List.getElem?_set_self hfl
 refine fstorev (r := { r with held := f.held + 1 }) (r' := { r with held := f.held + 1, mark := true }) b6 (set_get hkr) (by simp) rfl ?_
 rw [List.set_set, List.set_set]
 have C8 := C.setF (r' := { r with held := f.held + 1, mark := true }) (f' := { f with held := f.held + 1, mark := true }) hf (relF_up R) rfl rfl rfl
 have K8 : Keeps (pbl p fb mb) h (h.set fb (.cells (rfE.all (rs.set k { r with held := f.held + 1, mark := true })) true)) := keeps_set (.inr (.inl rfl))
 have l8 : (h.set fb (.cells (rfE.all (rs.set k { r with held := f.held + 1, mark := true })) true)).length = h.length := List.length_set
 generalize h.set fb (.cells (rfE.all (rs.set k { r with held := f.held + 1, mark := true })) true) = h8 at *
 refine ⟨_, C8.at (k := 3) rfl, ?_⟩
 have e2 : wrapK .i64 (((P.hits : Nat) : Int) + 1) = ((P.hits + 1 : Nat) : Int) := by rw [wrapK_i64 ⟨by omega, by omega⟩]; omega
 simp only at e2 ⊢
 rw [e2]
 refine pst_hits C8.pb ?_
 have C12 := C8.setP (P' := { P with fr := P.fr.set k { f with held := f.held + 1, mark := true }, hits := P.hits + 1 }) rfl C8.ok.hand
 have K12 : Keeps (pbl p fb mb) h8 (h8.set p (poolB fb mb (P.fr.set k { f with held := f.held + 1, mark := true }).length P.hand (P.hits + 1) P.reads P.losses)) := keeps_set (.inl rfl)
 have l12 : (h8.set p (poolB fb mb (P.fr.set k { f with held := f.held + 1, mark := true }).length P.hand (P.hits + 1) P.reads P.losses)).length = h8.length := List.length_set
 generalize h8.set p (poolB fb mb (P.fr.set k { f with held := f.held + 1, mark := true }).length P.hand (P.hits + 1) P.reads P.losses) = h12 at *
 have hr12 : (rs.set k { r with held := f.held + 1, mark := true })[k]? = some { r with held := f.held + 1, mark := true } := set_get hkr
 refine ⟨r.q, fcell C12.fbk hr12 (j := 2) rfl, ?_⟩
 have R12 := C12.rel k _ _ hr12 (set_get hk)
 refine k57 R12.l hl fun q' h16 N16 => ⟨q', rfl, ?_⟩
 exact hQ q' h16 _ (C12.keeps (X := fun _ => False) (keeps_of_ext N16.1) (fun _ _ h => h)) ((K8.trans K12).trans (keeps_of_ext N16.1)) (by have := N16.1.len; omega) N16.hasL (fun t ht => by have := N16.2.2 t ht; omega))
theorem k23 {N : Nat} {s : Bs} {i : Int} (C : PC z h p fb mb rs es cl P) (hN : P.lt N) (hs : N ≤ 1000000000)
  (hQ : ∀ h' rs', PC z h' p fb mb rs' es cl (P.free s i).2 → Keeps (pbl p fb mb) h h' → h'.length = h.length → Q (.int .i64 (P.free s i).1) h') : AC Tryz.prog 23 [.ptr (some ⟨p, 0⟩), .str s, .int .i64 i] h Q := ac23 (by
 unfold vc23
 unfold PS.free at hQ
 refine k51 C ⟨_, rfl, vif_mk (fun g => by simp at g) (fun _ => ?_)⟩
 refine k52 C (fun hn => ⟨_, rfl, vif_mk (fun _ => ?_) (fun g => by simp at g)⟩) fun k hk => ⟨_, rfl, vif_mk (fun g => by simp at g) (fun _ => ?_)⟩
 ·rw [hn] at hQ; exact hQ h rs C (.refl _ _) rfl
 rw [hk] at hQ
 obtain ⟨f, hf, _⟩ := of_at hk
 simp only [hf] at hQ
 obtain ⟨r, hr, R⟩ := raw_at C hf
 have hh := hN.held f (List.mem_of_getElem? hf)
 refine ⟨_, fcell C.fbk hr (j := 3) rfl, ?_⟩
 rw [R.held]
 refine vif_mk (fun g => ?_) (fun g => ?_)
 ·have g : f.held = 0 := by simpa using g
  rw [if_pos g] at hQ
  exact hQ h rs C (.refl _ _) rfl
 ·have g : f.held ≠ 0 := by simpa using g
  rw [if_neg g] at hQ
  refine ⟨_, fcell C.fbk hr (j := 3) rfl, ?_⟩
  have e1 : wrapK .i64 (((r.held : Nat) : Int) - 1) = ((f.held - 1 : Nat) : Int) := by rw [R.held, wrapK_i64 ⟨by omega, by omega⟩]; omega
  rw [e1]
  refine fstorev (r' := { r with held := f.held - 1 }) C.fbk hr (by simp) rfE_held ?_
  exact hQ _ _ (C.setF (f' := { f with held := f.held - 1 }) hf ⟨R.name, R.i, rfl, R.mark, R.is, R.l, R.sep⟩ rfl rfl rfl) (keeps_set (.inr (.inl rfl))) List.length_set)
theorem k38 {n : Nat} (hn : n ≤ 1024) (hQ : ∀ h', PC z h' (h.length + 2) h.length (h.length + 1) (List.replicate n ⟨[], 0, none, 0, false, false⟩) [] 0 (newP n) → Ext h h' → Q (.tup [.ptr (some ⟨h.length + 2, 0⟩), .int .i64 0]) h') : AC Tryz.prog 38 [.int .i64 (n : Nat)] h Q := ac38 (by
 unfold vc38 PMake PNew
 refine vif_mk (fun g => by have := of_decide_eq_true g; omega) (fun _ => vif_mk (fun g => by have := of_decide_eq_true g; omega) (fun _ => ?_))
 refine ⟨by omega, by omega, by omega, by simp only [maxI]; omega, ?_⟩
 simp only [Int.toNat_natCast, List.length_append, List.length_cons, List.length_nil]
 have hrep : (List.replicate n [AV.str [], .int .i64 0, .sl none, .int .i64 0, .bool false, .bool false]).flatten = rfE.all (List.replicate n ⟨[], 0, none, 0, false, false⟩) := by
  unfold Enc.all; rw [List.map_replicate]; rfl
 rw [hrep]
 have x : Ext h (((h ++ [Blk.cells (rfE.all (List.replicate n ⟨[], 0, none, 0, false, false⟩)) true]) ++ [Blk.mp [] 0]) ++ [Blk.cells [.sl (some ⟨h.length, 0, n, n, 0⟩), .map (some (h.length + (0 + 1))), .int .i64 0, .int .i64 0, .int .i64 0, .int .i64 0] true]) := ((Ext.app _ _).trans (.app _ _)).trans (.app _ _)
 refine hQ _ ⟨?_, ?_, ?_, ?_, ?_, by simp, ?_, by simp, ⟨?_, .inr rfl, by simp [newP]; omega⟩, by omega⟩ x
 ·simp [newP]
 ·simp
 ·simp
 ·simp [newP]
 ·intro k r f hr hf
  simp only [newP, List.getElem?_replicate] at hr hf
  by_cases hk : k < n
  ·rw [if_pos hk] at hr hf
   cases hr; cases hf
   exact ⟨rfl, rfl, rfl, rfl, rfl, rfl, fun s hs => by cases hs⟩
  ·rw [if_neg hk] at hr; cases hr
 ·intro k f hf hi
  simp only [newP, List.getElem?_replicate] at hf
  split at hf
  ·cases hf; cases hi
  ·cases hf
 ·intro j k f g hf hg hi
  simp only [newP, List.getElem?_replicate] at hf
  split at hf
  ·cases hf; cases hi
  ·cases hf)
end
section
variable {z : Nat → Prop} {h h' : Heap} {Q : AV → Heap → Prop} {p fb mb : Nat} {rs : List RF} {es : List (AV × AV × Nat)} {cl : Nat} {P : PS}
structure PlJ (z : Nat → Prop) (h10 h : Heap) (p fb mb : Nat) (es : List (AV × AV × Nat)) (cl : Nat) (P0 : PS) (r0 : Nat × List Pool.Fr × Nat) (n : Nat) : Prop where
  ex : ∃ rs P, PC z h p fb mb rs es cl P ∧ spin n P.fr P.hand = some r0 ∧ P.hand < P.fr.length ∧ P.fr.length = P0.fr.length ∧ P.hits = P0.hits ∧ P.reads = P0.reads ∧ P.losses = P0.losses
  keep : Keeps (pbl p fb mb) h10 h
  len : h.length = h10.length
attribute [local irreducible] findP keyIs in
theorem k56 {N : Nat} (C : PC z h p fb mb rs es cl P) (hN : P.lt N) (hs : N ≤ 1000000000) (h0 : P.place = none → Q (.tup [.int .i64 0, .bool false]) h)
    (h1 : ∀ k P' rs' es' h', P.place = some (k, P') → PD2 z h' p fb mb k rs' es' cl P' → Keeps (pbl p fb mb) h h' → h'.length = h.length → Q (.tup [.int .i64 (k : Nat), .bool true]) h') :
    AC Tryz.prog 56 [.ptr (some ⟨p, 0⟩)] h Q := ac56 (by
  unfold vc56
  have few := C.ok.few
  refine ⟨_, C.at (k := 0) rfl, ?_⟩
  refine k89 C (fun hn => ⟨_, rfl, vif_mk (fun g => by simp at g) (fun _ => ?_)⟩) fun k hk => ⟨_, rfl, vif_mk (fun _ => ?_) (fun g => by have := of_decide_eq_false g; omega)⟩
  rotate_left
  · rw [List.findIdx?_eq_some_iff_getElem] at hk
    obtain ⟨hl, hi, _⟩ := hk
    refine h1 k P rs es h ?_ (C.empty (List.getElem?_eq_getElem hl) (by simpa using hi)) (.refl _ _) rfl
    unfold PS.place
    rw [List.findIdx?_eq_some_iff_getElem.2 ⟨hl, hi, by assumption⟩]
  have hfull : ∀ f ∈ P.fr, f.is = true := fun f hf => by simpa using (List.findIdx?_eq_none_iff.1 hn) f hf
  refine ⟨_, C.at (k := 0) rfl, ?_⟩
  refine k15 C ⟨_, rfl, ⟨_, C.at (k := 0) rfl, rfl⟩, ?_⟩
  refine vif_mk (fun g => h0 ?_) (fun g => ?_)
  · have g : P.held = P.fr.length := by have : ((P.held : Nat) : Int) = ((P.fr.length : Nat) : Int) := by simpa [slLen] using g
                                        omega
    unfold PS.place
    rw [hn]; simp only; rw [if_pos g]
  have g : P.held ≠ P.fr.length := fun hc => by rw [hc] at g; simp [slLen] at g
  have hun : ∃ f ∈ P.fr, f.held = 0 := by
    apply Classical.byContradiction
    intro hc
    apply g
    unfold PS.held
    rw [List.countP_eq_length]
    intro f hf
    simp only [decide_eq_true_eq]
    apply Classical.byContradiction
    intro h2
    exact hc ⟨f, hf, by omega⟩
  have hne : 0 < P.fr.length := by
    obtain ⟨f, hf, _⟩ := hun
    exact List.length_pos_of_mem hf
  have hhand : P.hand < P.fr.length := by rcases C.ok.hand with h2 | h2 <;> omega
  obtain ⟨⟨k0, fr0, hand0⟩, hsp⟩ := spin_some hhand hun
  have hpl : P.place = some (k0, { P with fr := fr0, hand := hand0, losses := P.losses + 1 }) := by
    unfold PS.place
    rw [hn]; simp only; rw [if_neg g, hsp]
  have J0 : PlJ z h h p fb mb es cl P (k0, fr0, hand0) (2 * P.fr.length + 1) := ⟨⟨rs, P, C, hsp, hhand, rfl, rfl, rfl, rfl⟩, .refl _ _, rfl⟩
  refine ⟨fun xs h14 => xs = [] ∧ ∃ n, PlJ z h h14 p fb mb es cl P (k0, fr0, hand0) n, fun _ h14 => least fun n => PlJ z h h14 p fb mb es cl P (k0, fr0, hand0) n, ⟨rfl, _, J0⟩, ?_⟩
  rintro h14 ⟨_, hex⟩
  have J := least_is hex
  generalize hm : least (fun n => PlJ z h h14 p fb mb es cl P (k0, fr0, hand0) n) = n at *
  obtain ⟨⟨rs1, P1, C1, hs1, hh1, hl1, e1, e2, e3⟩, K1, l1⟩ := J
  cases n with
  | zero => simp [spin] at hs1
  | succ n =>
    have hf : P1.fr[P1.hand]? = some P1.fr[P1.hand] := List.getElem?_eq_getElem hh1
    generalize P1.fr[P1.hand] = f at hf
    have hs2 := hs1
    simp only [spin, hf] at hs1
    refine k221 C1 hh1 fun h16 C16 K16 l16 => ⟨_, rfl, ?_⟩
    have hhn : (P1.hand + 1) % P1.fr.length < P1.fr.length := Nat.mod_lt _ (by omega)
    obtain ⟨r, hr, R⟩ := raw_at (P := { P1 with hand := (P1.hand + 1) % P1.fr.length }) C16 hf
    refine ⟨_, C16.at (k := 0) rfl, fidx rfl hh1 ?_⟩
    refine ⟨_, fcell C16.fbk hr (j := 3) rfl, ?_⟩
    rw [R.held]
    refine vif_mk (fun gh => ?_) (fun gh => ?_)
    · have gh : 0 < f.held := by have := of_decide_eq_true gh; omega
      rw [if_pos gh] at hs1
      have J16 : PlJ z h h16 p fb mb es cl P (k0, fr0, hand0) n := ⟨⟨rs1, _, C16, hs1, hhn, hl1, e1, e2, e3⟩, K1.trans K16, by omega⟩
      refine ⟨trivial, ⟨rfl, n, J16⟩, ?_⟩
      have := least_le (p := fun n => PlJ z h h16 p fb mb es cl P (k0, fr0, hand0) n) J16
      show Pool.least _ < Pool.least _
      rw [hm]
      omega
    · have gh : f.held = 0 := by have := of_decide_eq_false gh; omega
      rw [if_neg (by omega)] at hs1
      refine ⟨_, fcell C16.fbk hr (j := 4) rfl, ?_⟩
      rw [R.mark]
      refine vif_mk (fun gm => ?_) (fun gm => ?_)
      · rw [if_pos gm] at hs1
        refine fstore (r' := { r with mark := false }) C16.fbk hr (by simp) rfE_mark ?_
        have C23 := C16.setF (r' := { r with mark := false }) (f' := { f with mark := false }) hf ⟨R.name, R.i, R.held, rfl, R.is, R.l, R.sep⟩ rfl rfl rfl
        have K23 : Keeps (pbl p fb mb) h16 (h16.set fb (.cells (rfE.all (rs1.set P1.hand { r with mark := false })) true)) := keeps_set (.inr (.inl rfl))
        have l23 : (h16.set fb (.cells (rfE.all (rs1.set P1.hand { r with mark := false })) true)).length = h16.length := List.length_set
        generalize h16.set fb (.cells (rfE.all (rs1.set P1.hand { r with mark := false })) true) = h23 at *
        have J23 : PlJ z h h23 p fb mb es cl P (k0, fr0, hand0) n := ⟨⟨_, _, C23, hs1, by simp only [List.length_set]; exact hhn, by simp only [List.length_set]; exact hl1, e1, e2, e3⟩, (K1.trans K16).trans K23, by omega⟩
        refine ⟨trivial, ⟨rfl, n, J23⟩, ?_⟩
        have := least_le (p := fun n => PlJ z h h23 p fb mb es cl P (k0, fr0, hand0) n) J23
        show Pool.least _ < Pool.least _
        rw [hm]
        omega
      · rw [if_neg (by simp [gm])] at hs1
        simp only [Option.some.injEq, Prod.mk.injEq] at hs1
        obtain ⟨rfl, rfl, rfl⟩ := hs1
        have hfm := List.mem_of_getElem? hf
        refine ⟨_, C16.at (k := 1) rfl, _, _, fpart C16.fbk hr (j := 0) (m := 2) (by omega), ?_⟩
        have hfi : f.is = true := by
          have hc := (spin_core hsp hhand).1
          have : (P1.fr.map core)[P1.hand]? = (P.fr.map core)[P1.hand]? := by rw [hc]
          rw [List.getElem?_map, hf, List.getElem?_map] at this
          cases hg : P.fr[P1.hand]? with
          | none => rw [hg] at this; cases this
          | some f2 =>
            rw [hg] at this
            simp only [Option.map_some, Option.some.injEq, core, Prod.mk.injEq] at this
            rw [this.2.2.2.2]; exact hfull f2 (List.mem_of_getElem? hg)
        rw [R.name, R.i]
        show PDelete Tryz.prog 87 (some mb) (.agg [.str f.name, .int .i64 f.i]) h16 _
        unfold PDelete
        simp only [C16.mbk]
        have hko := spot_ok f.name f.i
        simp only [hko, need]
        have hat : PS.at { P1 with hand := (P1.hand + 1) % P1.fr.length } f.name f.i = some P1.hand := at_some C16.ok hf hfi rfl rfl
        refine C16.find spot_key ?_ ?_
        · intro hn2; rw [hat] at hn2; cases hn2
        intro j k2 n2 hk2 hj
        rw [hat] at hk2; cases hk2
        have D28 := C16.forget hf hj
        have K28 : Keeps (pbl p fb mb) h16 (h16.set mb (.mp (es.eraseIdx j) cl)) := keeps_set (.inr (.inr rfl))
        have l28 : (h16.set mb (.mp (es.eraseIdx j) cl)).length = h16.length := List.length_set
        have hc30 : cellsAt (h16.set mb (.mp (es.eraseIdx j) cl)) ⟨p, 0 + 3 + 2⟩ 1 = some [.int .i64 (P1.losses : Nat)] := by
          rw [show 0 + 3 + 2 = 0 + 5 from rfl, cells6 D28.pb (by simp)]; rfl
        refine ⟨_, hc30, ?_⟩
        have hls := hN.losses
        have e5 : wrapK .i64 (((P1.losses : Nat) : Int) + 1) = ((P1.losses + 1 : Nat) : Int) := by rw [wrapK_i64 ⟨by omega, by omega⟩]; omega
        rw [e5]
        refine pst_losses D28.pb ?_
        have D32 := D28.setP (P' := { P with fr := P1.fr, hand := (P1.hand + 1) % P1.fr.length, losses := P.losses + 1 }) rfl (.inl hhn)
        have := h1 P1.hand _ _ _ _ hpl (by rw [← e3, ← e1, ← e2] at D32; simp only [e1, e2, e3] at D32 ⊢; exact D32) (((K1.trans K16).trans K28).trans (keeps_set (.inl rfl))) (by rw [List.length_set]; omega)
        simp only [e1, e2, e3] at this ⊢
        exact this)
end
theorem at_core {P P' : PS} (hk : P.ok) (hc : P'.fr.map core = P.fr.map core) {s : Bs} {n : Int} (h : P.at s n = none) : P'.at s n = none := by
 refine at_none fun f hf h1 h2 h3 => ?_
 obtain ⟨k, hk1⟩ := List.getElem?_of_mem hf
 have : (P'.fr.map core)[k]? = (P.fr.map core)[k]? := by rw [hc]
 rw [List.getElem?_map, hk1, List.getElem?_map] at this
 cases hg : P.fr[k]? with
 | none => rw [hg] at this; cases this
 | some f2 =>
  rw [hg] at this
  simp only [Option.map_some, Option.some.injEq, core, Prod.mk.injEq] at this
  exact at_not hk h k f2 hg (by rw [← this.2.2.2.2]; exact h1) (by rw [← this.1]; exact h2) (by rw [← this.2.1]; exact h3)
section
variable {z : Nat → Prop} {h h' : Heap} {Q : AV → Heap → Prop} {p fb mb : Nat} {rs : List RF} {es : List (AV × AV × Nat)} {cl : Nat} {P : PS}
attribute [local irreducible] findP keyIs in
set_option maxHeartbeats 1000000 in
theorem k22 {N dp sp base count : Nat} {q0 : Option SL} {s : Bs} {n : Int} {r : Int × List Ent} (C : PC z h p fb mb rs es cl P) (hN : P.lt N) (hs : N ≤ 1000000000) (hfl : ∀ f ∈ P.fr, f.l.length ≤ 1000000) (hrl : r.2.length ≤ 1000000) (hz : ∀ b, z b → b < h.length)
  (hsp : h[sp]? = some (segC dp s base count q0)) (hne : ¬ pbl p fb mb sp)
  (page : ∀ {h' : Heap} {K : AV → Heap → Prop}, Ext h h' → (r.1 ≠ 0 → ∀ h2, Ext h' h2 → K (.tup [.sl none, .int .i64 r.1]) h2) → (r.1 = 0 → ∀ q h2, Ext h' h2 → HasL entE h2 q r.2 → (∀ t, q = some t → h'.length ≤ t.b) → K (.tup [.sl q, .int .i64 0]) h2) → AC Tryz.prog 55 [.ptr (some ⟨sp, 0⟩), .int .i64 n] h' K)
  (hQ : ∀ q' h', PoolR (entZ z) h' p fb mb (P.hold s n r).2.2 → Keeps (pbl p fb mb) h h' → h.length ≤ h'.length → ((P.hold s n r).1 = 0 → HasL entE h' q' (P.hold s n r).2.1 ∧ ∀ t, q' = some t → h.length ≤ t.b) → ((P.hold s n r).1 ≠ 0 → q' = none) → Q (.tup [.sl q', .int .i64 (P.hold s n r).1]) h') :
  AC Tryz.prog 22 [.ptr (some ⟨p, 0⟩), .ptr (some ⟨sp, 0⟩), .int .i64 n] h Q := ac22 (by
 unfold vc22
 unfold PS.hold at hQ
 have few := C.ok.few
 refine k51 C ⟨_, rfl, vif_mk (fun g => by simp at g) (fun _ => ?_)⟩
 refine k53 hsp ⟨_, rfl, ?_⟩
 refine k52 C (fun hn => ⟨_, rfl, vif_mk (fun g => by simp at g) (fun _ => ?_)⟩) fun k hk => ⟨_, rfl, vif_mk (fun _ => vif_mk (fun _ => ?_) (fun g => by simp at g)) (fun g => by simp at g)⟩
 rotate_left
 ·
  rw [hk] at hQ
  obtain ⟨f, hf, _⟩ := of_at hk
  simp only [hf, up] at hQ
  refine k146 C hf hN hs (hfl f (List.mem_of_getElem? hf)) fun q' h14 rs' C' K' l' H' f' => ⟨q', rfl, ?_⟩
  exact hQ q' h14 ⟨rs', es, cl, C'⟩ K' l' (fun _ => ⟨H', f'⟩) (fun hc => absurd rfl hc)
 rw [hn] at hQ
 simp only at hQ
 refine page (.refl _) (fun he h43 x43 => ⟨_, _, rfl, vif_mk (fun _ => ?_) (fun g => absurd (by simpa using g) he)⟩) fun he q44 h43 x43 H44 f44 => ⟨_, _, rfl, vif_mk (fun g => by simp at g) (fun _ => ?_)⟩
 ·rw [if_pos he] at hQ
  exact hQ none h43 (PoolR.ext (E := entZ z) ⟨rs, es, cl, C⟩ x43) (keeps_of_ext x43) x43.len (fun hc => absurd hc he) (fun _ => rfl)
 rw [if_neg (by simp [he])] at hQ
 have C43 := C.keeps (X := fun _ => False) (keeps_of_ext x43) (fun _ _ h => h)
 refine k56 C43 hN hs (fun hp => ⟨_, _, rfl, vif_mk (fun _ => ?_) (fun g => by simp at g)⟩) fun k P' rs' es' h47 hp D47 K47 l47 => ⟨_, _, rfl, vif_mk (fun g => by simp at g) (fun _ => ?_)⟩
 ·rw [hp] at hQ
  exact hQ none h43 ⟨rs, es, cl, C43⟩ (keeps_of_ext x43) x43.len (fun hc => absurd hc (by simp)) (fun _ => rfl)
 rw [hp] at hQ
 simp only at hQ
 obtain ⟨hcore, ph, pr, pl⟩ := place_core hp C.ok.hand
 have hat := at_core C.ok hcore hn
 have lpb := lt_of_get C.pb
 have lfb := lt_of_get C.fbk
 have lmb := lt_of_get C.mbk
 have x43l := x43.len
 have hsp47 : h47[sp]? = some (segC dp s base count q0) := K47 _ _ hne (x43 _ _ hsp)
 refine k53 hsp47 ⟨_, rfl, ?_⟩
 have fr44 : ∀ t, q44 = some t → ¬ pbl p fb mb t.b := fun t ht hc => by
  have := f44 t ht
  rcases hc with hc | hc | hc <;> omega
 have H47 : HasL entE h47 q44 r.2 := K47.hasL (fun t ht => fr44 t ht) H44
 obtain ⟨r0, hr0⟩ : ∃ r0, rs'[k]? = some r0 := ⟨_, List.getElem?_eq_getElem (by rw [D47.rl]; exact D47.k0)⟩
 have c0 : cellsAt h47 ⟨p, 0 + 0⟩ 1 = some [.sl (some ⟨fb, 0, P'.fr.length, P'.fr.length, 0⟩)] := by rw [cells6 D47.pb (by simp)]; rfl
 refine ⟨_, c0, fidx rfl D47.k0 ?_⟩
 refine fstore (j := 0) (r' := ⟨s, n, q44, 1, true, true⟩) D47.fbk hr0 (by simp) rfl ?_
 have R' : RelF (entZ z) h47 p fb mb ⟨s, n, q44, 1, true, true⟩ ⟨s, n, r.2, 1, true, true⟩ := ⟨rfl, rfl, rfl, rfl, rfl, H47, fun t ht => ⟨fun hc => fr44 t ht (.inl hc), fun hc => fr44 t ht (.inr (.inl hc)), fun hc => fr44 t ht (.inr (.inr hc)), fun hc => by have := f44 t ht; have := hz _ hc; omega⟩⟩
 have C59 := D47.take R' rfl fun j g hj hg hi hn1 hn2 => at_not D47.ok hat j g hg hi hn1 hn2
 have b56p : (h47.set fb (.cells (rfE.all (rs'.set k ⟨s, n, q44, 1, true, true⟩)) true))[p]? = some (poolB fb mb P'.fr.length P'.hand P'.hits P'.reads P'.losses) := by
  rw [List.getElem?_set, if_neg (fun hc => D47.ne.1 hc.symm)]; exact D47.pb
 have b56m : (h47.set fb (.cells (rfE.all (rs'.set k ⟨s, n, q44, 1, true, true⟩)) true))[mb]? = some (.mp es' cl) := by
  rw [List.getElem?_set, if_neg D47.ne.2.2]; exact D47.mbk
 have K59 : Keeps (pbl p fb mb) h47 ((h47.set fb (.cells (rfE.all (rs'.set k ⟨s, n, q44, 1, true, true⟩)) true)).set mb (.mp (es' ++ [(spotV s n, .int .i64 (k : Nat), cl)]) (cl + 1))) :=
  Keeps.trans (b := h47.set fb (.cells (rfE.all (rs'.set k ⟨s, n, q44, 1, true, true⟩)) true)) (keeps_set (.inr (.inl rfl))) (keeps_set (.inr (.inr rfl)))
 have l59 : ((h47.set fb (.cells (rfE.all (rs'.set k ⟨s, n, q44, 1, true, true⟩)) true)).set mb (.mp (es' ++ [(spotV s n, .int .i64 (k : Nat), cl)]) (cl + 1))).length = h47.length := by rw [List.length_set, List.length_set]
 have c1 : cellsAt (h47.set fb (.cells (rfE.all (rs'.set k ⟨s, n, q44, 1, true, true⟩)) true)) ⟨p, 0 + 1⟩ 1 = some [.map (some mb)] := by rw [cells6 b56p (by simp)]; rfl
 refine ⟨_, c1, ?_⟩
 simp only [vMap]
 unfold PUpdate
 simp only [b56m]
 have hko := spot_ok s n
 simp only [hko, isTup, Bool.not_false, Bool.and_true, need]
 refine findP_spot spot_key ?_ ?_ ?_
 ·intro e he
  obtain ⟨_, f, _, _, _, e1, _⟩ := D47.keys e he
  exact ⟨_, _, e1⟩
 rotate_left
 ·intro j v n2 hj
  exfalso
  obtain ⟨k2, f, _, hf, hi, e1, _⟩ := D47.keys _ (List.mem_of_getElem? hj)
  simp only [AV.agg.injEq, List.cons.injEq, AV.str.injEq, AV.int.injEq, true_and, and_true] at e1
  exact at_not D47.ok hat k2 f hf hi e1.1.symm e1.2.symm
 intro _
 simp only at C59
 have c4 : cellsAt ((h47.set fb (.cells (rfE.all (rs'.set k ⟨s, n, q44, 1, true, true⟩)) true)).set mb (.mp (es' ++ [(spotV s n, .int .i64 (k : Nat), cl)]) (cl + 1))) ⟨p, 0 + 3 + 1⟩ 1 = some [.int .i64 (P'.reads : Nat)] := by
  rw [show 0 + 3 + 1 = 0 + 4 from rfl, cells6 C59.pb (by simp)]; rfl
 refine ⟨_, c4, ?_⟩
 have hrd := hN.reads
 have e6 : wrapK .i64 (((P'.reads : Nat) : Int) + 1) = ((P'.reads + 1 : Nat) : Int) := by rw [pr, wrapK_i64 ⟨by omega, by omega⟩]; omega
 rw [e6]
 refine pst_reads C59.pb ?_
 have C64 := C59.setP (P' := P'.take k s n r.2) rfl C59.ok.hand
 have H59 : HasL entE ((h47.set fb (.cells (rfE.all (rs'.set k ⟨s, n, q44, 1, true, true⟩)) true)).set mb (.mp (es' ++ [(spotV s n, .int .i64 (k : Nat), cl)]) (cl + 1))) q44 r.2 := K59.hasL (fun t ht => fr44 t ht) H47
 generalize (h47.set fb (.cells (rfE.all (rs'.set k ⟨s, n, q44, 1, true, true⟩)) true)).set mb (.mp (es' ++ [(spotV s n, .int .i64 (k : Nat), cl)]) (cl + 1)) = h59 at *
 have K64 : Keeps (pbl p fb mb) h59 (h59.set p (poolB fb mb (P'.fr.set k ⟨s, n, r.2, 1, true, true⟩).length P'.hand P'.hits (P'.reads + 1) P'.losses)) := keeps_set (.inl rfl)
 have l64 : (h59.set p (poolB fb mb (P'.fr.set k ⟨s, n, r.2, 1, true, true⟩).length P'.hand P'.hits (P'.reads + 1) P'.losses)).length = h59.length := List.length_set
 refine k57 (K64.hasL (fun t ht => fr44 t ht) H59) hrl fun q' h66 N66 => ⟨q', rfl, ?_⟩
 have n66 : h59.length ≤ h66.length := by have := N66.1.len; rw [List.length_set] at this; exact this
 refine hQ q' h66 (PoolR.ext (E := entZ z) ⟨_, _, _, C64⟩ N66.1) ((((keeps_of_ext x43).trans K47).trans K59).trans (K64.trans (keeps_of_ext N66.1))) (by omega) (fun _ => ⟨N66.hasL, fun t ht => ?_⟩) (fun hc => absurd rfl hc)
 have h7 := N66.2.2 t ht
 rw [List.length_set] at h7
 omega)
end
section
variable {z : Nat → Prop} {h h' : Heap} {Q : AV → Heap → Prop} {p fb mb : Nat} {rs : List RF} {es : List (AV × AV × Nat)} {cl : Nat} {P : PS}
attribute [local irreducible] findP keyIs in
end
end Go.Proofs.YtankijamfedliaaGreatDoor

namespace Go.Proofs.YtankijamfedliaaGreatDoor
open Go.Ab
open Go.Num hiding Bs snoc_ind
open Go.Ent Go.Seg
open Go.Page hiding Bs get
open Go.Dsk hiding Bs
set_option linter.unusedVariables false
set_option linter.unusedSimpArgs false
theorem mid_eq {i j : Nat} (hi : i ≤ 1000000) (hj : j ≤ 1000000) : wrapK .i64 (shrK .u64 (wrapK .u64 (wrapK .i64 ((i : Int) + (j : Int)))) 1) = (((i + j) / 2 : Nat) : Int) := by
 rw [wrapK_i64 (n := (i : Int) + (j : Int)) ⟨by omega, by omega⟩]
 have e1 : wrapK .u64 ((i : Int) + (j : Int)) = ((i + j : Nat) : Int) := by
  rw [wrapK_u64 ⟨by omega, by omega⟩]; omega
 rw [e1]
 have e2 : shrK .u64 ((i + j : Nat) : Int) 1 = (((i + j) / 2 : Nat) : Int) := by
  unfold shrK
  have e : min ((1 : Int).toNat) IntKind.u64.bits = 1 := by decide
  rw [e, Int.fdiv_eq_ediv_of_nonneg _ (by decide)]
  omega
 rw [e2, wrapK_i64 ⟨by omega, by omega⟩]
section
variable {h : Heap} {Q : AV → Heap → Prop} {dp sp : Nat} {s : Bs} {base count : Nat} {q : Option SL} {heads : List Ent} {e : Ent} {a6 a8 : Nat}
theorem k83 {i : Nat} {x : Ent} (c6 : cellsAt h ⟨a6, 0⟩ 1 = some [.ptr (some ⟨sp, 0⟩)]) (c8 : cellsAt h ⟨a8, 0⟩ 4 = some (entE.f e)) (hs : h[sp]? = some (segC dp s base count q)) (H : HasL entE h q heads) (hx : heads[i]? = some x)
  (hQ : ∀ h', Ext h h' → Q (.bool (decide (¬ ltE x e))) h') : AC Tryz.prog 83 [.int .i64 (i : Nat), .ptr (some ⟨a6, 0⟩), .ptr (some ⟨a8, 0⟩)] h Q := ac83 (by
 unfold vc83
 have hil := (List.getElem?_eq_some_iff.1 hx).1
 refine ⟨_, c6, _, seg_at hs (k := 4) rfl, ?_⟩
 refine idx4 H hx rfl fun p hc => ⟨_, _, _, _, hc, _, _, _, _, c8, ?_⟩
 refine z47 (a := x) (b := e) fun h' x' => ⟨_, rfl, ?_⟩
 have := hQ h' x'
 have e1 : decide (cmpE x e ≥ 0) = decide (¬ ltE x e) := decide_eq_decide.2 ⟨fun g hc => by have := cmpE_lt.2 hc; omega, fun g => by
  rcases Int.lt_or_le (cmpE x e) 0 with h1 | h1
  ·exact absurd (cmpE_lt.1 h1) g
  ·exact h1⟩
 rw [e1]; exact this)
theorem k45 (c6 : cellsAt h ⟨a6, 0⟩ 1 = some [.ptr (some ⟨sp, 0⟩)]) (c8 : cellsAt h ⟨a8, 0⟩ 4 = some (entE.f e)) (hs : h[sp]? = some (segC dp s base count q)) (H : HasL entE h q heads) (hso : SortedL heads) (hl : heads.length ≤ 100000)
  (hQ : ∀ k h', Ext h h' → k ≤ heads.length → (∀ i x, i < k → heads[i]? = some x → ltE x e) → (∀ i x, k ≤ i → heads[i]? = some x → ¬ ltE x e) → Q (.int .i64 (k : Nat)) h') :
  AC Tryz.prog 45 [.int .i64 (heads.length : Nat), .func (.func 83) [] [.ptr (some ⟨a6, 0⟩), .ptr (some ⟨a8, 0⟩)]] h Q := ac45b (by
 unfold vc45b
 refine ⟨fun xs h8 => ∃ i j : Nat, xs = [.int .i64 (i : Nat), .int .i64 (j : Nat)] ∧ i ≤ j ∧ j ≤ heads.length ∧ Ext h h8 ∧ (∀ k x, k < i → heads[k]? = some x → ltE x e) ∧ (∀ k x, j ≤ k → heads[k]? = some x → ¬ ltE x e),
  fun xs _ => match xs with | [.int _ i, .int _ j] => (j - i).toNat | _ => 0, ⟨0, heads.length, rfl, by omega, by omega, .refl _, by omega, fun k x hk hx => by have := (List.getElem?_eq_some_iff.1 hx).1; omega⟩, ?_⟩
 rintro n4 n5 h8 ⟨i, j, hx, hij, hj, x8, hlo, hhi⟩
 simp only [List.cons.injEq, AV.int.injEq, true_and, and_true] at hx
 obtain ⟨rfl, rfl⟩ := hx
 refine vif_mk (fun g => ?_) (fun g => ?_)
 ·replace g := of_decide_eq_true g
  rw [mid_eq (by omega) (by omega)]
  have hm : (i + j) / 2 < heads.length := by omega
  have hmx : heads[(i + j) / 2]? = some heads[(i + j) / 2] := List.getElem?_eq_getElem hm
  refine k83 (x8.cells c6) (x8.cells c8) (x8 _ _ hs) (H.mono x8) hmx fun h10 x10 => ⟨_, rfl, ?_⟩
  refine vif_mk (fun g2 => ?_) (fun g2 => ?_)
  ·have g2 : ltE heads[(i + j) / 2] e := by simpa using g2
   rw [wrapK_i64 ⟨by omega, by omega⟩]
   exact ⟨trivial, ⟨(i + j) / 2 + 1, j, by simp, by omega, hj, x8.trans x10, fun k x hk hx => ltE_of_le (sorted_get hso (by omega) hx hmx) g2, hhi⟩, by simp only; omega⟩
  ·have g2 : ¬ ltE heads[(i + j) / 2] e := by simpa using g2
   exact ⟨trivial, ⟨i, (i + j) / 2, by simp, by omega, by omega, x8.trans x10, hlo, fun k x hk hx => fun hc => g2 (ltE_of_le (sorted_get hso hk hmx hx) hc)⟩, by simp only; omega⟩
 ·replace g := of_decide_eq_false g
  have : i = j := by omega
  subst this
  exact hQ i h8 x8 hj hlo hhi)
theorem k43 (hs : h[sp]? = some (segC dp s base count q)) (H : HasL entE h q heads) (hso : SortedL heads) (hl : heads.length ≤ 100000) (hQ : ∀ h', Ext h h' → Q (.int .i64 (findS heads e : Nat)) h') :
  AC Tryz.prog 43 [.ptr (some ⟨sp, 0⟩), entV e] h Q := ac43 (by
 unfold vc43 PNew
 dsimp only
 have x7 : Ext h (h ++ [Blk.cells [.ptr (some ⟨sp, 0⟩)] true]) := .app _ _
 have x9 := x7.trans (.app (h ++ [Blk.cells [.ptr (some ⟨sp, 0⟩)] true]) [Blk.cells [.int .i64 e.1, .int .i64 e.2.1, .int .i64 e.2.2.1, .int .i64 e.2.2.2] true])
 generalize hh9 : h ++ [Blk.cells [.ptr (some ⟨sp, 0⟩)] true] ++ [Blk.cells [.int .i64 e.1, .int .i64 e.2.1, .int .i64 e.2.2.1, .int .i64 e.2.2.2] true] = h9 at *
 have b6 : h9[h.length]? = some (.cells [.ptr (some ⟨sp, 0⟩)] true) := by rw [← hh9]; simp
 have b8 : h9[h.length + 1]? = some (.cells (entE.f e) true) := by rw [← hh9]; simp [entE]
 have c6 : cellsAt h9 ⟨h.length, 0⟩ 1 = some [.ptr (some ⟨sp, 0⟩)] := by rw [cellsAt_mk (p := ⟨h.length, 0⟩) b6 (by simp)]; rfl
 have c8 : cellsAt h9 ⟨h.length + 1, 0⟩ 4 = some (entE.f e) := by rw [cellsAt_mk (p := ⟨h.length + 1, 0⟩) b8 (by simp [entE])]; rfl
 refine ⟨_, c6, ?_⟩
 refine k21 (x9 _ _ hs) (H.mono x9) ⟨_, rfl, ?_⟩
 rw [show (h ++ [Blk.cells [.ptr (some ⟨sp, 0⟩)] true]).length = h.length + 1 by simp]
 refine k45 c6 c8 (x9 _ _ hs) (H.mono x9) hso hl fun k h15 x15 hk h1 h2 => ⟨_, rfl, ?_⟩
 have e1 : maxI2 0 (wrapK .i64 ((k : Int) - 1)) = ((findS heads e : Nat) : Int) := by
  rw [findS_cut hk h1 h2, wrapK_i64 ⟨by omega, by omega⟩]
  unfold maxI2
  split <;> omega
 rw [e1]
 exact hQ _ (x9.trans x15))
end
end Go.Proofs.YtankijamfedliaaGreatDoor
