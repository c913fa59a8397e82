/- A segment is written. -/
import Derived.Test.YtnglhicedhcpbaaGreatDoorCG11
import Derived.Test.YtnglhicedhcpbaaGreatDoorCG12
import Derived.Test.YtnglhicedhcpbaaGreatDoorCG19
import Derived.Test.YtnglhicedhcpbaaGreatDoorCG20
import Derived.Test.YtnglhicedhcpbaaGreatDoorCG25
import Derived.Test.YtnglhicedhcpbaaGreatDoorCG26
namespace Go.Proofs.YtnglhicedhcpbaaGreatDoor
open Go.Ab
open Go.Num hiding Bs snoc_ind
open Go.Ent Go.Seg
open Go.Page hiding Bs get
open Go.Dsk hiding Bs
open Go.Man (pendsOf pendsOf_snoc keepAll_pends notB_all find_of pendsOf_b)
set_option linter.unusedVariables false
set_option linter.unusedSimpArgs false
attribute [local irreducible] momErr recErr

/-- Lists whose slices all lie between two places. -/
def LlsB {α : Type} (E : Enc α) (h : Heap) (q : Option SL) (ls : List (List α)) (lo hi : Nat) : Prop :=
  ∃ qs : List (Option SL), HasL slE h q qs ∧ qs.length = ls.length ∧ (∀ (i : Nat) (s : Option SL) (l : List α), qs[i]? = some s → ls[i]? = some l → HasL E h s l) ∧
    (∀ s, q = some s → lo ≤ s.b ∧ s.b < hi) ∧ ∀ (i : Nat) (t : SL), qs[i]? = some (some t) → lo ≤ t.b ∧ t.b < hi
theorem LL.llsB {α : Type} {E : Enc α} {h0 h : Heap} {out : Option SL} {qs : List (Option SL)} {ls : List (List α)} (L : LL E h0 h out qs ls) : LlsB E h out ls h0.length h.length :=
  ⟨qs, L.oa.hasL, L.len, L.el, fun s hs => ⟨L.ob s hs, HasL.live L.oa.hasL s hs⟩, fun i t ht => ⟨(L.eb i t ht).1, L.live ht⟩⟩
theorem LlsB.keeps {α : Type} {E : Enc α} {h h' : Heap} {q : Option SL} {ls : List (List α)} {lo hi : Nat} {X : Nat → Prop} (I : LlsB E h q ls lo hi) (K : Keeps X h h') (hX : ∀ b, lo ≤ b → b < hi → ¬ X b) : LlsB E h' q ls lo hi := by
  obtain ⟨qs, a, b, c, d, e⟩ := I
  exact ⟨qs, K.hasL (fun s hs => hX _ (d s hs).1 (d s hs).2) a, b, fun i s l h1 h2 => K.hasL (fun t ht => hX _ (e i t (by rw [h1, ht])).1 (e i t (by rw [h1, ht])).2) (c i s l h1 h2), d, e⟩
theorem LlsB.idx {α : Type} {E : Enc α} {h : Heap} {q : Option SL} {ls : List (List α)} {lo hi : Nat} (I : LlsB E h q ls lo hi) {i : Int} {K : PA → Prop} (h0 : 0 ≤ i) (h1 : i < ls.length)
    (hK : ∀ p s l, ls[i.toNat]? = some l → cellsAt h p 1 = some [.sl s] → HasL E h s l → (∀ t, s = some t → lo ≤ t.b ∧ t.b < hi) → K p) : vIdx q i 1 K := by
  obtain ⟨qs, a, b, c, d, e⟩ := I
  refine HasL.idx (E := slE) a h0 (by omega) fun p s hs hc => ?_
  have hl : ls[i.toNat]? = some (ls[i.toNat]'(by omega)) := List.getElem?_eq_getElem _
  exact hK p s _ hl hc (c _ _ _ hs hl) fun t ht => e _ t (by rw [hs, ht])
theorem LlsB.len {α : Type} {E : Enc α} {h : Heap} {q : Option SL} {ls : List (List α)} {lo hi : Nat} (I : LlsB E h q ls lo hi) : slLen q = ls.length := by
  obtain ⟨qs, a, b, _⟩ := I
  rw [a.len, b]

/-- A disk of one file. -/
def oneD (f : FA) (ps : List PD) (lim : Int) : DS := ⟨[f], ps, lim, -1, false⟩
def wrD (b : Nat) (s : Bs) (S : List Bs) (lim : Nat) : Int × DS :=
  if S.length ≤ lim then (0, oneD ⟨b, s, S, S⟩ [] lim) else (2, oneD ⟨b, s, S.take lim, []⟩ (pendsOf b 0 (S.take lim)) lim)
theorem oneD_find {f : FA} {ps : List PD} {lim : Int} : (oneD f ps lim).find f.name = some f := by simp [oneD, DS.find]
theorem oneD_used {f : FA} {ps : List PD} {lim : Int} : (oneD f ps lim).used = f.now.length := by simp [oneD, DS.used]
theorem create_empty {s : Bs} {b : Nat} {lim : Int} (hs : mayN s = true) : (emptyD lim).create s b = (0, oneD (mkF b s) [] lim) := by
  unfold DS.create
  rw [if_neg (by simp [hs]), if_neg (by simp [emptyD]), if_neg (by simp [emptyD, DS.find]), if_neg (by simp [emptyD])]
  rfl
theorem append_one {f : FA} {ps : List PD} {lim : Int} {x : Bs} (hx : x.length = 64) : (oneD f ps lim).append f.name x = if lim ≤ f.now.length then (2, oneD f ps lim) else (0, oneD { f with now := f.now ++ [x] } (ps ++ [(f.b, f.now.length, x)]) lim) := by
  unfold DS.append
  rw [if_neg (by simp [hx]), if_neg (by simp [oneD]), oneD_find]
  simp only [oneD_used]
  rw [show (oneD f ps lim).limit = lim from rfl]
  by_cases hl : lim ≤ (f.now.length : Int)
  · rw [if_pos hl, if_pos hl]
  · rw [if_neg hl, if_neg hl]
    have : (oneD f ps lim).deed = (0, oneD f ps lim) := rfl
    rw [this, if_pos rfl]
    simp [oneD, upF]
theorem sync_one {f : FA} {ps : List PD} {lim : Int} : (oneD f ps lim).sync f.name = (0, oneD (keepAll f ps) (ps.filter (notB f.b)) lim) := by
  unfold DS.sync
  rw [if_neg (by simp [oneD]), oneD_find]
  have : (oneD f ps lim).deed = (0, oneD f ps lim) := rfl
  rw [this]
  simp [oneD, upF, keepAll_b]
theorem sectors_len64 {base : Nat} {l : List Ent} (hok : ∀ e ∈ l, entOk e = true) (hl : l.length ≤ 16384) : ∀ s ∈ sectors base l, s.length = 64 := fun s hs => by
  obtain ⟨i, hi⟩ := List.getElem?_of_mem hs
  obtain ⟨b, hb, _, rfl⟩ := sectors_get hi
  exact put_len (pagesB_fit hok hl b hb)

section
variable {h : Heap} {Q : AV → Heap → Prop} {ow : Roles} {p : Nat}
theorem mayS_cases {n : Int} {l : List Ent} : (baseOk n = false ∧ mayS n l = 1) ∨ (baseOk n = true ∧ mayE l ≠ 0 ∧ mayS n l = mayE l) ∨ (baseOk n = true ∧ mayE l = 0 ∧ ¬ SortedL l ∧ mayS n l = 1) ∨ (baseOk n = true ∧ mayE l = 0 ∧ SortedL l ∧ mayS n l = 0) := by
  unfold mayS
  by_cases h1 : baseOk n = false
  · exact .inl ⟨h1, by rw [if_pos h1]⟩
  have h1' : baseOk n = true := by simpa using h1
  by_cases h2 : mayE l ≠ 0
  · exact .inr (.inl ⟨h1', h2, by rw [if_neg h1, if_pos h2]⟩)
  by_cases h3 : SortedL l
  · exact .inr (.inr (.inr ⟨h1', by simpa using h2, h3, by rw [if_neg h1, if_neg h2, if_pos h3]⟩))
  · exact .inr (.inr (.inl ⟨h1', by simpa using h2, h3, by rw [if_neg h1, if_neg h2, if_neg h3]⟩))
/-- segment.Write on a disk without files. -/
theorem k25 {lim : Nat} {n : Int} {s : Bs} {q : Option SL} {l : List Ent} (hs : mayN s = true) (hlim : lim ≤ 16384) (L : Laid h) (R : DiskR h ow p (emptyD lim)) (H : HasL entE h q l) (hl : l.length ≤ 100000)
    (h0 : mayS n l ≠ 0 → ∀ h', Ext h h' → Q (.int .i64 (mayS n l)) h')
    (h1 : ∀ base : Nat, n = base → 1 ≤ base → base ≤ 2305843009213693952 → mayE l = 0 → SortedL l → ∀ b h' ow', DiskR h' ow' p (wrD b s (sectors base l) lim).2 → DStep ow h ow' h' → Q (.int .i64 (wrD b s (sectors base l) lim).1) h') :
    AC Tryz.prog 25 [.ptr (some ⟨p, 0⟩), .str s, .int .i64 n, .sl q] h Q := ac25 (by
  unfold vc25
  refine k86 ⟨_, rfl, ?_⟩
  rcases mayS_cases (n := n) (l := l) with ⟨m1, m2⟩ | hrest
  · rw [m1]
    rw [m2] at h0
    exact vif_mk (fun _ => h0 (by omega) _ (.refl _)) (fun g => by cases g)
  have m1 : baseOk n = true := by
    rcases hrest with ⟨m, _⟩ | ⟨m, _⟩ | ⟨m, _⟩ <;> exact m
  rw [m1]
  refine vif_mk (fun g => by cases g) (fun _ => ?_)
  obtain ⟨base, rfl, b1, b2⟩ := baseOk_nat m1
  refine k93 L H hl ⟨b1, b2⟩ (fun hm => ⟨_, _, rfl, vif_mk (fun _ => ?_) (fun g => absurd (by simpa using g) hm)⟩) fun hm q10 qs10 h9 L9 => ⟨_, _, rfl, vif_mk (fun g => by simp at g) (fun _ => ?_)⟩
  · rcases hrest with ⟨_, m2, m3⟩ | ⟨_, m2, _⟩ | ⟨_, m2, _⟩
    · rw [m3] at h0; exact h0 m2 _ (.refl _)
    · exact absurd m2 hm
    · exact absurd m2 hm
  obtain ⟨hok, hlm⟩ := mayE_ok.1 hm
  refine z85 (H.mono L9.ext) (by omega) fun h13 x13 => ⟨_, rfl, vif_mk (fun g => ?_) (fun g => ?_)⟩
  · simp only [Bool.not_eq_true', decide_eq_false_iff_not] at g
    rcases hrest with ⟨_, m2, m3⟩ | ⟨_, _, m2, m3⟩ | ⟨_, _, m2, _⟩
    · exact absurd hm m2
    · rw [m3] at h0; exact h0 (by omega) _ (L9.ext.trans x13)
    · exact absurd m2 g
  have g : SortedL l := by simpa using g
  have h1 := h1 base rfl b1 b2 hm g
  generalize hS : sectors base l = S at *
  have h64 : ∀ x ∈ S, x.length = 64 := by rw [← hS]; exact sectors_len64 hok hlm
  have hSl : S.length ≤ 40000 := by
    rw [← hS, sectors_len]
    have := packG_len hok; have := idx_len hok; omega
  have x0 : Ext h h13 := L9.ext.trans x13
  have I13 : LlsB byE h13 q10 S h.length h9.length := (LL.llsB L9).keeps (X := fun _ => False) (keeps_of_ext x13) (fun _ _ _ h => h)
  have lI := I13.len
  have R13 := R.grow x0
  refine d95 R13 fun b h16 ow16 R16 S16 => ⟨_, rfl, ?_⟩
  rw [create_empty hs] at R16 ⊢
  refine vif_mk (fun g => by simp at g) (fun _ => ?_)
  have hown : ∀ (ow' : Roles) (h' : Heap), DStep ow h13 ow' h' → ∀ c, h.length ≤ c → c < h9.length → ow' c = none := fun ow' h' st c c1 c2 => by
    cases hc : ow' c with
    | none => rfl
    | some r =>
      exfalso
      rcases st.own c (by rw [hc]; simp) with h2 | h2
      · have := R.live c h2; omega
      · have := x13.len; omega
  have hXs : ∀ (ow' : Roles) (h' : Heap), DStep ow h13 ow' h' → ∀ c, h.length ≤ c → c < h9.length → ¬ dsk ow' c := fun ow' h' st c c1 c2 hc => hc (hown ow' h' st c c1 c2)
  refine ⟨fun xs h21 => ∃ (i : Nat) (ow21 : Roles), xs = [.int .i64 i] ∧ i ≤ S.length ∧ i ≤ lim ∧ DiskR h21 ow21 p (oneD ⟨b, s, S.take i, []⟩ (pendsOf b 0 (S.take i)) lim) ∧ DStep ow h13 ow21 h21 ∧ LlsB byE h21 q10 S h.length h9.length,
    fun xs _ => match xs with | [.int _ i] => (S.length - i).toNat | _ => 0, ⟨0, ow16, rfl, by omega, by omega, by simpa [mkF, pendsOf] using R16, S16, I13.keeps S16.keeps (fun c c1 c2 hc => by have := R.live c hc; omega)⟩, ?_⟩
  rintro n18 h21 ⟨i, ow21, hx, hi, hi2, R21, S21, I21⟩
  simp only [List.cons.injEq, AV.int.injEq, true_and, and_true] at hx
  subst hx
  have e1 : (⟨b, s, S.take i, []⟩ : FA).name = s := rfl
  have htl : (S.take i).length = i := by rw [List.length_take]; omega
  have hpl : (pendsOf b 0 (S.take i)).length ≤ 1000000 := by
    have : ∀ (l : List Bs) (j : Nat), (pendsOf b j l).length = l.length := by
      intro l
      induction l with
      | nil => intro j; rfl
      | cons x l ih => intro j; simp [pendsOf, ih]
    rw [this, htl]; omega
  refine vif_mk (fun g2 => ?_) (fun g2 => ?_)
  · replace g2 := of_decide_eq_true g2
    refine I21.idx (by omega) (by omega) fun p22 q23 x hx hc Hx hxb => ⟨q23, hc, ?_⟩
    have hx' : S[i]? = some x := by simpa using hx
    have hx64 := h64 x (List.mem_of_getElem? hx')
    refine d96 R21 Hx (fun t ht => hown ow21 h21 S21 _ (hxb t ht).1 (hxb t ht).2) hpl fun h25 ow25 R25 S25 => ⟨_, rfl, ?_⟩
    have ha := append_one (f := ⟨b, s, S.take i, []⟩) (ps := pendsOf b 0 (S.take i)) (lim := (lim : Int)) hx64
    rw [e1] at ha
    rw [ha] at R25 ⊢
    simp only [htl] at R25 ⊢
    by_cases hil : (lim : Int) ≤ (i : Int)
    · rw [if_pos hil] at R25 ⊢
      have hw : wrD b s S lim = (2, oneD ⟨b, s, S.take i, []⟩ (pendsOf b 0 (S.take i)) lim) := by
        unfold wrD
        have : i = lim := by omega
        subst this
        rw [if_neg (by omega)]
      refine vif_mk (fun _ => ?_) (fun g => by simp at g)
      have := h1 b h25 ow25
      rw [hw] at this
      exact this R25 ((DStep.ext x0).trans (S21.trans S25))
    · rw [if_neg hil] at R25 ⊢
      refine vif_mk (fun g => by simp at g) (fun _ => ?_)
      rw [wrapK_i64 ⟨by omega, by omega⟩]
      refine ⟨trivial, ⟨i + 1, ow25, by simp, by omega, by omega, ?_, S21.trans S25, I21.keeps S25.keeps (hXs ow21 h21 S21)⟩, by omega⟩
      have e2 : S.take (i + 1) = S.take i ++ [x] := by rw [List.take_add_one, hx']; rfl
      have e3 : pendsOf b 0 (S.take (i + 1)) = pendsOf b 0 (S.take i) ++ [(b, i, x)] := by rw [e2, pendsOf_snoc, htl, Nat.zero_add]
      rw [e3, e2]
      exact R25
  · replace g2 := of_decide_eq_false g2
    have : i = S.length := by omega
    subst this
    rw [List.take_length] at R21 hpl
    refine d97 R21 hpl fun h28 ow28 R28 S28 => ⟨_, rfl, ?_⟩
    have hsy := sync_one (f := ⟨b, s, S, []⟩) (ps := pendsOf b 0 S) (lim := (lim : Int))
    have e1 : (⟨b, s, S, []⟩ : FA).name = s := rfl
    rw [e1] at hsy
    rw [hsy] at R28 ⊢
    have hk : keepAll ⟨b, s, S, []⟩ (pendsOf b 0 S) = ⟨b, s, S, S⟩ := by
      have k1 := keepAll_pends (base := []) (l := S) (f := ⟨b, s, S, []⟩) rfl h64
      obtain ⟨k2, k3, k4⟩ := keepAll_b (f := ⟨b, s, S, []⟩) (pendsOf b 0 S)
      simp only [List.length_nil, List.nil_append] at k1
      cases hF : keepAll ⟨b, s, S, []⟩ (pendsOf b 0 S) with
      | mk b' n' now' safe' =>
        rw [hF] at k1 k2 k3 k4
        simp only at k1 k2 k3 k4
        rw [k1, k2, k3, k4]
    have hw : wrD b s S lim = (0, oneD ⟨b, s, S, S⟩ [] lim) := by unfold wrD; rw [if_pos hi2]
    rw [hk, notB_all] at R28
    have := h1 b h28 ow28
    rw [hw] at this
    exact this R28 ((DStep.ext x0).trans (S21.trans S28)))
end
end Go.Proofs.YtnglhicedhcpbaaGreatDoor

/- A segment's pages are read. -/
namespace Go.Proofs.YtnglhicedhcpbaaGreatDoor
open Go.Ab
open Go.Num hiding Bs snoc_ind
open Go.Ent Go.Seg
open Go.Page hiding Bs get
open Go.Dsk hiding Bs
set_option linter.unusedVariables false
set_option linter.unusedSimpArgs false
attribute [local irreducible] momErr recErr

/-- A file that lies there, its sectors as they are read. -/
structure Lies (D : DS) (s : Bs) (S : List Bs) : Prop where
  on : D.off = false
  is : ∃ f, D.find s = some f ∧ S = f.now.map pad
section
variable {h h' : Heap} {Q : AV → Heap → Prop} {ow : Roles} {dp : Nat} {D : DS} {s : Bs} {S : List Bs}
theorem k155 {base i : Nat} (L : Laid h) (R : DiskR h ow dp D) (Z : Lies D s S) (b1 : 1 ≤ base) (b2 : base + i ≤ maxTag) {x : Bs} (hx : S[i]? = some x) (hb : base ≤ 2305843009213693952) (hi : i ≤ 1000000)
    (h0 : Go.Page.get x (base + i) = none → ∀ h', Ext h h' → Q (.tup [.sl none, .int .i64 80]) h')
    (h1 : ∀ b q h', Go.Page.get x (base + i) = some b → Ext h h' → HasL byE h' q b → (∀ s, q = some s → h.length ≤ s.b) → Q (.tup [.sl q, .int .i64 0]) h') :
    AC Tryz.prog 155 [.agg [.ptr (some ⟨dp, 0⟩), .str s, .int .i64 (base : Nat)], .int .i64 (i : Nat)] h Q := ac155 (by
  unfold vc155
  obtain ⟨f, hf, rfl⟩ := Z.is
  have hx' : ∃ y, f.now[i]? = some y ∧ x = pad y := by
    rw [List.getElem?_map] at hx
    obtain ⟨y, h1, h2⟩ := Option.map_eq_some_iff.1 hx
    exact ⟨y, h1, h2.symm⟩
  obtain ⟨y, hy, rfl⟩ := hx'
  have hil := (List.getElem?_eq_some_iff.1 hy).1
  refine d56 R (fun v _ _ hn => ?_) fun f' y' q7 h6 _ hf' _ hy' x6 H7 f7 => ⟨_, _, rfl, vif_mk (fun g => by simp at g) (fun _ => ?_)⟩
  · exact absurd ⟨by omega, by omega⟩ (hn Z.on f hf)
  rw [hf] at hf'; cases hf'
  have : y' = y := by
    have : f.now[((i : Nat) : Int).toNat]? = some y' := hy'
    simp only [Int.toNat_natCast] at this
    rw [hy] at this; cases this; rfl
  subst this
  have e : wrapK .i64 (((base : Nat) : Int) + ((i : Nat) : Int)) = ((base + i : Nat) : Int) := by rw [wrapK_i64 ⟨by omega, by omega⟩]; omega
  rw [e]
  refine k223 (L.ext x6) H7 (by rw [pad_len]; omega) (by omega) b2 (fun hg e h10 he x10 => ⟨_, _, rfl, vif_mk (fun _ => h0 hg _ (x6.trans x10)) (fun g => absurd (by simpa using g) he)⟩) fun b q11 h10 hg x10 H11 f11 => ⟨_, _, rfl, vif_mk (fun g => by simp at g) (fun _ => ?_)⟩
  exact h1 _ _ _ hg (x6.trans x10) H11 fun t ht => by have := f11 t ht; have := x6.len; omega)
/-- The entries of a page. -/
theorem k84 {base i : Nat} (L : Laid h) (R : DiskR h ow dp D) (Z : Lies D s S) (b1 : 1 ≤ base) (b2 : base + i ≤ maxTag) (hil : i < S.length) (hb : base ≤ 2305843009213693952) (hi : i ≤ 1000000)
    (h0 : packAt S base i = none → ∀ h', Ext h h' → Q (.tup [.sl none, .int .i64 80]) h')
    (h1 : ∀ l q h', packAt S base i = some l → Ext h h' → Apd entE h' q l → (∀ s, q = some s → h.length ≤ s.b) → (∀ e ∈ l, entOk e = true) → l.length ≤ 43 → Q (.tup [.sl q, .int .i64 0]) h') :
    AC Tryz.prog 84 [.agg [.ptr (some ⟨dp, 0⟩), .str s, .int .i64 (base : Nat)], .int .i64 (i : Nat)] h Q := ac84 (by
  unfold vc84
  have hx : S[i]? = some S[i] := List.getElem?_eq_getElem hil
  have hp : packAt S base i = (Go.Page.get S[i] (base + i)).bind unpack := by unfold packAt; rw [hx]; rfl
  refine k155 L R Z b1 b2 hx hb hi (fun hg h' x' => ⟨_, _, rfl, vif_mk (fun _ => h0 (by rw [hp, hg]; rfl) _ x') (fun g => by simp at g)⟩) fun b q7 h6 hg x6 H7 f7 => ⟨_, _, rfl, vif_mk (fun g => by simp at g) (fun _ => ?_)⟩
  have hbl : b.length ≤ 43 := (get_some.1 hg).1
  refine k156 H7 (by omega) (fun hu e h10 he x10 => ⟨_, _, rfl, vif_mk (fun _ => h0 ?_ _ (x6.trans x10)) (fun g => absurd (by simpa using g) he)⟩) fun l q11 h10 _ hu x10 A11 f11 => ⟨_, _, rfl, vif_mk (fun g => by simp at g) (fun _ => ?_)⟩
  · rcases hu with hu | hu
    · omega
    · rw [hp, hg]; exact hu
  · obtain ⟨hb', hok⟩ := unpack_iff.1 hu
    refine h1 l _ _ (by rw [hp, hg]; exact hu) (x6.trans x10) A11 (fun t ht => by have := f11 t ht; have := x6.len; omega) hok ?_
    have h2 : ∀ l : List Ent, l.length ≤ (encL l).length := by
      intro l
      induction l with
      | nil => simp
      | cons a l ih => have := entB_pos (e := a); simp only [encL, List.flatMap_cons, List.length_append, List.length_cons] at *; omega
    have := h2 l
    rw [← hb'] at this; omega)
end
end Go.Proofs.YtnglhicedhcpbaaGreatDoor

/- A segment is opened. -/
namespace Go.Proofs.YtnglhicedhcpbaaGreatDoor
open Go.Ab
open Go.Num hiding Bs snoc_ind
open Go.Ent Go.Seg
open Go.Page hiding Bs get
open Go.Dsk hiding Bs
set_option linter.unusedVariables false
set_option linter.unusedSimpArgs false
attribute [local irreducible] momErr recErr

/-- A segment's cells. -/
abbrev segC (dp : Nat) (s : Bs) (base count : Nat) (qh : Option SL) : Blk := .cells [.ptr (some ⟨dp, 0⟩), .str s, .int .i64 (base : Nat), .int .i64 (count : Nat), .sl qh] true
section
variable {h h' : Heap} {Q : AV → Heap → Prop} {ow : Roles} {dp sp : Nat} {D : DS} {s : Bs} {S : List Bs} {base : Nat}
theorem seg_at {count : Nat} {qh : Option SL} (hs : h[sp]? = some (segC dp s base count qh)) {k : Nat} {x : AV} (hx : [AV.ptr (some ⟨dp, 0⟩), .str s, .int .i64 (base : Nat), .int .i64 (count : Nat), .sl qh][k]? = some x) : cellsAt h ⟨sp, 0 + k⟩ 1 = some [x] := by
  have hk := (List.getElem?_eq_some_iff.1 hx).1
  rw [cells6 hs (by simp at hk ⊢; omega)]
  congr 1
  have hd : [AV.ptr (some ⟨dp, 0⟩), .str s, .int .i64 (base : Nat), .int .i64 (count : Nat), .sl qh].drop k = x :: [AV.ptr (some ⟨dp, 0⟩), .str s, .int .i64 (base : Nat), .int .i64 (count : Nat), .sl qh].drop (k + 1) := by
    obtain ⟨_, rfl⟩ := List.getElem?_eq_some_iff.1 hx
    exact List.drop_eq_getElem_cons hk
  rw [hd]; rfl
theorem seg_src {count : Nat} {qh : Option SL} (hs : h[sp]? = some (segC dp s base count qh)) : cellsAt h ⟨sp, 0 + 0⟩ 3 = some [.ptr (some ⟨dp, 0⟩), .str s, .int .i64 (base : Nat)] := by
  rw [cells6 hs (by simp)]; rfl
theorem rdN_le {l b : Bs} {n : Nat} (h : rdN l = some (n, b)) : n < M63 := (numB_rdN h).2
/-- What stands at the end of what was read. -/
def endV : Option Bs → Int | none => 10 | some l => if l = [] then 0 else 10
theorem e160w {p : Nat} {o : Option Bs} (R : Rd h p o) (hQ : Q (.int .i64 (endV o)) h) : AC Tryz.prog 160 [.ptr (some ⟨p, 0⟩)] h Q := e160 R (by cases o <;> exact hQ)
/-- What three numbers and the end come to. -/
theorem k87 (L : Laid h) (R : DiskR h ow dp D) (Z : Lies D s S) (b1 : 1 ≤ base) (hb : base ≤ 2305843009213693952) (hS : S.length ≤ 100000) {qh : Option SL} (hs : h[sp]? = some (segC dp s base 0 qh))
    (h0 : lastS S base = none → ∀ h', Ext h h' → Q (.tup [.int .i64 0, .int .i64 0, .int .i64 80]) h')
    (h1 : ∀ c d x h1 h', lastS S base = some (c, d, x) → Ext h h1 → h' = h1.set sp (segC dp s base c qh) → Q (.tup [.int .i64 (d : Nat), .int .i64 (x : Nat), .int .i64 0]) h') :
    AC Tryz.prog 87 [.ptr (some ⟨sp, 0⟩), .int .i64 (S.length : Nat)] h Q := ac87 (by
  unfold vc87
  refine vif_mk (fun g => ?_) (fun g => ?_)
  · have g : S.length = 0 := by simpa using g
    exact h0 (by unfold lastS; rw [if_pos (List.eq_nil_of_length_eq_zero g)]) _ (.refl _)
  have g : S.length ≠ 0 := by simpa using g
  have hne : S ≠ [] := fun h => g (by rw [h]; rfl)
  have hx : S[S.length - 1]? = some (S[S.length - 1]'(by omega)) := List.getElem?_eq_getElem _
  generalize S[S.length - 1]'(by omega) = x at hx
  have hlast : ∀ b, Go.Page.get x (base + (S.length - 1)) = some b → lastS S base = (rd3 b).bind fun r => if r.2.1 + r.2.2 + 1 = S.length then some r else none := fun b hg => by
    unfold lastS; rw [if_neg hne, hx, Option.bind_some, hg]; rfl
  refine ⟨_, _, _, seg_src hs, ?_⟩
  have e1 : wrapK .i64 (((S.length : Nat) : Int) - 1) = ((S.length - 1 : Nat) : Int) := by rw [wrapK_i64 ⟨by omega, by omega⟩]; omega
  rw [e1]
  refine k155 L R Z b1 (by simp only [maxTag]; omega) hx hb (by omega) (fun hg h' x' => ⟨_, _, rfl, vif_mk (fun _ => h0 ?_ _ x') (fun g => by simp at g)⟩) fun b q9 h8 hg x8 H9 f9 => ⟨_, _, rfl, vif_mk (fun g => by simp at g) (fun _ => ?_)⟩
  · unfold lastS; rw [if_neg hne, hx, Option.bind_some, hg]; rfl
  have hl := hlast b hg
  have hbl : b.length ≤ 43 := (get_some.1 hg).1
  refine e158 H9 (by omega) fun p h12 x12 hp Rd0 => ⟨_, rfl, ?_⟩
  have bd0 : Bd (some b) := fun l hl => by cases hl; omega
  refine e159 Rd0 bd0 fun h15 F15 R15 => ⟨_, rfl, ?_⟩
  refine e159 R15 bd0.nm fun h18 F18 R18 => ⟨_, rfl, ?_⟩
  refine e159 R18 bd0.nm.nm fun h21 F21 R21 => ⟨_, rfl, ?_⟩
  have x21 : Ext h h21 := by
    have := ((F15.trans F18).trans F21).ext x12 hp
    exact x8.trans this
  refine e160w R21 ⟨_, rfl, ?_⟩
  have no : ∀ {h'}, Ext h h' → rd3 b = none → Q (.tup [.int .i64 0, .int .i64 0, .int .i64 80]) h' := fun hx' hr => h0 (by rw [hl, hr]; rfl) _ hx'
  have h1' : nm (some b) = rdN b := rfl
  cases n1 : rdN b with
  | none =>
    have o3 : stO (nm (stO (nm (stO (nm (some b)))))) = none := by rw [h1', n1]; rfl
    rw [o3]
    exact vif_mk (fun _ => no x21 (by unfold rd3; rw [n1])) (fun g => by simp [endV] at g)
  | some r1 =>
    obtain ⟨c, l1⟩ := r1
    have v1 : valN (nm (some b)) = c := by rw [h1', n1]; rfl
    have s1 : stO (nm (some b)) = some l1 := by rw [h1', n1]; rfl
    rw [s1, v1]
    have h2' : nm (some l1) = rdN l1 := rfl
    cases n2 : rdN l1 with
    | none =>
      have o3 : stO (nm (stO (nm (some l1)))) = none := by rw [h2', n2]; rfl
      rw [o3]
      exact vif_mk (fun _ => no x21 (by unfold rd3; rw [n1]; simp only; rw [n2])) (fun g => by simp [endV] at g)
    | some r2 =>
      obtain ⟨d, l2⟩ := r2
      have v2 : valN (nm (some l1)) = d := by rw [h2', n2]; rfl
      have s2 : stO (nm (some l1)) = some l2 := by rw [h2', n2]; rfl
      rw [s2, v2]
      have h3' : nm (some l2) = rdN l2 := rfl
      cases n3 : rdN l2 with
      | none =>
        have o3 : stO (nm (some l2)) = none := by rw [h3', n3]; rfl
        rw [o3]
        exact vif_mk (fun _ => no x21 (by unfold rd3; rw [n1]; simp only; rw [n2]; simp only; rw [n3])) (fun g => by simp [endV] at g)
      | some r3 =>
        obtain ⟨z, l3⟩ := r3
        have v3 : valN (nm (some l2)) = z := by rw [h3', n3]; rfl
        have s3 : stO (nm (some l2)) = some l3 := by rw [h3', n3]; rfl
        rw [s3, v3]
        have c1 := rdN_le n1
        have c2 := rdN_le n2
        have c3 := rdN_le n3
        simp only [M63] at c1 c2 c3
        by_cases hl3 : l3 = []
        · have hr : rd3 b = some (c, d, z) := by unfold rd3; rw [n1]; simp only; rw [n2]; simp only; rw [n3]; simp only; rw [if_pos hl3]
          rw [hr] at hl
          simp only [Option.bind_some] at hl
          have bad : d + z + 1 ≠ S.length → ∀ h', Ext h h' → Q (.tup [.int .i64 0, .int .i64 0, .int .i64 80]) h' := fun hne h' hx' => h0 (by rw [hl, if_neg hne]) _ hx'
          refine vif_mk (fun g => by simp [endV, hl3] at g) (fun _ => ?_)
          refine vif_mk (fun g => ?_) (fun g2 => ?_)
          · have := of_decide_eq_true g
            exact bad (by omega) _ x21
          replace g2 := of_decide_eq_false g2
          refine vif_mk (fun g => ?_) (fun g3 => ?_)
          · have := of_decide_eq_true g
            exact bad (by omega) _ x21
          replace g3 := of_decide_eq_false g3
          rw [wrapK_i64 (n := ((d : Nat) : Int) + ((z : Nat) : Int)) ⟨by omega, by omega⟩, wrapK_i64 ⟨by omega, by omega⟩]
          refine vif_mk (fun g => ?_) (fun g4 => ?_)
          · have : d + z + 1 ≠ S.length := by intro he; rw [bne_iff_ne] at g; omega
            exact bad this _ x21
          have g4 : d + z + 1 = S.length := by rw [bne_eq_false_iff_eq] at g4; omega
          have hs21 := x21 _ _ hs
          refine store6v (o := 3) hs21 (by simp) ?_
          refine h1 c d z h21 _ (by rw [hl, if_pos g4]) x21 ?_
          rfl
        · have hr : rd3 b = none := by unfold rd3; rw [n1]; simp only; rw [n2]; simp only; rw [n3]; simp only; rw [if_neg hl3]
          exact vif_mk (fun _ => no x21 hr) (fun g => by simp [endV, hl3] at g))
end
end Go.Proofs.YtnglhicedhcpbaaGreatDoor

/- A segment's index: are the packs as full as they may be? -/
namespace Go.Proofs.YtnglhicedhcpbaaGreatDoor
open Go.Ab
open Go.Num hiding Bs snoc_ind
open Go.Ent Go.Seg
open Go.Page hiding Bs get
open Go.Dsk hiding Bs
set_option linter.unusedVariables false
set_option linter.unusedSimpArgs false
attribute [local irreducible] momErr recErr

section
variable {h h' : Heap} {Q : AV → Heap → Prop}
/-- The sizes of lists. -/
abbrev lensZ (gs : Gs) : List Int := gs.map fun g => ((g.length : Nat) : Int)
theorem k161 {q q2 : Option SL} {l : List Ent} {gs : Gs} (H : HasL entE h q l) (hl : l.length ≤ 16384) (hok : ∀ e ∈ l, entOk e = true) (H2 : HasL intE h q2 (lensZ gs)) (hg : l = gs.flatten)
    (hQ : ∀ h', Ext h h' → Q (.bool (decide (packG l = gs))) h') : AC Tryz.prog 161 [.sl q, .sl q2] h Q := ac161 (by
  unfold vc161
  have hno : packG l ≠ gs → ∀ h', Ext h h' → Q (.bool false) h' := fun hne h' x => by
    have := hQ h' x
    rwa [decide_eq_false hne] at this
  have hyes : packG l = gs → ∀ h', Ext h h' → Q (.bool true) h' := fun he h' x => by
    have := hQ h' x
    rwa [decide_eq_true he] at this
  have hm : mayE l = 0 := mayE_ok.2 ⟨hok, hl⟩
  refine k165 H (by omega) (fun hne => absurd hm hne) fun _ q5 qs h4 LLx => ⟨_, _, rfl, vif_mk (fun g => by simp at g) (fun _ => ?_)⟩
  have x4 : Ext h h4 := LLx.ext
  have I := LL.llsB LLx
  have hpl : (packG l).length ≤ l.length := packG_len hok
  have hl5 : slLen q5 = (packG l).length := by rw [I.len, encP, List.length_map]
  have hl2 : slLen q2 = gs.length := by rw [H2.len, lensZ, List.length_map]
  rw [hl5, hl2]
  refine vif_mk (fun g => hno (fun he => by rw [he] at g; simp at g) _ x4) (fun g => ?_)
  have hlen : (packG l).length = gs.length := by
    rw [bne_eq_false_iff_eq] at g
    omega
  refine ⟨fun xs h10 => ∃ i : Nat, xs = [.int .i64 i] ∧ i ≤ gs.length ∧ Ext h4 h10 ∧ ∀ j, j < i → ((packG l)[j]?).map List.length = (gs[j]?).map List.length, fun xs _ => match xs with | [.int _ i] => (gs.length - i).toNat | _ => 0, ⟨0, rfl, by omega, .refl _, fun j hj => by omega⟩, ?_⟩
  rintro n7 h10 ⟨i, hxs, hi, x10, hsame⟩
  simp only [List.cons.injEq, AV.int.injEq, true_and, and_true] at hxs
  subst hxs
  refine vif_mk (fun g => ?_) (fun g => ?_)
  · have hin : i < gs.length := by have := of_decide_eq_true g; omega
    have I10 : LlsB byE h10 q5 (encP (packG l)) h.length h4.length := I.keeps (X := fun _ => False) (keeps_of_ext x10) (fun _ _ _ h => h)
    refine I10.idx (by omega) (by simp only [encP, List.length_map]; omega) fun p s b hb hc Hb _ => ⟨_, hc, ?_⟩
    rw [Int.toNat_natCast] at hb
    simp only [encP, List.getElem?_map, Option.map_eq_some_iff] at hb
    obtain ⟨gp, hgp, rfl⟩ := hb
    have hgm : gp ∈ packG l := List.mem_of_getElem? hgp
    obtain ⟨hne, hfit⟩ := packG_fit hok gp hgm
    have hu : unpack (encL gp) = some gp := unpack_enc (packG_ok hok gp hgm)
    refine k156 Hb (by omega) (fun hbad => absurd hbad (by rw [hu]; simp; omega)) fun l' q15 h14 _ hl' x14 A15 _ => ⟨_, _, rfl, ?_⟩
    obtain rfl : l' = gp := by rw [hu] at hl'; exact (Option.some.inj hl').symm
    have hg2 : gs[i]? = some (gs[i]'hin) := List.getElem?_eq_getElem hin
    refine HasL.idx (E := intE) (H2.mono (x4.trans (x10.trans x14))) (by omega) (by simp; omega) fun p z hz hc => ?_
    rw [Int.toNat_natCast, lensZ, List.getElem?_map, hg2] at hz
    cases hz
    refine ⟨_, hc, ?_⟩
    rw [A15.hasL.len]
    refine vif_mk (fun g3 => hno (fun he => ?_) _ (x4.trans (x10.trans x14))) (fun g3 => ?_)
    · rw [he, hg2] at hgp
      cases hgp
      simp at g3
    · have e1 : wrapK .i64 (((i : Nat) : Int) + 1) = ((i + 1 : Nat) : Int) := by rw [wrapK_i64 ⟨by omega, by omega⟩]; omega
      rw [e1]
      refine ⟨trivial, ⟨i + 1, rfl, by omega, x10.trans x14, fun j hj => ?_⟩, ?_⟩
      · by_cases hji : j = i
        · subst hji
          rw [hgp, hg2]
          have : l'.length = (gs[j]'hin).length := by
            rw [bne_eq_false_iff_eq] at g3
            have g4 : ((l'.length : Nat) : Int) = (((gs[j]'hin).length : Nat) : Int) := g3
            omega
          simp only [Option.map_some, this]
        · exact hsame j (by omega)
      · simp only
        omega
  · have hin : ¬ i < gs.length := by have := of_decide_eq_false g; omega
    refine hyes (flat_sizes (by rw [packG_flat]; exact hg) (List.ext_getElem? fun j => ?_)) _ (x4.trans x10)
    rw [List.getElem?_map, List.getElem?_map]
    by_cases hj : j < i
    · exact hsame j hj
    · rw [List.getElem?_eq_none (by omega), List.getElem?_eq_none (by omega)])
end
end Go.Proofs.YtnglhicedhcpbaaGreatDoor

/- A segment's index is read. -/
namespace Go.Proofs.YtnglhicedhcpbaaGreatDoor
open Go.Ab
open Go.Num hiding Bs snoc_ind
open Go.Ent Go.Seg
open Go.Page hiding Bs get
open Go.Dsk hiding Bs
set_option linter.unusedVariables false
set_option linter.unusedSimpArgs false
attribute [local irreducible] momErr recErr

/-- What changes: the segment's own block, and what is new. -/
abbrev segX (h : Heap) (sp : Nat) : Nat → Prop := fun b => b = sp ∨ h.length ≤ b
/-- The index as far as it is read. -/
structure IxI (h : Heap) (S : List Bs) (base data count dp sp : Nat) (s : Bs) (h8 : Heap) (q4 : Option SL) (i : Nat) (gs : Gs) (q : Option SL) : Prop where
  pk : packsFrom S base data i = some gs
  len : gs.length = i
  kp : Keeps (segX h sp) h h8
  hl : h.length ≤ h8.length
  at' : h8[sp]? = some (segC dp s base count q)
  hd : Apd entE h8 q gs.flatten
  hq : ∀ t, q = some t → h.length ≤ t.b
  sz : Apd intE h8 q4 (lensZ gs)
  sq : ∀ t, q4 = some t → h.length ≤ t.b
  dj : ∀ t u, q = some t → q4 = some u → t.b ≠ u.b
  ok : ∀ e ∈ gs.flatten, entOk e = true
  fl : gs.flatten.length ≤ 43 * i
section
variable {h : Heap} {Q : AV → Heap → Prop} {ow : Roles} {dp sp : Nat} {D : DS} {s : Bs} {S : List Bs} {base : Nat}
theorem segX_disk (R : DiskR h ow dp D) (hsp : ow sp = none) {h8 : Heap} (K : Keeps (segX h sp) h h8) (hl : h.length ≤ h8.length) : DiskR h8 ow dp D := by
  refine R.ext (fun b B hb hB => K b B (fun hx => ?_) hB) hl
  rcases hx with rfl | hx
  · exact hb hsp
  · have := R.live b hb; omega
theorem segX_laid (L : Laid h) (h2 : 2 ≤ sp) {h8 : Heap} (K : Keeps (segX h sp) h h8) : Laid h8 := by
  have := L.len
  exact L.keeps K (fun hx => by rcases hx with hx | hx <;> omega) (fun hx => by rcases hx with hx | hx <;> omega)
theorem k88 {data index count : Nat} (L : Laid h) (R : DiskR h ow dp D) (Z : Lies D s S) (b1 : 1 ≤ base) (hb : base ≤ 2305843009213693952) (hS : S.length ≤ 16384) (hdi : data + index + 1 = S.length)
    (hs : h[sp]? = some (segC dp s base count none)) (hsp : ow sp = none) (h2 : 2 ≤ sp)
    (h0 : (∀ gs, packsFrom S base data index = some gs → ¬ (gs.flatten.length = data ∧ SortedL gs.flatten ∧ packG gs.flatten = gs)) → ∀ h', Keeps (segX h sp) h h' → h.length ≤ h'.length → Q (.int .i64 80) h')
    (h1 : ∀ gs q h', packsFrom S base data index = some gs → gs.flatten.length = data → SortedL gs.flatten → packG gs.flatten = gs → Keeps (segX h sp) h h' → h.length ≤ h'.length → h'[sp]? = some (segC dp s base count q) → Apd entE h' q gs.flatten →
      (∀ t, q = some t → h.length ≤ t.b) → (∀ e ∈ gs.flatten, entOk e = true) → Q (.int .i64 0) h') :
    AC Tryz.prog 88 [.ptr (some ⟨sp, 0⟩), .int .i64 (data : Nat), .int .i64 (index : Nat)] h Q := ac88 (by
  unfold vc88 PNew
  have hspl := lt_of_get hs
  refine ⟨fun xs h8 => ∃ (q4 : Option SL) (i : Nat) (gs : Gs) (q : Option SL), xs = [.sl q4, .int .i64 ((data + i : Nat) : Int)] ∧ i ≤ index ∧ IxI h S base data count dp sp s h8 q4 i gs q, fun xs _ => match xs with | [_, .int _ n] => ((data + index : Nat) - n).toNat | _ => 0,
    ⟨none, 0, [], none, rfl, by omega, rfl, rfl, .refl _ _, Nat.le_refl _, hs, .inl ⟨rfl, rfl⟩, (by intro t h; cases h), .inl ⟨rfl, rfl⟩, (by intro t h; cases h), (by intro t u h; cases h), by simp, by simp⟩, ?_⟩
  rintro q4 n5 h8 ⟨q4', i, gs, q, hxs, hi, I⟩
  simp only [List.cons.injEq, AV.int.injEq, AV.sl.injEq, true_and, and_true] at hxs
  obtain ⟨rfl, rfl⟩ := hxs
  have e0 : wrapK .i64 (((data : Nat) : Int) + ((index : Nat) : Int)) = ((data + index : Nat) : Int) := by rw [wrapK_i64 ⟨by omega, by omega⟩]; omega
  rw [e0]
  refine vif_mk (fun g => ?_) (fun g => ?_)
  · have hin : i < index := by have := of_decide_eq_true g; omega
    refine ⟨_, _, _, seg_src I.at', ?_⟩
    have R8 := segX_disk R hsp I.kp I.hl
    have L8 := segX_laid L h2 I.kp
    refine k84 L8 R8 Z b1 (by simp only [maxTag]; omega) (by omega) hb (by omega) (fun hn h14 x14 => ⟨_, _, rfl, vif_mk (fun _ => h0 (fun gs' hgs' => ?_) _ (I.kp.trans (keeps_of_ext x14)) (by have := x14.len; have := I.hl; omega)) (fun g => by simp at g)⟩)
      fun l q15 h14 hl x14 A15 f15 hok hll => ⟨_, _, rfl, vif_mk (fun g => by simp at g) (fun _ => ?_)⟩
    · rw [packsFrom_none hin hn] at hgs'; cases hgs'
    have at14 := x14 _ _ I.at'
    have hd14 := I.hd.ext x14
    have sz14 := I.sz.ext x14
    have l8 := I.hl
    have l14 := x14.len
    refine ⟨q, seg_at at14 (k := 4) rfl, ?_⟩
    refine Apd.append (E := entE) (by' := 32) hd14 A15.hasL (by have := I.fl; omega) fun q19 h20 A20 K20 l20 f20 => ?_
    have hnsp : ∀ t : SL, q = some t → t.b ≠ sp := fun t ht he => by have := I.hq t ht; omega
    have at20 : h20[sp]? = some (segC dp s base count q) := K20 _ _ (fun ⟨t, ht, he⟩ => hnsp t ht he) at14
    have sz20 : Apd intE h20 q4 (lensZ gs) := sz14.keeps K20 fun u hu ⟨t, ht, he⟩ => I.dj t u ht hu he
    have hq19 : ∀ t, q19 = some t → h.length ≤ t.b ∧ ∀ u, q4 = some u → t.b ≠ u.b := fun t ht => by
      rcases f20 t ht with hf | ⟨t', ht', he⟩
      · exact ⟨by omega, fun u hu he => by
          have := HasL.live sz14.hasL u hu
          omega⟩
      · exact ⟨by have := I.hq t' ht'; omega, fun u hu => by rw [← he]; exact I.dj t' u ht' hu⟩
    refine store6v (o := 4) at20 (by simp) ?_
    have hset : (splice [AV.ptr (some ⟨dp, 0⟩), .str s, .int .i64 (base : Nat), .int .i64 (count : Nat), .sl q] 4 [.sl q19]) = [AV.ptr (some ⟨dp, 0⟩), .str s, .int .i64 (base : Nat), .int .i64 (count : Nat), .sl q19] := rfl
    rw [hset]
    generalize hh22 : h20.set sp (.cells [AV.ptr (some ⟨dp, 0⟩), .str s, .int .i64 (base : Nat), .int .i64 (count : Nat), .sl q19] true) = h22
    have K22 : Keeps (fun b => b = sp) h20 h22 := by rw [← hh22]; exact keeps_set rfl
    have l22 : h22.length = h20.length := by rw [← hh22, List.length_set]
    have at22 : h22[sp]? = some (segC dp s base count q19) := by rw [← hh22, List.getElem?_set, if_pos rfl, if_pos (lt_of_get at20)]
    have A22 : Apd entE h22 q19 (gs.flatten ++ l) := A20.keeps K22 fun t ht he => by have := (hq19 t ht).1; omega
    have sz22 : Apd intE h22 q4 (lensZ gs) := sz20.keeps K22 fun u hu he => by have := I.sq u hu; omega
    rw [A15.hasL.len]
    have H24 := HasL.new (E := intE) (h := h22) (l := [((l.length : Nat) : Int)]) (n := 1) rfl (c := [.int .i64 ((l.length : Nat) : Int)]) rfl
    have x24 : Ext h22 (h22 ++ [.cells [.int .i64 ((l.length : Nat) : Int)] true]) := .app _ _
    refine Apd.append (E := intE) (by' := 8) (sz22.ext x24) H24 (by have := I.len; simp; omega) fun q25 h26 A26 K26 l26 f26 => ?_
    have l24 := x24.len
    have e1 : wrapK .i64 (((data + i : Nat) : Int) + 1) = ((data + (i + 1) : Nat) : Int) := by rw [wrapK_i64 ⟨by omega, by omega⟩]; omega
    rw [e1]
    have hfl : (gs ++ [l]).flatten = gs.flatten ++ l := by simp
    refine ⟨trivial, ⟨q25, i + 1, gs ++ [l], q19, rfl, by omega, packsFrom_snoc I.pk hl, by simp [I.len], ?_, by omega, ?_, ?_, fun t ht => (hq19 t ht).1, ?_, fun t ht => ?_, fun t u ht hu => ?_, ?_, ?_⟩, ?_⟩
    · refine I.kp.trans ?_
      intro b B hx hB
      have hx1 : ¬ b = sp := fun h => hx (.inl h)
      have hx2 : b < h.length := by rcases Nat.lt_or_ge b h.length with h | h; exact h; exact absurd (.inr h) hx
      refine K26 _ _ (fun ⟨u, hu, he⟩ => by have := I.sq u hu; omega) (x24 _ _ (K22 _ _ hx1 (K20 _ _ (fun ⟨t, ht, he⟩ => by have := I.hq t ht; omega) (x14 _ _ hB))))
    · exact K26 _ _ (fun ⟨u, hu, he⟩ => by have := I.sq u hu; omega) (x24 _ _ at22)
    · rw [hfl]
      exact (A22.ext x24).keeps K26 fun t ht ⟨u, hu, he⟩ => (hq19 t ht).2 u hu he.symm
    · have : lensZ (gs ++ [l]) = lensZ gs ++ [((l.length : Nat) : Int)] := by simp [lensZ]
      rw [this]; exact A26
    · rcases f26 t ht with hf | ⟨u, hu, he⟩
      · omega
      · have := I.sq u hu; omega
    · rcases f26 u hu with hf | ⟨u', hu', he⟩
      · have := HasL.live A22.hasL t ht; omega
      · rw [← he]; exact (hq19 t ht).2 u' hu'
    · rw [hfl]; intro e he
      rcases List.mem_append.1 he with he | he
      · exact I.ok e he
      · exact hok e he
    · rw [hfl, List.length_append]; have := I.fl; omega
    · simp only; omega
  · have hin : i = index := by have := of_decide_eq_false g; omega
    subst hin
    have bad : ¬ (gs.flatten.length = data ∧ SortedL gs.flatten ∧ packG gs.flatten = gs) → ∀ h', Ext h8 h' → Q (.int .i64 80) h' := fun hn h' x => h0 (fun gs' hgs' => by
      rw [I.pk] at hgs'; cases hgs'; exact hn) _ (I.kp.trans (keeps_of_ext x)) (by have := x.len; have := I.hl; omega)
    refine ⟨q, seg_at I.at' (k := 4) rfl, ?_⟩
    rw [I.hd.hasL.len]
    refine vif_mk (fun g => bad (fun ⟨hh, _⟩ => by rw [hh] at g; simp at g) _ (.refl _)) (fun g => ?_)
    have hlen : gs.flatten.length = data := by rw [bne_eq_false_iff_eq] at g; omega
    refine ⟨q, seg_at I.at' (k := 4) rfl, ?_⟩
    refine z85 I.hd.hasL (by omega) fun h32 x32 => ⟨_, rfl, ?_⟩
    refine vif_mk (fun g => bad (fun ⟨_, hh, _⟩ => by simp [hh] at g) _ x32) (fun g => ?_)
    have hso : SortedL gs.flatten := by simpa using g
    refine ⟨q, seg_at (x32 _ _ I.at') (k := 4) rfl, ?_⟩
    refine k161 (gs := gs) (I.hd.ext x32).hasL (by omega) I.ok (I.sz.ext x32).hasL rfl fun h37 x37 => ⟨_, rfl, ?_⟩
    refine vif_mk (fun g => bad (fun ⟨_, _, hh⟩ => by simp [hh] at g) _ (x32.trans x37)) (fun g => ?_)
    have hpk : packG gs.flatten = gs := by simpa using g
    have x := x32.trans x37
    exact h1 gs q h37 I.pk hlen hso hpk (I.kp.trans (keeps_of_ext x)) (by have := x.len; have := I.hl; omega) (x _ _ I.at') (I.hd.ext x) I.hq I.ok)
end
end Go.Proofs.YtnglhicedhcpbaaGreatDoor

/- A segment is opened. -/
namespace Go.Proofs.YtnglhicedhcpbaaGreatDoor
open Go.Ab
open Go.Num hiding Bs snoc_ind
open Go.Ent Go.Seg
open Go.Page hiding Bs get
open Go.Dsk hiding Bs
set_option linter.unusedVariables false
set_option linter.unusedSimpArgs false
attribute [local irreducible] momErr recErr

section
variable {h : Heap} {Q : AV → Heap → Prop} {ow : Roles} {dp : Nat} {D : DS} {s : Bs} {S : List Bs} {base : Nat}
/-- A segment that is open: its block, its entries' first ones. -/
structure SegO (h h' : Heap) (dp sp : Nat) (s : Bs) (base count : Nat) (heads : List Ent) (q : Option SL) : Prop where
  keep : Ext h h'
  new : h.length ≤ sp
  at' : h'[sp]? = some (segC dp s base count q)
  hd : Apd entE h' q heads
  hq : ∀ t, q = some t → h.length ≤ t.b
  ok : ∀ e ∈ heads, entOk e = true
theorem k18 (L : Laid h) (R : DiskR h ow dp D) (Z : Lies D s S) (b1 : 1 ≤ base) (hb : base ≤ 2305843009213693952) (hS : S.length ≤ 16384)
    (h0 : openS S base = none → ∀ h', Ext h h' → Q (.tup [.ptr none, .int .i64 80]) h')
    (h1 : ∀ c heads sp q h', openS S base = some (c, heads) → SegO h h' dp sp s base c heads q → Q (.tup [.ptr (some ⟨sp, 0⟩), .int .i64 0]) h') :
    AC Tryz.prog 18 [.ptr (some ⟨dp, 0⟩), .str s, .int .i64 (base : Nat)] h Q := ac18 (by
  unfold vc18 PNew
  have hbo : baseOk (base : Int) = true := decide_eq_true ⟨by omega, by omega⟩
  refine k86 ⟨_, rfl, ?_⟩
  rw [hbo]
  refine vif_mk (fun g => by simp at g) (fun _ => ?_)
  obtain ⟨f0, hf0, hS0⟩ := Z.is
  have hsl : f0.now.length = S.length := by rw [hS0, List.length_map]
  refine d64 R (fun hn => by rw [hf0] at hn; cases hn) fun f hf => ⟨_, _, rfl, vif_mk (fun g => by simp at g) (fun _ => ?_)⟩
  obtain rfl : f = f0 := by rw [hf0] at hf; exact (Option.some.inj hf).symm
  rw [hsl]
  have x12 : Ext h (h ++ [segC dp s base 0 none]) := .app _ _
  have hs : (h ++ [segC dp s base 0 none])[h.length]? = some (segC dp s base 0 none) := by simp
  have hl2 := L.len
  have hnone : ow h.length = none := by
    cases ho : ow h.length with
    | none => rfl
    | some r => have := R.live h.length (by rw [ho]; simp); omega
  refine k87 (L.ext x12) (R.grow x12) Z b1 hb (by omega) hs (fun hn h' x' => ⟨_, _, _, rfl, vif_mk (fun g => by simp at g) (fun _ => vif_mk (fun _ => h0 (by unfold openS; rw [hn]; rfl) _ (x12.trans x')) (fun g => by simp at g))⟩) ?_
  intro c d x hh1 h14 hlast x1 he14
  refine ⟨_, _, _, rfl, vif_mk (fun _ => ?_) (fun g => by simp at g)⟩
  have hl1 : h.length + 1 ≤ hh1.length := by
    have := x1.len
    rw [List.length_append] at this
    exact this
  have K14 : Ext h h14 := by
    intro b B hB
    have hbl := lt_of_get hB
    rw [he14, List.getElem?_set, if_neg (by omega)]
    exact x1 _ _ (x12 _ _ hB)
  have l14 : h14.length = hh1.length := by rw [he14, List.length_set]
  have at14 : h14[h.length]? = some (segC dp s base c none) := by rw [he14, List.getElem?_set, if_pos rfl, if_pos (by omega)]
  have hdx : d + x + 1 = S.length := by
    unfold lastS at hlast
    split at hlast
    · cases hlast
    · obtain ⟨r, _, hr⟩ := Option.bind_eq_some_iff.1 hlast
      split at hr
      · rename_i hr2; cases hr; exact hr2
      · cases hr
  have hop : openS S base = (packsFrom S base d x).bind fun gs => if gs.flatten.length = d ∧ SortedL gs.flatten ∧ packG gs.flatten = gs then some (c, gs.flatten) else none := by unfold openS; rw [hlast]; rfl
  have ext : ∀ {h'}, Keeps (segX h14 h.length) h14 h' → Ext h h' := fun K b B hB => by
    have hbl := lt_of_get hB
    exact K _ _ (fun hx => by rcases hx with hx | hx <;> omega) (K14 _ _ hB)
  refine k88 (L.ext K14) (R.grow K14) Z b1 hb hS hdx at14 hnone hl2 (fun hno h' K l' => ⟨_, rfl, vif_mk (fun _ => h0 ?_ _ (ext K)) (fun g => by simp at g)⟩)
    fun gs q h' hpk hg1 hg2 hg3 K l' at' hd hq hok => ⟨_, rfl, vif_mk (fun g => by simp at g) (fun _ => h1 c gs.flatten h.length q h' ?_ ⟨ext K, Nat.le_refl _, at', hd, fun t ht => by have := hq t ht; omega, hok⟩)⟩
  · rw [hop]
    cases hp : packsFrom S base d x with
    | none => rfl
    | some gs => simp only [Option.bind_some]; rw [if_neg (hno gs hp)]
  · rw [hop, hpk, Option.bind_some, if_pos ⟨hg1, hg2, hg3⟩])
end
end Go.Proofs.YtnglhicedhcpbaaGreatDoor

/- What an open segment tells of itself. -/
namespace Go.Proofs.YtnglhicedhcpbaaGreatDoor
open Go.Ab
open Go.Num hiding Bs snoc_ind
open Go.Ent Go.Seg
open Go.Page hiding Bs get
open Go.Dsk hiding Bs
set_option linter.unusedVariables false
set_option linter.unusedSimpArgs false
section
variable {h : Heap} {Q : AV → Heap → Prop} {dp sp : Nat} {s : Bs} {base count : Nat} {q : Option SL} {heads : List Ent}
theorem k21 (hs : h[sp]? = some (segC dp s base count q)) (hQ : Q (.int .i64 (count : Nat)) h) : AC Tryz.prog 21 [.ptr (some ⟨sp, 0⟩)] h Q := ac21 (by
  unfold vc21
  exact vif_mk (fun g => by simp at g) (fun _ => ⟨_, seg_at hs (k := 3) rfl, hQ⟩))
theorem k22 (hs : h[sp]? = some (segC dp s base count q)) (H : HasL entE h q heads) (hQ : Q (.int .i64 (heads.length : Nat)) h) : AC Tryz.prog 22 [.ptr (some ⟨sp, 0⟩)] h Q := ac22 (by
  unfold vc22
  refine vif_mk (fun g => by simp at g) (fun _ => ⟨_, seg_at hs (k := 4) rfl, ?_⟩)
  rw [H.len]; exact hQ)
end
end Go.Proofs.YtnglhicedhcpbaaGreatDoor

/- A segment's page: its first entry. -/
namespace Go.Proofs.YtnglhicedhcpbaaGreatDoor
open Go.Ab
open Go.Num hiding Bs snoc_ind
open Go.Ent Go.Seg
open Go.Page hiding Bs get
open Go.Dsk hiding Bs
set_option linter.unusedVariables false
set_option linter.unusedSimpArgs false
section
variable {h : Heap} {Q : AV → Heap → Prop} {dp sp : Nat} {s : Bs} {base count : Nat} {q : Option SL} {heads : List Ent}
theorem k15 {n : Int} (hs : h[sp]? = some (segC dp s base count q)) (H : HasL entE h q heads)
    (h0 : ¬ (0 ≤ n ∧ n < heads.length) → Q (.tup [entV (0, 0, 0, 0), .bool false]) h)
    (h1 : ∀ e, 0 ≤ n → heads[n.toNat]? = some e → Q (.tup [entV e, .bool true]) h) : AC Tryz.prog 15 [.ptr (some ⟨sp, 0⟩), .int .i64 n] h Q := ac15 (by
  unfold vc15
  refine vif_mk (fun g => h0 (by have := of_decide_eq_true g; omega)) (fun g => ?_)
  have hn := of_decide_eq_false g
  refine k22 hs H ⟨_, rfl, ?_⟩
  refine vif_mk (fun g => h0 (by have := of_decide_eq_true g; omega)) (fun g2 => ?_)
  have hn2 := of_decide_eq_false g2
  refine ⟨_, seg_at hs (k := 4) rfl, ?_⟩
  refine HasL.idx (E := entE) H (by omega) (by omega) fun p e he hc => ?_
  exact ⟨_, _, _, _, hc, h1 e (by omega) he⟩)
end
end Go.Proofs.YtnglhicedhcpbaaGreatDoor

/- A segment's page. -/
namespace Go.Proofs.YtnglhicedhcpbaaGreatDoor
open Go.Ab
open Go.Num hiding Bs snoc_ind
open Go.Ent Go.Seg
open Go.Page hiding Bs get
open Go.Dsk hiding Bs
set_option linter.unusedVariables false
set_option linter.unusedSimpArgs false
section
variable {h : Heap} {Q : AV → Heap → Prop} {ow : Roles} {dp sp : Nat} {D : DS} {s : Bs} {S : List Bs} {base count : Nat} {q : Option SL} {heads : List Ent}
theorem k16 {i : Nat} (L : Laid h) (R : DiskR h ow dp D) (Z : Lies D s S) (b1 : 1 ≤ base) (hb : base ≤ 2305843009213693952) (hS : S.length ≤ 16384) (hs : h[sp]? = some (segC dp s base count q)) (H : HasL entE h q heads) (hh : heads.length ≤ S.length) (hi : i < heads.length)
    (h0 : pageS S base heads i = none → ∀ h', Ext h h' → Q (.tup [.sl none, .int .i64 80]) h')
    (h1 : ∀ l q' h', pageS S base heads i = some l → Ext h h' → Apd entE h' q' l → (∀ t, q' = some t → h.length ≤ t.b) → Q (.tup [.sl q', .int .i64 0]) h') : AC Tryz.prog 16 [.ptr (some ⟨sp, 0⟩), .int .i64 (i : Nat)] h Q := ac16 (by
  unfold vc16
  refine vif_mk (fun g => by simp at g) (fun _ => ⟨_, seg_at hs (k := 0) rfl, vif_mk (fun g => by simp at g) (fun _ => ?_)⟩)
  refine k15 hs H (fun hn => absurd ⟨by omega, by omega⟩ hn) fun e _ he => ⟨_, _, _, _, _, rfl, vif_mk (fun g => by simp at g) (fun _ => ⟨_, _, _, seg_src hs, ?_⟩)⟩
  rw [Int.toNat_natCast] at he
  have hp : ∀ l, packAt S base i = some l → pageS S base heads i = if l ≠ [] ∧ SortedL l ∧ l.head? = some e then some l else none := fun l hl => by
    unfold pageS; rw [hl, Option.bind_some, he]
  refine k84 L R Z b1 (by simp only [maxTag]; omega) (by omega) hb (by omega) (fun hn h17 x17 => ⟨_, _, rfl, vif_mk (fun _ => h0 (by unfold pageS; rw [hn]; rfl) _ x17) (fun g => by simp at g)⟩)
    fun l q18 h17 hl x17 A17 f17 hok hll => ⟨_, _, rfl, vif_mk (fun g => by simp at g) (fun _ => ?_)⟩
  have hpl := hp l hl
  rw [A17.hasL.len]
  refine vif_mk (fun g => h0 ?_ _ x17) (fun g => ?_)
  · have : l = [] := List.eq_nil_of_length_eq_zero (by have := eq_of_beq g; omega)
    rw [hpl, if_neg (fun hc => hc.1 this)]
  have hne : l ≠ [] := fun hc => by subst hc; simp at g
  refine z85 A17.hasL (by omega) fun h21 x21 => ⟨_, rfl, ?_⟩
  refine vif_mk (fun g => h0 ?_ _ (x17.trans x21)) (fun g => ?_)
  · rw [hpl, if_neg (fun hc => by simp [hc.2.1] at g)]
  have hso : SortedL l := by simpa using g
  have hpos : 0 < l.length := List.length_pos_iff.2 hne
  refine HasL.idx (E := entE) (A17.ext x21).hasL (by omega) (by omega) fun p y hy hc => ?_
  have hy' : l.head? = some y := by
    rw [List.head?_eq_getElem?]; exact hy
  refine ⟨_, _, _, _, hc, ?_⟩
  obtain ⟨y1, y2, y3, y4⟩ := y
  obtain ⟨e1, e2, e3, e4⟩ := e
  refine vif_mk (fun g => h0 ?_ _ (x17.trans x21)) (fun g => ?_)
  · rw [hpl, if_neg (fun hc => ?_)]
    have := hc.2.2
    rw [hy'] at this
    cases this
    simp at g
  · have : (y1, y2, y3, y4) = (e1, e2, e3, e4) := by simp at g ⊢; omega
    exact h1 l q18 h21 (by rw [hpl, if_pos ⟨hne, hso, by rw [hy', this]⟩]) (x17.trans x21) (A17.ext x21) f17)
end
end Go.Proofs.YtnglhicedhcpbaaGreatDoor

/- All entries of a segment. -/
namespace Go.Proofs.YtnglhicedhcpbaaGreatDoor
open Go.Ab
open Go.Num hiding Bs snoc_ind
open Go.Ent Go.Seg
open Go.Page hiding Bs get
open Go.Dsk hiding Bs
set_option linter.unusedVariables false
set_option linter.unusedSimpArgs false
section
variable {h : Heap} {Q : AV → Heap → Prop} {ow : Roles} {dp sp : Nat} {D : DS} {s : Bs} {S : List Bs} {base count : Nat} {q : Option SL} {heads : List Ent}
theorem k17 (L : Laid h) (R : DiskR h ow dp D) (Z : Lies D s S) (b1 : 1 ≤ base) (hb : base ≤ 2305843009213693952) (hS : S.length ≤ 9000) (hs : h[sp]? = some (segC dp s base count q)) (H : HasL entE h q heads) (hh : heads.length ≤ S.length)
    (h0 : allS S base count heads = none → ∀ h', Ext h h' → Q (.tup [.sl none, .int .i64 80]) h')
    (h1 : ∀ l q' h', allS S base count heads = some l → New entE h h' q' l → Q (.tup [.sl q', .int .i64 0]) h') : AC Tryz.prog 17 [.ptr (some ⟨sp, 0⟩)] h Q := ac17 (by
  unfold vc17
  refine vif_mk (fun g => by simp at g) (fun _ => ⟨_, seg_at hs (k := 0) rfl, vif_mk (fun g => by simp at g) (fun _ => ⟨_, seg_at hs (k := 4) rfl, ?_⟩)⟩)
  have hlen := H.len
  rw [hlen]
  refine ⟨fun xs h10 => ∃ (q6 : Option SL) (i : Nat) (l : List Ent), xs = [.sl q6, .int .i64 (i : Nat)] ∧ i ≤ heads.length ∧ pagesTo S base heads i = some l ∧ New entE h h10 q6 l, fun xs _ => match xs with | [_, .int _ i] => (heads.length - i).toNat | _ => 0,
    ⟨none, 0, [], rfl, by omega, rfl, New.none⟩, ?_⟩
  rintro q6 n7 h10 ⟨q6', i, l, hx, hi, hp, N⟩
  simp only [List.cons.injEq, AV.sl.injEq, AV.int.injEq, true_and, and_true] at hx
  obtain ⟨rfl, rfl⟩ := hx
  have x10 := N.1
  have hll := (pagesTo_some hp).1
  refine vif_mk (fun g => ?_) (fun g => ?_)
  · replace g := of_decide_eq_true g
    refine k16 (L.ext x10) (R.grow x10) Z b1 hb (by omega) (x10 _ _ hs) (H.mono x10) hh (by omega) (fun hn h12 x12 => ⟨_, _, rfl, vif_mk (fun _ => h0 ?_ _ (x10.trans x12)) (fun g => by simp at g)⟩)
      fun l2 q13 h12 hl2 x12 A12 f12 => ⟨_, _, rfl, vif_mk (fun g => by simp at g) (fun _ => ?_)⟩
    · unfold allS
      rw [pagesTo_none hn heads.length (by omega)]; rfl
    · have h2 := (packAt_some (pageS_some hl2).1).1
      refine New.append (E := entE) (N.ext x12) A12.hasL (by omega) fun q15 h16 N16 => ?_
      rw [wrapK_i64 ⟨by omega, by omega⟩]
      exact ⟨trivial, ⟨q15, i + 1, l ++ l2, by simp, by omega, pagesTo_succ hp hl2, N16⟩, by simp only; omega⟩
  · replace g := of_decide_eq_false g
    have hie : i = heads.length := by omega
    subst hie
    refine ⟨_, seg_at (x10 _ _ hs) (k := 3) rfl, ?_⟩
    have hl6 := N.hasL.len
    rw [hl6]
    refine vif_mk (fun g2 => h0 ?_ _ x10) (fun g2 => ?_)
    · unfold allS
      rw [hp, Option.bind_some, if_neg (fun hc => by rw [hc.1] at g2; simp at g2)]
    have g2 : l.length = count := by have : (l.length : Int) = (count : Int) := by simpa using g2
                                     omega
    refine z85 N.hasL (by omega) fun h20 x20 => ⟨_, rfl, ?_⟩
    refine vif_mk (fun g3 => h0 ?_ _ (x10.trans x20)) (fun g3 => ?_)
    · unfold allS
      rw [hp, Option.bind_some, if_neg (fun hc => by simp [hc.2] at g3)]
    · have g3 : SortedL l := by simpa using g3
      exact h1 l q6 h20 (by unfold allS; rw [hp, Option.bind_some, if_pos ⟨g2, g3⟩]) (N.ext x20))
end
end Go.Proofs.YtnglhicedhcpbaaGreatDoor

/- The last page whose first entry comes ahead of another one. -/
namespace Go.Proofs.YtnglhicedhcpbaaGreatDoor
open Go.Ab
open Go.Num hiding Bs snoc_ind
open Go.Ent Go.Seg
open Go.Page hiding Bs get
open Go.Dsk hiding Bs
set_option linter.unusedVariables false
set_option linter.unusedSimpArgs false
theorem mid_eq {i j : Nat} (hi : i ≤ 1000000) (hj : j ≤ 1000000) : wrapK .i64 (shrK .u64 (wrapK .u64 (wrapK .i64 ((i : Int) + (j : Int)))) 1) = (((i + j) / 2 : Nat) : Int) := by
  rw [wrapK_i64 (n := (i : Int) + (j : Int)) ⟨by omega, by omega⟩]
  have e1 : wrapK .u64 ((i : Int) + (j : Int)) = ((i + j : Nat) : Int) := by
    rw [wrapK_u64 ⟨by omega, by omega⟩]; omega
  rw [e1]
  have e2 : shrK .u64 ((i + j : Nat) : Int) 1 = (((i + j) / 2 : Nat) : Int) := by
    unfold shrK
    have e : min ((1 : Int).toNat) IntKind.u64.bits = 1 := by decide
    rw [e, Int.fdiv_eq_ediv_of_nonneg _ (by decide)]
    omega
  rw [e2, wrapK_i64 ⟨by omega, by omega⟩]
section
variable {h : Heap} {Q : AV → Heap → Prop} {dp sp : Nat} {s : Bs} {base count : Nat} {q : Option SL} {heads : List Ent} {e : Ent} {a6 a8 : Nat}
theorem k91 {i : Nat} {x : Ent} (c6 : cellsAt h ⟨a6, 0⟩ 1 = some [.ptr (some ⟨sp, 0⟩)]) (c8 : cellsAt h ⟨a8, 0⟩ 4 = some (entE.f e)) (hs : h[sp]? = some (segC dp s base count q)) (H : HasL entE h q heads) (hx : heads[i]? = some x)
    (hQ : ∀ h', Ext h h' → Q (.bool (decide (¬ ltE x e))) h') : AC Tryz.prog 91 [.int .i64 (i : Nat), .ptr (some ⟨a6, 0⟩), .ptr (some ⟨a8, 0⟩)] h Q := ac91 (by
  unfold vc91
  have hil := (List.getElem?_eq_some_iff.1 hx).1
  refine ⟨_, c6, _, seg_at hs (k := 4) rfl, ?_⟩
  refine idx4 H hx rfl fun p hc => ⟨_, _, _, _, hc, _, _, _, _, c8, ?_⟩
  refine z92 (a := x) (b := e) fun h' x' => ⟨_, rfl, ?_⟩
  have := hQ h' x'
  have e1 : decide (cmpE x e ≥ 0) = decide (¬ ltE x e) := decide_eq_decide.2 ⟨fun g hc => by have := cmpE_lt.2 hc; omega, fun g => by
    rcases Int.lt_or_le (cmpE x e) 0 with h1 | h1
    · exact absurd (cmpE_lt.1 h1) g
    · exact h1⟩
  rw [e1]; exact this)
/-- sort.Search -/
theorem k90 (c6 : cellsAt h ⟨a6, 0⟩ 1 = some [.ptr (some ⟨sp, 0⟩)]) (c8 : cellsAt h ⟨a8, 0⟩ 4 = some (entE.f e)) (hs : h[sp]? = some (segC dp s base count q)) (H : HasL entE h q heads) (hso : SortedL heads) (hl : heads.length ≤ 100000)
    (hQ : ∀ k h', Ext h h' → k ≤ heads.length → (∀ i x, i < k → heads[i]? = some x → ltE x e) → (∀ i x, k ≤ i → heads[i]? = some x → ¬ ltE x e) → Q (.int .i64 (k : Nat)) h') :
    AC Tryz.prog 90 [.int .i64 (heads.length : Nat), .func (.func 91) [] [.ptr (some ⟨a6, 0⟩), .ptr (some ⟨a8, 0⟩)]] h Q := ac90b (by
  unfold vc90b
  refine ⟨fun xs h8 => ∃ i j : Nat, xs = [.int .i64 (i : Nat), .int .i64 (j : Nat)] ∧ i ≤ j ∧ j ≤ heads.length ∧ Ext h h8 ∧ (∀ k x, k < i → heads[k]? = some x → ltE x e) ∧ (∀ k x, j ≤ k → heads[k]? = some x → ¬ ltE x e),
    fun xs _ => match xs with | [.int _ i, .int _ j] => (j - i).toNat | _ => 0, ⟨0, heads.length, rfl, by omega, by omega, .refl _, by omega, fun k x hk hx => by have := (List.getElem?_eq_some_iff.1 hx).1; omega⟩, ?_⟩
  rintro n4 n5 h8 ⟨i, j, hx, hij, hj, x8, hlo, hhi⟩
  simp only [List.cons.injEq, AV.int.injEq, true_and, and_true] at hx
  obtain ⟨rfl, rfl⟩ := hx
  refine vif_mk (fun g => ?_) (fun g => ?_)
  · replace g := of_decide_eq_true g
    rw [mid_eq (by omega) (by omega)]
    have hm : (i + j) / 2 < heads.length := by omega
    have hmx : heads[(i + j) / 2]? = some heads[(i + j) / 2] := List.getElem?_eq_getElem hm
    refine k91 (x8.cells c6) (x8.cells c8) (x8 _ _ hs) (H.mono x8) hmx fun h10 x10 => ⟨_, rfl, ?_⟩
    refine vif_mk (fun g2 => ?_) (fun g2 => ?_)
    · have g2 : ltE heads[(i + j) / 2] e := by simpa using g2
      rw [wrapK_i64 ⟨by omega, by omega⟩]
      exact ⟨trivial, ⟨(i + j) / 2 + 1, j, by simp, by omega, hj, x8.trans x10, fun k x hk hx => ltE_of_le (sorted_get hso (by omega) hx hmx) g2, hhi⟩, by simp only; omega⟩
    · have g2 : ¬ ltE heads[(i + j) / 2] e := by simpa using g2
      exact ⟨trivial, ⟨i, (i + j) / 2, by simp, by omega, by omega, x8.trans x10, hlo, fun k x hk hx => fun hc => g2 (ltE_of_le (sorted_get hso hk hmx hx) hc)⟩, by simp only; omega⟩
  · replace g := of_decide_eq_false g
    have : i = j := by omega
    subst this
    exact hQ i h8 x8 hj hlo hhi)
/-- Find -/
theorem k23 (hs : h[sp]? = some (segC dp s base count q)) (H : HasL entE h q heads) (hso : SortedL heads) (hl : heads.length ≤ 100000) (hQ : ∀ h', Ext h h' → Q (.int .i64 (findS heads e : Nat)) h') :
    AC Tryz.prog 23 [.ptr (some ⟨sp, 0⟩), entV e] h Q := ac23 (by
  unfold vc23 PNew
  dsimp only
  have x7 : Ext h (h ++ [Blk.cells [.ptr (some ⟨sp, 0⟩)] true]) := .app _ _
  have x9 := x7.trans (.app (h ++ [Blk.cells [.ptr (some ⟨sp, 0⟩)] true]) [Blk.cells [.int .i64 e.1, .int .i64 e.2.1, .int .i64 e.2.2.1, .int .i64 e.2.2.2] true])
  generalize hh9 : h ++ [Blk.cells [.ptr (some ⟨sp, 0⟩)] true] ++ [Blk.cells [.int .i64 e.1, .int .i64 e.2.1, .int .i64 e.2.2.1, .int .i64 e.2.2.2] true] = h9 at *
  have b6 : h9[h.length]? = some (.cells [.ptr (some ⟨sp, 0⟩)] true) := by rw [← hh9]; simp
  have b8 : h9[h.length + 1]? = some (.cells (entE.f e) true) := by rw [← hh9]; simp [entE]
  have c6 : cellsAt h9 ⟨h.length, 0⟩ 1 = some [.ptr (some ⟨sp, 0⟩)] := by rw [cellsAt_mk (p := ⟨h.length, 0⟩) b6 (by simp)]; rfl
  have c8 : cellsAt h9 ⟨h.length + 1, 0⟩ 4 = some (entE.f e) := by rw [cellsAt_mk (p := ⟨h.length + 1, 0⟩) b8 (by simp [entE])]; rfl
  refine ⟨_, c6, ?_⟩
  refine k22 (x9 _ _ hs) (H.mono x9) ⟨_, rfl, ?_⟩
  rw [show (h ++ [Blk.cells [.ptr (some ⟨sp, 0⟩)] true]).length = h.length + 1 by simp]
  refine k90 c6 c8 (x9 _ _ hs) (H.mono x9) hso hl fun k h15 x15 hk h1 h2 => ⟨_, rfl, ?_⟩
  have e1 : maxI2 0 (wrapK .i64 ((k : Int) - 1)) = ((findS heads e : Nat) : Int) := by
    rw [findS_cut hk h1 h2, wrapK_i64 ⟨by omega, by omega⟩]
    unfold maxI2
    split <;> omega
  rw [e1]
  exact hQ _ (x9.trans x15))
end
end Go.Proofs.YtnglhicedhcpbaaGreatDoor

/- A segment is verified. -/
namespace Go.Proofs.YtnglhicedhcpbaaGreatDoor
open Go.Ab
open Go.Num hiding Bs snoc_ind
open Go.Ent Go.Seg
open Go.Page hiding Bs get
open Go.Dsk hiding Bs
set_option linter.unusedVariables false
set_option linter.unusedSimpArgs false
section
variable {h : Heap} {Q : AV → Heap → Prop} {ow : Roles} {dp sp : Nat} {D : DS} {s : Bs} {S : List Bs} {base count : Nat} {q : Option SL} {heads : List Ent}
/-- Are sectors those of a segment that was opened so? -/
def verS (S : List Bs) (base count : Nat) (heads : List Ent) : Prop := ∃ l, allS S base count heads = some l ∧ mayE l = 0 ∧ sectors base l = S
theorem lies_at {s : Bs} {x : Bs} {i : Nat} (Z : Lies D s S) (hx : S[i]? = some x) : x.length = 64 ∧ ∃ f y, D.find s = some f ∧ f.now[i]? = some y ∧ x = pad y := by
  obtain ⟨f, hf, rfl⟩ := Z.is
  rw [List.getElem?_map] at hx
  obtain ⟨y, hy, rfl⟩ := Option.map_eq_some_iff.1 hx
  exact ⟨pad_len, f, y, hf, hy, rfl⟩
/-- Read of what lies there. -/
theorem k56 {i : Nat} {x : Bs} (R : DiskR h ow dp D) (Z : Lies D s S) (hx : S[i]? = some x) (hQ : ∀ q' h', Ext h h' → HasL byE h' q' x → (∀ t, q' = some t → h.length ≤ t.b) → Q (.tup [.sl q', .int .i64 0]) h') :
    AC Tryz.prog 56 [.ptr (some ⟨dp, 0⟩), .str s, .int .i64 (i : Nat)] h Q := by
  obtain ⟨_, f, y, hf, hy, rfl⟩ := lies_at Z hx
  have hil := (List.getElem?_eq_some_iff.1 hy).1
  refine d56 R (fun v _ _ hn => ?_) fun f' y' q7 h6 _ hf' _ hy' x6 H7 f7 => ?_
  · exact absurd ⟨by omega, by omega⟩ (hn Z.on f hf)
  rw [hf] at hf'; cases hf'
  have : y' = y := by
    have : f.now[((i : Nat) : Int).toNat]? = some y' := hy'
    simp only [Int.toNat_natCast] at this
    rw [hy] at this; cases this; rfl
  subst this
  exact hQ _ _ x6 H7 f7
theorem k24 (L : Laid h) (R : DiskR h ow dp D) (Z : Lies D s S) (b1 : 1 ≤ base) (hb : base ≤ 2305843009213693952) (hS : S.length ≤ 9000) (hs : h[sp]? = some (segC dp s base count q)) (H : HasL entE h q heads) (hh : heads.length ≤ S.length)
    (h0 : ¬ verS S base count heads → ∀ h', Ext h h' → Q (.int .i64 80) h') (h1 : verS S base count heads → ∀ h', Ext h h' → Q (.int .i64 0) h') : AC Tryz.prog 24 [.ptr (some ⟨sp, 0⟩)] h Q := ac24 (by
  unfold vc24
  refine k17 L R Z b1 hb hS hs H hh (fun hn h3 x3 => ⟨_, _, rfl, vif_mk (fun _ => h0 ?_ _ x3) (fun g => by simp at g)⟩) fun l q4 h3 hl N3 => ⟨_, _, rfl, vif_mk (fun g => by simp at g) (fun _ => ?_)⟩
  · rintro ⟨l, hl, _⟩
    rw [hn] at hl; cases hl
  have x3 := N3.1
  have uq : ∀ l', allS S base count heads = some l' → l' = l := fun l' h' => by rw [hl] at h'; cases h'; rfl
  have hll := (pagesTo_some (allS_some hl).1).1
  refine ⟨_, seg_at (x3 _ _ hs) (k := 2) rfl, ?_⟩
  refine k93 (L.ext x3) N3.hasL (by omega) ⟨b1, hb⟩ (fun hm => ⟨_, _, rfl, vif_mk (fun _ => h0 ?_ _ x3) (fun g => absurd (by simpa using g) hm)⟩) fun hm q10 qs h9 L9 => ⟨_, _, rfl, vif_mk (fun g => by simp at g) (fun _ => ?_)⟩
  · rintro ⟨l', hl', hm', _⟩
    rw [uq l' hl'] at hm'
    exact hm hm'
  have x9 := x3.trans L9.ext
  have I9 := LL.llsB L9
  have lI := I9.len
  have ver : sectors base l = S → verS S base count heads := fun he => ⟨l, hl, hm, he⟩
  have unv : sectors base l ≠ S → ¬ verS S base count heads := fun he ⟨l', hl', _, he'⟩ => by rw [uq l' hl'] at he'; exact he he'
  refine ⟨_, seg_at (x9 _ _ hs) (k := 0) rfl, _, seg_at (x9 _ _ hs) (k := 1) rfl, ?_⟩
  obtain ⟨f, hf, hSf⟩ := Z.is
  have hsz : f.now.length = S.length := by rw [hSf, List.length_map]
  refine d64 (R.grow x9) (fun hn => by rw [hf] at hn; cases hn) fun f' hf' => ⟨_, _, rfl, ?_⟩
  rw [hf] at hf'; cases hf'
  rw [hsz, lI]
  refine vif_mk (fun g => h0 (unv fun he => ?_) _ x9) (fun g => ?_)
  · rw [he] at g; simp at g
  have g : S.length = (sectors base l).length := by have : (S.length : Int) = ((sectors base l).length : Int) := by simpa using g
                                                    omega
  refine ⟨fun xs h23 => ∃ i : Nat, xs = [.int .i64 (i : Nat)] ∧ i ≤ S.length ∧ Ext h9 h23 ∧ (sectors base l).take i = S.take i, fun xs _ => match xs with | [.int _ i] => (S.length - i).toNat | _ => 0, ⟨0, rfl, by omega, .refl _, rfl⟩, ?_⟩
  rintro n20 h23 ⟨i, hx, hi, x23, htk⟩
  simp only [List.cons.injEq, AV.int.injEq, true_and, and_true] at hx
  subst hx
  have xx := x9.trans x23
  refine vif_mk (fun g2 => ?_) (fun g2 => ?_)
  · replace g2 := of_decide_eq_true g2
    refine (I9.keeps (X := fun _ => False) (keeps_of_ext x23) (fun _ _ _ h => h)).idx (by omega) (by omega) fun p q25 b hbx hc Hb _ => ⟨q25, hc, _, seg_at (xx _ _ hs) (k := 0) rfl, _, seg_at (xx _ _ hs) (k := 1) rfl, ?_⟩
    have hbx' : (sectors base l)[i]? = some b := by simpa using hbx
    have hil : i < S.length := by omega
    have hSx : S[i]? = some S[i] := List.getElem?_eq_getElem hil
    have h64 := (lies_at Z hSx).1
    have hb64 : b.length ≤ 1000000 := by
      obtain ⟨b', hb', _, rfl⟩ := sectors_get hbx'
      obtain ⟨hok, hlm⟩ := mayE_ok.1 hm
      rw [put_len (pagesB_fit hok hlm b' hb')]; omega
    refine k56 (R.grow xx) Z hSx fun q32 h31 x31 H32 _ => ⟨_, _, rfl, vif_mk (fun g => by simp at g) (fun _ => ?_)⟩
    refine k94 H32 (Hb.mono x31) (by omega) ⟨_, rfl, ?_⟩
    refine vif_mk (fun g3 => h0 (unv fun he => ?_) _ (xx.trans x31)) (fun g3 => ?_)
    · rw [he] at hbx'
      rw [hSx] at hbx'
      simp only [Bool.not_eq_true', decide_eq_false_iff_not] at g3
      exact g3 (Option.some.inj hbx')
    · have g3 : S[i] = b := by simpa using g3
      rw [wrapK_i64 ⟨by omega, by omega⟩]
      refine ⟨trivial, ⟨i + 1, by simp, by omega, x23.trans x31, ?_⟩, by simp only; omega⟩
      rw [List.take_add_one, List.take_add_one, htk, hbx', hSx, g3]
  · replace g2 := of_decide_eq_false g2
    have hie : i = S.length := by omega
    subst hie
    refine h1 (ver ?_) _ xx
    rw [List.take_length, List.take_of_length_le (by omega)] at htk
    exact htk)
end
end Go.Proofs.YtnglhicedhcpbaaGreatDoor

/- A segment is written on any disk. -/
namespace Go.Proofs.YtnglhicedhcpbaaGreatDoor
open Go.Ab
open Go.Num hiding Bs snoc_ind
open Go.Ent Go.Seg
open Go.Page hiding Bs get
open Go.Dsk hiding Bs
open Go.Man (pendsOf pendsOf_snoc keepAll_pends notB_all find_of pendsOf_b)
set_option linter.unusedVariables false
set_option linter.unusedSimpArgs false
attribute [local irreducible] momErr recErr

section
variable {h : Heap} {Q : AV → Heap → Prop} {ow : Roles} {p : Nat} {D : DS}
end
end Go.Proofs.YtnglhicedhcpbaaGreatDoor

/- What was written is opened, and is all: the walk. -/
namespace Go.Proofs.YtnglhicedhcpbaaGreatDoor
open Go.Ab
open Go.Num hiding Bs snoc_ind
open Go.Ent Go.Seg
open Go.Page hiding Bs get
open Go.Dsk hiding Bs
set_option linter.unusedVariables false
set_option linter.unusedSimpArgs false
theorem mayE_perm {l m : List Ent} (hp : l.Perm m) (h : mayE l = 0) : mayE m = 0 := by
  obtain ⟨a, b⟩ := mayE_ok.1 h
  exact mayE_ok.2 ⟨fun e he => a e (hp.mem_iff.2 he), by rw [← hp.length_eq]; exact b⟩
theorem sort_may {l : List Ent} (h : mayE l = 0) : mayE (sortE l) = 0 := mayE_perm (sortE_perm l).symm h
theorem sort_len {l : List Ent} : (sortE l).length = l.length := (sortE_perm l).length_eq
theorem mayS_ok {base : Nat} {l : List Ent} (hb : baseOk base = true) (hm : mayE l = 0) (hs : SortedL l) : mayS base l = 0 := by
  unfold mayS
  rw [hb, if_neg (by simp), if_neg (by simp [hm]), if_pos hs]
theorem map_pad : ∀ {l : List Bs}, (∀ x ∈ l, x.length = 64) → l.map pad = l
  | [], _ => rfl
  | y :: l, h => by rw [List.map_cons, pad_self (h y (by simp)), map_pad (fun x hx => h x (by simp [hx]))]
theorem lies_one {b : Nat} {s : Bs} {S T : List Bs} {ps : List PD} {lim : Int} (h64 : ∀ x ∈ S, x.length = 64) : Lies (oneD ⟨b, s, S, T⟩ ps lim) s S :=
  ⟨rfl, ⟨b, s, S, T⟩, oneD_find (f := ⟨b, s, S, T⟩), (map_pad h64).symm⟩
section
variable {h : Heap} {Q : AV → Heap → Prop}
/-- A new disk, entries in order written on it as a segment. -/
theorem new_wrote {q : Option SL} {l : List Ent} {base : Nat} {K : AV → Heap → Prop} {ow : Roles} {dp : Nat} (L : Laid h) (R : DiskR h ow dp (emptyD 16384)) (H : HasL entE h q (sortE l)) (hl : l.length ≤ 700) (hm : mayE l = 0) (b1 : 1 ≤ base) (b2 : base ≤ 2305843009213693952)
    (hK : ∀ b h' ow', DiskR h' ow' dp (oneD ⟨b, [115], sectors base (sortE l), sectors base (sortE l)⟩ [] 16384) → DStep ow h ow' h' → K (.int .i64 0) h') :
    AC Tryz.prog 25 [.ptr (some ⟨dp, 0⟩), .str [115], .int .i64 (base : Nat), .sl q] h K := by
  have hms := sort_may hm
  obtain ⟨hok, hlm⟩ := mayE_ok.1 hms
  have hbo : baseOk (base : Int) = true := decide_eq_true ⟨by omega, by omega⟩
  refine k25 (lim := 16384) rfl (by omega) L R H (by rw [sort_len]; omega) (fun hn => absurd (mayS_ok hbo hms (sortE_sorted l)) hn) fun base' he _ _ _ _ b h' ow' R' S' => ?_
  obtain rfl : base = base' := by omega
  have hw : wrD b [115] (sectors base (sortE l)) 16384 = (0, oneD ⟨b, [115], sectors base (sortE l), sectors base (sortE l)⟩ [] 16384) := by
    unfold wrD
    rw [if_pos]
    · rfl
    · rw [sectors_len]
      have := packG_len hok; have := idx_len hok
      rw [sort_len] at *; omega
  rw [hw] at R' ⊢
  exact hK b h' ow' R' S'
set_option maxHeartbeats 1000000 in
theorem s9 (lives : ∀ {h : Heap} {Q : AV → Heap → Prop}, Laid h → Q (.bool true) h → AC Tryz.prog 19 [] h Q) {n : Int} {q : Option SL} {l : List Ent} {e : Ent} (L : Laid h) (H : HasL entE h q l) : AC Tryz.prog 9 [.int .i64 n, .sl q, entV e] h fun v _ => v = .bool true := ac9 (by
  unfold vc9
  rw [H.len]
  refine vif_mk (fun _ => lives L ⟨_, rfl, rfl⟩) (fun g => ?_)
  replace g := of_decide_eq_false g
  refine k57 ⟨_, rfl, vif_mk (fun _ => lives L ⟨_, rfl, rfl⟩) (fun g1 => ?_)⟩
  have g1 : baseOk n = true := by simpa using g1
  obtain ⟨base, rfl, b1, b2⟩ := baseOk_nat g1
  refine k58 H (by omega) ⟨_, rfl, vif_mk (fun _ => lives L ⟨_, rfl, rfl⟩) (fun g2 => ?_)⟩
  have hm : mayE l = 0 := by simpa using g2
  have hms := sort_may hm
  obtain ⟨hok, hlm⟩ := mayE_ok.1 hms
  have hso := sortE_sorted l
  have hsl : (sortE l).length = l.length := sort_len
  refine d26 (by omega) (by omega) fun ow R0 B0 => ⟨_, _, rfl, ?_⟩
  have x1 : Ext h (h ++ [Blk.mp [] 0] ++ [Blk.cells [.map (some h.length), .sl none, .int .i64 16384, .int .i64 (-1), .bool false] true]) := (Ext.app _ _).trans (Ext.app _ _)
  generalize h ++ [Blk.mp [] 0] ++ [Blk.cells [.map (some h.length), .sl none, .int .i64 16384, .int .i64 (-1), .bool false] true] = h1 at *
  generalize h.length + 1 = dp at *
  refine z59 l.length (Nat.le_refl _) (H.mono x1) (by omega) fun q28 h27 N28 => ⟨q28, rfl, ?_⟩
  have x27 := x1.trans N28.1
  have L27 := L.ext x27
  refine lives L27 ⟨_, rfl, vif_mk (fun g => by simp at g) (fun _ => vif_mk (fun g => by simp at g) (fun _ => vif_mk (fun g => by simp at g) (fun _ => ?_)))⟩
  refine new_wrote L27 (R0.grow N28.1) N28.hasL (by omega) hm b1 b2 fun b h33 ow33 R33 S33 => ⟨_, rfl, vif_mk (fun g => by simp at g) (fun _ => ?_)⟩
  have B33 : Base h1 ow33 h33 ∨ True := .inr trivial
  -- what is kept
  have own28 : ∀ (B : Nat), B < h27.length → ow B = none → h33[B]? = h27[B]? := fun B hB ho => by
    have := S33.keeps B _ (fun hc => hc ho) (List.getElem?_eq_getElem hB)
    rw [this, List.getElem?_eq_getElem hB]
  have ownlive := R0.live
  have H33 : HasL entE h33 q28 (sortE l) := S33.keeps.hasL (fun t ht hc => by have := N28.2.2 t ht; have := ownlive _ hc; omega) N28.hasL
  have L33 : Laid h33 := L27.keeps S33.keeps (fun hc => by have := B0 _ hc; have := L.len; omega) (fun hc => by have := B0 _ hc; have := L.len; omega)
  generalize hS : sectors base (sortE l) = S at *
  have h64 : ∀ x ∈ S, x.length = 64 := by rw [← hS]; exact sectors_len64 hok hlm
  have hSl : S.length ≤ 2000 := by
    rw [← hS, sectors_len]
    have := packG_len hok; have := idx_len hok; omega
  have Z : Lies (oneD ⟨b, [115], S, S⟩ [] 16384) [115] S := lies_one h64
  refine d54 R33 (by simp [oneD]) fun q37 h36 N37 => ⟨q37, rfl, ?_⟩
  have e37 : slLen q37 = 0 := by rw [N37.hasL.len]; rfl
  rw [e37]
  refine vif_mk (fun g => by simp at g) (fun _ => ?_)
  have x36 := N37.1
  have hop : openS S base = some ((sortE l).length, headsG (packG (sortE l))) := by rw [← hS]; exact openS_sectors hok hlm hso
  refine k18 (L33.ext x36) (R33.grow x36) Z b1 b2 (by omega) (fun hn => by rw [hop] at hn; cases hn) fun c heads sp qh h39 ho O => ⟨_, _, rfl, vif_mk (fun g => by simp at g) (fun _ => vif_mk (fun g => by simp at g) (fun _ => ?_))⟩
  rw [hop] at ho; cases ho
  have x39 := x36.trans O.keep
  have hhl : (headsG (packG (sortE l))).length ≤ S.length := (openS_some hop).2
  have hhs : SortedL (headsG (packG (sortE l))) := (openS_some hop).1
  have hall : allS S base (sortE l).length (headsG (packG (sortE l))) = some (sortE l) := by rw [← hS]; exact allS_sectors hok hso
  refine k17 (L33.ext x39) (R33.grow x39) Z b1 b2 (by omega) O.at' O.hd.hasL hhl (fun hn => by rw [hall] at hn; cases hn) fun l2 q44 h43 hl2 N44 => ⟨_, _, rfl, ?_⟩
  rw [hall] at hl2; cases hl2
  have x43 := x39.trans N44.1
  refine k61 (H33.mono x43) hok hlm b2 fun q48 qs48 h47 L48 => ⟨q48, rfl, ?_⟩
  have x47 := x43.trans L48.ext
  refine k60 L48.lls hok hlm hso b1 b2 fun p51 qd h50 x50 _ _ Od => ⟨_, _, rfl, vif_mk (fun _ => ?_) (fun g => by simp at g)⟩
  have xx := x47.trans x50
  have y50 := L48.ext.trans x50
  refine k62 (N44.hasL.mono y50) (H33.mono xx) (by omega) ⟨_, rfl, vif_mk (fun _ => ?_) (fun g => by simp at g)⟩
  have at50 := y50 _ _ (N44.1 _ _ O.at')
  have hd50 := (O.hd.ext N44.1).ext y50
  refine k21 at50 ⟨_, rfl, ?_⟩
  rw [(H33.mono xx).len]
  refine vif_mk (fun _ => ?_) (fun g => by simp at g)
  have ver : verS S base (sortE l).length (headsG (packG (sortE l))) := ⟨_, hall, hms, hS⟩
  refine k24 (L33.ext xx) (R33.grow xx) Z b1 b2 (by omega) at50 hd50.hasL hhl (fun hn => absurd ver hn) fun _ h60 x60 => ⟨_, rfl, vif_mk (fun _ => vif_mk (fun _ => ?_) (fun g => by cases g)) (fun g => by simp at g)⟩
  refine k23 (x60 _ _ at50) (hd50.ext x60).hasL hhs (by omega) fun h63 x63 => ⟨_, rfl, rfl, ?_⟩
  have Od63 : DocO h63 p51 q48 base (sortE l).length (headsG (packG (sortE l))) qd := Od.keeps (X := fun _ => False) (keeps_of_ext (x60.trans x63)) (fun h => h) (fun _ _ h => h)
  refine k63 Od63 hhs (by omega) ⟨_, rfl, ?_⟩
  simp)
end
end Go.Proofs.YtnglhicedhcpbaaGreatDoor

/- A segment turned within one sector is not verified: the walk. -/
namespace Go.Proofs.YtnglhicedhcpbaaGreatDoor
open Go.Ab
open Go.Num hiding Bs snoc_ind
open Go.Ent Go.Seg
open Go.Page hiding Bs get
open Go.Dsk hiding Bs
set_option linter.unusedVariables false
set_option linter.unusedSimpArgs false
section
variable {h : Heap} {Q : AV → Heap → Prop}
/-- What is verified no more. -/
theorem not_ver {base i : Nat} {l : List Ent} {s s' : Bs} (hok : ∀ e ∈ l, entOk e = true) (hs : SortedL l) (hx : (sectors base l)[i]? = some s) (hne : s' ≠ s) (hg : Go.Page.get s' (base + i) = none) :
    ¬ verS ((sectors base l).set i s') base l.length (headsG (packG l)) := by
  rintro ⟨l', hl', _, he⟩
  have hil := (List.getElem?_eq_some_iff.1 hx).1
  rcases Nat.lt_or_ge i (packG l).length with hi | hi
  · rw [allS_bad hok hi hg] at hl'; cases hl'
  · rw [allS_other hok hs hi] at hl'; cases hl'
    have : (sectors base l)[i]? = ((sectors base l).set i s')[i]? := congrArg (fun x => x[i]?) he
    rw [hx, List.getElem?_set_self hil] at this
    exact hne (Option.some.inj this).symm
theorem flip_one {b : Nat} {s x : Bs} {S : List Bs} {i at' turn : Nat} {lim : Int} (hx : S[i]? = some x) : flipD (oneD ⟨b, s, S, S⟩ [] lim) ⟨b, s, S, S⟩ i at' turn = oneD ⟨b, s, S.set i (flip x at' turn), S.set i (flip x at' turn)⟩ [] lim := by
  have hd : S.getD i [] = x := by rw [List.getD_eq_getElem?_getD, hx]; rfl
  unfold flipD oneD flipF upF
  simp [hx]
set_option maxHeartbeats 1000000 in
theorem s10 (lives : ∀ {h : Heap} {Q : AV → Heap → Prop}, Laid h → Q (.bool true) h → AC Tryz.prog 19 [] h Q) {n i0 at0 : Int} {turn : Nat} (ht : turn < 2 ^ 32) {q : Option SL} {l : List Ent} (L : Laid h) (H : HasL entE h q l) :
    AC Tryz.prog 10 [.int .i64 n, .sl q, .int .i64 i0, .int .i64 at0, .int .u32 (turn : Nat)] h fun v _ => v = .bool true := ac10 (by
  unfold vc10
  rw [H.len]
  refine vif_mk (fun _ => lives L ⟨_, rfl, rfl⟩) (fun g => ?_)
  replace g := of_decide_eq_false g
  refine k57 ⟨_, rfl, vif_mk (fun _ => lives L ⟨_, rfl, rfl⟩) (fun g1 => ?_)⟩
  have g1 : baseOk n = true := by simpa using g1
  obtain ⟨base, rfl, b1, b2⟩ := baseOk_nat g1
  refine k58 H (by omega) ⟨_, rfl, vif_mk (fun _ => lives L ⟨_, rfl, rfl⟩) (fun g2 => ?_)⟩
  have hm : mayE l = 0 := by simpa using g2
  refine vif_mk (fun _ => lives L ⟨_, rfl, rfl⟩) (fun ga => vif_mk (fun _ => lives L ⟨_, rfl, rfl⟩) (fun gb => vif_mk (fun _ => lives L ⟨_, rfl, rfl⟩) (fun gc => ?_)))
  replace ga := of_decide_eq_false ga
  replace gb := of_decide_eq_false gb
  have gc : turn ≠ 0 := by intro hc; subst hc; simp at gc
  obtain ⟨at', rfl⟩ := Int.eq_ofNat_of_zero_le (by omega : 0 ≤ at0)
  have hms := sort_may hm
  obtain ⟨hok, hlm⟩ := mayE_ok.1 hms
  have hso := sortE_sorted l
  have hsl : (sortE l).length = l.length := sort_len
  refine d26 (by omega) (by omega) fun ow R0 B0 => ⟨_, _, rfl, ?_⟩
  have x1 : Ext h (h ++ [Blk.mp [] 0] ++ [Blk.cells [.map (some h.length), .sl none, .int .i64 16384, .int .i64 (-1), .bool false] true]) := (Ext.app _ _).trans (Ext.app _ _)
  generalize h ++ [Blk.mp [] 0] ++ [Blk.cells [.map (some h.length), .sl none, .int .i64 16384, .int .i64 (-1), .bool false] true] = h1 at *
  generalize h.length + 1 = dp at *
  refine z59 l.length (Nat.le_refl _) (H.mono x1) (by omega) fun q28 h27 N28 => ⟨q28, rfl, ?_⟩
  have x27 := x1.trans N28.1
  have L27 := L.ext x27
  refine lives L27 ⟨_, rfl, vif_mk (fun g => by simp at g) (fun _ => vif_mk (fun g => by simp at g) (fun _ => vif_mk (fun g => by simp at g) (fun _ => ?_)))⟩
  refine new_wrote L27 (R0.grow N28.1) N28.hasL (by omega) hm b1 b2 fun b h33 ow33 R33 S33 => ⟨_, rfl, vif_mk (fun g => by simp at g) (fun _ => ?_)⟩
  have ownlive := R0.live
  have H33 : HasL entE h33 q28 (sortE l) := S33.keeps.hasL (fun t ht hc => by have := N28.2.2 t ht; have := ownlive _ hc; omega) N28.hasL
  have L33 : Laid h33 := L27.keeps S33.keeps (fun hc => by have := B0 _ hc; have := L.len; omega) (fun hc => by have := B0 _ hc; have := L.len; omega)
  have own33 : ∀ b, ow33 b ≠ none → h.length ≤ b := fun b hb => by
    rcases S33.own b hb with h1 | h1
    · exact B0 b h1
    · have := x27.len; omega
  have hsec : ∀ j x, (sectors base (sortE l))[j]? = some x → ∃ c, c.length ≤ 43 ∧ x = put (base + j) c := fun j x hx => by
    obtain ⟨c, hc, _, rfl⟩ := sectors_get hx
    exact ⟨c, pagesB_fit hok hlm c hc, rfl⟩
  generalize hS : sectors base (sortE l) = S at *
  have h64 : ∀ x ∈ S, x.length = 64 := by rw [← hS]; exact sectors_len64 hok hlm
  have hSl : S.length ≤ 2000 := by
    rw [← hS, sectors_len]
    have := packG_len hok; have := idx_len hok; omega
  have Z : Lies (oneD ⟨b, [115], S, S⟩ [] 16384) [115] S := lies_one h64
  refine d64 R33 (fun hn => by rw [show ([115] : Bs) = (⟨b, [115], S, S⟩ : FA).name from rfl, oneD_find] at hn; cases hn) fun f hf => ⟨_, _, rfl, ?_⟩
  rw [show ([115] : Bs) = (⟨b, [115], S, S⟩ : FA).name from rfl, oneD_find] at hf
  cases hf
  have hop : openS S base = some ((sortE l).length, headsG (packG (sortE l))) := by rw [← hS]; exact openS_sectors hok hlm hso
  refine k18 L33 R33 Z b1 b2 (by omega) (fun hn => by rw [hop] at hn; cases hn) fun c heads sp qh h39 ho O => ⟨_, _, rfl, ?_⟩
  rw [hop] at ho; cases ho
  have x39 := O.keep
  refine vif_mk (fun g => by simp at g) (fun _ => vif_mk (fun g => by simp at g) (fun _ => vif_mk (fun g => by simp at g) (fun _ => ?_)))
  refine vif_mk (fun _ => vif_mk (fun _ => rfl) (fun g => by simp at g)) (fun gi => ?_)
  refine vif_mk (fun _ => vif_mk (fun _ => rfl) (fun g => by simp at g)) (fun gi2 => ?_)
  replace gi := of_decide_eq_false gi
  replace gi2 := of_decide_eq_false gi2
  obtain ⟨i, rfl⟩ := Int.eq_ofNat_of_zero_le (by omega : 0 ≤ i0)
  have hi : i < S.length := by simp only at gi2; omega
  have hhl : (headsG (packG (sortE l))).length ≤ S.length := (openS_some hop).2
  have hhs : SortedL (headsG (packG (sortE l))) := (openS_some hop).1
  have hhp : (headsG (packG (sortE l))).length = (packG (sortE l)).length := headsG_len fun g hg => (packG_fit hok g hg).1
  refine k61 (H33.mono x39) hok hlm b2 fun q48 qs48 h47 L48 => ⟨q48, rfl, ?_⟩
  rw [hS] at L48
  have I48 := LL.llsB L48
  have x47 := x39.trans L48.ext
  refine k60 (by rw [hS]; exact L48.lls) hok hlm hso b1 b2 fun p51 qd h50 x50 np51 nqd Od => ⟨_, _, rfl, vif_mk (fun g => by simp at g) (fun _ => ?_)⟩
  have xx := x47.trans x50
  have R50 := R33.grow xx
  have hx : S[i]? = some S[i] := List.getElem?_eq_getElem hi
  generalize S[i] = s0 at hx
  have hx64 := h64 s0 (List.mem_of_getElem? hx)
  refine k65 R50 (s := [115]) (oneD_find (f := ⟨b, [115], S, S⟩)) hi (by omega) ht h64 h64 fun h59 ow59 R59 S59 => ⟨_, rfl, vif_mk (fun g => by simp at g) (fun _ => ?_)⟩
  rw [flip_one hx] at R59
  -- what a turned sector is
  obtain ⟨cc, hcl, hce⟩ := hsec i s0 hx
  have hg0 : Go.Page.get s0 (base + i) = some cc := by rw [hce]; exact get_put hcl
  have hg : Go.Page.get (flip s0 at' turn) (base + i) = none := get_flip hg0 (by omega) gc ht
  have hfne : flip s0 at' turn ≠ s0 := flip_ne (by rw [hx64]; omega) gc ht
  have hf64 : (flip s0 at' turn).length = 64 := by rw [flipN_len]; exact hx64
  generalize flip s0 at' turn = s' at *
  have h64' : ∀ x ∈ S.set i s', x.length = 64 := fun x hx => by
    rcases List.mem_or_eq_of_mem_set hx with h | rfl
    · exact h64 x h
    · exact hf64
  have hSl' : (S.set i s').length = S.length := List.length_set
  have Z' : Lies (oneD ⟨b, [115], S.set i s', S.set i s'⟩ [] 16384) [115] (S.set i s') := lies_one h64'
  -- what stays
  have nd : ∀ c, c < h.length ∨ (h33.length ≤ c ∧ c < h50.length) → ¬ dsk ow33 c := fun c hc hd => by
    have := own33 c hd
    have := R33.live c hd
    omega
  have l33 : h.length ≤ h33.length := by have := S33.len; have := x27.len; omega
  have l50 : h33.length ≤ h50.length := xx.len
  have L59 : Laid h59 := (L33.ext xx).keeps S59.keeps (nd 0 (.inl (by have := L.len; omega))) (nd 1 (.inl (by have := L.len; omega)))
  have y50 := L48.ext.trans x50
  have at50 := y50 _ _ O.at'
  have hd50 := O.hd.ext y50
  have spl := lt_of_get at50
  have at59 : h59[sp]? = some (segC dp [115] base (sortE l).length qh) := S59.keeps _ _ (nd sp (.inr ⟨O.new, spl⟩)) at50
  have hd59 : Apd entE h59 qh (headsG (packG (sortE l))) := hd50.keeps S59.keeps fun t ht => nd t.b (.inr ⟨O.hq t ht, HasL.live hd50.hasL t ht⟩)
  have Od59 : DocO h59 p51 q48 base (sortE l).length (headsG (packG (sortE l))) qd := Od.keeps S59.keeps (nd p51 (.inr ⟨by have := x47.len; omega, lt_of_get Od.at'⟩)) fun t ht => nd t.b (.inr ⟨by have := nqd t ht; have := x47.len; omega, HasL.live Od.hd.hasL t ht⟩)
  have I59 : LlsB byE h59 q48 S h39.length h47.length := (I48.keeps (X := fun _ => False) (keeps_of_ext x50) (fun _ _ _ h => h)).keeps S59.keeps fun c c1 c2 => nd c (.inr ⟨by have := x39.len; omega, by have := x50.len; omega⟩)
  have nv : ¬ verS (S.set i s') base (sortE l).length (headsG (packG (sortE l))) := by
    have := not_ver (base := base) (i := i) (l := sortE l) hok hso (by rw [hS]; exact hx) hfne hg
    rw [hS] at this; exact this
  refine k24 L59 R59 Z' b1 b2 (by omega) at59 hd59.hasL (by omega) (fun _ h62 x62 => ⟨_, rfl, vif_mk (fun g => by simp at g) (fun _ => ?_)⟩) (fun hv => absurd hv nv)
  have R62 := R59.grow x62
  have hdata : i < (packG (sortE l)).length → openS (S.set i s') base = some ((sortE l).length, headsG (packG (sortE l))) := fun hi => by
    have := openS_data (base := base) (s' := s') hok hlm hso hi
    rw [hS] at this; exact this
  have hbad : (packG (sortE l)).length ≤ i → openS (S.set i s') base = none := fun hi2 => by
    have := openS_bad (base := base) (s' := s') hok hlm hi2 (by rw [hS]; exact hi) hg
    rw [hS] at this; exact this
  have Od62 : DocO h62 p51 q48 base (sortE l).length (headsG (packG (sortE l))) qd := Od59.keeps (X := fun _ => False) (keeps_of_ext x62) (fun h => h) (fun _ _ h => h)
  refine k18 (L59.ext x62) R62 Z' b1 b2 (by omega) (fun hn h65 x65 => ⟨_, _, rfl, vif_mk (fun _ => vif_mk (fun _ => vif_mk (fun _ => ?_) (fun g => by simp at g)) (fun g => by simp at g)) (fun g => by simp at g)⟩) fun c heads sp2 qh2 h65 ho2 O2 => ⟨_, _, rfl, vif_mk (fun g => by simp at g) (fun _ => vif_mk (fun g => by simp at g) (fun _ => ?_))⟩
  · have Od65 : DocO h65 p51 q48 base (sortE l).length (headsG (packG (sortE l))) qd := Od62.keeps (X := fun _ => False) (keeps_of_ext x65) (fun h => h) (fun _ _ h => h)
    refine ⟨_, doc_at Od65 (k := 3) rfl, ?_⟩
    rw [Od65.hd.hasL.len, hhp]
    have : (packG (sortE l)).length ≤ i := by
      rcases Nat.lt_or_ge i (packG (sortE l)).length with h1 | h1
      · rw [hdata h1] at hn; cases hn
      · exact h1
    show AV.bool _ = AV.bool true
    rw [decide_eq_true (by omega)]
  · have hip : i < (packG (sortE l)).length := by
      rcases Nat.lt_or_ge i (packG (sortE l)).length with h1 | h1
      · exact h1
      · rw [hbad h1] at ho2; cases ho2
    rw [hdata hip] at ho2; cases ho2
    have x65 := O2.keep
    have Od65 : DocO h65 p51 q48 base (sortE l).length (headsG (packG (sortE l))) qd := Od62.keeps (X := fun _ => False) (keeps_of_ext x65) (fun h => h) (fun _ _ h => h)
    refine ⟨_, doc_at Od65 (k := 3) rfl, ?_⟩
    rw [Od65.hd.hasL.len, hhp]
    refine vif_mk (fun g => by have := of_decide_eq_true g; omega) (fun _ => ?_)
    have x6265 := x62.trans x65
    refine k24 (L59.ext x6265) (R59.grow x6265) Z' b1 b2 (by omega) O2.at' O2.hd.hasL (by omega) (fun _ h73 x73 => ⟨_, rfl, vif_mk (fun g => by simp at g) (fun _ => ?_)⟩) (fun hv => absurd hv nv)
    have x5973 := x6265.trans x73
    refine ⟨fun xs h78 => ∃ k : Nat, xs = [.int .i64 (k : Nat)] ∧ k ≤ (packG (sortE l)).length ∧ Ext h73 h78, fun xs _ => match xs with | [.int _ k] => ((packG (sortE l)).length - k).toNat | _ => 0, ⟨0, rfl, by omega, .refl _⟩, ?_⟩
    rintro n75 h78 ⟨k, hxk, hk, x78⟩
    simp only [List.cons.injEq, AV.int.injEq, true_and, and_true] at hxk
    subst hxk
    have xz := x5973.trans x78
    have Od78 : DocO h78 p51 q48 base (sortE l).length (headsG (packG (sortE l))) qd := Od59.keeps (X := fun _ => False) (keeps_of_ext xz) (fun h => h) (fun _ _ h => h)
    refine ⟨_, doc_at Od78 (k := 3) rfl, ?_⟩
    rw [Od78.hd.hasL.len, hhp]
    refine vif_mk (fun gk => ?_) (fun _ => rfl)
    replace gk := of_decide_eq_true gk
    have hkl : k < (packG (sortE l)).length := by omega
    have hgk : (packG (sortE l))[k]? = some (packG (sortE l))[k] := List.getElem?_eq_getElem hkl
    generalize (packG (sortE l))[k] = gg at hgk
    have hpd : pageS S base (headsG (packG (sortE l))) k = some gg := by rw [← hS]; exact pageS_sectors hok hso hgk
    have at78 := (x73.trans x78) _ _ O2.at'
    have hd78 := O2.hd.ext (x73.trans x78)
    have doc : ∀ {h82 : Heap} {K : AV → Heap → Prop}, Ext h78 h82 → (∀ q' h', Ext h82 h' → HasL entE h' q' gg → K (.tup [.sl q', .bool true]) h') → AC Tryz.prog 66 [.ptr (some ⟨p51, 0⟩), .int .i64 (k : Nat)] h82 K := fun {h82} {K} x82 hK => by
      have x5982 := xz.trans x82
      refine k66 (S := S) (q := q48) (I := ?_) (Od59.keeps (X := fun _ => False) (keeps_of_ext x5982) (fun h => h) (fun _ _ h => h)) h64 b1 b2 (by omega) (by omega) hpd (fun q' h' x' H' _ => hK q' h' x' H')
      obtain ⟨qs, a1, a2, a3, _⟩ := I59.keeps (X := fun _ => False) (keeps_of_ext x5982) (fun _ _ _ h => h)
      exact ⟨qs, a1, a2, a3⟩
    refine k16 (L59.ext xz) (R59.grow xz) Z' b1 b2 (by omega) at78 hd78.hasL (by omega) (by omega) (fun hn h82 x82 => ⟨_, _, rfl, ?_⟩) fun l2 q83 h82 hl2 x82 A82 _ => ⟨_, _, rfl, ?_⟩
    · have hki : k = i := by
        apply Classical.byContradiction
        intro hne
        have := pageS_other (base := base) (s' := s') hok hso hne hgk
        rw [hS] at this
        rw [this] at hn; cases hn
      subst hki
      refine doc x82 fun q87 h86 x86 H87 => ⟨_, _, rfl, vif_mk (fun _ => vif_mk (fun g => by simp at g) (fun _ => vif_mk (fun g => by simp at g) (fun _ => ?_))) (fun g => by simp at g)⟩
      rw [wrapK_i64 ⟨by omega, by omega⟩]
      exact ⟨trivial, ⟨k + 1, by simp, by omega, x78.trans (x82.trans x86)⟩, by simp only; omega⟩
    · have hki : k ≠ i := by
        rintro rfl
        have := pageS_bad (base := base) (s' := s') (i := k) hkl hg
        rw [hS] at this
        rw [this] at hl2; cases hl2
      have := pageS_other (base := base) (s' := s') hok hso hki hgk
      rw [hS] at this
      rw [this] at hl2; cases hl2
      refine doc x82 fun q87 h86 x86 H87 => ⟨_, _, rfl, vif_mk (fun g => by simp at g; omega) (fun _ => vif_mk (fun _ => vif_mk (fun g => by simp at g) (fun _ => ?_)) (fun g => by simp at g; omega))⟩
      have hgl := (packAt_some (pageS_some hpd).1).1
      refine k62 (A82.hasL.mono x86) H87 (by omega) ⟨_, rfl, vif_mk (fun g => by simp at g) (fun _ => ?_)⟩
      rw [wrapK_i64 ⟨by omega, by omega⟩]
      exact ⟨trivial, ⟨k + 1, by simp, by omega, x78.trans (x82.trans x86)⟩, by simp only; omega⟩)
end
end Go.Proofs.YtnglhicedhcpbaaGreatDoor
