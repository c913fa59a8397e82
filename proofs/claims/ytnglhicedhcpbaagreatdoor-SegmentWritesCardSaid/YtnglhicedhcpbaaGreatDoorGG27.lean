/- A segment is written. -/
import Derived.Test.YtnglhicedhcpbaaGreatDoorGG16
import Derived.Test.YtnglhicedhcpbaaGreatDoorGG18
import Derived.Test.YtnglhicedhcpbaaGreatDoorGG22
import Derived.Test.YtnglhicedhcpbaaGreatDoorGG23
import Derived.Test.YtnglhicedhcpbaaGreatDoorGG25
import Derived.Test.YtnglhicedhcpbaaGreatDoorGG26
namespace Go.Proofs.YtnglhicedhcpbaaGreatDoor
open Go.Ab
open Go.Num hiding Bs snoc_ind
open Go.Ent Go.Seg
open Go.Page hiding Bs get
open Go.Dsk hiding Bs
open Go.Man (pendsOf pendsOf_snoc keepAll_pends notB_all find_of pendsOf_b)
set_option linter.unusedVariables false
set_option linter.unusedSimpArgs false
attribute [local irreducible] momErr recErr

/-- Lists whose slices all lie between two places. -/
def LlsB {α : Type} (E : Enc α) (h : Heap) (q : Option SL) (ls : List (List α)) (lo hi : Nat) : Prop :=
  ∃ qs : List (Option SL), HasL slE h q qs ∧ qs.length = ls.length ∧ (∀ (i : Nat) (s : Option SL) (l : List α), qs[i]? = some s → ls[i]? = some l → HasL E h s l) ∧
    (∀ s, q = some s → lo ≤ s.b ∧ s.b < hi) ∧ ∀ (i : Nat) (t : SL), qs[i]? = some (some t) → lo ≤ t.b ∧ t.b < hi
theorem LL.llsB {α : Type} {E : Enc α} {h0 h : Heap} {out : Option SL} {qs : List (Option SL)} {ls : List (List α)} (L : LL E h0 h out qs ls) : LlsB E h out ls h0.length h.length :=
  ⟨qs, L.oa.hasL, L.len, L.el, fun s hs => ⟨L.ob s hs, HasL.live L.oa.hasL s hs⟩, fun i t ht => ⟨(L.eb i t ht).1, L.live ht⟩⟩
theorem LlsB.keeps {α : Type} {E : Enc α} {h h' : Heap} {q : Option SL} {ls : List (List α)} {lo hi : Nat} {X : Nat → Prop} (I : LlsB E h q ls lo hi) (K : Keeps X h h') (hX : ∀ b, lo ≤ b → b < hi → ¬ X b) : LlsB E h' q ls lo hi := by
  obtain ⟨qs, a, b, c, d, e⟩ := I
  exact ⟨qs, K.hasL (fun s hs => hX _ (d s hs).1 (d s hs).2) a, b, fun i s l h1 h2 => K.hasL (fun t ht => hX _ (e i t (by rw [h1, ht])).1 (e i t (by rw [h1, ht])).2) (c i s l h1 h2), d, e⟩
theorem LlsB.idx {α : Type} {E : Enc α} {h : Heap} {q : Option SL} {ls : List (List α)} {lo hi : Nat} (I : LlsB E h q ls lo hi) {i : Int} {K : PA → Prop} (h0 : 0 ≤ i) (h1 : i < ls.length)
    (hK : ∀ p s l, ls[i.toNat]? = some l → cellsAt h p 1 = some [.sl s] → HasL E h s l → (∀ t, s = some t → lo ≤ t.b ∧ t.b < hi) → K p) : vIdx q i 1 K := by
  obtain ⟨qs, a, b, c, d, e⟩ := I
  refine HasL.idx (E := slE) a h0 (by omega) fun p s hs hc => ?_
  have hl : ls[i.toNat]? = some (ls[i.toNat]'(by omega)) := List.getElem?_eq_getElem _
  exact hK p s _ hl hc (c _ _ _ hs hl) fun t ht => e _ t (by rw [hs, ht])
theorem LlsB.len {α : Type} {E : Enc α} {h : Heap} {q : Option SL} {ls : List (List α)} {lo hi : Nat} (I : LlsB E h q ls lo hi) : slLen q = ls.length := by
  obtain ⟨qs, a, b, _⟩ := I
  rw [a.len, b]

/-- A disk of one file. -/
def oneD (f : FA) (ps : List PD) (lim : Int) : DS := ⟨[f], ps, lim, -1, false⟩
def wrD (b : Nat) (s : Bs) (S : List Bs) (lim : Nat) : Int × DS :=
  if S.length ≤ lim then (0, oneD ⟨b, s, S, S⟩ [] lim) else (2, oneD ⟨b, s, S.take lim, []⟩ (pendsOf b 0 (S.take lim)) lim)
theorem oneD_find {f : FA} {ps : List PD} {lim : Int} : (oneD f ps lim).find f.name = some f := by simp [oneD, DS.find]
theorem oneD_used {f : FA} {ps : List PD} {lim : Int} : (oneD f ps lim).used = f.now.length := by simp [oneD, DS.used]
theorem create_empty {s : Bs} {b : Nat} {lim : Int} (hs : mayN s = true) : (emptyD lim).create s b = (0, oneD (mkF b s) [] lim) := by
  unfold DS.create
  rw [if_neg (by simp [hs]), if_neg (by simp [emptyD]), if_neg (by simp [emptyD, DS.find]), if_neg (by simp [emptyD])]
  rfl
theorem append_one {f : FA} {ps : List PD} {lim : Int} {x : Bs} (hx : x.length = 64) : (oneD f ps lim).append f.name x = if lim ≤ f.now.length then (2, oneD f ps lim) else (0, oneD { f with now := f.now ++ [x] } (ps ++ [(f.b, f.now.length, x)]) lim) := by
  unfold DS.append
  rw [if_neg (by simp [hx]), if_neg (by simp [oneD]), oneD_find]
  simp only [oneD_used]
  rw [show (oneD f ps lim).limit = lim from rfl]
  by_cases hl : lim ≤ (f.now.length : Int)
  · rw [if_pos hl, if_pos hl]
  · rw [if_neg hl, if_neg hl]
    have : (oneD f ps lim).deed = (0, oneD f ps lim) := rfl
    rw [this, if_pos rfl]
    simp [oneD, upF]
theorem sync_one {f : FA} {ps : List PD} {lim : Int} : (oneD f ps lim).sync f.name = (0, oneD (keepAll f ps) (ps.filter (notB f.b)) lim) := by
  unfold DS.sync
  rw [if_neg (by simp [oneD]), oneD_find]
  have : (oneD f ps lim).deed = (0, oneD f ps lim) := rfl
  rw [this]
  simp [oneD, upF, keepAll_b]
theorem sectors_len64 {base : Nat} {l : List Ent} (hok : ∀ e ∈ l, entOk e = true) (hl : l.length ≤ 16384) : ∀ s ∈ sectors base l, s.length = 64 := fun s hs => by
  obtain ⟨i, hi⟩ := List.getElem?_of_mem hs
  obtain ⟨b, hb, _, rfl⟩ := sectors_get hi
  exact put_len (pagesB_fit hok hl b hb)

section
variable {h : Heap} {Q : AV → Heap → Prop} {ow : Roles} {p : Nat}
theorem mayS_cases {n : Int} {l : List Ent} : (baseOk n = false ∧ mayS n l = 1) ∨ (baseOk n = true ∧ mayE l ≠ 0 ∧ mayS n l = mayE l) ∨ (baseOk n = true ∧ mayE l = 0 ∧ ¬ SortedL l ∧ mayS n l = 1) ∨ (baseOk n = true ∧ mayE l = 0 ∧ SortedL l ∧ mayS n l = 0) := by
  unfold mayS
  by_cases h1 : baseOk n = false
  · exact .inl ⟨h1, by rw [if_pos h1]⟩
  have h1' : baseOk n = true := by simpa using h1
  by_cases h2 : mayE l ≠ 0
  · exact .inr (.inl ⟨h1', h2, by rw [if_neg h1, if_pos h2]⟩)
  by_cases h3 : SortedL l
  · exact .inr (.inr (.inr ⟨h1', by simpa using h2, h3, by rw [if_neg h1, if_neg h2, if_pos h3]⟩))
  · exact .inr (.inr (.inl ⟨h1', by simpa using h2, h3, by rw [if_neg h1, if_neg h2, if_neg h3]⟩))
/-- segment.Write on a disk without files. -/
theorem k25 {lim : Nat} {n : Int} {s : Bs} {q : Option SL} {l : List Ent} (hs : mayN s = true) (hlim : lim ≤ 16384) (L : Laid h) (R : DiskR h ow p (emptyD lim)) (H : HasL entE h q l) (hl : l.length ≤ 100000)
    (h0 : mayS n l ≠ 0 → ∀ h', Ext h h' → Q (.int .i64 (mayS n l)) h')
    (h1 : ∀ base : Nat, n = base → 1 ≤ base → base ≤ 2305843009213693952 → mayE l = 0 → SortedL l → ∀ b h' ow', DiskR h' ow' p (wrD b s (sectors base l) lim).2 → DStep ow h ow' h' → Q (.int .i64 (wrD b s (sectors base l) lim).1) h') :
    AC Tryz.prog 25 [.ptr (some ⟨p, 0⟩), .str s, .int .i64 n, .sl q] h Q := ac25 (by
  unfold vc25
  refine k86 ⟨_, rfl, ?_⟩
  rcases mayS_cases (n := n) (l := l) with ⟨m1, m2⟩ | hrest
  · rw [m1]
    rw [m2] at h0
    exact vif_mk (fun _ => h0 (by omega) _ (.refl _)) (fun g => by cases g)
  have m1 : baseOk n = true := by
    rcases hrest with ⟨m, _⟩ | ⟨m, _⟩ | ⟨m, _⟩ <;> exact m
  rw [m1]
  refine vif_mk (fun g => by cases g) (fun _ => ?_)
  obtain ⟨base, rfl, b1, b2⟩ := baseOk_nat m1
  refine k93 L H hl ⟨b1, b2⟩ (fun hm => ⟨_, _, rfl, vif_mk (fun _ => ?_) (fun g => absurd (by simpa using g) hm)⟩) fun hm q10 qs10 h9 L9 => ⟨_, _, rfl, vif_mk (fun g => by simp at g) (fun _ => ?_)⟩
  · rcases hrest with ⟨_, m2, m3⟩ | ⟨_, m2, _⟩ | ⟨_, m2, _⟩
    · rw [m3] at h0; exact h0 m2 _ (.refl _)
    · exact absurd m2 hm
    · exact absurd m2 hm
  obtain ⟨hok, hlm⟩ := mayE_ok.1 hm
  refine z85 (H.mono L9.ext) (by omega) fun h13 x13 => ⟨_, rfl, vif_mk (fun g => ?_) (fun g => ?_)⟩
  · simp only [Bool.not_eq_true', decide_eq_false_iff_not] at g
    rcases hrest with ⟨_, m2, m3⟩ | ⟨_, _, m2, m3⟩ | ⟨_, _, m2, _⟩
    · exact absurd hm m2
    · rw [m3] at h0; exact h0 (by omega) _ (L9.ext.trans x13)
    · exact absurd m2 g
  have g : SortedL l := by simpa using g
  have h1 := h1 base rfl b1 b2 hm g
  generalize hS : sectors base l = S at *
  have h64 : ∀ x ∈ S, x.length = 64 := by rw [← hS]; exact sectors_len64 hok hlm
  have hSl : S.length ≤ 40000 := by
    rw [← hS, sectors_len]
    have := packG_len hok; have := idx_len hok; omega
  have x0 : Ext h h13 := L9.ext.trans x13
  have I13 : LlsB byE h13 q10 S h.length h9.length := (LL.llsB L9).keeps (X := fun _ => False) (keeps_of_ext x13) (fun _ _ _ h => h)
  have lI := I13.len
  have R13 := R.grow x0
  refine d95 R13 fun b h16 ow16 R16 S16 => ⟨_, rfl, ?_⟩
  rw [create_empty hs] at R16 ⊢
  refine vif_mk (fun g => by simp at g) (fun _ => ?_)
  have hown : ∀ (ow' : Roles) (h' : Heap), DStep ow h13 ow' h' → ∀ c, h.length ≤ c → c < h9.length → ow' c = none := fun ow' h' st c c1 c2 => by
    cases hc : ow' c with
    | none => rfl
    | some r =>
      exfalso
      rcases st.own c (by rw [hc]; simp) with h2 | h2
      · have := R.live c h2; omega
      · have := x13.len; omega
  have hXs : ∀ (ow' : Roles) (h' : Heap), DStep ow h13 ow' h' → ∀ c, h.length ≤ c → c < h9.length → ¬ dsk ow' c := fun ow' h' st c c1 c2 hc => hc (hown ow' h' st c c1 c2)
  refine ⟨fun xs h21 => ∃ (i : Nat) (ow21 : Roles), xs = [.int .i64 i] ∧ i ≤ S.length ∧ i ≤ lim ∧ DiskR h21 ow21 p (oneD ⟨b, s, S.take i, []⟩ (pendsOf b 0 (S.take i)) lim) ∧ DStep ow h13 ow21 h21 ∧ LlsB byE h21 q10 S h.length h9.length,
    fun xs _ => match xs with | [.int _ i] => (S.length - i).toNat | _ => 0, ⟨0, ow16, rfl, by omega, by omega, by simpa [mkF, pendsOf] using R16, S16, I13.keeps S16.keeps (fun c c1 c2 hc => by have := R.live c hc; omega)⟩, ?_⟩
  rintro n18 h21 ⟨i, ow21, hx, hi, hi2, R21, S21, I21⟩
  simp only [List.cons.injEq, AV.int.injEq, true_and, and_true] at hx
  subst hx
  have e1 : (⟨b, s, S.take i, []⟩ : FA).name = s := rfl
  have htl : (S.take i).length = i := by rw [List.length_take]; omega
  have hpl : (pendsOf b 0 (S.take i)).length ≤ 1000000 := by
    have : ∀ (l : List Bs) (j : Nat), (pendsOf b j l).length = l.length := by
      intro l
      induction l with
      | nil => intro j; rfl
      | cons x l ih => intro j; simp [pendsOf, ih]
    rw [this, htl]; omega
  refine vif_mk (fun g2 => ?_) (fun g2 => ?_)
  · replace g2 := of_decide_eq_true g2
    refine I21.idx (by omega) (by omega) fun p22 q23 x hx hc Hx hxb => ⟨q23, hc, ?_⟩
    have hx' : S[i]? = some x := by simpa using hx
    have hx64 := h64 x (List.mem_of_getElem? hx')
    refine d96 R21 Hx (fun t ht => hown ow21 h21 S21 _ (hxb t ht).1 (hxb t ht).2) hpl fun h25 ow25 R25 S25 => ⟨_, rfl, ?_⟩
    have ha := append_one (f := ⟨b, s, S.take i, []⟩) (ps := pendsOf b 0 (S.take i)) (lim := (lim : Int)) hx64
    rw [e1] at ha
    rw [ha] at R25 ⊢
    simp only [htl] at R25 ⊢
    by_cases hil : (lim : Int) ≤ (i : Int)
    · rw [if_pos hil] at R25 ⊢
      have hw : wrD b s S lim = (2, oneD ⟨b, s, S.take i, []⟩ (pendsOf b 0 (S.take i)) lim) := by
        unfold wrD
        have : i = lim := by omega
        subst this
        rw [if_neg (by omega)]
      refine vif_mk (fun _ => ?_) (fun g => by simp at g)
      have := h1 b h25 ow25
      rw [hw] at this
      exact this R25 ((DStep.ext x0).trans (S21.trans S25))
    · rw [if_neg hil] at R25 ⊢
      refine vif_mk (fun g => by simp at g) (fun _ => ?_)
      rw [wrapK_i64 ⟨by omega, by omega⟩]
      refine ⟨trivial, ⟨i + 1, ow25, by simp, by omega, by omega, ?_, S21.trans S25, I21.keeps S25.keeps (hXs ow21 h21 S21)⟩, by omega⟩
      have e2 : S.take (i + 1) = S.take i ++ [x] := by rw [List.take_add_one, hx']; rfl
      have e3 : pendsOf b 0 (S.take (i + 1)) = pendsOf b 0 (S.take i) ++ [(b, i, x)] := by rw [e2, pendsOf_snoc, htl, Nat.zero_add]
      rw [e3, e2]
      exact R25
  · replace g2 := of_decide_eq_false g2
    have : i = S.length := by omega
    subst this
    rw [List.take_length] at R21 hpl
    refine d97 R21 hpl fun h28 ow28 R28 S28 => ⟨_, rfl, ?_⟩
    have hsy := sync_one (f := ⟨b, s, S, []⟩) (ps := pendsOf b 0 S) (lim := (lim : Int))
    have e1 : (⟨b, s, S, []⟩ : FA).name = s := rfl
    rw [e1] at hsy
    rw [hsy] at R28 ⊢
    have hk : keepAll ⟨b, s, S, []⟩ (pendsOf b 0 S) = ⟨b, s, S, S⟩ := by
      have k1 := keepAll_pends (base := []) (l := S) (f := ⟨b, s, S, []⟩) rfl h64
      obtain ⟨k2, k3, k4⟩ := keepAll_b (f := ⟨b, s, S, []⟩) (pendsOf b 0 S)
      simp only [List.length_nil, List.nil_append] at k1
      cases hF : keepAll ⟨b, s, S, []⟩ (pendsOf b 0 S) with
      | mk b' n' now' safe' =>
        rw [hF] at k1 k2 k3 k4
        simp only at k1 k2 k3 k4
        rw [k1, k2, k3, k4]
    have hw : wrD b s S lim = (0, oneD ⟨b, s, S, S⟩ [] lim) := by unfold wrD; rw [if_pos hi2]
    rw [hk, notB_all] at R28
    have := h1 b h28 ow28
    rw [hw] at this
    exact this R28 ((DStep.ext x0).trans (S21.trans S28)))
end
end Go.Proofs.YtnglhicedhcpbaaGreatDoor

/- The document's disk: a file is made. -/
namespace Go.Proofs.YtnglhicedhcpbaaGreatDoor
open Go.Ab
open Go.Dsk hiding Bs
set_option linter.unusedVariables false
set_option linter.unusedSimpArgs false
section
variable {h h' : Heap} {ow ow' : Roles} {p : Nat} {qL qP : Option SL} {D : DS} {f : FA} {Q : AV → Heap → Prop}
theorem place_tail {hX : Heap} {b : Nat} {q src : Option SL} {c1 c2 c3 c4 : AV} (x : Ext h hX) (pb : h[p]? = some (.cells [.sl none, c1, c2, c3, c4] true)) (O : OwnL plE hX q []) (fq : ∀ t, q = some t → h.length ≤ t.b) (Hs : HasL plE hX src [b])
    (hQ : ∀ q' h', HasL plE h' q' [b] → (∀ t, q' = some t → h.length ≤ t.b) → Keeps (fun c => c = p) h h' → h.length ≤ h'.length → h'[p]? = some (.cells [.sl q', c1, c2, c3, c4] true) → Q (.tup []) h') :
    PAppendS 1 8 q src hX fun q85 h86 => (∃ q91 : Option SL, cellsAt h86 ⟨p, 0 + 0⟩ 1 = some [.sl q91] ∧ LV.val (.sl q91) = LV.val (.sl none)) ∧ PAppendS 1 8 q85 none h86 fun q87 h88 =>
      vPtr (some ⟨p, 0⟩) fun p89 => PStore h88 ⟨p89.b, p89.o + 0⟩ [.sl q87] fun h90 => Q (.tup []) h90 := by
  have hpl := lt_of_get pb
  have pbX := x _ _ pb
  refine appendOne (E := plE) O Hs (by simp) fun q85 h86 O86 K86 l86 f86 => ?_
  rw [List.nil_append] at O86
  have np : ¬ (∃ s, q = some s ∧ s.b = p) := fun ⟨s, a, b⟩ => by have := fq s a; omega
  have pb86 := K86 _ _ np pbX
  refine ⟨⟨none, by rw [cells6 pb86 (by simp)]; rfl, rfl⟩, ?_⟩
  have xl := x.len
  refine Apd.append (E := plE) (m := []) O86.apd rfl (by simp) fun q87 h88 A88 K88 l88 f88 => ?_
  rw [List.append_nil] at A88
  have f87 : ∀ t, q87 = some t → h.length ≤ t.b := fun t ht => by
    rcases f88 t ht with h1 | ⟨u, hu, hb⟩
    · omega
    · rw [← hb]; have := f86 u hu; omega
  have np2 : ¬ (∃ s, q85 = some s ∧ s.b = p) := fun ⟨s, a, b⟩ => by have := f86 s a; omega
  have pb88 := K88 _ _ np2 pb86
  have hpl88 := lt_of_get pb88
  refine store6v pb88 (by simp) ?_
  rw [show splice [AV.sl none, c1, c2, c3, c4] 0 [.sl q87] = [AV.sl q87, c1, c2, c3, c4] from rfl]
  have K90 : Keeps (fun b => b = p) h88 (h88.set p (.cells [.sl q87, c1, c2, c3, c4] true)) := keeps_set rfl
  refine hQ q87 _ (K90.hasL (fun t ht hc => by have := f87 t ht; omega) A88.hasL) f87 ?_ (by rw [List.length_set]; omega) (List.getElem?_set_self hpl88)
  intro c B hc hB
  have hcl := lt_of_get hB
  exact K90 _ _ hc (K88 _ _ (fun ⟨s, a, b⟩ => by have := f86 s a; omega) (K86 _ _ (fun ⟨s, a, b⟩ => by have := fq s a; omega) (x _ _ hB)))
/-- place, into no files. -/
theorem r200e {b : Nat} {c1 c2 c3 c4 : AV} (pb : h[p]? = some (.cells [.sl none, c1, c2, c3, c4] true))
    (hQ : ∀ q' h', HasL plE h' q' [b] → (∀ t, q' = some t → h.length ≤ t.b) → Keeps (fun c => c = p) h h' → h.length ≤ h'.length → h'[p]? = some (.cells [.sl q', c1, c2, c3, c4] true) → Q (.tup []) h') :
    AC Tryz.prog 200 [.ptr (some ⟨p, 0⟩), .ptr (some ⟨b, 0⟩)] h Q := ac200 (by
  unfold vc200 PNew
  refine ⟨fun xs h6 => h6 = h ∧ xs = [.int .i64 0], fun xs _ => 0, ⟨rfl, rfl⟩, ?_⟩
  rintro n3 h6 ⟨rfl, hx⟩
  simp only [List.cons.injEq, AV.int.injEq, true_and, and_true] at hx
  subst hx
  have c0 : ∀ {hX : Heap}, Ext h6 hX → cellsAt hX ⟨p, 0 + 0⟩ 1 = some [.sl none] := fun x => by rw [cells6 (x _ _ pb) (by simp)]; rfl
  refine ⟨none, c0 (.refl _), vif_mk (fun g => by simp [slLen] at g) (fun _ => ?_)⟩
  refine ⟨none, c0 (.refl _), ?_⟩
  refine ⟨rfl, rfl, rfl, ?_⟩
  refine ⟨none, c0 (.refl _), ?_⟩
  refine ⟨rfl, rfl, rfl, ?_⟩
  have ck : ∀ {hX : Heap}, Ext h6 hX → ∃ q : Option SL, cellsAt hX ⟨p, 0 + 0⟩ 1 = some [.sl q] ∧ LV.val (.sl q) = LV.val (.sl none) := fun x => ⟨none, c0 x, rfl⟩
  have x80 : Ext h6 (h6 ++ [Blk.cells [] true]) := .app _ _
  have b80 : (h6 ++ [Blk.cells [] true])[h6.length]? = some (.cells [] true) := by simp
  have one : ∀ {hX : Heap}, HasL plE (hX ++ [Blk.cells [.ptr (some ⟨b, 0⟩)] true]) (some ⟨hX.length, 0, 1, 1, 0⟩) [b] := HasL.new (E := plE) (l := [b]) (n := 1) rfl rfl
  refine ⟨⟨ck x80, ck x80, ?_, ?_⟩, ?_⟩
  · refine copy0 (E := plE) (l := []) b80 rfl (by simp) fun q81 h82 x82 O82 f82 => ?_
    have xx := x80.trans x82
    refine ⟨ck xx, ck (xx.trans (.app _ _)), ck (xx.trans (.app _ _)), ?_⟩
    refine place_tail (xx.trans (.app _ _)) pb (O82.ext (.app _ _)) (fun t ht => ?_) one hQ
    rcases f82 t ht with h1 | h1
    · omega
    · have := x80.len; omega
  · have x96 := x80.trans (.app (h6 ++ [Blk.cells [] true]) [Blk.cells [.ptr (some ⟨b, 0⟩)] true])
    refine ⟨ck x96, ck x96, ?_⟩
    refine copy0 (E := plE) (l := []) (Ext.app _ _ _ _ b80) rfl (by simp) fun q97 h98 x98 O98 f98 => ?_
    refine ⟨ck (x96.trans x98), ?_⟩
    refine place_tail (x96.trans x98) pb O98 (fun t ht => ?_) (one.mono x98) hQ
    rcases f98 t ht with h1 | h1
    · omega
    · have := x96.len; omega
  · have x112 : Ext h6 (h6 ++ [Blk.cells [.ptr (some ⟨b, 0⟩)] true]) := .app _ _
    have x114 := x112.trans (.app (h6 ++ [Blk.cells [.ptr (some ⟨b, 0⟩)] true]) [Blk.cells [] true])
    refine ⟨ck x112, ck x112, ck x114, ck x114, ?_⟩
    refine copy0 (E := plE) (l := []) (a := (h6 ++ [Blk.cells [.ptr (some ⟨b, 0⟩)] true]).length) (by simp) rfl (by simp) fun q115 h116 x116 O116 f116 => ?_
    refine ⟨ck (x114.trans x116), ?_⟩
    refine place_tail (x114.trans x116) pb O116 (fun t ht => ?_) ((one.mono (.app _ _)).mono x116) hQ
    rcases f116 t ht with h1 | h1
    · rw [h1]; simp
    · have := x114.len; omega)
/-- Create, on a disk without files. -/
theorem r121e {s : Bs} {n : Int} (C : RDC h ow p none none (emptyD n)) (hs : mayN s = true)
    (hQ : ∀ b h' ow', RDR h' ow' p (oneD (mkF b s) [] n) → DStep ow h ow' h' → Q (.int .i64 0) h') : AC Tryz.prog 121 [.ptr (some ⟨p, 0⟩), .str s] h Q := ac121 (by
  unfold vc121 PNew
  refine r198 ⟨_, rfl, ?_⟩
  rw [hs]
  refine vif_mk (fun g => by cases g) (fun _ => ?_)
  refine r55 C (fun _ => ⟨_, rfl, vif_mk (fun g => by simp at g) (fun _ => ?_)⟩) (fun f hf => by simp [emptyD, DS.find] at hf)
  refine ⟨none, C.at (k := 0) rfl, vif_mk (fun g => by simp [slLen] at g) (fun _ => ?_)⟩
  refine r199 C rfl rfl ⟨_, rfl, vif_mk (fun _ => ?_) (fun g => by simp at g)⟩
  have x : Ext h (h ++ [Blk.cells [.str s, .sl none, .sl none] true]) := .app _ _
  have C36 := C.grow x
  refine r200e C36.pb fun q' h' H' f' K' l' pb' => ⟨rfl, ?_⟩
  have ll : h.length + 1 ≤ h'.length := by simpa using l'
  have hpl := C.live p (by simp [C.pr])
  have bn : ow h.length = none := by
    cases ho : ow h.length with
    | none => rfl
    | some r => have := C.live h.length (by rw [ho]; simp); omega
  have fb' : h'[h.length]? = some (.cells [.str s, .sl none, .sl none] true) := K' _ _ (by omega) (by simp)
  have only : ∀ b, ow b ≠ none → b < h.length := C.live
  refine hQ h.length h' (fun b => if b = h.length then some .file else ow b) ⟨q', none, ?_⟩ ⟨?_, by omega, fun b hb => ?_⟩
  · refine ⟨fun b hb => ?_, by rw [if_neg (by omega)]; exact C.pr, pb', H', fun t ht => ?_, ⟨[], .inl ⟨rfl, rfl⟩, rfl, by simp⟩, by simp, fun f hf => ?_, by simp [oneD, mkF], by simp [oneD, mkF], by simp [oneD, mkF], by simp [oneD], by simp [oneD, mkF], C.lim, by simp [oneD]⟩
    · by_cases hc : b = h.length
      · omega
      · rw [if_neg hc] at hb
        have := only b hb; omega
    · have := f' t ht
      simp only [List.length_append, List.length_cons, List.length_nil] at this
      rw [if_neg (by omega)]
      cases ho : ow t.b with
      | none => rfl
      | some r => have := only t.b (by rw [ho]; simp); omega
    · simp only [oneD, List.mem_cons, List.not_mem_nil, or_false] at hf
      subst hf
      exact ⟨by simp [mkF], none, none, fb', ⟨[], .inl ⟨rfl, rfl⟩, rfl, by simp⟩, ⟨[], .inl ⟨rfl, rfl⟩, rfl, by simp⟩, by simp, by simp⟩
  · intro b B hb hB
    have hbl := lt_of_get hB
    refine K' _ _ (fun hc => hb ?_) (x _ _ hB)
    subst hc
    simp [C.pr]
  · by_cases hc : b = h.length
    · exact .inr (by omega)
    · rw [if_neg hc] at hb; exact .inl hb)
end
end Go.Proofs.YtnglhicedhcpbaaGreatDoor

/- The document's disk: a sector is appended. -/
namespace Go.Proofs.YtnglhicedhcpbaaGreatDoor
open Go.Ab
open Go.Dsk hiding Bs
set_option linter.unusedVariables false
set_option linter.unusedSimpArgs false
section
variable {h h' : Heap} {ow ow' : Roles} {p : Nat} {qL qP : Option SL} {D : DS} {f : FA} {Q : AV → Heap → Prop}
theorem setOw_none {n b : Nat} {q : Option SL} {r : Role} (hq : ∀ s, q = some s → n ≤ s.b ∨ ow s.b = some r) (hb : ow b = none) (hn : b < n) : setOw ow q r b = none := by
  unfold setOw
  cases q with
  | none => exact hb
  | some s =>
    simp only
    split
    · rename_i he
      subst he
      rcases hq s rfl with h1 | h1
      · omega
      · rw [hb] at h1; cases h1
    · exact hb
theorem setOw_other {b : Nat} {q : Option SL} {r : Role} (hb : ow b = none) (hq : ∀ s, q = some s → s.b ≠ b) : setOw ow q r b = none := by
  unfold setOw
  cases q with
  | none => exact hb
  | some s =>
    simp only
    rw [if_neg (fun hc => hq s rfl hc.symm)]
    exact hb
set_option maxHeartbeats 1000000 in
/-- Put, behind all, on a disk that has power. -/
theorem r128 {s x : Bs} {q : Option SL} {n : Int} (C : RDC h ow p qL qP D) (hon : D.off = false) (hleft : D.left = -1) (hf : D.find s = some f) (H : HasL byE h q x) (hqo : ∀ t, q = some t → ow t.b = none) (hx : x.length = 64) (hpl : D.pends.length ≤ 1000000)
    (h0 : D.limit ≤ D.used → Q (.int .i64 2) h)
    (h1 : ¬ D.limit ≤ D.used → ∀ h' ow', RDR h' ow' p { D with files := upF D.files { f with now := f.now ++ [x] }, pends := D.pends ++ [(f.b, f.now.length, x)] } → DStep ow h ow' h' → Q (.int .i64 0) h') :
    AC Tryz.prog 128 [.ptr (some ⟨p, 0⟩), .str s, .int .i64 n, .sl q, .bool true] h Q := ac128 (by
  unfold vc128 PNew
  obtain ⟨hfm, hfn⟩ := find_mem hf
  refine r55 C (fun hn => by rw [hf] at hn; cases hn) fun f' hf' => ⟨_, rfl, ?_⟩
  rw [hf] at hf'; cases hf'
  rw [H.len, hx]
  refine vif_mk (fun g => by simp at g) (fun _ => vif_mk (fun g => by simp at g) (fun _ => vif_mk (fun g => by cases g) (fun _ => vif_mk (fun _ => ?_) (fun g => by cases g))))
  refine ⟨_, C.at (k := 2) rfl, ?_⟩
  refine r53 C ⟨_, rfl, ⟨_, C.at (k := 2) rfl, rfl⟩, ?_⟩
  refine vif_mk (fun g => ?_) (fun g => ?_)
  · replace g := of_decide_eq_true g
    exact r199 C hon hleft ⟨_, rfl, vif_mk (fun _ => h0 (by omega)) (fun g => by simp at g)⟩
  replace g := of_decide_eq_false g
  have h1 := h1 (by omega)
  have hus := C.used
  have hlm := C.lim
  have hroom : D.used + 1 ≤ 16384 := by omega
  refine r199 C hon hleft ⟨_, rfl, vif_mk (fun g => by simp at g) (fun _ => ?_)⟩
  obtain ⟨hrole, qn, qs, fc, ⟨qss, A, hql, hel⟩, S2, rn, rs⟩ := C.file f hfm
  have hfl := lt_of_get fc
  have hpl' := lt_of_get C.pb
  have hfp : f.b ≠ p := fun hc => by rw [hc, C.pr] at hrole; cases hrole
  have nfl : f.now.length ≤ D.used := by
    have h2 : ∀ (l : List FA), f ∈ l → f.now.length ≤ (l.map (·.now.length)).sum := by
      intro l
      induction l with
      | nil => intro hm; cases hm
      | cons a l ih =>
        intro hm
        simp only [List.map_cons, List.sum_cons]
        rcases List.mem_cons.1 hm with rfl | hm
        · omega
        · have := ih hm; omega
    exact h2 _ hfm
  refine copyNew (E := byE) H (by omega) fun q435 h436 N436 => ?_
  refine vif_mk (fun _ => ?_) (fun g => by cases g)
  have x436 := N436.1
  have l436 := x436.len
  refine ⟨qn, by rw [cells6 (x436 _ _ fc) (by simp)]; rfl, qn, by rw [cells6 (x436 _ _ fc) (by simp)]; rfl, ?_⟩
  have x442 : Ext h436 (h436 ++ [Blk.cells [.sl q435] true]) := .app _ _
  have xx := x436.trans x442
  refine Apd.append (E := slE) (A.ext xx) (HasL.new (E := slE) (l := [q435]) (n := 1) rfl rfl) (by rw [hql]; simp; omega) fun q443 h444 A444 K444 l444 f444 => ?_
  have l444' : h436.length + 1 ≤ h444.length := by simpa using l444
  have fr443 : ∀ t, q443 = some t → h.length ≤ t.b ∨ ow t.b = some (.now f.b) := fun t ht => by
    rcases f444 t ht with a | ⟨u, hu, hb⟩
    · left; simp at a; omega
    · right; rw [← hb]; exact rn u hu
  have big443 : ∀ t, q443 = some t → h436.length ≤ t.b ∨ t.b < h.length := fun t ht => by
    rcases f444 t ht with a | ⟨u, hu, hb⟩
    · left; simp at a; omega
    · right; rw [← hb]; exact HasL.live A.hasL u hu
  have nfb : ¬ (∃ u, qn = some u ∧ u.b = f.b) := fun ⟨u, hu, hb⟩ => by have := rn u hu; rw [hb, hrole] at this; cases this
  have np : ¬ (∃ u, qn = some u ∧ u.b = p) := fun ⟨u, hu, hb⟩ => by have := rn u hu; rw [hb, C.pr] at this; cases this
  have fc444 := K444 _ _ nfb (xx _ _ fc)
  have pb444 := K444 _ _ np (xx _ _ C.pb)
  have hfl444 := lt_of_get fc444
  refine store6v fc444 (by simp) ?_
  rw [show splice [AV.str f.name, .sl qn, .sl qs] 1 [.sl q443] = [AV.str f.name, .sl q443, .sl qs] from rfl]
  have K446 : Keeps (fun b => b = f.b) h444 (h444.set f.b (.cells [.str f.name, .sl q443, .sl qs] true)) := keeps_set rfl
  have fc446 : (h444.set f.b (.cells [.str f.name, .sl q443, .sl qs] true))[f.b]? = some (.cells [.str f.name, .sl q443, .sl qs] true) := List.getElem?_set_self hfl444
  have l446 : (h444.set f.b (.cells [.str f.name, .sl q443, .sl qs] true)).length = h444.length := List.length_set
  have ne443 : ∀ t, q443 = some t → t.b ≠ f.b ∧ t.b ≠ p := fun t ht => by
    rcases fr443 t ht with a | a
    · omega
    · exact ⟨fun hc => by (rw [hc, hrole] at a; cases a), fun hc => by (rw [hc, C.pr] at a; cases a)⟩
  have A446 : Apd slE (h444.set f.b (.cells [.str f.name, .sl q443, .sl qs] true)) q443 (qss ++ [q435]) := A444.keeps K446 fun t ht hc => (ne443 t ht).1 hc
  have pb446 := K446 _ _ (fun hc => hfp hc.symm) pb444
  -- all that was there, but for four blocks
  let X : Nat → Prop := fun c => (∃ u, qn = some u ∧ u.b = c) ∨ c = f.b
  have KX : Keeps X h (h444.set f.b (.cells [.str f.name, .sl q443, .sl qs] true)) := fun c B hc hB => K446 _ _ (fun h => hc (.inr h)) (K444 _ _ (fun h => hc (.inl h)) (xx _ _ hB))
  have KX436 : Keeps X h436 (h444.set f.b (.cells [.str f.name, .sl q443, .sl qs] true)) := fun c B hc hB => K446 _ _ (fun h => hc (.inr h)) (K444 _ _ (fun h => hc (.inl h)) (x442 _ _ hB))
  generalize h444.set f.b (.cells [.str f.name, .sl q443, .sl qs] true) = h446 at *
  have Xown : ∀ c, X c → ow c ≠ none := fun c hc => by
    rcases hc with ⟨u, hu, rfl⟩ | rfl
    · rw [rn u hu]; simp
    · rw [hrole]; simp
  have Xlt : ∀ c, X c → c < h.length := fun c hc => C.live c (Xown c hc)
  refine ⟨qP, by rw [cells6 pb446 (by simp)]; rfl, ?_⟩
  have x450 : Ext h446 (h446 ++ [Blk.cells [] true]) := .app _ _
  have ck : ∀ {hX : Heap}, Ext h446 hX → ∃ q : Option SL, cellsAt hX ⟨p, 0 + 1⟩ 1 = some [.sl q] ∧ LV.val (.sl q) = LV.val (.sl qP) := fun x => ⟨qP, by rw [cells6 (x _ _ pb446) (by simp)]; rfl, rfl⟩
  refine ⟨ck x450, ?_⟩
  -- the bytes are nobody's, or lie elsewhere
  have H446 : HasL byE h446 q x := KX.hasL (fun t ht hc => Xown _ hc (hqo t ht)) H
  have hq446 : HasL byE h446 q435 x := KX436.hasL (fun t ht hc => by have := N436.2.2 t ht; have := Xlt _ hc; omega) N436.hasL
  refine copyNew (E := byE) H446 (by omega) fun q451 h452 N452 => ?_
  have x452 := N452.1
  have l452 := x452.len
  refine ⟨ck x452, ck (x452.trans (.app _ _)), ?_⟩
  obtain ⟨ps, B, hpsl, hpel⟩ := C.pnd
  have qPX : ∀ t, qP = some t → ¬ X t.b := fun t ht hc => by
    have h9 := C.pndr t ht
    rcases hc with ⟨u, hu, hb⟩ | hb
    · have := rn u hu; rw [hb, h9] at this; cases this
    · rw [hb, hrole] at h9; cases h9
  have B446 : Apd pdE h446 qP ps := B.keeps KX qPX
  have hln : slLen qn = f.now.length := by rw [A.hasL.len, hql]
  rw [hln]
  have x454 : Ext h452 (h452 ++ [Blk.cells [.ptr (some ⟨f.b, 0⟩), .int .i64 ((f.now.length : Nat) : Int), .sl q451] true]) := .app _ _
  have xy := x452.trans x454
  refine Apd.append (E := pdE) (B446.ext xy) (HasL.new (E := pdE) (l := [(f.b, f.now.length, q451)]) (n := 1) rfl rfl) (by rw [hpsl]; simp; omega) fun q455 h456 B456 K456 l456 f456 => ?_
  have l456' : h452.length + 1 ≤ h456.length := by simpa using l456
  have fr455 : ∀ t, q455 = some t → h.length ≤ t.b ∨ ow t.b = some .pends := fun t ht => by
    rcases f456 t ht with a | ⟨u, hu, hb⟩
    · left; simp at a; omega
    · right; rw [← hb]; exact C.pndr u hu
  have big455 : ∀ t, q455 = some t → h452.length ≤ t.b ∨ t.b < h.length := fun t ht => by
    rcases f456 t ht with a | ⟨u, hu, hb⟩
    · left; simp at a; omega
    · right; rw [← hb]; exact HasL.live B.hasL u hu
  have np2 : ¬ (∃ u, qP = some u ∧ u.b = p) := fun ⟨u, hu, hb⟩ => by have := C.pndr u hu; rw [hb, C.pr] at this; cases this
  have pb456 := K456 _ _ np2 (xy _ _ pb446)
  have hpl456 := lt_of_get pb456
  refine store6v pb456 (by simp) ?_
  rw [show splice [AV.sl qL, .sl qP, .int .i64 D.limit, .int .i64 D.left, .bool D.off] 1 [.sl q455] = [AV.sl qL, .sl q455, .int .i64 D.limit, .int .i64 D.left, .bool D.off] from rfl]
  have K458 : Keeps (fun b => b = p) h456 (h456.set p (.cells [.sl qL, .sl q455, .int .i64 D.limit, .int .i64 D.left, .bool D.off] true)) := keeps_set rfl
  have pb458 : (h456.set p (.cells [.sl qL, .sl q455, .int .i64 D.limit, .int .i64 D.left, .bool D.off] true))[p]? = some (.cells [.sl qL, .sl q455, .int .i64 D.limit, .int .i64 D.left, .bool D.off] true) := List.getElem?_set_self hpl456
  have l458 : (h456.set p (.cells [.sl qL, .sl q455, .int .i64 D.limit, .int .i64 D.left, .bool D.off] true)).length = h456.length := List.length_set
  have ne455 : ∀ t, q455 = some t → t.b ≠ p := fun t ht hc => by
    rcases fr455 t ht with a | a
    · omega
    · rw [hc, C.pr] at a; cases a
  have B458 := B456.keeps K458 fun t ht hc => ne455 t ht hc
  let Y : Nat → Prop := fun c => (∃ u, qP = some u ∧ u.b = c) ∨ c = p
  have KY : Keeps Y h446 (h456.set p (.cells [.sl qL, .sl q455, .int .i64 D.limit, .int .i64 D.left, .bool D.off] true)) := fun c B hc hB => K458 _ _ (fun h => hc (.inr h)) (K456 _ _ (fun h => hc (.inl h)) (xy _ _ hB))
  have KY452 : Keeps Y h452 (h456.set p (.cells [.sl qL, .sl q455, .int .i64 D.limit, .int .i64 D.left, .bool D.off] true)) := fun c B hc hB => K458 _ _ (fun h => hc (.inr h)) (K456 _ _ (fun h => hc (.inl h)) (x454 _ _ hB))
  have Yown : ∀ c, Y c → ow c ≠ none := fun c hc => by
    rcases hc with ⟨u, hu, rfl⟩ | rfl
    · rw [C.pndr u hu]; simp
    · rw [C.pr]; simp
  have KZ : Keeps (fun c => X c ∨ Y c) h (h456.set p (.cells [.sl qL, .sl q455, .int .i64 D.limit, .int .i64 D.left, .bool D.off] true)) := fun c B hc hB => KY _ _ (fun h => hc (.inr h)) (KX _ _ (fun h => hc (.inl h)) hB)
  generalize h456.set p (.cells [.sl qL, .sl q455, .int .i64 D.limit, .int .i64 D.left, .bool D.off] true) = h458 at *
  have Zown : ∀ c, ow c = none → ¬ (X c ∨ Y c) := fun c hc h => by
    rcases h with h | h
    · exact Xown c h hc
    · exact Yown c h hc
  -- the roles
  have ow1k := setOw_keep (ow := ow) (n := h.length) (q := q443) (r := .now f.b) C.live fr443
  have fr455' : ∀ t, q455 = some t → h.length ≤ t.b ∨ setOw ow q443 (.now f.b) t.b = some .pends := fun t ht => by
    rcases fr455 t ht with a | a
    · exact .inl a
    · exact .inr (ow1k _ _ a)
  have own2 : ∀ b, setOw (setOw ow q443 (.now f.b)) q455 .pends b ≠ none → ow b ≠ none ∨ h.length ≤ b := fun b hb => by
    rcases setOw_some fr455' b hb with h9 | h9
    · rcases setOw_some fr443 b h9 with h8 | h8
      · exact .inl h8
      · exact .inr h8
    · exact .inr h9
  have ne4 : ∀ t u, q443 = some t → q455 = some u → t.b ≠ u.b := fun t u ht hu hc => by
    rcases big455 u hu with a | a
    · have := HasL.live A446.hasL t ht; omega
    · rcases fr443 t ht with b | b
      · omega
      · rcases fr455 u hu with d | d
        · omega
        · rw [hc, d] at b; cases b
  have ow2k : ∀ b r', ow b = some r' → setOw (setOw ow q443 (.now f.b)) q455 .pends b = some r' := fun b r' hb => by
    have h9 := ow1k b r' hb
    unfold setOw at h9 ⊢
    cases q455 with
    | none => exact h9
    | some u =>
      simp only
      split
      · rename_i he
        subst he
        rcases fr455 u rfl with d | d
        · have := C.live u.b (by rw [hb]; simp); omega
        · rw [d] at hb; exact hb
      · exact h9
  have none2 : ∀ b, ow b = none → b < h.length → setOw (setOw ow q443 (.now f.b)) q455 .pends b = none := fun b hb hl => setOw_none fr455' (setOw_none fr443 hb hl) hl
  refine h1 h458 (setOw (setOw ow q443 (.now f.b)) q455 .pends) ⟨qL, q455, ?_⟩ ⟨fun c B hc hB => KZ c B (fun h => hc (by rcases h with h | h; exact Xown c h; exact Yown c h)) hB, by omega, own2⟩
  have l45 : h.length ≤ h446.length := by omega
  have ll58 : h452.length + 1 ≤ h458.length := by omega
  have A458 : Apd slE h458 q443 (qss ++ [q435]) := A446.keeps KY fun t ht hc => by
    rcases hc with ⟨u, hu, hb⟩ | hb
    · rcases fr443 t ht with a | a
      · have := HasL.live B.hasL u hu; omega
      · have := C.pndr u hu
        rw [hb, a] at this; cases this
    · exact (ne443 t ht).2 hb
  have Ylt : ∀ c, Y c → c < h.length := fun c hc => C.live c (Yown c hc)
  have h435 : HasL byE h458 q435 x := KY.hasL (fun t ht hc => by have := N436.2.2 t ht; have := Ylt _ hc; omega) hq446
  have h451 : HasL byE h458 q451 x := KY452.hasL (fun t ht hc => by have := N452.2.2 t ht; have := Ylt _ hc; omega) N452.hasL
  have none435 : ∀ t, q435 = some t → setOw (setOw ow q443 (.now f.b)) q455 .pends t.b = none := fun t ht => by
    have h9 := N436.2.2 t ht
    have h8 := HasL.live N436.hasL t ht
    have hn : ow t.b = none := by
      cases ho : ow t.b with
      | none => rfl
      | some r => have := C.live t.b (by rw [ho]; simp); omega
    refine setOw_other (setOw_other hn fun u hu hc => ?_) fun u hu hc => ?_
    · rcases big443 u hu with a | a <;> omega
    · rcases big455 u hu with a | a <;> omega
  have none451 : ∀ t, q451 = some t → setOw (setOw ow q443 (.now f.b)) q455 .pends t.b = none := fun t ht => by
    have h9 := N452.2.2 t ht
    have h8 := HasL.live N452.hasL t ht
    have hn : ow t.b = none := by
      cases ho : ow t.b with
      | none => rfl
      | some r => have := C.live t.b (by rw [ho]; simp); omega
    refine setOw_other (setOw_other hn fun u hu hc => ?_) fun u hu hc => ?_
    · have := HasL.live A446.hasL u hu; omega
    · rcases big455 u hu with a | a <;> omega
  have self455 : ∀ t, q455 = some t → setOw (setOw ow q443 (.now f.b)) q455 .pends t.b = some .pends := fun t ht => setOw_self t ht
  have self443 : ∀ t, q443 = some t → setOw (setOw ow q443 (.now f.b)) q455 .pends t.b = some (.now f.b) := fun t ht => by
    have h9 : setOw ow q443 (.now f.b) t.b = some (.now f.b) := setOw_self t ht
    have h8 : ∀ u, q455 = some u → u.b ≠ t.b := fun u hu hc => ne4 t u ht hu hc.symm
    generalize setOw ow q443 (.now f.b) = ow1 at h9
    unfold setOw
    cases q455 with
    | none => exact h9
    | some u =>
      simp only
      rw [if_neg (fun hc => h8 u rfl hc.symm)]
      exact h9
  have cases2 : ∀ b, setOw (setOw ow q443 (.now f.b)) q455 .pends b ≠ none → ow b ≠ none ∨ (∃ t, q443 = some t ∧ t.b = b) ∨ (∃ t, q455 = some t ∧ t.b = b) := fun b hb => by
    by_cases c1 : ∃ t, q455 = some t ∧ t.b = b
    · exact .inr (.inr c1)
    by_cases c2 : ∃ t, q443 = some t ∧ t.b = b
    · exact .inr (.inl c2)
    left
    intro hn
    exact hb (setOw_other (setOw_other hn fun u hu hc => c2 ⟨u, hu, hc⟩) fun u hu hc => c1 ⟨u, hu, hc⟩)
  have Sk : ∀ {q0 : Option SL} {l0 : List Bs}, SecL h ow q0 l0 → (∀ t, q0 = some t → ¬ (X t.b ∨ Y t.b)) → SecL h458 (setOw (setOw ow q443 (.now f.b)) q455 .pends) q0 l0 := fun S hq => S.keeps KZ hq (fun b hb _ => Zown b hb) none2
  refine ⟨fun b hb => ?_, ow2k _ _ C.pr, pb458, KZ.hasL (fun t ht => Zown _ (C.lstr t ht)) (by rw [show (upF D.files { f with now := f.now ++ [x] }).map (·.b) = D.files.map (·.b) from upF_b]; exact C.lst), fun t ht => none2 _ (C.lstr t ht) (HasL.live C.lst t ht), ⟨ps ++ [(f.b, f.now.length, q451)], B458, by simp [hpsl], fun k x' y h2 h3 => ?_⟩, self455, fun g hg => ?_, ?_, ?_, fun y hy => ?_, ?_, ?_, C.lim, C.lft⟩
  · rcases cases2 b hb with h9 | ⟨t, ht, rfl⟩ | ⟨t, ht, rfl⟩
    · have := C.live b h9; omega
    · exact HasL.live A458.hasL t ht
    · exact HasL.live B458.hasL t ht
  · rcases Nat.lt_or_ge k ps.length with hk | hk
    · rw [List.getElem?_append_left hk] at h2
      rw [List.getElem?_append_left (by omega)] at h3
      obtain ⟨a1, a2, a3, a4, a5⟩ := hpel k x' y h2 h3
      exact ⟨a1, a2, KZ.hasL (fun t ht => Zown _ (a5 t ht)) a3, a4, fun t ht => none2 _ (a5 t ht) (HasL.live a3 t ht)⟩
    · rw [List.getElem?_append_right hk] at h2
      rw [List.getElem?_append_right (by omega), ← hpsl] at h3
      have hk0 : k - ps.length = 0 := by
        have := (List.getElem?_eq_some_iff.1 h2).1
        simpa using this
      rw [hk0] at h2 h3
      cases h2; cases h3
      exact ⟨rfl, rfl, h451, hx, none451⟩
  · rcases upF_mem hg with rfl | ⟨hgm, hgb⟩
    · refine ⟨ow2k _ _ hrole, q443, qs, ?_, ⟨qss ++ [q435], A458, by simp [hql], fun k t y h2 h3 => ?_⟩, Sk S2 (fun t ht hc => ?_), self443, fun t ht => ow2k _ _ (rs t ht)⟩
      · exact KY _ _ (fun hc => by
          rcases hc with ⟨u, hu, hb⟩ | hb
          · have := C.pndr u hu; rw [hb, hrole] at this; cases this
          · exact hfp hb) fc446
      · rcases Nat.lt_or_ge k qss.length with hk | hk
        · rw [List.getElem?_append_left hk] at h2
          rw [List.getElem?_append_left (by omega)] at h3
          obtain ⟨a1, a2, a3⟩ := hel k t y h2 h3
          exact ⟨KZ.hasL (fun u hu => Zown _ (a3 u hu)) a1, a2, fun u hu => none2 _ (a3 u hu) (HasL.live a1 u hu)⟩
        · rw [List.getElem?_append_right hk] at h2
          rw [List.getElem?_append_right (by omega), ← hql] at h3
          have hk0 : k - qss.length = 0 := by
            have := (List.getElem?_eq_some_iff.1 h2).1
            simpa using this
          rw [hk0] at h2 h3
          cases h2; cases h3
          exact ⟨h435, hx, none435⟩
      · have h9 := rs t ht
        rcases hc with (⟨u, hu, hb⟩ | hb) | (⟨u, hu, hb⟩ | hb)
        · have := rn u hu; rw [hb, h9] at this; cases this
        · rw [hb, hrole] at h9; cases h9
        · have := C.pndr u hu; rw [hb, h9] at this; cases this
        · rw [hb, C.pr] at h9; cases h9
    · obtain ⟨grole, gn, gs, gc, G1, G2, gr1, gr2⟩ := C.file g hgm
      have hgb' : g.b ≠ f.b := hgb
      refine ⟨ow2k _ _ grole, gn, gs, KZ _ _ (fun hc => ?_) gc, Sk G1 (fun t ht hc => ?_), Sk G2 (fun t ht hc => ?_), fun t ht => ow2k _ _ (gr1 t ht), fun t ht => ow2k _ _ (gr2 t ht)⟩
      · rcases hc with (⟨u, hu, hb⟩ | hb) | (⟨u, hu, hb⟩ | hb)
        · have := rn u hu; rw [hb, grole] at this; cases this
        · exact hgb' hb
        · have := C.pndr u hu; rw [hb, grole] at this; cases this
        · rw [hb, C.pr] at grole; cases grole
      · have h9 := gr1 t ht
        rcases hc with (⟨u, hu, hb⟩ | hb) | (⟨u, hu, hb⟩ | hb)
        · have := rn u hu; rw [hb, h9] at this
          simp only [Option.some.injEq, Role.now.injEq] at this
          exact hgb' this
        · rw [hb, hrole] at h9; cases h9
        · have := C.pndr u hu; rw [hb, h9] at this; cases this
        · rw [hb, C.pr] at h9; cases h9
      · have h9 := gr2 t ht
        rcases hc with (⟨u, hu, hb⟩ | hb) | (⟨u, hu, hb⟩ | hb)
        · have := rn u hu; rw [hb, h9] at this; cases this
        · rw [hb, hrole] at h9; cases h9
        · have := C.pndr u hu; rw [hb, h9] at this; cases this
        · rw [hb, C.pr] at h9; cases h9
  · have : (upF D.files { f with now := f.now ++ [x] }).map (·.name) = D.files.map (·.name) := by
      unfold upF
      rw [List.map_map]
      apply List.map_congr_left
      intro g hg
      simp only [Function.comp]
      split
      · rename_i hb
        rw [uniq_b C.blocks hg hfm hb]
      · rfl
    rw [this]; exact C.names
  · rw [show (upF D.files { f with now := f.now ++ [x] }).map (·.b) = D.files.map (·.b) from upF_b]; exact C.blocks
  · rcases List.mem_append.1 hy with hy | hy
    · obtain ⟨g, hg, e1, e2⟩ := C.pfile y hy
      by_cases hb : g.b = f.b
      · have := uniq_b C.blocks hg hfm hb
        subst this
        exact ⟨_, upF_in hfm rfl, e1, by simp only [List.length_append]; omega⟩
      · exact ⟨g, List.mem_map.2 ⟨g, hg, if_neg hb⟩, e1, e2⟩
    · simp only [List.mem_cons, List.not_mem_nil, or_false] at hy
      subst hy
      exact ⟨_, upF_in hfm rfl, rfl, by simp⟩
  · rw [show (upF D.files { f with now := f.now ++ [x] }).length = D.files.length by simp [upF]]; exact C.many
  · have key : ∀ (l : List FA), (l.map (·.b)).Nodup → f ∈ l → ((upF l { f with now := f.now ++ [x] }).map (·.now.length)).sum = (l.map (·.now.length)).sum + 1 := by
      intro l
      induction l with
      | nil => intro _ hm; cases hm
      | cons a l ih =>
        intro hnd hm
        rw [List.map_cons, List.nodup_cons] at hnd
        by_cases ha : a.b = f.b
        · have hfa : f = a := by
            rcases List.mem_cons.1 hm with h | h
            · exact h
            · exact absurd (List.mem_map.2 ⟨f, h, ha.symm⟩) hnd.1
          subst hfa
          have hno : upF l { f with now := f.now ++ [x] } = l := by
            unfold upF
            have : ∀ (m : List FA), (∀ g ∈ m, g.b ≠ f.b) → m.map (fun g => if g.b = ({ f with now := f.now ++ [x] } : FA).b then { f with now := f.now ++ [x] } else g) = m := by
              intro m hm
              induction m with
              | nil => rfl
              | cons g m ih2 => rw [List.map_cons, if_neg (hm g (by simp)), ih2 (fun g hg => hm g (by simp [hg]))]
            exact this l fun g hg hc => hnd.1 (List.mem_map.2 ⟨g, hg, hc⟩)
          have e : upF (f :: l) { f with now := f.now ++ [x] } = { f with now := f.now ++ [x] } :: upF l { f with now := f.now ++ [x] } := by simp [upF]
          rw [e, hno]
          simp; omega
        · have hm' : f ∈ l := by
            rcases List.mem_cons.1 hm with h | h
            · exact absurd (by rw [h]) ha
            · exact h
          have e : upF (a :: l) { f with now := f.now ++ [x] } = a :: upF l { f with now := f.now ++ [x] } := by simp [upF, ha]
          rw [e]
          simp only [List.map_cons, List.sum_cons]
          rw [ih hnd.2 hm']; omega
    rw [key D.files C.blocks hfm]
    exact hroom)
end
end Go.Proofs.YtnglhicedhcpbaaGreatDoor

/- The document's disk: what is pending is kept. -/
namespace Go.Proofs.YtnglhicedhcpbaaGreatDoor
open Go.Ab
open Go.Dsk hiding Bs
set_option linter.unusedVariables false
set_option linter.unusedSimpArgs false
section
variable {h h' : Heap} {ow ow' : Roles} {p : Nat} {qL qP : Option SL} {D : DS} {f : FA} {Q : AV → Heap → Prop}
theorem names_upF {fs : List FA} {f f' : FA} (hn : (fs.map (·.b)).Nodup) (hf : f ∈ fs) (hb : f'.b = f.b) (hm : f'.name = f.name) : (upF fs f').map (·.name) = fs.map (·.name) := by
  unfold upF
  rw [List.map_map]
  apply List.map_congr_left
  intro g hg
  simp only [Function.comp]
  split
  · rename_i h
    rw [hm, uniq_b hn hg hf (by rw [h, hb])]
  · rfl
/-- A file's kept sectors are others. -/
theorem RDC.setSafe (C : RDC h ow p qL qP D) (hf : f ∈ D.files) {h1 : Heap} {qn qs q' : Option SL} (fc : h[f.b]? = some (.cells [.str f.name, .sl qn, .sl qs] true)) (S1 : SecL h ow qn f.now) (rn : ∀ s, qn = some s → ow s.b = some (.now f.b))
    {safe' : List Bs} {qss : List (Option SL)} (A : Apd slE h1 q' qss) (hql : qss.length = safe'.length) (hel : ∀ (k : Nat) (t : Option SL) (x : Bs), qss[k]? = some t → safe'[k]? = some x → HasL byE h1 t x ∧ x.length = 64 ∧ ∀ s, t = some s → ow s.b = none ∧ ∀ u, q' = some u → u.b ≠ s.b)
    (K : Keeps (fun b => ow b = some (.safe f.b)) h h1) (hl : h.length ≤ h1.length) (hq : ∀ s, q' = some s → h.length ≤ s.b ∨ ow s.b = some (.safe f.b)) :
    RDC (h1.set f.b (.cells [.str f.name, .sl qn, .sl q'] true)) (setOw ow q' (.safe f.b)) p qL qP { D with files := upF D.files { f with safe := safe' } } ∧ DStep ow h (setOw ow q' (.safe f.b)) (h1.set f.b (.cells [.str f.name, .sl qn, .sl q'] true)) := by
  obtain ⟨hrole, _⟩ := C.file f hf
  have hfl := lt_of_get fc
  have nfs : ¬ ow f.b = some (.safe f.b) := fun hc => by rw [hrole] at hc; cases hc
  have fc1 := K _ _ nfs fc
  have hfl1 := lt_of_get fc1
  have K2 : Keeps (fun b => b = f.b) h1 (h1.set f.b (.cells [.str f.name, .sl qn, .sl q'] true)) := keeps_set rfl
  have l2 : (h1.set f.b (.cells [.str f.name, .sl qn, .sl q'] true)).length = h1.length := List.length_set
  have fc2 : (h1.set f.b (.cells [.str f.name, .sl qn, .sl q'] true))[f.b]? = some (.cells [.str f.name, .sl qn, .sl q'] true) := List.getElem?_set_self hfl1
  have KX : Keeps (fun b => ow b = some (.safe f.b) ∨ b = f.b) h (h1.set f.b (.cells [.str f.name, .sl qn, .sl q'] true)) := fun c B hc hB => K2 _ _ (fun h => hc (.inr h)) (K _ _ (fun h => hc (.inl h)) hB)
  have neq : ∀ t, q' = some t → t.b ≠ f.b := fun t ht hc => by
    rcases hq t ht with a | a
    · omega
    · rw [hc, hrole] at a; cases a
  have A2 := A.keeps K2 fun t ht hc => neq t ht hc
  have own1 : ∀ b, ow b = none → ¬ (ow b = some (.safe f.b) ∨ b = f.b) := fun b hb hc => by
    rcases hc with hc | hc
    · rw [hb] at hc; cases hc
    · rw [hc, hrole] at hb; cases hb
  have owk := setOw_keep (ow := ow) (n := h.length) (q := q') (r := .safe f.b) C.live hq
  have none1 : ∀ b, ow b = none → b < h.length → setOw ow q' (.safe f.b) b = none := fun b hb hbl => setOw_none hq hb hbl
  have cases1 : ∀ b, setOw ow q' (.safe f.b) b ≠ none → ow b ≠ none ∨ (∃ t, q' = some t ∧ t.b = b) := fun b hb => by
    by_cases c1 : ∃ t, q' = some t ∧ t.b = b
    · exact .inr c1
    left
    intro hn
    exact hb (setOw_other hn fun u hu hc => c1 ⟨u, hu, hc⟩)
  have Sk : ∀ {q0 : Option SL} {l0 : List Bs}, SecL h ow q0 l0 → (∀ t, q0 = some t → ¬ (ow t.b = some (.safe f.b) ∨ t.b = f.b)) → SecL (h1.set f.b (.cells [.str f.name, .sl qn, .sl q'] true)) (setOw ow q' (.safe f.b)) q0 l0 := fun S hq => S.keeps KX hq (fun b hb _ => own1 b hb) none1
  refine ⟨⟨fun b hb => ?_, owk _ _ C.pr, KX _ _ (fun hc => ?_) C.pb, KX.hasL (fun t ht => own1 _ (C.lstr t ht)) (by rw [show (upF D.files { f with safe := safe' }).map (·.b) = D.files.map (·.b) from upF_b]; exact C.lst), fun t ht => none1 _ (C.lstr t ht) (HasL.live C.lst t ht), ?_, fun t ht => owk _ _ (C.pndr t ht), fun g hg => ?_, ?_, ?_, fun y hy => ?_, ?_, ?_, C.lim, C.lft⟩, ⟨fun b B hb hB => KX b B (fun hc => hb ?_) hB, by omega, setOw_some hq⟩⟩
  · rcases cases1 b hb with h9 | ⟨t, ht, rfl⟩
    · have := C.live b h9; omega
    · exact HasL.live A2.hasL t ht
  · rcases hc with hc | hc
    · rw [C.pr] at hc; cases hc
    · rw [← hc, C.pr] at hrole; cases hrole
  · obtain ⟨ps, B, hpsl, hpel⟩ := C.pnd
    refine ⟨ps, B.keeps KX (fun t ht hc => ?_), hpsl, fun k x y h2 h3 => ?_⟩
    · have h9 := C.pndr t ht
      rcases hc with hc | hc
      · rw [h9] at hc; cases hc
      · rw [hc, hrole] at h9; cases h9
    · obtain ⟨a1, a2, a3, a4, a5⟩ := hpel k x y h2 h3
      exact ⟨a1, a2, KX.hasL (fun t ht => own1 _ (a5 t ht)) a3, a4, fun t ht => none1 _ (a5 t ht) (HasL.live a3 t ht)⟩
  · rcases upF_mem hg with rfl | ⟨hgm, hgb⟩
    · refine ⟨owk _ _ hrole, qn, q', fc2, Sk S1 (fun t ht hc => ?_), ⟨qss, A2, hql, fun k t y h2 h3 => ?_⟩, fun t ht => owk _ _ (rn t ht), setOw_self⟩
      · have h9 := rn t ht
        rcases hc with hc | hc
        · rw [h9] at hc; cases hc
        · rw [hc, hrole] at h9; cases h9
      · obtain ⟨a1, a2, a3⟩ := hel k t y h2 h3
        refine ⟨K2.hasL (fun u hu hc => ?_) a1, a2, fun u hu => setOw_other (a3 u hu).1 fun v hv => (a3 u hu).2 v hv⟩
        have := (a3 u hu).1
        rw [hc, hrole] at this; cases this
    · obtain ⟨grole, gn, gs, gc, G1, G2, gr1, gr2⟩ := C.file g hgm
      have hgb' : g.b ≠ f.b := hgb
      refine ⟨owk _ _ grole, gn, gs, KX _ _ (fun hc => ?_) gc, Sk G1 (fun t ht hc => ?_), Sk G2 (fun t ht hc => ?_), fun t ht => owk _ _ (gr1 t ht), fun t ht => owk _ _ (gr2 t ht)⟩
      · rcases hc with hc | hc
        · rw [grole] at hc; cases hc
        · exact hgb' hc
      · have h9 := gr1 t ht
        rcases hc with hc | hc
        · rw [h9] at hc; cases hc
        · rw [hc, hrole] at h9; cases h9
      · have h9 := gr2 t ht
        rcases hc with hc | hc
        · rw [h9] at hc
          simp only [Option.some.injEq, Role.safe.injEq] at hc
          exact hgb' hc
        · rw [hc, hrole] at h9; cases h9
  · show ((upF D.files { f with safe := safe' }).map (·.name)).Nodup
    rw [names_upF (f' := { f with safe := safe' }) C.blocks hf rfl rfl]; exact C.names
  · rw [show (upF D.files { f with safe := safe' }).map (·.b) = D.files.map (·.b) from upF_b]; exact C.blocks
  · obtain ⟨g, hg, e1, e2⟩ := C.pfile y hy
    by_cases hb : g.b = f.b
    · have := uniq_b C.blocks hg hf hb
      subst this
      exact ⟨_, upF_in hf rfl, e1, e2⟩
    · exact ⟨g, List.mem_map.2 ⟨g, hg, if_neg hb⟩, e1, e2⟩
  · rw [show (upF D.files { f with safe := safe' }).length = D.files.length by simp [upF]]; exact C.many
  · have : (upF D.files { f with safe := safe' }).map (·.now.length) = D.files.map (·.now.length) := by
      unfold upF
      rw [List.map_map]
      apply List.map_congr_left
      intro g hg
      simp only [Function.comp]
      split
      · rename_i hb
        rw [uniq_b C.blocks hg hf hb]
      · rfl
    rw [this]; exact C.used
  · rcases hc with hc | hc
    · show ow b ≠ none
      rw [hc]; simp
    · show ow b ≠ none
      rw [hc, hrole]; simp
end
end Go.Proofs.YtnglhicedhcpbaaGreatDoor

/- The document's disk: keep, Sync. -/
namespace Go.Proofs.YtnglhicedhcpbaaGreatDoor
open Go.Ab
open Go.Dsk hiding Bs
set_option linter.unusedVariables false
set_option linter.unusedSimpArgs false
section
variable {h h' : Heap} {ow ow' : Roles} {p : Nat} {qL qP : Option SL} {D : DS} {f : FA} {Q : AV → Heap → Prop}
/-- The file as it is now, of other kept sectors. -/
def saf (D : DS) (f : FA) (s : List Bs) : DS := { D with files := upF D.files { f with safe := s } }
theorem saf_saf {s t : List Bs} : saf (saf D f s) { f with safe := s } t = saf D f t := by
  unfold saf
  simp only
  rw [upF_upF (f1 := { f with safe := s }) (f2 := { f with safe := t }) rfl]
theorem saf_mem {s : List Bs} (hf : f ∈ D.files) : { f with safe := s } ∈ (saf D f s).files := upF_in hf rfl
set_option maxHeartbeats 1000000 in
theorem r197 {i : Nat} {q : Option SL} {x : Bs} (C : RDC h ow p qL qP D) (hf : f ∈ D.files) (hs : f.safe.length ≤ 20000) (hi : i < 20000) (H : HasL byE h q x) (hx : x.length = 64) (hqo : ∀ t, q = some t → ow t.b = none)
    (hQ : ∀ s' h' ow', s'.length ≤ 20000 → RDC h' ow' p qL qP (saf D f s') → DStep ow h ow' h' → Q (.tup []) h') : AC Tryz.prog 197 [.ptr (some ⟨f.b, 0⟩), .int .i64 (i : Nat), .sl q, .int .i64 64] h Q := ac197 (by
  unfold vc197 PNew PMake
  refine vif_mk (fun g => by simp at g) (fun _ => ?_)
  have hself : saf D f f.safe = D := by
    unfold saf
    have : upF D.files { f with safe := f.safe } = D.files := upF_self C.blocks hf
    rw [this]
  refine ⟨fun xs h7 => xs = [] ∧ ∃ (s' : List Bs) (ow7 : Roles), s'.length ≤ 20000 ∧ RDC h7 ow7 p qL qP (saf D f s') ∧ DStep ow h ow7 h7, fun _ h7 => match cellsAt h7 ⟨f.b, 0 + 2⟩ 1 with | some [.sl q] => 20002 - slLen q | _ => 0, ⟨rfl, f.safe, ow, by omega, by rw [hself]; exact C, .refl _ _⟩, ?_⟩
  rintro h7 ⟨_, s', ow7, hs7, C7, S7⟩
  have hm7 := saf_mem (D := D) (s := s') hf
  obtain ⟨hrole, qn, qs, fc, S1, ⟨qss, A, hql, hel⟩, rn, rs⟩ := C7.file _ hm7
  simp only at hrole fc S1 rn rs hql hel
  have hfl := lt_of_get fc
  have c2 : cellsAt h7 ⟨f.b, 0 + 2⟩ 1 = some [.sl qs] := by rw [cells6 fc (by simp)]; rfl
  have hlen : slLen qs = s'.length := by rw [A.hasL.len, hql]
  refine ⟨qs, c2, ?_⟩
  rw [hlen]
  refine vif_mk (fun g => ?_) (fun g => ?_)
  · -- one more sector of zeros
    replace g := of_decide_eq_true g
    refine ⟨qs, c2, ?_⟩
    refine ⟨by omega, by omega, by omega, by simp only [maxI]; omega, ?_⟩
    have x13 : Ext h7 (h7 ++ [Blk.cells (List.replicate (64 : Int).toNat [AV.int .u8 0]).flatten true]) := .app _ _
    have z64 : (List.replicate (64 : Int).toNat [AV.int .u8 0]).flatten = byE.all (List.replicate 64 0) := by rw [byE_all]; rfl
    rw [z64] at x13 ⊢
    have ck : ∀ {hX : Heap}, Ext h7 hX → ∃ q : Option SL, cellsAt hX ⟨f.b, 0 + 2⟩ 1 = some [.sl q] ∧ LV.val (.sl q) = LV.val (.sl qs) := fun x => ⟨qs, by rw [cells6 (x _ _ fc) (by simp)]; rfl, rfl⟩
    have x15 := x13.trans (.app (h7 ++ [Blk.cells (byE.all (List.replicate 64 0)) true]) [Blk.cells [.sl (some ⟨h7.length, 0, 64, 64, 0⟩)] true])
    refine ⟨ck x13, ck x15, ?_⟩
    have Hz : HasL byE (h7 ++ [Blk.cells (byE.all (List.replicate 64 0)) true]) (some ⟨h7.length, 0, 64, 64, 0⟩) (List.replicate 64 0) := HasL.new (E := byE) (by simp) rfl
    refine Apd.append (E := slE) (A.ext x15) (HasL.new (E := slE) (l := [some ⟨h7.length, 0, 64, 64, 0⟩]) (n := 1) rfl rfl) (by rw [hql]; simp; omega) fun q16 h17 A17 K17 l17 f17 => ?_
    have l17' : h7.length + 2 ≤ h17.length := by simpa using l17
    have fr16 : ∀ t, q16 = some t → h7.length ≤ t.b ∨ ow7 t.b = some (.safe f.b) := fun t ht => by
      rcases f17 t ht with a | ⟨u, hu, hb⟩
      · left; simp at a; omega
      · right; rw [← hb]; exact rs u hu
    have big16 : ∀ t, q16 = some t → h7.length + 2 ≤ t.b ∨ ow7 t.b = some (.safe f.b) := fun t ht => by
      rcases f17 t ht with a | ⟨u, hu, hb⟩
      · left; simp at a; omega
      · right; rw [← hb]; exact rs u hu
    have nn : ow7 h7.length = none := by
      cases ho : ow7 h7.length with
      | none => rfl
      | some r => have := C7.live h7.length (by rw [ho]; simp); omega
    have KX : Keeps (fun b => ow7 b = some (.safe f.b)) h7 h17 := fun c B hc hB => K17 _ _ (fun ⟨u, hu, hb⟩ => hc (by rw [← hb]; exact rs u hu)) (x15 _ _ hB)
    have N := C7.setSafe (f := { f with safe := s' }) hm7 fc S1 rn (safe' := s' ++ [List.replicate 64 0]) A17 (by simp [hql]) (fun k t y h2 h3 => by
      rcases Nat.lt_or_ge k qss.length with hk | hk
      · rw [List.getElem?_append_left hk] at h2
        rw [List.getElem?_append_left (by omega)] at h3
        obtain ⟨a1, a2, a3⟩ := hel k t y h2 h3
        refine ⟨KX.hasL (fun u hu hc => by rw [a3 u hu] at hc; cases hc) a1, a2, fun u hu => ⟨a3 u hu, fun v hv hc => ?_⟩⟩
        rcases fr16 v hv with b | b
        · have := HasL.live a1 u hu; omega
        · rw [hc, a3 u hu] at b; cases b
      · rw [List.getElem?_append_right hk] at h2
        rw [List.getElem?_append_right (by omega), ← hql] at h3
        have hk0 : k - qss.length = 0 := by
          have := (List.getElem?_eq_some_iff.1 h2).1
          simpa using this
        rw [hk0] at h2 h3
        cases h2; cases h3
        refine ⟨K17.hasL (fun u hu ⟨v, hv, hb⟩ => ?_) (Hz.mono (.app _ _)), by simp, fun u hu => ?_⟩
        · cases hu
          have := rs v hv
          simp only at hb
          rw [hb, nn] at this; cases this
        · cases hu
          refine ⟨nn, fun v hv hc => ?_⟩
          rcases big16 v hv with b | b
          · simp only at hc; omega
          · simp only at hc; rw [hc, nn] at b; cases b) KX (by omega) fr16
    obtain ⟨C19, S19⟩ := N
    have fc17 := KX _ _ (fun hc => by have hc : ow7 f.b = some (.safe f.b) := hc; rw [hrole] at hc; cases hc) fc
    refine store6v (o := 2) fc17 (by simp) ?_
    rw [show splice [AV.str f.name, .sl qn, .sl qs] 2 [.sl q16] = [AV.str f.name, .sl qn, .sl q16] from rfl]
    have hsaf : ({ (saf D f s') with files := upF (saf D f s').files { ({ f with safe := s' } : FA) with safe := s' ++ [List.replicate 64 0] } } : DS) = saf D f (s' ++ [List.replicate 64 0]) := saf_saf
    simp only at C19 S19
    have hfl17 := lt_of_get fc17
    have c19 : cellsAt (h17.set f.b (.cells [.str f.name, .sl qn, .sl q16] true)) ⟨f.b, 0 + 2⟩ 1 = some [.sl q16] := by
      rw [cells6 (List.getElem?_set_self hfl17) (by simp)]; rfl
    refine ⟨trivial, ⟨rfl, s' ++ [List.replicate 64 0], _, by simp; omega, by rw [← hsaf]; exact C19, S7.trans S19⟩, ?_⟩
    simp only [c2, c19]
    have l16 : slLen q16 = s'.length + 1 := by rw [A17.hasL.len]; simp [hql]
    rw [hlen, l16]; omega
  · replace g := of_decide_eq_false g
    have hil : i < s'.length := by omega
    have x23 : Ext h7 (h7 ++ [Blk.cells [] true]) := .app _ _
    refine ⟨qs, by rw [cells6 (x23 _ _ fc) (by simp)]; rfl, ?_⟩
    have hqi : qss[i]? = some (qss[i]'(by omega)) := List.getElem?_eq_getElem _
    have hsi : s'[i]? = some s'[i] := List.getElem?_eq_getElem hil
    refine HasL.idx (E := slE) (A.hasL.mono x23) (by omega) (by omega) fun p26 q27 hq27 hc26 => ⟨q27, hc26, ?_⟩
    rw [Int.toNat_natCast] at hq27
    obtain ⟨Hc, hc64, hcn⟩ := hel i q27 _ hq27 hsi
    generalize s'[i] = y at Hc hc64 hsi
    refine copyNew (E := byE) Hc (by omega) fun q28 h29 N29 => ?_
    have x29 := N29.1
    obtain ⟨a, o, rfl, ho, hab⟩ : ∃ a o, q28 = some ⟨a, 0, 64, 64, o⟩ ∧ (o = 0 ∨ o = 1) ∧ h29[a]? = some (.cells (byteAVs y) true) := by
      rcases N29.2.1 with ⟨rfl, hn⟩ | ⟨a, o, rfl, ho, hb⟩
      · rw [hn] at hc64; cases hc64
      · exact ⟨a, o, by rw [hc64], ho, by rw [← byE_all]; exact hb⟩
    have hal := lt_of_get hab
    have han : h7.length ≤ a := N29.2.2 _ rfl
    have Hx7 : HasL byE h7 q x := S7.keeps.hasL (fun t ht hc => hc (hqo t ht)) H
    have Hx29 := Hx7.mono x29
    have hqa : ∀ t, q = some t → t.b ≠ a := fun t ht hc => by have := HasL.live Hx7 t ht; omega
    refine ⟨fun xs h33 => ∃ (k : Nat) (l : Bs), xs = [.int .i64 (k : Nat)] ∧ k ≤ 64 ∧ l.length = 64 ∧ h33 = h29.set a (.cells (byteAVs l) true), fun xs _ => match xs with | [.int _ k] => (64 - k).toNat | _ => 0, ⟨0, y, rfl, by omega, hc64, (List.ext_getElem? fun j => by
      rw [List.getElem?_set]
      by_cases hj : a = j
      · subst hj; rw [if_pos rfl, if_pos hal, hab]
      · rw [if_neg hj])⟩, ?_⟩
    rintro n30 h33 ⟨k, l, hxs, hk, hl64, rfl⟩
    simp only [List.cons.injEq, AV.int.injEq, true_and, and_true] at hxs
    subst hxs
    have K33 : Keeps (fun b => b = a) h29 (h29.set a (.cells (byteAVs l) true)) := keeps_set rfl
    have hg33 : (h29.set a (.cells (byteAVs l) true))[a]? = some (.cells (byteAVs l) true) := List.getElem?_set_self hal
    have blen : (byteAVs l).length = 64 := by rw [byAV_len]; exact hl64
    have fin : ∀ (g2 : True), vPtr (some ⟨f.b, 0⟩) fun p38 => ∃ q39 : Option SL, cellsAt (h29.set a (.cells (byteAVs l) true)) ⟨p38.b, p38.o + 2⟩ 1 = some [.sl q39] ∧ vIdx q39 (i : Nat) 1 fun p40 => PStore (h29.set a (.cells (byteAVs l) true)) p40 [.sl (some ⟨a, 0, 64, 64, o⟩)] fun h41 => Q (.tup []) h41 := by
      intro _
      have K7 : Keeps (fun b => b = a) h7 (h29.set a (.cells (byteAVs l) true)) := fun c B hc hB => K33 _ _ hc (x29 _ _ hB)
      have fc33 := K7 _ _ (by omega) fc
      refine ⟨qs, by rw [cells6 fc33 (by simp)]; rfl, ?_⟩
      have A33 : Apd slE (h29.set a (.cells (byteAVs l) true)) qs qss := A.keeps K7 fun t ht hc => by have := HasL.live A.hasL t ht; omega
      rcases A33 with ⟨_, hn⟩ | ⟨b, o2, rfl, ho2, hb⟩
      · rw [hn] at hql; simp at hql; omega
      have rb := rs _ rfl
      simp only at rb
      have hbl := lt_of_get hb
      have hb7 := C7.live b (by rw [rb]; simp)
      refine ⟨by omega, by simp only; omega, ?_⟩
      simp only [Int.toNat_natCast, Nat.zero_add, Nat.mul_one]
      unfold PStore
      simp only [hb]
      have hlq : (slE.all qss).length = qss.length := by rw [Enc.all_length]; exact Nat.mul_one _
      refine ⟨by rw [hlq]; simp; omega, ?_⟩
      have hspl := splice_set (E := slE) (i := i) (k := 0) (xs := [.sl (some ⟨a, 0, 64, 64, o⟩)]) (r' := some ⟨a, 0, 64, 64, o⟩) hqi (by simp [slE]) rfl
      rw [show i * slE.sz + 0 = i from Nat.mul_one i] at hspl
      rw [hspl]
      have K41 : Keeps (fun c => c = b) (h29.set a (.cells (byteAVs l) true)) ((h29.set a (.cells (byteAVs l) true)).set b (.cells (slE.all (qss.set i (some ⟨a, 0, 64, 64, o⟩))) true)) := keeps_set rfl
      have hg41 : ((h29.set a (.cells (byteAVs l) true)).set b (.cells (slE.all (qss.set i (some ⟨a, 0, 64, 64, o⟩))) true))[b]? = some (.cells (slE.all (qss.set i (some ⟨a, 0, 64, 64, o⟩))) true) := List.getElem?_set_self hbl
      have l41 : ((h29.set a (.cells (byteAVs l) true)).set b (.cells (slE.all (qss.set i (some ⟨a, 0, 64, 64, o⟩))) true)).length = h29.length := by rw [List.length_set, List.length_set]
      have Ha41 : HasL byE ((h29.set a (.cells (byteAVs l) true)).set b (.cells (slE.all (qss.set i (some ⟨a, 0, 64, 64, o⟩))) true)) (some ⟨a, 0, 64, 64, o⟩) l := by
        have : Apd byE (h29.set a (.cells (byteAVs l) true)) (some ⟨a, 0, 64, 64, o⟩) l := Apd.mk hl64.symm ho (by rw [byE_all]; exact hg33)
        exact (this.keeps K41 fun t ht hc => by cases ht; simp only at hc; omega).hasL
      have KX : Keeps (fun c => ow7 c = some (.safe f.b)) h7 ((h29.set a (.cells (byteAVs l) true)).set b (.cells (slE.all (qss.set i (some ⟨a, 0, 64, 64, o⟩))) true)) := fun c B hc hB => K41 _ _ (fun h => hc (by rw [h]; exact rb)) (K7 _ _ (fun h => by have := lt_of_get hB; omega) hB)
      have na : ow7 a = none := by
        cases ho3 : ow7 a with
        | none => rfl
        | some r => have := C7.live a (by rw [ho3]; simp); omega
      have x29l := x29.len
      generalize (h29.set a (.cells (byteAVs l) true)).set b (.cells (slE.all (qss.set i (some ⟨a, 0, 64, 64, o⟩))) true) = h41 at *
      have N := C7.setSafe (f := { f with safe := s' }) hm7 fc S1 rn (safe' := s'.set i l) (q' := some ⟨b, 0, qss.length, qss.length, o2⟩) (qss := qss.set i (some ⟨a, 0, 64, 64, o⟩)) (.inr ⟨b, o2, by rw [List.length_set], ho2, hg41⟩) (by rw [List.length_set, List.length_set]; exact hql) (fun k2 t y2 h2 h3 => by
        by_cases hki : i = k2
        · subst hki
          rw [List.getElem?_set_self (by omega)] at h2 h3
          cases h2; cases h3
          refine ⟨Ha41, hl64, fun u hu => ?_⟩
          cases hu
          exact ⟨na, fun v hv hc => by cases hv; simp only at hc; omega⟩
        · rw [List.getElem?_set, if_neg hki] at h2 h3
          obtain ⟨a1, a2, a3⟩ := hel k2 t y2 h2 h3
          refine ⟨KX.hasL (fun u hu hc => by rw [a3 u hu] at hc; cases hc) a1, a2, fun u hu => ⟨a3 u hu, fun v hv hc => ?_⟩⟩
          cases hv
          simp only at hc
          rw [hc, a3 u hu] at rb; cases rb) KX (by omega) (fun t ht => by cases ht; exact .inr rb)
      obtain ⟨C41, S41⟩ := N
      have fc41 := KX _ _ (fun hc => by have hc : ow7 f.b = some (.safe f.b) := hc; rw [hrole] at hc; cases hc) fc
      have hset : h41.set f.b (.cells [.str f.name, .sl qn, .sl (some ⟨b, 0, qss.length, qss.length, o2⟩)] true) = h41 := List.ext_getElem? fun j => by
        rw [List.getElem?_set]
        by_cases hj : f.b = j
        · subst hj; rw [if_pos rfl, if_pos (lt_of_get fc41), fc41]
        · rw [if_neg hj]
      simp only at C41 S41
      rw [hset] at C41 S41
      have hsaf : ({ (saf D f s') with files := upF (saf D f s').files { ({ f with safe := s' } : FA) with safe := s'.set i l } } : DS) = saf D f (s'.set i l) := saf_saf
      exact hQ (s'.set i l) h41 _ (by rw [List.length_set]; exact hs7) (by rw [← hsaf]; exact C41) (S7.trans S41)
    refine vif_mk (fun g1 => vif_mk (fun g2 => ?_) (fun _ => fin trivial)) (fun _ => fin trivial)
    replace g1 := of_decide_eq_true g1
    refine HasL.idx (E := byE) (K33.hasL (fun t ht hc => hqa t ht hc) Hx29) (by omega) (by omega) fun p34 v hv hc34 => ⟨_, hc34, ?_⟩
    refine ⟨by omega, by simp only; omega, ?_⟩
    simp only [Int.toNat_natCast, Nat.zero_add, Nat.mul_one]
    unfold PStore
    simp only [hg33]
    rw [wrapK_i64 ⟨by omega, by omega⟩]
    refine ⟨by rw [blen]; simp; omega, trivial, ⟨k + 1, l.set k v, by simp, by omega, by rw [List.length_set]; exact hl64, ?_⟩, by omega⟩
    rw [List.set_set, splice_setB (by omega)])
end
end Go.Proofs.YtnglhicedhcpbaaGreatDoor

/- The document's disk: Sync of a file of which all is that is pending. -/
namespace Go.Proofs.YtnglhicedhcpbaaGreatDoor
open Go.Ab
open Go.Dsk hiding Bs
set_option linter.unusedVariables false
set_option linter.unusedSimpArgs false
section
variable {h h' : Heap} {ow ow' : Roles} {p : Nat} {qL qP : Option SL} {D : DS} {f : FA} {Q : AV → Heap → Prop}
set_option maxRecDepth 20000 in
theorem rfile_eq {h : Heap} {x b : Nat} {K : Bool → Prop} (hx : ∃ c, h[x]? = some (.cells c true)) (hb : ∃ c, h[b]? = some (.cells c true))
    (hK : K (decide (x = b))) : aEq Tryz.prog 95 h (.ptr (some ⟨x, 0⟩)) (.ptr (some ⟨b, 0⟩)) K := by
  have hz : tsz Tryz.prog 99 = 3 := by kernel_rfl
  exact aEq_ptr (e := 99) Tryz.underlying95 (by rw [hz]; omega) hx hb hK
/-- Nothing is pending. -/
theorem RDC.noPend (C : RDC h ow p qL qP D) : RDC (h.set p (.cells [.sl qL, .sl none, .int .i64 D.limit, .int .i64 D.left, .bool D.off] true)) ow p qL none { D with pends := [] } ∧ DStep ow h ow (h.set p (.cells [.sl qL, .sl none, .int .i64 D.limit, .int .i64 D.left, .bool D.off] true)) := by
  have hpl := lt_of_get C.pb
  have K : Keeps (fun b => b = p) h (h.set p (.cells [.sl qL, .sl none, .int .i64 D.limit, .int .i64 D.left, .bool D.off] true)) := keeps_set rfl
  have hg : (h.set p (.cells [.sl qL, .sl none, .int .i64 D.limit, .int .i64 D.left, .bool D.off] true))[p]? = some (.cells [.sl qL, .sl none, .int .i64 D.limit, .int .i64 D.left, .bool D.off] true) := List.getElem?_set_self hpl
  have hl : (h.set p (.cells [.sl qL, .sl none, .int .i64 D.limit, .int .i64 D.left, .bool D.off] true)).length = h.length := List.length_set
  have hp := C.pr
  generalize h.set p (.cells [.sl qL, .sl none, .int .i64 D.limit, .int .i64 D.left, .bool D.off] true) = h1 at *
  have nn : ∀ b, ow b = none → b ≠ p := fun b hb hc => by rw [hc, hp] at hb; cases hb
  have no : ∀ b r, ow b = some r → r ≠ .disk → b ≠ p := fun b r hb hr hc => by rw [hc, hp] at hb; cases hb; exact hr rfl
  refine ⟨{ C with live := fun b hb => by have := C.live b hb; omega, pb := hg, lst := K.hasL (fun s hs => nn _ (C.lstr s hs)) C.lst, pnd := ⟨[], .inl ⟨rfl, rfl⟩, rfl, by simp⟩, pndr := by simp, file := fun g hgm => ?_, pfile := by simp }, fun b B hb hB => K _ _ (fun hc => hb (by have hc : b = p := hc; show ow b ≠ none; rw [hc, hp]; simp)) hB, by omega, fun b hb => .inl hb⟩
  obtain ⟨r, qn, qs, c, a1, a2, r1, r2⟩ := C.file g hgm
  exact ⟨r, qn, qs, K _ _ (no _ _ r (by simp)) c, a1.keeps K (fun s hs => no _ _ (r1 s hs) (by simp)) (fun b hb _ => nn b hb) (fun b hb _ => hb), a2.keeps K (fun s hs => no _ _ (r2 s hs) (by simp)) (fun b hb _ => nn b hb) (fun b hb _ => hb), r1, r2⟩
theorem len_used {l : List FA} (hf : f ∈ l) : f.now.length ≤ (l.map (·.now.length)).sum := by
  induction l with
  | nil => cases hf
  | cons a l ih =>
    simp only [List.map_cons, List.sum_cons]
    rcases List.mem_cons.1 hf with rfl | hm
    · omega
    · have := ih hm; omega
set_option maxRecDepth 20000 in
set_option maxHeartbeats 1000000 in
/-- Sync. -/
theorem r129 {s : Bs} (C : RDC h ow p qL qP D) (hon : D.off = false) (hleft : D.left = -1) (hf : D.find s = some f) (hall : ∀ x ∈ D.pends, x.1 = f.b) (hpl : D.pends.length ≤ 1000000) (hs : f.safe.length ≤ 20000)
    (hQ : ∀ s' h' ow', RDR h' ow' p { saf D f s' with pends := [] } → DStep ow h ow' h' → Q (.int .i64 0) h') : AC Tryz.prog 129 [.ptr (some ⟨p, 0⟩), .str s] h Q := ac129 (by
  unfold vc129
  obtain ⟨hfm, hfn⟩ := find_mem hf
  refine r55 C (fun hn => by rw [hf] at hn; cases hn) fun f' hf' => ⟨_, rfl, ?_⟩
  rw [hf] at hf'; cases hf'
  refine vif_mk (fun g => by simp at g) (fun _ => r199 C hon hleft ⟨_, rfl, vif_mk (fun g => by simp at g) (fun _ => ?_)⟩)
  have hself : saf D f f.safe = D := by
    unfold saf
    have : upF D.files { f with safe := f.safe } = D.files := upF_self C.blocks hfm
    rw [this]
  refine ⟨fun xs h50 => ∃ (i : Nat) (s' : List Bs) (ow5 : Roles), xs = [.sl none, .int .i64 (i : Nat)] ∧ i ≤ D.pends.length ∧ s'.length ≤ 20000 ∧ RDC h50 ow5 p qL qP (saf D f s') ∧ DStep ow h ow5 h50, fun xs _ => match xs with | [_, .int _ i] => (D.pends.length - i).toNat | _ => 0, ⟨0, f.safe, ow, rfl, by omega, hs, by rw [hself]; exact C, .refl _ _⟩, ?_⟩
  rintro q46 n47 h50 ⟨i, s', ow5, hx, hi, hs', C5, S5⟩
  simp only [List.cons.injEq, AV.int.injEq, AV.sl.injEq, true_and, and_true] at hx
  obtain ⟨rfl, rfl⟩ := hx
  obtain ⟨ps, B, hpsl, hpel⟩ := C5.pnd
  have hP : (saf D f s').pends = D.pends := rfl
  rw [hP] at hpsl hpel
  have hm5 := saf_mem (D := D) (s := s') hfm
  refine ⟨qP, C5.at (k := 1) rfl, ?_⟩
  rw [B.hasL.len, hpsl]
  refine vif_mk (fun g => ?_) (fun g => ?_)
  · replace g := of_decide_eq_true g
    have hil : i < D.pends.length := by omega
    have hy : D.pends[i]? = some D.pends[i] := List.getElem?_eq_getElem hil
    generalize D.pends[i] = y at hy
    have hym := List.mem_of_getElem? hy
    refine ⟨qP, C5.at (k := 1) rfl, ?_⟩
    refine HasL.idx (E := pdE) B.hasL (by omega) (by omega) fun p18 x hx hc18 => ?_
    rw [Int.toNat_natCast] at hx
    obtain ⟨x1, x2, Hx, h64, hxo⟩ := hpel i x y hx hy
    have hxb : x.1 = f.b := by rw [x1, hall y hym]
    obtain ⟨hrole, qn, qs, fc, _⟩ := C5.file _ hm5
    have hfc : ∃ c, h50[f.b]? = some (.cells c true) := ⟨_, fc⟩
    have c0 : cellsAt h50 ⟨p18.b, p18.o + 0⟩ 1 = some [.ptr (some ⟨f.b, 0⟩)] := by
      rw [cellsAt_sub hc18 (by simp [pdE]), ← hxb]; rfl
    refine ⟨_, c0, ?_⟩
    refine rfile_eq (x := f.b) (b := f.b) hfc hfc ?_
    refine vif_mk (fun _ => ?_) (fun g => by simp at g)
    refine ⟨qP, C5.at (k := 1) rfl, ?_⟩
    refine HasL.idx (E := pdE) B.hasL (by omega) (by omega) fun p23 x' hx' hc23 => ?_
    rw [Int.toNat_natCast, hx] at hx'
    cases hx'
    refine ⟨_, by rw [cellsAt_sub hc23 (by simp [pdE])]; rfl, ?_⟩
    refine ⟨qP, C5.at (k := 1) rfl, ?_⟩
    refine HasL.idx (E := pdE) B.hasL (by omega) (by omega) fun p27 x' hx' hc27 => ?_
    rw [Int.toNat_natCast, hx] at hx'
    cases hx'
    refine ⟨_, by rw [cellsAt_sub hc27 (by simp [pdE])]; rfl, ?_⟩
    obtain ⟨g, hg, hgb, hlt⟩ := C.pfile y hym
    have : g = f := uniq_b C.blocks hg hfm (by rw [hgb, hall y hym])
    subst this
    have h1 := len_used hg
    have h2 := C.used
    refine r197 (f := { g with safe := s' }) C5 hm5 hs' (by omega) Hx h64 hxo fun s2 h30 ow30 hs2 C30 S30 => ⟨rfl, trivial, ?_⟩
    rw [saf_saf] at C30
    rw [wrapK_i64 ⟨by omega, by omega⟩]
    exact ⟨⟨i + 1, s2, ow30, by simp, by omega, hs2, C30, S5.trans S30⟩, by simp only; omega⟩
  · replace g := of_decide_eq_false g
    obtain ⟨C6, S6⟩ := C5.noPend
    refine store6v C5.pb (by simp) ?_
    exact hQ s' _ ow5 ⟨_, _, C6⟩ (S5.trans S6))
end
end Go.Proofs.YtnglhicedhcpbaaGreatDoor

/- The document's disk: a segment is written. -/
namespace Go.Proofs.YtnglhicedhcpbaaGreatDoor
open Go.Ab
open Go.Num hiding Bs snoc_ind
open Go.Ent Go.Seg
open Go.Page hiding Bs get
open Go.Dsk hiding Bs
open Go.Man (pendsOf pendsOf_snoc)
set_option linter.unusedVariables false
set_option linter.unusedSimpArgs false
section
variable {h h' : Heap} {ow ow' : Roles} {p : Nat} {Q : AV → Heap → Prop}
/-- A disk without files, and nothing else. -/
def onlyP (p : Nat) : Roles := fun b => if b = p then some .disk else none
theorem onlyP_iff {b : Nat} : onlyP p b ≠ none ↔ b = p := by
  unfold onlyP
  by_cases hb : b = p <;> simp [hb]
theorem emptyC {n : Int} (pb : h[p]? = some (.cells [.sl none, .sl none, .int .i64 n, .int .i64 (-1), .bool false] true)) (hn : n ≤ 16384) : RDC h (onlyP p) p none none (emptyD n) :=
  ⟨fun b hb => by rw [onlyP_iff.1 hb]; exact lt_of_get pb, by simp [onlyP], pb, rfl, by simp, ⟨[], .inl ⟨rfl, rfl⟩, rfl, by simp⟩, by simp, by simp [emptyD], by simp [emptyD], by simp [emptyD], by simp [emptyD], by simp [emptyD], by simp [emptyD], hn, by simp [emptyD]⟩
def w5D (b : Nat) (s : Bs) (S : List Bs) (lim : Nat) (s' : List Bs) : DS := oneD ⟨b, s, S.take lim, s'⟩ (if S.length ≤ lim then [] else pendsOf b 0 (S.take lim)) lim
theorem pendsOf_len {b : Nat} : ∀ (l : List Bs) (j : Nat), (pendsOf b j l).length = l.length := by
  intro l
  induction l with
  | nil => intro j; rfl
  | cons x l ih => intro j; simp [pendsOf, ih]
set_option maxHeartbeats 1000000 in
/-- Write, on a disk without files. -/
theorem r51 {lim : Nat} {n : Int} {s : Bs} {q : Option SL} {l : List Ent} (hs : mayN s = true) (hlim : lim ≤ 16384) (pb : h[p]? = some (.cells [.sl none, .sl none, .int .i64 (lim : Nat), .int .i64 (-1), .bool false] true)) (H : HasL entE h q l) (hqp : ∀ t, q = some t → t.b ≠ p) (hl : l.length ≤ 100000)
    (h0 : mayS n l ≠ 0 → Q (.int .i64 (mayS n l)) h)
    (h1 : ∀ base : Nat, n = base → 1 ≤ base → base ≤ 2305843009213693952 → mayE l = 0 → SortedL l → ∀ b s' h' ow', RDR h' ow' p (w5D b s (sectors base l) lim s') → DStep (onlyP p) h ow' h' → Q (.int .i64 (if (sectors base l).length ≤ lim then 0 else 2)) h') :
    AC Tryz.prog 51 [.ptr (some ⟨p, 0⟩), .str s, .int .i64 n, .sl q] h Q := ac51 (by
  unfold vc51
  have C := emptyC pb (by omega)
  refine k127 H (by omega) ⟨_, rfl, ?_⟩
  rcases Classical.em (mayS n l ≠ 0) with hm0 | hm0
  · exact vif_mk (fun _ => h0 hm0) (fun g => absurd (by simpa using g) hm0)
  have hm0 : mayS n l = 0 := Classical.byContradiction hm0
  refine vif_mk (fun g => by rw [hm0] at g; simp at g) (fun _ => ?_)
  obtain ⟨m1, hm, hsort⟩ : baseOk n = true ∧ mayE l = 0 ∧ SortedL l := by
    rcases mayS_cases (n := n) (l := l) with ⟨_, m2⟩ | ⟨_, m2, m3⟩ | ⟨_, _, _, m2⟩ | ⟨a, b, c, _⟩
    · omega
    · exact absurd (by omega) m2
    · omega
    · exact ⟨a, b, c⟩
  obtain ⟨base, rfl, b1, b2⟩ := baseOk_nat m1
  have h1 := h1 base rfl b1 b2 hm hsort
  obtain ⟨hok, hlm⟩ := mayE_ok.1 hm
  refine r121e C hs fun b h9 ow9 R9 S9 => ⟨_, rfl, ?_⟩
  refine vif_mk (fun g => by simp at g) (fun _ => ?_)
  refine k61 (S9.keeps.hasL (fun t ht hc => hqp t ht (onlyP_iff.1 hc)) H) hok hlm b2 fun q13 qs h12 L12 => ⟨_, rfl, ?_⟩
  generalize hS : sectors base l = S at *
  have h64 : ∀ x ∈ S, x.length = 64 := by rw [← hS]; exact sectors_len64 hok hlm
  have hSl : S.length ≤ 40000 := by
    rw [← hS, sectors_len]
    have := packG_len hok; have := idx_len hok; omega
  have I12 : LlsB byE h12 q13 S h9.length h12.length := LL.llsB L12
  have lI := I12.len
  have R12 := R9.grow L12.ext
  have lv9 : ∀ b, ow9 b ≠ none → b < h9.length := by
    obtain ⟨_, _, C9⟩ := R9
    exact C9.live
  have hown : ∀ (ow' : Roles) (h' : Heap), DStep ow9 h12 ow' h' → ∀ c, h9.length ≤ c → c < h12.length → ow' c = none := fun ow' h' st c c1 c2 => by
    cases hc : ow' c with
    | none => rfl
    | some r =>
      exfalso
      rcases st.own c (by rw [hc]; simp) with h2 | h2
      · have := lv9 c h2; omega
      · omega
  have hXs : ∀ (ow' : Roles) (h' : Heap), DStep ow9 h12 ow' h' → ∀ c, h9.length ≤ c → c < h12.length → ¬ dsk ow' c := fun ow' h' st c c1 c2 hc => hc (hown ow' h' st c c1 c2)
  refine ⟨fun xs h21 => ∃ (i : Nat) (ow21 : Roles), xs = [.int .i64 (i : Nat)] ∧ i ≤ S.length ∧ i ≤ lim ∧ RDR h21 ow21 p (oneD ⟨b, s, S.take i, []⟩ (pendsOf b 0 (S.take i)) lim) ∧ DStep ow9 h12 ow21 h21 ∧ LlsB byE h21 q13 S h9.length h12.length,
    fun xs _ => match xs with | [.int _ i] => (S.length - i).toNat | _ => 0, ⟨0, ow9, rfl, by omega, by omega, by simpa [mkF, pendsOf] using R12, .refl _ _, I12⟩, ?_⟩
  rintro n18 h21 ⟨i, ow21, hx, hi, hi2, ⟨qL, qP, R21⟩, S21, I21⟩
  simp only [List.cons.injEq, AV.int.injEq, true_and, and_true] at hx
  subst hx
  have x12 : DStep (onlyP p) h ow9 h12 := S9.trans (DStep.ext L12.ext)
  have htl : (S.take i).length = i := by rw [List.length_take]; omega
  have hpl : (pendsOf b 0 (S.take i)).length ≤ 1000000 := by rw [pendsOf_len, htl]; omega
  have hfind : (oneD ⟨b, s, S.take i, []⟩ (pendsOf b 0 (S.take i)) lim).find s = some ⟨b, s, S.take i, []⟩ := oneD_find (f := ⟨b, s, S.take i, []⟩)
  have hused : (oneD ⟨b, s, S.take i, []⟩ (pendsOf b 0 (S.take i)) (lim : Int)).used = i := by rw [oneD_used]; exact htl
  rw [lI]
  refine vif_mk (fun g2 => ?_) (fun g2 => ?_)
  · replace g2 := of_decide_eq_true g2
    refine I21.idx (by omega) (by omega) fun p22 q23 x hx hc Hx hxb => ⟨q23, hc, ?_⟩
    have hx' : S[i]? = some x := by simpa using hx
    have hx64 := h64 x (List.mem_of_getElem? hx')
    refine r128 R21 rfl rfl hfind Hx (fun t ht => hown ow21 h21 S21 _ (hxb t ht).1 (hxb t ht).2) hx64 hpl (fun hge => ⟨_, rfl, ?_⟩) fun hlt h25 ow25 R25 S25 => ⟨_, rfl, ?_⟩
    · rw [hused] at hge
      have hge : (lim : Int) ≤ i := hge
      have : i = lim := by omega
      subst this
      refine vif_mk (fun _ => ?_) (fun g => by simp at g)
      have := h1 b [] h21 ow21 (by unfold w5D; rw [if_neg (by omega)]; exact ⟨_, _, R21⟩) (x12.trans S21)
      rw [if_neg (by omega)] at this
      exact this
    · rw [hused] at hlt
      have hlt : ¬ (lim : Int) ≤ i := hlt
      refine vif_mk (fun g => by simp at g) (fun _ => ?_)
      rw [wrapK_i64 ⟨by omega, by omega⟩]
      refine ⟨trivial, ⟨i + 1, ow25, by simp, by omega, by omega, ?_, S21.trans S25, I21.keeps S25.keeps (hXs ow21 h21 S21)⟩, by simp only; omega⟩
      have e2 : S.take (i + 1) = S.take i ++ [x] := by rw [List.take_add_one, hx']; rfl
      have e3 : pendsOf b 0 (S.take (i + 1)) = pendsOf b 0 (S.take i) ++ [(b, i, x)] := by rw [e2, pendsOf_snoc, htl, Nat.zero_add]
      rw [e3, e2]
      have e4 : ({ (oneD ⟨b, s, S.take i, []⟩ (pendsOf b 0 (S.take i)) (lim : Int)) with files := upF (oneD ⟨b, s, S.take i, []⟩ (pendsOf b 0 (S.take i)) (lim : Int)).files { (⟨b, s, S.take i, []⟩ : FA) with now := S.take i ++ [x] }, pends := (oneD ⟨b, s, S.take i, []⟩ (pendsOf b 0 (S.take i)) (lim : Int)).pends ++ [(b, (S.take i).length, x)] } : DS) = oneD ⟨b, s, S.take i ++ [x], []⟩ (pendsOf b 0 (S.take i) ++ [(b, i, x)]) lim := by
        rw [htl]; simp [oneD, upF]
      rw [← e4]
      exact R25
  · replace g2 := of_decide_eq_false g2
    have : i = S.length := by omega
    subst this
    refine r129 R21 rfl rfl hfind (fun y hy => ?_) hpl (by simp) fun s' h28 ow28 R28 S28 => ⟨_, rfl, ?_⟩
    · exact (Go.Man.pendsOf_b hy).1
    have := h1 b s' h28 ow28 (by
      unfold w5D
      rw [if_pos (by omega), List.take_of_length_le (by omega)]
      have e4 : ({ saf (oneD ⟨b, s, S.take S.length, []⟩ (pendsOf b 0 (S.take S.length)) (lim : Int)) ⟨b, s, S.take S.length, []⟩ s' with pends := [] } : DS) = oneD ⟨b, s, S, s'⟩ [] lim := by
        rw [List.take_length]; simp [oneD, saf, upF]
      rw [← e4]
      exact R28) (x12.trans (S21.trans S28))
    rw [if_pos (by omega)] at this
    exact this)
end
end Go.Proofs.YtnglhicedhcpbaaGreatDoor

/- A segment's pages are read. -/
namespace Go.Proofs.YtnglhicedhcpbaaGreatDoor
open Go.Ab
open Go.Num hiding Bs snoc_ind
open Go.Ent Go.Seg
open Go.Page hiding Bs get
open Go.Dsk hiding Bs
set_option linter.unusedVariables false
set_option linter.unusedSimpArgs false
attribute [local irreducible] momErr recErr

/-- A file that lies there, its sectors as they are read. -/
structure Lies (D : DS) (s : Bs) (S : List Bs) : Prop where
  on : D.off = false
  is : ∃ f, D.find s = some f ∧ S = f.now.map pad
section
variable {h h' : Heap} {Q : AV → Heap → Prop} {ow : Roles} {dp : Nat} {D : DS} {s : Bs} {S : List Bs}
end
end Go.Proofs.YtnglhicedhcpbaaGreatDoor

/- A segment is opened. -/
namespace Go.Proofs.YtnglhicedhcpbaaGreatDoor
open Go.Ab
open Go.Num hiding Bs snoc_ind
open Go.Ent Go.Seg
open Go.Page hiding Bs get
open Go.Dsk hiding Bs
set_option linter.unusedVariables false
set_option linter.unusedSimpArgs false
attribute [local irreducible] momErr recErr

section
variable {h h' : Heap} {Q : AV → Heap → Prop} {ow : Roles} {dp sp : Nat} {D : DS} {s : Bs} {S : List Bs} {base : Nat}
end
end Go.Proofs.YtnglhicedhcpbaaGreatDoor

/- A segment's index: are the packs as full as they may be? -/
namespace Go.Proofs.YtnglhicedhcpbaaGreatDoor
open Go.Ab
open Go.Num hiding Bs snoc_ind
open Go.Ent Go.Seg
open Go.Page hiding Bs get
open Go.Dsk hiding Bs
set_option linter.unusedVariables false
set_option linter.unusedSimpArgs false
attribute [local irreducible] momErr recErr

section
variable {h h' : Heap} {Q : AV → Heap → Prop}
end
end Go.Proofs.YtnglhicedhcpbaaGreatDoor

/- A segment's index is read. -/
namespace Go.Proofs.YtnglhicedhcpbaaGreatDoor
open Go.Ab
open Go.Num hiding Bs snoc_ind
open Go.Ent Go.Seg
open Go.Page hiding Bs get
open Go.Dsk hiding Bs
set_option linter.unusedVariables false
set_option linter.unusedSimpArgs false
attribute [local irreducible] momErr recErr

section
variable {h : Heap} {Q : AV → Heap → Prop} {ow : Roles} {dp sp : Nat} {D : DS} {s : Bs} {S : List Bs} {base : Nat}
end
end Go.Proofs.YtnglhicedhcpbaaGreatDoor

/- A segment is opened. -/
namespace Go.Proofs.YtnglhicedhcpbaaGreatDoor
open Go.Ab
open Go.Num hiding Bs snoc_ind
open Go.Ent Go.Seg
open Go.Page hiding Bs get
open Go.Dsk hiding Bs
set_option linter.unusedVariables false
set_option linter.unusedSimpArgs false
attribute [local irreducible] momErr recErr

section
variable {h : Heap} {Q : AV → Heap → Prop} {ow : Roles} {dp : Nat} {D : DS} {s : Bs} {S : List Bs} {base : Nat}
end
end Go.Proofs.YtnglhicedhcpbaaGreatDoor

/- What an open segment tells of itself. -/
namespace Go.Proofs.YtnglhicedhcpbaaGreatDoor
open Go.Ab
open Go.Num hiding Bs snoc_ind
open Go.Ent Go.Seg
open Go.Page hiding Bs get
open Go.Dsk hiding Bs
set_option linter.unusedVariables false
set_option linter.unusedSimpArgs false
section
variable {h : Heap} {Q : AV → Heap → Prop} {dp sp : Nat} {s : Bs} {base count : Nat} {q : Option SL} {heads : List Ent}
end
end Go.Proofs.YtnglhicedhcpbaaGreatDoor

/- A segment's page: its first entry. -/
namespace Go.Proofs.YtnglhicedhcpbaaGreatDoor
open Go.Ab
open Go.Num hiding Bs snoc_ind
open Go.Ent Go.Seg
open Go.Page hiding Bs get
open Go.Dsk hiding Bs
set_option linter.unusedVariables false
set_option linter.unusedSimpArgs false
section
variable {h : Heap} {Q : AV → Heap → Prop} {dp sp : Nat} {s : Bs} {base count : Nat} {q : Option SL} {heads : List Ent}
end
end Go.Proofs.YtnglhicedhcpbaaGreatDoor

/- A segment's page. -/
namespace Go.Proofs.YtnglhicedhcpbaaGreatDoor
open Go.Ab
open Go.Num hiding Bs snoc_ind
open Go.Ent Go.Seg
open Go.Page hiding Bs get
open Go.Dsk hiding Bs
set_option linter.unusedVariables false
set_option linter.unusedSimpArgs false
section
variable {h : Heap} {Q : AV → Heap → Prop} {ow : Roles} {dp sp : Nat} {D : DS} {s : Bs} {S : List Bs} {base count : Nat} {q : Option SL} {heads : List Ent}
end
end Go.Proofs.YtnglhicedhcpbaaGreatDoor

/- All entries of a segment. -/
namespace Go.Proofs.YtnglhicedhcpbaaGreatDoor
open Go.Ab
open Go.Num hiding Bs snoc_ind
open Go.Ent Go.Seg
open Go.Page hiding Bs get
open Go.Dsk hiding Bs
set_option linter.unusedVariables false
set_option linter.unusedSimpArgs false
section
variable {h : Heap} {Q : AV → Heap → Prop} {ow : Roles} {dp sp : Nat} {D : DS} {s : Bs} {S : List Bs} {base count : Nat} {q : Option SL} {heads : List Ent}
end
end Go.Proofs.YtnglhicedhcpbaaGreatDoor

/- The last page whose first entry comes ahead of another one. -/
namespace Go.Proofs.YtnglhicedhcpbaaGreatDoor
open Go.Ab
open Go.Num hiding Bs snoc_ind
open Go.Ent Go.Seg
open Go.Page hiding Bs get
open Go.Dsk hiding Bs
set_option linter.unusedVariables false
set_option linter.unusedSimpArgs false
section
variable {h : Heap} {Q : AV → Heap → Prop} {dp sp : Nat} {s : Bs} {base count : Nat} {q : Option SL} {heads : List Ent} {e : Ent} {a6 a8 : Nat}
end
end Go.Proofs.YtnglhicedhcpbaaGreatDoor

/- A segment is verified. -/
namespace Go.Proofs.YtnglhicedhcpbaaGreatDoor
open Go.Ab
open Go.Num hiding Bs snoc_ind
open Go.Ent Go.Seg
open Go.Page hiding Bs get
open Go.Dsk hiding Bs
set_option linter.unusedVariables false
set_option linter.unusedSimpArgs false
section
variable {h : Heap} {Q : AV → Heap → Prop} {ow : Roles} {dp sp : Nat} {D : DS} {s : Bs} {S : List Bs} {base count : Nat} {q : Option SL} {heads : List Ent}
theorem lies_at {s : Bs} {x : Bs} {i : Nat} (Z : Lies D s S) (hx : S[i]? = some x) : x.length = 64 ∧ ∃ f y, D.find s = some f ∧ f.now[i]? = some y ∧ x = pad y := by
  obtain ⟨f, hf, rfl⟩ := Z.is
  rw [List.getElem?_map] at hx
  obtain ⟨y, hy, rfl⟩ := Option.map_eq_some_iff.1 hx
  exact ⟨pad_len, f, y, hf, hy, rfl⟩
/-- Read of what lies there. -/
theorem k56 {i : Nat} {x : Bs} (R : DiskR h ow dp D) (Z : Lies D s S) (hx : S[i]? = some x) (hQ : ∀ q' h', Ext h h' → HasL byE h' q' x → (∀ t, q' = some t → h.length ≤ t.b) → Q (.tup [.sl q', .int .i64 0]) h') :
    AC Tryz.prog 56 [.ptr (some ⟨dp, 0⟩), .str s, .int .i64 (i : Nat)] h Q := by
  obtain ⟨_, f, y, hf, hy, rfl⟩ := lies_at Z hx
  have hil := (List.getElem?_eq_some_iff.1 hy).1
  refine d56 R (fun v _ _ hn => ?_) fun f' y' q7 h6 _ hf' _ hy' x6 H7 f7 => ?_
  · exact absurd ⟨by omega, by omega⟩ (hn Z.on f hf)
  rw [hf] at hf'; cases hf'
  have : y' = y := by
    have : f.now[((i : Nat) : Int).toNat]? = some y' := hy'
    simp only [Int.toNat_natCast] at this
    rw [hy] at this; cases this; rfl
  subst this
  exact hQ _ _ x6 H7 f7
end
end Go.Proofs.YtnglhicedhcpbaaGreatDoor

/- A segment is written on any disk. -/
namespace Go.Proofs.YtnglhicedhcpbaaGreatDoor
open Go.Ab
open Go.Num hiding Bs snoc_ind
open Go.Ent Go.Seg
open Go.Page hiding Bs get
open Go.Dsk hiding Bs
open Go.Man (pendsOf pendsOf_snoc keepAll_pends notB_all find_of pendsOf_b)
set_option linter.unusedVariables false
set_option linter.unusedSimpArgs false
attribute [local irreducible] momErr recErr

section
variable {h : Heap} {Q : AV → Heap → Prop} {ow : Roles} {p : Nat} {D : DS}
end
end Go.Proofs.YtnglhicedhcpbaaGreatDoor

/- What was written is opened, and is all: the walk. -/
namespace Go.Proofs.YtnglhicedhcpbaaGreatDoor
open Go.Ab
open Go.Num hiding Bs snoc_ind
open Go.Ent Go.Seg
open Go.Page hiding Bs get
open Go.Dsk hiding Bs
set_option linter.unusedVariables false
set_option linter.unusedSimpArgs false
theorem mayS_ok {base : Nat} {l : List Ent} (hb : baseOk base = true) (hm : mayE l = 0) (hs : SortedL l) : mayS base l = 0 := by
  unfold mayS
  rw [hb, if_neg (by simp), if_neg (by simp [hm]), if_pos hs]
theorem map_pad : ∀ {l : List Bs}, (∀ x ∈ l, x.length = 64) → l.map pad = l
  | [], _ => rfl
  | y :: l, h => by rw [List.map_cons, pad_self (h y (by simp)), map_pad (fun x hx => h x (by simp [hx]))]
theorem lies_one {b : Nat} {s : Bs} {S T : List Bs} {ps : List PD} {lim : Int} (h64 : ∀ x ∈ S, x.length = 64) : Lies (oneD ⟨b, s, S, T⟩ ps lim) s S :=
  ⟨rfl, ⟨b, s, S, T⟩, oneD_find (f := ⟨b, s, S, T⟩), (map_pad h64).symm⟩
section
variable {h : Heap} {Q : AV → Heap → Prop}
end
end Go.Proofs.YtnglhicedhcpbaaGreatDoor
