/- The pool's functions: a file's pages are dropped; a nil pool, a nil segment. -/
import Derived.Test.YtnglhicedhcpbaaGreatDoorFG1
import Derived.Test.YtnglhicedhcpbaaGreatDoorFG3
import Derived.Test.YtnglhicedhcpbaaGreatDoorFG13
import Derived.Test.YtnglhicedhcpbaaGreatDoorFG16
import Derived.Test.YtnglhicedhcpbaaGreatDoorFG21
import Derived.Test.YtnglhicedhcpbaaGreatDoorFG27
import Derived.KernelRfl
namespace Go.Proofs.YtnglhicedhcpbaaGreatDoor
open Go.Ab
open Go.Ent Go.Seg
open Go.Pool hiding Bs Ents set_at
set_option linter.unusedVariables false
set_option linter.unusedSimpArgs false
def gf (s : Bs) (f : Pool.Fr) : Pool.Fr := if gone s f then Fr.none else f
def dropL (fr : List Pool.Fr) (s : Bs) (i : Nat) : List Pool.Fr := (fr.take i).map (gf s) ++ fr.drop i
theorem dropL_len {fr : List Pool.Fr} {s : Bs} {i : Nat} : (dropL fr s i).length = fr.length := by
  unfold dropL
  rw [List.length_append, List.length_map, List.length_take, List.length_drop]; omega
theorem dropL_get {fr : List Pool.Fr} {s : Bs} {i : Nat} (hi : i < fr.length) : (dropL fr s i)[i]? = fr[i]? := by
  unfold dropL
  have : ((fr.take i).map (gf s)).length = i := by rw [List.length_map, List.length_take]; omega
  rw [List.getElem?_append_right (by omega), this, Nat.sub_self, List.getElem?_drop, Nat.add_zero]
theorem dropL_set {fr : List Pool.Fr} {s : Bs} {i : Nat} {f : Pool.Fr} (hf : fr[i]? = some f) : (dropL fr s i).set i (gf s f) = dropL fr s (i + 1) := by
  obtain ⟨hi, rfl⟩ := List.getElem?_eq_some_iff.1 hf
  unfold dropL
  have hl : ((fr.take i).map (gf s)).length = i := by rw [List.length_map, List.length_take]; omega
  rw [List.set_append_right _ _ (by omega), hl, Nat.sub_self, List.drop_eq_getElem_cons hi, List.set_cons_zero, List.take_add_one, hf]
  simp only [Option.toList, List.map_append, List.map_cons, List.map_nil, List.append_assoc, List.cons_append, List.nil_append]
theorem dropL_same {fr : List Pool.Fr} {s : Bs} {i : Nat} {f : Pool.Fr} (hf : fr[i]? = some f) (hg : gone s f = false) : dropL fr s (i + 1) = dropL fr s i := by
  have hi := (List.getElem?_eq_some_iff.1 hf).1
  rw [← dropL_set hf]
  have : gf s f = f := by unfold gf; rw [hg]; rfl
  rw [this]
  apply List.ext_getElem?
  intro j
  rw [List.getElem?_set]
  by_cases hj : i = j
  · subst hj
    rw [if_pos rfl, if_pos (by rw [dropL_len]; exact hi), dropL_get hi, hf]
  · rw [if_neg hj]
theorem dropL_end {fr : List Pool.Fr} {s : Bs} : dropL fr s fr.length = fr.map (gf s) := by simp [dropL]
section
variable {h h' : Heap} {Q : AV → Heap → Prop} {p fb mb : Nat} {rs : List RF} {es : List (AV × AV × Nat)} {cl : Nat} {P : PS}
attribute [local irreducible] findP keyIs in
/-- Drop -/
theorem k73 {s : Bs} (C : PC h p fb mb rs es cl P) (hQ : ∀ h', PoolR entE h' p fb mb (P.drop s).2 → Keeps (pbl p fb mb) h h' → h'.length = h.length → Q (.int .i64 ((P.drop s).1 : Nat)) h') : AC Tryz.prog 73 [.ptr (some ⟨p, 0⟩), .str s] h Q := ac73 (by
  unfold vc73
  have few := C.ok.few
  refine k144 C ⟨_, rfl, vif_mk (fun g => by simp at g) (fun _ => ⟨_, C.at (k := 0) rfl, ?_⟩)⟩
  refine ⟨fun xs h12 => ∃ i : Nat, xs = [.int .i64 ((P.fr.take i).countP (gone s) : Nat), .int .i64 (i : Nat)] ∧ i ≤ P.fr.length ∧ PoolR entE h12 p fb mb { P with fr := dropL P.fr s i } ∧ Keeps (pbl p fb mb) h h12 ∧ h12.length = h.length,
    fun xs _ => match xs with | [_, .int _ i] => (P.fr.length - i).toNat | _ => 0, ⟨0, rfl, by omega, ⟨rs, es, cl, by simpa [dropL] using C⟩, .refl _ _, rfl⟩, ?_⟩
  rintro n8 n9 h12 ⟨i, hx, hi, ⟨rs1, es1, cl1, C1⟩, K1, l1⟩
  simp only [List.cons.injEq, AV.int.injEq, true_and, and_true] at hx
  obtain ⟨rfl, rfl⟩ := hx
  have hc : ((P.fr.take i).countP (gone s)) ≤ i := by
    have := List.countP_le_length (p := gone s) (l := P.fr.take i)
    rw [List.length_take] at this; omega
  refine vif_mk (fun g => ?_) (fun g => ?_)
  · have g : i < P.fr.length := by have := of_decide_eq_true g; simp only [slLen] at this; omega
    have hf : P.fr[i]? = some P.fr[i] := List.getElem?_eq_getElem g
    generalize P.fr[i] = f at hf
    have hf1 : (dropL P.fr s i)[i]? = some f := by rw [dropL_get g]; exact hf
    have hi1 : i < (dropL P.fr s i).length := by rw [dropL_len]; exact g
    obtain ⟨r, hr, R⟩ := raw_at C1 hf1
    have ct := countP_take (gone s) hf
    rw [wrapK_i64 (n := (i : Int) + 1) ⟨by omega, by omega⟩]
    have stay : gone s f = false → True ∧ (∃ i' : Nat, [AV.int .i64 ((P.fr.take i).countP (gone s) : Nat), .int .i64 ((i : Int) + 1)] = [.int .i64 ((P.fr.take i').countP (gone s) : Nat), .int .i64 (i' : Nat)] ∧ i' ≤ P.fr.length ∧ PoolR entE h12 p fb mb { P with fr := dropL P.fr s i' } ∧ Keeps (pbl p fb mb) h h12 ∧ h12.length = h.length) ∧ ((P.fr.length : Int) - ((i : Int) + 1)).toNat < ((P.fr.length : Int) - (i : Int)).toNat := fun hg => by
      rw [hg] at ct
      refine ⟨trivial, ⟨i + 1, by rw [ct]; simp, by omega, ⟨rs1, es1, cl1, by rw [dropL_same hf hg]; exact C1⟩, K1, l1⟩, by omega⟩
    refine ⟨_, C1.at (k := 0) rfl, fidx rfl hi1 ?_⟩
    refine ⟨_, fcell C1.fbk hr (j := 5) rfl, ?_⟩
    rw [R.is]
    refine vif_mk (fun g1 => stay (by unfold gone; simp at g1; rw [g1]; rfl)) (fun g1 => ?_)
    have g1 : f.is = true := by simpa using g1
    refine ⟨_, fcell C1.fbk hr (j := 0) rfl, ?_⟩
    rw [R.name]
    refine vif_mk (fun g2 => stay (by unfold gone; simp at g2; simp [g2])) (fun g2 => ?_)
    have g2 : f.name = s := by simpa using g2
    refine ⟨_, fcell C1.fbk hr (j := 3) rfl, ?_⟩
    rw [R.held]
    refine vif_mk (fun g3 => stay (by have := of_decide_eq_true g3; unfold gone; simp; omega)) (fun g3 => ?_)
    have g3 : f.held = 0 := by have := of_decide_eq_false g3; omega
    have hgo : gone s f = true := by unfold gone; rw [g1, g2, g3]; simp
    rw [hgo] at ct
    refine ⟨_, C1.at (k := 1) rfl, _, _, fpart C1.fbk hr (j := 0) (m := 2) (by omega), ?_⟩
    rw [R.name, R.i]
    unfold PDelete
    simp only [C1.mbk]
    have hko := spot_ok f.name f.i
    simp only [hko, need]
    have hat : PS.at { P with fr := dropL P.fr s i } f.name f.i = some i := at_some C1.ok hf1 g1 rfl rfl
    refine C1.find spot_key ?_ ?_
    · intro hn2; rw [hat] at hn2; cases hn2
    intro j k2 n2 hk2 hj
    rw [hat] at hk2; cases hk2
    obtain ⟨e1, e2, e3⟩ := erase_keys C1 hj
    have hml := lt_of_get C1.mbk
    have hfb2 : (h12.set mb (.mp (es1.eraseIdx j) cl1))[fb]? = some (.cells (rfE.all rs1) true) := by
      rw [List.getElem?_set, if_neg (fun hc => C1.ne.2.2 hc.symm)]; exact C1.fbk
    have CK := C1.setK (k := i) (r' := ⟨[], 0, none, 0, false, false⟩) (f' := Fr.none) hf1 ⟨rfl, rfl, rfl, rfl, rfl, rfl, fun s hs => by cases hs⟩ (es' := es1.eraseIdx j) (cl' := cl1) (B := .mp (es1.eraseIdx j) cl1) rfl
      (fun e he => .inr ⟨(e1 e he).1, fun hc => (e1 e he).2 hc.2⟩) (fun hc => by cases hc) (fun e he hc => e2 e he (fun hc2 => hc ⟨g1, hc2⟩)) e3 (fun hc => by cases hc)
    rw [List.set_comm _ _ C1.ne.2.2] at CK
    refine fstore (j := 0) (r' := ⟨[], 0, none, 0, false, false⟩) hfb2 hr (by simp) rfl ?_
    have e7 : wrapK .i64 ((((P.fr.take i).countP (gone s) : Nat) : Int) + 1) = (((P.fr.take i).countP (gone s) + 1 : Nat) : Int) := by rw [wrapK_i64 ⟨by omega, by omega⟩]; omega
    rw [e7]
    refine ⟨trivial, ⟨i + 1, by rw [ct]; simp, by omega, ⟨rs1.set i ⟨[], 0, none, 0, false, false⟩, es1.eraseIdx j, cl1, ?_⟩, K1.trans (Keeps.trans (b := h12.set mb (.mp (es1.eraseIdx j) cl1)) (keeps_set (.inr (.inr rfl))) (keeps_set (.inr (.inl rfl)))), by rw [List.length_set, List.length_set]; exact l1⟩, by omega⟩
    have hgf : gf s f = Fr.none := by unfold gf; rw [hgo]; rfl
    have hds := dropL_set (s := s) hf
    rw [hgf] at hds
    rw [← hds]
    exact CK
  · have g : ¬ i < P.fr.length := by have := of_decide_eq_false g; simp only [slLen] at this; omega
    have : i = P.fr.length := by omega
    subst this
    rw [List.take_length] at *
    rw [dropL_end] at C1
    exact hQ h12 ⟨rs1, es1, cl1, C1⟩ K1 l1)
end
end Go.Proofs.YtnglhicedhcpbaaGreatDoor

/- A segment is written on any disk. -/
namespace Go.Proofs.YtnglhicedhcpbaaGreatDoor
open Go.Ab
open Go.Num hiding Bs snoc_ind
open Go.Ent Go.Seg
open Go.Page hiding Bs get
open Go.Dsk hiding Bs
open Go.Man (pendsOf pendsOf_snoc keepAll_pends notB_all find_of pendsOf_b)
set_option linter.unusedVariables false
set_option linter.unusedSimpArgs false
attribute [local irreducible] momErr recErr

section
variable {h : Heap} {Q : AV → Heap → Prop} {ow : Roles} {p : Nat} {D : DS}
/-- segment.Write on any disk. -/
theorem k25D {n : Int} {s : Bs} {q : Option SL} {l : List Ent} (L : Laid h) (R : DiskR h ow p D) (hpl : D.pends.length ≤ 900000) (H : HasL entE h q l) (hl : l.length ≤ 100000)
    (h0 : mayS n l ≠ 0 → ∀ h', Ext h h' → Q (.int .i64 (mayS n l)) h')
    (h1 : ∀ base : Nat, n = base → 1 ≤ base → base ≤ 2305843009213693952 → mayE l = 0 → SortedL l → ∀ b h' ow', ((D.create s b).1 = 0 → ∀ y ∈ D.files, y.b ≠ b) → DiskR h' ow' p (D.wr s (sectors base l) b).2 → DStep ow h ow' h' → Q (.int .i64 (D.wr s (sectors base l) b).1) h') :
    AC Tryz.prog 25 [.ptr (some ⟨p, 0⟩), .str s, .int .i64 n, .sl q] h Q := ac25 (by
  unfold vc25
  refine k86 ⟨_, rfl, ?_⟩
  rcases mayS_cases (n := n) (l := l) with ⟨m1, m2⟩ | hrest
  · rw [m1]
    rw [m2] at h0
    exact vif_mk (fun _ => h0 (by omega) _ (.refl _)) (fun g => by cases g)
  have m1 : baseOk n = true := by
    rcases hrest with ⟨m, _⟩ | ⟨m, _⟩ | ⟨m, _⟩ <;> exact m
  rw [m1]
  refine vif_mk (fun g => by cases g) (fun _ => ?_)
  obtain ⟨base, rfl, b1, b2⟩ := baseOk_nat m1
  refine k93 L H hl ⟨b1, b2⟩ (fun hm => ⟨_, _, rfl, vif_mk (fun _ => ?_) (fun g => absurd (by simpa using g) hm)⟩) fun hm q10 qs10 h9 L9 => ⟨_, _, rfl, vif_mk (fun g => by simp at g) (fun _ => ?_)⟩
  · rcases hrest with ⟨_, m2, m3⟩ | ⟨_, m2, _⟩ | ⟨_, m2, _⟩
    · rw [m3] at h0; exact h0 m2 _ (.refl _)
    · exact absurd m2 hm
    · exact absurd m2 hm
  obtain ⟨hok, hlm⟩ := mayE_ok.1 hm
  refine z85 (H.mono L9.ext) (by omega) fun h13 x13 => ⟨_, rfl, vif_mk (fun g => ?_) (fun g => ?_)⟩
  · simp only [Bool.not_eq_true', decide_eq_false_iff_not] at g
    rcases hrest with ⟨_, m2, m3⟩ | ⟨_, _, m2, m3⟩ | ⟨_, _, m2, _⟩
    · exact absurd hm m2
    · rw [m3] at h0; exact h0 (by omega) _ (L9.ext.trans x13)
    · exact absurd m2 g
  have g : SortedL l := by simpa using g
  have h1 := h1 base rfl b1 b2 hm g
  generalize hS : sectors base l = S at *
  have h64 : ∀ x ∈ S, x.length = 64 := by rw [← hS]; exact sectors_len64 hok hlm
  have hSl : S.length ≤ 40000 := by
    rw [← hS, sectors_len]
    have := packG_len hok; have := idx_len hok; omega
  have x0 : Ext h h13 := L9.ext.trans x13
  have I13 : LlsB byE h13 q10 S h.length h9.length := (LL.llsB L9).keeps (X := fun _ => False) (keeps_of_ext x13) (fun _ _ _ h => h)
  have lI := I13.len
  have R13 := R.grow x0
  refine d95 R13 fun b h16 ow16 R16 S16 => ⟨_, rfl, ?_⟩
  have h1 := h1 b
  unfold DS.wr at h1
  refine vif_mk (fun g => ?_) (fun g => ?_)
  · have g : ¬ (D.create s b).1 = 0 := by simpa using g
    rw [if_neg g] at h1
    exact h1 _ _ (fun hc => absurd hc g) R16 ((DStep.ext x0).trans S16)
  have g : (D.create s b).1 = 0 := by simpa using g
  rw [if_pos g] at h1
  have fresh : ∀ y ∈ D.files, y.b ≠ b := by
    obtain ⟨_, _, _, _, C16⟩ := R16
    have hb := C16.blocks
    rw [create_files g, List.map_append, List.nodup_append] at hb
    intro y hy hc
    exact hb.2.2 y.b (List.mem_map_of_mem hy) b (by simp [mkF]) hc
  have h1 := fun h' ow' => h1 h' ow' (fun _ => fresh)
  have hpl0 : (D.create s b).2.pends.length ≤ 900000 := by rw [create_pends]; exact hpl
  generalize (D.create s b).2 = D0 at *
  have hown : ∀ (ow' : Roles) (h' : Heap), DStep ow h13 ow' h' → ∀ c, h.length ≤ c → c < h9.length → ow' c = none := fun ow' h' st c c1 c2 => by
    cases hc : ow' c with
    | none => rfl
    | some r =>
      exfalso
      rcases st.own c (by rw [hc]; simp) with h2 | h2
      · have := R.live c h2; omega
      · have := x13.len; omega
  have hXs : ∀ (ow' : Roles) (h' : Heap), DStep ow h13 ow' h' → ∀ c, h.length ≤ c → c < h9.length → ¬ dsk ow' c := fun ow' h' st c c1 c2 hc => hc (hown ow' h' st c c1 c2)
  refine ⟨fun xs h21 => ∃ (i : Nat) (ow21 : Roles) (E : DS), xs = [.int .i64 i] ∧ i ≤ S.length ∧ appAll s (S.take i) D0 = (0, E) ∧ DiskR h21 ow21 p E ∧ DStep ow h13 ow21 h21 ∧ LlsB byE h21 q10 S h.length h9.length,
    fun xs _ => match xs with | [.int _ i] => (S.length - i).toNat | _ => 0, ⟨0, ow16, D0, rfl, by omega, rfl, R16, S16, I13.keeps S16.keeps (fun c c1 c2 hc => by have := R.live c hc; omega)⟩, ?_⟩
  rintro n18 h21 ⟨i, ow21, E, hx, hi, hE, R21, S21, I21⟩
  simp only [List.cons.injEq, AV.int.injEq, true_and, and_true] at hx
  subst hx
  have htl : (S.take i).length = i := by rw [List.length_take]; omega
  have hple : E.pends.length ≤ 1000000 := by
    have := appAll_pends (s := s) (l := S.take i) (D := D0)
    rw [hE, htl] at this
    simp only at this
    omega
  refine vif_mk (fun g2 => ?_) (fun g2 => ?_)
  · replace g2 := of_decide_eq_true g2
    refine I21.idx (by omega) (by omega) fun p22 q23 x hx hc Hx hxb => ⟨q23, hc, ?_⟩
    have hx' : S[i]? = some x := by simpa using hx
    refine d96 R21 Hx (fun t ht => hown ow21 h21 S21 _ (hxb t ht).1 (hxb t ht).2) hple fun h25 ow25 R25 S25 => ⟨_, rfl, ?_⟩
    refine vif_mk (fun g3 => ?_) (fun g3 => ?_)
    · have g3 : (E.append s x).1 ≠ 0 := by simpa using g3
      have hst := appAll_stop hE hx' g3
      rw [hst, if_neg g3] at h1
      exact h1 _ _ R25 ((DStep.ext x0).trans (S21.trans S25))
    · have g3 : (E.append s x).1 = 0 := by simpa using g3
      rw [wrapK_i64 ⟨by omega, by omega⟩]
      exact ⟨trivial, ⟨i + 1, ow25, _, by simp, by omega, appAll_go hE hx' g3, R25, S21.trans S25, I21.keeps S25.keeps (hXs ow21 h21 S21)⟩, by simp only; omega⟩
  · replace g2 := of_decide_eq_false g2
    have : i = S.length := by omega
    subst this
    rw [List.take_length] at hE
    rw [hE, if_pos rfl] at h1
    exact d97 R21 hple fun h28 ow28 R28 S28 => ⟨_, rfl, h1 _ _ R28 ((DStep.ext x0).trans (S21.trans S28))⟩)
end
end Go.Proofs.YtnglhicedhcpbaaGreatDoor

/- All entries of a segment. -/
namespace Go.Proofs.YtnglhicedhcpbaaGreatDoor
open Go.Ab
open Go.Num hiding Bs snoc_ind
open Go.Ent Go.Seg
open Go.Page hiding Bs get
open Go.Dsk hiding Bs
set_option linter.unusedVariables false
set_option linter.unusedSimpArgs false
section
variable {h : Heap} {Q : AV → Heap → Prop} {ow : Roles} {dp sp : Nat} {D : DS} {s : Bs} {S : List Bs} {base count : Nat} {q : Option SL} {heads : List Ent}
theorem k17 (L : Laid h) (R : DiskR h ow dp D) (Z : Lies D s S) (b1 : 1 ≤ base) (hb : base ≤ 2305843009213693952) (hS : S.length ≤ 9000) (hs : h[sp]? = some (segC dp s base count q)) (H : HasL entE h q heads) (hh : heads.length ≤ S.length)
    (h0 : allS S base count heads = none → ∀ h', Ext h h' → Q (.tup [.sl none, .int .i64 80]) h')
    (h1 : ∀ l q' h', allS S base count heads = some l → New entE h h' q' l → Q (.tup [.sl q', .int .i64 0]) h') : AC Tryz.prog 17 [.ptr (some ⟨sp, 0⟩)] h Q := ac17 (by
  unfold vc17
  refine vif_mk (fun g => by simp at g) (fun _ => ⟨_, seg_at hs (k := 0) rfl, vif_mk (fun g => by simp at g) (fun _ => ⟨_, seg_at hs (k := 4) rfl, ?_⟩)⟩)
  have hlen := H.len
  rw [hlen]
  refine ⟨fun xs h10 => ∃ (q6 : Option SL) (i : Nat) (l : List Ent), xs = [.sl q6, .int .i64 (i : Nat)] ∧ i ≤ heads.length ∧ pagesTo S base heads i = some l ∧ New entE h h10 q6 l, fun xs _ => match xs with | [_, .int _ i] => (heads.length - i).toNat | _ => 0,
    ⟨none, 0, [], rfl, by omega, rfl, New.none⟩, ?_⟩
  rintro q6 n7 h10 ⟨q6', i, l, hx, hi, hp, N⟩
  simp only [List.cons.injEq, AV.sl.injEq, AV.int.injEq, true_and, and_true] at hx
  obtain ⟨rfl, rfl⟩ := hx
  have x10 := N.1
  have hll := (pagesTo_some hp).1
  refine vif_mk (fun g => ?_) (fun g => ?_)
  · replace g := of_decide_eq_true g
    refine k16 (L.ext x10) (R.grow x10) Z b1 hb (by omega) (x10 _ _ hs) (H.mono x10) hh (by omega) (fun hn h12 x12 => ⟨_, _, rfl, vif_mk (fun _ => h0 ?_ _ (x10.trans x12)) (fun g => by simp at g)⟩)
      fun l2 q13 h12 hl2 x12 A12 f12 => ⟨_, _, rfl, vif_mk (fun g => by simp at g) (fun _ => ?_)⟩
    · unfold allS
      rw [pagesTo_none hn heads.length (by omega)]; rfl
    · have h2 := (packAt_some (pageS_some hl2).1).1
      refine New.append (E := entE) (N.ext x12) A12.hasL (by omega) fun q15 h16 N16 => ?_
      rw [wrapK_i64 ⟨by omega, by omega⟩]
      exact ⟨trivial, ⟨q15, i + 1, l ++ l2, by simp, by omega, pagesTo_succ hp hl2, N16⟩, by simp only; omega⟩
  · replace g := of_decide_eq_false g
    have hie : i = heads.length := by omega
    subst hie
    refine ⟨_, seg_at (x10 _ _ hs) (k := 3) rfl, ?_⟩
    have hl6 := N.hasL.len
    rw [hl6]
    refine vif_mk (fun g2 => h0 ?_ _ x10) (fun g2 => ?_)
    · unfold allS
      rw [hp, Option.bind_some, if_neg (fun hc => by rw [hc.1] at g2; simp at g2)]
    have g2 : l.length = count := by have : (l.length : Int) = (count : Int) := by simpa using g2
                                     omega
    refine z85 N.hasL (by omega) fun h20 x20 => ⟨_, rfl, ?_⟩
    refine vif_mk (fun g3 => h0 ?_ _ (x10.trans x20)) (fun g3 => ?_)
    · unfold allS
      rw [hp, Option.bind_some, if_neg (fun hc => by simp [hc.2] at g3)]
    · have g3 : SortedL l := by simpa using g3
      exact h1 l q6 h20 (by unfold allS; rw [hp, Option.bind_some, if_pos ⟨g2, g3⟩]) (N.ext x20))
end
end Go.Proofs.YtnglhicedhcpbaaGreatDoor

/- The last page whose first entry comes ahead of another one. -/
namespace Go.Proofs.YtnglhicedhcpbaaGreatDoor
open Go.Ab
open Go.Num hiding Bs snoc_ind
open Go.Ent Go.Seg
open Go.Page hiding Bs get
open Go.Dsk hiding Bs
set_option linter.unusedVariables false
set_option linter.unusedSimpArgs false
theorem mid_eq {i j : Nat} (hi : i ≤ 1000000) (hj : j ≤ 1000000) : wrapK .i64 (shrK .u64 (wrapK .u64 (wrapK .i64 ((i : Int) + (j : Int)))) 1) = (((i + j) / 2 : Nat) : Int) := by
  rw [wrapK_i64 (n := (i : Int) + (j : Int)) ⟨by omega, by omega⟩]
  have e1 : wrapK .u64 ((i : Int) + (j : Int)) = ((i + j : Nat) : Int) := by
    rw [wrapK_u64 ⟨by omega, by omega⟩]; omega
  rw [e1]
  have e2 : shrK .u64 ((i + j : Nat) : Int) 1 = (((i + j) / 2 : Nat) : Int) := by
    unfold shrK
    have e : min ((1 : Int).toNat) IntKind.u64.bits = 1 := by decide
    rw [e, Int.fdiv_eq_ediv_of_nonneg _ (by decide)]
    omega
  rw [e2, wrapK_i64 ⟨by omega, by omega⟩]
section
variable {h : Heap} {Q : AV → Heap → Prop} {dp sp : Nat} {s : Bs} {base count : Nat} {q : Option SL} {heads : List Ent} {e : Ent} {a6 a8 : Nat}
theorem k91 {i : Nat} {x : Ent} (c6 : cellsAt h ⟨a6, 0⟩ 1 = some [.ptr (some ⟨sp, 0⟩)]) (c8 : cellsAt h ⟨a8, 0⟩ 4 = some (entE.f e)) (hs : h[sp]? = some (segC dp s base count q)) (H : HasL entE h q heads) (hx : heads[i]? = some x)
    (hQ : ∀ h', Ext h h' → Q (.bool (decide (¬ ltE x e))) h') : AC Tryz.prog 91 [.int .i64 (i : Nat), .ptr (some ⟨a6, 0⟩), .ptr (some ⟨a8, 0⟩)] h Q := ac91 (by
  unfold vc91
  have hil := (List.getElem?_eq_some_iff.1 hx).1
  refine ⟨_, c6, _, seg_at hs (k := 4) rfl, ?_⟩
  refine idx4 H hx rfl fun p hc => ⟨_, _, _, _, hc, _, _, _, _, c8, ?_⟩
  refine z92 (a := x) (b := e) fun h' x' => ⟨_, rfl, ?_⟩
  have := hQ h' x'
  have e1 : decide (cmpE x e ≥ 0) = decide (¬ ltE x e) := decide_eq_decide.2 ⟨fun g hc => by have := cmpE_lt.2 hc; omega, fun g => by
    rcases Int.lt_or_le (cmpE x e) 0 with h1 | h1
    · exact absurd (cmpE_lt.1 h1) g
    · exact h1⟩
  rw [e1]; exact this)
/-- sort.Search -/
theorem k90 (c6 : cellsAt h ⟨a6, 0⟩ 1 = some [.ptr (some ⟨sp, 0⟩)]) (c8 : cellsAt h ⟨a8, 0⟩ 4 = some (entE.f e)) (hs : h[sp]? = some (segC dp s base count q)) (H : HasL entE h q heads) (hso : SortedL heads) (hl : heads.length ≤ 100000)
    (hQ : ∀ k h', Ext h h' → k ≤ heads.length → (∀ i x, i < k → heads[i]? = some x → ltE x e) → (∀ i x, k ≤ i → heads[i]? = some x → ¬ ltE x e) → Q (.int .i64 (k : Nat)) h') :
    AC Tryz.prog 90 [.int .i64 (heads.length : Nat), .func (.func 91) [] [.ptr (some ⟨a6, 0⟩), .ptr (some ⟨a8, 0⟩)]] h Q := ac90b (by
  unfold vc90b
  refine ⟨fun xs h8 => ∃ i j : Nat, xs = [.int .i64 (i : Nat), .int .i64 (j : Nat)] ∧ i ≤ j ∧ j ≤ heads.length ∧ Ext h h8 ∧ (∀ k x, k < i → heads[k]? = some x → ltE x e) ∧ (∀ k x, j ≤ k → heads[k]? = some x → ¬ ltE x e),
    fun xs _ => match xs with | [.int _ i, .int _ j] => (j - i).toNat | _ => 0, ⟨0, heads.length, rfl, by omega, by omega, .refl _, by omega, fun k x hk hx => by have := (List.getElem?_eq_some_iff.1 hx).1; omega⟩, ?_⟩
  rintro n4 n5 h8 ⟨i, j, hx, hij, hj, x8, hlo, hhi⟩
  simp only [List.cons.injEq, AV.int.injEq, true_and, and_true] at hx
  obtain ⟨rfl, rfl⟩ := hx
  refine vif_mk (fun g => ?_) (fun g => ?_)
  · replace g := of_decide_eq_true g
    rw [mid_eq (by omega) (by omega)]
    have hm : (i + j) / 2 < heads.length := by omega
    have hmx : heads[(i + j) / 2]? = some heads[(i + j) / 2] := List.getElem?_eq_getElem hm
    refine k91 (x8.cells c6) (x8.cells c8) (x8 _ _ hs) (H.mono x8) hmx fun h10 x10 => ⟨_, rfl, ?_⟩
    refine vif_mk (fun g2 => ?_) (fun g2 => ?_)
    · have g2 : ltE heads[(i + j) / 2] e := by simpa using g2
      rw [wrapK_i64 ⟨by omega, by omega⟩]
      exact ⟨trivial, ⟨(i + j) / 2 + 1, j, by simp, by omega, hj, x8.trans x10, fun k x hk hx => ltE_of_le (sorted_get hso (by omega) hx hmx) g2, hhi⟩, by simp only; omega⟩
    · have g2 : ¬ ltE heads[(i + j) / 2] e := by simpa using g2
      exact ⟨trivial, ⟨i, (i + j) / 2, by simp, by omega, by omega, x8.trans x10, hlo, fun k x hk hx => fun hc => g2 (ltE_of_le (sorted_get hso hk hmx hx) hc)⟩, by simp only; omega⟩
  · replace g := of_decide_eq_false g
    have : i = j := by omega
    subst this
    exact hQ i h8 x8 hj hlo hhi)
/-- Find -/
theorem k23 (hs : h[sp]? = some (segC dp s base count q)) (H : HasL entE h q heads) (hso : SortedL heads) (hl : heads.length ≤ 100000) (hQ : ∀ h', Ext h h' → Q (.int .i64 (findS heads e : Nat)) h') :
    AC Tryz.prog 23 [.ptr (some ⟨sp, 0⟩), entV e] h Q := ac23 (by
  unfold vc23 PNew
  dsimp only
  have x7 : Ext h (h ++ [Blk.cells [.ptr (some ⟨sp, 0⟩)] true]) := .app _ _
  have x9 := x7.trans (.app (h ++ [Blk.cells [.ptr (some ⟨sp, 0⟩)] true]) [Blk.cells [.int .i64 e.1, .int .i64 e.2.1, .int .i64 e.2.2.1, .int .i64 e.2.2.2] true])
  generalize hh9 : h ++ [Blk.cells [.ptr (some ⟨sp, 0⟩)] true] ++ [Blk.cells [.int .i64 e.1, .int .i64 e.2.1, .int .i64 e.2.2.1, .int .i64 e.2.2.2] true] = h9 at *
  have b6 : h9[h.length]? = some (.cells [.ptr (some ⟨sp, 0⟩)] true) := by rw [← hh9]; simp
  have b8 : h9[h.length + 1]? = some (.cells (entE.f e) true) := by rw [← hh9]; simp [entE]
  have c6 : cellsAt h9 ⟨h.length, 0⟩ 1 = some [.ptr (some ⟨sp, 0⟩)] := by rw [cellsAt_mk (p := ⟨h.length, 0⟩) b6 (by simp)]; rfl
  have c8 : cellsAt h9 ⟨h.length + 1, 0⟩ 4 = some (entE.f e) := by rw [cellsAt_mk (p := ⟨h.length + 1, 0⟩) b8 (by simp [entE])]; rfl
  refine ⟨_, c6, ?_⟩
  refine k22 (x9 _ _ hs) (H.mono x9) ⟨_, rfl, ?_⟩
  rw [show (h ++ [Blk.cells [.ptr (some ⟨sp, 0⟩)] true]).length = h.length + 1 by simp]
  refine k90 c6 c8 (x9 _ _ hs) (H.mono x9) hso hl fun k h15 x15 hk h1 h2 => ⟨_, rfl, ?_⟩
  have e1 : maxI2 0 (wrapK .i64 ((k : Int) - 1)) = ((findS heads e : Nat) : Int) := by
    rw [findS_cut hk h1 h2, wrapK_i64 ⟨by omega, by omega⟩]
    unfold maxI2
    split <;> omega
  rw [e1]
  exact hQ _ (x9.trans x15))
end
end Go.Proofs.YtnglhicedhcpbaaGreatDoor

/- A segment is verified. -/
namespace Go.Proofs.YtnglhicedhcpbaaGreatDoor
open Go.Ab
open Go.Num hiding Bs snoc_ind
open Go.Ent Go.Seg
open Go.Page hiding Bs get
open Go.Dsk hiding Bs
set_option linter.unusedVariables false
set_option linter.unusedSimpArgs false
section
variable {h : Heap} {Q : AV → Heap → Prop} {ow : Roles} {dp sp : Nat} {D : DS} {s : Bs} {S : List Bs} {base count : Nat} {q : Option SL} {heads : List Ent}
/-- Are sectors those of a segment that was opened so? -/
def verS (S : List Bs) (base count : Nat) (heads : List Ent) : Prop := ∃ l, allS S base count heads = some l ∧ mayE l = 0 ∧ sectors base l = S
theorem lies_at {s : Bs} {x : Bs} {i : Nat} (Z : Lies D s S) (hx : S[i]? = some x) : x.length = 64 ∧ ∃ f y, D.find s = some f ∧ f.now[i]? = some y ∧ x = pad y := by
  obtain ⟨f, hf, rfl⟩ := Z.is
  rw [List.getElem?_map] at hx
  obtain ⟨y, hy, rfl⟩ := Option.map_eq_some_iff.1 hx
  exact ⟨pad_len, f, y, hf, hy, rfl⟩
/-- Read of what lies there. -/
theorem k56 {i : Nat} {x : Bs} (R : DiskR h ow dp D) (Z : Lies D s S) (hx : S[i]? = some x) (hQ : ∀ q' h', Ext h h' → HasL byE h' q' x → (∀ t, q' = some t → h.length ≤ t.b) → Q (.tup [.sl q', .int .i64 0]) h') :
    AC Tryz.prog 56 [.ptr (some ⟨dp, 0⟩), .str s, .int .i64 (i : Nat)] h Q := by
  obtain ⟨_, f, y, hf, hy, rfl⟩ := lies_at Z hx
  have hil := (List.getElem?_eq_some_iff.1 hy).1
  refine d56 R (fun v _ _ hn => ?_) fun f' y' q7 h6 _ hf' _ hy' x6 H7 f7 => ?_
  · exact absurd ⟨by omega, by omega⟩ (hn Z.on f hf)
  rw [hf] at hf'; cases hf'
  have : y' = y := by
    have : f.now[((i : Nat) : Int).toNat]? = some y' := hy'
    simp only [Int.toNat_natCast] at this
    rw [hy] at this; cases this; rfl
  subst this
  exact hQ _ _ x6 H7 f7
theorem k24 (L : Laid h) (R : DiskR h ow dp D) (Z : Lies D s S) (b1 : 1 ≤ base) (hb : base ≤ 2305843009213693952) (hS : S.length ≤ 9000) (hs : h[sp]? = some (segC dp s base count q)) (H : HasL entE h q heads) (hh : heads.length ≤ S.length)
    (h0 : ¬ verS S base count heads → ∀ h', Ext h h' → Q (.int .i64 80) h') (h1 : verS S base count heads → ∀ h', Ext h h' → Q (.int .i64 0) h') : AC Tryz.prog 24 [.ptr (some ⟨sp, 0⟩)] h Q := ac24 (by
  unfold vc24
  refine k17 L R Z b1 hb hS hs H hh (fun hn h3 x3 => ⟨_, _, rfl, vif_mk (fun _ => h0 ?_ _ x3) (fun g => by simp at g)⟩) fun l q4 h3 hl N3 => ⟨_, _, rfl, vif_mk (fun g => by simp at g) (fun _ => ?_)⟩
  · rintro ⟨l, hl, _⟩
    rw [hn] at hl; cases hl
  have x3 := N3.1
  have uq : ∀ l', allS S base count heads = some l' → l' = l := fun l' h' => by rw [hl] at h'; cases h'; rfl
  have hll := (pagesTo_some (allS_some hl).1).1
  refine ⟨_, seg_at (x3 _ _ hs) (k := 2) rfl, ?_⟩
  refine k93 (L.ext x3) N3.hasL (by omega) ⟨b1, hb⟩ (fun hm => ⟨_, _, rfl, vif_mk (fun _ => h0 ?_ _ x3) (fun g => absurd (by simpa using g) hm)⟩) fun hm q10 qs h9 L9 => ⟨_, _, rfl, vif_mk (fun g => by simp at g) (fun _ => ?_)⟩
  · rintro ⟨l', hl', hm', _⟩
    rw [uq l' hl'] at hm'
    exact hm hm'
  have x9 := x3.trans L9.ext
  have I9 := LL.llsB L9
  have lI := I9.len
  have ver : sectors base l = S → verS S base count heads := fun he => ⟨l, hl, hm, he⟩
  have unv : sectors base l ≠ S → ¬ verS S base count heads := fun he ⟨l', hl', _, he'⟩ => by rw [uq l' hl'] at he'; exact he he'
  refine ⟨_, seg_at (x9 _ _ hs) (k := 0) rfl, _, seg_at (x9 _ _ hs) (k := 1) rfl, ?_⟩
  obtain ⟨f, hf, hSf⟩ := Z.is
  have hsz : f.now.length = S.length := by rw [hSf, List.length_map]
  refine d64 (R.grow x9) (fun hn => by rw [hf] at hn; cases hn) fun f' hf' => ⟨_, _, rfl, ?_⟩
  rw [hf] at hf'; cases hf'
  rw [hsz, lI]
  refine vif_mk (fun g => h0 (unv fun he => ?_) _ x9) (fun g => ?_)
  · rw [he] at g; simp at g
  have g : S.length = (sectors base l).length := by have : (S.length : Int) = ((sectors base l).length : Int) := by simpa using g
                                                    omega
  refine ⟨fun xs h23 => ∃ i : Nat, xs = [.int .i64 (i : Nat)] ∧ i ≤ S.length ∧ Ext h9 h23 ∧ (sectors base l).take i = S.take i, fun xs _ => match xs with | [.int _ i] => (S.length - i).toNat | _ => 0, ⟨0, rfl, by omega, .refl _, rfl⟩, ?_⟩
  rintro n20 h23 ⟨i, hx, hi, x23, htk⟩
  simp only [List.cons.injEq, AV.int.injEq, true_and, and_true] at hx
  subst hx
  have xx := x9.trans x23
  refine vif_mk (fun g2 => ?_) (fun g2 => ?_)
  · replace g2 := of_decide_eq_true g2
    refine (I9.keeps (X := fun _ => False) (keeps_of_ext x23) (fun _ _ _ h => h)).idx (by omega) (by omega) fun p q25 b hbx hc Hb _ => ⟨q25, hc, _, seg_at (xx _ _ hs) (k := 0) rfl, _, seg_at (xx _ _ hs) (k := 1) rfl, ?_⟩
    have hbx' : (sectors base l)[i]? = some b := by simpa using hbx
    have hil : i < S.length := by omega
    have hSx : S[i]? = some S[i] := List.getElem?_eq_getElem hil
    have h64 := (lies_at Z hSx).1
    have hb64 : b.length ≤ 1000000 := by
      obtain ⟨b', hb', _, rfl⟩ := sectors_get hbx'
      obtain ⟨hok, hlm⟩ := mayE_ok.1 hm
      rw [put_len (pagesB_fit hok hlm b' hb')]; omega
    refine k56 (R.grow xx) Z hSx fun q32 h31 x31 H32 _ => ⟨_, _, rfl, vif_mk (fun g => by simp at g) (fun _ => ?_)⟩
    refine k94 H32 (Hb.mono x31) (by omega) ⟨_, rfl, ?_⟩
    refine vif_mk (fun g3 => h0 (unv fun he => ?_) _ (xx.trans x31)) (fun g3 => ?_)
    · rw [he] at hbx'
      rw [hSx] at hbx'
      simp only [Bool.not_eq_true', decide_eq_false_iff_not] at g3
      exact g3 (Option.some.inj hbx')
    · have g3 : S[i] = b := by simpa using g3
      rw [wrapK_i64 ⟨by omega, by omega⟩]
      refine ⟨trivial, ⟨i + 1, by simp, by omega, x23.trans x31, ?_⟩, by simp only; omega⟩
      rw [List.take_add_one, List.take_add_one, htk, hbx', hSx, g3]
  · replace g2 := of_decide_eq_false g2
    have hie : i = S.length := by omega
    subst hie
    refine h1 (ver ?_) _ xx
    rw [List.take_length, List.take_of_length_le (by omega)] at htk
    exact htk)
end
end Go.Proofs.YtnglhicedhcpbaaGreatDoor

/- What was written is opened, and is all: the walk. -/
namespace Go.Proofs.YtnglhicedhcpbaaGreatDoor
open Go.Ab
open Go.Num hiding Bs snoc_ind
open Go.Ent Go.Seg
open Go.Page hiding Bs get
open Go.Dsk hiding Bs
set_option linter.unusedVariables false
set_option linter.unusedSimpArgs false
theorem mayE_perm {l m : List Ent} (hp : l.Perm m) (h : mayE l = 0) : mayE m = 0 := by
  obtain ⟨a, b⟩ := mayE_ok.1 h
  exact mayE_ok.2 ⟨fun e he => a e (hp.mem_iff.2 he), by rw [← hp.length_eq]; exact b⟩
theorem sort_may {l : List Ent} (h : mayE l = 0) : mayE (sortE l) = 0 := mayE_perm (sortE_perm l).symm h
theorem sort_len {l : List Ent} : (sortE l).length = l.length := (sortE_perm l).length_eq
theorem mayS_ok {base : Nat} {l : List Ent} (hb : baseOk base = true) (hm : mayE l = 0) (hs : SortedL l) : mayS base l = 0 := by
  unfold mayS
  rw [hb, if_neg (by simp), if_neg (by simp [hm]), if_pos hs]
theorem map_pad : ∀ {l : List Bs}, (∀ x ∈ l, x.length = 64) → l.map pad = l
  | [], _ => rfl
  | y :: l, h => by rw [List.map_cons, pad_self (h y (by simp)), map_pad (fun x hx => h x (by simp [hx]))]
theorem lies_one {b : Nat} {s : Bs} {S T : List Bs} {ps : List PD} {lim : Int} (h64 : ∀ x ∈ S, x.length = 64) : Lies (oneD ⟨b, s, S, T⟩ ps lim) s S :=
  ⟨rfl, ⟨b, s, S, T⟩, oneD_find (f := ⟨b, s, S, T⟩), (map_pad h64).symm⟩
section
variable {h : Heap} {Q : AV → Heap → Prop}
/-- A new disk, entries in order written on it as a segment. -/
theorem new_wrote {q : Option SL} {l : List Ent} {base : Nat} {K : AV → Heap → Prop} {ow : Roles} {dp : Nat} (L : Laid h) (R : DiskR h ow dp (emptyD 16384)) (H : HasL entE h q (sortE l)) (hl : l.length ≤ 700) (hm : mayE l = 0) (b1 : 1 ≤ base) (b2 : base ≤ 2305843009213693952)
    (hK : ∀ b h' ow', DiskR h' ow' dp (oneD ⟨b, [115], sectors base (sortE l), sectors base (sortE l)⟩ [] 16384) → DStep ow h ow' h' → K (.int .i64 0) h') :
    AC Tryz.prog 25 [.ptr (some ⟨dp, 0⟩), .str [115], .int .i64 (base : Nat), .sl q] h K := by
  have hms := sort_may hm
  obtain ⟨hok, hlm⟩ := mayE_ok.1 hms
  have hbo : baseOk (base : Int) = true := decide_eq_true ⟨by omega, by omega⟩
  refine k25 (lim := 16384) rfl (by omega) L R H (by rw [sort_len]; omega) (fun hn => absurd (mayS_ok hbo hms (sortE_sorted l)) hn) fun base' he _ _ _ _ b h' ow' R' S' => ?_
  obtain rfl : base = base' := by omega
  have hw : wrD b [115] (sectors base (sortE l)) 16384 = (0, oneD ⟨b, [115], sectors base (sortE l), sectors base (sortE l)⟩ [] 16384) := by
    unfold wrD
    rw [if_pos]
    · rfl
    · rw [sectors_len]
      have := packG_len hok; have := idx_len hok
      rw [sort_len] at *; omega
  rw [hw] at R' ⊢
  exact hK b h' ow' R' S'
set_option maxHeartbeats 1000000 in
theorem s9 (lives : ∀ {h : Heap} {Q : AV → Heap → Prop}, Laid h → Q (.bool true) h → AC Tryz.prog 19 [] h Q) {n : Int} {q : Option SL} {l : List Ent} {e : Ent} (L : Laid h) (H : HasL entE h q l) : AC Tryz.prog 9 [.int .i64 n, .sl q, entV e] h fun v _ => v = .bool true := ac9 (by
  unfold vc9
  rw [H.len]
  refine vif_mk (fun _ => lives L ⟨_, rfl, rfl⟩) (fun g => ?_)
  replace g := of_decide_eq_false g
  refine k57 ⟨_, rfl, vif_mk (fun _ => lives L ⟨_, rfl, rfl⟩) (fun g1 => ?_)⟩
  have g1 : baseOk n = true := by simpa using g1
  obtain ⟨base, rfl, b1, b2⟩ := baseOk_nat g1
  refine k58 H (by omega) ⟨_, rfl, vif_mk (fun _ => lives L ⟨_, rfl, rfl⟩) (fun g2 => ?_)⟩
  have hm : mayE l = 0 := by simpa using g2
  have hms := sort_may hm
  obtain ⟨hok, hlm⟩ := mayE_ok.1 hms
  have hso := sortE_sorted l
  have hsl : (sortE l).length = l.length := sort_len
  refine d26 (by omega) (by omega) fun ow R0 B0 => ⟨_, _, rfl, ?_⟩
  have x1 : Ext h (h ++ [Blk.mp [] 0] ++ [Blk.cells [.map (some h.length), .sl none, .int .i64 16384, .int .i64 (-1), .bool false] true]) := (Ext.app _ _).trans (Ext.app _ _)
  generalize h ++ [Blk.mp [] 0] ++ [Blk.cells [.map (some h.length), .sl none, .int .i64 16384, .int .i64 (-1), .bool false] true] = h1 at *
  generalize h.length + 1 = dp at *
  refine z59 l.length (Nat.le_refl _) (H.mono x1) (by omega) fun q28 h27 N28 => ⟨q28, rfl, ?_⟩
  have x27 := x1.trans N28.1
  have L27 := L.ext x27
  refine lives L27 ⟨_, rfl, vif_mk (fun g => by simp at g) (fun _ => vif_mk (fun g => by simp at g) (fun _ => vif_mk (fun g => by simp at g) (fun _ => ?_)))⟩
  refine new_wrote L27 (R0.grow N28.1) N28.hasL (by omega) hm b1 b2 fun b h33 ow33 R33 S33 => ⟨_, rfl, vif_mk (fun g => by simp at g) (fun _ => ?_)⟩
  have B33 : Base h1 ow33 h33 ∨ True := .inr trivial
  -- what is kept
  have own28 : ∀ (B : Nat), B < h27.length → ow B = none → h33[B]? = h27[B]? := fun B hB ho => by
    have := S33.keeps B _ (fun hc => hc ho) (List.getElem?_eq_getElem hB)
    rw [this, List.getElem?_eq_getElem hB]
  have ownlive := R0.live
  have H33 : HasL entE h33 q28 (sortE l) := S33.keeps.hasL (fun t ht hc => by have := N28.2.2 t ht; have := ownlive _ hc; omega) N28.hasL
  have L33 : Laid h33 := L27.keeps S33.keeps (fun hc => by have := B0 _ hc; have := L.len; omega) (fun hc => by have := B0 _ hc; have := L.len; omega)
  generalize hS : sectors base (sortE l) = S at *
  have h64 : ∀ x ∈ S, x.length = 64 := by rw [← hS]; exact sectors_len64 hok hlm
  have hSl : S.length ≤ 2000 := by
    rw [← hS, sectors_len]
    have := packG_len hok; have := idx_len hok; omega
  have Z : Lies (oneD ⟨b, [115], S, S⟩ [] 16384) [115] S := lies_one h64
  refine d54 R33 (by simp [oneD]) fun q37 h36 N37 => ⟨q37, rfl, ?_⟩
  have e37 : slLen q37 = 0 := by rw [N37.hasL.len]; rfl
  rw [e37]
  refine vif_mk (fun g => by simp at g) (fun _ => ?_)
  have x36 := N37.1
  have hop : openS S base = some ((sortE l).length, headsG (packG (sortE l))) := by rw [← hS]; exact openS_sectors hok hlm hso
  refine k18 (L33.ext x36) (R33.grow x36) Z b1 b2 (by omega) (fun hn => by rw [hop] at hn; cases hn) fun c heads sp qh h39 ho O => ⟨_, _, rfl, vif_mk (fun g => by simp at g) (fun _ => vif_mk (fun g => by simp at g) (fun _ => ?_))⟩
  rw [hop] at ho; cases ho
  have x39 := x36.trans O.keep
  have hhl : (headsG (packG (sortE l))).length ≤ S.length := (openS_some hop).2
  have hhs : SortedL (headsG (packG (sortE l))) := (openS_some hop).1
  have hall : allS S base (sortE l).length (headsG (packG (sortE l))) = some (sortE l) := by rw [← hS]; exact allS_sectors hok hso
  refine k17 (L33.ext x39) (R33.grow x39) Z b1 b2 (by omega) O.at' O.hd.hasL hhl (fun hn => by rw [hall] at hn; cases hn) fun l2 q44 h43 hl2 N44 => ⟨_, _, rfl, ?_⟩
  rw [hall] at hl2; cases hl2
  have x43 := x39.trans N44.1
  refine k61 (H33.mono x43) hok hlm b2 fun q48 qs48 h47 L48 => ⟨q48, rfl, ?_⟩
  have x47 := x43.trans L48.ext
  refine k60 L48.lls hok hlm hso b1 b2 fun p51 qd h50 x50 _ _ Od => ⟨_, _, rfl, vif_mk (fun _ => ?_) (fun g => by simp at g)⟩
  have xx := x47.trans x50
  have y50 := L48.ext.trans x50
  refine k62 (N44.hasL.mono y50) (H33.mono xx) (by omega) ⟨_, rfl, vif_mk (fun _ => ?_) (fun g => by simp at g)⟩
  have at50 := y50 _ _ (N44.1 _ _ O.at')
  have hd50 := (O.hd.ext N44.1).ext y50
  refine k21 at50 ⟨_, rfl, ?_⟩
  rw [(H33.mono xx).len]
  refine vif_mk (fun _ => ?_) (fun g => by simp at g)
  have ver : verS S base (sortE l).length (headsG (packG (sortE l))) := ⟨_, hall, hms, hS⟩
  refine k24 (L33.ext xx) (R33.grow xx) Z b1 b2 (by omega) at50 hd50.hasL hhl (fun hn => absurd ver hn) fun _ h60 x60 => ⟨_, rfl, vif_mk (fun _ => vif_mk (fun _ => ?_) (fun g => by cases g)) (fun g => by simp at g)⟩
  refine k23 (x60 _ _ at50) (hd50.ext x60).hasL hhs (by omega) fun h63 x63 => ⟨_, rfl, rfl, ?_⟩
  have Od63 : DocO h63 p51 q48 base (sortE l).length (headsG (packG (sortE l))) qd := Od.keeps (X := fun _ => False) (keeps_of_ext (x60.trans x63)) (fun h => h) (fun _ _ h => h)
  refine k63 Od63 hhs (by omega) ⟨_, rfl, ?_⟩
  simp)
end
end Go.Proofs.YtnglhicedhcpbaaGreatDoor

/- The pool's world is made: a disk, three segments on it. -/
namespace Go.Proofs.YtnglhicedhcpbaaGreatDoor
open Go.Ab
open Go.Num hiding Bs snoc_ind
open Go.Ent Go.Seg
open Go.Page hiding Bs get
open Go.Dsk hiding Bs
set_option linter.unusedVariables false
set_option linter.unusedSimpArgs false
def ptrE : Enc Nat := ⟨1, fun b => [.ptr (some ⟨b, 0⟩)], fun _ => rfl, by omega, fun _ => rfl⟩
/-- A segment of the world. -/
structure SegW (h : Heap) (dp k sp : Nat) (q : Option SL) : Prop where
  at' : h[sp]? = some (segC dp (nameK k) (baseK k) (cntK k) q)
  hd : Apd entE h q (headsK k)
theorem SegW.keeps {h h' : Heap} {dp k sp : Nat} {q : Option SL} {X : Nat → Prop} (S : SegW h dp k sp q) (K : Keeps X h h') (h1 : ¬ X sp) (h2 : ∀ t, q = some t → ¬ X t.b) : SegW h' dp k sp q :=
  ⟨K _ _ h1 S.at', S.hd.keeps K h2⟩
/-- The world as far as it is made. -/
structure NW (h0 h : Heap) (ow : Roles) (dp a : Nat) (qS qL : Option SL) (fs : List FA) (sps : List Nat) (ls : List (Option SL)) (kf k : Nat) : Prop where
  ext : Ext h0 h
  disk : DiskR h ow dp (calmD fs 1000)
  fl : fs.length = kf
  fn : ∀ (j : Nat) (f : FA), fs[j]? = some f → f.name = nameK j ∧ f.now = SK j ∧ f.safe = SK j
  sl : sps.length = k
  cell : h[a]? = some (.cells [.ptr (some ⟨dp, 0⟩), .sl qS, .sl qL] true)
  aS : Apd ptrE h qS sps
  aL : Apd slE h qL ls
  ll : ls.length ≤ 10
  sS : ∀ t, qS = some t → ow t.b = none ∧ t.b ≠ a ∧ h0.length ≤ t.b
  sL : ∀ t, qL = some t → ow t.b = none ∧ t.b ≠ a ∧ h0.length ≤ t.b
  sSL : ∀ t u, qS = some t → qL = some u → t.b ≠ u.b
  own : ow a = none
  new : h0.length ≤ a
  old : ∀ b, ow b ≠ none → h0.length ≤ b
  seg : ∀ (j sp : Nat), sps[j]? = some sp → ∃ q, SegW h dp j sp q ∧ (∀ b, (b = sp ∨ ∃ t, q = some t ∧ t.b = b) → ow b = none ∧ b ≠ a ∧ h0.length ≤ b ∧ (∀ t, qS = some t → b ≠ t.b) ∧ (∀ t, qL = some t → b ≠ t.b))
section
variable {h h' : Heap} {Q : AV → Heap → Prop}
theorem k72 (hQ : ∀ q h', Ext h h' → (∀ (k : Nat) (K : PA → Prop), k < 3 → (∀ p, cellsAt h' p 1 = some [.str (nameK k)] → K p) → vIdx q (k : Nat) 1 K) → Q (.sl q) h') : AC Tryz.prog 72 [] h Q := ac72 (by
  unfold vc72 PNew
  refine hQ _ _ (.app _ _) fun k K hk hK => ?_
  refine ⟨by omega, by simp only; omega, hK _ ?_⟩
  have hb : (h ++ [Blk.cells [.str [97], .str [98], .str [99]] true])[h.length]? = some (.cells [.str [97], .str [98], .str [99]] true) := by simp
  match k, hk with
  | 0, _ => rw [cellsAt_mk (p := ⟨h.length, 0 + ((0 : Nat) : Int).toNat * 1⟩) hb (by simp)]; rfl
  | 1, _ => rw [cellsAt_mk (p := ⟨h.length, 0 + ((1 : Nat) : Int).toNat * 1⟩) hb (by simp)]; rfl
  | 2, _ => rw [cellsAt_mk (p := ⟨h.length, 0 + ((2 : Nat) : Int).toNat * 1⟩) hb (by simp)]; rfl)
variable {h0 : Heap} {ow : Roles} {dp a k kf : Nat} {qS qL : Option SL} {fs : List FA} {sps : List Nat} {ls : List (Option SL)}
theorem NW.grow (W : NW h0 h ow dp a qS qL fs sps ls kf k) (x : Ext h h') : NW h0 h' ow dp a qS qL fs sps ls kf k :=
  { W with
    ext := W.ext.trans x
    disk := W.disk.grow x
    cell := x _ _ W.cell
    aS := W.aS.ext x
    aL := W.aL.ext x
    seg := fun j sp hj => let ⟨q, s, r⟩ := W.seg j sp hj; ⟨q, s.keeps (X := fun _ => False) (keeps_of_ext x) (fun h => h) (fun _ _ h => h), r⟩ }
theorem nameK_ne {i j : Nat} (hi : i < 3) (hj : j < 3) (h : i ≠ j) : nameK i ≠ nameK j := by
  match i, hi, j, hj with
  | 0, _, 0, _ | 1, _, 1, _ | 2, _, 2, _ => exact absurd rfl h
  | 0, _, 1, _ | 0, _, 2, _ | 1, _, 0, _ | 1, _, 2, _ | 2, _, 0, _ | 2, _, 1, _ => decide
theorem nameK_may {k : Nat} (hk : k < 3) : mayN (nameK k) = true := by
  match k, hk with
  | 0, _ | 1, _ | 2, _ => rfl
theorem used_le : ∀ {fs : List FA} {c : Nat}, (∀ f ∈ fs, f.now.length ≤ c) → (fs.map (·.now.length)).sum ≤ c * fs.length
  | [], c, _ => by simp
  | f :: fs, c, h => by
    have h1 := h f (by simp)
    have h2 := used_le (fs := fs) (c := c) (fun g hg => h g (by simp [hg]))
    simp only [List.map_cons, List.sum_cons, List.length_cons, Nat.mul_add, Nat.mul_one]
    omega
theorem SK64 {k : Nat} (hk : k < 3) : ∀ x ∈ SK k, x.length = 64 := by
  have h1 := cntK_le hk
  exact sectors_len64 (ents_ok (by omega)) (by rw [ents_len]; omega)
/-- The disk with one more segment. -/
theorem NW.write (W : NW h0 h ow dp a qS qL fs sps ls k k) (L : Laid h) (hk : k < 3) {q : Option SL} (H : HasL entE h q (ents (cntK k)))
    (hQ : ∀ b h' ow', NW h0 h' ow' dp a qS qL (fs ++ [⟨b, nameK k, SK k, SK k⟩]) sps ls (k + 1) k → DStep ow h ow' h' → Q (.int .i64 0) h') : AC Tryz.prog 25 [.ptr (some ⟨dp, 0⟩), .str (nameK k), .int .i64 (baseK k : Nat), .sl q] h Q := by
  have hc := cntK_le hk
  have hok := ents_ok (n := cntK k) (by omega)
  have hm : mayE (ents (cntK k)) = 0 := mayE_ok.2 ⟨hok, by rw [ents_len]; omega⟩
  have hbo : baseOk (baseK k : Int) = true := decide_eq_true ⟨by unfold baseK; omega, by unfold baseK; omega⟩
  have hnames : ∀ y ∈ fs, y.name ≠ nameK k := fun y hy => by
    obtain ⟨j, hj⟩ := List.getElem?_of_mem hy
    have hjl := (List.getElem?_eq_some_iff.1 hj).1
    rw [W.fl] at hjl
    rw [(W.fn j y hj).1]
    exact nameK_ne (by omega) hk (by omega)
  refine k25D L W.disk (by simp [calmD]) H (by rw [ents_len]; omega) (fun hn => absurd (mayS_ok hbo hm ents_sorted) hn) fun base' he _ _ _ _ b h' ow' hfr R' S' => ?_
  obtain rfl : baseK k = base' := by omega
  have hcr : ((calmD fs 1000).create (nameK k) b).1 = 0 := by
    unfold DS.create
    have hnone : (calmD fs 1000).find (nameK k) = none := by
      unfold DS.find calmD
      exact List.find?_eq_none.2 (fun x hx => by simpa using hnames x hx)
    rw [if_neg (by simp [nameK_may hk]), if_neg (by simp [calmD]), if_neg (by simp [hnone]), if_neg (by simp [calmD]; have := W.fl; omega)]
    rfl
  have hb := hfr hcr
  have hw := wr_calm (lim := 1000) (S := SK k) (b := b) (nameK_may hk) hnames hb (by have := W.fl; omega) (SK64 hk) (by
    have h1 := used_le (fs := fs) (c := 213) (fun f hf => by
      obtain ⟨j, hj⟩ := List.getElem?_of_mem hf
      have hjl := (List.getElem?_eq_some_iff.1 hj).1
      rw [W.fl] at hjl
      rw [(W.fn j f hj).2.1]
      exact SK_len (by omega))
    rw [W.fl] at h1
    have h2 := SK_len hk
    omega)
  have e : sectors (baseK k) (ents (cntK k)) = SK k := rfl
  rw [e, hw] at R' ⊢
  have live := W.disk.live
  have keep : ∀ x, ow x = none → ¬ dsk ow x := fun x hx hc => hc hx
  have non : ∀ x, x < h.length → ow x = none → ow' x = none := fun x hx ho => by
    cases hc : ow' x with
    | none => rfl
    | some r =>
      exfalso
      rcases S'.own x (by rw [hc]; simp) with h1 | h1
      · exact h1 ho
      · omega
  refine hQ b h' ow' ⟨?_, R', by rw [List.length_append, W.fl]; rfl, ?_, W.sl, S'.keeps _ _ (keep _ W.own) W.cell, W.aS.keeps S'.keeps (fun t ht => keep _ (W.sS t ht).1), W.aL.keeps S'.keeps (fun t ht => keep _ (W.sL t ht).1), W.ll, ?_, ?_, W.sSL, non _ (lt_of_get W.cell) W.own, W.new, ?_, ?_⟩ S'
  · intro c B hB
    refine S'.keeps _ _ (fun hc => ?_) (W.ext _ _ hB)
    have := W.old c hc; have := lt_of_get hB; omega
  · intro j f hj
    rcases Nat.lt_or_ge j fs.length with h1 | h1
    · rw [List.getElem?_append_left h1] at hj
      exact W.fn j f hj
    · rw [List.getElem?_append_right h1] at hj
      have h2 : j - fs.length = 0 := by
        have := (List.getElem?_eq_some_iff.1 hj).1
        simpa using this
      rw [h2] at hj
      cases hj
      have : j = k := by have := W.fl; omega
      subst this
      exact ⟨rfl, rfl, rfl⟩
  · intro t ht
    obtain ⟨a1, a2, a3⟩ := W.sS t ht
    exact ⟨non _ (HasL.live W.aS.hasL t ht) a1, a2, a3⟩
  · intro t ht
    obtain ⟨a1, a2, a3⟩ := W.sL t ht
    exact ⟨non _ (HasL.live W.aL.hasL t ht) a1, a2, a3⟩
  · intro c hc
    rcases S'.own c hc with h1 | h1
    · exact W.old c h1
    · have := W.ext.len; omega
  · intro j sp hj
    obtain ⟨q, Sg, sep⟩ := W.seg j sp hj
    refine ⟨q, Sg.keeps S'.keeps (keep _ (sep sp (.inl rfl)).1) (fun t ht => keep _ (sep t.b (.inr ⟨t, ht, rfl⟩)).1), fun c hc => ?_⟩
    obtain ⟨a1, a2, a3, a4, a5⟩ := sep c hc
    refine ⟨non c ?_ a1, a2, a3, a4, a5⟩
    rcases hc with rfl | ⟨t, ht, rfl⟩
    · exact lt_of_get Sg.at'
    · exact HasL.live Sg.hd.hasL t ht
theorem NW.lies (W : NW h0 h ow dp a qS qL fs sps ls kf k) {j : Nat} (hj : j < kf) (hk : kf ≤ 3) : Lies (calmD fs 1000) (nameK j) (SK j) := by
  have hf : fs[j]? = some (fs[j]'(by rw [W.fl]; exact hj)) := List.getElem?_eq_getElem _
  generalize fs[j]'(by rw [W.fl]; exact hj) = f at hf
  obtain ⟨h1, h2, _⟩ := W.fn j f hf
  refine ⟨rfl, f, ?_, ?_⟩
  · obtain ⟨_, _, _, _, C⟩ := W.disk
    have hn : (fs.map (·.name)).Nodup := C.names
    rw [← h1]
    unfold DS.find calmD
    simp only
    have hfm := List.mem_of_getElem? hf
    cases hc : fs.find? (fun g => g.name == f.name) with
    | none => exact absurd (List.find?_eq_none.1 hc f hfm) (by simp)
    | some g =>
      have hg1 := List.mem_of_find?_eq_some hc
      have hg2 : g.name = f.name := by simpa using List.find?_some hc
      rw [uniq_n hn hg1 hfm hg2]
  · rw [h2, map_pad (SK64 (by omega))]
/-- One more segment in the list of them. -/
theorem NW.pushS {sp : Nat} {q : Option SL} {K : Heap → Prop} (W : NW h0 h ow dp a qS qL fs sps ls kf k) (hk : k ≤ 3) (Sg : SegW h dp k sp q) (sep : ∀ b, (b = sp ∨ ∃ t, q = some t ∧ t.b = b) → ow b = none ∧ b ≠ a ∧ h0.length ≤ b ∧ (∀ t, qS = some t → b ≠ t.b) ∧ (∀ t, qL = some t → b ≠ t.b))
    (hK : ∀ q43 h45, NW h0 h45 ow dp a q43 qL fs (sps ++ [sp]) ls kf (k + 1) → K h45) : PAppendS 1 8 qS (some ⟨h.length, 0, 1, 1, 0⟩) (h ++ [.cells [.ptr (some ⟨sp, 0⟩)] true]) fun q43 h44 => PStore h44 ⟨a, 1⟩ [.sl q43] K := by
  have x : Ext h (h ++ [Blk.cells [.ptr (some ⟨sp, 0⟩)] true]) := .app _ _
  have W1 := W.grow x
  have Sg1 := Sg.keeps (X := fun _ => False) (keeps_of_ext x) (fun h => h) (fun _ _ h => h)
  have hal := lt_of_get W.cell
  refine Apd.append (E := ptrE) W1.aS (HasL.new (E := ptrE) (l := [sp]) (n := 1) rfl rfl) (by rw [W.sl]; simp; omega) fun q43 h44 A44 K44 l44 f44 => ?_
  have fresh : ∀ o, q43 = some o → h.length + 1 ≤ o.b ∨ ∃ u, qS = some u ∧ u.b = o.b := fun o ho => by
    have := f44 o ho
    simpa using this
  have na : ¬ (∃ u, qS = some u ∧ u.b = a) := fun ⟨u, hu, hb⟩ => (W.sS u hu).2.1 hb
  have b44 := K44 _ _ na W1.cell
  have hal44 := lt_of_get b44
  have K2 : Keeps (fun b => b = a) h44 (h44.set a (.cells [.ptr (some ⟨dp, 0⟩), .sl q43, .sl qL] true)) := keeps_set rfl
  have KK : Keeps (fun b => b = a ∨ ∃ u, qS = some u ∧ u.b = b) (h ++ [Blk.cells [.ptr (some ⟨sp, 0⟩)] true]) (h44.set a (.cells [.ptr (some ⟨dp, 0⟩), .sl q43, .sl qL] true)) := fun c B hc hB => K2 _ _ (fun h => hc (.inl h)) (K44 _ _ (fun h => hc (.inr h)) hB)
  have f43 : ∀ t, q43 = some t → ow t.b = none ∧ t.b ≠ a ∧ h0.length ≤ t.b := fun t ht => by
    rcases fresh t ht with h1 | ⟨u, hu, hb⟩
    · refine ⟨?_, by omega, by have := W.ext.len; omega⟩
      cases ho : ow t.b with
      | none => rfl
      | some r => have := W.disk.live t.b (by rw [ho]; simp); omega
    · rw [← hb]; exact W.sS u hu
  have nw : ∀ c, ow c = none → c ≠ a → (∀ t, qS = some t → c ≠ t.b) → ¬ (c = a ∨ ∃ u, qS = some u ∧ u.b = c) := fun c _ h1 h2 hc => by
    rcases hc with hc | ⟨u, hu, hb⟩
    · exact h1 hc
    · exact h2 u hu hb.symm
  have owned : ∀ c, ow c ≠ none → ¬ (c = a ∨ ∃ u, qS = some u ∧ u.b = c) := fun c ho hc => by
    rcases hc with rfl | ⟨u, hu, rfl⟩
    · exact ho W.own
    · exact ho (W.sS u hu).1
  have := store6 (o := 1) (xs := [.sl q43]) (K := K) b44 (by simp)
  rw [Nat.zero_add] at this
  have ln : h.length + 1 ≤ h44.length := by simpa using l44
  have sl43 : ∀ t u, q43 = some t → qL = some u → t.b ≠ u.b := fun t u ht hu => by
    rcases fresh t ht with h1 | ⟨v, hv, hb⟩
    · have := HasL.live W.aL.hasL u hu; omega
    · rw [← hb]; exact W.sSL v u hv hu
  refine this (hK q43 _ ⟨?_, ?_, W.fl, W.fn, by rw [List.length_append, W.sl]; rfl, ?_, ?_, ?_, W.ll, f43, W.sL, sl43, W.own, W.new, W.old, ?_⟩)
  · intro c B hB
    refine KK _ _ (fun hc => ?_) (W1.ext _ _ hB)
    have hcl := lt_of_get hB
    rcases hc with rfl | ⟨u, hu, rfl⟩
    · have := W.new; omega
    · have := (W.sS u hu).2.2; omega
  · refine W1.disk.ext (fun c B hc hB => KK _ _ (owned c hc) hB) (by rw [List.length_set]; simp; omega)
  · rw [show splice [AV.ptr (some ⟨dp, 0⟩), .sl qS, .sl qL] 1 [.sl q43] = [AV.ptr (some ⟨dp, 0⟩), .sl q43, .sl qL] from rfl, List.getElem?_set_self hal44]
  · exact A44.keeps K2 fun t ht hc => (f43 t ht).2.1 hc
  · exact W1.aL.keeps KK fun t ht => nw _ (W.sL t ht).1 (W.sL t ht).2.1 fun u hu hc => W.sSL u t hu ht hc.symm
  · intro j sp' hj
    have key : ∀ (j sp' : Nat) (q' : Option SL), SegW (h ++ [Blk.cells [.ptr (some ⟨sp, 0⟩)] true]) dp j sp' q' → (∀ b, (b = sp' ∨ ∃ t, q' = some t ∧ t.b = b) → ow b = none ∧ b ≠ a ∧ h0.length ≤ b ∧ (∀ t, qS = some t → b ≠ t.b) ∧ (∀ t, qL = some t → b ≠ t.b) ∧ b < h.length) →
        ∃ q, SegW (h44.set a (.cells [.ptr (some ⟨dp, 0⟩), .sl q43, .sl qL] true)) dp j sp' q ∧ (∀ b, (b = sp' ∨ ∃ t, q = some t ∧ t.b = b) → ow b = none ∧ b ≠ a ∧ h0.length ≤ b ∧ (∀ t, q43 = some t → b ≠ t.b) ∧ (∀ t, qL = some t → b ≠ t.b)) := by
      intro j sp' q' S' sep'
      refine ⟨q', S'.keeps KK ?_ (fun t ht => ?_), fun c hc => ?_⟩
      · obtain ⟨a1, a2, _, a4, _⟩ := sep' sp' (.inl rfl)
        exact nw _ a1 a2 a4
      · obtain ⟨a1, a2, _, a4, _⟩ := sep' t.b (.inr ⟨t, ht, rfl⟩)
        exact nw _ a1 a2 a4
      · obtain ⟨a1, a2, a3, a4, a5, a6⟩ := sep' c hc
        refine ⟨a1, a2, a3, fun t ht => ?_, a5⟩
        rcases fresh t ht with h1 | ⟨v, hv, hb⟩
        · omega
        · rw [← hb]; exact a4 v hv
    rcases Nat.lt_or_ge j sps.length with h1 | h1
    · rw [List.getElem?_append_left h1] at hj
      obtain ⟨q', S0, sep0⟩ := W.seg j sp' hj
      refine key j sp' q' (S0.keeps (X := fun _ => False) (keeps_of_ext x) (fun h => h) (fun _ _ h => h)) fun c hc => ?_
      obtain ⟨a1, a2, a3, a4, a5⟩ := sep0 c hc
      refine ⟨a1, a2, a3, a4, a5, ?_⟩
      rcases hc with rfl | ⟨t, ht, rfl⟩
      · exact lt_of_get S0.at'
      · exact HasL.live S0.hd.hasL t ht
    · rw [List.getElem?_append_right h1] at hj
      have h2 : j - sps.length = 0 := by
        have := (List.getElem?_eq_some_iff.1 hj).1
        simpa using this
      rw [h2] at hj
      cases hj
      have : j = k := by have := W.sl; omega
      subst this
      refine key j sp q Sg1 fun c hc => ?_
      obtain ⟨a1, a2, a3, a4, a5⟩ := sep c hc
      refine ⟨a1, a2, a3, a4, a5, ?_⟩
      rcases hc with rfl | ⟨t, ht, rfl⟩
      · exact lt_of_get Sg.at'
      · exact HasL.live Sg.hd.hasL t ht
end
end Go.Proofs.YtnglhicedhcpbaaGreatDoor

/- The pool's world: NewWorld. -/
namespace Go.Proofs.YtnglhicedhcpbaaGreatDoor
open Go.Ab
open Go.Num hiding Bs snoc_ind
open Go.Ent Go.Seg
open Go.Page hiding Bs get
open Go.Dsk hiding Bs
set_option linter.unusedVariables false
set_option linter.unusedSimpArgs false
section
variable {h h' : Heap} {Q : AV → Heap → Prop} {h0 : Heap} {ow : Roles} {dp a k kf : Nat} {qS qL : Option SL} {fs : List FA} {sps : List Nat} {ls : List (Option SL)}
/-- One more list of entries. -/
theorem NW.pushL {s : Option SL} {K : Heap → Prop} (W : NW h0 h ow dp a qS qL fs sps ls kf k) (hl : ls.length ≤ 9)
    (hK : ∀ q49 h51, NW h0 h51 ow dp a qS q49 fs sps (ls ++ [s]) kf k → K h51) : PAppendS 1 24 qL (some ⟨h.length, 0, 1, 1, 0⟩) (h ++ [.cells [.sl s] true]) fun q49 h50 => PStore h50 ⟨a, 2⟩ [.sl q49] K := by
  have x : Ext h (h ++ [Blk.cells [.sl s] true]) := .app _ _
  have W1 := W.grow x
  have hal := lt_of_get W.cell
  refine Apd.append (E := slE) W1.aL (HasL.new (E := slE) (l := [s]) (n := 1) rfl rfl) (by simp; omega) fun q43 h44 A44 K44 l44 f44 => ?_
  have fresh : ∀ o, q43 = some o → h.length + 1 ≤ o.b ∨ ∃ u, qL = some u ∧ u.b = o.b := fun o ho => by
    have := f44 o ho
    simpa using this
  have na : ¬ (∃ u, qL = some u ∧ u.b = a) := fun ⟨u, hu, hb⟩ => (W.sL u hu).2.1 hb
  have b44 := K44 _ _ na W1.cell
  have hal44 := lt_of_get b44
  have K2 : Keeps (fun b => b = a) h44 (h44.set a (.cells [.ptr (some ⟨dp, 0⟩), .sl qS, .sl q43] true)) := keeps_set rfl
  have KK : Keeps (fun b => b = a ∨ ∃ u, qL = some u ∧ u.b = b) (h ++ [Blk.cells [.sl s] true]) (h44.set a (.cells [.ptr (some ⟨dp, 0⟩), .sl qS, .sl q43] true)) := fun c B hc hB => K2 _ _ (fun h => hc (.inl h)) (K44 _ _ (fun h => hc (.inr h)) hB)
  have f43 : ∀ t, q43 = some t → ow t.b = none ∧ t.b ≠ a ∧ h0.length ≤ t.b := fun t ht => by
    rcases fresh t ht with h1 | ⟨u, hu, hb⟩
    · refine ⟨?_, by omega, by have := W.ext.len; omega⟩
      cases ho : ow t.b with
      | none => rfl
      | some r => have := W.disk.live t.b (by rw [ho]; simp); omega
    · rw [← hb]; exact W.sL u hu
  have nw : ∀ c, c ≠ a → (∀ t, qL = some t → c ≠ t.b) → ¬ (c = a ∨ ∃ u, qL = some u ∧ u.b = c) := fun c h1 h2 hc => by
    rcases hc with hc | ⟨u, hu, hb⟩
    · exact h1 hc
    · exact h2 u hu hb.symm
  have owned : ∀ c, ow c ≠ none → ¬ (c = a ∨ ∃ u, qL = some u ∧ u.b = c) := fun c ho hc => by
    rcases hc with rfl | ⟨u, hu, rfl⟩
    · exact ho W.own
    · exact ho (W.sL u hu).1
  have := store6 (o := 2) (xs := [.sl q43]) (K := K) b44 (by simp)
  rw [Nat.zero_add] at this
  have ln : h.length + 1 ≤ h44.length := by simpa using l44
  have sl43 : ∀ t u, qS = some t → q43 = some u → t.b ≠ u.b := fun t u ht hu => by
    rcases fresh u hu with h1 | ⟨v, hv, hb⟩
    · have := HasL.live W.aS.hasL t ht; omega
    · rw [← hb]; exact W.sSL t v ht hv
  refine this (hK q43 _ ⟨?_, ?_, W.fl, W.fn, W.sl, ?_, ?_, ?_, by simp; omega, W.sS, f43, sl43, W.own, W.new, W.old, ?_⟩)
  · intro c B hB
    refine KK _ _ (fun hc => ?_) (W1.ext _ _ hB)
    have hcl := lt_of_get hB
    rcases hc with rfl | ⟨u, hu, rfl⟩
    · have := W.new; omega
    · have := (W.sL u hu).2.2; omega
  · refine W1.disk.ext (fun c B hc hB => KK _ _ (owned c hc) hB) (by rw [List.length_set]; simp; omega)
  · rw [show splice [AV.ptr (some ⟨dp, 0⟩), .sl qS, .sl qL] 2 [.sl q43] = [AV.ptr (some ⟨dp, 0⟩), .sl qS, .sl q43] from rfl, List.getElem?_set_self hal44]
  · exact W1.aS.keeps KK fun t ht => nw _ (W.sS t ht).2.1 fun u hu => W.sSL t u ht hu
  · exact A44.keeps K2 fun t ht hc => (f43 t ht).2.1 hc
  · intro j sp' hj
    obtain ⟨q', S0, sep0⟩ := W.seg j sp' hj
    have S1 := S0.keeps (X := fun _ => False) (keeps_of_ext x) (fun h => h) (fun _ _ h => h)
    refine ⟨q', S1.keeps KK ?_ (fun t ht => ?_), fun c hc => ?_⟩
    · obtain ⟨_, a2, _, _, a5⟩ := sep0 sp' (.inl rfl)
      exact nw _ a2 a5
    · obtain ⟨_, a2, _, _, a5⟩ := sep0 t.b (.inr ⟨t, ht, rfl⟩)
      exact nw _ a2 a5
    · obtain ⟨a1, a2, a3, a4, a5⟩ := sep0 c hc
      have a6 : c < h.length := by
        rcases hc with rfl | ⟨t, ht, rfl⟩
        · exact lt_of_get S0.at'
        · exact HasL.live S0.hd.hasL t ht
      refine ⟨a1, a2, a3, a4, fun t ht => ?_⟩
      rcases fresh t ht with h1 | ⟨v, hv, hb⟩
      · omega
      · rw [← hb]; exact a5 v hv
theorem ent_div {i : Nat} (hi : i < 200) : [AV.int .i64 0, .int .i64 0, .int .i64 (Int.tmod (i : Int) 200), .int .i64 (wrapK .i64 (Int.tdiv (i : Int) 200))] = entE.f (ent0 i) := by
  have e1 : Int.tmod (i : Int) 200 = (i : Int) := by rw [Int.tmod_eq_emod_of_nonneg (by omega)]; omega
  have e2 : Int.tdiv (i : Int) 200 = 0 := by rw [Int.tdiv_eq_ediv_of_nonneg (by omega)]; omega
  rw [e1, e2, wrapK_i64 ⟨by omega, by omega⟩]
  rfl
theorem cnt_int {k : Nat} (hk : k < 3) : wrapK .i64 ((wrapK .i64 (10 * (wrapK .i64 ((wrapK .i64 ((wrapK .i64 (2 * (k : Int))) * (k : Int))) + 3)))) - 4) = (cntK k : Nat) := by
  match k, hk with
  | 0, _ | 1, _ | 2, _ => decide
theorem base_int {k : Nat} (hk : k < 3) : wrapK .i64 ((wrapK .i64 (100 * (k : Int))) + 1) = (baseK k : Nat) := by
  match k, hk with
  | 0, _ | 1, _ | 2, _ => decide
set_option maxHeartbeats 1000000 in
/-- NewWorld -/
theorem k67 (L : Laid h) (hQ : ∀ a h' ow dp qS qL fs sps ls, NW h h' ow dp a qS qL fs sps ls 3 3 → Q (.ptr (some ⟨a, 0⟩)) h') : AC Tryz.prog 67 [] h Q := ac67 (by
  unfold vc67 PNew
  refine d26 (by omega) (by omega) fun ow R0 B0 => ⟨_, _, rfl, vif_mk (fun g => by simp at g) (fun _ => vif_mk (fun g => by simp at g) (fun _ => ?_))⟩
  have x1 : Ext h (h ++ [Blk.mp [] 0] ++ [Blk.cells [.map (some h.length), .sl none, .int .i64 1000, .int .i64 (-1), .bool false] true]) := (Ext.app _ _).trans (Ext.app _ _)
  generalize h ++ [Blk.mp [] 0] ++ [Blk.cells [.map (some h.length), .sl none, .int .i64 1000, .int .i64 (-1), .bool false] true] = h2 at *
  generalize h.length + 1 = dp at *
  have x6 : Ext h2 (h2 ++ [Blk.cells [.ptr (some ⟨dp, 0⟩), .sl none, .sl none] true]) := .app _ _
  have W0 : NW h (h2 ++ [Blk.cells [.ptr (some ⟨dp, 0⟩), .sl none, .sl none] true]) ow dp h2.length none none [] [] [] 0 0 := by
    refine ⟨x1.trans x6, R0.grow x6, rfl, by simp, rfl, by simp, .inl ⟨rfl, rfl⟩, .inl ⟨rfl, rfl⟩, by simp, by simp, by simp, by simp, ?_, x1.len, B0, by simp⟩
    cases ho : ow h2.length with
    | none => rfl
    | some r => have := R0.live h2.length (by rw [ho]; simp); omega
  generalize h2 ++ [Blk.cells [.ptr (some ⟨dp, 0⟩), .sl none, .sl none] true] = h6 at *
  generalize h2.length = a at *
  refine ⟨fun xs h10 => ∃ (k : Nat) (ow' : Roles) (qS qL : Option SL) (fs : List FA) (sps : List Nat) (ls : List (Option SL)), xs = [.int .i64 (k : Nat)] ∧ k ≤ 3 ∧ ls.length = k ∧ NW h h10 ow' dp a qS qL fs sps ls k k, fun xs _ => match xs with | [.int _ i] => (3 - i).toNat | _ => 0, ⟨0, ow, none, none, [], [], [], rfl, by omega, rfl, W0⟩, ?_⟩
  rintro n7 h10 ⟨k, ow', qS, qL, fs, sps, ls, hx, hk3, hll, W⟩
  simp only [List.cons.injEq, AV.int.injEq, true_and, and_true] at hx
  subst hx
  refine vif_mk (fun g => ?_) (fun g => ?_)
  rotate_left
  · have g : k = 3 := by have := of_decide_eq_false g; omega
    subst g
    exact hQ a h10 ow' dp qS qL fs sps ls W
  have hk : k < 3 := by have := of_decide_eq_true g; omega
  have hc := cntK_le hk
  rw [cnt_int hk]
  refine ⟨fun xs h15 => ∃ (q11 : Option SL) (i : Nat), xs = [.sl q11, .int .i64 (i : Nat)] ∧ i ≤ cntK k ∧ New entE h10 h15 q11 (ents i), fun xs _ => match xs with | [_, .int _ i] => (cntK k - i).toNat | _ => 0, ⟨none, 0, rfl, by omega, New.none⟩, ?_⟩
  rintro q11 n12 h15 ⟨q11', i, hx, hi, N15⟩
  simp only [List.cons.injEq, AV.sl.injEq, AV.int.injEq, true_and, and_true] at hx
  obtain ⟨rfl, rfl⟩ := hx
  refine vif_mk (fun g => ?_) (fun g => ?_)
  · replace g := of_decide_eq_true g
    rw [wrapK_i64 (n := (i : Int) + 1) ⟨by omega, by omega⟩]
    refine New.append (E := entE) (N15.ext (.app _ _)) (HasL.new (E := entE) (l := [ent0 i]) (n := 1) rfl (by rw [ent_div (by omega)]; simp [Enc.all])) (by rw [ents_len]; simp; omega) fun q18 h19 N19 => ?_
    rw [← ents_succ] at N19
    exact ⟨trivial, ⟨q18, i + 1, by simp, by omega, N19⟩, by simp only; omega⟩
  replace g := of_decide_eq_false g
  have hie : i = cntK k := by omega
  subst hie
  refine z59 (cntK k) (by rw [ents_len]; exact Nat.le_refl _) N15.hasL (by rw [ents_len]; omega) fun q22 h21 N21 => ⟨q22, rfl, ?_⟩
  rw [sortE_self ents_sorted] at N21
  refine k72 fun q25 h24 x24 hidx => ⟨q25, rfl, hidx k _ hk fun p hc26 => ⟨_, hc26, ?_⟩⟩
  rw [base_int hk]
  have x1024 := (N15.1.trans N21.1).trans x24
  have W24 := W.grow x1024
  have L24 := L.ext W24.ext
  refine W24.write L24 hk (N21.hasL.mono x24) fun b h29 ow29 W29 S29 => ⟨_, rfl, vif_mk (fun g => by simp at g) (fun _ => ?_)⟩
  refine k72 fun q33 h32 x32 hidx2 => ⟨q33, rfl, hidx2 k _ hk fun p hc34 => ⟨_, hc34, ?_⟩⟩
  have W32 := W29.grow x32
  have Z := W32.lies (j := k) (by omega) (by omega)
  have bK : 1 ≤ baseK k ∧ baseK k ≤ 1000 := by unfold baseK; omega
  have hop := openK hk
  have hSl := SK_len hk
  refine k18 (L.ext W32.ext) W32.disk Z bK.1 (by omega) (by omega) (fun hn => by rw [hop] at hn; cases hn) fun c heads sp q h37 ho O => ⟨_, _, rfl, vif_mk (fun g => by simp at g) (fun _ => vif_mk (fun g => by simp at g) (fun _ => ?_))⟩
  rw [hop] at ho; cases ho
  have W37 := W32.grow O.keep
  have spl := lt_of_get O.at'
  refine ⟨qS, ?_, ?_⟩
  · rw [cellsAt_mk (p := ⟨a, 1⟩) W37.cell (by simp)]; rfl
  have l32 := W32.disk.live
  have hn : ∀ b, h32.length ≤ b → ow29 b = none := fun b hb => by
    cases ho : ow29 b with
    | none => rfl
    | some r => have := l32 b (by rw [ho]; simp); omega
  refine W37.pushS (by omega) ⟨O.at', O.hd⟩ (fun b hb => ?_) fun q43 h45 W45 => ?_
  · have hb2 : h32.length ≤ b := by
      rcases hb with rfl | ⟨t, ht, rfl⟩
      · exact O.new
      · exact O.hq t ht
    refine ⟨hn b hb2, ?_, ?_, fun t ht => ?_, fun t ht => ?_⟩
    · have := lt_of_get W32.cell; omega
    · have := W32.ext.len; omega
    · have := HasL.live W32.aS.hasL t ht; omega
    · have := HasL.live W32.aL.hasL t ht; omega
  refine ⟨qL, ?_, ?_⟩
  · rw [cellsAt_mk (p := ⟨a, 2⟩) W45.cell (by simp)]; rfl
  refine W45.pushL (by omega) fun q49 h51 W51 => ?_
  rw [wrapK_i64 ⟨by omega, by omega⟩]
  exact ⟨trivial, ⟨k + 1, ow29, q43, q49, fs ++ [⟨b, nameK k, SK k, SK k⟩], sps ++ [sp], ls ++ [q22], by simp, by omega, by simp; omega, W51⟩, by simp only; omega⟩)
end
end Go.Proofs.YtnglhicedhcpbaaGreatDoor

/- A pool beside the world: pages are held. -/
namespace Go.Proofs.YtnglhicedhcpbaaGreatDoor
open Go.Ab
open Go.Num hiding Bs snoc_ind
open Go.Ent Go.Seg
open Go.Page hiding Bs get
open Go.Dsk hiding Bs
open Go.Pool hiding Bs Ents set_at Fr least
set_option linter.unusedVariables false
set_option linter.unusedSimpArgs false
/-- A page of the world's segments, or why there is none. -/
def pageR (k : Nat) (n : Int) : Int × List Ent := if 0 ≤ n ∧ n < (headsK k).length then (0, ((packG (ents (cntK k)))[n.toNat]?).getD []) else (4, [])
theorem pageR_some {k : Nat} (hk : k < 3) {n : Int} (h0 : 0 ≤ n) (h1 : n < (headsK k).length) : ∃ g, (packG (ents (cntK k)))[n.toNat]? = some g ∧ pageR k n = (0, g) ∧ pageS (SK k) (baseK k) (headsK k) n.toNat = some g ∧ g ≠ [] ∧ g.length ≤ 10 := by
  rw [headsK_len hk] at h1
  have hl : n.toNat < (packG (ents (cntK k))).length := by omega
  refine ⟨_, List.getElem?_eq_getElem hl, ?_, pageK hk (List.getElem?_eq_getElem hl), ?_⟩
  · unfold pageR
    rw [if_pos ⟨h0, by rw [headsK_len hk]; exact h1⟩, List.getElem?_eq_getElem hl]; rfl
  · have hp := pageK hk (List.getElem?_eq_getElem hl)
    exact ⟨(pageS_some hp).2.1, (packAt_some (pageS_some hp).1).1⟩
theorem pageR_len {k : Nat} (hk : k < 3) {n : Int} : (pageR k n).2.length ≤ 10 := by
  by_cases h : 0 ≤ n ∧ n < (headsK k).length
  · obtain ⟨g, _, e, _, _, hl⟩ := pageR_some hk h.1 h.2
    rw [e]; exact hl
  · unfold pageR; rw [if_neg h]; simp
section
variable {h0 hW h h' : Heap} {Q : AV → Heap → Prop} {ow : Roles} {dp a k kf sp : Nat} {qS qL q : Option SL} {fs : List FA} {sps : List Nat} {ls : List (Option SL)} {p fb mb : Nat} {P : PS}
theorem NW.keeps {X : Nat → Prop} (W : NW h0 h ow dp a qS qL fs sps ls kf k) (K : Keeps X h h') (hX : ∀ b, b < h.length → ¬ X b) (hl : h.length ≤ h'.length) : NW h0 h' ow dp a qS qL fs sps ls kf k :=
  W.grow fun b B hB => K b B (hX b (lt_of_get hB)) hB
theorem k16o {s : Bs} {base count : Nat} {heads : List Ent} {n : Int} (hs : h[sp]? = some (segC dp s base count q)) (H : HasL entE h q heads) (hn : ¬ (0 ≤ n ∧ n < heads.length)) (hQ : Q (.tup [.sl none, .int .i64 4]) h) : AC Tryz.prog 16 [.ptr (some ⟨sp, 0⟩), .int .i64 n] h Q := ac16 (by
  unfold vc16
  refine vif_mk (fun g => by simp at g) (fun _ => ⟨_, seg_at hs (k := 0) rfl, vif_mk (fun g => by simp at g) (fun _ => ?_)⟩)
  exact k15 hs H (fun _ => ⟨_, _, _, _, _, rfl, vif_mk (fun _ => hQ) (fun g => by simp at g)⟩) (fun e h1 he => absurd ⟨h1, by
    have := (List.getElem?_eq_some_iff.1 he).1; omega⟩ hn))
/-- A page of the world. -/
theorem NW.page {j : Nat} {n : Int} (W : NW h0 h ow dp a qS qL fs sps ls 3 3) (L : Laid h0) (hj : sps[j]? = some sp)
    (hE : (pageR j n).1 ≠ 0 → ∀ h', Ext h h' → Q (.tup [.sl none, .int .i64 (pageR j n).1]) h') (hQ : (pageR j n).1 = 0 → ∀ q h', Ext h h' → HasL entE h' q (pageR j n).2 → (∀ t, q = some t → h.length ≤ t.b) → Q (.tup [.sl q, .int .i64 0]) h') :
    AC Tryz.prog 16 [.ptr (some ⟨sp, 0⟩), .int .i64 n] h Q := by
  have hj3 : j < 3 := by rw [← W.sl]; exact (List.getElem?_eq_some_iff.1 hj).1
  obtain ⟨q, S, _⟩ := W.seg j sp hj
  by_cases hn : 0 ≤ n ∧ n < (headsK j).length
  · obtain ⟨g, h1, h2, h3, h4, h5⟩ := pageR_some hj3 hn.1 hn.2
    rw [h2] at hQ hE
    have Z := W.lies (j := j) hj3 (by omega)
    have hSl := SK_len hj3
    have hop := openS_some (openK hj3)
    obtain ⟨m, rfl⟩ := Int.eq_ofNat_of_zero_le hn.1
    refine k16 (L.ext W.ext) W.disk Z (by unfold baseK; omega) (by unfold baseK; omega) (by omega) S.at' S.hd.hasL hop.2 (by have := hn.2; omega) (fun hc => ?_) fun l q' h' hl x A f => ?_
    · simp only [Int.toNat_natCast] at h3
      rw [h3] at hc; cases hc
    · simp only [Int.toNat_natCast] at h3
      rw [h3] at hl; cases hl
      exact hQ rfl q' h' x A.hasL f
  · have e : pageR j n = (4, []) := by unfold pageR; rw [if_neg hn]
    rw [e] at hE
    exact k16o S.at' S.hd.hasL hn (hE (by simp) h (.refl _))
theorem NW.page2 {j : Nat} {n r1 : Int} {l1 : List Ent} (W : NW h0 h ow dp a qS qL fs sps ls 3 3) (L : Laid h0) (hj : sps[j]? = some sp) (e : pageR j n = (r1, l1))
    (hE : r1 ≠ 0 → ∀ h', Ext h h' → Q (.tup [.sl none, .int .i64 r1]) h') (hQ : r1 = 0 → ∀ q h', Ext h h' → HasL entE h' q l1 → (∀ t, q = some t → h.length ≤ t.b) → Q (.tup [.sl q, .int .i64 0]) h') :
    AC Tryz.prog 16 [.ptr (some ⟨sp, 0⟩), .int .i64 n] h Q := W.page L hj (by rw [e]; exact hE) (by rw [e]; exact hQ)
/-- The world as it was when the pool was made; the pool as it is. -/
structure WP (h0 hW h : Heap) (ow : Roles) (dp a : Nat) (qS qL : Option SL) (fs : List FA) (sps : List Nat) (ls : List (Option SL)) (p fb mb : Nat) (P : PS) (N : Nat) : Prop where
  W : NW h0 hW ow dp a qS qL fs sps ls 3 3
  L : Laid h0
  K : Keeps (pbl p fb mb) hW h
  len : hW.length ≤ h.length
  new : ∀ b, pbl p fb mb b → hW.length ≤ b
  R : PoolR entE h p fb mb P
  sm : P.sm N
  nl : N ≤ 1000000
theorem WP.now {N : Nat} (T : WP h0 hW h ow dp a qS qL fs sps ls p fb mb P N) : NW h0 h ow dp a qS qL fs sps ls 3 3 := T.W.keeps T.K (fun b hb hc => by have := T.new b hc; omega) T.len
theorem WP.ext {N : Nat} (T : WP h0 hW h ow dp a qS qL fs sps ls p fb mb P N) (x : Ext h h') : WP h0 hW h' ow dp a qS qL fs sps ls p fb mb P N :=
  { T with K := T.K.trans (keeps_of_ext x), len := Nat.le_trans T.len x.len, R := T.R.ext x }
/-- The segments' list. -/
theorem WP.segs {N : Nat} (T : WP h0 hW h ow dp a qS qL fs sps ls p fb mb P N) : cellsAt h ⟨a, 0 + 1⟩ 1 = some [.sl qS] := by
  rw [cells6 T.now.cell (by simp)]; rfl
theorem NW.segs (W : NW h0 h ow dp a qS qL fs sps ls 3 3) : cellsAt h ⟨a, 0 + 1⟩ 1 = some [.sl qS] := by
  rw [cells6 W.cell (by simp)]; rfl
theorem NW.idx {K : PA → Prop} {i : Int} (W : NW h0 h ow dp a qS qL fs sps ls 3 3) (h0' : 0 ≤ i) (h1 : i < 3) (hK : ∀ pp sp, sps[i.toNat]? = some sp → cellsAt h pp 1 = some [.ptr (some ⟨sp, 0⟩)] → K pp) : vIdx qS i 1 K :=
  HasL.idx (E := ptrE) W.aS.hasL h0' (by have := W.sl; omega) fun pp sp hs hc => hK pp sp hs hc
theorem WP.hold {N j : Nat} {n : Int} (T : WP h0 hW h ow dp a qS qL fs sps ls p fb mb P N) (hj : sps[j]? = some sp)
    (hQ : ∀ q' h', (N + 1 ≤ 1000000 → WP h0 hW h' ow dp a qS qL fs sps ls p fb mb (P.hold (nameK j) n (pageR j n)).2.2 (N + 1)) → Keeps (pbl p fb mb) h h' → h.length ≤ h'.length → ((P.hold (nameK j) n (pageR j n)).1 = 0 → HasL entE h' q' (P.hold (nameK j) n (pageR j n)).2.1 ∧ ∀ t, q' = some t → h.length ≤ t.b) →
      ((P.hold (nameK j) n (pageR j n)).1 ≠ 0 → q' = none) → Q (.tup [.sl q', .int .i64 (P.hold (nameK j) n (pageR j n)).1]) h') : AC Tryz.prog 70 [.ptr (some ⟨p, 0⟩), .ptr (some ⟨sp, 0⟩), .int .i64 n] h Q := by
  obtain ⟨rs, es, cl, C⟩ := T.R
  have W := T.now
  have hj3 : j < 3 := by rw [← W.sl]; exact (List.getElem?_eq_some_iff.1 hj).1
  obtain ⟨q, S, _⟩ := W.seg j sp hj
  obtain ⟨q2, S2, _⟩ := T.W.seg j sp hj
  have hspW := lt_of_get S2.at'
  have hnl := T.nl
  refine k70 (s := nameK j) (base := baseK j) (count := cntK j) (q0 := q) (dp := dp) (r := pageR j n) C T.sm.lt (by omega) (fun f hf => by have := T.sm.l f hf; omega) (by have := pageR_len hj3 (n := n); omega) S.at' (fun hc => by have := T.new _ hc; omega)
    (fun {h'} {K} x hE hK => (W.grow x).page T.L hj (fun he h2 x2 => hE he h2 x2) (fun he q h2 x2 H f => hK he q h2 x2 H f)) fun q' h' R' K' l' h1 h2 => ?_
  refine hQ q' h' (fun hN => ⟨T.W, T.L, T.K.trans K', Nat.le_trans T.len l', T.new, R', hold_sm T.sm C.ok.hand (by have := pageR_len hj3 (n := n); omega), hN⟩) K' l' h1 h2
theorem WP.free {N : Nat} {s : Bs} {n : Int} (T : WP h0 hW h ow dp a qS qL fs sps ls p fb mb P N)
    (hQ : ∀ h', WP h0 hW h' ow dp a qS qL fs sps ls p fb mb (P.free s n).2 N → Keeps (pbl p fb mb) h h' → h'.length = h.length → Q (.int .i64 (P.free s n).1) h') : AC Tryz.prog 71 [.ptr (some ⟨p, 0⟩), .str s, .int .i64 n] h Q := by
  obtain ⟨rs, es, cl, C⟩ := T.R
  have hnl := T.nl
  exact k71 C T.sm.lt (by omega) fun h' rs' C' K' l' => hQ h' ⟨T.W, T.L, T.K.trans K', by have := T.len; omega, T.new, ⟨_, _, _, C'⟩, free_sm T.sm, T.nl⟩ K' l'
theorem WP.drop {N : Nat} {s : Bs} (T : WP h0 hW h ow dp a qS qL fs sps ls p fb mb P N)
    (hQ : ∀ h', WP h0 hW h' ow dp a qS qL fs sps ls p fb mb (P.drop s).2 N → Keeps (pbl p fb mb) h h' → h'.length = h.length → Q (.int .i64 ((P.drop s).1 : Nat)) h') : AC Tryz.prog 73 [.ptr (some ⟨p, 0⟩), .str s] h Q := by
  obtain ⟨rs, es, cl, C⟩ := T.R
  exact k73 C fun h' R' K' l' => hQ h' ⟨T.W, T.L, T.K.trans K', by have := T.len; omega, T.new, R', drop_sm T.sm, T.nl⟩ K' l'
theorem WP.hold2 {N j : Nat} {n r1 : Int} {l1 : List Ent} {P1 : PS} (T : WP h0 hW h ow dp a qS qL fs sps ls p fb mb P N) (hj : sps[j]? = some sp) (e : P.hold (nameK j) n (pageR j n) = (r1, l1, P1))
    (hQ : ∀ q' h', (N + 1 ≤ 1000000 → WP h0 hW h' ow dp a qS qL fs sps ls p fb mb P1 (N + 1)) → Keeps (pbl p fb mb) h h' → h.length ≤ h'.length → (r1 = 0 → HasL entE h' q' l1 ∧ ∀ t, q' = some t → h.length ≤ t.b) → (r1 ≠ 0 → q' = none) → Q (.tup [.sl q', .int .i64 r1]) h') :
    AC Tryz.prog 70 [.ptr (some ⟨p, 0⟩), .ptr (some ⟨sp, 0⟩), .int .i64 n] h Q := T.hold hj (by rw [e]; exact hQ)
theorem WP.free2 {N : Nat} {s : Bs} {n r1 : Int} {P1 : PS} (T : WP h0 hW h ow dp a qS qL fs sps ls p fb mb P N) (e : P.free s n = (r1, P1))
    (hQ : ∀ h', WP h0 hW h' ow dp a qS qL fs sps ls p fb mb P1 N → Keeps (pbl p fb mb) h h' → h'.length = h.length → Q (.int .i64 r1) h') : AC Tryz.prog 71 [.ptr (some ⟨p, 0⟩), .str s, .int .i64 n] h Q := T.free (by rw [e]; exact hQ)
theorem WP.drop2 {N : Nat} {s : Bs} {r1 : Nat} {P1 : PS} (T : WP h0 hW h ow dp a qS qL fs sps ls p fb mb P N) (e : P.drop s = (r1, P1))
    (hQ : ∀ h', WP h0 hW h' ow dp a qS qL fs sps ls p fb mb P1 N → Keeps (pbl p fb mb) h h' → h'.length = h.length → Q (.int .i64 (r1 : Nat)) h') : AC Tryz.prog 73 [.ptr (some ⟨p, 0⟩), .str s] h Q := T.drop (by rw [e]; exact hQ)
theorem WP.has {N : Nat} {s : Bs} {n : Int} (T : WP h0 hW h ow dp a qS qL fs sps ls p fb mb P N) (hQ : Q (.bool (P.at s n).isSome) h) : AC Tryz.prog 74 [.ptr (some ⟨p, 0⟩), .str s, .int .i64 n] h Q := by
  obtain ⟨rs, es, cl, C⟩ := T.R
  exact k74 C hQ
theorem WP.heldN {N : Nat} (T : WP h0 hW h ow dp a qS qL fs sps ls p fb mb P N) (hQ : Q (.int .i64 (P.held : Nat)) h) : AC Tryz.prog 75 [.ptr (some ⟨p, 0⟩)] h Q := by
  obtain ⟨rs, es, cl, C⟩ := T.R
  exact k75 C hQ
theorem WP.usedN {N : Nat} (T : WP h0 hW h ow dp a qS qL fs sps ls p fb mb P N) (hQ : Q (.int .i64 (P.used : Nat)) h) : AC Tryz.prog 76 [.ptr (some ⟨p, 0⟩)] h Q := by
  obtain ⟨rs, es, cl, C⟩ := T.R
  exact k76 C hQ
theorem WP.frames {N : Nat} (T : WP h0 hW h ow dp a qS qL fs sps ls p fb mb P N) (hQ : Q (.int .i64 (P.fr.length : Nat)) h) : AC Tryz.prog 77 [.ptr (some ⟨p, 0⟩)] h Q := by
  obtain ⟨rs, es, cl, C⟩ := T.R
  exact k77 C hQ
theorem WP.stats {N : Nat} (T : WP h0 hW h ow dp a qS qL fs sps ls p fb mb P N) (hQ : Q (.agg [.int .i64 (P.hits : Nat), .int .i64 (P.reads : Nat), .int .i64 (P.losses : Nat)]) h) : AC Tryz.prog 78 [.ptr (some ⟨p, 0⟩)] h Q := by
  obtain ⟨rs, es, cl, C⟩ := T.R
  exact k78 C hQ
/-- A pool is made. -/
theorem WP.make {n : Nat} (W : NW h0 h ow dp a qS qL fs sps ls 3 3) (L : Laid h0) (hn : n ≤ 1024) (hQ : ∀ h' p fb mb, WP h0 h h' ow dp a qS qL fs sps ls p fb mb (newP n) 0 → Ext h h' → Q (.tup [.ptr (some ⟨p, 0⟩), .int .i64 0]) h') : AC Tryz.prog 69 [.int .i64 (n : Nat)] h Q := by
  refine k69 hn fun h' C x => hQ h' _ _ _ ⟨W, L, keeps_of_ext x, x.len, fun b hb => ?_, ⟨_, _, _, C⟩, sm_new, by omega⟩ x
  rcases hb with rfl | rfl | rfl <;> omega
end
end Go.Proofs.YtnglhicedhcpbaaGreatDoor

/- What must come of every program: the pool's lives. -/
namespace Go.Proofs.YtnglhicedhcpbaaGreatDoor
open Go.Ab
open Go.Num hiding Bs snoc_ind
open Go.Ent Go.Seg
open Go.Page hiding Bs get
open Go.Dsk hiding Bs
open Go.Pool hiding Bs Ents set_at Fr least
set_option linter.unusedVariables false
set_option linter.unusedSimpArgs false
def frF (s : List UInt8) (i : Int) (l : List Ent) (held : Nat) : Pool.Fr := ⟨s, i, l, held, true, true⟩
section
variable {g0 g1 g2 : List Ent}
def lv0 : PS := newP 2
def lv1 (g0 : List Ent) : PS := ⟨[frF [97] 0 g0 1, Fr.none], 0, 1, 0, 0⟩
def lv2 (g0 g1 : List Ent) : PS := ⟨[frF [97] 0 g0 1, frF [97] 1 g1 1], 0, 2, 0, 0⟩
def lv3 (g0 g1 : List Ent) : PS := ⟨[frF [97] 0 g0 0, frF [97] 1 g1 1], 0, 2, 0, 0⟩
def lv4 (g1 g2 : List Ent) : PS := ⟨[frF [98] 0 g2 1, frF [97] 1 g1 1], 1, 3, 0, 1⟩
theorem h01 : lv0.hold (nameK 0) 0 (0, g0) = (0, g0, lv1 g0) := by kernel_rfl
theorem h12 : (lv1 g0).hold (nameK 0) 1 (0, g1) = (0, g1, lv2 g0 g1) := by kernel_rfl
theorem h22 : (lv2 g0 g1).hold (nameK 1) 0 (0, g2) = (90, [], lv2 g0 g1) := by kernel_rfl
theorem h23 : (lv2 g0 g1).free [97] 0 = (0, lv3 g0 g1) := by kernel_rfl
theorem h34 : (lv3 g0 g1).hold (nameK 1) 0 (0, g2) = (0, g2, lv4 g1 g2) := by kernel_rfl
theorem h4a : (lv4 g1 g2).at [97] 0 = none := by kernel_rfl
theorem h4b : ((lv4 g1 g2).at [98] 0).isSome = true := by kernel_rfl
theorem h4h : (lv4 g1 g2).held = 2 := by kernel_rfl
theorem h4u : (lv4 g1 g2).used = 2 := by kernel_rfl
theorem h4f : (lv4 g1 g2).free [97] 0 = (4, lv4 g1 g2) := by kernel_rfl
theorem h4d : (lv4 g1 g2).drop [97] = (0, lv4 g1 g2) := by kernel_rfl
end
section
variable {h : Heap} {Q : AV → Heap → Prop}
set_option maxHeartbeats 1000000 in
theorem k68 (L : Laid h) (hQ : ∀ h', Ext h h' → Q (.bool true) h') : AC Tryz.prog 68 [] h Q := ac68 (by
  unfold vc68
  refine k67 L fun a h2 ow dp qS qL fs sps ls W => ⟨_, rfl, ?_⟩
  refine WP.make (n := 2) W L (by omega) fun h5 p fb mb T5 x5 => ⟨_, _, rfl, ?_⟩
  refine vif_mk (fun g => by simp at g) (fun _ => vif_mk (fun g => by simp at g) (fun _ => vif_mk (fun g => by simp at g) (fun _ => ?_)))
  have hn0 : (nameK 0) = [97] := rfl
  have hs0 : sps[0]? = some (sps[0]'(by rw [W.sl]; omega)) := List.getElem?_eq_getElem _
  have hs1 : sps[1]? = some (sps[1]'(by rw [W.sl]; omega)) := List.getElem?_eq_getElem _
  generalize sps[0]'(by rw [W.sl]; omega) = s0 at hs0
  generalize sps[1]'(by rw [W.sl]; omega) = s1 at hs1
  have idx0 : ∀ {h : Heap} {K : PA → Prop}, NW h h ow dp a qS qL fs sps ls 3 3 ∨ True → True := fun _ => trivial
  refine ⟨_, T5.segs, ?_⟩
  have hlen : slLen qS = 3 := by rw [T5.now.aS.hasL.len, W.sl]
  rw [hlen]
  refine vif_mk (fun g => by simp at g) (fun _ => ⟨_, T5.segs, ?_⟩)
  obtain ⟨g0, _, p0, _, ne0, _⟩ := pageR_some (k := 0) (by omega) (n := 0) (by omega) (by rw [headsK_len (by omega)]; have : (packG (ents (cntK 0))).length = 3 := pages0; omega)
  obtain ⟨g1, _, p1, _, ne1, _⟩ := pageR_some (k := 0) (by omega) (n := 1) (by omega) (by rw [headsK_len (by omega)]; have : (packG (ents (cntK 0))).length = 3 := pages0; omega)
  obtain ⟨g2, _, p2, _, ne2, _⟩ := pageR_some (k := 1) (by omega) (n := 0) (by omega) (by rw [headsK_len (by omega)]; have : (packG (ents (cntK 1))).length = 5 := pages1; omega)
  refine T5.now.idx (by omega) (by omega) fun pp sp hsp hc => ⟨_, hc, ?_⟩
  rw [show ((0 : Int)).toNat = 0 from rfl, hs0] at hsp; cases hsp
  have e1 : (newP 2).hold (nameK 0) 0 (pageR 0 0) = (0, g0, lv1 g0) := by rw [p0]; exact h01
  refine T5.hold2 (j := 0) (n := 0) hs0 e1 fun q16 h15 T15 K15 l15 H16 _ => ⟨_, _, rfl, ?_⟩
  have T15 := T15 (by omega)
  have len16 : slLen q16 = g0.length := (H16 rfl).1.len
  refine ⟨_, T15.segs, ?_⟩
  refine T15.now.idx (by omega) (by omega) fun pp sp hsp hc => ⟨_, hc, ?_⟩
  rw [show ((0 : Int)).toNat = 0 from rfl, hs0] at hsp; cases hsp
  have e2 : (lv1 g0).hold (nameK 0) 1 (pageR 0 1) = (0, g1, lv2 g0 g1) := by rw [p1]; exact h12
  refine T15.hold2 (j := 0) (n := 1) hs0 e2 fun q24 h23' T23 K23 l23 _ _ => ⟨_, _, rfl, ?_⟩
  have T23 := T23 (by omega)
  refine ⟨_, T23.segs, ?_⟩
  refine T23.now.idx (by omega) (by omega) fun pp sp hsp hc => ⟨_, hc, ?_⟩
  rw [show ((1 : Int)).toNat = 1 from rfl, hs1] at hsp; cases hsp
  have e3 : (lv2 g0 g1).hold (nameK 1) 0 (pageR 1 0) = (90, [], lv2 g0 g1) := by rw [p2]; exact h22
  refine T23.hold2 (j := 1) (n := 0) hs1 e3 fun q32 h31 T31 K31 l31 _ _ => ⟨_, _, rfl, ?_⟩
  have T31 := T31 (by omega)
  refine T31.free2 h23 fun h35 T35 K35 l35 => ⟨_, rfl, ?_⟩
  refine ⟨_, T35.segs, ?_⟩
  refine T35.now.idx (by omega) (by omega) fun pp sp hsp hc => ⟨_, hc, ?_⟩
  rw [show ((1 : Int)).toNat = 1 from rfl, hs1] at hsp; cases hsp
  have e4 : (lv3 g0 g1).hold (nameK 1) 0 (pageR 1 0) = (0, g2, lv4 g1 g2) := by rw [p2]; exact h34
  refine T35.hold2 (j := 1) (n := 0) hs1 e4 fun q43 h42 T42 K42 l42 _ _ => ⟨_, _, rfl, ?_⟩
  have T42 := T42 (by omega)
  refine k69no (.inl (by omega)) ⟨_, _, rfl, ?_⟩
  have g0l : 0 < g0.length := List.length_pos_iff.2 ne0
  rw [len16]
  refine vif_mk (fun _ => ?_) (fun g => by simp at g)
  refine vif_mk (fun _ => ?_) (fun g => by have := of_decide_eq_false g; omega)
  refine vif_mk (fun _ => ?_) (fun g => by simp at g)
  refine vif_mk (fun _ => ?_) (fun g => by simp at g)
  refine vif_mk (fun _ => ?_) (fun g => by simp at g)
  refine vif_mk (fun _ => ?_) (fun g => by simp at g)
  refine T42.has ⟨_, rfl, ?_⟩
  rw [h4a]
  refine vif_mk (fun _ => ?_) (fun g => by simp at g)
  refine T42.has ⟨_, rfl, ?_⟩
  rw [h4b]
  refine vif_mk (fun _ => ?_) (fun g => by simp at g)
  refine T42.heldN ⟨_, rfl, ?_⟩
  rw [h4h]
  refine vif_mk (fun _ => ?_) (fun g => by simp at g)
  refine T42.usedN ⟨_, rfl, ?_⟩
  rw [h4u]
  refine vif_mk (fun _ => ?_) (fun g => by simp at g)
  refine T42.frames ⟨_, rfl, ?_⟩
  refine vif_mk (fun _ => ?_) (fun g => by simp [lv4] at g)
  refine T42.stats ⟨_, _, _, rfl, ?_⟩
  refine vif_mk (fun _ => ?_) (fun g => by simp [lv4] at g)
  refine T42.free2 h4f fun h70 T70 K70 l70 => ⟨_, rfl, ?_⟩
  refine vif_mk (fun _ => ?_) (fun g => by simp at g)
  refine T70.drop2 h4d fun h73 T73 K73 l73 => ⟨_, rfl, ?_⟩
  refine vif_mk (fun _ => ?_) (fun g => by simp at g)
  exact hQ h73 T73.now.ext)
end
end Go.Proofs.YtnglhicedhcpbaaGreatDoor

/- Pages asked for round and round: the walk. -/
namespace Go.Proofs.YtnglhicedhcpbaaGreatDoor
open Go.Ab
open Go.Num hiding Bs snoc_ind
open Go.Ent Go.Seg
open Go.Page hiding Bs get
open Go.Pool hiding Bs Ents set_at Fr least
set_option linter.unusedVariables false
set_option linter.unusedSimpArgs false
def pgC (i : Nat) : List Ent := (pageR 2 (i : Int)).2
section
variable {h : Heap} {Q : AV → Heap → Prop}
theorem pageC {i : Nat} (hi : i < 11) : pageR 2 (i : Int) = (0, pgC i) ∧ (pgC i).length ≤ 10 := by
  obtain ⟨g, _, e, _, _, hl⟩ := pageR_some (k := 2) (by omega) (n := (i : Int)) (by omega) (by rw [headsK_len (by omega)]; have : (packG (ents (cntK 2))).length = 11 := pages2; omega)
  unfold pgC
  rw [e]
  exact ⟨rfl, hl⟩
end
end Go.Proofs.YtnglhicedhcpbaaGreatDoor
