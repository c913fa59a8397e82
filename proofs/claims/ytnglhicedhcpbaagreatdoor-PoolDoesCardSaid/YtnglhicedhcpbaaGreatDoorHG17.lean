import Derived.Test.YtnglhicedhcpbaaGreatDoorHG16
namespace Go.Proofs.YtnglhicedhcpbaaGreatDoor
open Go.Ab
open Go.Num hiding Bs snoc_ind
open Go.Ent
set_option linter.unusedVariables false
set_option linter.unusedSimpArgs false
section
attribute [local irreducible] momErr recErr
def rd2 (o : Option Bs) : Option ((Nat × Nat) × Bs) := match nm o with
  | none => none
  | some (x, b) => match rdN b with
    | none => none
    | some (y, c) => some ((x, y), c)
theorem rd4_rd2 {b : Bs} : rd4 b = match rd2 (some b) with
    | none => none
    | some ((x, y), r) => match rd2 (some r) with
      | none => none
      | some ((z, w), t) => some (((x : Int), (y : Int), (z : Int), (w : Int)), t) := by
  unfold rd4 rd2 nm
  simp only
  cases rdN b with
  | none => rfl
  | some r =>
    obtain ⟨x, b1⟩ := r
    simp only
    cases rdN b1 with
    | none => rfl
    | some r =>
      obtain ⟨y, b2⟩ := r
      simp only
      cases rdN b2 with
      | none => rfl
      | some r =>
        obtain ⟨z, b3⟩ := r
        simp only
        cases rdN b3 with
        | none => rfl
        | some r => rfl
theorem rd2_len {b r : Bs} {x : Nat × Nat} (h : rd2 (some b) = some (x, r)) : r.length ≤ b.length := by
  unfold rd2 nm at h
  simp only at h
  cases h1 : rdN b with
  | none => rw [h1] at h; cases h
  | some r1 =>
    obtain ⟨x1, b1⟩ := r1
    rw [h1] at h; simp only at h
    cases h2 : rdN b1 with
    | none => rw [h2] at h; cases h
    | some r2 =>
      obtain ⟨y1, b2⟩ := r2
      rw [h2] at h
      simp only [Option.some.injEq, Prod.mk.injEq] at h
      obtain ⟨_, rfl⟩ := h
      have := rdN_len h1; have := rdN_len h2; omega
section
variable {h : Heap} {Q : AV → Heap → Prop} {p : Nat} {o : Option Bs}
theorem two_nums {F : Nat} (num : ∀ {h : Heap} {Q : AV → Heap → Prop} {o : Option Bs}, Rd h p o → Bd o → (∀ h', Fr p h h' → Rd h' p (stO (nm o)) → Q (.int .i64 (valN (nm o))) h') → AC Tryz.prog F [.ptr (some ⟨p, 0⟩)] h Q)
    (R : Rd h p o) (hl : Bd o) {K : Int → Int → Heap → Prop} (h0 : rd2 o = none → ∀ a b h', Fr p h h' → Rd h' p none → K a b h') (h1 : ∀ x y r h', rd2 o = some ((x, y), r) → Fr p h h' → Rd h' p (some r) → K (x : Nat) (y : Nat) h') :
    AC Tryz.prog F [.ptr (some ⟨p, 0⟩)] h fun v2 h3 => ∃ n4 : Int, v2 = .int .i64 n4 ∧ AC Tryz.prog F [.ptr (some ⟨p, 0⟩)] h3 fun v5 h6 => ∃ n7 : Int, v5 = .int .i64 n7 ∧ K n4 n7 h6 := by
  refine num R hl fun h3 F3 R3 => ⟨_, rfl, ?_⟩
  refine num R3 hl.nm fun h6 F6 R6 => ⟨_, rfl, ?_⟩
  have F := F3.trans F6
  cases hn : nm o with
  | none =>
    rw [hn] at R6
    exact h0 (by unfold rd2; rw [hn]) _ _ _ F R6
  | some r1 =>
    obtain ⟨x, b⟩ := r1
    rw [hn] at R6
    cases hm : rdN b with
    | none =>
      have : nm (stO (some (x, b))) = none := hm
      rw [this] at R6
      exact h0 (by unfold rd2; rw [hn]; simp only; rw [hm]) _ _ _ F R6
    | some r2 =>
      obtain ⟨y, c⟩ := r2
      have : nm (stO (some (x, b))) = some (y, c) := hm
      rw [this] at R6 ⊢
      exact h1 x y c _ (by unfold rd2; rw [hn]; simp only; rw [hm]) F R6
abbrev momV (x y : Nat) : AV := if momErr x y = 0 then .agg [.int .i64 (x : Nat), .int .i64 (y : Nat)] else .agg [.int .i64 0, .int .i64 0]
abbrev recV (x y : Nat) : AV := if recErr x y = 0 then .agg [.int .i64 (x : Nat), .int .i64 (y : Nat)] else .agg [.int .i64 0, .int .i64 0]
theorem k225 (R : Rd h p o) (hl : Bd o) (h0 : rd2 o = none → ∀ h', Fr p h h' → Rd h' p none → Q (.tup [.agg [.int .i64 0, .int .i64 0], .int .i64 10]) h')
    (h1 : ∀ x y r h', rd2 o = some ((x, y), r) → Fr p h h' → Rd h' p (some r) → Q (.tup [momV x y, .int .i64 (momErr x y)]) h') : AC Tryz.prog 225 [.ptr (some ⟨p, 0⟩)] h Q := ac225 (by
  unfold vc225
  refine two_nums (F := 159) (fun R hl hQ => e159 R hl hQ) R hl (fun hr a b h' F R' => ?_) (fun x y r h' hr F R' => ?_)
  · exact e231 R' ⟨_, rfl, vif_mk (fun _ => h0 hr _ F R') (fun g => by cases g)⟩
  · refine e231 R' ⟨_, rfl, vif_mk (fun g => by cases g) (fun _ => ?_)⟩
    have h1 := h1 x y r h' hr F R'
    refine k186 ⟨_, rfl, vif_mk (fun g => ?_) (fun g => ?_)⟩
    · have g : momErr x y ≠ 0 := by simpa using g
      unfold momV at h1; rw [if_neg g] at h1; exact h1
    · have g : momErr x y = 0 := by simpa using g
      unfold momV at h1; rw [if_pos g, g] at h1; exact h1)
theorem k226 (R : Rd h p o) (hl : Bd o) (h0 : rd2 o = none → ∀ h', Fr p h h' → Rd h' p none → Q (.tup [.agg [.int .i64 0, .int .i64 0], .int .i64 10]) h')
    (h1 : ∀ x y r h', rd2 o = some ((x, y), r) → Fr p h h' → Rd h' p (some r) → Q (.tup [recV x y, .int .i64 (recErr x y)]) h') : AC Tryz.prog 226 [.ptr (some ⟨p, 0⟩)] h Q := ac226 (by
  unfold vc226
  refine two_nums (F := 159) (fun R hl hQ => e159 R hl hQ) R hl (fun hr a b h' F R' => ?_) (fun x y r h' hr F R' => ?_)
  · exact e231 R' ⟨_, rfl, vif_mk (fun _ => h0 hr _ F R') (fun g => by cases g)⟩
  · refine e231 R' ⟨_, rfl, vif_mk (fun g => by cases g) (fun _ => ?_)⟩
    have h1 := h1 x y r h' hr F R'
    refine k267 ⟨_, rfl, vif_mk (fun g => ?_) (fun g => ?_)⟩
    · have g : recErr x y ≠ 0 := by simpa using g
      unfold recV at h1; rw [if_neg g] at h1; exact h1
    · have g : recErr x y = 0 := by simpa using g
      unfold recV at h1; rw [if_pos g, g] at h1; exact h1)
theorem ent_read {mf rf : Nat} (mom : ∀ {h : Heap} {Q : AV → Heap → Prop} {o : Option Bs}, Rd h p o → Bd o → (rd2 o = none → ∀ h', Fr p h h' → Rd h' p none → Q (.tup [.agg [.int .i64 0, .int .i64 0], .int .i64 10]) h') →
      (∀ x y r h', rd2 o = some ((x, y), r) → Fr p h h' → Rd h' p (some r) → Q (.tup [momV x y, .int .i64 (momErr x y)]) h') → AC Tryz.prog mf [.ptr (some ⟨p, 0⟩)] h Q)
    (rec : ∀ {h : Heap} {Q : AV → Heap → Prop} {o : Option Bs}, Rd h p o → Bd o → (rd2 o = none → ∀ h', Fr p h h' → Rd h' p none → Q (.tup [.agg [.int .i64 0, .int .i64 0], .int .i64 10]) h') →
      (∀ x y r h', rd2 o = some ((x, y), r) → Fr p h h' → Rd h' p (some r) → Q (.tup [recV x y, .int .i64 (recErr x y)]) h') → AC Tryz.prog rf [.ptr (some ⟨p, 0⟩)] h Q)
    {b : Bs} (R : Rd h p (some b)) (hl : b.length ≤ 100000) {K : Int → Int → Int → Int → Int → Int → Heap → Prop}
    (h0 : rdE b = none → ∀ a1 a2 e1 a3 a4 e2 h', Fr p h h' → (e1 ≠ 0 ∨ e2 ≠ 0) → K a1 a2 e1 a3 a4 e2 h')
    (h1 : ∀ e r h', rdE b = some (e, r) → Fr p h h' → Rd h' p (some r) → K e.1 e.2.1 0 e.2.2.1 e.2.2.2 0 h') :
    AC Tryz.prog mf [.ptr (some ⟨p, 0⟩)] h fun v12 h13 => ∃ n14 n15 n16 : Int, v12 = .tup [.agg [.int .i64 n14, .int .i64 n15], .int .i64 n16] ∧
      AC Tryz.prog rf [.ptr (some ⟨p, 0⟩)] h13 fun v17 h18 => ∃ n19 n20 n21 : Int, v17 = .tup [.agg [.int .i64 n19, .int .i64 n20], .int .i64 n21] ∧ K n14 n15 n16 n19 n20 n21 h18 := by
  have bd : Bd (some b) := fun l hl' => by cases hl'; exact hl
  refine mom R bd (fun hr h13 F13 R13 => ⟨0, 0, 10, rfl, ?_⟩) (fun x y r h13 hr F13 R13 => ?_)
  · have hE : rdE b = none := by unfold rdE; rw [rd4_rd2, hr]
    refine rec R13 (fun l h => by cases h) (fun _ h18 F18 _ => ⟨0, 0, 10, rfl, h0 hE _ _ _ _ _ _ _ (F13.trans F18) (.inl (by omega))⟩) (fun x y r h' hr' _ _ => by unfold rd2 nm at hr'; cases hr')
  have hrl := rd2_len hr
  have bd2 : Bd (some r) := fun l hl' => by cases hl'; omega
  rcases momErr_cases x y with ⟨m1, m2⟩ | ⟨m1, m2⟩
  · refine ⟨x, y, 0, by unfold momV; rw [m1]; rfl, ?_⟩
    refine rec R13 bd2 (fun hr2 h18 F18 _ => ⟨0, 0, 10, rfl, h0 (by unfold rdE; rw [rd4_rd2, hr]; simp only; rw [hr2]) _ _ _ _ _ _ _ (F13.trans F18) (.inr (by omega))⟩) (fun z w t h18 hr2 F18 R18 => ?_)
    have h4 : rd4 b = some (((x : Int), (y : Int), (z : Int), (w : Int)), t) := by rw [rd4_rd2, hr]; simp only; rw [hr2]
    rcases recErr_cases z w with ⟨r1, r2⟩ | ⟨r1, r2⟩
    · refine ⟨z, w, 0, by unfold recV; rw [r1]; rfl, h1 ((x : Int), (y : Int), (z : Int), (w : Int)) t _ ?_ (F13.trans F18) R18⟩
      unfold rdE; rw [h4]; simp only
      rw [if_pos (by unfold entOk; simp only [decide_eq_true_eq]; omega)]
    · refine ⟨0, 0, 30, by unfold recV; rw [r1]; rfl, h0 ?_ _ _ _ _ _ _ _ (F13.trans F18) (.inr (by omega))⟩
      unfold rdE; rw [h4]; simp only
      rw [if_neg (by unfold entOk; simp only [decide_eq_true_eq]; omega)]
  · refine ⟨0, 0, 40, by unfold momV; rw [m1]; rfl, ?_⟩
    have hE : rdE b = none := by
      unfold rdE; rw [rd4_rd2, hr]; simp only
      cases hr2 : rd2 (some r) with
      | none => rfl
      | some q =>
        obtain ⟨⟨z, w⟩, t⟩ := q
        simp only
        rw [if_neg (by unfold entOk; simp only [decide_eq_true_eq]; omega)]
    refine rec R13 bd2 (fun hr2 h18 F18 _ => ⟨0, 0, 10, rfl, h0 hE _ _ _ _ _ _ _ (F13.trans F18) (.inl (by omega))⟩) (fun z w t h18 hr2 F18 R18 => ?_)
    rcases recErr_cases z w with ⟨r1, r2⟩ | ⟨r1, r2⟩
    · exact ⟨z, w, 0, by unfold recV; rw [r1]; rfl, h0 hE _ _ _ _ _ _ _ (F13.trans F18) (.inl (by omega))⟩
    · exact ⟨0, 0, 30, by unfold recV; rw [r1]; rfl, h0 hE _ _ _ _ _ _ _ (F13.trans F18) (.inl (by omega))⟩
theorem k224 {l : Bs} (R : Rd h p (some l)) (hQ : Q (.int .i64 (l.length : Nat)) h) : AC Tryz.prog 224 [.ptr (some ⟨p, 0⟩)] h Q := ac224 (by
  unfold vc224
  refine e231 R ⟨_, rfl, vif_mk (fun g => by cases g) (fun _ => ?_)⟩
  obtain ⟨q, hc, H, _⟩ := rd_buf R
  refine ⟨q, hc, ?_⟩
  rw [H.len]; exact hQ)
structure UnI (h0 : Heap) (p : Nat) (b : Bs) (h : Heap) (q : Option SL) (done : List Ent) (rest : Bs) : Prop where
  ext : Ext h0 h
  out : Apd entE h q done
  ob : ∀ s, q = some s → p < s.b
  rd : Rd h p (some rest)
  ok : ∀ e ∈ done, entOk e = true
  eq : b = encL done ++ rest
theorem UnI.next {h0 h h' : Heap} {b rest r : Bs} {q : Option SL} {done : List Ent} {e : Ent} {K : Option SL → Heap → Prop} (I : UnI h0 p b h q done rest) (hp : h0.length ≤ p) (hb : b.length ≤ 1000) (hr : rdE rest = some (e, r)) (F : Fr p h h') (R : Rd h' p (some r))
    (hK : ∀ q' h'', UnI h0 p b h'' q' (done ++ [e]) r → slLen q' = slLen q + 1 → K q' h'') : PAppendS 4 32 q (some ⟨h'.length, 0, 1, 1, 0⟩) (h' ++ [.cells [.int .i64 e.1, .int .i64 e.2.1, .int .i64 e.2.2.1, .int .i64 e.2.2.2] true]) K := by
  obtain ⟨hrest, hok⟩ := entB_rdE hr
  have A1 : Apd entE h' q done := I.out.keeps F.keeps (fun s hs he => by have := I.ob s hs; omega)
  have hx : Ext h' (h' ++ [Blk.cells [.int .i64 e.1, .int .i64 e.2.1, .int .i64 e.2.2.1, .int .i64 e.2.2.2] true]) := .app _ _
  have hlen := I.out.hasL.len
  have hpl : p < h.length := I.rd.live
  have hdl : done.length ≤ b.length := by
    have h1 := congrArg List.length I.eq
    have h2 : ∀ l : List Ent, l.length ≤ (encL l).length := by
      intro l
      induction l with
      | nil => simp
      | cons a l ih => have := entB_pos (e := a); simp only [encL, List.flatMap_cons, List.length_append, List.length_cons] at *; omega
    have := h2 done
    rw [List.length_append] at h1; omega
  refine Apd.append (E := entE) (A1.ext hx) (m := [e]) (HasL.new (E := entE) (l := [e]) (n := 1) rfl rfl) (by simp; omega) fun q' h'' A K2 hl ho => hK q' h'' ?_ ?_
  · have bnd : ∀ s', q' = some s' → p < s'.b := fun s' hs' => by
      rcases ho s' hs' with h1 | ⟨s, h1, h2⟩
      · have := F.len; simp at h1; omega
      · rw [← h2]; exact I.ob s h1
    refine ⟨?_, A, bnd, ?_, ?_, ?_⟩
    · intro k B hk
      have hk0 := lt_of_get hk
      have h1 := I.ext _ _ hk
      have h2 := F.keeps k B (fun he => by have he : k = p := he; omega) h1
      exact K2 k B (fun ⟨s, g1, g2⟩ => by have := I.ob s g1; omega) (hx _ _ h2)
    · exact (R.ext hx).keeps K2 (fun k hk ⟨s, g1, g2⟩ => by have := I.ob s g1; omega)
    · intro x hxm
      rcases List.mem_append.1 hxm with hxm | hxm
      · exact I.ok x hxm
      · simp at hxm; subst hxm; exact hok
    · rw [I.eq, hrest, encL_append, encL_one, List.append_assoc]
  · have := A.hasL.len
    rw [this, hlen]; simp
theorem unpack_of {b : Bs} {h0 : Heap} {q : Option SL} {done : List Ent} {rest : Bs} (I : UnI h0 p b h q done rest) : unpack b = (unpack rest).map (done ++ ·) := by
  rw [I.eq, unpack_app I.ok]
theorem entE_le {b : Bs} {h0 : Heap} {q : Option SL} {done : List Ent} {rest : Bs} (I : UnI h0 p b h q done rest) : slLen q ≤ b.length := by
  rw [I.out.hasL.len]
  have h1 := congrArg List.length I.eq
  have h2 : ∀ l : List Ent, l.length ≤ (encL l).length := by
    intro l
    induction l with
    | nil => simp
    | cons a l ih => have := entB_pos (e := a); simp only [encL, List.flatMap_cons, List.length_append, List.length_cons] at *; omega
  have := h2 done
  rw [List.length_append] at h1; omega
theorem k156 {q : Option SL} {b : Bs} (H : HasL byE h q b) (hl : b.length ≤ 100000) (h0 : (b.length > 43 ∨ unpack b = none) → ∀ (e : Int) h', e ≠ 0 → Ext h h' → Q (.tup [.sl none, .int .i64 e]) h')
    (h1 : ∀ l q' h', b.length ≤ 43 → unpack b = some l → Ext h h' → Apd entE h' q' l → (∀ s, q' = some s → h.length ≤ s.b) → Q (.tup [.sl q', .int .i64 0]) h') : AC Tryz.prog 156 [.sl q] h Q := ac156 (by
  unfold vc156 PNew
  have hlen := H.len
  refine vif_mk (fun g => h0 (.inl (by have := of_decide_eq_true g; omega)) _ _ (by omega) (.refl _)) (fun g => ?_)
  replace g := of_decide_eq_false g
  refine e158 H hl fun p h3 hx hp R => ⟨_, rfl, ?_⟩
  refine ⟨fun xs h8 => ∃ (q5 : Option SL) (done : List Ent) (rest : Bs), xs = [.sl q5] ∧ UnI h p b h8 q5 done rest, fun xs _ => match xs with | [.sl q] => 100 - slLen q | _ => 0, ⟨none, [], b, rfl, hx, .inl ⟨rfl, rfl⟩, by simp, R, by simp, by simp [encL]⟩, ?_⟩
  rintro q5 h8 ⟨q5', done, rest, hxs, I⟩
  simp only [List.cons.injEq, AV.sl.injEq, and_true] at hxs
  subst hxs
  have hu := unpack_of I
  have hle := entE_le I
  have hrl : rest.length ≤ b.length := by have := congrArg List.length I.eq; rw [List.length_append] at this; omega
  refine k224 I.rd ⟨_, rfl, vif_mk (fun g2 => ?_) (fun g2 => ?_)⟩
  · replace g2 := of_decide_eq_true g2
    refine ent_read (mf := 225) (rf := 226) (fun R hl => k225 R hl) (fun R hl => k226 R hl) I.rd (by omega) (fun hE a1 a2 e1 a3 a4 e2 h' F he => ?_) (fun e r h' hE F R' => ?_)
    · have hn : unpack b = none := by rw [hu, unpack_none (by intro h; rw [h] at g2; simp at g2) hE]; rfl
      have xF : Ext h h' := F.ext I.ext hp
      rcases he with he | he
      · exact vif_mk (fun _ => h0 (.inr hn) _ _ (by omega) xF) (fun g => absurd (by simpa using g) he)
      · exact vif_mk (fun _ => h0 (.inr hn) _ _ (by omega) xF) (fun _ => vif_mk (fun _ => h0 (.inr hn) _ _ (by omega) xF) (fun g => absurd (by simpa using g) he))
    · refine vif_mk (fun g => by simp at g) (fun _ => vif_mk (fun g => by simp at g) (fun _ => ?_))
      refine I.next (by have := hx.len; omega) (by omega) hE F R' fun q' h'' I' hsl => ?_
      have := entE_le I'
      exact ⟨trivial, ⟨q', _, _, rfl, I'⟩, by simp only; omega⟩
  · replace g2 := of_decide_eq_false g2
    have hr : rest = [] := List.eq_nil_of_length_eq_zero (by omega)
    subst hr
    exact h1 done q5 h8 (by omega) (by rw [hu]; simp [unpack, unpackN]) I.ext I.out fun s hs => by have := I.ob s hs; omega)
end
end
section
variable {h h' : Heap} {Q : AV → Heap → Prop}
theorem idx4 {q : Option SL} {l : List Ent} {i : Nat} {x : Ent} (H : HasL entE h q l) (hx : l[i]? = some x) {ix : Int} (hix : ix = i) {K : PA → Prop} (hK : ∀ p, cellsAt h p 4 = some [.int .i64 x.1, .int .i64 x.2.1, .int .i64 x.2.2.1, .int .i64 x.2.2.2] → K p) : vIdx q ix 4 K := by
  have := lt_of_get hx
  refine HasL.idx (E := entE) H (by omega) (by omega) fun pp y hy hc => hK pp ?_
  subst hix
  have : l[i]? = some y := by simpa using hy
  rw [hx] at this; cases this
  exact hc
set_option maxRecDepth 20000 in
theorem z59 : ∀ (n : Nat) {h : Heap} {Q : AV → Heap → Prop} {q : Option SL} {l : List Ent}, l.length ≤ n → HasL entE h q l → l.length ≤ 100000 → (∀ q' h', New entE h h' q' (sortE l) → Q (.sl q') h') → AC Tryz.prog 59 [.sl q] h Q
  | n, h, Q, q, l, hln, H, hl, hQ => ac59 (by
  unfold vc59 PNew
  have hlen := H.len
  rw [hlen]
  refine vif_mk (fun g => ?_) (fun g => ?_)
  · replace g := of_decide_eq_true g
    have N : New entE h (h ++ [Blk.cells [] true]) (some ⟨h.length, 0, 0, 0, 0⟩) [] := New.mk1 rfl rfl
    refine New.append (E := entE) N (H.mono (Ext.app _ _)) (by simp; omega) fun q4 h5 N5 => hQ q4 h5 ?_
    have : SortedL l := by
      match l, g with
      | [], _ => exact .nil
      | [x], _ => exact .cons (by simp) .nil
      | x :: y :: l, g => simp at g; omega
    rw [sortE_self this]; simpa using N5
  · replace g := of_decide_eq_false g
    have e1 : (((l.length : Nat) : Int).tdiv 2) = ((l.length / 2 : Nat) : Int) := by rw [tdiv_pos (by omega)]; omega
    rw [e1, wrapK_i64 ⟨by omega, by omega⟩]
    refine HasL.slice (E := entE) H (by omega) (by simp; omega) (by simp; omega) fun q6 H6 => ?_
    refine HasL.slice (E := entE) H (by omega) (by simp; omega) (by simp) fun q7 H7 => ?_
    have H6 : HasL entE h q6 (l.take (l.length / 2)) := by simp only [Option.getD_some, Int.toNat_natCast, Int.toNat_zero, List.drop_zero] at H6; exact H6
    have H7 : HasL entE h q7 (l.drop (l.length / 2)) := by simp only [Option.getD_none, Int.toNat_natCast, List.take_length] at H7; exact H7
    have hn1 : (l.take (l.length / 2)).length < n := by rw [List.length_take]; omega
    have hn2 : (l.drop (l.length / 2)).length < n := by rw [List.length_drop]; omega
    obtain ⟨m, rfl⟩ : ∃ m, n = m + 1 := ⟨n - 1, by omega⟩
    refine z59 m (by omega) H6 (by rw [List.length_take]; omega) fun q10 h9 N9 => ⟨q10, rfl, ?_⟩
    refine z59 m (by omega) (H7.mono N9.1) (by rw [List.length_drop]; omega) fun q13 h12 N12 => ⟨q13, rfl, ?_⟩
    have HA := N9.hasL.mono N12.1
    have HB := N12.hasL
    have hsa := sortE_sorted (l.take (l.length / 2))
    have hsb := sortE_sorted (l.drop (l.length / 2))
    have hpa := sortE_perm (l.take (l.length / 2))
    have hpb := sortE_perm (l.drop (l.length / 2))
    generalize sortE (l.take (l.length / 2)) = A at *
    generalize sortE (l.drop (l.length / 2)) = B at *
    have hperm : (A ++ B).Perm l := (hpa.append hpb).trans (by rw [List.take_append_drop])
    let I : Option SL → Option SL → Option SL → Heap → Prop := fun q14 q15 q16 h19 => ∃ a b o : List Ent, HasL entE h12 q14 a ∧ HasL entE h12 q15 b ∧ New entE h12 h19 q16 o ∧ (o ++ (a ++ b)).Perm l ∧ SortedL a ∧ SortedL b ∧ SortedL o ∧ ∀ x ∈ o, ∀ y ∈ a ++ b, leE x y
    refine ⟨fun xs h19 => ∃ q14 q15 q16, xs = [.sl q14, .sl q15, .sl q16] ∧ I q14 q15 q16 h19, fun xs _ => match xs with | [.sl q14, .sl q15, _] => slLen q14 + slLen q15 | _ => 0, ⟨_, _, _, rfl, A, B, [], HA, HB, New.none, by simpa using hperm, hsa, hsb, .nil, by simp⟩, ?_⟩
    rintro q14 q15 q16 h19 ⟨_, _, _, hx, a, b, o, Ha, Hb, No, hp, sa, sb, so, hle⟩
    simp only [List.cons.injEq, AV.sl.injEq, and_true] at hx
    obtain ⟨rfl, rfl, rfl⟩ := hx
    have la := Ha.len
    have lb := Hb.len
    have hlp := hp.length_eq
    simp only [List.length_append] at hlp
    have Ha19 := Ha.mono No.1
    have Hb19 := Hb.mono No.1
    rw [la, lb]
    have stepA : ∀ {x : Ent} {a' : List Ent}, a = x :: a' → (∀ y ∈ b, leE x y) → vIdx q14 0 4 fun p20 => ∃ n21 n22 : Int, ∃ n23 n24 : Int, cellsAt h19 p20 4 = some [.int .i64 n21, .int .i64 n22, .int .i64 n23, .int .i64 n24] ∧
        PAppendS 4 32 q16 (some ⟨h19.length, 0, 1, 1, 0⟩) (h19 ++ [.cells [.int .i64 n21, .int .i64 n22, .int .i64 n23, .int .i64 n24] true]) fun q27 h28 => PSlice 4 q14 1 none none fun q29 =>
          (True) ∧ (∃ q14' q15' q16', [AV.sl q29, .sl q15, .sl q27] = [.sl q14', .sl q15', .sl q16'] ∧ I q14' q15' q16' h28) ∧ (slLen q29 + slLen q15) < (slLen q14 + slLen q15) := by
      intro x a' ha hxb
      subst ha
      refine idx4 Ha19 (i := 0) (x := x) rfl rfl fun p hc => ⟨_, _, _, _, hc, ?_⟩
      refine New.append (E := entE) (m := [x]) (No.ext (Ext.app _ _)) (HasL.new (E := entE) (l := [x]) (n := 1) rfl (by simp [Enc.all, entE])) (by simp at hlp ⊢; omega) fun q27 h28 N28 => ?_
      refine HasL.slice (E := entE) Ha (by omega) (by simp; omega) (by simp) fun q29 H29 => ?_
      have H29 : HasL entE h12 q29 a' := by
        have e : ((x :: a').take ((Option.getD none (((x :: a').length : Nat) : Int))).toNat).drop (1 : Int).toNat = a' := by
          simp only [Option.getD_none, Int.toNat_natCast, List.take_length]; rfl
        rw [e] at H29; exact H29
      have l29 := H29.len
      refine ⟨trivial, ⟨_, _, _, rfl, a', b, o ++ [x], H29, Hb, N28, by simpa using hp, sa.of_cons, sb, ?_, ?_⟩, by rw [la, l29]; simp⟩
      · rw [SortedL, List.pairwise_append]
        exact ⟨so, .cons (by simp) .nil, fun y hy z hz => by simp at hz; subst hz; exact hle y hy z (by simp)⟩
      · intro y hy z hz
        rcases List.mem_append.1 hy with hy | hy
        · exact hle y hy z (by simp at hz ⊢; rcases hz with h | h <;> simp [h])
        · simp at hy; subst hy
          rcases List.mem_append.1 hz with hz | hz
          · exact List.rel_of_pairwise_cons sa hz
          · exact hxb z hz
    have stepB : ∀ {x : Ent} {b' : List Ent}, b = x :: b' → (∀ y ∈ a, leE x y) → vIdx q15 0 4 fun p20 => ∃ n21 n22 : Int, ∃ n23 n24 : Int, cellsAt h19 p20 4 = some [.int .i64 n21, .int .i64 n22, .int .i64 n23, .int .i64 n24] ∧
        PAppendS 4 32 q16 (some ⟨h19.length, 0, 1, 1, 0⟩) (h19 ++ [.cells [.int .i64 n21, .int .i64 n22, .int .i64 n23, .int .i64 n24] true]) fun q27 h28 => PSlice 4 q15 1 none none fun q29 =>
          (True) ∧ (∃ q14' q15' q16', [AV.sl q14, .sl q29, .sl q27] = [.sl q14', .sl q15', .sl q16'] ∧ I q14' q15' q16' h28) ∧ (slLen q14 + slLen q29) < (slLen q14 + slLen q15) := by
      intro x b' hb hxa
      subst hb
      refine idx4 Hb19 (i := 0) (x := x) rfl rfl fun p hc => ⟨_, _, _, _, hc, ?_⟩
      refine New.append (E := entE) (m := [x]) (No.ext (Ext.app _ _)) (HasL.new (E := entE) (l := [x]) (n := 1) rfl (by simp [Enc.all, entE])) (by simp at hlp ⊢; omega) fun q27 h28 N28 => ?_
      refine HasL.slice (E := entE) Hb (by omega) (by simp; omega) (by simp) fun q29 H29 => ?_
      have H29 : HasL entE h12 q29 b' := by
        have e : ((x :: b').take ((Option.getD none (((x :: b').length : Nat) : Int))).toNat).drop (1 : Int).toNat = b' := by
          simp only [Option.getD_none, Int.toNat_natCast, List.take_length]; rfl
        rw [e] at H29; exact H29
      have l29 := H29.len
      refine ⟨trivial, ⟨_, _, _, rfl, a, b', o ++ [x], Ha, H29, N28, ?_, sa, sb.of_cons, ?_, ?_⟩, by rw [lb, l29]; simp⟩
      · refine List.Perm.trans ?_ hp
        rw [List.append_assoc]
        exact List.Perm.append_left o (by simpa using (List.perm_middle (a := x) (l₁ := a) (l₂ := b')).symm)
      · rw [SortedL, List.pairwise_append]
        exact ⟨so, .cons (by simp) .nil, fun y hy z hz => by simp at hz; subst hz; exact hle y hy z (by simp)⟩
      · intro y hy z hz
        rcases List.mem_append.1 hy with hy | hy
        · exact hle y hy z (by simp at hz ⊢; rcases hz with h | h <;> simp [h])
        · simp at hy; subst hy
          rcases List.mem_append.1 hz with hz | hz
          · exact hxa z hz
          · exact List.rel_of_pairwise_cons sb hz
    refine vif_mk (fun g1 => ?_) (fun g1 => ?_)
    · replace g1 := of_decide_eq_true g1
      obtain ⟨x, a', rfl⟩ : ∃ x a', a = x :: a' := by cases a with | nil => simp at g1 | cons x a' => exact ⟨x, a', rfl⟩
      refine vif_mk (fun g2 => ?_) (fun g2 => ?_)
      · have g2 : b.length = 0 := by have : ((b.length : Nat) : Int) = 0 := by simpa using g2
                                     omega
        have : b = [] := List.eq_nil_of_length_eq_zero g2
        subst this
        exact stepA rfl (by simp)
      · obtain ⟨y, b', rfl⟩ : ∃ y b', b = y :: b' := by cases b with | nil => simp at g2 | cons x a' => exact ⟨x, a', rfl⟩
        refine vif_mk (fun _ => ?_) (fun g3 => by simp at g3)
        refine idx4 Ha19 (i := 0) (x := x) rfl rfl fun p hc => ⟨_, _, _, _, hc, ?_⟩
        refine idx4 Hb19 (i := 0) (x := y) rfl rfl fun p hc => ⟨_, _, _, _, hc, ?_⟩
        refine z133 (a := x) (b := y) ⟨_, rfl, ?_⟩
        refine vif_mk (fun g4 => ?_) (fun g4 => ?_)
        · replace g4 := of_decide_eq_true g4
          have hxy : leE x y := fun hlt => by have := cmpE_gt.2 hlt; omega
          refine stepA rfl fun z hz => ?_
          rcases List.mem_cons.1 hz with rfl | hz
          · exact hxy
          · exact leE_trans hxy (List.rel_of_pairwise_cons sb hz)
        · replace g4 := of_decide_eq_false g4
          have hyx : leE y x := leE_lt (cmpE_gt.1 (by omega))
          refine stepB rfl fun z hz => ?_
          rcases List.mem_cons.1 hz with rfl | hz
          · exact hyx
          · exact leE_trans hyx (List.rel_of_pairwise_cons sa hz)
    · replace g1 := of_decide_eq_false g1
      have : a = [] := List.eq_nil_of_length_eq_zero (by omega)
      subst this
      refine vif_mk (fun g2 => ?_) (fun g2 => ?_)
      · replace g2 := of_decide_eq_true g2
        obtain ⟨y, b', rfl⟩ : ∃ y b', b = y :: b' := by cases b with | nil => simp at g2 | cons x a' => exact ⟨x, a', rfl⟩
        refine vif_mk (fun g3 => by simp at g3; omega) (fun _ => ?_)
        refine vif_mk (fun g3 => by simp at g3) (fun _ => ?_)
        exact stepB rfl (by simp)
      · replace g2 := of_decide_eq_false g2
        have : b = [] := List.eq_nil_of_length_eq_zero (by omega)
        subst this
        have : o = sortE l := (sortE_eq so (by simpa using hp)).symm
        subst this
        exact hQ q16 h19 (No.of (N9.1.trans N12.1)))
end
end Go.Proofs.YtnglhicedhcpbaaGreatDoor
