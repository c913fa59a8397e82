import Derived.Test.YtnglhicedhcpbaaGreatDoorKG30
import Derived.Test.YtnglhicedhcpbaaGreatDoorKG31
namespace Go.Proofs.YtnglhicedhcpbaaGreatDoor
open Go.Ab
open Go.Num hiding Bs snoc_ind
open Go.Page hiding Bs get
open Go.Dsk hiding Bs
open Go.Man hiding Bs drop_cons
set_option linter.unusedVariables false
set_option linter.unusedSimpArgs false
theorem DiskR.ok {h : Heap} {ow : Roles} {dp : Nat} {D : DS} (R : DiskR h ow dp D) : DOk D := by
  obtain ⟨_, _, _, _, C⟩ := R
  exact ⟨C.names, C.blocks, C.pfile, C.safe⟩
abbrev foldE (es : List ED) : Option ESt := fold (J := JE) (false, [], zeroD) es
abbrev szE (es : List ED) : Nat := szs JE es
section
variable {h h' : Heap} {ow ow' ow2 : Roles} {jp dp sp : Nat} {SD : Nat → Prop} {D D' : DS} {has : Bool} {done : List ED} {mark : ED} {pages : Nat} {brk : Bool} {Q : AV → Heap → Prop} {s s' : ESt} {es : List ED}
theorem jsays_mid (M : Mid JE D.files D.pends s) : jsays D = s := says_mid M
theorem layP_pends {D : DS} {b pages : Nat} {es : List ED} (h : ∀ d ∈ es, chk d = true) : (layP JE D b pages es).2.1.pends.length ≤ D.pends.length + 340 * es.length := by
  have h1 : (clearP D).2.pends.length ≤ D.pends.length := by
    unfold clearP
    split
    · exact delete_pends
    · exact Nat.le_refl _
  have h2 := create_pends (D := (clearP D).2) (t := nN) (b := b)
  have h3 := (fillP_pends (es := es) (D := ((clearP D).2.create nN b).2) (a := 0) h).1
  have h4 := sync_pends (D := (fillP JE ((clearP D).2.create nN b).2 0 es).2.1) (t := nN)
  have h5 := rename_pends (D := ((fillP JE ((clearP D).2.create nN b).2 0 es).2.1.sync nN).2) (t := nN) (u := nJ)
  unfold layP
  split
  · show (clearP D).2.pends.length ≤ _; omega
  · split
    · show ((clearP D).2.create nN b).2.pends.length ≤ _; omega
    · split
      · omega
      · split
        · show ((fillP JE ((clearP D).2.create nN b).2 0 es).2.1.sync nN).2.pends.length ≤ _; omega
        · show (((fillP JE ((clearP D).2.create nN b).2 0 es).2.1.sync nN).2.rename nN nJ).2.pends.length ≤ _; omega
theorem open_ok (L : Laid h) (o0 : ow 0 = none) (o1 : ow 1 = none) (R : DiskR h ow dp D) (ho : D.off = false) (hp : D.pends = []) (M : Mid JE D.files D.pends s) (V : Vld s.1 s.2.1 s.2.2) (hd : s.2.1.length ≤ 100) (hsz : szE (edsE s) ≤ 2000) (hu : D.used + szE (edsE s) ≤ D.limit)
    (h1 : ∀ jp sp SD h' ow' D', JH h' ow' jp dp sp SD D' s.1 s.2.1 s.2.2 (szE (edsE s)) false → Idle JE D' (edsE s) → D'.off = false → D'.limit = D.limit → (D.left = -1 → D'.left = -1) → DStep ow h ow' h' → h.length ≤ jp → (∀ b, SD b → h.length ≤ b) → Q (.tup [.ptr (some ⟨jp, 0⟩), .int .i64 0]) h')
    (h0 : D.left ≠ -1 → ∀ (v : Int) h' ow' D', v ≠ 0 → DiskR h' ow' dp D' → Mid JE D'.files D'.pends s → D'.limit = D.limit → D'.pends.length ≤ 40000 → DStep ow h ow' h' → Q (.tup [.ptr none, .int .i64 v]) h') : AC Tryz.prog 28 [.ptr (some ⟨dp, 0⟩)] h Q := by
  have hj := jsays_mid M
  have hs := fold_edits V
  have hbig : (fileS D nJ).length ≤ 2300 := by
    unfold fileS
    cases hf : D.find nJ with
    | none => simp
    | some f =>
      have := M.big f (find_mem hf).1
      simp only [List.length_map]; omega
  have hel : (edsE s).length ≤ 101 := by
    show (s.2.1 ++ _ : List ED).length ≤ 101
    rw [List.length_append]
    cases s.1 <;> simp <;> omega
  have hcp : (cleanP D (docNames (namesOf (edsE s)))).2.2.pends.length ≤ 0 := by
    have := cleanL_pends (keep := keepF' (docNames (namesOf (edsE s)))) (l := D.namesL) (D := D) (n := 0)
    rw [hp] at this; exact this
  have hlp : ∀ b, (layP JE (cleanP D (docNames (namesOf (edsE s)))).2.2 b 0 (edsE s)).2.1.pends.length ≤ 40000 := fun b => by
    refine Nat.le_trans (layP_pends (D := (cleanP D (docNames (namesOf (edsE s)))).2.2) (b := b) (pages := 0) (es := edsE s) (vld_chk V)) ?_
    have h2 : 340 * (edsE s).length ≤ 34340 := by omega
    exact Nat.le_trans (Nat.add_le_add hcp h2) (by omega)
  have law := fun b (hb : FreshO D b) => open_mid (J := JE) (b := b) (es := edsE s) (docNames (namesOf (edsE s))) R.ok M ho hp hs hsz hu (by
    unfold FreshO FreshB at hb
    rw [hj] at hb
    exact hb)
  refine k28 L o0 o1 R ho hbig (by rw [hj]; exact hd) (by rw [hp]; simp) (fun b h' ow' hb hne R' S' => ?_) (fun b jp sp SD h' ow' hb he J' S' hjp hsd V' => ?_)
  · unfold openP at hne R' ⊢
    rw [hj] at hne R' ⊢
    rcases law b hb with ⟨a1, a2, _⟩ | ⟨a1, a2, G⟩ | ⟨a1, G⟩
    · rw [if_neg (by omega)] at hne
      exact absurd a2 hne
    · rw [if_neg (by omega)] at hne R' ⊢
      exact h0 G.lft _ h' ow' _ hne R' G.mid (layP_limit.trans cleanP_limit) (hlp b) S'
    · rw [if_pos a1] at hne R' ⊢
      exact h0 G.lft _ h' ow' _ hne R' G.mid cleanP_limit (Nat.le_trans hcp (by omega)) S'
  · rw [hj] at J'
    unfold openP at he J'
    rw [hj] at he J'
    rcases law b hb with ⟨a1, a2, a3, a4, a5, a6, a7⟩ | ⟨a1, a2, G⟩ | ⟨a1, G⟩
    · rw [if_neg (by omega)] at he J'
      rw [a4] at J'
      exact h1 jp sp SD h' ow' _ J' a3 a5 a6 a7 S' hjp hsd
    · rw [if_neg (by omega)] at he
      exact absurd he a2
    · rw [if_pos a1] at he
      exact absurd he a1
variable (J : JH h ow jp dp sp SD D has done mark pages brk)
include J
theorem commit_ok {e : EV} {d : ED} (hR : EdR h e d) (hre : ∀ s, e.2.2.2 = some s → ow s.b = none ∧ s.b ≠ jp) (hb : brk = false) (I : Idle JE D es) (ho : D.off = false) (hf : foldE es = some (has, done, mark)) (V : Vld has done mark) (hd : done.length ≤ 99) (hpg : pages = szE es) (hpg2 : pages ≤ 100000) (hu : szE es + sz JE d ≤ D.limit)
    (h0 : appE (has, done, mark) d = none → ∀ (v : Int) h', v ≠ 0 → JH h' ow jp dp sp SD D has done mark pages false → JStep ow jp h ow h' → Q (.int .i64 v) h')
    (h1 : ∀ s', appE (has, done, mark) d = some s' → ∀ sp' SD' h' ow' D', (∀ b, SD' b → h.length ≤ b) → JH h' ow' jp dp sp' SD' D' s'.1 s'.2.1 s'.2.2 (szE (es ++ [d])) false → Idle JE D' (es ++ [d]) → D'.off = false → D'.limit = D.limit → (D.left = -1 → D'.left = -1) → D'.left = ((addP D nJ (row (1 + szE es) (encD d))).2.1.sync nJ).2.left → JStep ow jp h ow' h' → Q (.int .i64 0) h')
    (h2 : ∀ s', appE (has, done, mark) d = some s' → D.left ≠ -1 → ((addP D nJ (row (1 + szE es) (encD d))).1 ≠ 0 ∨ ((addP D nJ (row (1 + szE es) (encD d))).2.1.sync nJ).1 ≠ 0) → ∀ (v : Int) h' ow' D' m pg, v ≠ 0 → JH h' ow' jp dp sp SD D' has done mark pg true → Mid2 JE D'.files D'.pends es d m → D'.limit = D.limit → JStep ow jp h ow' h' → Q (.int .i64 v) h') :
    AC Tryz.prog 33 [.ptr (some ⟨jp, 0⟩), evV e] h Q := by
  have law := commit_idle (J := JE) (e := d) J.dk.ok I ho hu
  have hpn : D.pends.length ≤ 50000 := by
    obtain ⟨f, _, _, _, _, h5⟩ := I
    rw [h5]; simp
  refine k33 J hR hre hb V hd hpn (by omega) (fun hno h' J' S' => ?_) (fun hy hz h' ow' J' S' => ?_) (fun hy hz hy2 h' ow' J' S' => ?_) (fun hy hz hy2 sp' SD' h' ow' hsd' J' S' => ?_)
  · have hv : resV has done mark d ≠ 0 := by
      unfold resV
      cases hc : chk d with
      | false => simp
      | true =>
        rw [hc, Bool.true_and] at hno
        rw [hno]; simp
    exact h0 (by unfold appE; rw [hno]; rfl) _ h' hv J' S'
  · have ha : appE (has, done, mark) d = some (nHas d, nDone done d, nMark d) := by unfold appE; simp only; rw [hy]; rfl
    rw [hpg] at hz J' ⊢
    rcases law with ⟨a1, _⟩ | ⟨a1, _⟩ | ⟨a1, G⟩
    · exact absurd a1 hz
    · exact absurd a1 hz
    · obtain ⟨m, hm⟩ := G.mid
      exact h2 _ ha G.lft (.inl hz) _ h' ow' _ m _ hz J' hm addP_limit S'
  · have ha : appE (has, done, mark) d = some (nHas d, nDone done d, nMark d) := by unfold appE; simp only; rw [hy]; rfl
    rw [hpg] at hz hy2 J' ⊢
    rcases law with ⟨a1, a2, a3, _⟩ | ⟨a1, a2, G⟩ | ⟨a1, G⟩
    · exact absurd a3 hy2
    · obtain ⟨m, hm⟩ := G.mid
      exact h2 _ ha G.lft (.inr hy2) _ h' ow' _ m _ hy2 J' hm (sync_limit.trans addP_limit) S'
    · exact absurd hz a1
  · have ha : appE (has, done, mark) d = some (nHas d, nDone done d, nMark d) := by unfold appE; simp only; rw [hy]; rfl
    rw [hpg] at hz hy2 J'
    rcases law with ⟨a1, a2, a3, a4, a5, a6, a7⟩ | ⟨a1, a2, G⟩ | ⟨a1, G⟩
    · have e1 : szE es + (addP D nJ (row (1 + szE es) (encD d))).2.2 = szE (es ++ [d]) := by
        have a2 : (addP D nJ (row (1 + szE es) (encD d))).2.2 = sz JE d := a2
        rw [a2]
        show szs JE es + sz JE d = szs JE (es ++ [d])
        simp [szs]
      rw [e1] at J'
      exact h1 _ ha sp' SD' h' ow' _ hsd' J' a4 a5 a6 a7 rfl S'
    · exact absurd hy2 a2
    · exact absurd hz a1
end
section
variable {h : Heap} {Q : AV → Heap → Prop}
theorem w36 {Z1 Z2 : Nat → Prop} {q1 q2 : Option SL} {l1 l2 : List ED} (E1 : EdW h Z1 q1 l1) (E2 : EdW h Z2 q2 l2) (hl : l1.length ≤ 1000) (hs : ∀ d ∈ l1, d.2.2.2.length ≤ 300) (hQ : ∀ v : Bool, (v = true ↔ l1 = l2) → Q (.bool v) h) : AC Tryz.prog 36 [.sl q1, .sl q2] h Q := ac36 (by
  have hlen := E1.len
  have hlen2 := E2.len
  obtain ⟨L1, g1, k1, f1, _⟩ := E1
  obtain ⟨L2, g2, k2, f2, _⟩ := E2
  unfold vc36
  rw [hlen, hlen2]
  refine vif_mk (fun g => ?_) fun g => ?_
  · have hne : l1.length ≠ l2.length := by
      have : ((l1.length : Nat) : Int) ≠ ((l2.length : Nat) : Int) := bne_iff_ne.1 g
      omega
    exact hQ false ⟨fun h => (by cases h), fun he => absurd (by rw [he]) hne⟩
  have heq : l1.length = l2.length := by
    have : ((l1.length : Nat) : Int) = ((l2.length : Nat) : Int) := bne_eq_false_iff_eq.1 g
    omega
  refine ⟨fun xs h9 => h9 = h ∧ ∃ i : Nat, xs = [.int .i64 i] ∧ i ≤ l1.length ∧ l1.take i = l2.take i, fun xs _ => match xs with | [.int _ i] => (l1.length - i).toNat | _ => 0, ⟨rfl, 0, rfl, by omega, rfl⟩, ?_⟩
  rintro i h9 ⟨rfl, i', hx, hi, ht⟩
  simp only [List.cons.injEq, AV.int.injEq, true_and, and_true] at hx
  subst hx
  refine vif_mk (fun h1 => ?_) (fun h1 => ?_)
  · replace h1 := of_decide_eq_true h1
    refine HasL.idx (E := edE) g1 (by omega) (by omega) fun pp x hx hc => ?_
    refine ⟨x.1, x.2.1, x.2.2.1, x.2.2.2, hc, ?_⟩
    refine HasL.idx (E := edE) g2 (by omega) (by omega) fun pp2 y hy hc2 => ?_
    refine ⟨y.1, y.2.1, y.2.2.1, y.2.2.2, hc2, ?_⟩
    have hd : i' < l1.length := by omega
    have hx' : L1[i']? = some x := by simpa using hx
    have hy' : L2[i']? = some y := by simpa using hy
    have hd1 : l1[i']? = some (l1[i']'hd) := List.getElem?_eq_getElem hd
    have hd2 : l2[i']? = some (l2[i']'(by omega)) := List.getElem?_eq_getElem _
    refine u115 (e := x) (e2 := y) (f1 _ _ _ hx' hd1).1 (f2 _ _ _ hy' hd2).1 (hs _ (List.getElem_mem _)) ⟨_, rfl, vif_mk (fun g => ?_) fun g => ?_⟩
    · have hne : l1[i']'hd ≠ l2[i']'(by omega) := by
        unfold sameD at g
        simpa using g
      exact hQ false ⟨fun h => (by cases h), fun he => absurd (by
        have h3 : l1[i']? = l2[i']? := by rw [he]
        rw [hd1, hd2] at h3
        exact Option.some.inj h3) hne⟩
    · have he : l1[i']'hd = l2[i']'(by omega) := by
        unfold sameD at g
        simpa using g
      rw [wrapK_i64 ⟨by omega, by omega⟩]
      refine ⟨trivial, ⟨rfl, i' + 1, by simp, by omega, ?_⟩, by simp only; omega⟩
      rw [List.take_add_one, List.take_add_one, ht, hd1, hd2, he]
  · replace h1 := of_decide_eq_false h1
    have : i' = l1.length := by omega
    subst this
    rw [List.take_length, heq, List.take_length] at ht
    exact hQ true ⟨fun _ => ht, fun _ => rfl⟩)
end
theorem Base.jstep {h0 h h' : Heap} {ow ow' : Roles} {jp : Nat} (B : Base h0 ow h) (S : JStep ow jp h ow' h') (hj : h0.length ≤ jp) : Base h0 ow' h' := by
  refine ⟨fun b hb => ?_, fun b X hX => ?_⟩
  · rcases S.own b hb with h1 | h1
    · exact B.new b h1
    · have := B.ext.len; omega
  · have hlt := lt_of_get hX
    refine S.keeps b X (fun hx => ?_) (B.ext _ _ hX)
    rcases hx with h1 | h1
    · have := B.new b h1; omega
    · omega
theorem Base.grow {h0 h h' : Heap} {ow : Roles} (B : Base h0 ow h) (x : Ext h h') : Base h0 ow h' := ⟨B.new, B.ext.trans x⟩
theorem Base.none {h0 h : Heap} {ow : Roles} (B : Base h0 ow h) (b : Nat) (hb : b < h0.length) : ow b = none := by
  cases hc : ow b with
  | none => rfl
  | some r => have := B.new b (by rw [hc]; simp); omega
theorem Idle_crash {D : DS} {es : List ED} {keep : List Int} (I : Idle JE D es) : Idle JE (D.crash keep) es := by
  obtain ⟨f, h1, h2, h3, h4, h5⟩ := I
  refine ⟨{ f with now := f.safe }, ?_, h2, h4, h4, rfl⟩
  show crash2 (crash1 D.files D.pends keep) = _
  unfold crash1
  rw [h5, h1]
  rfl
theorem mid_empty {n : Int} : Mid JE (emptyD n).files (emptyD n).pends (false, [], zeroD) :=
  ⟨fun f h => (by cases h), fun f h => (by cases h), fun _ => rfl, fun f h => (by cases h)⟩
theorem Idle.mid' {D : DS} {es : List ED} {s : ESt} (I : Idle JE D es) (hs : foldE es = some s) (hb : szE es ≤ 2000) : Mid JE D.files D.pends s := Idle.mid I hs hb
section
variable {h : Heap} {Q : AV → Heap → Prop}
theorem k49 {a b c : Int} {s : Bs} (hQ : ∀ (e : EV) h', Ext h h' → EdR h' e (a, b, c, [(s, 300, 2)]) → (∀ t, e.2.2.2 = some t → h.length ≤ t.b) → Q (evV e) h') : AC Tryz.prog 49 [.int .i64 a, .int .i64 b, .int .i64 c, .str s] h Q := ac49 (by
  unfold vc49
  simp only [PNew]
  exact hQ (a, b, c, some ⟨h.length, 0, 1, 1, 0⟩) _ (.app _ _) ⟨rfl, rfl, rfl, HasL.new (E := refE) (l := [(s, 300, 2)]) rfl rfl⟩ (fun t ht => by cases ht; exact Nat.le_refl _))
abbrev dA : ED := (1, 0, 1, [([115], 300, 2)])
abbrev dB : ED := (2, 0, 0, [([116], 300, 2)])
theorem app_A : appE (false, [], zeroD) dA = some (true, [], dA) := by kernel_rfl
theorem app_B : appE (true, [], dA) dB = some (false, [dB], zeroD) := by kernel_rfl
theorem sz_A : sz JE dA = 1 := by kernel_rfl
theorem sz_1 : szE [dA] = 1 := by kernel_rfl
theorem sz_B : sz JE dB = 1 := by kernel_rfl
theorem two_deeds {D : DS} {es : List ED} {d : ED} (I : Idle JE D es) (ho : D.off = false) (hl : D.left = 2) (h1 : sz JE d = 1) (hu : szE es + 1 ≤ D.limit) :
    (addP D nJ (row (1 + szE es) (encD d))).1 = 0 ∧ ((addP D nJ (row (1 + szE es) (encD d))).2.1.sync nJ).1 = 0 := by
  have hr : (row (1 + szE es) (encD d)).length = 1 := by
    have : (row (1 + szE es) (JE.enc d)).length = sz JE d := sz_row
    rw [h1] at this; exact this
  obtain ⟨p, hp⟩ := List.length_eq_one_iff.1 hr
  have h64 : p.length = 64 := (row_get _ _ _ (Nat.le_refl _) 0 p (by rw [hp]; rfl)).2
  obtain ⟨f, i1, i2, i3, i4, i5⟩ := I
  have hf : D.find nJ = some f := by unfold DS.find; rw [i1]; simp [i2]
  have hused : D.used = szE es := by
    unfold DS.used
    rw [i1]
    simp [i3, rows_len]
  have ha : D.append nJ p = (0, { D with left := 1, files := upF D.files { f with now := f.now ++ [p] }, pends := D.pends ++ [(f.b, f.now.length, p)] }) := by
    unfold DS.append
    rw [if_neg (by simp [h64]), if_neg (by simp [ho]), hf]
    simp only
    rw [if_neg (by omega)]
    unfold DS.deed
    rw [hl]
    simp
  rw [hp, addP_one, ha]
  have hf2 : DS.find ({ D with left := 1, files := upF D.files { f with now := f.now ++ [p] }, pends := D.pends ++ [(f.b, f.now.length, p)] } : DS) nJ = some { f with now := f.now ++ [p] } := by
    unfold DS.find
    simp only [i1, upF]
    simp [i2]
  have ho2 : ({ D with left := 1, files := upF D.files { f with now := f.now ++ [p] }, pends := D.pends ++ [(f.b, f.now.length, p)] } : DS).off = false := ho
  have hl2 : ({ D with left := 1, files := upF D.files { f with now := f.now ++ [p] }, pends := D.pends ++ [(f.b, f.now.length, p)] } : DS).left = 1 := rfl
  simp only [if_true]
  refine ⟨trivial, ?_⟩
  generalize ({ D with left := 1, files := upF D.files { f with now := f.now ++ [p] }, pends := D.pends ++ [(f.b, f.now.length, p)] } : DS) = D2 at *
  unfold DS.sync
  rw [if_neg (by simp [ho2]), hf2]
  simp only
  unfold DS.deed
  rw [hl2]
  simp
theorem s27 (L : Laid h) (hQ : ∀ h', Ext h h' → Q (.bool true) h') : AC Tryz.prog 27 [] h Q := ac27 (by
  unfold vc27
  have hl2 := L.len
  refine d26 (by omega) (by omega) fun ow R hnew => ⟨_, _, rfl, vif_mk (fun g => by simp at g) (fun _ => vif_mk (fun g => by cases g) (fun _ => ?_))⟩
  have x2 : Ext h ((h ++ [Blk.mp [] 0]) ++ [.cells [.map (some h.length), .sl none, .int .i64 50, .int .i64 (-1), .bool false] true]) := (Ext.app _ _).trans (.app _ _)
  have B2 : Base h ow ((h ++ [Blk.mp [] 0]) ++ [.cells [.map (some h.length), .sl none, .int .i64 50, .int .i64 (-1), .bool false] true]) := ⟨hnew, x2⟩
  generalize ((h ++ [Blk.mp [] 0]) ++ [.cells [.map (some h.length), .sl none, .int .i64 50, .int .i64 (-1), .bool false] true]) = h2 at *
  refine open_ok (s := (false, [], zeroD)) (L.ext x2) (B2.none 0 (by omega)) (B2.none 1 (by omega)) R rfl rfl mid_empty vld0 (by simp) (show 0 ≤ 2000 by omega) (show ((0 : Nat) + 0 : Nat) ≤ (50 : Int) by omega) (fun jp sp SD h6 ow6 D6 J6 I6 ho6 hl6 hf6 S6 hjp hsd => ⟨_, _, rfl, vif_mk (fun g => by cases g) (fun _ => ?_)⟩) (fun hne => absurd rfl hne)
  have B6 := B2.step S6
  have hjp0 : h.length ≤ jp := by have := x2.len; omega
  have hf6 := hf6 rfl
  refine k49 fun e1 h10 x10 R10 hr10 => ⟨_, _, _, _, rfl, ?_⟩
  have J10 := J6.ext x10
  have B10 := B6.grow x10
  refine commit_ok J10 (es := []) R10 (fun t ht => J6.nol (hr10 t ht)) rfl I6 ho6 rfl vld0 (by simp) rfl (by rw [show szE (edsE (false, [], zeroD)) = 0 from rfl]; omega) (by rw [hl6]; show ((0 + sz JE dA : Nat) : Int) ≤ 50; rw [sz_A]; omega) (fun hn => by rw [app_A] at hn; cases hn) (fun s' ha sp1 SD1 h16 ow16 D16 _ J16 I16 ho16 hl16 hf16 _ S16 => ⟨_, rfl, ?_⟩) (fun s' _ hne => absurd hf6 hne)
  rw [app_A] at ha
  cases ha
  have B16 := B10.jstep S16 hjp0
  refine d29 J16.dk (by omega) (by omega) fun h19 R19 S19 => ⟨_, rfl, ?_⟩
  have J19 := J16.step S19 R19
  have B19 := B16.step S19
  refine k49 fun e2 h22 x22 R22 hr22 => ⟨_, _, _, _, rfl, ?_⟩
  have J22 := J19.ext x22
  have B22 := B19.grow x22
  have VA : Vld true [] dA := vld0.step (d := dA) (by kernel_rfl)
  have hlim : (16 : Int) ≤ D16.limit := by rw [hl16, hl6]; show (16 : Int) ≤ 50; omega
  have td := two_deeds (D := { D16 with left := 2 }) (es := [dA]) (d := dB) I16 ho16 rfl sz_B (by show ((szE [dA] + 1 : Nat) : Int) ≤ D16.limit; rw [sz_1]; omega)
  refine commit_ok J22 (es := [dA]) R22 (fun t ht => J19.nol (hr22 t ht)) rfl I16 ho16 (by kernel_rfl) VA (by simp) rfl (by rw [show szE ([] ++ [dA]) = 1 by kernel_rfl]; omega) (by show ((szE [dA] + sz JE dB : Nat) : Int) ≤ D16.limit; rw [sz_B]; rw [sz_1]; omega) (fun hn => by rw [app_B] at hn; cases hn) (fun s' ha sp2 SD2 h28 ow28 D28 _ J28 I28 ho28 hl28 hf28 _ S28 => ⟨_, rfl, ?_⟩) (fun s' _ _ hbad => by rcases hbad with hb | hb; exact absurd td.1 hb; exact absurd td.2 hb)
  rw [app_B] at ha
  cases ha
  have B28 := B22.jstep S28 hjp0
  simp only [PNew]
  have x31 : Ext h28 (h28 ++ [Blk.cells [.int .i64 64] true]) := .app _ _
  have J31 := J28.ext x31
  have B31 := B28.grow x31
  refine d34 J31.dk (keep := [64]) (HasL.new (E := intE) (l := [64]) rfl rfl) (fun t ht => by cases ht; exact (J28.nol (Nat.le_refl _)).1) (by obtain ⟨f, _, _, _, _, h5⟩ := I28; rw [h5]; simp) fun h33 ow33 R33 S33 => ⟨rfl, ?_⟩
  have B33 := B31.step S33
  have I33 := Idle_crash (keep := [64]) I28
  have hs2 : foldE ([dA] ++ [dB]) = some (false, [dB], zeroD) := by kernel_rfl
  have hsz2 : szE ([dA] ++ [dB]) = 2 := by kernel_rfl
  have VB : Vld false [dB] zeroD := VA.step (d := dB) (by kernel_rfl)
  have hused : (D28.crash [64]).used = 2 := by rw [Idle.used I33]; exact hsz2
  have c31 := J31.jc
  have o33 : ow33 jp = none := (JStep.disk (jp := jp) S33).none J31.jl J31.jo
  have c33 := S33.keeps _ _ (fun hx => hx J31.jo) c31
  refine open_ok (s := (false, [dB], zeroD)) (L.ext B33.ext) (B33.none 0 (by omega)) (B33.none 1 (by omega)) R33 rfl rfl (Idle.mid' I33 hs2 (by rw [hsz2]; omega)) VB (by simp) (by rw [show szE (edsE (false, [dB], zeroD)) = 1 by kernel_rfl]; omega) (by
      rw [show szE (edsE (false, [dB], zeroD)) = 1 by kernel_rfl, hused]
      show ((2 + 1 : Nat) : Int) ≤ D28.limit
      rw [hl28]
      show ((2 + 1 : Nat) : Int) ≤ D16.limit
      omega) (fun jp2 sp3 SD3 h35 ow35 D35 J35 I35 ho35 hl35 hf35 S35 hjp2 hsd2 => ⟨_, _, rfl, ?_⟩) (fun hne => absurd rfl hne)
  have B35 := B33.step S35
  have c35 := S35.keeps _ _ (fun hx => hx o33) c33
  refine k28n ⟨_, _, rfl, ?_⟩
  refine vif_mk (fun _ => ?_) (fun g => by simp at g)
  refine vif_mk (fun _ => ?_) (fun g => by simp at g)
  refine vif_mk (fun _ => ?_) (fun g => by simp at g)
  refine vif_mk (fun _ => ?_) (fun g => by simp at g)
  refine vif_mk (fun _ => ?_) (fun g => by simp at g)
  refine vif_mk (fun _ => ?_) (fun g => by cases g)
  refine k35 J35 VB (by simp) fun p44 SD4 h43 x43 hs4 S43 => ⟨_, rfl, ?_⟩
  have J43 := J35.ext x43
  refine v46 S43.view ⟨_, rfl, vif_mk (fun _ => ?_) (fun g => by simp at g)⟩
  refine k47 J43 ⟨_, rfl, ?_⟩
  rw [show szE (edsE (false, [dB], zeroD)) = 1 by kernel_rfl]
  refine vif_mk (fun _ => ?_) (fun g => by simp at g)
  refine k48 J43 ⟨_, rfl, vif_mk (fun _ => ?_) (fun g => by simp at g)⟩
  refine ac47 ?_
  unfold vc47
  refine vif_mk (fun g => by cases g) (fun _ => ⟨((szE ([dA] ++ [dB]) : Nat) : Int), ?_, _, rfl, ?_⟩)
  · have := cells6 (x43 _ _ c35) (o := 2) (k := 1) (by simp)
    simpa using this
  · rw [hsz2]
    exact vif_mk (fun _ => hQ _ (B35.ext.trans x43)) (fun g => by simp at g))
end
theorem fold_snoc {es : List ED} {d : ED} {s s' : ESt} (h : foldE es = some s) (ha : appE s d = some s') : foldE (es ++ [d]) = some s' := by
  show fold (J := JE) _ (es ++ [d]) = _
  have h : fold (J := JE) (false, [], zeroD) es = some s := h
  rw [fold_append, h, Option.bind_some]
  show (appE s d).bind _ = _
  rw [ha]; rfl
theorem edits_sub {d : ED} {s s' : ESt} {es : List ED} (hs : (edsE s).Sublist es) (ha : appE s d = some s') : (edsE s').Sublist (es ++ [d]) := by
  obtain ⟨_, rfl⟩ := appE_some ha
  have hd : s.2.1.Sublist es := by
    refine List.Sublist.trans ?_ hs
    show s.2.1.Sublist (s.2.1 ++ _)
    exact List.sublist_append_left _ _
  show (nDone s.2.1 d ++ (if nHas d then [nMark d] else [])).Sublist _
  unfold nDone nHas nMark
  cases hk : (d.1 == 2) with
  | true =>
    simp only [Bool.not_true, Bool.false_eq_true, if_false, if_true, List.append_nil]
    exact hd.append (List.Sublist.refl _)
  | false =>
    simp only [Bool.not_false, if_true, Bool.false_eq_true, if_false]
    exact hd.append (List.Sublist.refl _)
theorem sub_szs {a b : List ED} (h : a.Sublist b) : szE a ≤ szE b := by
  show (a.map (sz JE)).sum ≤ (b.map (sz JE)).sum
  induction h with
  | slnil => exact Nat.le_refl _
  | cons x _ ih => rw [List.map_cons, List.sum_cons]; omega
  | cons_cons x _ ih => rw [List.map_cons, List.map_cons, List.sum_cons, List.sum_cons]; omega
theorem szE_snoc {es : List ED} {d : ED} : szE (es ++ [d]) = szE es + sz JE d := by
  show szs JE (es ++ [d]) = szs JE es + sz JE d
  simp [szs]
theorem sz_small {d : ED} (hc : chk d = true) (hr : d.2.2.2.length ≤ 20) : sz JE d ≤ 26 := by
  obtain ⟨h1, h2, h3, _, h5⟩ := chk_nums hc
  have a1 := numB_len h1.2
  have a2 := numB_len h2.2
  have a3 := numB_len h3.2
  have a4 := numB_len (n := d.2.2.2.length) (by simp only [M63]; omega)
  have a5 := encRs_len h5
  show max 1 (((encD d).length + 41) / 42) ≤ 26
  unfold encD
  simp only [List.length_append]
  omega
theorem app_len1 {d : ED} {s s' : ESt} (ha : appE s d = some s') : s'.2.1.length ≤ s.2.1.length + 1 := by
  obtain ⟨_, rfl⟩ := appE_some ha
  show (nDone s.2.1 d).length ≤ _
  unfold nDone
  split
  · simp
  · omega
theorem app_chk {d : ED} {s s' : ESt} (ha : appE s d = some s') : chk d = true := by
  have := (appE_some ha).1
  rw [Bool.and_eq_true] at this
  exact this.1
theorem app_vld {d : ED} {s s' : ESt} (V : Vld s.1 s.2.1 s.2.2) (ha : appE s d = some s') : Vld s'.1 s'.2.1 s'.2.2 := by
  obtain ⟨h, rfl⟩ := appE_some ha
  exact V.step h
structure JJ (h0 h : Heap) (ow : Roles) (jp dp sp : Nat) (SD : Nat → Prop) (D : DS) (s : ESt) (es : List ED) (n : Nat) : Prop where
  j : JH h ow jp dp sp SD D s.1 s.2.1 s.2.2 (szE es) false
  base : Base h0 ow h
  hjp : h0.length ≤ jp
  idle : Idle JE D es
  off : D.off = false
  lim : D.limit = 16384
  fold : foldE es = some s
  vld : Vld s.1 s.2.1 s.2.2
  sub : (edsE s).Sublist es
  size : szE es ≤ 26 * n
  cnt : s.2.1.length ≤ n
section
variable {h : Heap} {Q : AV → Heap → Prop}
theorem JJ.ext {h0 h h' : Heap} {ow : Roles} {jp dp sp : Nat} {SD : Nat → Prop} {D : DS} {s : ESt} {es : List ED} {n : Nat} (X : JJ h0 h ow jp dp sp SD D s es n) (x : Ext h h') : JJ h0 h' ow jp dp sp SD D s es n :=
  { X with j := X.j.ext x, base := X.base.grow x }
theorem JJ.more {h0 h : Heap} {ow : Roles} {jp dp sp : Nat} {SD : Nat → Prop} {D : DS} {s : ESt} {es : List ED} {n m : Nat} (X : JJ h0 h ow jp dp sp SD D s es n) (hn : n ≤ m) : JJ h0 h ow jp dp sp SD D s es m :=
  { X with size := by have := X.size; omega, cnt := by have := X.cnt; omega }
theorem JJ.commit {h0 h : Heap} {ow : Roles} {jp dp sp : Nat} {SD : Nat → Prop} {D : DS} {s : ESt} {es : List ED} {n : Nat} (X : JJ h0 h ow jp dp sp SD D s es n) (hn : n ≤ 45) {e : EV} {d : ED} (hR : EdR h e d) (hre : ∀ s, e.2.2.2 = some s → ow s.b = none ∧ s.b ≠ jp) (hr : d.2.2.2.length ≤ 20)
    (h1 : appE s d = none → ∀ (v : Int) h', v ≠ 0 → JJ h0 h' ow jp dp sp SD D s es n → JStep ow jp h ow h' → Q (.int .i64 v) h')
    (h2 : ∀ s', appE s d = some s' → ∀ sp' SD' h' ow' D', (∀ b, SD' b → h.length ≤ b) → JJ h0 h' ow' jp dp sp' SD' D' s' (es ++ [d]) (n + 1) → (D.left = -1 → D'.left = -1) → JStep ow jp h ow' h' → Q (.int .i64 0) h')
    (h3 : ∀ s', appE s d = some s' → D.left ≠ -1 → ∀ (v : Int) h' ow' D' m pg, v ≠ 0 → JH h' ow' jp dp sp SD D' s.1 s.2.1 s.2.2 pg true → Mid2 JE D'.files D'.pends es d m → D'.limit = 16384 → JStep ow jp h ow' h' → Q (.int .i64 v) h') :
    AC Tryz.prog 33 [.ptr (some ⟨jp, 0⟩), evV e] h Q := by
  have hs := X.size
  have hc := X.cnt
  have hsz : ∀ s', appE s d = some s' → sz JE d ≤ 26 := fun s' ha => sz_small (app_chk ha) hr
  by_cases hno : appE s d = none
  ·
    have hpn : D.pends.length ≤ 50000 := by
      obtain ⟨f, _, _, _, _, h5⟩ := X.idle
      rw [h5]; simp
    have hcg : (chk d && goes s.1 s.2.1 s.2.2 d) = false := by
      unfold appE at hno
      split at hno
      · cases hno
      · rename_i hc; simpa using hc
    refine k33 X.j hR hre rfl X.vld (by omega) hpn (by omega) (fun _ h' J' S' => ?_) (fun hy => by rw [hcg] at hy; cases hy) (fun hy => by rw [hcg] at hy; cases hy) (fun hy => by rw [hcg] at hy; cases hy)
    have hv : resV s.1 s.2.1 s.2.2 d ≠ 0 := by
      unfold resV
      cases hc : chk d with
      | false => simp
      | true =>
        rw [hc, Bool.true_and] at hcg
        rw [hcg]; simp
    exact h1 hno _ h' hv { X with j := J', base := X.base.jstep S' X.hjp } S'
  · obtain ⟨s', ha⟩ := Option.ne_none_iff_exists'.1 hno
    have h26 := hsz s' ha
    refine commit_ok X.j hR hre rfl X.idle X.off X.fold X.vld (by omega) rfl (by omega) (by rw [X.lim]; omega) (fun hn => absurd hn hno) (fun s2 ha2 sp' SD' h' ow' D' hsd' J' I' ho' hl' hf' _ S' => ?_) (fun s2 ha2 hne _ v h' ow' D' m pg hv J' M' hl' S' => h3 s2 ha2 hne v h' ow' D' m pg hv J' M' (hl'.trans X.lim) S')
    refine h2 s2 ha2 sp' SD' h' ow' D' hsd' ⟨J', X.base.jstep S' X.hjp, X.hjp, I', ho', hl'.trans X.lim, fold_snoc X.fold ha2, app_vld X.vld ha2, edits_sub X.sub ha2, ?_, ?_⟩ hf' S'
    · rw [szE_snoc]; omega
    · have : s2.2.1.length ≤ s.2.1.length + 1 := app_len1 ha2
      omega
theorem open_new {h0 h : Heap} {ow : Roles} {dp : Nat} (L : Laid h0) (B : Base h0 ow h) (R : DiskR h ow dp (emptyD 16384)) (hQ : ∀ jp sp SD h' ow' D', JJ h0 h' ow' jp dp sp SD D' (false, [], zeroD) [] 0 → D'.left = -1 → DStep ow h ow' h' → h.length ≤ jp → Q (.tup [.ptr (some ⟨jp, 0⟩), .int .i64 0]) h') :
    AC Tryz.prog 28 [.ptr (some ⟨dp, 0⟩)] h Q := by
  have hl2 := L.len
  refine open_ok (s := (false, [], zeroD)) (L.ext B.ext) (B.none 0 (by omega)) (B.none 1 (by omega)) R rfl rfl mid_empty vld0 (by simp) (show 0 ≤ 2000 by omega) (show ((0 : Nat) + 0 : Nat) ≤ (16384 : Int) by omega) (fun jp sp SD h6 ow6 D6 J6 I6 ho6 hl6 hf6 S6 hjp hsd => ?_) (fun hne => absurd rfl hne)
  exact hQ jp sp SD h6 ow6 D6 ⟨J6, B.step S6, by have := B.ext.len; omega, I6, ho6, hl6, rfl, vld0, List.Sublist.refl _, (show 0 ≤ 26 * 0 by omega), by simp⟩ (hf6 rfl) S6 hjp
end
theorem InL.edW {h : Heap} {q : Option SL} {l : List ED} (E : InL h q l) : EdW h (fun b => b < h.length) q l := by
  obtain ⟨L, g, hl, he⟩ := E
  exact ⟨L, g, hl, fun j e d h1 h2 => ⟨he j e d h1 h2, fun s hs => HasL.live (he j e d h1 h2).2.2.2 s hs⟩, fun s hs => HasL.live g s hs⟩
section
variable {h : Heap} {Q : AV → Heap → Prop}
theorem EdW.at {h0 h : Heap} {Z : Nat → Prop} {q : Option SL} {l : List ED} (W : EdW h Z q l) {i : Nat} (hi : i < l.length) {K : PA → Prop}
    (hK : ∀ (p : PA) (x : EV), cellsAt h p 4 = some [.int .i64 x.1, .int .i64 x.2.1, .int .i64 x.2.2.1, .sl x.2.2.2] → cellsAt h ⟨p.b, p.o + 3⟩ 1 = some [.sl x.2.2.2] → EdR h x (l[i]'hi) → (∀ s, x.2.2.2 = some s → Z s.b) → K p) : vIdx q (i : Int) 4 K := by
  obtain ⟨L, a, b, c, dq⟩ := W
  refine HasL.idx (E := edE) a (by omega) (by omega) fun p x hx hcx => ?_
  have hx : L[i]? = some x := by simpa using hx
  have he : l[i]? = some (l[i]'hi) := List.getElem?_eq_getElem hi
  obtain ⟨hR, hz⟩ := c i x _ hx he
  refine hK p x hcx ?_ hR hz
  have := cellsAt_sub (k := 3) (m := 1) hcx (by show 3 + 1 ≤ 4; omega)
  exact this
theorem s7 {q : Option SL} {n : Int} {l : List ED} (L : Laid h) (E : InL h q l) : AC Tryz.prog 7 [.sl q, .int .i64 n] h fun v _ => v = .bool true := ac7 (by
  unfold vc7
  have W0 := E.edW
  have hl2 := L.len
  refine d26 (by omega) (by omega) fun ow R hnew => ⟨_, _, rfl, ?_⟩
  have x4 : Ext h ((h ++ [Blk.mp [] 0]) ++ [.cells [.map (some h.length), .sl none, .int .i64 16384, .int .i64 (-1), .bool false] true]) := (Ext.app _ _).trans (.app _ _)
  have B4 : Base h ow ((h ++ [Blk.mp [] 0]) ++ [.cells [.map (some h.length), .sl none, .int .i64 16384, .int .i64 (-1), .bool false] true]) := ⟨hnew, x4⟩
  generalize ((h ++ [Blk.mp [] 0]) ++ [.cells [.map (some h.length), .sl none, .int .i64 16384, .int .i64 (-1), .bool false] true]) = h4 at *
  refine s27 (L.ext x4) fun h8 x8 => ⟨_, rfl, ?_⟩
  have B8 := B4.grow x8
  have R8 := R.grow x8
  have L8 := L.ext B8.ext
  refine vif_mk (fun g => by cases g) (fun _ => ?_)
  refine vif_mk (fun g => by simp at g) (fun _ => ?_)
  refine vif_mk (fun g => by cases g) (fun _ => ?_)
  rw [W0.len]
  refine vif_mk (fun _ => s27 L8 fun h' x' => ⟨_, rfl, rfl⟩) (fun g1 => ?_)
  refine vif_mk (fun _ => s27 L8 fun h' x' => ⟨_, rfl, rfl⟩) (fun g2 => ?_)
  refine vif_mk (fun _ => s27 L8 fun h' x' => ⟨_, rfl, rfl⟩) (fun g3 => ?_)
  replace g1 := of_decide_eq_false g1
  replace g2 := of_decide_eq_false g2
  replace g3 := of_decide_eq_false g3
  refine open_new L B8 R8 fun jp sp SD h29 ow29 D29 X29 hlf29 S29 hjp => ⟨_, _, rfl, vif_mk (fun g => by simp at g) (fun _ => vif_mk (fun g => by cases g) (fun _ => ?_))⟩
  refine ⟨fun xs h35 => ∃ (i : Nat) (ow' : Roles) (sp' : Nat) (SD' : Nat → Prop) (D' : DS) (s : ESt) (es : List ED), xs = [.int .i64 i] ∧ i ≤ l.length ∧ JJ h h35 ow' jp (h.length + 1) sp' SD' D' s es i ∧ D'.left = -1, fun xs _ => match xs with | [.int _ i] => (l.length - i).toNat | _ => 0,
    ⟨0, ow29, sp, SD, D29, _, [], rfl, by omega, X29, hlf29⟩, ?_⟩
  rintro n32 h35 ⟨i, ow1, sp1, SD1, D1, s, es, hx, hi, X, hlf⟩
  simp only [List.cons.injEq, AV.int.injEq, true_and, and_true] at hx
  subst hx
  refine vif_mk (fun g => ?_) (fun g => ?_)
  · replace g := of_decide_eq_true g
    have hil : i < l.length := by omega
    have W := W0.keeps (X := fun _ => False) (keeps_of_ext X.base.ext) (fun _ _ h => h)
    refine W.at (h0 := h) hil fun p x hcx hc3 hR hz => ⟨_, hc3, ?_⟩
    have hrl := hR.2.2.2.len
    rw [hrl, wrapK_i64 ⟨by omega, by omega⟩]
    refine vif_mk (fun g4 => ?_) (fun g4 => ?_)
    · replace g4 := of_decide_eq_true g4
      refine W.at (h0 := h) hil fun p2 x2 hcx2 _ hR2 hz2 => ⟨_, _, _, _, hcx2, ?_⟩
      refine X.commit (by omega) (e := x2) hR2 (fun t ht => ⟨X.base.none _ (hz2 t ht), by have := hz2 t ht; have := X.hjp; omega⟩) (by omega) (fun hno v h' hv X' S' => ⟨_, rfl, trivial, ⟨i + 1, ow1, sp1, SD1, D1, s, es, by simp, by omega, X'.more (by omega), hlf⟩, by simp only; omega⟩)
        (fun s' ha sp' SD' h' ow' D' _ X' hf' S' => ⟨_, rfl, trivial, ⟨i + 1, ow', sp', SD', D', s', _, by simp, by omega, X', hf' hlf⟩, by simp only; omega⟩)
        (fun s' ha hne => absurd hlf hne)
    · exact ⟨trivial, ⟨i + 1, ow1, sp1, SD1, D1, s, es, by simp, by omega, X.more (by omega), hlf⟩, by simp only; omega⟩
  replace g := of_decide_eq_false g
  have hi40 : i ≤ 40 := by omega
  have hcn := X.cnt
  have hsz := X.size
  have hckE : ∀ d ∈ edsE s, chk d = true := vld_chk X.vld
  have hrfE : ∀ d ∈ edsE s, d.2.2.2.length ≤ 300 := fun d hd => by
    have := hckE d hd
    simp only [chk, Bool.and_eq_true, decide_eq_true_eq] at this
    omega
  have helE : (edsE s).length ≤ 1000 := by
    show (s.2.1 ++ _ : List ED).length ≤ 1000
    rw [List.length_append]
    cases s.1 <;> simp <;> omega
  have hsub := sub_szs X.sub
  refine k35 X.j X.vld (by omega) fun p48 SD4 h47 x47 _ S47 => ⟨_, rfl, ?_⟩
  refine v31 S47.view (by omega) fun q51 h50 x50 E50 => ⟨q51, rfl, ?_⟩
  have X50 := X.ext (x47.trans x50)
  have W50 := E50.edW
  have hz50 : ∀ b, h47.length ≤ b ∧ b < h50.length → ow1 b = none ∧ b ≠ jp := fun b hb => X.j.nol (by have := x47.len; omega)
  refine k47 X50.j ⟨_, rfl, ?_⟩
  refine ⟨fun xs h58 => ∃ (k : Nat) (ow' : Roles) (D' : DS) (es' : List ED), xs = [.int .i64 k] ∧ (k : Int) ≤ n ∧ JH h58 ow' jp (h.length + 1) sp1 SD1 D' s.1 s.2.1 s.2.2 (szE es') false ∧ Base h ow' h58 ∧ Idle JE D' es' ∧ D'.off = false ∧ D'.limit = 16384 ∧ foldE es' = some s ∧ szE es' ≤ szE es ∧ D'.left = -1 ∧ JStep ow1 jp h50 ow' h58, fun xs _ => match xs with | [.int _ i] => (n - i).toNat | _ => 0,
    ⟨0, ow1, D1, es, rfl, by omega, X50.j, X50.base, X.idle, X.off, X.lim, X.fold, Nat.le_refl _, hlf, .refl _ _ _⟩, ?_⟩
  rintro n55 h58 ⟨k, ow2, D2, es2, hx, hk, J2, B2, I2, ho2, hlm2, hf2, hs2, hlf2, S2⟩
  simp only [List.cons.injEq, AV.int.injEq, true_and, and_true] at hx
  subst hx
  have hused := Idle.used I2
  have hpn2 : D2.pends.length ≤ 50000 := by
    obtain ⟨f, _, _, _, _, h5⟩ := I2
    rw [h5]; simp
  have M2 : Mid JE D2.files D2.pends s := Idle.mid' I2 hf2 (by omega)
  have hp2 : D2.pends = [] := by obtain ⟨f, _, _, _, _, h5⟩ := I2; exact h5
  have hused : D2.used = szE es2 := hused
  refine vif_mk (fun g4 => ?_) (fun g4 => ?_)
  · replace g4 := of_decide_eq_true g4
    refine k45 J2 rfl X.vld (by omega) hpn2 fun b h60 ow3 hfr J3 S3 => ⟨_, rfl, ?_⟩
    rcases lay_mid (J := JE) (es := edsE s) (b := b) J2.dk.ok M2 ho2 hp2 (fold_edits X.vld) (by show szE (edsE s) ≤ 2000; omega) (by rw [hused, hlm2]; show ((szE es2 + szE (edsE s) : Nat) : Int) ≤ 16384; omega) (szE es2) hfr with ⟨a1, a2, a3, a4, a5, a6⟩ | ⟨a1, G⟩
    · rw [show layP JE D2 b (szE es2) (edits s.1 s.2.1 s.2.2) = layP JE D2 b (szE es2) (edsE s) from rfl, a1] at J3 ⊢
      refine vif_mk (fun g => by cases g) (fun _ => ?_)
      rw [wrapK_i64 ⟨by omega, by omega⟩]
      rw [a3] at J3
      exact ⟨trivial, ⟨k + 1, ow3, _, edsE s, by simp, by omega, J3, B2.jstep S3 X.hjp, a2, a4, a5.trans hlm2, fold_edits X.vld, hsub, a6 hlf2, S2.trans S3 X50.j.jl⟩, by simp only; omega⟩
    · exact absurd hlf2 G.lft
  refine open_ok (s := s) (L.ext B2.ext) (B2.none 0 (by omega)) (B2.none 1 (by omega)) J2.dk ho2 hp2 M2 X.vld (by omega) (by omega) (by rw [hused, hlm2]; omega) (fun jp2 sp3 SD3 h63 ow3 D3 J3 I3 ho3 hl3 hf3 S3 hjp2 hsd2 => ⟨_, _, rfl, vif_mk (fun g => by simp at g) (fun _ => vif_mk (fun g => by cases g) (fun _ => ?_))⟩) (fun hne => absurd hlf2 hne)
  have Jo := J2.step S3 J3.dk
  have T63 := S2.trans (JStep.disk (jp := jp) S3) X50.j.jl
  have W63 := W50.keeps T63.keeps fun b hb hx => hx.elim (fun h1 => h1 (hz50 b hb).1) (hz50 b hb).2
  refine k35 Jo X.vld (by omega) fun p68 SD6 h67 x67 hs6 S67 => ⟨_, rfl, ?_⟩
  refine v46 S67.view ⟨_, rfl, ?_⟩
  refine k49 fun e h73 x73 R73 hr73 => ⟨_, _, _, _, rfl, ?_⟩
  have S73 := S67.keeps (X := fun _ => False) (keeps_of_ext x73) (fun _ _ h => h) x73.len
  have hlv : ∀ b, SD6 b → b < h67.length := by obtain ⟨_, _, _, _, _, _, _, _, _, _, _, _, _, h11⟩ := S67; exact h11
  have hgoes : (chk (2, (s.2.1.length : Int), 0, [([120], 300, 2)]) && goes s.1 s.2.1 s.2.2 (2, (s.2.1.length : Int), 0, [([120], 300, 2)])) = true := by
    have h1 : atOk (s.2.1.length : Int) 0 = true := by
      unfold atOk
      simp; omega
    have h2 : chk (2, (s.2.1.length : Int), 0, [([120], 300, 2)]) = true := by
      unfold chk
      simp only [h1]
      rfl
    rw [h2]
    unfold goes
    simp
  refine v32 S73 (e := e) R73 (fun t ht hb => by have := hr73 t ht; have := hlv _ hb; omega) (by omega) (fun hno => by rw [hgoes] at hno; cases hno) fun h79 SD7 _ S79 hsd7 K79 l79 => ⟨_, rfl, ?_⟩
  have x6379 : Ext h63 h79 := fun b B hB => by
    have hlt := lt_of_get hB
    exact K79 _ _ (fun hx => by have := hs6 b hx; omega) (x73 _ _ (x67 _ _ hB))
  have J79 := J3.ext x6379
  have Jo79 := Jo.ext x6379
  refine k35 J79 X.vld (by omega) fun p83 SD8 h82 x82 _ S82 => ⟨_, rfl, ?_⟩
  refine v31 S82.view (by omega) fun q86 h85 x85 E85 => ⟨q86, rfl, ?_⟩
  have x8285 := x82.trans x85
  have W85 := (W63.keeps (X := fun _ => False) (keeps_of_ext (x6379.trans x8285)) (fun _ _ h => h))
  refine w36 E85.edW W85 helE hrfE fun v hv => ⟨_, rfl, ?_⟩
  have hv1 : v = true := hv.2 rfl
  subst hv1
  refine vif_mk (fun _ => ?_) (fun g => by cases g)
  refine k47 (J79.ext x8285) ⟨_, rfl, vif_mk (fun _ => ?_) (fun g5 => ?_)⟩
  · refine k35 (Jo79.ext x8285) X.vld (by omega) fun p95 SD9 h94 x94 _ S94 => ⟨_, rfl, ?_⟩
    refine v31 S94.view (by omega) fun q98 h97 x97 E97 => ⟨q98, rfl, ?_⟩
    have W97 := W85.keeps (X := fun _ => False) (keeps_of_ext (x94.trans x97)) (fun _ _ h => h)
    refine w36 E97.edW W97 helE hrfE fun v hv => ⟨_, rfl, ?_⟩
    have hv1 : v = true := hv.2 rfl
    subst hv1
    refine vif_mk (fun _ => ?_) (fun g => by cases g)
    refine vif_mk (fun _ => ?_) (fun g => by simp at g)
    exact k48 (Jo79.ext (x8285.trans (x94.trans x97))) ⟨_, rfl, rfl⟩
  · replace g5 := of_decide_eq_false g5
    exfalso
    exact g5 (by omega))
end
end Go.Proofs.YtnglhicedhcpbaaGreatDoor


