import Derived.Test.YtnglhicedhcpbaaGreatDoorJG30
import Derived.Test.YtnglhicedhcpbaaGreatDoorJG31
namespace Go.Proofs.YtnglhicedhcpbaaGreatDoor
open Go.Ab
open Go.Num hiding Bs snoc_ind
open Go.Page hiding Bs get
open Go.Dsk hiding Bs
open Go.Man hiding Bs drop_cons
set_option linter.unusedVariables false
set_option linter.unusedSimpArgs false
theorem DiskR.ok {h : Heap} {ow : Roles} {dp : Nat} {D : DS} (R : DiskR h ow dp D) : DOk D := by
  obtain ⟨_, _, _, _, C⟩ := R
  exact ⟨C.names, C.blocks, C.pfile, C.safe⟩
abbrev foldE (es : List ED) : Option ESt := fold (J := JE) (false, [], zeroD) es
abbrev szE (es : List ED) : Nat := szs JE es
section
variable {h h' : Heap} {ow ow' ow2 : Roles} {jp dp sp : Nat} {SD : Nat → Prop} {D D' : DS} {has : Bool} {done : List ED} {mark : ED} {pages : Nat} {brk : Bool} {Q : AV → Heap → Prop} {s s' : ESt} {es : List ED}
theorem jsays_mid (M : Mid JE D.files D.pends s) : jsays D = s := says_mid M
theorem layP_pends {D : DS} {b pages : Nat} {es : List ED} (h : ∀ d ∈ es, chk d = true) : (layP JE D b pages es).2.1.pends.length ≤ D.pends.length + 340 * es.length := by
  have h1 : (clearP D).2.pends.length ≤ D.pends.length := by
    unfold clearP
    split
    · exact delete_pends
    · exact Nat.le_refl _
  have h2 := create_pends (D := (clearP D).2) (t := nN) (b := b)
  have h3 := (fillP_pends (es := es) (D := ((clearP D).2.create nN b).2) (a := 0) h).1
  have h4 := sync_pends (D := (fillP JE ((clearP D).2.create nN b).2 0 es).2.1) (t := nN)
  have h5 := rename_pends (D := ((fillP JE ((clearP D).2.create nN b).2 0 es).2.1.sync nN).2) (t := nN) (u := nJ)
  unfold layP
  split
  · show (clearP D).2.pends.length ≤ _; omega
  · split
    · show ((clearP D).2.create nN b).2.pends.length ≤ _; omega
    · split
      · omega
      · split
        · show ((fillP JE ((clearP D).2.create nN b).2 0 es).2.1.sync nN).2.pends.length ≤ _; omega
        · show (((fillP JE ((clearP D).2.create nN b).2 0 es).2.1.sync nN).2.rename nN nJ).2.pends.length ≤ _; omega
theorem open_ok (L : Laid h) (o0 : ow 0 = none) (o1 : ow 1 = none) (R : DiskR h ow dp D) (ho : D.off = false) (hp : D.pends = []) (M : Mid JE D.files D.pends s) (V : Vld s.1 s.2.1 s.2.2) (hd : s.2.1.length ≤ 100) (hsz : szE (edsE s) ≤ 2000) (hu : D.used + szE (edsE s) ≤ D.limit)
    (h1 : ∀ jp sp SD h' ow' D', JH h' ow' jp dp sp SD D' s.1 s.2.1 s.2.2 (szE (edsE s)) false → Idle JE D' (edsE s) → D'.off = false → D'.limit = D.limit → (D.left = -1 → D'.left = -1) → DStep ow h ow' h' → h.length ≤ jp → (∀ b, SD b → h.length ≤ b) → Q (.tup [.ptr (some ⟨jp, 0⟩), .int .i64 0]) h')
    (h0 : D.left ≠ -1 → ∀ (v : Int) h' ow' D', v ≠ 0 → DiskR h' ow' dp D' → Mid JE D'.files D'.pends s → D'.limit = D.limit → D'.pends.length ≤ 40000 → DStep ow h ow' h' → Q (.tup [.ptr none, .int .i64 v]) h') : AC Tryz.prog 28 [.ptr (some ⟨dp, 0⟩)] h Q := by
  have hj := jsays_mid M
  have hs := fold_edits V
  have hbig : (fileS D nJ).length ≤ 2300 := by
    unfold fileS
    cases hf : D.find nJ with
    | none => simp
    | some f =>
      have := M.big f (find_mem hf).1
      simp only [List.length_map]; omega
  have hel : (edsE s).length ≤ 101 := by
    show (s.2.1 ++ _ : List ED).length ≤ 101
    rw [List.length_append]
    cases s.1 <;> simp <;> omega
  have hcp : (cleanP D (docNames (namesOf (edsE s)))).2.2.pends.length ≤ 0 := by
    have := cleanL_pends (keep := keepF' (docNames (namesOf (edsE s)))) (l := D.namesL) (D := D) (n := 0)
    rw [hp] at this; exact this
  have hlp : ∀ b, (layP JE (cleanP D (docNames (namesOf (edsE s)))).2.2 b 0 (edsE s)).2.1.pends.length ≤ 40000 := fun b => by
    refine Nat.le_trans (layP_pends (D := (cleanP D (docNames (namesOf (edsE s)))).2.2) (b := b) (pages := 0) (es := edsE s) (vld_chk V)) ?_
    have h2 : 340 * (edsE s).length ≤ 34340 := by omega
    exact Nat.le_trans (Nat.add_le_add hcp h2) (by omega)
  have law := fun b (hb : FreshO D b) => open_mid (J := JE) (b := b) (es := edsE s) (docNames (namesOf (edsE s))) R.ok M ho hp hs hsz hu (by
    unfold FreshO FreshB at hb
    rw [hj] at hb
    exact hb)
  refine k28 L o0 o1 R ho hbig (by rw [hj]; exact hd) (by rw [hp]; simp) (fun b h' ow' hb hne R' S' => ?_) (fun b jp sp SD h' ow' hb he J' S' hjp hsd V' => ?_)
  · unfold openP at hne R' ⊢
    rw [hj] at hne R' ⊢
    rcases law b hb with ⟨a1, a2, _⟩ | ⟨a1, a2, G⟩ | ⟨a1, G⟩
    · rw [if_neg (by omega)] at hne
      exact absurd a2 hne
    · rw [if_neg (by omega)] at hne R' ⊢
      exact h0 G.lft _ h' ow' _ hne R' G.mid (layP_limit.trans cleanP_limit) (hlp b) S'
    · rw [if_pos a1] at hne R' ⊢
      exact h0 G.lft _ h' ow' _ hne R' G.mid cleanP_limit (Nat.le_trans hcp (by omega)) S'
  · rw [hj] at J'
    unfold openP at he J'
    rw [hj] at he J'
    rcases law b hb with ⟨a1, a2, a3, a4, a5, a6, a7⟩ | ⟨a1, a2, G⟩ | ⟨a1, G⟩
    · rw [if_neg (by omega)] at he J'
      rw [a4] at J'
      exact h1 jp sp SD h' ow' _ J' a3 a5 a6 a7 S' hjp hsd
    · rw [if_neg (by omega)] at he
      exact absurd he a2
    · rw [if_pos a1] at he
      exact absurd he a1
variable (J : JH h ow jp dp sp SD D has done mark pages brk)
include J
theorem commit_ok {e : EV} {d : ED} (hR : EdR h e d) (hre : ∀ s, e.2.2.2 = some s → ow s.b = none ∧ s.b ≠ jp) (hb : brk = false) (I : Idle JE D es) (ho : D.off = false) (hf : foldE es = some (has, done, mark)) (V : Vld has done mark) (hd : done.length ≤ 99) (hpg : pages = szE es) (hpg2 : pages ≤ 100000) (hu : szE es + sz JE d ≤ D.limit)
    (h0 : appE (has, done, mark) d = none → ∀ (v : Int) h', v ≠ 0 → JH h' ow jp dp sp SD D has done mark pages false → JStep ow jp h ow h' → Q (.int .i64 v) h')
    (h1 : ∀ s', appE (has, done, mark) d = some s' → ∀ sp' SD' h' ow' D', (∀ b, SD' b → h.length ≤ b) → JH h' ow' jp dp sp' SD' D' s'.1 s'.2.1 s'.2.2 (szE (es ++ [d])) false → Idle JE D' (es ++ [d]) → D'.off = false → D'.limit = D.limit → (D.left = -1 → D'.left = -1) → D'.left = ((addP D nJ (row (1 + szE es) (encD d))).2.1.sync nJ).2.left → JStep ow jp h ow' h' → Q (.int .i64 0) h')
    (h2 : ∀ s', appE (has, done, mark) d = some s' → D.left ≠ -1 → ((addP D nJ (row (1 + szE es) (encD d))).1 ≠ 0 ∨ ((addP D nJ (row (1 + szE es) (encD d))).2.1.sync nJ).1 ≠ 0) → ∀ (v : Int) h' ow' D' m pg, v ≠ 0 → JH h' ow' jp dp sp SD D' has done mark pg true → Mid2 JE D'.files D'.pends es d m → D'.limit = D.limit → JStep ow jp h ow' h' → Q (.int .i64 v) h') :
    AC Tryz.prog 33 [.ptr (some ⟨jp, 0⟩), evV e] h Q := by
  have law := commit_idle (J := JE) (e := d) J.dk.ok I ho hu
  have hpn : D.pends.length ≤ 50000 := by
    obtain ⟨f, _, _, _, _, h5⟩ := I
    rw [h5]; simp
  refine k33 J hR hre hb V hd hpn (by omega) (fun hno h' J' S' => ?_) (fun hy hz h' ow' J' S' => ?_) (fun hy hz hy2 h' ow' J' S' => ?_) (fun hy hz hy2 sp' SD' h' ow' hsd' J' S' => ?_)
  · have hv : resV has done mark d ≠ 0 := by
      unfold resV
      cases hc : chk d with
      | false => simp
      | true =>
        rw [hc, Bool.true_and] at hno
        rw [hno]; simp
    exact h0 (by unfold appE; rw [hno]; rfl) _ h' hv J' S'
  · have ha : appE (has, done, mark) d = some (nHas d, nDone done d, nMark d) := by unfold appE; simp only; rw [hy]; rfl
    rw [hpg] at hz J' ⊢
    rcases law with ⟨a1, _⟩ | ⟨a1, _⟩ | ⟨a1, G⟩
    · exact absurd a1 hz
    · exact absurd a1 hz
    · obtain ⟨m, hm⟩ := G.mid
      exact h2 _ ha G.lft (.inl hz) _ h' ow' _ m _ hz J' hm addP_limit S'
  · have ha : appE (has, done, mark) d = some (nHas d, nDone done d, nMark d) := by unfold appE; simp only; rw [hy]; rfl
    rw [hpg] at hz hy2 J' ⊢
    rcases law with ⟨a1, a2, a3, _⟩ | ⟨a1, a2, G⟩ | ⟨a1, G⟩
    · exact absurd a3 hy2
    · obtain ⟨m, hm⟩ := G.mid
      exact h2 _ ha G.lft (.inr hy2) _ h' ow' _ m _ hy2 J' hm (sync_limit.trans addP_limit) S'
    · exact absurd hz a1
  · have ha : appE (has, done, mark) d = some (nHas d, nDone done d, nMark d) := by unfold appE; simp only; rw [hy]; rfl
    rw [hpg] at hz hy2 J'
    rcases law with ⟨a1, a2, a3, a4, a5, a6, a7⟩ | ⟨a1, a2, G⟩ | ⟨a1, G⟩
    · have e1 : szE es + (addP D nJ (row (1 + szE es) (encD d))).2.2 = szE (es ++ [d]) := by
        have a2 : (addP D nJ (row (1 + szE es) (encD d))).2.2 = sz JE d := a2
        rw [a2]
        show szs JE es + sz JE d = szs JE (es ++ [d])
        simp [szs]
      rw [e1] at J'
      exact h1 _ ha sp' SD' h' ow' _ hsd' J' a4 a5 a6 a7 rfl S'
    · exact absurd hy2 a2
    · exact absurd hz a1
end
section
variable {h : Heap} {Q : AV → Heap → Prop}
theorem w36 {Z1 Z2 : Nat → Prop} {q1 q2 : Option SL} {l1 l2 : List ED} (E1 : EdW h Z1 q1 l1) (E2 : EdW h Z2 q2 l2) (hl : l1.length ≤ 1000) (hs : ∀ d ∈ l1, d.2.2.2.length ≤ 300) (hQ : ∀ v : Bool, (v = true ↔ l1 = l2) → Q (.bool v) h) : AC Tryz.prog 36 [.sl q1, .sl q2] h Q := ac36 (by
  have hlen := E1.len
  have hlen2 := E2.len
  obtain ⟨L1, g1, k1, f1, _⟩ := E1
  obtain ⟨L2, g2, k2, f2, _⟩ := E2
  unfold vc36
  rw [hlen, hlen2]
  refine vif_mk (fun g => ?_) fun g => ?_
  · have hne : l1.length ≠ l2.length := by
      have : ((l1.length : Nat) : Int) ≠ ((l2.length : Nat) : Int) := bne_iff_ne.1 g
      omega
    exact hQ false ⟨fun h => (by cases h), fun he => absurd (by rw [he]) hne⟩
  have heq : l1.length = l2.length := by
    have : ((l1.length : Nat) : Int) = ((l2.length : Nat) : Int) := bne_eq_false_iff_eq.1 g
    omega
  refine ⟨fun xs h9 => h9 = h ∧ ∃ i : Nat, xs = [.int .i64 i] ∧ i ≤ l1.length ∧ l1.take i = l2.take i, fun xs _ => match xs with | [.int _ i] => (l1.length - i).toNat | _ => 0, ⟨rfl, 0, rfl, by omega, rfl⟩, ?_⟩
  rintro i h9 ⟨rfl, i', hx, hi, ht⟩
  simp only [List.cons.injEq, AV.int.injEq, true_and, and_true] at hx
  subst hx
  refine vif_mk (fun h1 => ?_) (fun h1 => ?_)
  · replace h1 := of_decide_eq_true h1
    refine HasL.idx (E := edE) g1 (by omega) (by omega) fun pp x hx hc => ?_
    refine ⟨x.1, x.2.1, x.2.2.1, x.2.2.2, hc, ?_⟩
    refine HasL.idx (E := edE) g2 (by omega) (by omega) fun pp2 y hy hc2 => ?_
    refine ⟨y.1, y.2.1, y.2.2.1, y.2.2.2, hc2, ?_⟩
    have hd : i' < l1.length := by omega
    have hx' : L1[i']? = some x := by simpa using hx
    have hy' : L2[i']? = some y := by simpa using hy
    have hd1 : l1[i']? = some (l1[i']'hd) := List.getElem?_eq_getElem hd
    have hd2 : l2[i']? = some (l2[i']'(by omega)) := List.getElem?_eq_getElem _
    refine u115 (e := x) (e2 := y) (f1 _ _ _ hx' hd1).1 (f2 _ _ _ hy' hd2).1 (hs _ (List.getElem_mem _)) ⟨_, rfl, vif_mk (fun g => ?_) fun g => ?_⟩
    · have hne : l1[i']'hd ≠ l2[i']'(by omega) := by
        unfold sameD at g
        simpa using g
      exact hQ false ⟨fun h => (by cases h), fun he => absurd (by
        have h3 : l1[i']? = l2[i']? := by rw [he]
        rw [hd1, hd2] at h3
        exact Option.some.inj h3) hne⟩
    · have he : l1[i']'hd = l2[i']'(by omega) := by
        unfold sameD at g
        simpa using g
      rw [wrapK_i64 ⟨by omega, by omega⟩]
      refine ⟨trivial, ⟨rfl, i' + 1, by simp, by omega, ?_⟩, by simp only; omega⟩
      rw [List.take_add_one, List.take_add_one, ht, hd1, hd2, he]
  · replace h1 := of_decide_eq_false h1
    have : i' = l1.length := by omega
    subst this
    rw [List.take_length, heq, List.take_length] at ht
    exact hQ true ⟨fun _ => ht, fun _ => rfl⟩)
end
theorem Base.jstep {h0 h h' : Heap} {ow ow' : Roles} {jp : Nat} (B : Base h0 ow h) (S : JStep ow jp h ow' h') (hj : h0.length ≤ jp) : Base h0 ow' h' := by
  refine ⟨fun b hb => ?_, fun b X hX => ?_⟩
  · rcases S.own b hb with h1 | h1
    · exact B.new b h1
    · have := B.ext.len; omega
  · have hlt := lt_of_get hX
    refine S.keeps b X (fun hx => ?_) (B.ext _ _ hX)
    rcases hx with h1 | h1
    · have := B.new b h1; omega
    · omega
theorem Base.grow {h0 h h' : Heap} {ow : Roles} (B : Base h0 ow h) (x : Ext h h') : Base h0 ow h' := ⟨B.new, B.ext.trans x⟩
theorem Base.none {h0 h : Heap} {ow : Roles} (B : Base h0 ow h) (b : Nat) (hb : b < h0.length) : ow b = none := by
  cases hc : ow b with
  | none => rfl
  | some r => have := B.new b (by rw [hc]; simp); omega
theorem Idle_crash {D : DS} {es : List ED} {keep : List Int} (I : Idle JE D es) : Idle JE (D.crash keep) es := by
  obtain ⟨f, h1, h2, h3, h4, h5⟩ := I
  refine ⟨{ f with now := f.safe }, ?_, h2, h4, h4, rfl⟩
  show crash2 (crash1 D.files D.pends keep) = _
  unfold crash1
  rw [h5, h1]
  rfl
theorem mid_empty {n : Int} : Mid JE (emptyD n).files (emptyD n).pends (false, [], zeroD) :=
  ⟨fun f h => (by cases h), fun f h => (by cases h), fun _ => rfl, fun f h => (by cases h)⟩
theorem Idle.mid' {D : DS} {es : List ED} {s : ESt} (I : Idle JE D es) (hs : foldE es = some s) (hb : szE es ≤ 2000) : Mid JE D.files D.pends s := Idle.mid I hs hb
section
variable {h : Heap} {Q : AV → Heap → Prop}
theorem k49 {a b c : Int} {s : Bs} (hQ : ∀ (e : EV) h', Ext h h' → EdR h' e (a, b, c, [(s, 300, 2)]) → (∀ t, e.2.2.2 = some t → h.length ≤ t.b) → Q (evV e) h') : AC Tryz.prog 49 [.int .i64 a, .int .i64 b, .int .i64 c, .str s] h Q := ac49 (by
  unfold vc49
  simp only [PNew]
  exact hQ (a, b, c, some ⟨h.length, 0, 1, 1, 0⟩) _ (.app _ _) ⟨rfl, rfl, rfl, HasL.new (E := refE) (l := [(s, 300, 2)]) rfl rfl⟩ (fun t ht => by cases ht; exact Nat.le_refl _))
abbrev dA : ED := (1, 0, 1, [([115], 300, 2)])
abbrev dB : ED := (2, 0, 0, [([116], 300, 2)])
theorem app_A : appE (false, [], zeroD) dA = some (true, [], dA) := by kernel_rfl
theorem app_B : appE (true, [], dA) dB = some (false, [dB], zeroD) := by kernel_rfl
theorem sz_A : sz JE dA = 1 := by kernel_rfl
theorem sz_1 : szE [dA] = 1 := by kernel_rfl
theorem sz_B : sz JE dB = 1 := by kernel_rfl
theorem two_deeds {D : DS} {es : List ED} {d : ED} (I : Idle JE D es) (ho : D.off = false) (hl : D.left = 2) (h1 : sz JE d = 1) (hu : szE es + 1 ≤ D.limit) :
    (addP D nJ (row (1 + szE es) (encD d))).1 = 0 ∧ ((addP D nJ (row (1 + szE es) (encD d))).2.1.sync nJ).1 = 0 := by
  have hr : (row (1 + szE es) (encD d)).length = 1 := by
    have : (row (1 + szE es) (JE.enc d)).length = sz JE d := sz_row
    rw [h1] at this; exact this
  obtain ⟨p, hp⟩ := List.length_eq_one_iff.1 hr
  have h64 : p.length = 64 := (row_get _ _ _ (Nat.le_refl _) 0 p (by rw [hp]; rfl)).2
  obtain ⟨f, i1, i2, i3, i4, i5⟩ := I
  have hf : D.find nJ = some f := by unfold DS.find; rw [i1]; simp [i2]
  have hused : D.used = szE es := by
    unfold DS.used
    rw [i1]
    simp [i3, rows_len]
  have ha : D.append nJ p = (0, { D with left := 1, files := upF D.files { f with now := f.now ++ [p] }, pends := D.pends ++ [(f.b, f.now.length, p)] }) := by
    unfold DS.append
    rw [if_neg (by simp [h64]), if_neg (by simp [ho]), hf]
    simp only
    rw [if_neg (by omega)]
    unfold DS.deed
    rw [hl]
    simp
  rw [hp, addP_one, ha]
  have hf2 : DS.find ({ D with left := 1, files := upF D.files { f with now := f.now ++ [p] }, pends := D.pends ++ [(f.b, f.now.length, p)] } : DS) nJ = some { f with now := f.now ++ [p] } := by
    unfold DS.find
    simp only [i1, upF]
    simp [i2]
  have ho2 : ({ D with left := 1, files := upF D.files { f with now := f.now ++ [p] }, pends := D.pends ++ [(f.b, f.now.length, p)] } : DS).off = false := ho
  have hl2 : ({ D with left := 1, files := upF D.files { f with now := f.now ++ [p] }, pends := D.pends ++ [(f.b, f.now.length, p)] } : DS).left = 1 := rfl
  simp only [if_true]
  refine ⟨trivial, ?_⟩
  generalize ({ D with left := 1, files := upF D.files { f with now := f.now ++ [p] }, pends := D.pends ++ [(f.b, f.now.length, p)] } : DS) = D2 at *
  unfold DS.sync
  rw [if_neg (by simp [ho2]), hf2]
  simp only
  unfold DS.deed
  rw [hl2]
  simp
theorem s27 (L : Laid h) (hQ : ∀ h', Ext h h' → Q (.bool true) h') : AC Tryz.prog 27 [] h Q := ac27 (by
  unfold vc27
  have hl2 := L.len
  refine d26 (by omega) (by omega) fun ow R hnew => ⟨_, _, rfl, vif_mk (fun g => by simp at g) (fun _ => vif_mk (fun g => by cases g) (fun _ => ?_))⟩
  have x2 : Ext h ((h ++ [Blk.mp [] 0]) ++ [.cells [.map (some h.length), .sl none, .int .i64 50, .int .i64 (-1), .bool false] true]) := (Ext.app _ _).trans (.app _ _)
  have B2 : Base h ow ((h ++ [Blk.mp [] 0]) ++ [.cells [.map (some h.length), .sl none, .int .i64 50, .int .i64 (-1), .bool false] true]) := ⟨hnew, x2⟩
  generalize ((h ++ [Blk.mp [] 0]) ++ [.cells [.map (some h.length), .sl none, .int .i64 50, .int .i64 (-1), .bool false] true]) = h2 at *
  refine open_ok (s := (false, [], zeroD)) (L.ext x2) (B2.none 0 (by omega)) (B2.none 1 (by omega)) R rfl rfl mid_empty vld0 (by simp) (show 0 ≤ 2000 by omega) (show ((0 : Nat) + 0 : Nat) ≤ (50 : Int) by omega) (fun jp sp SD h6 ow6 D6 J6 I6 ho6 hl6 hf6 S6 hjp hsd => ⟨_, _, rfl, vif_mk (fun g => by cases g) (fun _ => ?_)⟩) (fun hne => absurd rfl hne)
  have B6 := B2.step S6
  have hjp0 : h.length ≤ jp := by have := x2.len; omega
  have hf6 := hf6 rfl
  refine k49 fun e1 h10 x10 R10 hr10 => ⟨_, _, _, _, rfl, ?_⟩
  have J10 := J6.ext x10
  have B10 := B6.grow x10
  refine commit_ok J10 (es := []) R10 (fun t ht => J6.nol (hr10 t ht)) rfl I6 ho6 rfl vld0 (by simp) rfl (by rw [show szE (edsE (false, [], zeroD)) = 0 from rfl]; omega) (by rw [hl6]; show ((0 + sz JE dA : Nat) : Int) ≤ 50; rw [sz_A]; omega) (fun hn => by rw [app_A] at hn; cases hn) (fun s' ha sp1 SD1 h16 ow16 D16 _ J16 I16 ho16 hl16 hf16 _ S16 => ⟨_, rfl, ?_⟩) (fun s' _ hne => absurd hf6 hne)
  rw [app_A] at ha
  cases ha
  have B16 := B10.jstep S16 hjp0
  refine d29 J16.dk (by omega) (by omega) fun h19 R19 S19 => ⟨_, rfl, ?_⟩
  have J19 := J16.step S19 R19
  have B19 := B16.step S19
  refine k49 fun e2 h22 x22 R22 hr22 => ⟨_, _, _, _, rfl, ?_⟩
  have J22 := J19.ext x22
  have B22 := B19.grow x22
  have VA : Vld true [] dA := vld0.step (d := dA) (by kernel_rfl)
  have hlim : (16 : Int) ≤ D16.limit := by rw [hl16, hl6]; show (16 : Int) ≤ 50; omega
  have td := two_deeds (D := { D16 with left := 2 }) (es := [dA]) (d := dB) I16 ho16 rfl sz_B (by show ((szE [dA] + 1 : Nat) : Int) ≤ D16.limit; rw [sz_1]; omega)
  refine commit_ok J22 (es := [dA]) R22 (fun t ht => J19.nol (hr22 t ht)) rfl I16 ho16 (by kernel_rfl) VA (by simp) rfl (by rw [show szE ([] ++ [dA]) = 1 by kernel_rfl]; omega) (by show ((szE [dA] + sz JE dB : Nat) : Int) ≤ D16.limit; rw [sz_B]; rw [sz_1]; omega) (fun hn => by rw [app_B] at hn; cases hn) (fun s' ha sp2 SD2 h28 ow28 D28 _ J28 I28 ho28 hl28 hf28 _ S28 => ⟨_, rfl, ?_⟩) (fun s' _ _ hbad => by rcases hbad with hb | hb; exact absurd td.1 hb; exact absurd td.2 hb)
  rw [app_B] at ha
  cases ha
  have B28 := B22.jstep S28 hjp0
  simp only [PNew]
  have x31 : Ext h28 (h28 ++ [Blk.cells [.int .i64 64] true]) := .app _ _
  have J31 := J28.ext x31
  have B31 := B28.grow x31
  refine d34 J31.dk (keep := [64]) (HasL.new (E := intE) (l := [64]) rfl rfl) (fun t ht => by cases ht; exact (J28.nol (Nat.le_refl _)).1) (by obtain ⟨f, _, _, _, _, h5⟩ := I28; rw [h5]; simp) fun h33 ow33 R33 S33 => ⟨rfl, ?_⟩
  have B33 := B31.step S33
  have I33 := Idle_crash (keep := [64]) I28
  have hs2 : foldE ([dA] ++ [dB]) = some (false, [dB], zeroD) := by kernel_rfl
  have hsz2 : szE ([dA] ++ [dB]) = 2 := by kernel_rfl
  have VB : Vld false [dB] zeroD := VA.step (d := dB) (by kernel_rfl)
  have hused : (D28.crash [64]).used = 2 := by rw [Idle.used I33]; exact hsz2
  have c31 := J31.jc
  have o33 : ow33 jp = none := (JStep.disk (jp := jp) S33).none J31.jl J31.jo
  have c33 := S33.keeps _ _ (fun hx => hx J31.jo) c31
  refine open_ok (s := (false, [dB], zeroD)) (L.ext B33.ext) (B33.none 0 (by omega)) (B33.none 1 (by omega)) R33 rfl rfl (Idle.mid' I33 hs2 (by rw [hsz2]; omega)) VB (by simp) (by rw [show szE (edsE (false, [dB], zeroD)) = 1 by kernel_rfl]; omega) (by
      rw [show szE (edsE (false, [dB], zeroD)) = 1 by kernel_rfl, hused]
      show ((2 + 1 : Nat) : Int) ≤ D28.limit
      rw [hl28]
      show ((2 + 1 : Nat) : Int) ≤ D16.limit
      omega) (fun jp2 sp3 SD3 h35 ow35 D35 J35 I35 ho35 hl35 hf35 S35 hjp2 hsd2 => ⟨_, _, rfl, ?_⟩) (fun hne => absurd rfl hne)
  have B35 := B33.step S35
  have c35 := S35.keeps _ _ (fun hx => hx o33) c33
  refine k28n ⟨_, _, rfl, ?_⟩
  refine vif_mk (fun _ => ?_) (fun g => by simp at g)
  refine vif_mk (fun _ => ?_) (fun g => by simp at g)
  refine vif_mk (fun _ => ?_) (fun g => by simp at g)
  refine vif_mk (fun _ => ?_) (fun g => by simp at g)
  refine vif_mk (fun _ => ?_) (fun g => by simp at g)
  refine vif_mk (fun _ => ?_) (fun g => by cases g)
  refine k35 J35 VB (by simp) fun p44 SD4 h43 x43 hs4 S43 => ⟨_, rfl, ?_⟩
  have J43 := J35.ext x43
  refine v46 S43.view ⟨_, rfl, vif_mk (fun _ => ?_) (fun g => by simp at g)⟩
  refine k47 J43 ⟨_, rfl, ?_⟩
  rw [show szE (edsE (false, [dB], zeroD)) = 1 by kernel_rfl]
  refine vif_mk (fun _ => ?_) (fun g => by simp at g)
  refine k48 J43 ⟨_, rfl, vif_mk (fun _ => ?_) (fun g => by simp at g)⟩
  refine ac47 ?_
  unfold vc47
  refine vif_mk (fun g => by cases g) (fun _ => ⟨((szE ([dA] ++ [dB]) : Nat) : Int), ?_, _, rfl, ?_⟩)
  · have := cells6 (x43 _ _ c35) (o := 2) (k := 1) (by simp)
    simpa using this
  · rw [hsz2]
    exact vif_mk (fun _ => hQ _ (B35.ext.trans x43)) (fun g => by simp at g))
end
theorem fold_snoc {es : List ED} {d : ED} {s s' : ESt} (h : foldE es = some s) (ha : appE s d = some s') : foldE (es ++ [d]) = some s' := by
  show fold (J := JE) _ (es ++ [d]) = _
  have h : fold (J := JE) (false, [], zeroD) es = some s := h
  rw [fold_append, h, Option.bind_some]
  show (appE s d).bind _ = _
  rw [ha]; rfl
theorem edits_sub {d : ED} {s s' : ESt} {es : List ED} (hs : (edsE s).Sublist es) (ha : appE s d = some s') : (edsE s').Sublist (es ++ [d]) := by
  obtain ⟨_, rfl⟩ := appE_some ha
  have hd : s.2.1.Sublist es := by
    refine List.Sublist.trans ?_ hs
    show s.2.1.Sublist (s.2.1 ++ _)
    exact List.sublist_append_left _ _
  show (nDone s.2.1 d ++ (if nHas d then [nMark d] else [])).Sublist _
  unfold nDone nHas nMark
  cases hk : (d.1 == 2) with
  | true =>
    simp only [Bool.not_true, Bool.false_eq_true, if_false, if_true, List.append_nil]
    exact hd.append (List.Sublist.refl _)
  | false =>
    simp only [Bool.not_false, if_true, Bool.false_eq_true, if_false]
    exact hd.append (List.Sublist.refl _)
theorem sub_szs {a b : List ED} (h : a.Sublist b) : szE a ≤ szE b := by
  show (a.map (sz JE)).sum ≤ (b.map (sz JE)).sum
  induction h with
  | slnil => exact Nat.le_refl _
  | cons x _ ih => rw [List.map_cons, List.sum_cons]; omega
  | cons_cons x _ ih => rw [List.map_cons, List.map_cons, List.sum_cons, List.sum_cons]; omega
theorem szE_snoc {es : List ED} {d : ED} : szE (es ++ [d]) = szE es + sz JE d := by
  show szs JE (es ++ [d]) = szs JE es + sz JE d
  simp [szs]
theorem sz_small {d : ED} (hc : chk d = true) (hr : d.2.2.2.length ≤ 20) : sz JE d ≤ 26 := by
  obtain ⟨h1, h2, h3, _, h5⟩ := chk_nums hc
  have a1 := numB_len h1.2
  have a2 := numB_len h2.2
  have a3 := numB_len h3.2
  have a4 := numB_len (n := d.2.2.2.length) (by simp only [M63]; omega)
  have a5 := encRs_len h5
  show max 1 (((encD d).length + 41) / 42) ≤ 26
  unfold encD
  simp only [List.length_append]
  omega
theorem app_len1 {d : ED} {s s' : ESt} (ha : appE s d = some s') : s'.2.1.length ≤ s.2.1.length + 1 := by
  obtain ⟨_, rfl⟩ := appE_some ha
  show (nDone s.2.1 d).length ≤ _
  unfold nDone
  split
  · simp
  · omega
theorem app_chk {d : ED} {s s' : ESt} (ha : appE s d = some s') : chk d = true := by
  have := (appE_some ha).1
  rw [Bool.and_eq_true] at this
  exact this.1
theorem app_vld {d : ED} {s s' : ESt} (V : Vld s.1 s.2.1 s.2.2) (ha : appE s d = some s') : Vld s'.1 s'.2.1 s'.2.2 := by
  obtain ⟨h, rfl⟩ := appE_some ha
  exact V.step h
structure JJ (h0 h : Heap) (ow : Roles) (jp dp sp : Nat) (SD : Nat → Prop) (D : DS) (s : ESt) (es : List ED) (n : Nat) : Prop where
  j : JH h ow jp dp sp SD D s.1 s.2.1 s.2.2 (szE es) false
  base : Base h0 ow h
  hjp : h0.length ≤ jp
  idle : Idle JE D es
  off : D.off = false
  lim : D.limit = 16384
  fold : foldE es = some s
  vld : Vld s.1 s.2.1 s.2.2
  sub : (edsE s).Sublist es
  size : szE es ≤ 26 * n
  cnt : s.2.1.length ≤ n
section
variable {h : Heap} {Q : AV → Heap → Prop}
theorem JJ.ext {h0 h h' : Heap} {ow : Roles} {jp dp sp : Nat} {SD : Nat → Prop} {D : DS} {s : ESt} {es : List ED} {n : Nat} (X : JJ h0 h ow jp dp sp SD D s es n) (x : Ext h h') : JJ h0 h' ow jp dp sp SD D s es n :=
  { X with j := X.j.ext x, base := X.base.grow x }
theorem JJ.more {h0 h : Heap} {ow : Roles} {jp dp sp : Nat} {SD : Nat → Prop} {D : DS} {s : ESt} {es : List ED} {n m : Nat} (X : JJ h0 h ow jp dp sp SD D s es n) (hn : n ≤ m) : JJ h0 h ow jp dp sp SD D s es m :=
  { X with size := by have := X.size; omega, cnt := by have := X.cnt; omega }
theorem JJ.commit {h0 h : Heap} {ow : Roles} {jp dp sp : Nat} {SD : Nat → Prop} {D : DS} {s : ESt} {es : List ED} {n : Nat} (X : JJ h0 h ow jp dp sp SD D s es n) (hn : n ≤ 45) {e : EV} {d : ED} (hR : EdR h e d) (hre : ∀ s, e.2.2.2 = some s → ow s.b = none ∧ s.b ≠ jp) (hr : d.2.2.2.length ≤ 20)
    (h1 : appE s d = none → ∀ (v : Int) h', v ≠ 0 → JJ h0 h' ow jp dp sp SD D s es n → JStep ow jp h ow h' → Q (.int .i64 v) h')
    (h2 : ∀ s', appE s d = some s' → ∀ sp' SD' h' ow' D', (∀ b, SD' b → h.length ≤ b) → JJ h0 h' ow' jp dp sp' SD' D' s' (es ++ [d]) (n + 1) → (D.left = -1 → D'.left = -1) → JStep ow jp h ow' h' → Q (.int .i64 0) h')
    (h3 : ∀ s', appE s d = some s' → D.left ≠ -1 → ∀ (v : Int) h' ow' D' m pg, v ≠ 0 → JH h' ow' jp dp sp SD D' s.1 s.2.1 s.2.2 pg true → Mid2 JE D'.files D'.pends es d m → D'.limit = 16384 → JStep ow jp h ow' h' → Q (.int .i64 v) h') :
    AC Tryz.prog 33 [.ptr (some ⟨jp, 0⟩), evV e] h Q := by
  have hs := X.size
  have hc := X.cnt
  have hsz : ∀ s', appE s d = some s' → sz JE d ≤ 26 := fun s' ha => sz_small (app_chk ha) hr
  by_cases hno : appE s d = none
  ·
    have hpn : D.pends.length ≤ 50000 := by
      obtain ⟨f, _, _, _, _, h5⟩ := X.idle
      rw [h5]; simp
    have hcg : (chk d && goes s.1 s.2.1 s.2.2 d) = false := by
      unfold appE at hno
      split at hno
      · cases hno
      · rename_i hc; simpa using hc
    refine k33 X.j hR hre rfl X.vld (by omega) hpn (by omega) (fun _ h' J' S' => ?_) (fun hy => by rw [hcg] at hy; cases hy) (fun hy => by rw [hcg] at hy; cases hy) (fun hy => by rw [hcg] at hy; cases hy)
    have hv : resV s.1 s.2.1 s.2.2 d ≠ 0 := by
      unfold resV
      cases hc : chk d with
      | false => simp
      | true =>
        rw [hc, Bool.true_and] at hcg
        rw [hcg]; simp
    exact h1 hno _ h' hv { X with j := J', base := X.base.jstep S' X.hjp } S'
  · obtain ⟨s', ha⟩ := Option.ne_none_iff_exists'.1 hno
    have h26 := hsz s' ha
    refine commit_ok X.j hR hre rfl X.idle X.off X.fold X.vld (by omega) rfl (by omega) (by rw [X.lim]; omega) (fun hn => absurd hn hno) (fun s2 ha2 sp' SD' h' ow' D' hsd' J' I' ho' hl' hf' _ S' => ?_) (fun s2 ha2 hne _ v h' ow' D' m pg hv J' M' hl' S' => h3 s2 ha2 hne v h' ow' D' m pg hv J' M' (hl'.trans X.lim) S')
    refine h2 s2 ha2 sp' SD' h' ow' D' hsd' ⟨J', X.base.jstep S' X.hjp, X.hjp, I', ho', hl'.trans X.lim, fold_snoc X.fold ha2, app_vld X.vld ha2, edits_sub X.sub ha2, ?_, ?_⟩ hf' S'
    · rw [szE_snoc]; omega
    · have : s2.2.1.length ≤ s.2.1.length + 1 := app_len1 ha2
      omega
theorem open_new {h0 h : Heap} {ow : Roles} {dp : Nat} (L : Laid h0) (B : Base h0 ow h) (R : DiskR h ow dp (emptyD 16384)) (hQ : ∀ jp sp SD h' ow' D', JJ h0 h' ow' jp dp sp SD D' (false, [], zeroD) [] 0 → D'.left = -1 → DStep ow h ow' h' → h.length ≤ jp → Q (.tup [.ptr (some ⟨jp, 0⟩), .int .i64 0]) h') :
    AC Tryz.prog 28 [.ptr (some ⟨dp, 0⟩)] h Q := by
  have hl2 := L.len
  refine open_ok (s := (false, [], zeroD)) (L.ext B.ext) (B.none 0 (by omega)) (B.none 1 (by omega)) R rfl rfl mid_empty vld0 (by simp) (show 0 ≤ 2000 by omega) (show ((0 : Nat) + 0 : Nat) ≤ (16384 : Int) by omega) (fun jp sp SD h6 ow6 D6 J6 I6 ho6 hl6 hf6 S6 hjp hsd => ?_) (fun hne => absurd rfl hne)
  exact hQ jp sp SD h6 ow6 D6 ⟨J6, B.step S6, by have := B.ext.len; omega, I6, ho6, hl6, rfl, vld0, List.Sublist.refl _, (show 0 ≤ 26 * 0 by omega), by simp⟩ (hf6 rfl) S6 hjp
end
theorem InL.edW {h : Heap} {q : Option SL} {l : List ED} (E : InL h q l) : EdW h (fun b => b < h.length) q l := by
  obtain ⟨L, g, hl, he⟩ := E
  exact ⟨L, g, hl, fun j e d h1 h2 => ⟨he j e d h1 h2, fun s hs => HasL.live (he j e d h1 h2).2.2.2 s hs⟩, fun s hs => HasL.live g s hs⟩
section
variable {h : Heap} {Q : AV → Heap → Prop}
theorem EdW.at {h0 h : Heap} {Z : Nat → Prop} {q : Option SL} {l : List ED} (W : EdW h Z q l) {i : Nat} (hi : i < l.length) {K : PA → Prop}
    (hK : ∀ (p : PA) (x : EV), cellsAt h p 4 = some [.int .i64 x.1, .int .i64 x.2.1, .int .i64 x.2.2.1, .sl x.2.2.2] → cellsAt h ⟨p.b, p.o + 3⟩ 1 = some [.sl x.2.2.2] → EdR h x (l[i]'hi) → (∀ s, x.2.2.2 = some s → Z s.b) → K p) : vIdx q (i : Int) 4 K := by
  obtain ⟨L, a, b, c, dq⟩ := W
  refine HasL.idx (E := edE) a (by omega) (by omega) fun p x hx hcx => ?_
  have hx : L[i]? = some x := by simpa using hx
  have he : l[i]? = some (l[i]'hi) := List.getElem?_eq_getElem hi
  obtain ⟨hR, hz⟩ := c i x _ hx he
  refine hK p x hcx ?_ hR hz
  have := cellsAt_sub (k := 3) (m := 1) hcx (by show 3 + 1 ≤ 4; omega)
  exact this
end
structure SK (h : Heap) (ow : Roles) (p : Nat) (s : ESt) : Prop where
  ex : ∃ SD, St2 h SD p s.1 s.2.1 s.2.2 ∧ ∀ b, SD b → ow b = none
theorem St2.lv {h : Heap} {SD : Nat → Prop} {p : Nat} {has : Bool} {done : List ED} {mark : ED} (S : St2 h SD p has done mark) : ∀ b, SD b → b < h.length := by
  obtain ⟨_, _, _, _, _, _, _, _, _, _, _, _, _, h11⟩ := S; exact h11
theorem SK.ext {h h' : Heap} {ow : Roles} {p : Nat} {s : ESt} (S : SK h ow p s) (x : Ext h h') : SK h' ow p s := by
  obtain ⟨SD, a, b⟩ := S.ex
  exact ⟨SD, a.keeps (X := fun _ => False) (keeps_of_ext x) (fun _ _ h => h) x.len, b⟩
theorem SK.disk {h h' : Heap} {ow ow' : Roles} {p : Nat} {s : ESt} (S : SK h ow p s) (x : DStep ow h ow' h') : SK h' ow' p s := by
  obtain ⟨SD, a, b⟩ := S.ex
  exact ⟨SD, a.keeps x.keeps (fun c hc hx => hx (b c hc)) x.len, fun c hc => (JStep.disk (jp := 0) x).none (a.lv c hc) (b c hc)⟩
theorem SK.view {h : Heap} {ow : Roles} {p : Nat} {s : ESt} (S : SK h ow p s) : StV h p s.1 s.2.1 s.2.2 := by
  obtain ⟨SD, a, b⟩ := S.ex
  exact a.view
section
variable {h : Heap} {Q : AV → Heap → Prop}
theorem tail4 {h0 hh : Heap} {ow : Roles} {dp pw : Nat} {pn : Option PA} {D : DS} {s sw : ESt} {q3 q4 : Option SL} {keep again : List Int} (L : Laid h0) (B : Base h0 ow hh) (R : DiskR hh ow dp D) (hpl : D.pends.length ≤ 1000000) (hlim : D.limit = 16384)
    (M : Mid JE (D.crash keep).files [] s) (V : Vld s.1 s.2.1 s.2.2) (hd : s.2.1.length ≤ 100) (hsz : szE (edsE s) ≤ 2000) (Vw : Vld sw.1 sw.2.1 sw.2.2) (hdw : sw.2.1.length ≤ 100) (Kw : SK hh ow pw sw) (hs : s = sw ∨ ∃ p, pn = some ⟨p, 0⟩ ∧ SK hh ow p s)
    (H3 : HasL intE h0 q3 keep) (H4 : HasL intE h0 q4 again) (hin : ∀ x ∈ again, x ≤ 9223372036854775807) (hlen : again.length ≤ 20) (hQ : ∀ h', Q (.bool true) h') :
 AC Tryz.prog 34 [.ptr (some ⟨dp, 0⟩), .sl q3] hh fun v167 h168 => v167 = .tup [] ∧
 ∃ (I170 : List AV → Heap → Prop) (m171 : List AV → Heap → Nat), I170 [.int .i64 0] h168 ∧
 ∀ n169 : Int, ∀ h172 : Heap, I170 [.int .i64 n169] h172 →
 vif (decide (n169 < (slLen q4 : Int)))
 (vIdx q4 n169 1 fun p173 =>
 ∃ n174 : Int, cellsAt h172 p173 1 = some [.int .i64 n174] ∧
 vif (decide (n174 < 0))
 ((True) ∧ I170 [.int .i64 (wrapK .i64 (n169 + 1))] h172 ∧ m171 [.int .i64 (wrapK .i64 (n169 + 1))] h172 < m171 [.int .i64 n169] h172)
 (vIdx q4 n169 1 fun p175 =>
 ∃ n176 : Int, cellsAt h172 p175 1 = some [.int .i64 n176] ∧
 AC Tryz.prog 29 [.ptr (some ⟨dp, 0⟩), .int .i64 n176] h172 fun v177 h178 => ∃ n179 : Int, v177 = .int .i64 n179 ∧
 vif (n179 != 0)
 ((True) ∧ I170 [.int .i64 (wrapK .i64 (n169 + 1))] h178 ∧ m171 [.int .i64 (wrapK .i64 (n169 + 1))] h178 < m171 [.int .i64 n169] h172)
 (AC Tryz.prog 28 [.ptr (some ⟨dp, 0⟩)] h178 fun v180 h181 => ∃ p182 : Option PA, ∃ n183 : Int, v180 = .tup [.ptr p182, .int .i64 n183] ∧
 AC Tryz.prog 34 [.ptr (some ⟨dp, 0⟩), .sl q3] h181 fun v184 h185 => v184 = .tup [] ∧
 (True) ∧ I170 [.int .i64 (wrapK .i64 (n169 + 1))] h185 ∧ m171 [.int .i64 (wrapK .i64 (n169 + 1))] h185 < m171 [.int .i64 n169] h172)))
 (AC Tryz.prog 28 [.ptr (some ⟨dp, 0⟩)] h172 fun v186 h187 => ∃ p188 : Option PA, ∃ n189 : Int, v186 = .tup [.ptr p188, .int .i64 n189] ∧
 vif (n189 != 0)
 (Q (.bool false) h187)
 (vif (p188.isNone)
 (Q (.bool false) h187)
 (AC Tryz.prog 35 [.ptr p188] h187 fun v190 h191 => ∃ p192 : Option PA, v190 = .ptr p192 ∧
 AC Tryz.prog 31 [.ptr p192] h191 fun v193 h194 => ∃ q195 : Option SL, v193 = .sl q195 ∧
 AC Tryz.prog 31 [.ptr (some ⟨pw, 0⟩)] h194 fun v196 h197 => ∃ q198 : Option SL, v196 = .sl q198 ∧
 AC Tryz.prog 36 [.sl q195, .sl q198] h197 fun v199 h200 => ∃ b201 : Bool, v199 = .bool b201 ∧
 vif b201
 (Q (.bool true) h200)
 (AC Tryz.prog 31 [.ptr pn] h200 fun v202 h203 => ∃ q204 : Option SL, v202 = .sl q204 ∧
 AC Tryz.prog 36 [.sl q195, .sl q204] h203 fun v205 h206 => ∃ b207 : Bool, v205 = .bool b207 ∧
 Q (.bool b207) h206)))) := by
  have hl2 := L.len
  have hq3 : ∀ {ow : Roles} {h2 : Heap}, Base h0 ow h2 → ∀ t, q3 = some t → ow t.b = none := fun B t ht => Base.none B t.b (HasL.live H3 t ht)
  refine d34 R (H3.mono B.ext) (hq3 B) hpl fun h1 ow1 R1 S1 => ⟨rfl, ?_⟩
  refine ⟨fun xs h2 => ∃ (i : Nat) (ow2 : Roles) (D2 : DS), xs = [.int .i64 i] ∧ i ≤ again.length ∧ DiskR h2 ow2 dp D2 ∧ Base h0 ow2 h2 ∧ Mid JE D2.files D2.pends s ∧ D2.pends = [] ∧ D2.off = false ∧ D2.limit = 16384 ∧ D2.left = -1 ∧ DStep ow hh ow2 h2, fun xs _ => match xs with | [.int _ i] => (again.length - i).toNat | _ => 0,
    ⟨0, ow1, D.crash keep, rfl, by omega, R1, B.step S1, M, rfl, rfl, hlim, rfl, S1⟩, ?_⟩
  rintro n1 h2 ⟨i, ow2, D2, hx, hi, R2, B2, M2, hp2, ho2, hl2', hlf2, S2⟩
  simp only [List.cons.injEq, AV.int.injEq, true_and, and_true] at hx
  subst hx
  have hlen4 := H4.len
  have hused := Mid.used R2.ok M2
  rw [hlen4]
  refine vif_mk (fun g => ?_) (fun g => ?_)
  · replace g := of_decide_eq_true g
    have hia : again[i]? = some (again[i]'(by omega)) := List.getElem?_eq_getElem _
    have hw : wrapK .i64 (((i : Nat) : Int) + 1) = ((i + 1 : Nat) : Int) := by rw [wrapK_i64 ⟨by omega, by omega⟩]; omega
    rw [hw]
    refine HasL.idx (E := intE) (H4.mono B2.ext) (by omega) (by omega) fun p x hx hcx => ⟨x, hcx, ?_⟩
    have hx : again[i]? = some x := by simpa using hx
    refine vif_mk (fun g2 => ?_) (fun g2 => ?_)
    · exact ⟨trivial, ⟨i + 1, ow2, D2, rfl, by omega, R2, B2, M2, hp2, ho2, hl2', hlf2, S2⟩, by simp only; omega⟩
    · replace g2 := of_decide_eq_false g2
      refine HasL.idx (E := intE) (H4.mono B2.ext) (by omega) (by omega) fun p2 x2 hx2 hcx2 => ⟨x2, hcx2, ?_⟩
      have hx2 : again[i]? = some x2 := by simpa using hx2
      rw [hx] at hx2
      obtain rfl := Option.some.inj hx2
      refine d29 R2 (by omega) (hin x (List.mem_of_getElem? hx)) fun h3 R3 S3 => ⟨_, rfl, vif_mk (fun g3 => by simp at g3) (fun _ => ?_)⟩
      have B3 := B2.step S3
      have after : ∀ {h4 : Heap} {ow4 : Roles} {D4 : DS}, DiskR h4 ow4 dp D4 → Base h0 ow4 h4 → Mid JE D4.files D4.pends s → D4.pends.length ≤ 1000000 → D4.limit = 16384 → DStep ow hh ow4 h4 →
          AC Tryz.prog 34 [.ptr (some ⟨dp, 0⟩), .sl q3] h4 fun v184 h185 => v184 = .tup [] ∧ (True) ∧ (∃ (i' : Nat) (ow2 : Roles) (D2 : DS), [AV.int .i64 ((i + 1 : Nat) : Int)] = [.int .i64 i'] ∧ i' ≤ again.length ∧ DiskR h185 ow2 dp D2 ∧ Base h0 ow2 h185 ∧ Mid JE D2.files D2.pends s ∧ D2.pends = [] ∧ D2.off = false ∧ D2.limit = 16384 ∧ D2.left = -1 ∧ DStep ow hh ow2 h185) ∧ (((again.length : Nat) : Int) - ((i + 1 : Nat) : Int)).toNat < (((again.length : Nat) : Int) - ((i : Nat) : Int)).toNat := fun R4 B4 M4 hp4 hl4 S4 => by
        refine d34 R4 (H3.mono B4.ext) (hq3 B4) hp4 fun h5 ow5 R5 S5 => ⟨rfl, trivial, ⟨i + 1, ow5, _, rfl, by omega, R5, B4.step S5, Mid.crash R4.ok M4, rfl, rfl, hl4, rfl, S4.trans S5⟩, by omega⟩
      refine open_ok (s := s) (L.ext B3.ext) (B3.none 0 (by omega)) (B3.none 1 (by omega)) R3 ho2 hp2 M2 V hd hsz (by show ((D2.used + szE (edsE s) : Nat) : Int) ≤ D2.limit; rw [hl2']; omega) (fun jp sp SD h4 ow4 D4 J4 I4 ho4 hl4 _ S4 _ _ => ⟨_, _, rfl, ?_⟩) (fun _ v h4 ow4 D4 hv R4 M4 hl4 hp4 S4 => ⟨_, _, rfl, after R4 (B3.step S4) M4 (by omega) (hl4.trans hl2') ((S2.trans S3).trans S4)⟩)
      refine after J4.dk (B3.step S4) (Idle.mid' I4 (fold_edits V) hsz) ?_ (hl4.trans hl2') ((S2.trans S3).trans S4)
      obtain ⟨f, _, _, _, _, h5⟩ := I4
      rw [h5]; simp
  · refine open_ok (s := s) (L.ext B2.ext) (B2.none 0 (by omega)) (B2.none 1 (by omega)) R2 ho2 hp2 M2 V hd hsz (by rw [hl2']; omega) (fun jp sp SD h4 ow4 D4 J4 I4 ho4 hl4 _ S4 _ _ => ⟨_, _, rfl, vif_mk (fun g2 => by simp at g2) (fun _ => vif_mk (fun g2 => by cases g2) (fun _ => ?_))⟩) (fun hne => absurd hlf2 hne)
    have T4 := S2.trans S4
    have el : ∀ {s : ESt}, Vld s.1 s.2.1 s.2.2 → s.2.1.length ≤ 100 → (edsE s).length ≤ 1000 ∧ ∀ d ∈ edsE s, d.2.2.2.length ≤ 300 := fun {s} V hd => by
      refine ⟨?_, fun d hd => ?_⟩
      · show (s.2.1 ++ _ : List ED).length ≤ 1000
        rw [List.length_append]
        cases s.1 <;> simp <;> omega
      · have := vld_chk V d hd
        simp only [chk, Bool.and_eq_true, decide_eq_true_eq] at this
        omega
    refine k35 J4 V hd fun p1 SD1 h5 x5 _ S5 => ⟨_, rfl, ?_⟩
    refine v31 S5.view hd fun q1 h6 x6 E6 => ⟨q1, rfl, ?_⟩
    have Kw6 := (Kw.disk T4).ext (x5.trans x6)
    refine v31 Kw6.view hdw fun q2 h7 x7 E7 => ⟨q2, rfl, ?_⟩
    have W6 := E6.edW.keeps (X := fun _ => False) (keeps_of_ext x7) (fun _ _ h => h)
    refine w36 W6 E7.edW (el V hd).1 (el V hd).2 fun v hv => ⟨_, rfl, vif_mk (fun _ => hQ _) (fun g3 => ?_)⟩
    rcases hs with rfl | ⟨pp, rfl, Ks⟩
    · have := hv.2 rfl
      rw [this] at g3; cases g3
    · have Ks7 := ((Ks.disk T4).ext (x5.trans x6)).ext x7
      refine v31 Ks7.view hd fun q5 h8 x8 E8 => ⟨q5, rfl, ?_⟩
      have W8 := W6.keeps (X := fun _ => False) (keeps_of_ext x8) (fun _ _ h => h)
      refine w36 W8 E8.edW (el V hd).1 (el V hd).2 fun v2 hv2 => ⟨_, rfl, ?_⟩
      have := hv2.2 rfl
      subst this
      exact hQ _
end
section
variable {h : Heap} {Q : AV → Heap → Prop} {K : Heap → Prop}
theorem copy_loop {has : Bool} {done : List ED} {mark : ED} {h6 : Heap} {hl lo : Nat} {q7 : Option SL} (V : Vld has done mark) (hd : done.length ≤ 100) (W6 : EdW h6 (fun b => lo ≤ b ∧ b < h6.length) q7 (edits has done mark)) (hlo : hl < lo) (hl6 : lo ≤ h6.length) (S0 : St2 h6 (fun b => b = hl) hl false [] zeroD)
    (hK : ∀ h' SD', St2 h' SD' hl has done mark → (∀ b, SD' b → b = hl ∨ h6.length ≤ b) → Keeps (fun b => b = hl) h6 h' → h6.length ≤ h'.length → K h') :
 ∃ (I9 : List AV → Heap → Prop) (m10 : List AV → Heap → Nat), I9 [.int .i64 0] h6 ∧
 ∀ n8 : Int, ∀ h11 : Heap, I9 [.int .i64 n8] h11 →
 vif (decide (n8 < (slLen q7 : Int)))
 (vIdx q7 n8 4 fun p12 =>
 ∃ n13 n14 n15 : Int, ∃ q16 : Option SL, cellsAt h11 p12 4 = some [.int .i64 n13, .int .i64 n14, .int .i64 n15, .sl q16] ∧
 AC Tryz.prog 32 [.ptr (some ⟨hl, 0⟩), .agg [.int .i64 n13, .int .i64 n14, .int .i64 n15, .sl q16]] h11 fun v17 h18 => ∃ n19 : Int, v17 = .int .i64 n19 ∧
 (True) ∧ I9 [.int .i64 (wrapK .i64 (n8 + 1))] h18 ∧ m10 [.int .i64 (wrapK .i64 (n8 + 1))] h18 < m10 [.int .i64 n8] h11)
 (K h11) := by
  have hF := fold_edits V
  have hel : (edits has done mark).length ≤ 101 := by
    unfold edits
    rw [List.length_append]
    cases has <;> simp <;> omega
  generalize edits has done mark = es at *
  refine ⟨fun xs h11 => ∃ (i : Nat) (s : ESt) (SD' : Nat → Prop), xs = [.int .i64 i] ∧ i ≤ es.length ∧ fold (J := JE) (false, [], zeroD) (es.take i) = some s ∧ St2 h11 SD' hl s.1 s.2.1 s.2.2 ∧ (∀ b, SD' b → b = hl ∨ h6.length ≤ b) ∧ Keeps (fun b => b = hl) h6 h11 ∧ h6.length ≤ h11.length, fun xs _ => match xs with | [.int _ i] => (es.length - i).toNat | _ => 0,
    ⟨0, (false, [], zeroD), fun b => b = hl, rfl, by omega, rfl, S0, fun b hb => .inl hb, .refl _ _, Nat.le_refl _⟩, ?_⟩
  rintro n8 h11 ⟨i, s, SD', hx, hi, hf, S11, hsd, K11, l11⟩
  simp only [List.cons.injEq, AV.int.injEq, true_and, and_true] at hx
  subst hx
  have W11 := W6.keeps K11 fun b hb => by omega
  rw [W6.len]
  refine vif_mk (fun g => ?_) (fun g => ?_)
  · replace g := of_decide_eq_true g
    have hil : i < es.length := by omega
    obtain ⟨L, a, b, c, dq⟩ := W11
    refine HasL.idx (E := edE) a (by omega) (by omega) fun p x hx hcx => ⟨_, _, _, _, hcx, ?_⟩
    have hx : L[i]? = some x := by simpa using hx
    have he : es[i]? = some (es[i]'hil) := List.getElem?_eq_getElem hil
    obtain ⟨hR, hz⟩ := c i x _ hx he
    obtain ⟨s2, ha, hf2⟩ := fold_take hF he hf
    obtain ⟨hy, rfl⟩ := appE_some ha
    have hdl : s.2.1.length ≤ 100 := by
      have h1 := appE_len ha
      have h2 : (nDone s.2.1 (es[i]'hil)).length ≤ done.length := by
        have h3 := hF
        rw [← List.take_append_drop (i + 1) es, fold_append, hf2, Option.bind_some] at h3
        exact fold_len h3
      have h1 : s.2.1.length ≤ (nDone s.2.1 (es[i]'hil)).length := h1
      omega
    refine v32 S11 (e := x) hR (fun t ht hb => ?_) hdl (fun hno => ?_) fun h18 SD2 _ S18 hsd2 K18 l18 => ⟨_, rfl, ?_⟩
    · have := hz t ht
      rcases hsd _ hb with h1 | h1 <;> omega
    · rw [hno] at hy; cases hy
    · rw [wrapK_i64 ⟨by omega, by omega⟩]
      refine ⟨trivial, ⟨i + 1, _, SD2, by simp, by omega, hf2, S18, fun b hb => ?_, ?_, by omega⟩, by simp only; omega⟩
      · rcases hsd2 b hb with h1 | h1
        · exact hsd b h1
        · right; omega
      · intro b B hb hB
        have hlt := lt_of_get hB
        exact K18 _ _ (fun h1 => by rcases hsd b h1 with h2 | h2; exact hb h2; omega) (K11 b B hb hB)
  · replace g := of_decide_eq_false g
    have : i = es.length := by omega
    subst this
    rw [List.take_length, hF] at hf
    cases hf
    exact hK _ SD' S11 hsd K11 l11
theorem JJ.disk {h0 h h' : Heap} {ow ow' : Roles} {jp dp sp : Nat} {SD : Nat → Prop} {D D' : DS} {s : ESt} {es : List ED} {n : Nat} (X : JJ h0 h ow jp dp sp SD D s es n) (S : DStep ow h ow' h') (R : DiskR h' ow' dp D') (I : Idle JE D' es) (ho : D'.off = false) (hl : D'.limit = 16384) : JJ h0 h' ow' jp dp sp SD D' s es n :=
  { X with j := X.j.step S R, base := X.base.step S, idle := I, off := ho, lim := hl }
theorem JH.keeps {h h' : Heap} {Z : Nat → Prop} {ow : Roles} {jp dp sp : Nat} {SD : Nat → Prop} {D : DS} {has : Bool} {done : List ED} {mark : ED} {pages : Nat} {brk : Bool} (J : JH h ow jp dp sp SD D has done mark pages brk) (K : Keeps Z h h') (hl : h.length ≤ h'.length) (hZ : ∀ b, Z b → ow b = none ∧ b ≠ jp ∧ ¬ SD b ∧ 2 ≤ b) : JH h' ow jp dp sp SD D has done mark pages brk :=
  ⟨J.lay.keeps K (fun h => by have := (hZ 0 h).2.2.2; omega) (fun h => by have := (hZ 1 h).2.2.2; omega), J.o0, J.o1, K _ _ (fun h => (hZ _ h).2.1 rfl) J.jc, J.dk.ext (keeps_imp K fun b hb => (hZ b hb).1) hl, J.st.keeps K (fun b hb hz => (hZ b hz).2.2.1 hb) hl, J.jo, J.so, J.js, J.j2⟩
theorem Base.keeps {h0 h h' : Heap} {ow : Roles} {Z : Nat → Prop} (B : Base h0 ow h) (K : Keeps Z h h') (hZ : ∀ b, Z b → h0.length ≤ b) : Base h0 ow h' :=
  ⟨B.new, fun b X hX => K _ _ (fun hz => by have := hZ b hz; have := lt_of_get hX; omega) (B.ext _ _ hX)⟩
def SJ (h : Heap) (ow : Roles) (jp p : Nat) (s : ESt) : Prop := ∃ SD, St2 h SD p s.1 s.2.1 s.2.2 ∧ ∀ b, SD b → ow b = none ∧ b ≠ jp
theorem SJ.sk {h : Heap} {ow : Roles} {jp p : Nat} {s : ESt} (S : SJ h ow jp p s) : SK h ow p s := by
  obtain ⟨SD, a, b⟩ := S
  exact ⟨SD, a, fun c hc => (b c hc).1⟩
theorem SJ.step {h h' : Heap} {ow ow' : Roles} {jp p : Nat} {s : ESt} (S : SJ h ow jp p s) (x : JStep ow jp h ow' h') : SJ h' ow' jp p s := by
  obtain ⟨SD, a, b⟩ := S
  exact ⟨SD, a.keeps x.keeps (fun c hc hx => hx.elim (fun h1 => h1 (b c hc).1) (b c hc).2) x.len, fun c hc => ⟨x.none (a.lv c hc) (b c hc).1, (b c hc).2⟩⟩
set_option maxHeartbeats 1000000 in
theorem s4 {q1 q3 q4 : Option SL} {n2 : Int} {l : List ED} {keep again : List Int} (L : Laid h) (E : InL h q1 l) (H3 : HasL intE h q3 keep) (H4 : HasL intE h q4 again) (hin : ∀ x ∈ again, x ≤ 9223372036854775807) : AC Tryz.prog 4 [.sl q1, .int .i64 n2, .sl q3, .sl q4] h fun v _ => v = .bool true := ac4 (by
  unfold vc4
  have W0 := E.edW
  have hl2 := L.len
  refine d26 (by omega) (by omega) fun ow R hnew => ⟨_, _, rfl, ?_⟩
  have x4 : Ext h ((h ++ [Blk.mp [] 0]) ++ [.cells [.map (some h.length), .sl none, .int .i64 16384, .int .i64 (-1), .bool false] true]) := (Ext.app _ _).trans (.app _ _)
  have B4 : Base h ow ((h ++ [Blk.mp [] 0]) ++ [.cells [.map (some h.length), .sl none, .int .i64 16384, .int .i64 (-1), .bool false] true]) := ⟨hnew, x4⟩
  generalize ((h ++ [Blk.mp [] 0]) ++ [.cells [.map (some h.length), .sl none, .int .i64 16384, .int .i64 (-1), .bool false] true]) = h4 at *
  refine s27 (L.ext x4) fun h8 x8 => ⟨_, rfl, ?_⟩
  have B8 := B4.grow x8
  have R8 := R.grow x8
  have L8 := L.ext B8.ext
  refine vif_mk (fun g => by cases g) (fun _ => ?_)
  refine vif_mk (fun g => by simp at g) (fun _ => ?_)
  refine vif_mk (fun g => by cases g) (fun _ => ?_)
  refine vif_mk (fun _ => s27 L8 fun h' x' => ⟨_, rfl, rfl⟩) (fun g1 => ?_)
  refine vif_mk (fun _ => s27 L8 fun h' x' => ⟨_, rfl, rfl⟩) (fun g2 => ?_)
  have hl4 := H4.len
  refine vif_mk (fun _ => s27 L8 fun h' x' => ⟨_, rfl, rfl⟩) (fun g3 => ?_)
  replace g1 := of_decide_eq_false g1
  replace g2 := of_decide_eq_false g2
  replace g3 := of_decide_eq_false g3
  refine open_new L B8 R8 fun jp sp SD h29 ow29 D29 X29 hlf29 S29 hjp => ⟨_, _, rfl, vif_mk (fun g => by simp at g) (fun _ => vif_mk (fun g => by cases g) (fun _ => ?_))⟩
  refine d29 X29.j.dk (by omega) (by omega) fun h35 R35 S35 => ⟨_, rfl, vif_mk (fun g => by simp at g) (fun _ => ?_)⟩
  have X35 := X29.disk S35 R35 X29.idle X29.off X29.lim
  refine t30 ⟨_, rfl, t30 ⟨_, rfl, ?_⟩⟩
  have x38 : Ext h35 (h35 ++ [.cells [.sl none, .int .i64 0, .int .i64 0, .int .i64 0, .sl none, .bool false] true]) := .app _ _
  have l38 : (h35 ++ [Blk.cells [.sl none, .int .i64 0, .int .i64 0, .int .i64 0, .sl none, .bool false] true]).length = h35.length + 1 := by simp
  have x41 : Ext (h35 ++ [.cells [.sl none, .int .i64 0, .int .i64 0, .int .i64 0, .sl none, .bool false] true]) ((h35 ++ [.cells [.sl none, .int .i64 0, .int .i64 0, .int .i64 0, .sl none, .bool false] true]) ++ [.cells [.sl none, .int .i64 0, .int .i64 0, .int .i64 0, .sl none, .bool false] true]) := .app _ _
  have K41 : SJ ((h35 ++ [.cells [.sl none, .int .i64 0, .int .i64 0, .int .i64 0, .sl none, .bool false] true]) ++ [.cells [.sl none, .int .i64 0, .int .i64 0, .int .i64 0, .sl none, .bool false] true]) ow29 jp h35.length (false, [], zeroD) :=
    ⟨_, fresh2.keeps (X := fun _ => False) (keeps_of_ext x41) (fun _ _ h => h) x41.len, fun b hb => by subst hb; exact X35.j.nol (Nat.le_refl _)⟩
  have X41 := X35.ext (x38.trans x41)
  refine ⟨fun xs h48 => ∃ (i : Nat) (p44 : Option PA) (pw : Nat) (ow' : Roles) (sp' : Nat) (SD' : Nat → Prop) (D' : DS) (s : ESt) (es : List ED), xs = [.ptr (some ⟨pw, 0⟩), .ptr p44, .int .i64 i] ∧ i ≤ l.length ∧ i ≤ 30 ∧ JJ h h48 ow' jp (h.length + 1) sp' SD' D' s es i ∧ SJ h48 ow' jp pw s, fun xs _ => match xs with | [_, _, .int _ i] => (l.length - i).toNat | _ => 0,
    ⟨0, _, _, ow29, sp, SD, _, _, [], rfl, by omega, by omega, X41, K41⟩, ?_⟩
  rintro p43 p44 n45 h48 ⟨i, p44', pw, ow1, sp1, SD1, D1, s, es, hx, hi, hi30, X, Kw⟩
  simp only [List.cons.injEq, AV.int.injEq, AV.ptr.injEq, true_and, and_true] at hx
  obtain ⟨rfl, rfl, rfl⟩ := hx
  have hcn := X.cnt
  have hsz := X.size
  have hsub := sub_szs X.sub
  have hpn : D1.pends = [] := by obtain ⟨f, _, _, _, _, h5⟩ := X.idle; exact h5
  have hjl := X.j.jl
  have hlb := X.base.ext.len
  have done4 : ∀ {Q' : AV → Heap → Prop}, (∀ h', Q' (.bool true) h') → _ := fun {Q'} hQ' => tail4 (Q := Q') (pn := p44) L X.base X.j.dk (by rw [hpn]; simp) X.lim (Mid.crash (keep := keep) X.j.dk.ok (Idle.mid' X.idle X.fold (by omega))) X.vld (by omega) (by omega) X.vld (by omega) Kw.sk (.inl rfl) H3 H4 hin (by omega) hQ'
  rw [W0.len]
  refine vif_mk (fun g => ?_) (fun g => done4 (Q' := fun v _ => v = .bool true) (fun _ => rfl))
  refine vif_mk (fun g4 => ?_) (fun g4 => done4 (Q' := fun v _ => v = .bool true) (fun _ => rfl))
  replace g := of_decide_eq_true g
  replace g4 := of_decide_eq_true g4
  have hil : i < l.length := by omega
  have W48 := W0.keeps (X := fun _ => False) (keeps_of_ext X.base.ext) (fun _ _ h => h)
  refine W48.at (h0 := h) hil fun p x hcx hc3 hR hz => ⟨_, hc3, ?_⟩
  rw [hR.2.2.2.len, wrapK_i64 (n := ((i : Nat) : Int) + 1) ⟨by omega, by omega⟩]
  refine vif_mk (fun g5 => ?_) (fun g5 => ?_)
  · exact ⟨trivial, ⟨i + 1, p44, pw, ow1, sp1, SD1, D1, s, es, by simp, by omega, by omega, X.more (by omega), Kw⟩, by simp only; omega⟩
  replace g5 := of_decide_eq_false g5
  refine t30 ⟨_, rfl, ?_⟩
  have x52 : Ext h48 (h48 ++ [.cells [.sl none, .int .i64 0, .int .i64 0, .int .i64 0, .sl none, .bool false] true]) := .app _ _
  have l52 : (h48 ++ [Blk.cells [.sl none, .int .i64 0, .int .i64 0, .int .i64 0, .sl none, .bool false] true]).length = h48.length + 1 := by simp
  have Kw52 := Kw.step (.ext x52)
  refine v31 Kw52.sk.view (by omega) fun q56 h55 x55 E55 => ⟨q56, rfl, ?_⟩
  have W55 := E55.edW
  rw [l52] at W55
  have l55 := x55.len
  rw [l52] at l55
  refine copy_loop X.vld (by omega) W55 (by omega) l55 (fresh2.keeps (X := fun _ => False) (keeps_of_ext x55) (fun _ _ h => h) x55.len) fun h60 SD6 S60 hsd6 K60 l60 => ?_
  have x60 : Ext h48 h60 := fun b B hB => by
    have hlt := lt_of_get hB
    exact K60 b B (by omega) (x55 _ _ (x52 _ _ hB))
  have X60 := X.ext x60
  have Kw60 := Kw.step (.ext x60)
  have hnol6 : ∀ b, SD6 b → h48.length ≤ b := fun b hb => by rcases hsd6 b hb with h1 | h1 <;> omega
  have S60J : SJ h60 ow1 jp h48.length s := ⟨SD6, S60, fun b hb => X.j.nol (hnol6 b hb)⟩
  have W60 := W48.keeps (X := fun _ => False) (keeps_of_ext x60) (fun _ _ h => h)
  refine W60.at (h0 := h) hil fun p2 x2 hcx2 _ hR2 hz2 => ⟨_, _, _, _, hcx2, ?_⟩
  have refs : ∀ {x2 : EV}, (∀ t, x2.2.2.2 = some t → t.b < h.length) → ∀ t, x2.2.2.2 = some t → ow1 t.b = none ∧ t.b ≠ jp := fun hz t ht => ⟨X.base.none _ (hz t ht), by have := hz t ht; have := X.hjp; omega⟩
  have lv60 := S60.lv
  have both : ∀ {h75 : Heap} {ow2 : Roles} {v : Int}, JStep ow1 jp h60 ow2 h75 → Base h ow2 h75 → ∀ {K : AV → Heap → Prop},
      (appE s (l[i]'hil) = none → ∀ w : Int, w ≠ 0 → K (.int .i64 w) h75) → (∀ s', appE s (l[i]'hil) = some s' → ∀ h83 SD8, St2 h83 SD8 h48.length s'.1 s'.2.1 s'.2.2 → (∀ b, SD8 b → SD6 b ∨ h75.length ≤ b) → Keeps SD6 h75 h83 → h75.length ≤ h83.length → K (.int .i64 0) h83) →
      vIdx q1 ((i : Nat) : Int) 4 fun p77 => ∃ n78 n79 n80 : Int, ∃ q81 : Option SL, cellsAt h75 p77 4 = some [.int .i64 n78, .int .i64 n79, .int .i64 n80, .sl q81] ∧
        AC Tryz.prog 32 [.ptr (some ⟨h48.length, 0⟩), .agg [.int .i64 n78, .int .i64 n79, .int .i64 n80, .sl q81]] h75 K := fun {h75 ow2 v} S75 B75 {K} k1 k2 => by
    have W75 := W0.keeps (X := fun _ => False) (keeps_of_ext B75.ext) (fun _ _ h => h)
    refine W75.at (h0 := h) hil fun p3 x3 hcx3 _ hR3 hz3 => ⟨_, _, _, _, hcx3, ?_⟩
    have S75' := S60.keeps S75.keeps (fun c hc hx => hx.elim (fun h1 => h1 (X.j.nol (hnol6 c hc)).1) (X.j.nol (hnol6 c hc)).2) S75.len
    refine v32 S75' (e := x3) hR3 (fun t ht hb => by have := hz3 t ht; have := hnol6 _ hb; omega) (by omega) (fun hno => ?_) fun h83 SD8 hyes S83 hsd8 K83 l83 => ?_
    · refine k1 (by unfold appE; rw [hno]; rfl) _ ?_
      unfold resV
      cases hc : chk (l[i]'hil) with
      | false => simp
      | true =>
        rw [hc, Bool.true_and] at hno
        rw [hno]; simp
    · exact k2 (nHas (l[i]'hil), nDone s.2.1 (l[i]'hil), nMark (l[i]'hil)) (by unfold appE; rw [hyes]; rfl) h83 SD8 S83 hsd8 K83 l83
  refine X60.commit (by omega) (e := x2) hR2 (refs hz2) (by omega) (fun hno v h75 hv X75 S75 => ⟨_, rfl, ?_⟩) (fun s' ha sp' SD' h75 ow2 D' hsd' X75 hf' S75 => ⟨_, rfl, ?_⟩) (fun s' ha hne v h75 ow2 D' m pg hv J75 M75 hlm S75 => ⟨_, rfl, ?_⟩)
  ·
    refine both (v := v) S75 X75.base (fun _ w hw => ⟨_, rfl, vif_mk (fun _ => ?_) (fun g => by simp at g; exact absurd g hw)⟩) (fun s' ha => by rw [hno] at ha; cases ha)
    refine vif_mk (fun g => by simp at g; exact absurd g hv) (fun _ => ?_)
    exact ⟨trivial, ⟨i + 1, p44, pw, ow1, sp1, SD1, D1, s, es, by simp, by omega, by omega, X75.more (by omega), Kw60.step S75⟩, by simp only; omega⟩
  ·
    refine both (v := 0) S75 X75.base (fun hno => by rw [ha] at hno; cases hno) (fun s2 ha2 h83 SD8 S83 hsd8 K83 l83 => ⟨_, rfl, vif_mk (fun g => by simp at g) (fun _ => vif_mk (fun g => by simp at g) (fun _ => ?_))⟩)
    rw [ha] at ha2
    obtain rfl := Option.some.inj ha2
    have hz : ∀ b, SD6 b → ow2 b = none ∧ b ≠ jp ∧ ¬ SD' b ∧ 2 ≤ b ∧ h.length ≤ b := fun b hb => by
      have h1 := hnol6 b hb
      refine ⟨S75.none (lv60 b hb) (X.j.nol h1).1, (X.j.nol h1).2, fun hs => ?_, by omega, by omega⟩
      have := hsd' b hs; have := lv60 b hb; omega
    have X83 : JJ h h83 ow2 jp (h.length + 1) sp' SD' D' s' (es ++ [l[i]'hil]) (i + 1) :=
      { X75 with j := X75.j.keeps K83 l83 (fun b hb => ⟨(hz b hb).1, (hz b hb).2.1, (hz b hb).2.2.1, (hz b hb).2.2.2.1⟩), base := X75.base.keeps K83 fun b hb => (hz b hb).2.2.2.2 }
    refine ⟨trivial, ⟨i + 1, some ⟨h48.length, 0⟩, h48.length, ow2, sp', SD', D', s', _, by simp, by omega, by omega, X83, SD8, S83, fun b hb => ?_⟩, by simp only; omega⟩
    rcases hsd8 b hb with h1 | h1
    · exact ⟨(hz b h1).1, (hz b h1).2.1⟩
    · exact X75.j.nol h1
  ·
    have B75 := X60.base.jstep S75 X.hjp
    refine both (v := v) S75 B75 (fun hno => by rw [ha] at hno; cases hno) (fun s2 ha2 h83 SD8 S83 hsd8 K83 l83 => ⟨_, rfl, vif_mk (fun g => by simp at g) (fun _ => vif_mk (fun _ => ?_) (fun g => by simp at g; exact absurd g hv))⟩)
    rw [ha] at ha2
    obtain rfl := Option.some.inj ha2
    have hz : ∀ b, SD6 b → ow2 b = none ∧ b ≠ jp ∧ 2 ≤ b ∧ h.length ≤ b := fun b hb => by
      have h1 := hnol6 b hb
      exact ⟨S75.none (lv60 b hb) (X.j.nol h1).1, (X.j.nol h1).2, by omega, by omega⟩
    have R83 := J75.dk.ext (keeps_imp K83 fun b hb => (hz b hb).1) l83
    have B83 := B75.keeps K83 fun b hb => (hz b hb).2.2.2
    obtain ⟨SDw, Sw, hSw⟩ := Kw
    have hc := app_chk ha
    have h26 := sz_small hc (by omega)
    have hck := X.sub
    have Vs := app_vld X.vld ha
    have hpl : D'.pends.length ≤ 1000000 := by
      obtain ⟨f, _, _, _, _, h5⟩ := M75.only
      have hrl : (row (1 + szE es) (encD (l[i]'hil))).length ≤ 340 := row_small hc
      rw [h5]
      have : ∀ (ps : List Bs) (b i : Nat), (pendsOf b i ps).length = ps.length := by
        intro ps
        induction ps with
        | nil => intro b i; rfl
        | cons p ps ih => intro b i; simp [pendsOf, ih]
      rw [this, List.length_take]
      have : (row (1 + szs JE es) (JE.enc (l[i]'hil))).length ≤ 340 := hrl
      omega
    have Kw83 : SK h83 ow2 pw s := by
      have lw := Sw.lv
      have Sw60 := Sw.keeps (X := fun _ => False) (keeps_of_ext x60) (fun _ _ h => h) x60.len
      have Sw75 := Sw60.keeps S75.keeps (fun c hc hx => hx.elim (fun h1 => h1 (hSw c hc).1) (hSw c hc).2) S75.len
      exact ⟨SDw, Sw75.keeps K83 (fun c hc hx => by have := lw c hc; have := hnol6 c hx; omega) l83, fun c hc => S75.none (Sw60.lv c hc) (hSw c hc).1⟩
    have hs1 : s'.2.1.length ≤ s.2.1.length + 1 := app_len1 ha
    have hs2 : szE (edsE s') ≤ szE (es ++ [l[i]'hil]) := sub_szs (edits_sub X.sub ha)
    rw [szE_snoc] at hs2
    have Kn83 : SK h83 ow2 h48.length s' := ⟨SD8, S83, fun b hb => by
      rcases hsd8 b hb with h1 | h1
      · exact (hz b h1).1
      · exact (J75.nol h1).1⟩
    rcases Mid2.crash (keep := keep) J75.dk.ok M75 X.fold ha (by show szE es + sz JE _ ≤ 2000; omega) with M | M
    · exact tail4 (Q := fun v _ => v = .bool true) L B83 R83 hpl hlm M X.vld (by omega) (by omega) X.vld (by omega) Kw83 (.inl rfl) H3 H4 hin (by omega) (fun _ => rfl)
    · exact tail4 (Q := fun v _ => v = .bool true) L B83 R83 hpl hlm M Vs (by omega) (by omega) X.vld (by omega) Kw83 (.inr ⟨_, rfl, Kn83⟩) H3 H4 hin (by omega) (fun _ => rfl))
end
end Go.Proofs.YtnglhicedhcpbaaGreatDoor
