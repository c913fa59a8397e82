import Derived.Test.YtnglhicedhcpbaaGreatDoorIG30
import Derived.Test.YtnglhicedhcpbaaGreatDoorIG31
namespace Go.Proofs.YtnglhicedhcpbaaGreatDoor
open Go.Ab
open Go.Num hiding Bs snoc_ind
open Go.Page hiding Bs get
open Go.Dsk hiding Bs
open Go.Man hiding Bs drop_cons
set_option linter.unusedVariables false
set_option linter.unusedSimpArgs false
theorem DiskR.ok {h : Heap} {ow : Roles} {dp : Nat} {D : DS} (R : DiskR h ow dp D) : DOk D := by
  obtain ⟨_, _, _, _, C⟩ := R
  exact ⟨C.names, C.blocks, C.pfile, C.safe⟩
abbrev foldE (es : List ED) : Option ESt := fold (J := JE) (false, [], zeroD) es
abbrev szE (es : List ED) : Nat := szs JE es
section
variable {h h' : Heap} {ow ow' ow2 : Roles} {jp dp sp : Nat} {SD : Nat → Prop} {D D' : DS} {has : Bool} {done : List ED} {mark : ED} {pages : Nat} {brk : Bool} {Q : AV → Heap → Prop} {s s' : ESt} {es : List ED}
theorem jsays_mid (M : Mid JE D.files D.pends s) : jsays D = s := says_mid M
theorem layP_pends {D : DS} {b pages : Nat} {es : List ED} (h : ∀ d ∈ es, chk d = true) : (layP JE D b pages es).2.1.pends.length ≤ D.pends.length + 340 * es.length := by
  have h1 : (clearP D).2.pends.length ≤ D.pends.length := by
    unfold clearP
    split
    · exact delete_pends
    · exact Nat.le_refl _
  have h2 := create_pends (D := (clearP D).2) (t := nN) (b := b)
  have h3 := (fillP_pends (es := es) (D := ((clearP D).2.create nN b).2) (a := 0) h).1
  have h4 := sync_pends (D := (fillP JE ((clearP D).2.create nN b).2 0 es).2.1) (t := nN)
  have h5 := rename_pends (D := ((fillP JE ((clearP D).2.create nN b).2 0 es).2.1.sync nN).2) (t := nN) (u := nJ)
  unfold layP
  split
  · show (clearP D).2.pends.length ≤ _; omega
  · split
    · show ((clearP D).2.create nN b).2.pends.length ≤ _; omega
    · split
      · omega
      · split
        · show ((fillP JE ((clearP D).2.create nN b).2 0 es).2.1.sync nN).2.pends.length ≤ _; omega
        · show (((fillP JE ((clearP D).2.create nN b).2 0 es).2.1.sync nN).2.rename nN nJ).2.pends.length ≤ _; omega
theorem open_ok (L : Laid h) (o0 : ow 0 = none) (o1 : ow 1 = none) (R : DiskR h ow dp D) (ho : D.off = false) (hp : D.pends = []) (M : Mid JE D.files D.pends s) (V : Vld s.1 s.2.1 s.2.2) (hd : s.2.1.length ≤ 100) (hsz : szE (edsE s) ≤ 2000) (hu : D.used + szE (edsE s) ≤ D.limit)
    (h1 : ∀ jp sp SD h' ow' D', JH h' ow' jp dp sp SD D' s.1 s.2.1 s.2.2 (szE (edsE s)) false → Idle JE D' (edsE s) → D'.off = false → D'.limit = D.limit → (D.left = -1 → D'.left = -1) → DStep ow h ow' h' → h.length ≤ jp → (∀ b, SD b → h.length ≤ b) → Q (.tup [.ptr (some ⟨jp, 0⟩), .int .i64 0]) h')
    (h0 : D.left ≠ -1 → ∀ (v : Int) h' ow' D', v ≠ 0 → DiskR h' ow' dp D' → Mid JE D'.files D'.pends s → D'.limit = D.limit → D'.pends.length ≤ 40000 → DStep ow h ow' h' → Q (.tup [.ptr none, .int .i64 v]) h') : AC Tryz.prog 28 [.ptr (some ⟨dp, 0⟩)] h Q := by
  have hj := jsays_mid M
  have hs := fold_edits V
  have hbig : (fileS D nJ).length ≤ 2300 := by
    unfold fileS
    cases hf : D.find nJ with
    | none => simp
    | some f =>
      have := M.big f (find_mem hf).1
      simp only [List.length_map]; omega
  have hel : (edsE s).length ≤ 101 := by
    show (s.2.1 ++ _ : List ED).length ≤ 101
    rw [List.length_append]
    cases s.1 <;> simp <;> omega
  have hcp : (cleanP D (docNames (namesOf (edsE s)))).2.2.pends.length ≤ 0 := by
    have := cleanL_pends (keep := keepF' (docNames (namesOf (edsE s)))) (l := D.namesL) (D := D) (n := 0)
    rw [hp] at this; exact this
  have hlp : ∀ b, (layP JE (cleanP D (docNames (namesOf (edsE s)))).2.2 b 0 (edsE s)).2.1.pends.length ≤ 40000 := fun b => by
    refine Nat.le_trans (layP_pends (D := (cleanP D (docNames (namesOf (edsE s)))).2.2) (b := b) (pages := 0) (es := edsE s) (vld_chk V)) ?_
    have h2 : 340 * (edsE s).length ≤ 34340 := by omega
    exact Nat.le_trans (Nat.add_le_add hcp h2) (by omega)
  have law := fun b (hb : FreshO D b) => open_mid (J := JE) (b := b) (es := edsE s) (docNames (namesOf (edsE s))) R.ok M ho hp hs hsz hu (by
    unfold FreshO FreshB at hb
    rw [hj] at hb
    exact hb)
  refine k28 L o0 o1 R ho hbig (by rw [hj]; exact hd) (by rw [hp]; simp) (fun b h' ow' hb hne R' S' => ?_) (fun b jp sp SD h' ow' hb he J' S' hjp hsd V' => ?_)
  · unfold openP at hne R' ⊢
    rw [hj] at hne R' ⊢
    rcases law b hb with ⟨a1, a2, _⟩ | ⟨a1, a2, G⟩ | ⟨a1, G⟩
    · rw [if_neg (by omega)] at hne
      exact absurd a2 hne
    · rw [if_neg (by omega)] at hne R' ⊢
      exact h0 G.lft _ h' ow' _ hne R' G.mid (layP_limit.trans cleanP_limit) (hlp b) S'
    · rw [if_pos a1] at hne R' ⊢
      exact h0 G.lft _ h' ow' _ hne R' G.mid cleanP_limit (Nat.le_trans hcp (by omega)) S'
  · rw [hj] at J'
    unfold openP at he J'
    rw [hj] at he J'
    rcases law b hb with ⟨a1, a2, a3, a4, a5, a6, a7⟩ | ⟨a1, a2, G⟩ | ⟨a1, G⟩
    · rw [if_neg (by omega)] at he J'
      rw [a4] at J'
      exact h1 jp sp SD h' ow' _ J' a3 a5 a6 a7 S' hjp hsd
    · rw [if_neg (by omega)] at he
      exact absurd he a2
    · rw [if_pos a1] at he
      exact absurd he a1
variable (J : JH h ow jp dp sp SD D has done mark pages brk)
include J
theorem commit_ok {e : EV} {d : ED} (hR : EdR h e d) (hre : ∀ s, e.2.2.2 = some s → ow s.b = none ∧ s.b ≠ jp) (hb : brk = false) (I : Idle JE D es) (ho : D.off = false) (hf : foldE es = some (has, done, mark)) (V : Vld has done mark) (hd : done.length ≤ 99) (hpg : pages = szE es) (hpg2 : pages ≤ 100000) (hu : szE es + sz JE d ≤ D.limit)
    (h0 : appE (has, done, mark) d = none → ∀ (v : Int) h', v ≠ 0 → JH h' ow jp dp sp SD D has done mark pages false → JStep ow jp h ow h' → Q (.int .i64 v) h')
    (h1 : ∀ s', appE (has, done, mark) d = some s' → ∀ sp' SD' h' ow' D', (∀ b, SD' b → h.length ≤ b) → JH h' ow' jp dp sp' SD' D' s'.1 s'.2.1 s'.2.2 (szE (es ++ [d])) false → Idle JE D' (es ++ [d]) → D'.off = false → D'.limit = D.limit → (D.left = -1 → D'.left = -1) → D'.left = ((addP D nJ (row (1 + szE es) (encD d))).2.1.sync nJ).2.left → JStep ow jp h ow' h' → Q (.int .i64 0) h')
    (h2 : ∀ s', appE (has, done, mark) d = some s' → D.left ≠ -1 → ((addP D nJ (row (1 + szE es) (encD d))).1 ≠ 0 ∨ ((addP D nJ (row (1 + szE es) (encD d))).2.1.sync nJ).1 ≠ 0) → ∀ (v : Int) h' ow' D' m pg, v ≠ 0 → JH h' ow' jp dp sp SD D' has done mark pg true → Mid2 JE D'.files D'.pends es d m → D'.limit = D.limit → JStep ow jp h ow' h' → Q (.int .i64 v) h') :
    AC Tryz.prog 33 [.ptr (some ⟨jp, 0⟩), evV e] h Q := by
  have law := commit_idle (J := JE) (e := d) J.dk.ok I ho hu
  have hpn : D.pends.length ≤ 50000 := by
    obtain ⟨f, _, _, _, _, h5⟩ := I
    rw [h5]; simp
  refine k33 J hR hre hb V hd hpn (by omega) (fun hno h' J' S' => ?_) (fun hy hz h' ow' J' S' => ?_) (fun hy hz hy2 h' ow' J' S' => ?_) (fun hy hz hy2 sp' SD' h' ow' hsd' J' S' => ?_)
  · have hv : resV has done mark d ≠ 0 := by
      unfold resV
      cases hc : chk d with
      | false => simp
      | true =>
        rw [hc, Bool.true_and] at hno
        rw [hno]; simp
    exact h0 (by unfold appE; rw [hno]; rfl) _ h' hv J' S'
  · have ha : appE (has, done, mark) d = some (nHas d, nDone done d, nMark d) := by unfold appE; simp only; rw [hy]; rfl
    rw [hpg] at hz J' ⊢
    rcases law with ⟨a1, _⟩ | ⟨a1, _⟩ | ⟨a1, G⟩
    · exact absurd a1 hz
    · exact absurd a1 hz
    · obtain ⟨m, hm⟩ := G.mid
      exact h2 _ ha G.lft (.inl hz) _ h' ow' _ m _ hz J' hm addP_limit S'
  · have ha : appE (has, done, mark) d = some (nHas d, nDone done d, nMark d) := by unfold appE; simp only; rw [hy]; rfl
    rw [hpg] at hz hy2 J' ⊢
    rcases law with ⟨a1, a2, a3, _⟩ | ⟨a1, a2, G⟩ | ⟨a1, G⟩
    · exact absurd a3 hy2
    · obtain ⟨m, hm⟩ := G.mid
      exact h2 _ ha G.lft (.inr hy2) _ h' ow' _ m _ hy2 J' hm (sync_limit.trans addP_limit) S'
    · exact absurd hz a1
  · have ha : appE (has, done, mark) d = some (nHas d, nDone done d, nMark d) := by unfold appE; simp only; rw [hy]; rfl
    rw [hpg] at hz hy2 J'
    rcases law with ⟨a1, a2, a3, a4, a5, a6, a7⟩ | ⟨a1, a2, G⟩ | ⟨a1, G⟩
    · have e1 : szE es + (addP D nJ (row (1 + szE es) (encD d))).2.2 = szE (es ++ [d]) := by
        have a2 : (addP D nJ (row (1 + szE es) (encD d))).2.2 = sz JE d := a2
        rw [a2]
        show szs JE es + sz JE d = szs JE (es ++ [d])
        simp [szs]
      rw [e1] at J'
      exact h1 _ ha sp' SD' h' ow' _ hsd' J' a4 a5 a6 a7 rfl S'
    · exact absurd hy2 a2
    · exact absurd hz a1
end
theorem Base.jstep {h0 h h' : Heap} {ow ow' : Roles} {jp : Nat} (B : Base h0 ow h) (S : JStep ow jp h ow' h') (hj : h0.length ≤ jp) : Base h0 ow' h' := by
  refine ⟨fun b hb => ?_, fun b X hX => ?_⟩
  · rcases S.own b hb with h1 | h1
    · exact B.new b h1
    · have := B.ext.len; omega
  · have hlt := lt_of_get hX
    refine S.keeps b X (fun hx => ?_) (B.ext _ _ hX)
    rcases hx with h1 | h1
    · have := B.new b h1; omega
    · omega
theorem Base.grow {h0 h h' : Heap} {ow : Roles} (B : Base h0 ow h) (x : Ext h h') : Base h0 ow h' := ⟨B.new, B.ext.trans x⟩
theorem Base.none {h0 h : Heap} {ow : Roles} (B : Base h0 ow h) (b : Nat) (hb : b < h0.length) : ow b = none := by
  cases hc : ow b with
  | none => rfl
  | some r => have := B.new b (by rw [hc]; simp); omega
theorem Idle_crash {D : DS} {es : List ED} {keep : List Int} (I : Idle JE D es) : Idle JE (D.crash keep) es := by
  obtain ⟨f, h1, h2, h3, h4, h5⟩ := I
  refine ⟨{ f with now := f.safe }, ?_, h2, h4, h4, rfl⟩
  show crash2 (crash1 D.files D.pends keep) = _
  unfold crash1
  rw [h5, h1]
  rfl
theorem mid_empty {n : Int} : Mid JE (emptyD n).files (emptyD n).pends (false, [], zeroD) :=
  ⟨fun f h => (by cases h), fun f h => (by cases h), fun _ => rfl, fun f h => (by cases h)⟩
theorem Idle.mid' {D : DS} {es : List ED} {s : ESt} (I : Idle JE D es) (hs : foldE es = some s) (hb : szE es ≤ 2000) : Mid JE D.files D.pends s := Idle.mid I hs hb
section
variable {h : Heap} {Q : AV → Heap → Prop}
theorem k49 {a b c : Int} {s : Bs} (hQ : ∀ (e : EV) h', Ext h h' → EdR h' e (a, b, c, [(s, 300, 2)]) → (∀ t, e.2.2.2 = some t → h.length ≤ t.b) → Q (evV e) h') : AC Tryz.prog 49 [.int .i64 a, .int .i64 b, .int .i64 c, .str s] h Q := ac49 (by
  unfold vc49
  simp only [PNew]
  exact hQ (a, b, c, some ⟨h.length, 0, 1, 1, 0⟩) _ (.app _ _) ⟨rfl, rfl, rfl, HasL.new (E := refE) (l := [(s, 300, 2)]) rfl rfl⟩ (fun t ht => by cases ht; exact Nat.le_refl _))
abbrev dA : ED := (1, 0, 1, [([115], 300, 2)])
abbrev dB : ED := (2, 0, 0, [([116], 300, 2)])
theorem app_A : appE (false, [], zeroD) dA = some (true, [], dA) := by kernel_rfl
theorem app_B : appE (true, [], dA) dB = some (false, [dB], zeroD) := by kernel_rfl
theorem sz_A : sz JE dA = 1 := by kernel_rfl
theorem sz_1 : szE [dA] = 1 := by kernel_rfl
theorem sz_B : sz JE dB = 1 := by kernel_rfl
theorem two_deeds {D : DS} {es : List ED} {d : ED} (I : Idle JE D es) (ho : D.off = false) (hl : D.left = 2) (h1 : sz JE d = 1) (hu : szE es + 1 ≤ D.limit) :
    (addP D nJ (row (1 + szE es) (encD d))).1 = 0 ∧ ((addP D nJ (row (1 + szE es) (encD d))).2.1.sync nJ).1 = 0 := by
  have hr : (row (1 + szE es) (encD d)).length = 1 := by
    have : (row (1 + szE es) (JE.enc d)).length = sz JE d := sz_row
    rw [h1] at this; exact this
  obtain ⟨p, hp⟩ := List.length_eq_one_iff.1 hr
  have h64 : p.length = 64 := (row_get _ _ _ (Nat.le_refl _) 0 p (by rw [hp]; rfl)).2
  obtain ⟨f, i1, i2, i3, i4, i5⟩ := I
  have hf : D.find nJ = some f := by unfold DS.find; rw [i1]; simp [i2]
  have hused : D.used = szE es := by
    unfold DS.used
    rw [i1]
    simp [i3, rows_len]
  have ha : D.append nJ p = (0, { D with left := 1, files := upF D.files { f with now := f.now ++ [p] }, pends := D.pends ++ [(f.b, f.now.length, p)] }) := by
    unfold DS.append
    rw [if_neg (by simp [h64]), if_neg (by simp [ho]), hf]
    simp only
    rw [if_neg (by omega)]
    unfold DS.deed
    rw [hl]
    simp
  rw [hp, addP_one, ha]
  have hf2 : DS.find ({ D with left := 1, files := upF D.files { f with now := f.now ++ [p] }, pends := D.pends ++ [(f.b, f.now.length, p)] } : DS) nJ = some { f with now := f.now ++ [p] } := by
    unfold DS.find
    simp only [i1, upF]
    simp [i2]
  have ho2 : ({ D with left := 1, files := upF D.files { f with now := f.now ++ [p] }, pends := D.pends ++ [(f.b, f.now.length, p)] } : DS).off = false := ho
  have hl2 : ({ D with left := 1, files := upF D.files { f with now := f.now ++ [p] }, pends := D.pends ++ [(f.b, f.now.length, p)] } : DS).left = 1 := rfl
  simp only [if_true]
  refine ⟨trivial, ?_⟩
  generalize ({ D with left := 1, files := upF D.files { f with now := f.now ++ [p] }, pends := D.pends ++ [(f.b, f.now.length, p)] } : DS) = D2 at *
  unfold DS.sync
  rw [if_neg (by simp [ho2]), hf2]
  simp only
  unfold DS.deed
  rw [hl2]
  simp
theorem s27 (L : Laid h) (hQ : ∀ h', Ext h h' → Q (.bool true) h') : AC Tryz.prog 27 [] h Q := ac27 (by
  unfold vc27
  have hl2 := L.len
  refine d26 (by omega) (by omega) fun ow R hnew => ⟨_, _, rfl, vif_mk (fun g => by simp at g) (fun _ => vif_mk (fun g => by cases g) (fun _ => ?_))⟩
  have x2 : Ext h ((h ++ [Blk.mp [] 0]) ++ [.cells [.map (some h.length), .sl none, .int .i64 50, .int .i64 (-1), .bool false] true]) := (Ext.app _ _).trans (.app _ _)
  have B2 : Base h ow ((h ++ [Blk.mp [] 0]) ++ [.cells [.map (some h.length), .sl none, .int .i64 50, .int .i64 (-1), .bool false] true]) := ⟨hnew, x2⟩
  generalize ((h ++ [Blk.mp [] 0]) ++ [.cells [.map (some h.length), .sl none, .int .i64 50, .int .i64 (-1), .bool false] true]) = h2 at *
  refine open_ok (s := (false, [], zeroD)) (L.ext x2) (B2.none 0 (by omega)) (B2.none 1 (by omega)) R rfl rfl mid_empty vld0 (by simp) (show 0 ≤ 2000 by omega) (show ((0 : Nat) + 0 : Nat) ≤ (50 : Int) by omega) (fun jp sp SD h6 ow6 D6 J6 I6 ho6 hl6 hf6 S6 hjp hsd => ⟨_, _, rfl, vif_mk (fun g => by cases g) (fun _ => ?_)⟩) (fun hne => absurd rfl hne)
  have B6 := B2.step S6
  have hjp0 : h.length ≤ jp := by have := x2.len; omega
  have hf6 := hf6 rfl
  refine k49 fun e1 h10 x10 R10 hr10 => ⟨_, _, _, _, rfl, ?_⟩
  have J10 := J6.ext x10
  have B10 := B6.grow x10
  refine commit_ok J10 (es := []) R10 (fun t ht => J6.nol (hr10 t ht)) rfl I6 ho6 rfl vld0 (by simp) rfl (by rw [show szE (edsE (false, [], zeroD)) = 0 from rfl]; omega) (by rw [hl6]; show ((0 + sz JE dA : Nat) : Int) ≤ 50; rw [sz_A]; omega) (fun hn => by rw [app_A] at hn; cases hn) (fun s' ha sp1 SD1 h16 ow16 D16 _ J16 I16 ho16 hl16 hf16 _ S16 => ⟨_, rfl, ?_⟩) (fun s' _ hne => absurd hf6 hne)
  rw [app_A] at ha
  cases ha
  have B16 := B10.jstep S16 hjp0
  refine d29 J16.dk (by omega) (by omega) fun h19 R19 S19 => ⟨_, rfl, ?_⟩
  have J19 := J16.step S19 R19
  have B19 := B16.step S19
  refine k49 fun e2 h22 x22 R22 hr22 => ⟨_, _, _, _, rfl, ?_⟩
  have J22 := J19.ext x22
  have B22 := B19.grow x22
  have VA : Vld true [] dA := vld0.step (d := dA) (by kernel_rfl)
  have hlim : (16 : Int) ≤ D16.limit := by rw [hl16, hl6]; show (16 : Int) ≤ 50; omega
  have td := two_deeds (D := { D16 with left := 2 }) (es := [dA]) (d := dB) I16 ho16 rfl sz_B (by show ((szE [dA] + 1 : Nat) : Int) ≤ D16.limit; rw [sz_1]; omega)
  refine commit_ok J22 (es := [dA]) R22 (fun t ht => J19.nol (hr22 t ht)) rfl I16 ho16 (by kernel_rfl) VA (by simp) rfl (by rw [show szE ([] ++ [dA]) = 1 by kernel_rfl]; omega) (by show ((szE [dA] + sz JE dB : Nat) : Int) ≤ D16.limit; rw [sz_B]; rw [sz_1]; omega) (fun hn => by rw [app_B] at hn; cases hn) (fun s' ha sp2 SD2 h28 ow28 D28 _ J28 I28 ho28 hl28 hf28 _ S28 => ⟨_, rfl, ?_⟩) (fun s' _ _ hbad => by rcases hbad with hb | hb; exact absurd td.1 hb; exact absurd td.2 hb)
  rw [app_B] at ha
  cases ha
  have B28 := B22.jstep S28 hjp0
  simp only [PNew]
  have x31 : Ext h28 (h28 ++ [Blk.cells [.int .i64 64] true]) := .app _ _
  have J31 := J28.ext x31
  have B31 := B28.grow x31
  refine d34 J31.dk (keep := [64]) (HasL.new (E := intE) (l := [64]) rfl rfl) (fun t ht => by cases ht; exact (J28.nol (Nat.le_refl _)).1) (by obtain ⟨f, _, _, _, _, h5⟩ := I28; rw [h5]; simp) fun h33 ow33 R33 S33 => ⟨rfl, ?_⟩
  have B33 := B31.step S33
  have I33 := Idle_crash (keep := [64]) I28
  have hs2 : foldE ([dA] ++ [dB]) = some (false, [dB], zeroD) := by kernel_rfl
  have hsz2 : szE ([dA] ++ [dB]) = 2 := by kernel_rfl
  have VB : Vld false [dB] zeroD := VA.step (d := dB) (by kernel_rfl)
  have hused : (D28.crash [64]).used = 2 := by rw [Idle.used I33]; exact hsz2
  have c31 := J31.jc
  have o33 : ow33 jp = none := (JStep.disk (jp := jp) S33).none J31.jl J31.jo
  have c33 := S33.keeps _ _ (fun hx => hx J31.jo) c31
  refine open_ok (s := (false, [dB], zeroD)) (L.ext B33.ext) (B33.none 0 (by omega)) (B33.none 1 (by omega)) R33 rfl rfl (Idle.mid' I33 hs2 (by rw [hsz2]; omega)) VB (by simp) (by rw [show szE (edsE (false, [dB], zeroD)) = 1 by kernel_rfl]; omega) (by
      rw [show szE (edsE (false, [dB], zeroD)) = 1 by kernel_rfl, hused]
      show ((2 + 1 : Nat) : Int) ≤ D28.limit
      rw [hl28]
      show ((2 + 1 : Nat) : Int) ≤ D16.limit
      omega) (fun jp2 sp3 SD3 h35 ow35 D35 J35 I35 ho35 hl35 hf35 S35 hjp2 hsd2 => ⟨_, _, rfl, ?_⟩) (fun hne => absurd rfl hne)
  have B35 := B33.step S35
  have c35 := S35.keeps _ _ (fun hx => hx o33) c33
  refine k28n ⟨_, _, rfl, ?_⟩
  refine vif_mk (fun _ => ?_) (fun g => by simp at g)
  refine vif_mk (fun _ => ?_) (fun g => by simp at g)
  refine vif_mk (fun _ => ?_) (fun g => by simp at g)
  refine vif_mk (fun _ => ?_) (fun g => by simp at g)
  refine vif_mk (fun _ => ?_) (fun g => by simp at g)
  refine vif_mk (fun _ => ?_) (fun g => by cases g)
  refine k35 J35 VB (by simp) fun p44 SD4 h43 x43 hs4 S43 => ⟨_, rfl, ?_⟩
  have J43 := J35.ext x43
  refine v46 S43.view ⟨_, rfl, vif_mk (fun _ => ?_) (fun g => by simp at g)⟩
  refine k47 J43 ⟨_, rfl, ?_⟩
  rw [show szE (edsE (false, [dB], zeroD)) = 1 by kernel_rfl]
  refine vif_mk (fun _ => ?_) (fun g => by simp at g)
  refine k48 J43 ⟨_, rfl, vif_mk (fun _ => ?_) (fun g => by simp at g)⟩
  refine ac47 ?_
  unfold vc47
  refine vif_mk (fun g => by cases g) (fun _ => ⟨((szE ([dA] ++ [dB]) : Nat) : Int), ?_, _, rfl, ?_⟩)
  · have := cells6 (x43 _ _ c35) (o := 2) (k := 1) (by simp)
    simpa using this
  · rw [hsz2]
    exact vif_mk (fun _ => hQ _ (B35.ext.trans x43)) (fun g => by simp at g))
end
section
variable {h : Heap} {Q : AV → Heap → Prop}
theorem s6 {e : EV} (L : Laid h) : AC Tryz.prog 6 [evV e] h fun v _ => v = .bool true := ac6 (by
  unfold vc6
  refine k43n ⟨_, _, rfl, s27 L fun h1 x1 => ⟨_, rfl, vif_mk (fun _ => ?_) (fun g => by cases g)⟩⟩
  refine k33n fun h2 x2 => ⟨_, rfl, vif_mk (fun _ => ?_) (fun g => by simp at g)⟩
  refine k45n ⟨_, rfl, vif_mk (fun _ => ?_) (fun g => by simp at g)⟩
  refine k35n ⟨_, rfl, vif_mk (fun _ => ?_) (fun g => by cases g)⟩
  refine k35n ⟨_, rfl, ?_⟩
  refine v46 fresh2.view ⟨_, rfl, vif_mk (fun _ => ?_) (fun g => by simp at g)⟩
  refine k47n ⟨_, rfl, vif_mk (fun _ => ?_) (fun g => by simp at g)⟩
  exact k48n ⟨_, rfl, vif_mk (fun _ => rfl) (fun g => by cases g)⟩)
end
end Go.Proofs.YtnglhicedhcpbaaGreatDoor



