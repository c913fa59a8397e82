import Derived.Test.YtnglhicedhcpbaaGreatDoorLG32
import Derived.Test.YtnglhicedhcpbaaGreatDoorLG35
import Derived.Test.YtnglhicedhcpbaaGreatDoorLG36
namespace Go.Proofs.YtnglhicedhcpbaaGreatDoor
open Go.Ab
open Go.Num hiding Bs snoc_ind
open Go.Page hiding Bs get
open Go.Dsk hiding Bs
open Go.Man hiding Bs drop_cons
set_option linter.unusedVariables false
set_option linter.unusedSimpArgs false
theorem yX.ok {h : Heap} {ow : zO} {dp : Nat} {D : DS} (R : yX h ow dp D) : DOk D := by
 obtain ⟨_, _, _, _, C⟩ := R
 exact ⟨C.names, C.blocks, C.pfile, C.safe⟩
abbrev foldE (es : List ED) : Option ESt := fold (J := JE) (false, [], xQ) es
abbrev szE (es : List ED) : Nat := szs JE es
section
variable {h h' : Heap} {ow ow' ow2 : zO} {jp dp sp : Nat} {SD : Nat -> Prop} {D D' : DS} {has : Bool} {done : List ED} {mark : ED} {pages : Nat} {brk : Bool} {Q : AHp} {s s' : ESt} {es : List ED}
theorem zOE (M : Mid JE D.files D.pends s) : xT D = s := zPX M
theorem zLT {D : DS} {b pages : Nat} {es : List ED} (h : ∀ d ∈ es, chk d = true) : (layP JE D b pages es).2.1.pends.length <= D.pends.length + 340 * es.length := by
 have h1 : (zP D).2.pends.length <= D.pends.length := by
  unfold zP
  split
  ·exact kL
  ·exact Nat.le_refl _
 have h2 := zA5 (D := (zP D).2) (t := nN) (b := b)
 have h3 := (zB2 (es := es) (D := ((zP D).2.create nN b).2) (a := 0) h).1
 have h4 := zFC (D := (yQ JE ((zP D).2.create nN b).2 0 es).2.1) (t := nN)
 have h5 := zDG (D := ((yQ JE ((zP D).2.create nN b).2 0 es).2.1.sync nN).2) (t := nN) (u := nJ)
 unfold layP
 split
 ·show (zP D).2.pends.length <= _; omega
 ·split
  ·show ((zP D).2.create nN b).2.pends.length <= _; omega
  ·split
   ·omega
   ·split
    ·show ((yQ JE ((zP D).2.create nN b).2 0 es).2.1.sync nN).2.pends.length <= _; omega
    ·show (((yQ JE ((zP D).2.create nN b).2 0 es).2.1.sync nN).2.rename nN nJ).2.pends.length <= _; omega
theorem zJA (L : Laid h) (o0 : ow 0 = none) (o1 : ow 1 = none) (R : yX h ow dp D) (ho : D.off = false) (hp : D.pends = []) (M : Mid JE D.files D.pends s) (V : Vld s.1 s.2.1 s.2.2) (hd : s.2.1.length <= 100) (hsz : szE (edsE s) <= 2000) (hu : D.used + szE (edsE s) <= D.limit)
  (h1 : ∀ jp sp SD h' ow' D', JH h' ow' jp dp sp SD D' s.1 s.2.1 s.2.2 (szE (edsE s)) false -> Idle JE D' (edsE s) -> D'.off = false -> D'.limit = D.limit -> (D.left = -1 -> D'.left = -1) -> yY ow h ow' h' -> h.length <= jp -> (∀ b, SD b -> h.length <= b) -> Q (.tup [.ptr (some ⟨jp, 0⟩), .int .i64 0]) h')
  (h0 : D.left ≠ -1 -> ∀ (v : Int) h' ow' D', v ≠ 0 -> yX h' ow' dp D' -> Mid JE D'.files D'.pends s -> D'.limit = D.limit -> D'.pends.length <= 40000 -> yY ow h ow' h' -> Q (.tup [.ptr none, .int .i64 v]) h') : AC Tryz.prog 28 [.ptr (some ⟨dp, 0⟩)] h Q := by
 have hj := zOE M
 have hs := zFP V
 have hbig : (zIC D nJ).length <= 2300 := by
  unfold zIC
  cases hf : D.find nJ with
  | none => simp
  | some f =>
   have := M.big f (jN hf).1
   simp only [List.length_map]; omega
 have hel : (edsE s).length <= 101 := by
  show (s.2.1 ++ _ : List ED).length <= 101
  rw [List.length_append]
  cases s.1 <;> simp <;> omega
 have hcp : (yJ D (zN (zS (edsE s)))).2.2.pends.length <= 0 := by
  have := vL (keep := vA (zN (zS (edsE s)))) (l := D.namesL) (D := D) (n := 0)
  rw [hp] at this; exact this
 have hlp : ∀ b, (layP JE (yJ D (zN (zS (edsE s)))).2.2 b 0 (edsE s)).2.1.pends.length <= 40000 := fun b => by
  refine Nat.le_trans (zLT (D := (yJ D (zN (zS (edsE s)))).2.2) (b := b) (pages := 0) (es := edsE s) (zD7 V)) ?_
  have h2 : 340 * (edsE s).length <= 34340 := by omega
  exact Nat.le_trans (Nat.add_le_add hcp h2) (by omega)
 have law := fun b (hb : zIV D b) => zQC (J := JE) (b := b) (es := edsE s) (zN (zS (edsE s))) R.ok M ho hp hs hsz hu (by
  unfold zIV zDW at hb
  rw [hj] at hb
  exact hb)
 refine k28 L o0 o1 R ho hbig (by rw [hj]; exact hd) (by rw [hp]; simp) (fun b h' ow' hb hne R' S' => ?_) (fun b jp sp SD h' ow' hb he J' S' hjp hsd V' => ?_)
 ·unfold zDY at hne R' ⊢
  rw [hj] at hne R' ⊢
  rcases law b hb with ⟨a1, a2, _⟩ | ⟨a1, a2, G⟩ | ⟨a1, G⟩
  ·rw [if_neg (by omega)] at hne
   exact absurd a2 hne
  ·rw [if_neg (by omega)] at hne R' ⊢
   exact h0 G.lft _ h' ow' _ hne R' G.mid (zLU.trans zDT) (hlp b) S'
  ·rw [if_pos a1] at hne R' ⊢
   exact h0 G.lft _ h' ow' _ hne R' G.mid zDT (Nat.le_trans hcp (by omega)) S'
 ·rw [hj] at J'
  unfold zDY at he J'
  rw [hj] at he J'
  rcases law b hb with ⟨a1, a2, a3, a4, a5, a6, a7⟩ | ⟨a1, a2, G⟩ | ⟨a1, G⟩
  ·rw [if_neg (by omega)] at he J'
   rw [a4] at J'
   exact h1 jp sp SD h' ow' _ J' a3 a5 a6 a7 S' hjp hsd
  ·rw [if_neg (by omega)] at he
   exact absurd he a2
  ·rw [if_pos a1] at he
   exact absurd he a1
variable (J : JH h ow jp dp sp SD D has done mark pages brk)
include J
theorem zIH {e : EV} {d : ED} (hR : EdR h e d) (hre : ∀ s, e.2.2.2 = some s -> ow s.b = none /\ s.b ≠ jp) (hb : brk = false) (I : Idle JE D es) (ho : D.off = false) (hf : foldE es = some (has, done, mark)) (V : Vld has done mark) (hd : done.length <= 99) (hpg : pages = szE es) (hpg2 : pages <= 100000) (hu : szE es + sz JE d <= D.limit)
  (h0 : appE (has, done, mark) d = none -> ∀ (v : Int) h', v ≠ 0 -> JH h' ow jp dp sp SD D has done mark pages false -> yL ow jp h ow h' -> Q (.int .i64 v) h')
  (h1 : ∀ s', appE (has, done, mark) d = some s' -> ∀ sp' SD' h' ow' D', (∀ b, SD' b -> h.length <= b) -> JH h' ow' jp dp sp' SD' D' s'.1 s'.2.1 s'.2.2 (szE (es ++ [d])) false -> Idle JE D' (es ++ [d]) -> D'.off = false -> D'.limit = D.limit -> (D.left = -1 -> D'.left = -1) -> D'.left = ((addP D nJ (row (1 + szE es) (encD d))).2.1.sync nJ).2.left -> yL ow jp h ow' h' -> Q (.int .i64 0) h')
  (h2 : ∀ s', appE (has, done, mark) d = some s' -> D.left ≠ -1 -> ((addP D nJ (row (1 + szE es) (encD d))).1 ≠ 0 ∨ ((addP D nJ (row (1 + szE es) (encD d))).2.1.sync nJ).1 ≠ 0) -> ∀ (v : Int) h' ow' D' m pg, v ≠ 0 -> JH h' ow' jp dp sp SD D' has done mark pg true -> Mid2 JE D'.files D'.pends es d m -> D'.limit = D.limit -> yL ow jp h ow' h' -> Q (.int .i64 v) h') :
  AC Tryz.prog 33 [.ptr (some ⟨jp, 0⟩), evV e] h Q := by
 have law := zJN (J := JE) (e := d) J.dk.ok I ho hu
 have hpn : D.pends.length <= 50000 := by
  obtain ⟨f, _, _, _, _, h5⟩ := I
  rw [h5]; simp
 refine k33 J hR hre hb V hd hpn (by omega) (fun hno h' J' S' => ?_) (fun hy hz h' ow' J' S' => ?_) (fun hy hz hy2 h' ow' J' S' => ?_) (fun hy hz hy2 sp' SD' h' ow' hsd' J' S' => ?_)
 ·have hv : resV has done mark d ≠ 0 := by
   unfold resV
   cases hc : chk d with
   | false => simp
   | true =>
    rw [hc, Bool.true_and] at hno
    rw [hno]; simp
  exact h0 (by unfold appE; rw [hno]; rfl) _ h' hv J' S'
 ·have ha : appE (has, done, mark) d = some (nHas d, xV done d, kQ d) := by unfold appE; simp only; rw [hy]; rfl
  rw [hpg] at hz J' ⊢
  rcases law with ⟨a1, _⟩ | ⟨a1, _⟩ | ⟨a1, G⟩
  ·exact absurd a1 hz
  ·exact absurd a1 hz
  ·obtain ⟨m, hm⟩ := G.mid
   exact h2 _ ha G.lft (.inl hz) _ h' ow' _ m _ hz J' hm zAA S'
 ·have ha : appE (has, done, mark) d = some (nHas d, xV done d, kQ d) := by unfold appE; simp only; rw [hy]; rfl
  rw [hpg] at hz hy2 J' ⊢
  rcases law with ⟨a1, a2, a3, _⟩ | ⟨a1, a2, G⟩ | ⟨a1, G⟩
  ·exact absurd a3 hy2
  ·obtain ⟨m, hm⟩ := G.mid
   exact h2 _ ha G.lft (.inr hy2) _ h' ow' _ m _ hy2 J' hm (zCT.trans zAA) S'
  ·exact absurd hz a1
 ·have ha : appE (has, done, mark) d = some (nHas d, xV done d, kQ d) := by unfold appE; simp only; rw [hy]; rfl
  rw [hpg] at hz hy2 J'
  rcases law with ⟨a1, a2, a3, a4, a5, a6, a7⟩ | ⟨a1, a2, G⟩ | ⟨a1, G⟩
  ·have e1 : szE es + (addP D nJ (row (1 + szE es) (encD d))).2.2 = szE (es ++ [d]) := by
    have a2 : (addP D nJ (row (1 + szE es) (encD d))).2.2 = sz JE d := a2
    rw [a2]
    show szs JE es + sz JE d = szs JE (es ++ [d])
    simp [szs]
   rw [e1] at J'
   exact h1 _ ha sp' SD' h' ow' _ hsd' J' a4 a5 a6 a7 rfl S'
  ·exact absurd hy2 a2
  ·exact absurd hz a1
end
theorem Base.jstep {h0 h h' : Heap} {ow ow' : zO} {jp : Nat} (B : Base h0 ow h) (S : yL ow jp h ow' h') (hj : h0.length <= jp) : Base h0 ow' h' := by
 refine ⟨fun b hb => ?_, fun b X hX => ?_⟩
 ·rcases S.own b hb with h1 | h1
  ·exact B.new b h1
  ·have := B.ext.len; omega
 ·have hlt := zD hX
  refine S.keeps b X (fun hx => ?_) (B.ext _ _ hX)
  rcases hx with h1 | h1
  ·have := B.new b h1; omega
  ·omega
theorem Base.grow {h0 h h' : Heap} {ow : zO} (B : Base h0 ow h) (x : Ext h h') : Base h0 ow h' := ⟨B.new, B.ext.trans x⟩
theorem Base.none {h0 h : Heap} {ow : zO} (B : Base h0 ow h) (b : Nat) (hb : b < h0.length) : ow b = none := by
 cases hc : ow b with
 | none => rfl
 | some r => have := B.new b (by rw [hc]; simp); omega
theorem zMX {D : DS} {es : List ED} {keep : List Int} (I : Idle JE D es) : Idle JE (D.crash keep) es := by
 obtain ⟨f, h1, h2, h3, h4, h5⟩ := I
 refine ⟨{ f with now := f.safe }, ?_, h2, h4, h4, rfl⟩
 show zIG (jH D.files D.pends keep) = _
 unfold jH
 rw [h5, h1]
 rfl
theorem zH0 {n : Int} : Mid JE (yB n).files (yB n).pends (false, [], xQ) :=
 ⟨fun f h => (by cases h), fun f h => (by cases h), fun _ => rfl, fun f h => (by cases h)⟩
theorem Idle.mid' {D : DS} {es : List ED} {s : ESt} (I : Idle JE D es) (hs : foldE es = some s) (hb : szE es <= 2000) : Mid JE D.files D.pends s := Idle.mid I hs hb
section
variable {h : Heap} {Q : AHp}
theorem k49 {a b c : Int} {s : Bs} (hQ : ∀ (e : EV) h', Ext h h' -> EdR h' e (a, b, c, [(s, 300, 2)]) -> (∀ t, e.2.2.2 = some t -> h.length <= t.b) -> Q (evV e) h') : AC Tryz.prog 49 [.int .i64 a, .int .i64 b, .int .i64 c, .str s] h Q := ac49 (by
 unfold vc49
 simp only [PNew]
 exact hQ (a, b, c, some ⟨h.length, 0, 1, 1, 0⟩) _ (.app _ _) ⟨rfl, rfl, rfl, HasL.new (E := refE) (l := [(s, 300, 2)]) rfl rfl⟩ (fun t ht => by cases ht; exact Nat.le_refl _))
abbrev dA : ED := (1, 0, 1, [([115], 300, 2)])
abbrev dB : ED := (2, 0, 0, [([116], 300, 2)])
theorem app_A : appE (false, [], xQ) dA = some (true, [], dA) := by kernel_rfl
theorem app_B : appE (true, [], dA) dB = some (false, [dB], xQ) := by kernel_rfl
theorem sz_A : sz JE dA = 1 := by kernel_rfl
theorem sz_1 : szE [dA] = 1 := by kernel_rfl
theorem sz_B : sz JE dB = 1 := by kernel_rfl
theorem zM6 {D : DS} {es : List ED} {d : ED} (I : Idle JE D es) (ho : D.off = false) (hl : D.left = 2) (h1 : sz JE d = 1) (hu : szE es + 1 <= D.limit) :
  (addP D nJ (row (1 + szE es) (encD d))).1 = 0 /\ ((addP D nJ (row (1 + szE es) (encD d))).2.1.sync nJ).1 = 0 := by
 have hr : (row (1 + szE es) (encD d)).length = 1 := by
  have : (row (1 + szE es) (JE.enc d)).length = sz JE d := sz_row
  rw [h1] at this; exact this
 obtain ⟨p, hp⟩ := List.length_eq_one_iff.1 hr
 have h64 : p.length = 64 := (vR _ _ _ (Nat.le_refl _) 0 p (by rw [hp]; rfl)).2
 obtain ⟨f, i1, i2, i3, i4, i5⟩ := I
 have hf : D.find nJ = some f := by unfold DS.find; rw [i1]; simp [i2]
 have hused : D.used = szE es := by
  unfold DS.used
  rw [i1]
  simp [i3, vF]
 have ha : D.append nJ p = (0, { D with left := 1, files := upF D.files { f with now := f.now ++ [p] }, pends := D.pends ++ [(f.b, f.now.length, p)] }) := by
  unfold DS.append
  rw [if_neg (by simp [h64]), if_neg (by simp [ho]), hf]
  simp only
  rw [if_neg (by omega)]
  unfold DS.deed
  rw [hl]
  simp
 rw [hp, zK1, ha]
 have hf2 : DS.find ({ D with left := 1, files := upF D.files { f with now := f.now ++ [p] }, pends := D.pends ++ [(f.b, f.now.length, p)] } : DS) nJ = some { f with now := f.now ++ [p] } := by
  unfold DS.find
  simp only [i1, upF]
  simp [i2]
 have ho2 : ({ D with left := 1, files := upF D.files { f with now := f.now ++ [p] }, pends := D.pends ++ [(f.b, f.now.length, p)] } : DS).off = false := ho
 have hl2 : ({ D with left := 1, files := upF D.files { f with now := f.now ++ [p] }, pends := D.pends ++ [(f.b, f.now.length, p)] } : DS).left = 1 := rfl
 simp only [if_true]
 refine ⟨trivial, ?_⟩
 generalize ({ D with left := 1, files := upF D.files { f with now := f.now ++ [p] }, pends := D.pends ++ [(f.b, f.now.length, p)] } : DS) = D2 at *
 unfold DS.sync
 rw [if_neg (by simp [ho2]), hf2]
 simp only
 unfold DS.deed
 rw [hl2]
 simp
theorem s27 (L : Laid h) (hQ : ∀ h', Ext h h' -> Q (.bool true) h') : AC Tryz.prog 27 [] h Q := ac27 (by
 unfold vc27
 have hl2 := L.len
 refine d26 (by omega) (by omega) fun ow R hnew => ⟨_, _, rfl, zB (fun g => by simp at g) (fun _ => zB (fun g => by cases g) (fun _ => ?_))⟩
 have x2 : Ext h ((h ++ [Blk.mp [] 0]) ++ [.cells [.map (some h.length), .sl none, .int .i64 50, .int .i64 (-1), .bool false] true]) := (Ext.app _ _).trans (.app _ _)
 have B2 : Base h ow ((h ++ [Blk.mp [] 0]) ++ [.cells [.map (some h.length), .sl none, .int .i64 50, .int .i64 (-1), .bool false] true]) := ⟨hnew, x2⟩
 generalize ((h ++ [Blk.mp [] 0]) ++ [.cells [.map (some h.length), .sl none, .int .i64 50, .int .i64 (-1), .bool false] true]) = h2 at *
 refine zJA (s := (false, [], xQ)) (L.ext x2) (B2.none 0 (by omega)) (B2.none 1 (by omega)) R rfl rfl zH0 vld0 (by simp) (show 0 <= 2000 by omega) (show ((0 : Nat) + 0 : Nat) <= (50 : Int) by omega) (fun jp sp SD h6 ow6 D6 J6 I6 ho6 hl6 hf6 S6 hjp hsd => ⟨_, _, rfl, zB (fun g => by cases g) (fun _ => ?_)⟩) (fun hne => absurd rfl hne)
 have B6 := B2.step S6
 have hjp0 : h.length <= jp := by have := x2.len; omega
 have hf6 := hf6 rfl
 refine k49 fun e1 h10 x10 R10 hr10 => ⟨_, _, _, _, rfl, ?_⟩
 have J10 := J6.ext x10
 have B10 := B6.grow x10
 refine zIH J10 (es := []) R10 (fun t ht => J6.nol (hr10 t ht)) rfl I6 ho6 rfl vld0 (by simp) rfl (by rw [show szE (edsE (false, [], xQ)) = 0 from rfl]; omega) (by rw [hl6]; show ((0 + sz JE dA : Nat) : Int) <= 50; rw [sz_A]; omega) (fun hn => by rw [app_A] at hn; cases hn) (fun s' ha sp1 SD1 h16 ow16 D16 _ J16 I16 ho16 hl16 hf16 _ S16 => ⟨_, rfl, ?_⟩) (fun s' _ hne => absurd hf6 hne)
 rw [app_A] at ha
 cases ha
 have B16 := B10.jstep S16 hjp0
 refine d29 J16.dk (by omega) (by omega) fun h19 R19 S19 => ⟨_, rfl, ?_⟩
 have J19 := J16.step S19 R19
 have B19 := B16.step S19
 refine k49 fun e2 h22 x22 R22 hr22 => ⟨_, _, _, _, rfl, ?_⟩
 have J22 := J19.ext x22
 have B22 := B19.grow x22
 have VA : Vld true [] dA := vld0.step (d := dA) (by kernel_rfl)
 have hlim : (16 : Int) <= D16.limit := by rw [hl16, hl6]; show (16 : Int) <= 50; omega
 have td := zM6 (D := { D16 with left := 2 }) (es := [dA]) (d := dB) I16 ho16 rfl sz_B (by show ((szE [dA] + 1 : Nat) : Int) <= D16.limit; rw [sz_1]; omega)
 refine zIH J22 (es := [dA]) R22 (fun t ht => J19.nol (hr22 t ht)) rfl I16 ho16 (by kernel_rfl) VA (by simp) rfl (by rw [show szE ([] ++ [dA]) = 1 by kernel_rfl]; omega) (by show ((szE [dA] + sz JE dB : Nat) : Int) <= D16.limit; rw [sz_B]; rw [sz_1]; omega) (fun hn => by rw [app_B] at hn; cases hn) (fun s' ha sp2 SD2 h28 ow28 D28 _ J28 I28 ho28 hl28 hf28 _ S28 => ⟨_, rfl, ?_⟩) (fun s' _ _ hbad => by rcases hbad with hb | hb; exact absurd td.1 hb; exact absurd td.2 hb)
 rw [app_B] at ha
 cases ha
 have B28 := B22.jstep S28 hjp0
 simp only [PNew]
 have x31 : Ext h28 (h28 ++ [Blk.cells [.int .i64 64] true]) := .app _ _
 have J31 := J28.ext x31
 have B31 := B28.grow x31
 refine d34 J31.dk (keep := [64]) (HasL.new (E := intE) (l := [64]) rfl rfl) (fun t ht => by cases ht; exact (J28.nol (Nat.le_refl _)).1) (by obtain ⟨f, _, _, _, _, h5⟩ := I28; rw [h5]; simp) fun h33 ow33 R33 S33 => ⟨rfl, ?_⟩
 have B33 := B31.step S33
 have I33 := zMX (keep := [64]) I28
 have hs2 : foldE ([dA] ++ [dB]) = some (false, [dB], xQ) := by kernel_rfl
 have hsz2 : szE ([dA] ++ [dB]) = 2 := by kernel_rfl
 have VB : Vld false [dB] xQ := VA.step (d := dB) (by kernel_rfl)
 have hused : (D28.crash [64]).used = 2 := by rw [Idle.used I33]; exact hsz2
 have c31 := J31.jc
 have o33 : ow33 jp = none := (yL.disk (jp := jp) S33).none J31.jl J31.jo
 have c33 := S33.keeps _ _ (fun hx => hx J31.jo) c31
 refine zJA (s := (false, [dB], xQ)) (L.ext B33.ext) (B33.none 0 (by omega)) (B33.none 1 (by omega)) R33 rfl rfl (Idle.mid' I33 hs2 (by rw [hsz2]; omega)) VB (by simp) (by rw [show szE (edsE (false, [dB], xQ)) = 1 by kernel_rfl]; omega) (by
   rw [show szE (edsE (false, [dB], xQ)) = 1 by kernel_rfl, hused]
   show ((2 + 1 : Nat) : Int) <= D28.limit
   rw [hl28]
   show ((2 + 1 : Nat) : Int) <= D16.limit
   omega) (fun jp2 sp3 SD3 h35 ow35 D35 J35 I35 ho35 hl35 hf35 S35 hjp2 hsd2 => ⟨_, _, rfl, ?_⟩) (fun hne => absurd rfl hne)
 have B35 := B33.step S35
 have c35 := S35.keeps _ _ (fun hx => hx o33) c33
 refine k28n ⟨_, _, rfl, ?_⟩
 refine zB (fun _ => ?_) (fun g => by simp at g)
 refine zB (fun _ => ?_) (fun g => by simp at g)
 refine zB (fun _ => ?_) (fun g => by simp at g)
 refine zB (fun _ => ?_) (fun g => by simp at g)
 refine zB (fun _ => ?_) (fun g => by simp at g)
 refine zB (fun _ => ?_) (fun g => by cases g)
 refine k35 J35 VB (by simp) fun p44 SD4 h43 x43 hs4 S43 => ⟨_, rfl, ?_⟩
 have J43 := J35.ext x43
 refine v46 S43.view ⟨_, rfl, zB (fun _ => ?_) (fun g => by simp at g)⟩
 refine k47 J43 ⟨_, rfl, ?_⟩
 rw [show szE (edsE (false, [dB], xQ)) = 1 by kernel_rfl]
 refine zB (fun _ => ?_) (fun g => by simp at g)
 refine k48 J43 ⟨_, rfl, zB (fun _ => ?_) (fun g => by simp at g)⟩
 refine ac47 ?_
 unfold vc47
 refine zB (fun g => by cases g) (fun _ => ⟨((szE ([dA] ++ [dB]) : Nat) : Int), ?_, _, rfl, ?_⟩)
 ·have := zZ (x43 _ _ c35) (o := 2) (k := 1) (by simp)
  simpa using this
 ·rw [hsz2]
  exact zB (fun _ => hQ _ (B35.ext.trans x43)) (fun g => by simp at g))
end
end Go.Proofs.YtnglhicedhcpbaaGreatDoor




namespace Go.Proofs.YtnglhicedhcpbaaGreatDoor
open Go.Ab
open Go.Num hiding Bs snoc_ind
open Go.Page hiding Bs get
open Go.Dsk hiding Bs
open Go.Man hiding Bs drop_cons left
set_option linter.unusedVariables false
set_option linter.unusedSimpArgs false
abbrev OV := Int × EV × Int × OSl × List UInt8
abbrev OD := Int × ED × List UInt8
def opE : Enc OV := ⟨8, fun x => [.int .i64 x.1, .int .i64 x.2.1.1, .int .i64 x.2.1.2.1, .int .i64 x.2.1.2.2.1, .sl x.2.1.2.2.2, .int .i64 x.2.2.1, .sl x.2.2.2.1, .str x.2.2.2.2], fun _ => rfl, by omega, fun _ => rfl⟩
def OpL (h : Heap) (q : OSl) (l : List OD) : Prop :=
 ∃ L : List OV, HasL opE h q L /\ L.length = l.length /\ ∀ (j : Nat) (x : OV) (d : OD), L[j]? = some x -> l[j]? = some d -> x.1 = d.1 /\ EdR h x.2.1 d.2.1 /\ x.2.2.2.2 = d.2.2
theorem OpL.len {h : Heap} {q : OSl} {l : List OD} (O : OpL h q l) : zJ q = l.length := by obtain ⟨L, g, k, _⟩ := O; rw [g.len, k]
theorem OpL.ext {h h' : Heap} {q : OSl} {l : List OD} (O : OpL h q l) (x : Ext h h') : OpL h' q l := by
 obtain ⟨L, g, k, f⟩ := O
 exact ⟨L, g.mono x, k, fun j e d h1 h2 => ⟨(f j e d h1 h2).1, ⟨(f j e d h1 h2).2.1.1, (f j e d h1 h2).2.1.2.1, (f j e d h1 h2).2.1.2.2.1, (f j e d h1 h2).2.1.2.2.2.mono x⟩, (f j e d h1 h2).2.2⟩⟩
theorem OpL.at {h : Heap} {q : OSl} {l : List OD} (O : OpL h q l) {i : Nat} (hi : i < l.length) {K : PA -> Prop}
  (hK : ∀ (p : PA) (x : OV), zA h p 8 = some (opE.f x) -> x.1 = (l[i]'hi).1 -> EdR h x.2.1 (l[i]'hi).2.1 -> x.2.2.2.2 = (l[i]'hi).2.2 -> K p) : vIdx q (i : Int) 8 K := by
 obtain ⟨L, g, k, f⟩ := O
 refine HasL.idx (E := opE) g (by omega) (by omega) fun p x hx hcx => ?_
 have hx : L[i]? = some x := by simpa using hx
 obtain ⟨a, b, c⟩ := f i x _ hx (List.getElem?_eq_getElem hi)
 exact hK p x hcx a b c
section
variable {h : Heap} {Q : AHp}
theorem w37 {q : OSl} {l : List OD} (O : OpL h q l) (hQ : ∀ b, Q (.bool b) h) : AC Tryz.prog 37 [.sl q] h Q := ac37 (by
 unfold vc37
 have hlen := O.len
 refine ⟨fun xs h5 => h5 = h /\ ∃ i : Nat, xs = [.int .i64 i] /\ i <= l.length, fun xs _ => match xs with | [.int _ i] => (l.length - i).toNat | _ => 0, ⟨rfl, 0, rfl, by omega⟩, ?_⟩
 rintro n2 h5 ⟨rfl, i, hx, hi⟩
 simp only [List.cons.injEq, AV.int.injEq, true_and, and_true] at hx
 subst hx
 rw [hlen]
 refine zB (fun g => zB (fun g1 => ?_) (fun _ => hQ _)) (fun _ => hQ _)
 replace g := of_decide_eq_true g
 replace g1 := of_decide_eq_true g1
 have hil : i < l.length := by omega
 refine O.at hil fun p x hc _ hR _ => ⟨x.2.1.2.2.2, ?_, ?_⟩
 ·have := zW (k := 4) (m := 1) hc (by show 4 + 1 <= 8; omega)
  rw [show p.o + 1 + 3 = p.o + 4 by omega]
  exact this
 refine zB (fun _ => hQ _) (fun g2 => ?_)
 replace g2 := of_decide_eq_false g2
 have hRl := hR.2.2.2.len
 refine O.at hil fun p x2 hc2 _ _ _ => ⟨x2.2.2.2.2, ?_, zB (fun _ => hQ _) (fun _ => ?_)⟩
 ·have := zW (k := 7) (m := 1) hc2 (by show 7 + 1 <= 8; omega)
  exact this
 have refs : ∀ {K : PA -> Prop}, (∀ (p : PA) (q : OSl), zA h5 ⟨p.b, p.o + 1 + 3⟩ 1 = some [.sl q] -> HasL refE h5 q (l[i]'hil).2.1.2.2.2 -> K p) -> vIdx q (i : Int) 8 K := fun {K} hK =>
  O.at hil fun p y hcy _ hRy _ => hK p y.2.1.2.2.2 (by
   have := zW (k := 4) (m := 1) hcy (by show 4 + 1 <= 8; omega)
   rw [show p.o + 1 + 3 = p.o + 4 by omega]
   exact this) hRy.2.2.2
 have hrl : (l[i]'hil).2.1.2.2.2.length <= 20 := by omega
 generalize (l[i]'hil).2.1.2.2.2 = R at *
 refine ⟨fun xs h13 => h13 = h5 /\ ∃ k : Nat, xs = [.int .i64 k] /\ k <= R.length, fun xs _ => match xs with | [.int _ k] => (R.length - k).toNat | _ => 0, ⟨rfl, 0, rfl, by omega⟩, ?_⟩
 rintro n10 h13 ⟨rfl, k, hx, hk⟩
 simp only [List.cons.injEq, AV.int.injEq, true_and, and_true] at hx
 subst hx
 refine refs fun p q1 hp H1 => ⟨_, hp, ?_⟩
 rw [H1.len]
 refine zB (fun g3 => ?_) (fun _ => ?_)
 ·replace g3 := of_decide_eq_true g3
  refine refs fun p q2 hp H2 => ⟨_, hp, ?_⟩
  refine HasL.idx (E := refE) H2 (by omega) (by omega) fun pr r hr hcr => ⟨r.1, ?_, zB (fun _ => hQ _) (fun _ => ?_)⟩
  ·exact zW (k := 0) (m := 1) hcr (by show 0 + 1 <= 3; omega)
  ·rw [zF ⟨by omega, by omega⟩]
   exact ⟨trivial, ⟨rfl, k + 1, by simp, by omega⟩, by simp only; omega⟩
 ·rw [zF ⟨by omega, by omega⟩]
  exact ⟨trivial, ⟨rfl, i + 1, by simp, by omega⟩, by simp only; omega⟩)
theorem w44 {q : OSl} {l : List Bs} {s : Bs} (H : HasL strE h q l) (hl : l.length <= 1000000) (hQ : Q (.bool (l.contains s)) h) : AC Tryz.prog 44 [.sl q, .str s] h Q := ac44 (by
 unfold vc44
 refine ⟨fun xs h6 => h6 = h /\ ∃ i : Nat, xs = [.int .i64 i] /\ i <= l.length /\ ∀ x ∈ l.take i, x ≠ s, fun xs _ => match xs with | [.int _ i] => (l.length - i).toNat | _ => 0, ⟨rfl, 0, rfl, by omega, by simp⟩, ?_⟩
 rintro n3 h6 ⟨rfl, i, hx, hi, hno⟩
 simp only [List.cons.injEq, AV.int.injEq, true_and, and_true] at hx
 subst hx
 rw [H.len]
 refine zB (fun g => ?_) (fun g => ?_)
 ·replace g := of_decide_eq_true g
  refine HasL.idx (E := strE) H (by omega) (by omega) fun p x hx hc => ⟨x, hc, zB (fun g2 => ?_) (fun g2 => ?_)⟩
  ·have hx : l[i]? = some x := by simpa using hx
   have g2 : x = s := by simpa using g2
   subst g2
   have : l.contains x = true := by rw [List.contains_iff_mem]; exact List.mem_of_getElem? hx
   rw [this] at hQ
   exact hQ
  ·have hx : l[i]? = some x := by simpa using hx
   have g2 : x ≠ s := by simpa using g2
   rw [zF ⟨by omega, by omega⟩]
   refine ⟨trivial, ⟨rfl, i + 1, by simp, by omega, fun y hy => ?_⟩, by simp only; omega⟩
   rw [List.take_add_one, hx] at hy
   rcases List.mem_append.1 hy with hy | hy
   ·exact hno y hy
   ·simp at hy; subst hy; exact g2
 ·replace g := of_decide_eq_false g
  have : i = l.length := by omega
  subst this
  rw [List.take_length] at hno
  have : l.contains s = false := by
   rw [Bool.eq_false_iff]
   intro hc
   exact hno s (List.contains_iff_mem.1 hc) rfl
  rw [this] at hQ
  exact hQ)
end
structure Geo (h0 h : Heap) (w : Nat) (owE : zO) (jE dE : Nat) (SD : Nat -> Prop) (owX : zO) (jX dX : Nat) : Prop where
 lay : Laid h0
 ext : Ext h0 h
 wc : h[w]? = some (.cells [.ptr (some ⟨dE, 0⟩), .ptr (some ⟨jE, 0⟩), .ptr (some ⟨dX, 0⟩), .ptr (some ⟨jX, 0⟩)] true)
 m1 : ∀ b, owE b ≠ none ∨ b = jE -> owX b = some .map /\ b ≠ jX
 m2 : ∀ b, SD b -> ¬ dskR owX b /\ b ≠ jX
 n1 : ∀ b, b < h0.length -> owE b = none /\ b ≠ jE /\ owX b = none /\ b ≠ jX
 n2 : owE w = none /\ w ≠ jE /\ ¬ dskR owX w /\ w ≠ jX
section
variable {h0 h h' : Heap} {w : Nat} {owE owE' owX owX' : zO} {jE dE sE jX dX sX : Nat} {SD SD' : Nat -> Prop} {D D' Y : DS} {has has2 : Bool} {done done2 : List ED} {mark mark2 : ED} {pE pX : Nat} {bE bX : Bool} {Q : AHp}
theorem JH.other {X : Nat -> Prop} (J : JH h owE jE dE sE SD D has done mark pE bE) (K : zM X h h') (hl : h.length <= h'.length) (x0 : ¬ X 0) (x1 : ¬ X 1) (xo : ∀ b, owE b ≠ none -> ¬ X b) (xj : ¬ X jE) (xs : ∀ b, SD b -> ¬ X b) : JH h' owE jE dE sE SD D has done mark pE bE := by
 refine { J with lay := J.lay.keeps K x0 x1, jc := K _ _ xj J.jc, dk := J.dk.ext (yM K fun b hb => ?_) hl, st := J.st.keeps K xs hl }
 cases hc : owE b with
 | none => rfl
 | some r => exact absurd hb (xo b (by rw [hc]; simp))
theorem Geo.eng (G : Geo h0 h w owE jE dE SD owX jX dX) (hw : w < h.length) (S : yL owE jE h owE' h') (X : JX h owX jX dX sX Y has done mark pX bX) (lv : ∀ b, owE' b ≠ none -> b < h'.length) (hsd : ∀ b, SD' b -> SD b ∨ h.length <= b) :
  ∃ owX', Geo h0 h' w owE' jE dE SD' owX' jX dX /\ JX h' owX' jX dX sX Y has done mark pX bX := by
 have hl := S.len
 have hx := G.ext.len
 have hj := X.jl
 refine ⟨fun b => if b < h.length then owX b else if owE' b ≠ none then some .map else none, ⟨G.lay, fun b B hB => S.keeps b B (fun hc => ?_) (G.ext b B hB), S.keeps _ _ (fun hc => ?_) G.wc, fun b hb => ?_, fun b hb => ?_, fun b hb => ?_, ?_⟩, X.marked (yM S.keeps fun b hb => G.m1 b hb) hl (fun b hb => by simp [hb]) (fun b hb hn => ?_)⟩
 ·obtain ⟨a, b, _⟩ := G.n1 b (zD hB)
  exact hc.elim (fun h => h a) b
 ·obtain ⟨a, b, _⟩ := G.n2
  exact hc.elim (fun h => h a) b
 ·by_cases hlt : b < h.length
  ·simp only [hlt, if_true]
   refine G.m1 b ?_
   rcases hb with hb | hb
   ·rcases S.own b hb with h1 | h1
    ·exact .inl h1
    ·omega
   ·exact .inr hb
  ·simp only [hlt, if_false]
   rcases hb with hb | hb
   ·rw [if_pos hb]
    exact ⟨rfl, by omega⟩
   ·have := G.m1 b (.inr hb)
    have := X.dk.live (b := b) (by rw [this.1]; simp)
    omega
 ·by_cases hlt : b < h.length
  ·have : SD b := by
    rcases hsd b hb with h1 | h1
    ·exact h1
    ·omega
   obtain ⟨h1, h2⟩ := G.m2 b this
   refine ⟨fun hc => h1 ?_, h2⟩
   have := hc
   simp only [dskR, hlt, if_true] at this
   exact this
  ·refine ⟨fun hc => ?_, by omega⟩
   have := hc
   simp only [dskR, hlt, if_false] at this
   split at this
   ·exact this.2 rfl
   ·exact this.1 rfl
 ·have hbl : b < h.length := by omega
  obtain ⟨a1, a2, a3, a4⟩ := G.n1 b hb
  exact ⟨S.none hbl a1, a2, by simp only [hbl, if_true]; exact a3, a4⟩
 ·obtain ⟨a1, a2, a3, a4⟩ := G.n2
  refine ⟨S.none hw a1, a2, fun hc => a3 ?_, a4⟩
  have := hc
  simp only [dskR, hw, if_true] at this
  exact this
 ·have hlt : ¬ b < h.length := by omega
  simp only [hlt, if_false] at hn
  split at hn
  ·rename_i h1; exact lv b h1
  ·exact absurd rfl hn
theorem Geo.doc (G : Geo h0 h w owE jE dE SD owX jX dX) (hw : w < h.length) (S : kT owX jX h owX' h') (J : JH h owE jE dE sE SD D has done mark pE bE) :
  Geo h0 h' w owE jE dE SD owX' jX dX /\ JH h' owE jE dE sE SD D has done mark pE bE := by
 have hl := S.len
 have hx := G.ext.len
 have hl2 := G.lay.len
 have none' : ∀ b, b < h0.length -> ¬ (dskR owX b ∨ b = jX) := fun b hb hc => by
  obtain ⟨_, _, a, c⟩ := G.n1 b hb
  exact hc.elim (fun h => h.1 a) c
 have noneW : ¬ (dskR owX w ∨ w = jX) := fun hc => hc.elim G.n2.2.2.1 G.n2.2.2.2
 have sdl : ∀ b, SD b -> b < h.length := by obtain ⟨_, _, _, _, _, _, _, _, _, _, _, _, _, h11⟩ := J.st; exact h11
 refine ⟨⟨G.lay, fun b B hB => S.keeps b B (none' b (zD hB)) (G.ext b B hB), S.keeps _ _ noneW G.wc, fun b hb => ⟨S.fgn b (G.m1 b hb).1, (G.m1 b hb).2⟩, fun b hb => ⟨S.not (sdl b hb) (G.m2 b hb).1, (G.m2 b hb).2⟩, fun b hb => ?_, ⟨G.n2.1, G.n2.2.1, S.not hw G.n2.2.2.1, G.n2.2.2.2⟩⟩, ?_⟩
 ·obtain ⟨a1, a2, a3, a4⟩ := G.n1 b hb
  exact ⟨a1, a2, S.nobody (by omega) a3, a4⟩
 ·have fgn : ∀ b, owX b = some .map -> b ≠ jX -> ¬ (dskR owX b ∨ b = jX) := fun b hb hj hc => hc.elim (fun h => h.2 hb) hj
  refine J.other S.keeps hl (none' 0 (by omega)) (none' 1 (by omega)) (fun b hb => ?_) ?_ (fun b hb hc => hc.elim (G.m2 b hb).1 (G.m2 b hb).2)
  ·obtain ⟨a, c⟩ := G.m1 b (.inl hb)
   exact fgn b a c
  ·obtain ⟨a, c⟩ := G.m1 jE (.inr rfl)
   exact fgn jE a c
theorem Geo.grow (G : Geo h0 h w owE jE dE SD owX jX dX) (x : Ext h h') : Geo h0 h' w owE jE dE SD owX jX dX := { G with ext := G.ext.trans x, wc := x _ _ G.wc }
theorem Geo.wl (G : Geo h0 h w owE jE dE SD owX jX dX) : w < h.length := zD G.wc
theorem Geo.at (G : Geo h0 h w owE jE dE SD owX jX dX) {k : Nat} {x : AV} (hx : [AV.ptr (some ⟨dE, 0⟩), .ptr (some ⟨jE, 0⟩), .ptr (some ⟨dX, 0⟩), .ptr (some ⟨jX, 0⟩)][k]? = some x) : zA h ⟨w, 0 + k⟩ 1 = some [x] := by
 have hk := zD hx
 rw [zZ G.wc (by omega), List.take_one, List.head?_drop, hx]; rfl
end
structure TW (h0 h : Heap) (w : Nat) (owE : zO) (jE dE sE : Nat) (SD : Nat -> Prop) (D : DS) (owX : zO) (jX dX sX : Nat) (Y : DS) (s : ESt) (pE pX n : Nat) : Prop where
 geo : Geo h0 h w owE jE dE SD owX jX dX
 J : JH h owE jE dE sE SD D s.1 s.2.1 s.2.2 pE false
 X : JX h owX jX dX sX Y s.1 s.2.1 s.2.2 pX false
 vld : Vld s.1 s.2.1 s.2.2
 sE : Std D (16384 - 340 * n)
 sX : Std Y (16384 - 340 * n)
 sf : SafeF Y
 nm : ∀ t, t ∈ D.files.map (·.name) ↔ t ∈ Y.files.map (·.name)
 jn : nJ ∈ D.files.map (·.name)
 cnt : s.2.1.length <= n
 fE : D.files.length <= n + 1
 fX : Y.files.length <= n + 1
 qE : pE <= 340 * n
 qX : pX <= 340 * n
section
variable {h0 h h' : Heap} {w : Nat} {owE owX : zO} {jE dE sE jX dX sX : Nat} {SD : Nat -> Prop} {D Y : DS} {s : ESt} {pE pX n : Nat} {Q : AHp}
theorem TW.more (W : TW h0 h w owE jE dE sE SD D owX jX dX sX Y s pE pX n) (hn : n < 40) : TW h0 h w owE jE dE sE SD D owX jX dX sX Y s pE pX (n + 1) :=
 { W with sE := W.sE.less (by omega), sX := W.sX.less (by omega), cnt := by have := W.cnt; omega, fE := by have := W.fE; omega, fX := by have := W.fX; omega, qE := by have := W.qE; omega, qX := by have := W.qX; omega }
theorem TW.grow (W : TW h0 h w owE jE dE sE SD D owX jX dX sX Y s pE pX n) (x : Ext h h') : TW h0 h' w owE jE dE sE SD D owX jX dX sX Y s pE pX n := { W with geo := W.geo.grow x, J := W.J.ext x, X := W.X.ext x }
theorem zBH {D : DS} {t : List UInt8} : (D.find t).isSome = true ↔ t ∈ D.files.map (·.name) := zEP
theorem zQV {h : Heap} {e : EV} {d : ED} (hR : EdR h e d) : ∀ t, e.2.2.2 = some t -> t.b < h.length := HasL.live hR.2.2.2
set_option maxHeartbeats 2000000 in
theorem TW.commit (W : TW h0 h w owE jE dE sE SD D owX jX dX sX Y s pE pX n) (hn : n < 40) {e : EV} {d : ED} (hR : EdR h0 e d) {a b c : Int} {q8 : OSl} {s9 : List UInt8}
  (hQ : ∀ h' owE' sE' SD' D' owX' sX' Y' s' pE' pX', TW h0 h' w owE' jE dE sE' SD' D' owX' jX dX sX' Y' s' pE' pX' (n + 1) -> Q (.bool true) h') :
  AC Tryz.prog 40 [.ptr (some ⟨w, 0⟩), .agg [.int .i64 1, .int .i64 e.1, .int .i64 e.2.1, .int .i64 e.2.2.1, .sl e.2.2.2, .int .i64 c, .sl q8, .str s9]] h Q := ac40 (by
 unfold vc40
 refine zB (fun _ => ?_) (fun g => by simp at g)
 have G := W.geo
 refine ⟨_, G.at (k := 3) rfl, zB (fun g => by simp at g) (fun _ => ?_)⟩
 refine ⟨_, G.at (k := 1) rfl, _, G.at (k := 3) rfl, ?_⟩
 have rl := zQV hR
 have hx := G.ext.len
 have Rh : EdR h e d := ⟨hR.1, hR.2.1, hR.2.2.1, hR.2.2.2.mono G.ext⟩
 have hcnt := W.cnt
 have hqE := W.qE
 have hqX := W.qX
 have hjE : (D.find nJ).isSome = true := zBH.2 W.jn
 have hjY : (Y.find nJ).isSome = true := zBH.2 ((W.nm _).1 W.jn)
 have hpn : D.pends.length <= 50000 := by rw [W.sE.pnd]; simp
 have tailX : ∀ {h1 : Heap} {owE1 : zO} {sE1 : Nat} {SD1 : Nat -> Prop} {D1 : DS} {s1 : ESt} {pE1 : Nat} {v : Int} {owX1 : zO},
   Geo h0 h1 w owE1 jE dE SD1 owX1 jX dX -> JX h1 owX1 jX dX sX Y s.1 s.2.1 s.2.2 pX false -> JH h1 owE1 jE dE sE1 SD1 D1 s1.1 s1.2.1 s1.2.2 pE1 false -> Vld s1.1 s1.2.1 s1.2.2 ->
   ((chk d && goes s.1 s.2.1 s.2.2 d) = false -> s1 = s /\ v = resV s.1 s.2.1 s.2.2 d) -> ((chk d && goes s.1 s.2.1 s.2.2 d) = true -> s1 = (nHas d, xV s.2.1 d, kQ d) /\ v = 0) ->
   Std D1 (16384 - 340 * (n + 1)) -> D1.files.map (·.name) = D.files.map (·.name) -> pE1 <= 340 * (n + 1) ->
   (∃ p22 : OPa, zA h1 ⟨w, 0 + 3⟩ 1 = some [.ptr p22] /\ LV.val (.ptr p22) = LV.val (.ptr (some ⟨jX, 0⟩))) /\
   AC Tryz.prog 117 [.ptr (some ⟨jX, 0⟩), .agg [.int .i64 e.1, .int .i64 e.2.1, .int .i64 e.2.2.1, .sl e.2.2.2]] h1 fun v19 h20 => ∃ n21 : Int, v19 = .int .i64 n21 /\ Q (.bool (v == n21)) h20 := by
  intro h1 owE1 sE1 SD1 D1 s1 pE1 v owX1 G1 X1 J1 V1 hno hyes S1 hnm hp1
  refine ⟨⟨_, G1.at (k := 3) rfl, rfl⟩, ?_⟩
  have R1 : EdR h1 e d := ⟨hR.1, hR.2.1, hR.2.2.1, hR.2.2.2.mono G1.ext⟩
  have lenD : D1.files.length <= n + 2 := by
   have h1 := congrArg List.length hnm
   simp only [List.length_map] at h1
   have := W.fE; omega
  refine k117 X1 (e := e) (d := d) rfl W.sX W.sf hjY R1 (fun t ht => ?_) (by omega) (by omega) (by omega) (fun h2 h3 X3 S3 => ⟨_, rfl, ?_⟩) (fun h2 sp' h3 owX3 Y3 pg X3 hpg T3 sf3 nm3 S3 => ⟨_, rfl, ?_⟩)
  ·obtain ⟨_, _, a3, a4⟩ := G1.n1 t.b (rl t ht)
   exact ⟨a3, a4⟩
  ·obtain ⟨rfl, rfl⟩ := hno h2
   obtain ⟨G3, J3⟩ := G1.doc G1.wl S3 J1
   rw [show (resV s1.1 s1.2.1 s1.2.2 d == resV s1.1 s1.2.1 s1.2.2 d) = true by simp]
   exact hQ h3 owE1 sE1 SD1 D1 owX1 sX Y s1 pE1 pX ⟨G3, J3, X3, V1, S1, W.sX.less (by omega), W.sf, fun t => by rw [hnm]; exact W.nm t, by rw [hnm]; exact W.jn, by omega, by omega, by have := W.fX; omega, hp1, by omega⟩
  ·obtain ⟨rfl, rfl⟩ := hyes h2
   obtain ⟨G3, J3⟩ := G1.doc G1.wl S3 J1
   have lenY : Y3.files.length <= n + 2 := by
    have h1 := congrArg List.length nm3
    simp only [List.length_map] at h1
    have := W.fX; omega
   have hdn : (xV s.2.1 d).length <= n + 1 := by
    unfold xV
    split <;> (try simp only [List.length_append, List.length_cons, List.length_nil]) <;> omega
   exact hQ h3 owE1 sE1 SD1 D1 owX3 sp' Y3 (nHas d, xV s.2.1 d, kQ d) pE1 pg ⟨G3, J3, X3, V1, S1, T3.less (by omega), sf3, fun t => by rw [hnm, nm3]; exact W.nm t, by rw [hnm]; exact W.jn, hdn, by omega, by omega, hp1, by omega⟩
 have law : chk d = true -> _ := fun hc => zL1 (t := nJ) W.sE (row_64 (t := 1 + pE) (b := encD d)) (Nat.le_trans (vW (pages := pE) hc) (by omega)) hjE
 have hre : ∀ t, e.2.2.2 = some t -> owE t.b = none /\ t.b ≠ jE := fun t ht => by
  obtain ⟨a1, a2, _⟩ := G.n1 t.b (rl t ht)
  exact ⟨a1, a2⟩
 have hcy : ∀ {d : ED}, (chk d && goes s.1 s.2.1 s.2.2 d) = true -> chk d = true := fun {d} h => by
  cases hc : chk d with
  | true => rfl
  | false => rw [hc] at h; cases h
 refine k33 W.J (e := e) Rh hre rfl W.vld (by omega) hpn (by omega) (fun hno h1 J1 S1 => ⟨_, rfl, rfl, ?_⟩) (fun hy hz => absurd (law (hcy hy)).1 hz) (fun hy hz hy2 => absurd (law (hcy hy)).2.2.1 hy2) (fun hy hz hy2 sp' SD' h1 ow1 hsd J1 S1 => ⟨_, rfl, rfl, ?_⟩)
 ·obtain ⟨owX1, G1, X1⟩ := G.eng G.wl S1 W.X (fun b hb => J1.dk.live b hb) (fun b hb => .inl hb)
  exact tailX (s1 := s) G1 X1 J1 W.vld (fun _ => ⟨rfl, rfl⟩) (fun h => by rw [hno] at h; cases h) (W.sE.less (by omega)) rfl (by omega)
 ·obtain ⟨owX1, G1, X1⟩ := G.eng G.wl S1 W.X (fun b hb => J1.dk.live b hb) (fun b hb => .inr (hsd b hb))
  obtain ⟨_, l2, _, l4, l5, _⟩ := law (hcy hy)
  have hrs := vW (pages := pE) (hcy hy)
  exact tailX (s1 := (nHas d, xV s.2.1 d, kQ d)) G1 X1 J1 (W.vld.step hy) (fun h => by rw [hy] at h; cases h) (fun _ => ⟨rfl, rfl⟩) (l4.less (by omega)) l5 (by rw [l2]; omega))
end
theorem zHS {s : List UInt8} {L : List FA} {b : Nat} {t : List UInt8} : t ∈ (preF s L ++ mkF b s :: jL s L).map (·.name) ↔ t = s ∨ t ∈ L.map (·.name) := by
 conv => rhs; rw [<- zBF (s := s) (L := L)]
 simp only [List.map_append, List.map_cons, List.mem_append, List.mem_cons, mkF]
 constructor
 ·rintro (h | h | h)
  ·exact .inr (.inl h)
  ·exact .inl h
  ·exact .inr (.inr h)
 ·rintro (h | h | h)
  ·exact .inr (.inl h)
  ·exact .inl h
  ·exact .inr (.inr h)
theorem zHT {s : List UInt8} {L : List FA} {b : Nat} : (preF s L ++ mkF b s :: jL s L).length = L.length + 1 := by
 have := congrArg List.length (zBF (s := s) (L := L))
 simp only [List.length_append, List.length_cons] at this ⊢
 omega
theorem zGL {s : List UInt8} {L : List FA} {b : Nat} : ((preF s L ++ mkF b s :: jL s L).map (·.now.length)).sum = (L.map (·.now.length)).sum := by
 have := congrArg (fun l : List FA => (l.map (·.now.length)).sum) (zBF (s := s) (L := L))
 simp only [List.map_append, List.sum_append, List.map_cons, List.sum_cons, mkF, List.length_nil] at this ⊢
 omega
theorem zOY {D : DS} {s : List UInt8} {b m : Nat} (S : Std D m) (hm : D.files.length < 256) :
  D.create s b = if !mayN s then (1, D) else if (D.find s).isSome then (5, D) else (0, { D with files := D.files ++ [mkF b s] }) := by
 unfold DS.create
 rw [if_neg (by simp [S.on] : ¬ D.off = true)]
 simp only [zD3 S.on S.lft, if_true]
 rw [if_neg (by omega : ¬ 256 <= D.files.length)]
section
variable {h0 h h' : Heap} {w : Nat} {owE owX : zO} {jE dE sE jX dX sX : Nat} {SD : Nat -> Prop} {D Y : DS} {s : ESt} {pE pX n : Nat} {Q : AHp}
set_option maxHeartbeats 2000000 in
theorem TW.create (W : TW h0 h w owE jE dE sE SD D owX jX dX sX Y s pE pX n) (hn : n < 40) {a b c c2 : Int} {q6 q8 : OSl} {t : List UInt8}
  (hQ : ∀ h' owE' D' owX' Y', TW h0 h' w owE' jE dE sE SD D' owX' jX dX sX Y' s pE pX (n + 1) -> Q (.bool true) h') :
  AC Tryz.prog 40 [.ptr (some ⟨w, 0⟩), .agg [.int .i64 7, .int .i64 a, .int .i64 b, .int .i64 c, .sl q6, .int .i64 c2, .sl q8, .str t]] h Q := ac40 (by
 unfold vc40
 refine zB (fun g => by simp at g) (fun _ => zB (fun g => by simp at g) (fun _ => zB (fun g => by simp at g) (fun _ => zB (fun g => by simp at g) (fun _ => zB (fun g => by simp at g) (fun _ => zB (fun g => by simp at g) (fun _ => zB (fun _ => ?_) (fun g => by simp at g)))))))
 have G := W.geo
 refine ⟨_, G.at (k := 0) rfl, _, G.at (k := 2) rfl, ?_⟩
 have hfE := W.fE
 have hfX := W.fX
 refine d95 W.J.dk fun bE h1 ow1 R1 S1 => ⟨_, rfl, rfl, ?_⟩
 have J1 := W.J.step S1 R1
 obtain ⟨owX1, G1, X1⟩ := G.eng G.wl (yL.disk S1) W.X (fun b hb => R1.live b hb) (fun b hb => .inl hb)
 refine ⟨⟨_, G1.at (k := 2) rfl, rfl⟩, ?_⟩
 rw [zOY W.sE (by omega)] at R1 J1 ⊢
 have mem : ∀ x, (D.find x).isSome = (Y.find x).isSome := fun x => by
  rw [Bool.eq_iff_iff, zBH, zBH]; exact W.nm x
 obtain ⟨qL, qP, C⟩ := X1.dk
 refine r121 C W.sX.on W.sX.lft (fun hbad => ⟨_, rfl, ?_⟩) (fun f hmay hf => ⟨_, rfl, ?_⟩) (fun hm => by omega) fun bX h2 ow2 hmay hno _ R2 S2 => ⟨_, rfl, ?_⟩
 ·rw [if_pos (by rw [hbad]; rfl)] at J1 ⊢
  exact hQ h1 ow1 D owX1 Y (TW.more ({ W with geo := G1, J := J1, X := X1 } : TW h0 h1 w ow1 jE dE sE SD D owX1 jX dX sX Y s pE pX n) hn)
 ·rw [if_neg (by rw [hmay]; simp), if_pos (by rw [mem, hf]; rfl)] at J1 ⊢
  exact hQ h1 ow1 D owX1 Y (TW.more ({ W with geo := G1, J := J1, X := X1 } : TW h0 h1 w ow1 jE dE sE SD D owX1 jX dX sX Y s pE pX n) hn)
 ·have hD : (D.find t).isSome = false := by rw [mem, hno]; rfl
  rw [if_neg (by rw [hmay]; simp), if_neg (by rw [hD]; simp)] at J1 ⊢
  obtain ⟨G2, J2⟩ := G1.doc G1.wl S2.x J1
  have X2 := X1.step S2 R2
  have nmE : ∀ x, x ∈ (D.files ++ [mkF bE t]).map (·.name) ↔ x = t ∨ x ∈ D.files.map (·.name) := fun x => by
   simp only [List.map_append, List.map_cons, List.map_nil, List.mem_append, List.mem_singleton, mkF]
   exact or_comm
  refine hQ h2 ow1 _ ow2 _ ({ W with geo := G2, J := J2, X := X2, sE := ?_, sX := ?_, sf := ?_, nm := ?_, jn := ?_, fE := ?_, fX := ?_, cnt := ?_, qE := ?_, qX := ?_ } : TW h0 h2 w ow1 jE dE sE SD { D with files := D.files ++ [mkF bE t] } ow2 jX dX sX { Y with files := preF t Y.files ++ mkF bX t :: jL t Y.files } s pE pX (n + 1))
  ·obtain ⟨_, _, _, _, C1⟩ := J1.dk
   refine ⟨W.sE.on, W.sE.lft, W.sE.pnd, C1.names, C1.blocks, ?_⟩
   have := W.sE.room
   have h3 : DS.used { D with files := D.files ++ [mkF bE t] } = D.used := by
    unfold DS.used
    simp [mkF]
   rw [h3]
   show (D.used : Int) + _ <= D.limit
   omega
  ·obtain ⟨_, _, C2⟩ := R2
   refine ⟨W.sX.on, W.sX.lft, W.sX.pnd, C2.names, C2.blocks, ?_⟩
   have := W.sX.room
   have h3 : DS.used { Y with files := preF t Y.files ++ mkF bX t :: jL t Y.files } = Y.used := zGL
   rw [h3]
   show (Y.used : Int) + _ <= Y.limit
   omega
  ·intro f hf
   have hf : f ∈ preF t Y.files ++ mkF bX t :: jL t Y.files := hf
   rcases List.mem_append.1 hf with h | h
   ·exact W.sf f (by rw [<- zBF (s := t) (L := Y.files)]; exact List.mem_append_left _ h)
   ·rcases List.mem_cons.1 h with rfl | h
    ·simp [mkF]
    ·exact W.sf f (by rw [<- zBF (s := t) (L := Y.files)]; exact List.mem_append_right _ h)
  ·intro x
   show x ∈ (D.files ++ [mkF bE t]).map (·.name) ↔ x ∈ (preF t Y.files ++ mkF bX t :: jL t Y.files).map (·.name)
   rw [nmE, zHS, W.nm]
  ·exact (nmE _).2 (.inr W.jn)
  ·have := W.cnt; omega
  ·show (D.files ++ [mkF bE t]).length <= _
   simp only [List.length_append, List.length_cons, List.length_nil]; omega
  ·show (preF t Y.files ++ mkF bX t :: jL t Y.files).length <= _
   rw [zHT]; omega
  ·have := W.qE; omega
  ·have := W.qX; omega)
end
theorem RDR.empty {h : Heap} {ow : zO} {p : Nat} {n : Int} (h0 : 0 <= n) (h1 : n <= 16384) (pb : h[p]? = some (.cells [.sl none, .sl none, .int .i64 n, .int .i64 (-1), .bool false] true)) (pr : ow p = some .disk) (lv : ∀ b, ow b ≠ none -> b < h.length) : RDR h ow p (yB n) :=
 ⟨none, none, ⟨lv, pr, pb, rfl, by simp, ⟨[], .inl ⟨rfl, rfl⟩, rfl, by simp⟩, by simp, by simp [yB], by simp [yB], by simp [yB], by simp [yB], by simp [yB], by simp [yB], h1, by simp [yB]⟩⟩
theorem zQP {D : DS} (I : Idle JE D []) (ho : D.off = false) (hl : D.left = -1) (hm : D.limit = 16384) : Std D (16384 - 340 * 0) /\ D.files.map (·.name) = [nJ] := by
 obtain ⟨f, h1, h2, h3, h4, h5⟩ := I
 refine ⟨⟨ho, hl, h5, by rw [h1]; simp, by rw [h1]; simp, ?_⟩, by rw [h1]; simp [h2]⟩
 unfold DS.used
 rw [h1, hm]
 simp [h3, rows]
theorem zQI {b : Nat} {l : List Bs} : Std (lone b nJ l 16384) (16384 - 340 * 0) := by
 refine ⟨rfl, rfl, rfl, by simp [lone], by simp [lone], ?_⟩
 simp [DS.used, lone, yB]
section
variable {h : Heap} {Q : AHp}
structure Bgn (h h9 : Heap) (w : Nat) (owE : zO) (dE dX : Nat) : Prop where
 ext : Ext h h9
 R : yX h9 owE dE (yB 16384)
 new : ∀ b, owE b ≠ none -> h.length <= b
 old : ∀ b, owE b ≠ none -> b < dX
 xc : h9[dX]? = some (.cells [.sl none, .sl none, .int .i64 16384, .int .i64 (-1), .bool false] true)
 wc : h9[w]? = some (.cells [.ptr (some ⟨dE, 0⟩), .ptr none, .ptr (some ⟨dX, 0⟩), .ptr none] true)
 hx : h.length <= dX
 hw : dX < w
theorem w38 (hQ : ∀ h9 w owE dE dX, Bgn h h9 w owE dE dX -> Q (.ptr (some ⟨w, 0⟩)) h9) : AC Tryz.prog 38 [.int .i64 16384] h Q := ac38 (by
 unfold vc38
 refine d26 (by omega) (by omega) fun ow R hnew => ⟨_, _, rfl, ?_⟩
 have x2 : Ext h ((h ++ [Blk.mp [] 0]) ++ [Blk.cells [.map (some h.length), .sl none, .int .i64 16384, .int .i64 (-1), .bool false] true]) := (Ext.app _ _).trans (.app _ _)
 have l2 : ((h ++ [Blk.mp [] 0]) ++ [Blk.cells [.map (some h.length), .sl none, .int .i64 16384, .int .i64 (-1), .bool false] true]).length = h.length + 2 := by simp
 have hold := R.live
 generalize ((h ++ [Blk.mp [] 0]) ++ [Blk.cells [.map (some h.length), .sl none, .int .i64 16384, .int .i64 (-1), .bool false] true]) = h2 at *
 refine r50 (by omega) (by omega) fun owX RX _ => ⟨_, rfl, ?_⟩
 refine zB (fun g => by simp at g) (fun _ => zB (fun g => by cases g) (fun _ => zB (fun g => by cases g) (fun _ => ?_)))
 simp only [PNew]
 have x3 : Ext h2 (h2 ++ [Blk.cells [.sl none, .sl none, .int .i64 16384, .int .i64 (-1), .bool false] true]) := .app _ _
 have c3 : (h2 ++ [Blk.cells [.sl none, .sl none, .int .i64 16384, .int .i64 (-1), .bool false] true])[h2.length]? = some (.cells [.sl none, .sl none, .int .i64 16384, .int .i64 (-1), .bool false] true) := by simp
 have l3 : (h2 ++ [Blk.cells [.sl none, .sl none, .int .i64 16384, .int .i64 (-1), .bool false] true]).length = h2.length + 1 := by simp
 generalize (h2 ++ [Blk.cells [.sl none, .sl none, .int .i64 16384, .int .i64 (-1), .bool false] true]) = h3 at *
 have x4 : Ext h3 (h3 ++ [Blk.cells [.ptr (some ⟨h.length + 1, 0⟩), .ptr none, .ptr (some ⟨h2.length, 0⟩), .ptr none] true]) := .app _ _
 exact hQ _ h3.length ow (h.length + 1) h2.length ⟨(x2.trans x3).trans x4, (R.grow x3).grow x4, hnew, fun b hb => hold b hb, x4 _ _ c3, by simp, by omega, by omega⟩)
theorem Bgn.grow {h9 h' : Heap} {w : Nat} {owE : zO} {dE dX : Nat} (B : Bgn h h9 w owE dE dX) (x : Ext h9 h') : Bgn h h' w owE dE dX := { B with ext := B.ext.trans x, R := B.R.grow x, xc := x _ _ B.xc, wc := x _ _ B.wc }
set_option maxHeartbeats 4000000 in
theorem w39 {h9 : Heap} {w : Nat} {owE : zO} {dE dX : Nat} (L : Laid h) (B : Bgn h h9 w owE dE dX)
  (hQ : ∀ h' owE' jE sE SD D owX jX sX Y, TW h h' w owE' jE dE sE SD D owX jX dX sX Y (false, [], xQ) 0 0 0 -> Q (.bool true) h') : AC Tryz.prog 39 [.ptr (some ⟨w, 0⟩)] h9 Q := ac39 (by
 unfold vc39
 have hl2 := L.len
 have hw9 := zD B.wc
 have wE : ∀ b, dX <= b -> owE b = none := fun b hb => by
  cases hc : owE b with
  | none => rfl
  | some r => have := B.old b (by rw [hc]; simp); omega
 have lowE : ∀ b, b < h.length -> owE b = none := fun b hb => by
  cases hc : owE b with
  | none => rfl
  | some r => have := B.new b (by rw [hc]; simp); omega
 have hx := B.hx
 have hwx := B.hw
 refine ⟨some ⟨dE, 0⟩, by have := zZ B.wc (o := 0) (k := 1) (by simp); simpa using this, ?_⟩
 refine zJA (s := (false, [], xQ)) (L.ext B.ext) (lowE 0 (by omega)) (lowE 1 (by omega)) B.R rfl rfl zH0 vld0 (by simp) (show 0 <= 2000 by omega) (show ((0 : Nat) + 0 : Nat) <= (16384 : Int) by omega) (fun jE sE SD h5 ow5 D5 J5 I5 ho5 hl5 hf5 S5 hjE hsd => ⟨_, _, rfl, ?_⟩) (fun hne => absurd rfl hne)
 have c5 := S5.keeps _ _ (fun hc => hc (wE dX (Nat.le_refl _))) B.xc
 have w5 := S5.keeps _ _ (fun hc => hc (wE w (by omega))) B.wc
 have e5 : Ext h h5 := fun b X hX => S5.keeps b X (fun hc => hc (lowE b (zD hX))) (B.ext b X hX)
 have l5 := S5.len
 have lh9 := B.ext.len
 have own5 : ∀ b, ow5 b ≠ none -> b < h5.length := J5.dk.live
 have n5 : ∀ b, b < h9.length -> owE b = none -> ow5 b = none := fun b hb hn => (yL.disk (jp := jE) S5).none hb hn
 refine ⟨some ⟨dX, 0⟩, by have := zZ w5 (o := 2) (k := 1) (by simp); simpa using this, ?_⟩
 generalize hω : (fun b => if b = dX then some Role.disk else if ow5 b ≠ none ∨ b = jE ∨ b = w then some Role.map else none) = ω
 have hωd : ω dX = some .disk := by rw [<- hω]; simp
 have hωm : ∀ b, b ≠ dX -> (ow5 b ≠ none ∨ b = jE ∨ b = w) -> ω b = some .map := fun b h1 h2 => by rw [<- hω]; simp only [h1, if_false]; rw [if_pos h2]
 have hωn : ∀ b, b ≠ dX -> ow5 b = none -> b ≠ jE -> b ≠ w -> ω b = none := fun b h1 h2 h3 h4 => by rw [<- hω]; simp [h1, h2, h3, h4]
 have hdx5 : ow5 dX = none := n5 dX (by omega) (wE dX (Nat.le_refl _))
 have hdxj : dX ≠ jE := by omega
 have RX : RDR h5 ω dX (yB 16384) := RDR.empty (by omega) (by omega) c5 hωd (fun b hb => by
  by_cases h1 : b = dX
  ·omega
  ·by_cases h2 : ow5 b ≠ none
   ·exact own5 b h2
   ·by_cases h3 : b = jE
    ·rw [h3]; exact J5.jl
    ·by_cases h4 : b = w
     ·omega
     ·exact absurd (hωn b h1 (by simpa using h2) h3 h4) hb)
 refine k116e RX fun b l jX sX h11 ow11 hl JX11 K11 l11 own11 fgn11 hjX hsX => ⟨_, _, rfl, ?_⟩
 have nd : ∀ b, b ≠ dX -> ¬ dskR ω b := fun b hb hc => by
  by_cases h1 : ow5 b ≠ none ∨ b = jE ∨ b = w
  ·exact hc.2 (hωm b hb h1)
  ·simp only [not_or, ne_eq, Classical.not_not] at h1
   exact hc.1 (hωn b hb h1.1 h1.2.1 h1.2.2)
 have e11 : Ext h h11 := fun b X hX => K11 b X (nd b (by have := zD hX; omega)) (e5 b X hX)
 have w11 := K11 _ _ (nd w (by omega)) w5
 have sdn : ∀ b, SD b -> b ≠ dX := fun b hb => by have := hsd b hb; omega
 have J11 := J5.other K11 l11 (nd 0 (by omega)) (nd 1 (by omega)) (fun b hb => nd b (fun he => hb (he ▸ hdx5))) (nd jE (Ne.symm hdxj)) (fun b hb => nd b (sdn b hb))
 have hwl : w < h11.length := zD w11
 have hjx5 : ∀ b, b < h5.length -> b ≠ jX := fun b hb => by omega
 have ow5w : ow5 w = none := n5 w hw9 (wE w (by omega))
 have wje : w ≠ jE := by omega
 have sdl : ∀ b, SD b -> b < h5.length := by obtain ⟨_, _, _, _, _, _, _, _, _, _, _, _, _, h11⟩ := J5.st; exact h11
 refine yD w11 (o := 1) (by simp) ?_
 have K1 : zM (fun b => b = w) h11 (h11.set w (.cells (splice [.ptr (some ⟨dE, 0⟩), .ptr none, .ptr (some ⟨dX, 0⟩), .ptr none] 1 [.ptr (some ⟨jE, 0⟩)]) true)) := zT rfl
 have w15 : (h11.set w (.cells (splice [.ptr (some ⟨dE, 0⟩), .ptr none, .ptr (some ⟨dX, 0⟩), .ptr none] 1 [.ptr (some ⟨jE, 0⟩)]) true))[w]? = some (.cells [.ptr (some ⟨dE, 0⟩), .ptr (some ⟨jE, 0⟩), .ptr (some ⟨dX, 0⟩), .ptr none] true) := by rw [List.getElem?_set_self hwl]; rfl
 have l15 : (h11.set w (.cells (splice [.ptr (some ⟨dE, 0⟩), .ptr none, .ptr (some ⟨dX, 0⟩), .ptr none] 1 [.ptr (some ⟨jE, 0⟩)]) true)).length = h11.length := by simp
 generalize h11.set w (.cells (splice [.ptr (some ⟨dE, 0⟩), .ptr none, .ptr (some ⟨dX, 0⟩), .ptr none] 1 [.ptr (some ⟨jE, 0⟩)]) true) = h15 at *
 refine yD w15 (o := 3) (by simp) ?_
 have K2 : zM (fun b => b = w) h15 (h15.set w (.cells (splice [.ptr (some ⟨dE, 0⟩), .ptr (some ⟨jE, 0⟩), .ptr (some ⟨dX, 0⟩), .ptr none] 3 [.ptr (some ⟨jX, 0⟩)]) true)) := zT rfl
 have w17 : (h15.set w (.cells (splice [.ptr (some ⟨dE, 0⟩), .ptr (some ⟨jE, 0⟩), .ptr (some ⟨dX, 0⟩), .ptr none] 3 [.ptr (some ⟨jX, 0⟩)]) true))[w]? = some (.cells [.ptr (some ⟨dE, 0⟩), .ptr (some ⟨jE, 0⟩), .ptr (some ⟨dX, 0⟩), .ptr (some ⟨jX, 0⟩)] true) := by rw [List.getElem?_set_self (by omega)]; rfl
 have l17 : (h15.set w (.cells (splice [.ptr (some ⟨dE, 0⟩), .ptr (some ⟨jE, 0⟩), .ptr (some ⟨dX, 0⟩), .ptr none] 3 [.ptr (some ⟨jX, 0⟩)]) true)).length = h15.length := by simp
 generalize h15.set w (.cells (splice [.ptr (some ⟨dE, 0⟩), .ptr (some ⟨jE, 0⟩), .ptr (some ⟨dX, 0⟩), .ptr none] 3 [.ptr (some ⟨jX, 0⟩)]) true) = h17 at *
 have K17 : zM (fun b => b = w) h11 h17 := fun b X hb hX => K2 b X hb (K1 b X hb hX)
 have sdw : ∀ b, SD b -> b ≠ w := fun b hb => by have := hsd b hb; omega
 have J17 := J11.other K17 (by omega) (by omega) (by omega) (fun b hb he => hb (he ▸ ow5w)) wje.symm sdw
 have w11m : ow11 w = some .map := fgn11 w (hωm w (by omega) (.inr (.inr rfl)))
 have X17 := JX11.marked (ow2 := ow11) (h' := h17) (yM K17 fun b hb => by rw [hb]; exact ⟨w11m, hjx5 w (by omega)⟩) (by omega) (fun b _ => rfl) (fun b hb hn => by have := JX11.dk.live hn; omega)
 obtain ⟨SE, NE⟩ := zQP I5 ho5 (hf5 rfl) (hl5.trans rfl)
 refine zB (fun _ => ?_) (fun g => by simp at g)
 refine hQ h17 ow5 jE sE SD D5 ow11 jX sX (lone b nJ l 16384) ⟨⟨L, fun b X hX => K17 b X (fun he => by have := zD hX; omega) (e11 b X hX), w17, fun b hb => ⟨fgn11 b (hωm b (fun he => ?_) (hb.elim .inl fun h => .inr (.inl h))), hjx5 b (hb.elim (own5 b) fun h => h ▸ J5.jl)⟩, fun b hb => ⟨fun hc => ?_, hjx5 b (sdl b hb)⟩, fun b hb => ?_, ⟨ow5w, wje, fun hc => hc.2 w11m, hjx5 w (by omega)⟩⟩, J17, X17, vld0, SE, zQI, fun f hf => ?_, fun t => ?_, by rw [NE]; simp, by simp, by rw [show D5.files.length = (D5.files.map (·.name)).length by simp, NE]; simp, by simp [lone], by simp [szs], by simp⟩
 ·subst he
  exact hb.elim (fun h => h hdx5) hdxj
 ·have hn : ω b ≠ none ∨ h5.length <= b := own11 b hc.1
  have hbl := sdl b hb
  have hj : ow5 b = none := J5.so b hb
  have hne : b ≠ jE := fun he => J5.js (he ▸ hb)
  rcases hn with hn | hn
  ·exact hn (hωn b (sdn b hb) hj hne (sdw b hb))
  ·omega
 ·have hb5 : b < h5.length := by have := e5.len; omega
  have hn5 : ow5 b = none := n5 b (by omega) (lowE b hb)
  refine ⟨hn5, by omega, ?_, hjx5 b hb5⟩
  cases hc : ow11 b with
  | none => rfl
  | some r =>
   rcases own11 b (by rw [hc]; simp) with h1 | h1
   ·exact absurd (hωn b (by omega) hn5 (by omega) (by omega)) h1
   ·omega
 ·simp only [lone, List.mem_singleton] at hf
  subst hf; exact hl
 ·rw [NE]; simp [lone])
end
theorem zIB {α : Type} {p : α -> Bool} : ∀ {l : List α} {i : Nat} {x : α}, l[i]? = some x -> p x = true -> (l.filter p)[((l.take i).filter p).length]? = some x
  | y :: l, 0, x, h, hp => by
    simp at h; subst h
    simp [List.filter_cons, hp]
  | y :: l, i + 1, x, h, hp => by
    have := zIB (l := l) (i := i) (by simpa using h) hp
    rw [List.take_succ_cons, List.filter_cons, List.filter_cons]
    split
    · simpa using this
    · exact this
theorem zAQ {α : Type} {p : α -> Bool} {l : List α} {i : Nat} {x : α} (h : l[i]? = some x) : ((l.take (i + 1)).filter p).length = ((l.take i).filter p).length + (if p x then 1 else 0) := by
  rw [yU h, List.length_append]
  split <;> simp
theorem zQK {D : DS} : D.list.length <= D.files.length := by
  unfold DS.list DS.namesL
  rw [List.length_map]
  have := xX (l := D.files.map (·.name))
  simpa using this
section
variable {h : Heap}
abbrev yes5 : AHp := fun v _ => v = .bool true
theorem tail5 {q56 q61 q72 : OSl} {h71 : Heap} {nm : List Bs} {was now : List (Bs × Nat)} (H56 : HasL strE h71 q56 nm) (H61 : HasL lisE h71 q61 was) (H72 : HasL lisE h71 q72 now) (hnow : now = was.filter fun x => vA nm x.1) (hl : was.length <= 1000) (hln : nm.length <= 1000000) :
    ∃ (I75 : LHp) (m76 : LHn), I75 [.int .i64 0, .int .i64 0] h71 /\
 ∀ n73 n74 : Int, ∀ h77 : Heap, I75 [.int .i64 n73, .int .i64 n74] h77 ->
 vif (decide (n74 < (zJ q61 : Int)))
 (vIdx q61 n74 2 fun p78 =>
 ∃ s79 : List UInt8, zA h77 ⟨p78.b, p78.o + 0⟩ 1 = some [.str s79] /\
 vif (!(s79 == [106, 111, 117, 114, 110, 97, 108]))
 (vIdx q61 n74 2 fun p80 =>
 ∃ s81 : List UInt8, zA h77 ⟨p80.b, p80.o + 0⟩ 1 = some [.str s81] /\
 AC Tryz.prog 44 [.sl q56, .str s81] h77 fun v82 h83 => ∃ b84 : Bool, v82 = .bool b84 /\
 vif (!b84)
 ((True) /\ I75 [.int .i64 n73, .int .i64 (zE .i64 (n74 + 1))] h83 /\ m76 [.int .i64 n73, .int .i64 (zE .i64 (n74 + 1))] h83 < m76 [.int .i64 n73, .int .i64 n74] h77)
 (vif (decide (n73 ≥ (zJ q72 : Int)))
 (yes5 (.bool false) h83)
 (vIdx q72 n73 2 fun p85 =>
 ∃ s86 : List UInt8, ∃ n87 : Int, zA h83 p85 2 = some [.str s86, .int .i64 n87] /\
 vIdx q61 n74 2 fun p88 =>
 ∃ s89 : List UInt8, ∃ n90 : Int, zA h83 p88 2 = some [.str s89, .int .i64 n90] /\
 vif (!((s86 == s89) && ((n87 == n90) && true)))
 (yes5 (.bool false) h83)
 ((True) /\ I75 [.int .i64 (zE .i64 (n73 + 1)), .int .i64 (zE .i64 (n74 + 1))] h83 /\ m76 [.int .i64 (zE .i64 (n73 + 1)), .int .i64 (zE .i64 (n74 + 1))] h83 < m76 [.int .i64 n73, .int .i64 n74] h77))))
 (vif (decide (n73 ≥ (zJ q72 : Int)))
 (yes5 (.bool false) h77)
 (vIdx q72 n73 2 fun p91 =>
 ∃ s92 : List UInt8, ∃ n93 : Int, zA h77 p91 2 = some [.str s92, .int .i64 n93] /\
 vIdx q61 n74 2 fun p94 =>
 ∃ s95 : List UInt8, ∃ n96 : Int, zA h77 p94 2 = some [.str s95, .int .i64 n96] /\
 vif (!((s92 == s95) && ((n93 == n96) && true)))
 (yes5 (.bool false) h77)
 ((True) /\ I75 [.int .i64 (zE .i64 (n73 + 1)), .int .i64 (zE .i64 (n74 + 1))] h77 /\ m76 [.int .i64 (zE .i64 (n73 + 1)), .int .i64 (zE .i64 (n74 + 1))] h77 < m76 [.int .i64 n73, .int .i64 n74] h77))))
 (yes5 (.bool (n73 == (zJ q72 : Int))) h77) := by
  subst hnow
  generalize hp : (fun x : Bs × Nat => vA nm x.1) = p at *
  have hfl : (was.filter p).length <= was.length := List.length_filter_le _ _
  refine ⟨fun xs h77 => h77 = h71 /\ ∃ i : Nat, xs = [.int .i64 (((was.take i).filter p).length : Nat), .int .i64 (i : Nat)] /\ i <= was.length, fun xs _ => match xs with | [_, .int _ i] => (was.length - i).toNat | _ => 0, ⟨rfl, 0, rfl, by omega⟩, ?_⟩
  rintro n73 n74 h77 ⟨rfl, i, hx, hi⟩
  simp only [List.cons.injEq, AV.int.injEq, true_and, and_true] at hx
  obtain ⟨rfl, rfl⟩ := hx
  rw [H61.len]
  refine zB (fun g => ?_) (fun g => ?_)
  · replace g := of_decide_eq_true g
    have hil : i < was.length := by omega
    have hwi : was[i]? = some (was[i]'hil) := List.getElem?_eq_getElem hil
    generalize was[i]'hil = x at hwi
    have at61 : ∀ {K : PA -> Prop}, (∀ r, zA h77 r 2 = some [.str x.1, .int .i64 (x.2 : Nat)] -> K r) -> vIdx q61 (i : Int) 2 K := fun hK =>
      HasL.idx (E := lisE) H61 (by omega) (by omega) fun r y hy hc => by
        have hy : was[i]? = some y := by simpa using hy
        rw [hwi] at hy; cases hy
        exact hK r hc
    have c1 : ∀ r : PA, zA h77 r 2 = some [.str x.1, .int .i64 (x.2 : Nat)] -> zA h77 ⟨r.b, r.o + 0⟩ 1 = some [.str x.1] := fun r hc => zW (k := 0) (m := 1) hc (by omega)
    have hk1 : ((was.take i).filter p).length <= i := Nat.le_trans (List.length_filter_le _ _) (by simp; omega)
    have stays : p x = true -> ∀ {A B : Prop}, A -> (vif (decide ((((was.take i).filter p).length : Int) ≥ (zJ q72 : Int)))
        (yes5 (.bool false) h77)
        (vIdx q72 (((was.take i).filter p).length : Nat) 2 fun p91 =>
          ∃ s92 : List UInt8, ∃ n93 : Int, zA h77 p91 2 = some [.str s92, .int .i64 n93] /\
          vIdx q61 (i : Nat) 2 fun p94 =>
          ∃ s95 : List UInt8, ∃ n96 : Int, zA h77 p94 2 = some [.str s95, .int .i64 n96] /\
          vif (!((s92 == s95) && ((n93 == n96) && true))) (yes5 (.bool false) h77) A)) := by
      intro hpx A B hA
      have hat := zIB hwi hpx
      have hlt := (List.getElem?_eq_some_iff.1 hat).1
      rw [H72.len]
      refine zB (fun g => by have := of_decide_eq_true g; omega) (fun _ => ?_)
      refine HasL.idx (E := lisE) H72 (by omega) (by omega) fun r y hy hc => ?_
      have hy : (was.filter p)[((was.take i).filter p).length]? = some y := by simpa using hy
      rw [hat] at hy; cases hy
      refine ⟨_, _, hc, at61 fun r2 hc2 => ⟨_, _, hc2, zB (fun g => by simp at g) (fun _ => hA)⟩⟩
    have next : p x = true -> ∀ {m : LHn}, (∃ i2 : Nat, [AV.int .i64 (zE .i64 ((((was.take i).filter p).length : Int) + 1)), .int .i64 (zE .i64 ((i : Int) + 1))] = [.int .i64 (((was.take i2).filter p).length : Nat), .int .i64 (i2 : Nat)] /\ i2 <= was.length) := fun hpx m => by
      refine ⟨i + 1, ?_, by omega⟩
      rw [zAQ hwi, if_pos hpx, zF ⟨by omega, by omega⟩, zF ⟨by omega, by omega⟩]
      simp
    have hms : (match [AV.int .i64 (zE .i64 ((((was.take i).filter p).length : Int) + 1)), AV.int .i64 (zE .i64 ((i : Int) + 1))] with | [_, .int _ i] => (was.length - i).toNat | _ => 0) < (match [AV.int .i64 (((was.take i).filter p).length : Nat), AV.int .i64 (i : Nat)] with | [_, .int _ i] => (was.length - i).toNat | _ => 0) := by
      simp only
      rw [zF (n := (i : Int) + 1) ⟨by omega, by omega⟩]
      omega
    refine at61 fun r hc => ⟨_, c1 r hc, zB (fun g2 => ?_) (fun g2 => ?_)⟩
    · have g2 : x.1 ≠ nJ := by simpa using g2
      refine at61 fun r hc => ⟨_, c1 r hc, ?_⟩
      refine w44 H56 hln ⟨_, rfl, zB (fun g3 => ?_) (fun g3 => ?_)⟩
      · have hpx : p x = false := by
          rw [<- hp]
          unfold vA
          simp only [Bool.not_eq_true', List.contains_eq_mem, decide_eq_false_iff_not] at g3 ⊢
          simp [g3, g2]
        refine ⟨trivial, ⟨rfl, i + 1, ?_, by omega⟩, ?_⟩
        · rw [zAQ hwi, hpx, zF ⟨by omega, by omega⟩]
          simp
        · simp only
          rw [zF (n := (i : Int) + 1) ⟨by omega, by omega⟩]
          omega
      · have hpx : p x = true := by
          rw [<- hp]
          unfold vA
          simp only [Bool.not_eq_false', List.contains_eq_mem, decide_eq_true_eq] at g3 ⊢
          simp [g3]
        exact stays hpx (B := True) ⟨trivial, ⟨rfl, next hpx (m := fun _ _ => 0)⟩, hms⟩
    · have g2 : x.1 = nJ := by simpa using g2
      have hpx : p x = true := by
        rw [<- hp]
        unfold vA
        simp [g2]
      exact stays hpx (B := True) ⟨trivial, ⟨rfl, next hpx (m := fun _ _ => 0)⟩, hms⟩
  · replace g := of_decide_eq_false g
    have : i = was.length := by omega
    subst this
    rw [List.take_length, H72.len]
    simp [yes5]
variable {h0 h9 : Heap} {w : Nat} {owE owX : zO} {jE dE sE jX dX sX : Nat} {SD : Nat -> Prop} {D Y : DS} {s : ESt} {pE pX n : Nat}
set_option maxHeartbeats 2000000 in
theorem s5 {q : OSl} {l : List OD} (L : Laid h) (O : OpL h q l) : AC Tryz.prog 5 [.sl q] h yes5 := ac5 (by
  unfold vc5
  refine w37 O fun b => ⟨b, rfl, zB (fun _ => s27 L fun h6 _ => ⟨_, rfl, rfl⟩) (fun _ => ?_)⟩
  refine w38 fun h9 w owE dE dX B => ⟨_, rfl, ?_⟩
  refine s27 (L.ext B.ext) fun h12 x12 => ⟨_, rfl, zB (fun g => by cases g) (fun _ => zB (fun g => by cases g) (fun _ => ?_))⟩
  refine w39 L (B.grow x12) fun h15 owE15 jE sE SD D owX jX sX Y W15 => ⟨_, rfl, zB (fun g => by cases g) (fun _ => ?_)⟩
  refine ⟨fun xs h20 => ∃ (i : Nat) (owE : zO) (sE : Nat) (SD : Nat -> Prop) (D : DS) (owX : zO) (sX : Nat) (Y : DS) (s : ESt) (pE pX : Nat), xs = [.int .i64 i] /\ i <= 40 /\ TW h h20 w owE jE dE sE SD D owX jX dX sX Y s pE pX i, fun xs _ => match xs with | [.int _ i] => (l.length - i).toNat | _ => 0,
    ⟨0, owE15, sE, SD, D, owX, sX, Y, _, 0, 0, rfl, by omega, W15⟩, ?_⟩
  rintro n17 h20 ⟨i, owE1, sE1, SD1, D1, owX1, sX1, Y1, s, pE, pX, hx, hi, W⟩
  simp only [List.cons.injEq, AV.int.injEq, true_and, and_true] at hx
  subst hx
  have O20 := O.ext W.geo.ext
  rw [O.len]
  have V := W.vld
  have G := W.geo
  have hcnt := W.cnt
  have hfE := W.fE
  have hused : D1.used <= 16384 := by obtain ⟨_, _, _, _, C⟩ := W.J.dk; exact C.used
  have clean := zMR (D := D1) (names := zN (zS (yF s.1 s.2.1 s.2.2))) W.sE.on W.sE.lft W.sE.names W.sE.blocks
  obtain ⟨kc, Dc, hc1, hc2⟩ := clean
  have hln : (zN (zS (yF s.1 s.2.1 s.2.2))).length <= 1000000 := by
    have h1 := xX (l := zS (yF s.1 s.2.1 s.2.2))
    have h2 := jV (l := yF s.1 s.2.1 s.2.2) fun d hd => (xE (zD7 V d hd)).2.2.2.1
    have h3 : (yF s.1 s.2.1 s.2.2).length <= 41 + 1 := by
      unfold yF
      rw [List.length_append]
      cases s.1 <;> simp <;> omega
    have : (yF s.1 s.2.1 s.2.2).length * 256 <= 42 * 256 := Nat.mul_le_mul_right _ h3
    omega
  have ll := zQK (D := D1)
  have last : vPtr (some ⟨w, 0⟩) fun p49 =>
      ∃ p50 : OPa, zA h20 ⟨p49.b, p49.o + 1⟩ 1 = some [.ptr p50] /\
      AC Tryz.prog 35 [.ptr p50] h20 fun v51 h52 => ∃ p53 : OPa, v51 = .ptr p53 /\
      AC Tryz.prog 41 [.ptr p53] h52 fun v54 h55 => ∃ q56 : OSl, v54 = .sl q56 /\
      vPtr (some ⟨w, 0⟩) fun p57 =>
      ∃ p58 : OPa, zA h55 ⟨p57.b, p57.o + 0⟩ 1 = some [.ptr p58] /\
      AC Tryz.prog 42 [.ptr p58] h55 fun v59 h60 => ∃ q61 : OSl, v59 = .sl q61 /\
      vPtr (some ⟨w, 0⟩) fun p62 =>
      ∃ p63 : OPa, zA h60 ⟨p62.b, p62.o + 1⟩ 1 = some [.ptr p63] /\
      AC Tryz.prog 43 [.ptr p63] h60 fun v64 h65 => ∃ n66 n67 : Int, v64 = .tup [.int .i64 n66, .int .i64 n67] /\
      vif (n67 != 0)
      (yes5 (.bool false) h65)
      (vPtr (some ⟨w, 0⟩) fun p68 =>
      ∃ p69 : OPa, zA h65 ⟨p68.b, p68.o + 0⟩ 1 = some [.ptr p69] /\
      AC Tryz.prog 42 [.ptr p69] h65 fun v70 h71 => ∃ q72 : OSl, v70 = .sl q72 /\
      ∃ (I75 : LHp) (m76 : LHn), I75 [.int .i64 0, .int .i64 0] h71 /\
      ∀ n73 n74 : Int, ∀ h77 : Heap, I75 [.int .i64 n73, .int .i64 n74] h77 ->
      vif (decide (n74 < (zJ q61 : Int)))
      (vIdx q61 n74 2 fun p78 =>
      ∃ s79 : List UInt8, zA h77 ⟨p78.b, p78.o + 0⟩ 1 = some [.str s79] /\
      vif (!(s79 == [106, 111, 117, 114, 110, 97, 108]))
      (vIdx q61 n74 2 fun p80 =>
      ∃ s81 : List UInt8, zA h77 ⟨p80.b, p80.o + 0⟩ 1 = some [.str s81] /\
      AC Tryz.prog 44 [.sl q56, .str s81] h77 fun v82 h83 => ∃ b84 : Bool, v82 = .bool b84 /\
      vif (!b84)
      ((True) /\ I75 [.int .i64 n73, .int .i64 (zE .i64 (n74 + 1))] h83 /\ m76 [.int .i64 n73, .int .i64 (zE .i64 (n74 + 1))] h83 < m76 [.int .i64 n73, .int .i64 n74] h77)
      (vif (decide (n73 ≥ (zJ q72 : Int)))
      (yes5 (.bool false) h83)
      (vIdx q72 n73 2 fun p85 =>
      ∃ s86 : List UInt8, ∃ n87 : Int, zA h83 p85 2 = some [.str s86, .int .i64 n87] /\
      vIdx q61 n74 2 fun p88 =>
      ∃ s89 : List UInt8, ∃ n90 : Int, zA h83 p88 2 = some [.str s89, .int .i64 n90] /\
      vif (!((s86 == s89) && ((n87 == n90) && true)))
      (yes5 (.bool false) h83)
      ((True) /\ I75 [.int .i64 (zE .i64 (n73 + 1)), .int .i64 (zE .i64 (n74 + 1))] h83 /\ m76 [.int .i64 (zE .i64 (n73 + 1)), .int .i64 (zE .i64 (n74 + 1))] h83 < m76 [.int .i64 n73, .int .i64 n74] h77))))
      (vif (decide (n73 ≥ (zJ q72 : Int)))
      (yes5 (.bool false) h77)
      (vIdx q72 n73 2 fun p91 =>
      ∃ s92 : List UInt8, ∃ n93 : Int, zA h77 p91 2 = some [.str s92, .int .i64 n93] /\
      vIdx q61 n74 2 fun p94 =>
      ∃ s95 : List UInt8, ∃ n96 : Int, zA h77 p94 2 = some [.str s95, .int .i64 n96] /\
      vif (!((s92 == s95) && ((n93 == n96) && true)))
      (yes5 (.bool false) h77)
      ((True) /\ I75 [.int .i64 (zE .i64 (n73 + 1)), .int .i64 (zE .i64 (n74 + 1))] h77 /\ m76 [.int .i64 (zE .i64 (n73 + 1)), .int .i64 (zE .i64 (n74 + 1))] h77 < m76 [.int .i64 n73, .int .i64 n74] h77))))
      (yes5 (.bool (n73 == (zJ q72 : Int))) h77)) := by
    refine ⟨_, G.at (k := 1) rfl, ?_⟩
    refine k35 W.J V (by omega) fun p53 SD3 h52 x52 hs3 S3 => ⟨_, rfl, ?_⟩
    refine v41 S3.view V (by omega) fun q56 h55 N56 => ⟨_, rfl, ?_⟩
    have W55 := (W.grow x52).grow N56.1
    refine ⟨_, W55.geo.at (k := 0) rfl, ?_⟩
    refine d42 W55.J.dk fun q61 h60 N61 => ⟨_, rfl, ?_⟩
    have W60 := W55.grow N61.1
    refine ⟨_, W60.geo.at (k := 1) rfl, ?_⟩
    have l52 := x52.len
    have l55 := N56.1.len
    refine k43 W60.J rfl V (by omega) (by rw [W.sE.pnd]; simp) fun h65 ow65 J65 S65 => ⟨_, _, rfl, ?_⟩
    rw [hc1] at J65 ⊢
    refine zB (fun g => by simp at g) (fun _ => ?_)
    have w65 := S65.keeps _ _ (fun hc => hc.elim (fun h => h W60.geo.n2.1) W60.geo.n2.2.1) W60.geo.wc
    refine ⟨some ⟨dE, 0⟩, by have := zZ w65 (o := 0) (k := 1) (by simp); simpa using this, ?_⟩
    refine d42 J65.dk fun q72 h71 N72 => ⟨_, rfl, ?_⟩
    have n56 : ∀ t, q56 = some t -> owE1 t.b = none /\ t.b ≠ jE := fun t ht => W.J.nol (by have := N56.2.2 t ht; omega)
    have n61 : ∀ t, q61 = some t -> owE1 t.b = none /\ t.b ≠ jE := fun t ht => W.J.nol (by have := N61.2.2 t ht; omega)
    have H56 : HasL strE h71 q56 _ := (S65.hasL (N56.ext N61.1).hasL n56).mono N72.1
    have H61 : HasL lisE h71 q61 _ := (S65.hasL N61.hasL n61).mono N72.1
    exact tail5 H56 H61 N72.hasL hc2 (by omega) hln
  refine zB (fun g => ?_) (fun _ => last)
  replace g := of_decide_eq_true g
  have hil : i < l.length := by omega
  refine zB (fun g40 => ?_) (fun _ => last)
  replace g40 := of_decide_eq_true g40
  have hi40 : i < 40 := by omega
  have step : ∀ {h33 : Heap} {owE' : zO} {sE' : Nat} {SD' : Nat -> Prop} {D' : DS} {owX' : zO} {sX' : Nat} {Y' : DS} {s' : ESt} {pE' pX' : Nat}, TW h h33 w owE' jE dE sE' SD' D' owX' jX dX sX' Y' s' pE' pX' (i + 1) ->
      (∃ (i2 : Nat) (owE : zO) (sE : Nat) (SD : Nat -> Prop) (D : DS) (owX : zO) (sX : Nat) (Y : DS) (s : ESt) (pE pX : Nat), [AV.int .i64 (zE .i64 ((i : Int) + 1))] = [.int .i64 i2] /\ i2 <= 40 /\ TW h h33 w owE jE dE sE SD D owX jX dX sX Y s pE pX i2) := fun W' => ⟨i + 1, _, _, _, _, _, _, _, _, _, _, by rw [zF ⟨by omega, by omega⟩]; simp, by omega, W'⟩
  have hms : (match [AV.int .i64 (zE .i64 ((i : Int) + 1))] with | [.int _ i] => (l.length - i).toNat | _ => 0) < (match [AV.int .i64 (i : Nat)] with | [.int _ i] => (l.length - i).toNat | _ => 0) := by
    simp only
    rw [zF (n := (i : Int) + 1) ⟨by omega, by omega⟩]
    omega
  obtain ⟨L1, g1, k1, f1⟩ := O
  have hxl : i < L1.length := by omega
  have hLi : L1[i]? = some (L1[i]'hxl) := List.getElem?_eq_getElem hxl
  obtain ⟨_, hR, _⟩ := f1 i _ _ hLi (List.getElem?_eq_getElem hil)
  generalize L1[i]'hxl = x at hLi hR
  have at20 : ∀ {K : PA -> Prop}, (∀ r, zA h20 r 8 = some (opE.f x) -> K r) -> vIdx q (i : Int) 8 K := fun hK =>
    HasL.idx (E := opE) (g1.mono G.ext) (by omega) (by omega) fun r y hy hc => by
      have hy : L1[i]? = some y := by simpa using hy
      rw [hLi] at hy; cases hy
      exact hK r hc
  have kind : ∀ r : PA, zA h20 r 8 = some (opE.f x) -> zA h20 ⟨r.b, r.o + 0⟩ 1 = some [.int .i64 x.1] := fun r hc => zW (k := 0) (m := 1) hc (by show 0 + 1 <= 8; omega)
  refine at20 fun r hc => ⟨_, kind r hc, zB (fun gk => ?_) (fun gk => ?_)⟩
  · have gk : x.1 = 1 := by simpa using gk
    refine at20 fun r hc => ⟨_, _, _, _, _, _, _, _, hc, ?_⟩
    rw [gk]
    refine W.commit hi40 (e := x.2.1) hR (a := 0) (b := 0) fun h' owE' sE' SD' D' owX' sX' Y' s' pE' pX' W' => ⟨_, rfl, zB (fun g => by cases g) (fun _ => ⟨trivial, step W', hms⟩)⟩
  · refine at20 fun r hc => ⟨_, kind r hc, zB (fun gk => ?_) (fun _ => ⟨trivial, step (W.more hi40), hms⟩)⟩
    have gk : x.1 = 7 := by simpa using gk
    refine at20 fun r hc => ⟨_, _, _, _, _, _, _, _, hc, ?_⟩
    rw [gk]
    refine W.create hi40 fun h' owE' D' owX' Y' W' => ⟨_, rfl, zB (fun g => by cases g) (fun _ => ⟨trivial, step W', hms⟩)⟩)
end
end Go.Proofs.YtnglhicedhcpbaaGreatDoor
