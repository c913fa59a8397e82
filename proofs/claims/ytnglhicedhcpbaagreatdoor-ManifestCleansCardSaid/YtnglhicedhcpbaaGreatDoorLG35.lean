import Derived.Test.YtnglhicedhcpbaaGreatDoorLG23
import Derived.Test.YtnglhicedhcpbaaGreatDoorLG29
import Derived.Test.YtnglhicedhcpbaaGreatDoorLG30
import Derived.Test.YtnglhicedhcpbaaGreatDoorLG31
import Derived.Test.YtnglhicedhcpbaaGreatDoorLG32
import Derived.Test.YtnglhicedhcpbaaGreatDoorLG34
namespace Go.Proofs.YtnglhicedhcpbaaGreatDoor
open Go.Ab
open Go.Num hiding Bs snoc_ind
open Go.Page hiding Bs get
open Go.Dsk
set_option linter.unusedVariables false
set_option linter.unusedSimpArgs false
structure JX (h : Heap) (ow : zO) (jp dp sp : Nat) (D : DS) (has : Bool) (done : List ED) (mark : ED) (pages : Nat) (brk : Bool) : Prop where
 jc : h[jp]? = some (.cells [.ptr (some ⟨dp, 0⟩), .ptr (some ⟨sp, 0⟩), .int .i64 (pages : Nat), .bool brk] true)
 dk : RDR h ow dp D
 st : RefS h (dsk ow) sp has done mark
 jo : ow jp = some .map
structure kT (ow : zO) (jp : Nat) (h : Heap) (ow' : zO) (h' : Heap) : Prop where
 keeps : zM (fun b => dskR ow b ∨ b = jp) h h'
 len : h.length <= h'.length
 own : ∀ b, ow' b ≠ none -> ow b ≠ none ∨ h.length <= b
 fgn : ∀ b, ow b = some .map -> ow' b = some .map
section
variable {h h' : Heap} {ow ow' ow2 : zO} {jp dp sp : Nat} {D D' : DS} {has : Bool} {done : List ED} {mark : ED} {pages : Nat} {brk : Bool} {Q : AHp}
theorem zEP {D : DS} {s : List UInt8} : (D.find s).isSome = true ↔ s ∈ D.files.map (·.name) := by
 unfold DS.find
 rw [List.find?_isSome]
 simp
theorem RDR.live (R : RDR h ow dp D) {b : Nat} (hb : ow b ≠ none) : b < h.length := by
 obtain ⟨_, _, C⟩ := R
 exact C.live b hb
theorem zIM {s x : List UInt8} {f : FA} (hon : D.off = false) (hleft : D.left = -1) (hx : x.length = 64) (hf : D.find s = some f) :
  D.append s x = if D.limit <= D.used then (2, D) else (0, { D with files := upF D.files { f with now := f.now ++ [x] }, pends := D.pends ++ [(f.b, f.now.length, x)] }) := by
 have hd : D.deed = (0, D) := by
  unfold DS.deed
  rw [if_neg (by omega), if_neg (by omega)]
 unfold DS.append
 rw [if_neg (by simp [hx]), if_neg (by simp [hon]), hf]
 simp only [hd, if_true]
theorem zIL {s x : List UInt8} (R : RDR h ow dp D) (hon : D.off = false) (hleft : D.left = -1) (hx : x.length = 64) (hf : (D.find s).isSome = true) :
  (D.append s x).2.off = false /\ (D.append s x).2.left = -1 /\ ((D.append s x).2.find s).isSome = true := by
 obtain ⟨f, hf⟩ := Option.isSome_iff_exists.1 hf
 rw [zIM hon hleft hx hf]
 split
 ·exact ⟨hon, hleft, by simp [hf]⟩
 ·refine ⟨hon, hleft, zEP.2 ?_⟩
  obtain ⟨_, _, C⟩ := R
  obtain ⟨hfm, hfn⟩ := jN hf
  show s ∈ (upF D.files _).map (·.name)
  rw [zB9 (f := f) (f' := { f with now := f.now ++ [x] }) (·.name) C.blocks hfm rfl rfl]
  exact List.mem_map.2 ⟨f, hfm, hfn⟩
theorem r128A {s x : List UInt8} {q : OSl} {n : Int} (R : RDR h ow dp D) (hon : D.off = false) (hleft : D.left = -1) (hf : (D.find s).isSome = true) (H : HasL byE h q x) (hqo : ∀ t, q = some t -> ow t.b = none) (hx : x.length = 64) (hpl : D.pends.length <= 1000000)
  (hQ : ∀ h' ow', RDR h' ow' dp (D.append s x).2 -> yV ow h ow' h' -> Q (.int .i64 (D.append s x).1) h') : AC Tryz.prog 128 [.ptr (some ⟨dp, 0⟩), .str s, .int .i64 n, .sl q, .bool true] h Q := by
 obtain ⟨f, hf⟩ := Option.isSome_iff_exists.1 hf
 rw [zIM hon hleft hx hf] at hQ
 have R0 := R
 obtain ⟨qL, qP, C⟩ := R
 refine r128 C hon hleft hf H hqo hx hpl (fun h0 => ?_) (fun h1 h' ow' R' S => ?_)
 ·rw [if_pos h0] at hQ
  exact hQ h ow R0 (.refl _ _)
 ·rw [if_neg h1] at hQ
  exact hQ h' ow' R' S
theorem kT.refl (ow : zO) (jp : Nat) (h : Heap) : kT ow jp h ow h := ⟨.refl _ _, Nat.le_refl _, fun b hb => .inl hb, fun b h => h⟩
theorem kT.trans {ow0 ow1 ow2 : zO} {h0 h1 h2 : Heap} (a : kT ow0 jp h0 ow1 h1) (b : kT ow1 jp h1 ow2 h2) : kT ow0 jp h0 ow2 h2 := by
 refine ⟨fun k B hk hB => ?_, Nat.le_trans a.len b.len, fun k hk => ?_, fun k hk => b.fgn k (a.fgn k hk)⟩
 ·refine b.keeps k B (fun hn => ?_) (a.keeps k B hk hB)
  rcases hn with hn | hn
  ·rcases a.own k hn.1 with h | h
   ·exact hk (.inl ⟨h, fun hm => hn.2 (a.fgn k hm)⟩)
   ·have := zD hB; omega
  ·exact hk (.inr hn)
 ·rcases b.own k hk with h | h
  ·exact a.own k h
  ·exact .inr (Nat.le_trans a.len h)
theorem kT.ext (e : Ext h h') : kT ow jp h ow h' := ⟨zK e, e.len, fun b hb => .inl hb, fun b h => h⟩
theorem yV.x (S : yV ow h ow' h') : kT ow jp h ow' h' := ⟨yM S.keeps fun b hb => .inl hb, S.len, S.own, S.fgn⟩
theorem yV.keepsD (S : yV ow h ow' h') : zM (dsk ow) h h' := yM S.keeps fun b hb => hb.1
theorem kT.nobody (S : kT ow jp h ow' h') {b : Nat} (hb : b < h.length) (ho : ow b = none) : ow' b = none := by
 cases hc : ow' b with
 | none => rfl
 | some r =>
  rcases S.own b (by rw [hc]; simp) with h1 | h1
  ·exact absurd ho h1
  ·omega
theorem kT.hasL {α : Type} {E : Enc α} (S : kT ow jp h ow' h') {q : OSl} {l : List α} (H : HasL E h q l) (hq : ∀ s, q = some s -> ow s.b = none /\ s.b ≠ jp) : HasL E h' q l :=
 S.keeps.hasL (fun s hs hx => hx.elim (fun h1 => h1.1 (hq s hs).1) (hq s hs).2) H
theorem kT.not (S : kT ow jp h ow' h') {b : Nat} (hb : b < h.length) (ho : ¬ dskR ow b) : ¬ dskR ow' b := fun hx => by
 rcases S.own b hx.1 with h1 | h1
 ·exact ho ⟨h1, fun hm => hx.2 (S.fgn b hm)⟩
 ·omega
theorem RDR.foreign (R : RDR h ow dp D) (K : zM (fun b => ow b = some .map) h h') (hl : h.length <= h'.length) : RDR h' ow dp D := by
 obtain ⟨qL, qP, C⟩ := R
 have nn : ∀ b, ow b = none -> ¬ ow b = some .map := fun b hb hc => by rw [hb] at hc; cases hc
 have no : ∀ b r, ow b = some r -> r ≠ .map -> ¬ ow b = some .map := fun b r hb hr hc => by rw [hb] at hc; cases hc; exact hr rfl
 refine ⟨qL, qP, { C with live := fun b hb => by have := C.live b hb; omega, pb := K _ _ (no _ _ C.pr (by simp)) C.pb, lst := K.hasL (fun s hs => nn _ (C.lstr s hs)) C.lst, pnd := ?_, file := fun f hf => ?_ }⟩
 ·obtain ⟨ps, A, hl2, hel⟩ := C.pnd
  refine ⟨ps, A.keeps K (fun s hs => no _ _ (C.pndr s hs) (by simp)), hl2, fun k x y h1 h2 => ?_⟩
  obtain ⟨a, b, c, d, e⟩ := hel k x y h1 h2
  exact ⟨a, b, K.hasL (fun s hs => nn _ (e s hs)) c, d, e⟩
 ·obtain ⟨r, qn, qs, c, a1, a2, r1, r2⟩ := C.file f hf
  exact ⟨r, qn, qs, K _ _ (no _ _ r (by simp)) c, a1.keeps K (fun s hs => no _ _ (r1 s hs) (by simp)) (fun b hb _ => nn b hb) (fun b hb _ => hb), a2.keeps K (fun s hs => no _ _ (r2 s hs) (by simp)) (fun b hb _ => nn b hb) (fun b hb _ => hb), r1, r2⟩
variable (J : JX h ow jp dp sp D has done mark pages brk)
include J
theorem JX.jl : jp < h.length := zD J.jc
theorem JX.ext (x : Ext h h') : JX h' ow jp dp sp D has done mark pages brk := ⟨x _ _ J.jc, J.dk.grow x, J.st.ext x, J.jo⟩
theorem JX.step (S : yV ow h ow' h') (R : RDR h' ow' dp D') : JX h' ow' jp dp sp D' has done mark pages brk :=
 ⟨S.keeps _ _ (fun h => h.2 J.jo) J.jc, R, J.st.keeps S.keepsD S.own, S.fgn _ J.jo⟩
theorem JX.at {k : Nat} {x : AV} (hx : [AV.ptr (some ⟨dp, 0⟩), .ptr (some ⟨sp, 0⟩), .int .i64 (pages : Nat), .bool brk][k]? = some x) : zA h ⟨jp, 0 + k⟩ 1 = some [x] := by
 have hk := zD hx
 rw [zZ J.jc (by omega), List.take_one, List.head?_drop, hx]; rfl
theorem JX.put {pages' : Nat} {brk' : Bool} {B : Blk} (hB : B = .cells [.ptr (some ⟨dp, 0⟩), .ptr (some ⟨sp, 0⟩), .int .i64 (pages' : Nat), .bool brk'] true) : JX (h.set jp B) ow jp dp sp D has done mark pages' brk' /\ kT ow jp h ow (h.set jp B) := by
 have K : zM (fun b => b = jp) h (h.set jp B) := zT rfl
 refine ⟨⟨by rw [List.getElem?_set_self J.jl, hB], J.dk.foreign (yM K fun b hb => by rw [hb]; exact J.jo) (by simp), J.st.keeps (yM K fun b hb => by rw [hb]; show ow jp ≠ none; rw [J.jo]; simp) (fun b hb => .inl hb), J.jo⟩, yM K fun b hb => .inr hb, by simp, fun b h => .inl h, fun b h => h⟩
end
end Go.Proofs.YtnglhicedhcpbaaGreatDoor
namespace Go.Proofs.YtnglhicedhcpbaaGreatDoor
open Go.Ab
open Go.Num hiding Bs snoc_ind
open Go.Page hiding Bs get
open Go.Dsk hiding Bs
open Go.Man hiding Bs drop_cons
set_option linter.unusedVariables false
set_option linter.unusedSimpArgs false
section
variable {h h' : Heap} {ow ow' ow2 : zO} {jp dp sp : Nat} {D D' : DS} {has : Bool} {done : List ED} {mark : ED} {pages : Nat} {brk : Bool} {Q : AHp}
variable (J : JX h ow jp dp sp D has done mark pages brk)
include J
theorem k194 {name : Bs} {e : EV} {d : ED} (hon : D.off = false) (hleft : D.left = -1) (hfn : (D.find name).isSome = true) (hR : EdR h e d) (hc : chk d = true) (hpl : D.pends.length <= 500000) (hpg : pages <= 100000000)
  (hQ : ∀ h' ow', JX h' ow' jp dp sp (addP D name (row (1 + pages) (encD d))).2.1 has done mark (pages + (addP D name (row (1 + pages) (encD d))).2.2) brk -> kT ow jp h ow' h' ->
   Q (.int .i64 (addP D name (row (1 + pages) (encD d))).1) h') : AC Tryz.prog 194 [.ptr (some ⟨jp, 0⟩), .str name, evV e] h Q := ac194 (by
 unfold vc194
 refine ⟨_, J.at (k := 2) rfl, ?_⟩
 refine t256 hR hc fun q11 h10 N => ⟨q11, rfl, ?_⟩
 have J8 := J.ext N.1
 refine ⟨⟨_, J8.at (k := 2) rfl, rfl⟩, ?_⟩
 obtain ⟨_, _, _, hr1, hr2⟩ := xE hc
 have hel : (encD d).length <= 14000 := by
  unfold encD
  have h1 := zY (n := d.1.toNat) (xE hc).1.2
  have h2 := zY (n := d.2.1.toNat) (xE hc).2.1.2
  have h3 := zY (n := d.2.2.1.toNat) (xE hc).2.2.1.2
  have h4 := zY (n := d.2.2.2.length) (by simp only [M63]; omega)
  have h5 := zA3 hr2
  simp only [List.length_append]; omega
 have hrl := zBX (encD d).length (1 + pages) (encD d) (Nat.le_refl _)
 rw [zF (n := (1 : Int) + ((pages : Nat) : Int)) ⟨by omega, by omega⟩, show (1 : Int) + ((pages : Nat) : Int) = ((1 + pages : Nat) : Int) by omega]
 refine k255 N.hasL (by omega) (by omega) fun q14 qs h14 L14 => ⟨q14, rfl, ?_⟩
 generalize hR1 : row (1 + pages) (encD d) = R at *
 have J14 := J8.ext L14.ext
 have x14 : Ext h h14 := N.1.trans L14.ext
 have hpos : ∀ p ∈ R, p.length = 64 := fun p hp => by
  obtain ⟨i, hi⟩ := List.getElem?_of_mem hp
  rw [<- hR1] at hi
  exact (vR _ _ _ (Nat.le_refl _) i p hi).2
 have hll := L14.lls.len
 have nol : ∀ {b : Nat}, h10.length <= b -> ow b = none := fun {b} h1 => by
  cases ho : ow b with
  | none => rfl
  | some r => have := J8.dk.live (b := b) (by rw [ho]; simp); omega
 have jl := J8.jl
 have njp : ∀ {b : Nat}, h10.length <= b -> b ≠ jp := fun {b} h1 => by omega
 refine ⟨fun xs h20 => ∃ (i : Nat) (ow' : zO) (D' : DS), xs = [.int .i64 i] /\ i <= R.length /\ addP D name (R.take i) = (0, D', i) /\ D'.pends.length <= D.pends.length + i /\ D'.off = false /\ D'.left = -1 /\ (D'.find name).isSome = true /\ JX h20 ow' jp dp sp D' has done mark (pages + i) brk /\ kT ow jp h14 ow' h20, fun xs _ => match xs with | [.int _ i] => (R.length - i).toNat | _ => 0,
  ⟨0, ow, D, rfl, by omega, rfl, by omega, hon, hleft, hfn, J14, .refl _ _ _⟩, ?_⟩
 rintro n17 h20 ⟨i, ow2, D2, hx, hi, hadd, hpl2, on2, left2, fn2, J20, S20⟩
 simp only [List.cons.injEq, AV.int.injEq, true_and, and_true] at hx
 subst hx
 rw [hll]
 refine zB (fun g => ?_) (fun g => ?_)
 ·replace g := of_decide_eq_true g
  have hir : i < R.length := by omega
  have A1 : HasL slE h20 q14 qs := S20.hasL L14.oa.hasL (fun s hs => ⟨nol (L14.ob s hs), njp (L14.ob s hs)⟩)
  refine ⟨_, J20.at (k := 0) rfl, ?_⟩
  refine HasL.idx (E := slE) A1 (by omega) (by have := L14.len; omega) fun p s hs hcs => ⟨s, hcs, ?_⟩
  have hs : qs[i]? = some s := by simpa using hs
  have hpR : R[i]? = some (R[i]'hir) := List.getElem?_eq_getElem hir
  have Hp : HasL byE h20 s (R[i]'hir) := S20.hasL (L14.el i s _ hs hpR) fun t ht => by
   subst ht
   exact ⟨nol (L14.eb i t hs).1, njp (L14.eb i t hs).1⟩
  have hlive : ∀ t, s = some t -> ow2 t.b = none := fun t ht => by
   subst ht
   exact S20.nobody (L14.live hs) (nol (L14.eb i t hs).1)
  have h64 := hpos _ (List.getElem_mem hir)
  have still := zIL J20.dk on2 left2 h64 fn2
  refine r128A J20.dk on2 left2 fn2 Hp hlive h64 (by omega) fun h26 ow3 R26 S26 => ⟨_, rfl, ?_⟩
  have J26 := J20.step S26 R26
  have T26 : kT ow jp h14 ow3 h26 := S20.trans S26.x
  refine zB (fun g2 => ?_) (fun g2 => ?_)
  ·have g2 : (D2.append name (R[i]'hir)).1 ≠ 0 := by simpa using g2
   rw [zIN hadd hpR g2] at hQ
   exact hQ h26 ow3 J26 ((kT.ext x14).trans T26)
  ·have g2 : (D2.append name (R[i]'hir)).1 = 0 := by simpa using g2
   refine ⟨_, J26.at (k := 2) rfl, yD J26.jc (o := 2) (by simp) ?_⟩
   rw [zF (n := ((pages + i : Nat) : Int) + 1) ⟨by omega, by omega⟩, zF (n := ((i : Nat) : Int) + 1) ⟨by omega, by omega⟩]
   obtain ⟨J31, S31⟩ := J26.put (pages' := pages + (i + 1)) (brk' := brk) (B := .cells (splice [.ptr (some ⟨dp, 0⟩), .ptr (some ⟨sp, 0⟩), .int .i64 ((pages + i : Nat) : Int), .bool brk] 2 [.int .i64 (((pages + i : Nat) : Int) + 1)]) true) (by
    have : (((pages + i : Nat) : Int) + 1) = ((pages + (i + 1) : Nat) : Int) := by omega
    rw [this]; rfl)
   refine ⟨⟨rfl, trivial⟩, ⟨i + 1, ow3, _, by simp, by omega, zIO hadd hpR g2, ?_, still.1, still.2.1, still.2.2, J31, T26.trans S31⟩, by simp only; omega⟩
   have := zA8 (D := D2) (t := name) (p := R[i]'hir)
   omega
 ·replace g := of_decide_eq_false g
  have : i = R.length := by omega
  subst this
  rw [List.take_length] at hadd
  rw [hadd] at hQ
  exact hQ h20 ow2 J20 ((kT.ext x14).trans S20))
end
end Go.Proofs.YtnglhicedhcpbaaGreatDoor
namespace Go.Proofs.YtnglhicedhcpbaaGreatDoor
open Go.Ab
open Go.Dsk hiding Bs
set_option linter.unusedVariables false
set_option linter.unusedSimpArgs false
section
variable {h h' : Heap} {Dn : Nat -> Prop} {p : Nat} {has : Bool} {done : List ED} {mark : ED} {Q : AHp}
set_option maxRecDepth 20000 in
theorem k192 (S : RefS h Dn p has done mark) (hD : ∀ b, Dn b -> b < h.length) (hlen : done.length <= 1000) (hQ : ∀ p' h', Ext h h' -> h.length <= p' -> RefS h' Dn p' has done mark -> Q (.ptr (some ⟨p', 0⟩)) h') : AC Tryz.prog 192 [.ptr (some ⟨p, 0⟩)] h Q := ac192 (by
 obtain ⟨qd, m, L, h1, h2, h3, h4, h5, h6, h7, h8, h9, h10⟩ := S
 unfold vc192 PNew
 have c0 : ∀ {hX : Heap}, Ext h hX -> zA hX ⟨p, 0 + 0⟩ 1 = some [.sl qd] := fun x => by rw [zZ (x _ _ h1) (by simp)]; rfl
 have c1 : ∀ {hX : Heap}, Ext h hX -> zA hX ⟨p, 0 + 1⟩ 4 = some [.int .i64 m.1, .int .i64 m.2.1, .int .i64 m.2.2.1, .sl m.2.2.2] := fun x => by rw [zZ (x _ _ h1) (by simp)]; rfl
 have c5 : ∀ {hX : Heap}, Ext h hX -> zA hX ⟨p, 0 + 5⟩ 1 = some [.bool has] := fun x => by rw [zZ (x _ _ h1) (by simp)]; rfl
 refine ⟨qd, c0 (.refl _), _, _, _, _, c1 (.refl _), has, c5 (.refl _), ?_⟩
 have x12 : Ext h (h ++ [Blk.cells [] true]) := .app _ _
 refine ⟨⟨_, c5 x12, rfl⟩, ⟨_, _, _, _, c1 x12, rfl⟩, ⟨_, c0 x12, rfl⟩, ?_⟩
 refine zA6 (E := edE) (by simp) (h4.mono x12) (by omega) fun q13 h14 x14 O14 f14 => ?_
 have xx := x12.trans x14
 refine ⟨⟨_, c5 xx, rfl⟩, ⟨_, _, _, _, c1 xx, rfl⟩, ?_⟩
 have x16 : Ext h14 (h14 ++ [Blk.cells [.sl q13, .int .i64 m.1, .int .i64 m.2.1, .int .i64 m.2.2.1, .sl m.2.2.2, .bool has] true]) := .app _ _
 have xh := xx.trans x16
 have l12 := x12.len
 have l14 := xx.len
 have nD : ∀ {b : Nat}, h.length <= b -> ¬ Dn b := fun {b} hb hd => by have := hD b hd; omega
 refine hQ h14.length _ xh l14 ⟨q13, m, L, by simp, nD l14, fun s hs => ?_, (O14.ext x16).hasL, h5, fun j e d a b => ?_, ⟨h7.1, h7.2.1, h7.2.2.1, h7.2.2.2.mono xh⟩, fun s hs => ⟨(h8 s hs).1, ?_⟩, h9, h10⟩
 ·have hl := HasL.live O14.hasL s hs
  have : h.length <= s.b := by
   rcases f14 s hs with hb | hb
   ·omega
   ·omega
  exact ⟨nD this, by omega⟩
 ·obtain ⟨r, c⟩ := h6 j e d a b
  refine ⟨⟨r.1, r.2.1, r.2.2.1, r.2.2.2.mono xh⟩, fun s hs => ⟨(c s hs).1, ?_⟩⟩
  have := HasL.live r.2.2.2 s hs
  omega
 ·have := HasL.live h7.2.2.2 s hs
  omega)
end
end Go.Proofs.YtnglhicedhcpbaaGreatDoor
namespace Go.Proofs.YtnglhicedhcpbaaGreatDoor
open Go.Ab
open Go.Num hiding Bs snoc_ind
open Go.Page hiding Bs get
open Go.Dsk hiding Bs
open Go.Man hiding Bs drop_cons
set_option linter.unusedVariables false
set_option linter.unusedSimpArgs false
section
variable {h h' : Heap} {ow ow' ow2 : zO} {jp dp sp : Nat} {D D' : DS} {has : Bool} {done : List ED} {mark : ED} {pages : Nat} {brk : Bool} {Q : AHp} {m : Nat}
theorem RDR.marked (R : RDR h ow dp D) (K : zM (fun b => ow b = some .map) h h') (hl : h.length <= h'.length) (h1 : ∀ b, b < h.length -> ow2 b = ow b) (h2 : ∀ b, h.length <= b -> ow2 b ≠ none -> b < h'.length) : RDR h' ow2 dp D := by
 obtain ⟨qL, qP, C⟩ := R
 have nn : ∀ b, ow b = none -> ¬ ow b = some .map := fun b hb hc => by rw [hb] at hc; cases hc
 have no : ∀ b r, ow b = some r -> r ≠ .map -> ¬ ow b = some .map := fun b r hb hr hc => by rw [hb] at hc; cases hc; exact hr rfl
 have e : ∀ b r, ow b = some r -> ow2 b = some r := fun b r hb => by rw [h1 b (C.live b (by rw [hb]; simp)), hb]
 have e0 : ∀ b, b < h.length -> ow b = none -> ow2 b = none := fun b hb hn => by rw [h1 b hb, hn]
 refine ⟨qL, qP, { C with live := fun b hb => ?_, pr := e _ _ C.pr, pb := K _ _ (no _ _ C.pr (by simp)) C.pb, lst := K.hasL (fun s hs => nn _ (C.lstr s hs)) C.lst, lstr := fun s hs => e0 _ (HasL.live C.lst s hs) (C.lstr s hs), pnd := ?_, pndr := fun s hs => e _ _ (C.pndr s hs), file := fun f hf => ?_ }⟩
 ·rcases Nat.lt_or_ge b h.length with hb1 | hb1
  ·omega
  ·exact h2 b hb1 hb
 ·obtain ⟨ps, A, hl2, hel⟩ := C.pnd
  refine ⟨ps, A.keeps K (fun s hs => no _ _ (C.pndr s hs) (by simp)), hl2, fun k x y h1 h2 => ?_⟩
  obtain ⟨a, b, c, d, e'⟩ := hel k x y h1 h2
  exact ⟨a, b, K.hasL (fun s hs => nn _ (e' s hs)) c, d, fun s hs => e0 _ (HasL.live c s hs) (e' s hs)⟩
 ·obtain ⟨r, qn, qs, c, a1, a2, r1, r2⟩ := C.file f hf
  exact ⟨e _ _ r, qn, qs, K _ _ (no _ _ r (by simp)) c, a1.keeps K (fun s hs => no _ _ (r1 s hs) (by simp)) (fun b hb _ => nn b hb) (fun b hb hlt => e0 b hlt hb), a2.keeps K (fun s hs => no _ _ (r2 s hs) (by simp)) (fun b hb _ => nn b hb) (fun b hb hlt => e0 b hlt hb), fun s hs => e _ _ (r1 s hs), fun s hs => e _ _ (r2 s hs)⟩
theorem JX.marked (J : JX h ow jp dp sp D has done mark pages brk) (K : zM (fun b => ow b = some .map /\ b ≠ jp) h h') (hl : h.length <= h'.length) (h1 : ∀ b, b < h.length -> ow2 b = ow b) (h2 : ∀ b, h.length <= b -> ow2 b ≠ none -> b < h'.length) : JX h' ow2 jp dp sp D has done mark pages brk := by
 refine ⟨K _ _ (fun hx => hx.2 rfl) J.jc, J.dk.marked (yM K fun b hb => hb.1) hl h1 h2, J.st.keeps (yM K fun b hb => ?_) fun b hb => ?_, by rw [h1 _ J.jl, J.jo]⟩
 ·show ow b ≠ none
  rw [hb.1]; simp
 ·rcases Nat.lt_or_ge b h.length with hb1 | hb1
  ·left
   show ow b ≠ none
   rw [<- h1 b hb1]; exact hb
  ·exact .inr hb1
theorem JX.newSt {sp' : Nat} {has' : Bool} {done' : List ED} {mark' : ED} (J : JX h ow jp dp sp D has done mark pages brk) (S : RefS h (dsk ow) sp' has' done' mark') {B : Blk} (hB : B = .cells [.ptr (some ⟨dp, 0⟩), .ptr (some ⟨sp', 0⟩), .int .i64 (pages : Nat), .bool brk] true) :
  JX (h.set jp B) ow jp dp sp' D has' done' mark' pages brk /\ kT ow jp h ow (h.set jp B) := by
 have K : zM (fun b => b = jp) h (h.set jp B) := zT rfl
 refine ⟨⟨by rw [List.getElem?_set_self J.jl, hB], J.dk.foreign (yM K fun b hb => by rw [hb]; exact J.jo) (by simp), S.keeps (yM K fun b hb => by rw [hb]; show ow jp ≠ none; rw [J.jo]; simp) (fun b hb => .inl hb), J.jo⟩, yM K fun b hb => .inr hb, by simp, fun b h => .inl h, fun b h => h⟩
theorem row_64 {t : Nat} {b : List UInt8} : ∀ p ∈ row t b, p.length = 64 := fun p hp => by
 obtain ⟨i, hi⟩ := List.getElem?_of_mem hp
 exact (vR _ _ _ (Nat.le_refl _) i p hi).2
def SafeF (D : DS) : Prop := ∀ f ∈ D.files, f.safe.length <= 20000
variable (J : JX h ow jp dp sp D has done mark pages brk)
include J
set_option maxHeartbeats 1000000 in
theorem k117 {e : EV} {d : ED} (hb : brk = false) (S : Std D m) (hsf : SafeF D) (hj : (D.find nJ).isSome = true) (hR : EdR h e d) (hre : ∀ s, e.2.2.2 = some s -> ow s.b = none /\ s.b ≠ jp) (hd : done.length <= 99) (hpg : pages <= 1000000) (hm : 340 <= m)
  (h0 : (chk d && goes has done mark d) = false -> ∀ h', JX h' ow jp dp sp D has done mark pages false -> kT ow jp h ow h' -> Q (.int .i64 (resV has done mark d)) h')
  (h1 : (chk d && goes has done mark d) = true -> ∀ sp' h' ow' D' pg, JX h' ow' jp dp sp' D' (nHas d) (xV done d) (kQ d) pg false -> pg <= pages + 340 -> Std D' (m - 340) -> SafeF D' -> D'.files.map (·.name) = D.files.map (·.name) -> kT ow jp h ow' h' -> Q (.int .i64 0) h') :
  AC Tryz.prog 117 [.ptr (some ⟨jp, 0⟩), evV e] h Q := ac117 (by
 unfold vc117
 subst hb
 refine ⟨false, J.at (k := 3) rfl, zB (fun g => by cases g) (fun _ => ⟨_, J.at (k := 1) rfl, ?_⟩)⟩
 refine k192 J.st (fun b hb => J.dk.live hb) (by omega) fun p12 h11 x11 hp12 S11 => ⟨_, rfl, ?_⟩
 have J11 := J.ext x11
 have R11 : EdR h11 e d := ⟨hR.1, hR.2.1, hR.2.2.1, hR.2.2.2.mono x11⟩
 have rl := HasL.live hR.2.2.2
 have l11 := x11.len
 refine u193 S11 (fun b hb => J11.dk.live hb) (e := e) R11 (fun s hs => ⟨fun hc => hc (hre s hs).1, by have := rl s hs; omega⟩) (by omega) (fun hno => ⟨_, rfl, zB (fun _ => h0 hno h11 J11 (.ext x11)) (fun g => ?_)⟩) fun h14 hyes S14 K14 l14 => ⟨_, rfl, zB (fun g => by simp at g) (fun _ => ?_)⟩
 ·exfalso
  have g2 : resV has done mark d = 0 := bne_eq_false_iff_eq.1 g
  unfold resV at g2
  cases hc : chk d with
  | false => rw [hc] at g2; simp at g2
  | true =>
   rw [hc, Bool.true_and] at hno
   rw [hc, hno] at g2; simp at g2
 have hc : chk d = true := by
  cases hcc : chk d with
  | true => rfl
  | false => rw [hcc] at hyes; cases hyes
 have x14 : Ext h h14 := fun b B hB => by
  have hlt := zD hB
  exact K14 _ _ (fun hx => by omega) (x11 _ _ hB)
 have J14 := J.ext x14
 have R14 : EdR h14 e d := ⟨hR.1, hR.2.1, hR.2.2.1, hR.2.2.2.mono x14⟩
 have hrs := vW (pages := pages) hc
 obtain ⟨f, hf⟩ := Option.isSome_iff_exists.1 hj
 obtain ⟨P, a1, a2, a3, a4, a5⟩ := zFW S row_64 (Nat.le_trans hrs hm) hf
 have hfm := (jN hf).1
 refine k194 J14 (e := e) S.on S.lft hj R14 hc (by rw [S.pnd]; simp) (by omega) fun h17 ow17 J17 S17 => ⟨_, rfl, ?_⟩
 rw [show (addP D [106, 111, 117, 114, 110, 97, 108] (row (1 + pages) (encD d))) = addP D nJ (row (1 + pages) (encD d)) from rfl] at J17 ⊢
 rw [a1] at J17 ⊢
 replace J17 : JX h17 ow17 jp dp sp { D with files := upF D.files { f with now := f.now ++ row (1 + pages) (encD d) }, pends := P } has done mark (pages + (row (1 + pages) (encD d)).length) false := J17
 refine zB (fun _ => ?_) (fun g => by simp at g)
 refine ⟨_, J17.at (k := 0) rfl, ?_⟩
 obtain ⟨qL, qP, C17⟩ := J17.dk
 refine r129 C17 S.on S.lft a4 a2 (by show P.length <= _; omega) (hsf f hfm) fun s' h22 ow22 hs' R22 S22 => ⟨_, rfl, zB (fun g => by simp at g) (fun _ => ?_)⟩
 have J22 := J17.step S22 R22
 have S14' : RefS h22 (dsk ow22) p12 (nHas d) (xV done d) (kQ d) := by
  have s1 := S14.keeps (yM S17.keeps fun b hb => by
   rcases hb with hb | hb
   ·exact hb.1
   ·rw [hb]; show ow jp ≠ none; rw [J.jo]; simp) (D' := dsk ow17) S17.own
  exact s1.keeps S22.keepsD S22.own
 refine yD J22.jc (o := 1) (by simp) ?_
 obtain ⟨J27, S27⟩ := J22.newSt S14' (B := .cells (splice [.ptr (some ⟨dp, 0⟩), .ptr (some ⟨sp, 0⟩), .int .i64 ((pages + (row (1 + pages) (encD d)).length : Nat) : Int), .bool false] 1 [.ptr (some ⟨p12, 0⟩)]) true) rfl
 obtain ⟨b1, b2⟩ := a5 s'
 refine h1 hyes p12 _ ow22 _ _ J27 (by omega) (b1.less (by omega)) (fun g hg => ?_) b2 (((kT.ext x14).trans S17).trans (S22.x.trans S27))
 rcases kI hg with rfl | ⟨hg, _⟩
 ·exact hs'
 ·rcases kI hg with rfl | ⟨hg, _⟩
  ·exact hsf f hfm
  ·exact hsf g hg)
end
section
variable {h h' : Heap} {ow ow' ow2 : zO} {jp dp sp : Nat} {D D' : DS} {n : Int} {Q : AHp}
def lone (b : Nat) (s : List UInt8) (l : List Bs) (n : Int) : DS := { yB n with files := [⟨b, s, [], l⟩] }
theorem zEI {b : Nat} {s : List UInt8} {l : List Bs} {n : Int} : (lone b s l n).find s = some ⟨b, s, [], l⟩ := by
 unfold DS.find lone
 simp
theorem zN4 {b : Nat} {s t : List UInt8} {l : List Bs} {n : Int} (h : s ≠ t) : (lone b s l n).find t = none := by
 unfold DS.find lone
 simp [h]
theorem zJM {b : Nat} {s : List UInt8} {n : Int} : ({ yB n with files := preF s (yB n).files ++ mkF b s :: jL s (yB n).files } : DS) = lone b s [] n := rfl
theorem zPY {b : Nat} {s : List UInt8} {l l' : List Bs} {n : Int} : ({ saf (lone b s l n) ⟨b, s, [], l⟩ l' with pends := [] } : DS) = lone b s l' n := by
 unfold saf lone upF
 simp [yB]
theorem zP1 {b : Nat} {s t : List UInt8} {l : List Bs} {n : Int} (h : s ≠ t) : renD (lone b s l n) ⟨b, s, [], l⟩ t = lone b t l n := by
 unfold renD
 rw [zN4 h]
 unfold offF offP lone offB preF jL
 simp
section
variable (J : JX h ow jp dp sp (yB n) false [] xQ 0 false)
include J
theorem k119e (hQ : ∀ h', Ext h h' -> Q (.tup [.int .i64 0, .int .i64 0]) h') : AC Tryz.prog 119 [.ptr (some ⟨jp, 0⟩)] h Q := ac119 (by
 unfold vc119
 refine ⟨false, J.at (k := 3) rfl, zB (fun g => by cases g) (fun _ => ⟨_, J.at (k := 1) rfl, ?_⟩)⟩
 refine u195 J.st.view (by simp) (by intro d hd; simp [yF] at hd) fun q h7 x7 H7 => ⟨q, rfl, ?_⟩
 have J7 := J.ext x7
 obtain ⟨qL, qP, C7⟩ := J7.dk
 have hl0 : zJ qL = 0 := by have := C7.lst.len; simpa [yB] using this
 refine ⟨fun xs h13 => h13 = h7 /\ xs = [.sl none, .int .i64 0], fun _ _ => 0, ⟨rfl, rfl⟩, ?_⟩
 rintro q9 n10 h13 ⟨rfl, hx⟩
 simp only [List.cons.injEq, AV.int.injEq, AV.sl.injEq, true_and, and_true] at hx
 obtain ⟨rfl, rfl⟩ := hx
 refine ⟨_, J7.at (k := 0) rfl, _, C7.at (k := 0) rfl, ?_⟩
 rw [hl0]
 refine zB (fun g => by simp at g) (fun _ => ?_)
 refine ⟨fun xs h56 => h56 = h13 /\ xs = [.int .i64 0], fun _ _ => 0, ⟨rfl, rfl⟩, ?_⟩
 rintro n53 h56 ⟨rfl, hx⟩
 simp only [List.cons.injEq, AV.int.injEq, true_and, and_true] at hx
 subst hx
 exact zB (fun g => by simp [zJ] at g) (fun _ => hQ _ x7))
theorem k191e (hQ : ∀ b l h' ow', l.length <= 20000 -> JX h' ow' jp dp sp (lone b nJ l n) false [] xQ 0 false -> kT ow jp h ow' h' -> Q (.int .i64 0) h') : AC Tryz.prog 191 [.ptr (some ⟨jp, 0⟩)] h Q := ac191 (by
 unfold vc191
 refine ⟨_, J.at (k := 0) rfl, ?_⟩
 obtain ⟨qL, qP, C⟩ := J.dk
 have hne : nN ≠ nJ := by decide
 refine r55 C (fun _ => ⟨_, rfl, zB (fun g => by simp at g) (fun _ => ?_)⟩) (fun f hf => by simp [DS.find, yB] at hf)
 refine ⟨_, J.at (k := 0) rfl, ?_⟩
 refine r121 C rfl rfl (fun g => by exact absurd g (by decide)) (fun f _ hf => by simp [DS.find, yB] at hf) (fun g => by simp [yB] at g) fun b h49 ow49 _ _ _ R49 S49 => ⟨_, rfl, zB (fun g => by simp at g) (fun _ => ?_)⟩
 rw [zJM] at R49
 have J49 := J.step S49 R49
 refine yD J49.jc (o := 2) (by simp) ?_
 obtain ⟨J52, S52⟩ := J49.put (pages' := 0) (brk' := false) (B := .cells (splice [.ptr (some ⟨dp, 0⟩), .ptr (some ⟨sp, 0⟩), .int .i64 ((0 : Nat) : Int), .bool false] 2 [.int .i64 0]) true) rfl
 generalize h49.set jp (.cells (splice [.ptr (some ⟨dp, 0⟩), .ptr (some ⟨sp, 0⟩), .int .i64 ((0 : Nat) : Int), .bool false] 2 [.int .i64 0]) true) = h52 at *
 refine ⟨_, J52.at (k := 1) rfl, ?_⟩
 refine u251 J52.st.view (by simp) fun q h56 x56 H56 => ⟨q, rfl, ?_⟩
 have J56 := J52.ext x56
 have hl0 : zJ q = 0 := by have := H56.len; simpa [yF] using this
 refine ⟨fun xs h61 => h61 = h56 /\ xs = [.int .i64 0], fun _ _ => 0, ⟨rfl, rfl⟩, ?_⟩
 rintro n58 h61 ⟨rfl, hx⟩
 simp only [List.cons.injEq, AV.int.injEq, true_and, and_true] at hx
 subst hx
 rw [hl0]
 refine zB (fun g => by simp at g) (fun _ => ⟨_, J56.at (k := 0) rfl, ?_⟩)
 obtain ⟨qL2, qP2, C56⟩ := J56.dk
 refine r129 C56 rfl rfl zEI (by simp [lone, yB]) (by simp [lone, yB]) (by simp) fun l h73 ow73 hl R73 S73 => ⟨_, rfl, zB (fun g => by simp at g) (fun _ => ?_)⟩
 rw [zPY] at R73
 have J73 := J56.step S73 R73
 refine ⟨_, J73.at (k := 0) rfl, ?_⟩
 obtain ⟨qL3, qP3, C73⟩ := J73.dk
 refine r252 C73 rfl rfl (by simp [lone, yB]) (fun g => by exact absurd g (by decide)) (fun hn => by rw [show [106, 111, 117, 114, 110, 97, 108, 46, 110, 101, 119] = nN from rfl, zEI] at hn; cases hn) (fun f _ he => absurd he hne) fun f h77 ow77 _ hf _ R77 S77 => ⟨_, rfl, ?_⟩
 rw [show [106, 111, 117, 114, 110, 97, 108, 46, 110, 101, 119] = nN from rfl, zEI] at hf
 cases hf
 rw [show ([106, 111, 117, 114, 110, 97, 108] : List UInt8) = nJ from rfl, zP1 hne] at R77
 exact hQ b l h77 ow77 hl (J73.step S77 R77) ((S49.x.trans S52).trans (((kT.ext x56).trans S73.x).trans S77.x)))
end
theorem k116e (R : RDR h ow dp (yB n)) (hQ : ∀ b l jp sp h' ow', l.length <= 20000 -> JX h' ow' jp dp sp (lone b nJ l n) false [] xQ 0 false -> zM (dskR ow) h h' -> h.length <= h'.length -> (∀ b, ow' b ≠ none -> ow b ≠ none ∨ h.length <= b) -> (∀ b, ow b = some .map -> ow' b = some .map) -> h.length <= jp -> h.length <= sp -> Q (.tup [.ptr (some ⟨jp, 0⟩), .int .i64 0]) h') : AC Tryz.prog 116 [.ptr (some ⟨dp, 0⟩)] h Q := ac116 (by
 unfold vc116
 obtain ⟨qL, qP, C⟩ := R
 refine ⟨false, C.at (k := 4) rfl, zB (fun g => by cases g) (fun _ => ?_)⟩
 simp only [PNew]
 have l5 : (h ++ [Blk.cells [.sl none, .int .i64 0, .int .i64 0, .int .i64 0, .sl none, .bool false] true]).length = h.length + 1 := by simp
 rw [l5]
 have x7 : Ext h ((h ++ [Blk.cells [.sl none, .int .i64 0, .int .i64 0, .int .i64 0, .sl none, .bool false] true]) ++ [Blk.cells [.ptr (some ⟨dp, 0⟩), .ptr (some ⟨h.length, 0⟩), .int .i64 0, .bool false] true]) := (Ext.app _ _).trans (.app _ _)
 have st7 : ((h ++ [Blk.cells [.sl none, .int .i64 0, .int .i64 0, .int .i64 0, .sl none, .bool false] true]) ++ [Blk.cells [.ptr (some ⟨dp, 0⟩), .ptr (some ⟨h.length, 0⟩), .int .i64 0, .bool false] true])[h.length]? = some (.cells [.sl none, .int .i64 0, .int .i64 0, .int .i64 0, .sl none, .bool false] true) := by
  rw [List.getElem?_append_left (by simp)]; simp
 have j7 : ((h ++ [Blk.cells [.sl none, .int .i64 0, .int .i64 0, .int .i64 0, .sl none, .bool false] true]) ++ [Blk.cells [.ptr (some ⟨dp, 0⟩), .ptr (some ⟨h.length, 0⟩), .int .i64 0, .bool false] true])[h.length + 1]? = some (.cells [.ptr (some ⟨dp, 0⟩), .ptr (some ⟨h.length, 0⟩), .int .i64 0, .bool false] true) := by
  rw [<- l5]; simp
 have l7 : ((h ++ [Blk.cells [.sl none, .int .i64 0, .int .i64 0, .int .i64 0, .sl none, .bool false] true]) ++ [Blk.cells [.ptr (some ⟨dp, 0⟩), .ptr (some ⟨h.length, 0⟩), .int .i64 0, .bool false] true]).length = h.length + 2 := by simp
 generalize ((h ++ [Blk.cells [.sl none, .int .i64 0, .int .i64 0, .int .i64 0, .sl none, .bool false] true]) ++ [Blk.cells [.ptr (some ⟨dp, 0⟩), .ptr (some ⟨h.length, 0⟩), .int .i64 0, .bool false] true]) = h7 at *
 have R7 : RDR h7 (fun b => if b = h.length + 1 then some .map else ow b) dp (yB n) := RDR.marked ⟨qL, qP, C⟩ (zK x7) x7.len (fun b hb => by rw [if_neg (by omega)]) (fun b hb hn => by
  by_cases h1 : b = h.length + 1
  ·omega
  ·rw [if_neg h1] at hn; have := C.live b hn; omega)
 have hnone : ∀ b, h.length <= b -> ow b = none := fun b hb => by
  cases hc : ow b with
  | none => rfl
  | some r => have := C.live b (by rw [hc]; simp); omega
 generalize hω : (fun b => if b = h.length + 1 then some Role.map else ow b) = ω at *
 have hω1 : ω (h.length + 1) = some .map := by rw [<- hω]; simp
 have hω2 : ∀ b, b ≠ h.length + 1 -> ω b = ow b := fun b hb => by rw [<- hω]; simp [hb]
 have J7 : JX h7 ω (h.length + 1) dp h.length (yB n) false [] xQ 0 false := by
  refine ⟨j7, R7, ?_, hω1⟩
  refine ⟨none, zK7, [], st7, ?_, fun s hs => (by cases hs), rfl, rfl, fun j e d h1 => (by simp at h1), ⟨rfl, rfl, rfl, rfl⟩, fun s hs => (by cases hs), by simp, by simp [xQ]⟩
  show ¬ ω h.length ≠ none
  rw [hω2 _ (by omega), hnone _ (Nat.le_refl _)]; simp
 obtain ⟨qL7, qP7, C7⟩ := J7.dk
 refine r55 C7 (fun _ => ⟨_, rfl, zB (fun g => by simp at g) (fun _ => ?_)⟩) (fun f hf => by simp [DS.find, yB] at hf)
 refine k119e J7 fun h25 x25 => ⟨_, _, rfl, zB (fun g => by simp at g) (fun _ => ?_)⟩
 refine k191e (J7.ext x25) fun b l h29 ow29 hl J29 S29 => ⟨_, rfl, zB (fun g => by simp at g) (fun _ => ?_)⟩
 have x := x7.trans x25
 have lx := x.len
 have l25 := x25.len
 have l29 := S29.len
 refine hQ b l _ _ h29 ow29 hl J29 (fun c B hc hB => S29.keeps c B (fun hx => ?_) (x _ _ hB)) (by omega) (fun c hc => ?_) (fun c hc => S29.fgn c ?_) (by omega) (Nat.le_refl _)
 ·have hlt := zD hB
  rcases hx with hx | hx
  ·refine hc ⟨?_, ?_⟩
   ·have := hx.1; rw [hω2 c (by omega)] at this; exact this
   ·have := hx.2; rw [hω2 c (by omega)] at this; exact this
  ·omega
 ·rcases S29.own c hc with h1 | h1
  ·by_cases h2 : c = h.length + 1
   ·right; omega
   ·left; rw [hω2 c h2] at h1; exact h1
  ·right; omega
 ·have : c ≠ h.length + 1 := fun he => by rw [he, hnone _ (by omega)] at hc; cases hc
  rw [hω2 c this, hc])
end
end Go.Proofs.YtnglhicedhcpbaaGreatDoor
