import Derived.Test.YtnglhicedhcpbaaGreatDoorLG10
import Derived.Test.YtnglhicedhcpbaaGreatDoorLG23
import Derived.Test.YtnglhicedhcpbaaGreatDoorLG27
import Derived.Test.YtnglhicedhcpbaaGreatDoorLG28
import Derived.Test.YtnglhicedhcpbaaGreatDoorLG30
import Derived.Test.YtnglhicedhcpbaaGreatDoorLG31
namespace Go.Proofs.YtnglhicedhcpbaaGreatDoor
open Go.Ab
open Go.Num hiding Bs snoc_ind
open Go.Page hiding Bs get
open Go.Dsk hiding Bs
open Go.Man hiding Bs drop_cons
set_option linter.unusedVariables false
set_option linter.unusedSimpArgs false
theorem zQU {d : ED} : 1 <= (encD d).length := by
  unfold encD
  have : 1 <= (numB d.1.toNat).length := by
    unfold numB
    split
    · simp
    · split <;> simp
  simp only [List.length_append]; omega
theorem yM {X Y : Nat -> Prop} {h h' : Heap} (K : zM X h h') (hi : ∀ b, X b -> Y b) : zM Y h h' := fun b B hb hB => K b B (fun hx => hb (hi b hx)) hB
theorem zA8 {D : DS} {t p : Bs} : (D.append t p).2.pends.length <= D.pends.length + 1 := by
  unfold DS.append
  split
  · simp
  · split
    · simp
    · split
      · simp
      · split
        · simp
        · split
          · simp
          · rw [yK]; omega
structure JH (h : Heap) (ow : zO) (jp dp sp : Nat) (SD : Nat -> Prop) (D : DS) (has : Bool) (done : List ED) (mark : ED) (pages : Nat) (brk : Bool) : Prop where
  lay : Laid h
  o0 : ow 0 = none
  o1 : ow 1 = none
  jc : h[jp]? = some (.cells [.ptr (some ⟨dp, 0⟩), .ptr (some ⟨sp, 0⟩), .int .i64 (pages : Nat), .bool brk] true)
  dk : yX h ow dp D
  st : St2 h SD sp has done mark
  jo : ow jp = none
  so : ∀ b, SD b -> ow b = none
  js : ¬ SD jp
  j2 : 2 <= jp
structure yL (ow : zO) (jp : Nat) (h : Heap) (ow' : zO) (h' : Heap) : Prop where
  keeps : zM (fun b => ow b ≠ none ∨ b = jp) h h'
  len : h.length <= h'.length
  own : ∀ b, ow' b ≠ none -> ow b ≠ none ∨ h.length <= b
section
variable {h h' : Heap} {ow ow' ow2 : zO} {jp dp sp : Nat} {SD : Nat -> Prop} {D D' : DS} {has : Bool} {done : List ED} {mark : ED} {pages : Nat} {brk : Bool} {Q : AHp}
theorem yL.refl (ow : zO) (jp : Nat) (h : Heap) : yL ow jp h ow h := ⟨.refl _ _, Nat.le_refl _, fun _ h => .inl h⟩
theorem yL.trans {h2 : Heap} (a : yL ow jp h ow' h') (b : yL ow' jp h' ow2 h2) (hj : jp < h.length) : yL ow jp h ow2 h2 := by
  refine ⟨fun c B hc hB => b.keeps c B (fun hx => ?_) (a.keeps c B hc hB), Nat.le_trans a.len b.len, fun c hc => ?_⟩
  · rcases hx with hx | hx
    · rcases a.own c hx with h1 | h1
      · exact hc (.inl h1)
      · have := zD hB; omega
    · exact hc (.inr hx)
  · rcases b.own c hc with h1 | h1
    · exact a.own c h1
    · exact .inr (Nat.le_trans a.len h1)
theorem yL.ext (x : Ext h h') : yL ow jp h ow h' := ⟨zK x, x.len, fun _ h => .inl h⟩
theorem yL.disk (S : yY ow h ow' h') : yL ow jp h ow' h' := ⟨yM S.keeps fun b hb => .inl hb, S.len, S.own⟩
theorem yL.hasL {α : Type} {E : Enc α} (S : yL ow jp h ow' h') {q : OSl} {l : List α} (H : HasL E h q l) (hq : ∀ s, q = some s -> ow s.b = none /\ s.b ≠ jp) : HasL E h' q l :=
  S.keeps.hasL (fun s hs hx => hx.elim (fun h1 => h1 (hq s hs).1) (hq s hs).2) H
theorem yL.none (S : yL ow jp h ow' h') {b : Nat} (hb : b < h.length) (ho : ow b = none) : ow' b = none := by
  cases hc : ow' b with
  | none => rfl
  | some r =>
    rcases S.own b (by rw [hc]; simp) with h1 | h1
    · exact absurd ho h1
    · omega
variable (J : JH h ow jp dp sp SD D has done mark pages brk)
include J
theorem JH.jl : jp < h.length := zD J.jc
theorem JH.ext (x : Ext h h') : JH h' ow jp dp sp SD D has done mark pages brk :=
  { J with lay := J.lay.ext x, jc := x _ _ J.jc, dk := J.dk.grow x, st := J.st.keeps (X := fun _ => False) (zK x) (fun _ _ h => h) x.len }
theorem JH.step (S : yY ow h ow' h') (R : yX h' ow' dp D') : JH h' ow' jp dp sp SD D' has done mark pages brk := by
  have hs := yL.disk (jp := jp) S
  have hl2 := J.lay.len
  have lv : ∀ b, SD b -> b < h.length := by obtain ⟨_, _, _, _, _, _, _, _, _, _, _, _, _, h11⟩ := J.st; exact h11
  exact ⟨J.lay.keeps S.keeps (fun h => h J.o0) (fun h => h J.o1), hs.none (by omega) J.o0, hs.none (by omega) J.o1, S.keeps _ _ (fun h => h J.jo) J.jc, R,
    J.st.keeps S.keeps (fun b hb h => h (J.so b hb)) S.len, hs.none J.jl J.jo, fun b hb => hs.none (lv b hb) (J.so b hb), J.js, J.j2⟩
theorem JH.put {pages' : Nat} {brk' : Bool} {B : Blk} (hB : B = .cells [.ptr (some ⟨dp, 0⟩), .ptr (some ⟨sp, 0⟩), .int .i64 (pages' : Nat), .bool brk'] true) : JH (h.set jp B) ow jp dp sp SD D has done mark pages' brk' /\ yL ow jp h ow (h.set jp B) := by
  have K : zM (fun b => b = jp) h (h.set jp B) := zT rfl
  have hj2 := J.j2
  refine ⟨⟨J.lay.keeps K (by omega) (by omega), J.o0, J.o1, by rw [List.getElem?_set_self J.jl, hB], J.dk.ext (yM K fun b hb => by rw [hb]; exact J.jo) (by simp), J.st.keeps K (fun b hb e => J.js (e ▸ hb)) (by simp), J.jo, J.so, J.js, J.j2⟩, ?_⟩
  exact ⟨yM K fun b hb => .inr hb, by simp, fun b h => .inl h⟩
theorem JH.at {k : Nat} {x : AV} (hx : [AV.ptr (some ⟨dp, 0⟩), .ptr (some ⟨sp, 0⟩), .int .i64 (pages : Nat), .bool brk][k]? = some x) : zA h ⟨jp, 0 + k⟩ 1 = some [x] := by
  have hk := zD hx
  rw [zZ J.jc (by omega), List.take_one, List.head?_drop, hx]; rfl
theorem k48 (hQ : Q (.bool brk) h) : AC Tryz.prog 48 [.ptr (some ⟨jp, 0⟩)] h Q := ac48 (by
  unfold vc48
  refine zB (fun g => by cases g) (fun _ => ⟨_, J.at (k := 0) rfl, zB (fun g => by cases g) (fun _ => ⟨_, J.at (k := 3) rfl, hQ⟩)⟩))
theorem k47 (hQ : Q (.int .i64 (pages : Nat)) h) : AC Tryz.prog 47 [.ptr (some ⟨jp, 0⟩)] h Q := ac47 (by
  unfold vc47
  exact zB (fun g => by cases g) (fun _ => ⟨_, J.at (k := 2) rfl, hQ⟩))
theorem k111 {name : Bs} {e : EV} {d : ED} (hR : EdR h e d) (hc : chk d = true) (hpl : D.pends.length <= 500000) (hpg : pages <= 100000000) (hQ : ∀ h' ow', JH h' ow' jp dp sp SD (addP D name (row (1 + pages) (encD d))).2.1 has done mark (pages + (addP D name (row (1 + pages) (encD d))).2.2) brk -> yL ow jp h ow' h' ->
      Q (.int .i64 (addP D name (row (1 + pages) (encD d))).1) h') : AC Tryz.prog 111 [.ptr (some ⟨jp, 0⟩), .str name, evV e] h Q := ac111 (by
  unfold vc111
  refine t188 (e := e) hR (fun h0 => by rw [hc] at h0; cases h0) fun q9 h8 _ N => ⟨q9, _, rfl, zB (fun g => by simp at g) (fun _ => ?_)⟩
  have J8 := J.ext N.1
  refine ⟨_, J8.at (k := 2) rfl, ?_⟩
  obtain ⟨_, _, _, hr1, hr2⟩ := xE hc
  have hel : (encD d).length <= 14000 := by
    unfold encD
    have h1 := zY (n := d.1.toNat) (xE hc).1.2
    have h2 := zY (n := d.2.1.toNat) (xE hc).2.1.2
    have h3 := zY (n := d.2.2.1.toNat) (xE hc).2.2.1.2
    have h4 := zY (n := d.2.2.2.length) (by simp only [M63]; omega)
    have h5 := zA3 hr2
    simp only [List.length_append]; omega
  have hrl := zBX (encD d).length (1 + pages) (encD d) (Nat.le_refl _)
  rw [zF (n := (1 : Int) + ((pages : Nat) : Int)) ⟨by omega, by omega⟩, show (1 : Int) + ((pages : Nat) : Int) = ((1 + pages : Nat) : Int) by omega]
  refine k189 J8.lay N.hasL (by omega) (by simp only [kC]; omega) zQU (by omega) fun q15 qs h14 L14 => ⟨q15, _, rfl, zB (fun g => by simp at g) (fun _ => ?_)⟩
  generalize hR1 : row (1 + pages) (encD d) = R at *
  have J14 := J8.ext L14.ext
  have x14 : Ext h h14 := N.1.trans L14.ext
  have hpos : ∀ p ∈ R, p.length = 64 := fun p hp => by
    obtain ⟨i, hi⟩ := List.getElem?_of_mem hp
    rw [<- hR1] at hi
    exact (vR _ _ _ (Nat.le_refl _) i p hi).2
  have hll := L14.lls.len
  have jl8 := J8.jl
  have nol : ∀ {b : Nat}, h8.length <= b -> b < h14.length -> ow b = none /\ b ≠ jp := fun {b} h1 h2 => by
    refine ⟨?_, by omega⟩
    cases ho : ow b with
    | none => rfl
    | some r => have := J8.dk.live b (by rw [ho]; simp); omega
  refine ⟨fun xs h20 => ∃ (i : Nat) (ow' : zO) (D' : DS), xs = [.int .i64 i] /\ i <= R.length /\ addP D name (R.take i) = (0, D', i) /\ D'.pends.length <= D.pends.length + i /\ JH h20 ow' jp dp sp SD D' has done mark (pages + i) brk /\ yL ow jp h14 ow' h20, fun xs _ => match xs with | [.int _ i] => (R.length - i).toNat | _ => 0,
    ⟨0, ow, D, rfl, by omega, rfl, by omega, J14, .refl _ _ _⟩, ?_⟩
  rintro n17 h20 ⟨i, ow2, D2, hx, hi, hadd, hpl2, J20, S20⟩
  simp only [List.cons.injEq, AV.int.injEq, true_and, and_true] at hx
  subst hx
  rw [hll]
  refine zB (fun g => ?_) (fun g => ?_)
  · replace g := of_decide_eq_true g
    have hir : i < R.length := by omega
    have A1 : HasL slE h20 q15 qs := S20.hasL L14.oa.hasL (fun s hs => nol (L14.ob s hs) (HasL.live L14.oa.hasL s hs))
    refine HasL.idx (E := slE) A1 (by omega) (by have := L14.len; omega) fun p s hs hcs => ⟨s, hcs, ?_⟩
    have hs : qs[i]? = some s := by simpa using hs
    have hpR : R[i]? = some (R[i]'hir) := List.getElem?_eq_getElem hir
    have Hp : HasL byE h20 s (R[i]'hir) := S20.hasL (L14.el i s _ hs hpR) fun t ht => by
      subst ht
      exact nol (L14.eb i t hs).1 (L14.live hs)
    have hlive : ∀ t, s = some t -> ow2 t.b = none := fun t ht => by
      subst ht
      exact S20.none (L14.live hs) (nol (L14.eb i t hs).1 (L14.live hs)).1
    refine ⟨_, J20.at (k := 0) rfl, ?_⟩
    refine d96 J20.dk Hp hlive (by omega) fun h26 ow3 R26 S26 => ⟨_, rfl, ?_⟩
    have J26 := J20.step S26 R26
    have T26 : yL ow jp h14 ow3 h26 := S20.trans (.disk S26) J14.jl
    refine zB (fun g2 => ?_) (fun g2 => ?_)
    · have g2 : (D2.append name (R[i]'hir)).1 ≠ 0 := by simpa using g2
      rw [zIN hadd hpR g2] at hQ
      exact hQ h26 ow3 J26 ((yL.ext x14).trans T26 J.jl)
    · have g2 : (D2.append name (R[i]'hir)).1 = 0 := by simpa using g2
      refine ⟨_, J26.at (k := 2) rfl, yD J26.jc (o := 2) (by simp) ?_⟩
      rw [zF (n := ((pages + i : Nat) : Int) + 1) ⟨by omega, by omega⟩, zF (n := ((i : Nat) : Int) + 1) ⟨by omega, by omega⟩]
      obtain ⟨J31, S31⟩ := J26.put (pages' := pages + (i + 1)) (brk' := brk) (B := .cells (splice [.ptr (some ⟨dp, 0⟩), .ptr (some ⟨sp, 0⟩), .int .i64 ((pages + i : Nat) : Int), .bool brk] 2 [.int .i64 (((pages + i : Nat) : Int) + 1)]) true) (by
        have : (((pages + i : Nat) : Int) + 1) = ((pages + (i + 1) : Nat) : Int) := by omega
        rw [this]; rfl)
      refine ⟨⟨rfl, trivial⟩, ⟨i + 1, ow3, _, by simp, by omega, zIO hadd hpR g2, ?_, J31, T26.trans S31 J14.jl⟩, by simp only; omega⟩
      have := zA8 (D := D2) (t := name) (p := R[i]'hir)
      omega
  · replace g := of_decide_eq_false g
    have : i = R.length := by omega
    subst this
    rw [List.take_length] at hadd
    rw [hadd] at hQ
    exact hQ h20 ow2 J20 ((yL.ext x14).trans S20 J.jl))
end
def EdW (h : Heap) (Z : Nat -> Prop) (q : OSl) (l : List ED) : Prop :=
 ∃ L : List EV, HasL edE h q L /\ L.length = l.length /\ (∀ (j : Nat) (e : EV) (d : ED), L[j]? = some e -> l[j]? = some d -> EdR h e d /\ ∀ s, e.2.2.2 = some s -> Z s.b) /\ ∀ s, q = some s -> Z s.b
theorem EdW.keeps {h h' : Heap} {Z X : Nat -> Prop} {q : OSl} {l : List ED} (E : EdW h Z q l) (K : zM X h h') (hX : ∀ b, Z b -> ¬ X b) : EdW h' Z q l := by
 obtain ⟨L, a, b, c, d⟩ := E
 exact ⟨L, K.hasL (fun s hs => hX _ (d s hs)) a, b, fun j e x h1 h2 => ⟨K.edR (fun s hs => hX _ ((c j e x h1 h2).2 s hs)) (c j e x h1 h2).1, (c j e x h1 h2).2⟩, d⟩
theorem EdW.len {h : Heap} {Z : Nat -> Prop} {q : OSl} {l : List ED} (E : EdW h Z q l) : zJ q = l.length := by
 obtain ⟨L, a, b, c, d⟩ := E
 rw [a.len, b]
theorem EdL.edW {h : Heap} {n : Nat} {q : OSl} {l : List ED} (E : EdL h n q l) : EdW h (fun b => n <= b /\ b < h.length) q l := by
 have hlv := E.live
 obtain ⟨L, g, hl, he, hq⟩ := E
 exact ⟨L, Acc.hasL g, hl, fun j e d h1 h2 => ⟨(he j e d h1 h2).1, fun s hs => ⟨((he j e d h1 h2).2 s hs).1, HasL.live (he j e d h1 h2).1.2.2.2 s hs⟩⟩, fun s hs => ⟨hq s hs, hlv s hs⟩⟩
theorem k101 {h : Heap} {Q : AHp} {a n : Nat} {fs : List AV} (I : Nat -> Heap -> Prop) (hn : fs.length = n) (hm : n <= 1000) (hcell : ∀ i h, I i h -> h[a]? = some (.cells fs true)) (hone : ∀ f ∈ fs, f.one = true) (h0 : I 0 h)
  (hstep : ∀ i f h, fs[i]? = some f -> I i h -> ∀ K : AHp, (∀ h' (v : Int), v ≠ 0 -> Q (.int .i64 v) h' -> K (.int .i64 v) h') -> (∀ h', I (i + 1) h' -> K (.int .i64 0) h') -> zJY Tryz.prog (AC Tryz.prog) f [] h K)
  (hend : ∀ h, I n h -> Q (.int .i64 0) h) : AC Tryz.prog 101 [.sl (some ⟨a, 0, n, n, 0⟩)] h Q := ac101 (by
 unfold vc101
 refine ⟨fun xs h5 => ∃ i : Nat, xs = [.int .i64 i] /\ i <= n /\ I i h5, fun xs _ => match xs with | [.int _ i] => (n - i).toNat | _ => 0, ⟨0, rfl, by omega, h0⟩, ?_⟩
 rintro n2 h5 ⟨i, hx, hi, hI⟩
 simp only [List.cons.injEq, AV.int.injEq, true_and, and_true] at hx
 subst hx
 rw [show (zJ (some (⟨a, 0, n, n, 0⟩ : SL)) : Int) = ((n : Nat) : Int) from rfl]
 refine zB (fun g => ?_) (fun g => ?_)
 ·replace g := of_decide_eq_true g
  have hin : i < fs.length := by omega
  have hf : fs[i]? = some (fs[i]'hin) := List.getElem?_eq_getElem hin
  have ho := hone _ (List.getElem_mem hin)
  refine ⟨by omega, by simp only; omega, fs[i]'hin, ho, ?_, ?_⟩
  ·rw [show ((i : Nat) : Int).toNat = i by omega, zQ (C := fs) (rw' := true) (hcell i h5 hI) (by simp only; omega)]
   have hce : AV.cells (fs[i]'hin) = [fs[i]'hin] := by
    cases hfi : fs[i]'hin <;> first | rfl | (rw [hfi] at ho; cases ho)
   rw [hce, List.take_one, List.head?_drop, show 0 + i * 1 = i by omega, hf]; rfl
  ·refine hstep i _ h5 hf hI _ (fun h' v hv hq => ⟨v, rfl, zB (fun _ => hq) (fun g2 => by simp at g2; exact absurd g2 hv)⟩) fun h' hI' => ⟨0, rfl, zB (fun g2 => by simp at g2) (fun _ => ?_)⟩
   rw [zF ⟨by omega, by omega⟩]
   exact ⟨trivial, ⟨i + 1, by simp, by omega, hI'⟩, by simp only; omega⟩
 ·replace g := of_decide_eq_false g
  have : i = n := by omega
  subst this
  exact hend _ hI)
theorem kL {D : DS} {t : Bs} : (D.delete t).2.pends.length <= D.pends.length := by
 unfold DS.delete
 split
 ·simp
 ·split
  ·simp
  ·split
   ·exact List.length_filter_le _ _
   ·rw [yK]; omega
theorem zA5 {D : DS} {t : Bs} {b : Nat} : (D.create t b).2.pends.length <= D.pends.length := by
 unfold DS.create
 split
 ·simp
 ·split
  ·simp
  ·split
   ·simp
   ·split
    ·simp
    ·split
     ·show D.deed.2.pends.length <= _
      rw [yK]; omega
     ·rw [yK]; omega
theorem zFC {D : DS} {t : Bs} : (D.sync t).2.pends.length <= D.pends.length := by
 unfold DS.sync
 split
 ·simp
 ·split
  ·simp
  ·split
   ·exact List.length_filter_le _ _
   ·rw [yK]; omega
theorem zBM {t : Bs} : ∀ {l : List Bs} {D : DS}, (addP D t l).2.1.pends.length <= D.pends.length + l.length /\ (addP D t l).2.2 <= l.length
 | [], D => by simp [addP]
 | p :: l, D => by
  rw [addP]
  have h1 := zA8 (D := D) (t := t) (p := p)
  split
  ·have := zBM (t := t) (l := l) (D := (D.append t p).2)
   simp only [List.length_cons]
   omega
  ·simp only [List.length_cons]; omega
theorem vW {pages : Nat} {d : ED} (hc : chk d = true) : (row (1 + pages) (encD d)).length <= 340 := by
 obtain ⟨_, _, _, hr1, hr2⟩ := xE hc
 have hel : (encD d).length <= 14000 := by
  unfold encD
  have h1 := zY (n := d.1.toNat) (xE hc).1.2
  have h2 := zY (n := d.2.1.toNat) (xE hc).2.1.2
  have h3 := zY (n := d.2.2.1.toNat) (xE hc).2.2.1.2
  have h4 := zY (n := d.2.2.2.length) (by simp only [M63]; omega)
  have h5 := zA3 hr2
  simp only [List.length_append]; omega
 rw [zBX (encD d).length (1 + pages) (encD d) (Nat.le_refl _)]
 omega
abbrev ESt := Bool × List ED × ED
def appE (s : ESt) (d : ED) : Option ESt := if chk d && goes s.1 s.2.1 s.2.2 d then some (nHas d, xV s.2.1 d, kQ d) else none
abbrev JE : Jr where
 E := ED
 S := ESt
 enc := encD
 dec := rdE
 emp := (false, [], xQ)
 app := appE
 eds := fun s => yF s.1 s.2.1 s.2.2
 dec_enc := fun s s' e h => by
  unfold appE at h
  split at h
  ·rename_i hc
   rw [Bool.and_eq_true] at hc
   exact zP2 hc.1
  ·cases h
section
variable {h h' : Heap} {ow ow' ow2 : zO} {jp dp sp : Nat} {SD : Nat -> Prop} {D D' : DS} {has : Bool} {done : List ED} {mark : ED} {pages : Nat} {brk : Bool} {Q : AHp}
theorem zD7 (V : Vld has done mark) : ∀ d ∈ yF has done mark, chk d = true := by
 intro d hd
 unfold yF at hd
 rcases List.mem_append.1 hd with hd | hd
 ·obtain ⟨i, hi⟩ := List.getElem?_of_mem hd
  exact (V.1 i d hi).1
 ·cases has with
  | false => simp at hd
  | true => simp at hd; subst hd; exact (V.2.1 rfl).1
section
variable (J : JH h ow jp dp sp SD D has done mark pages brk)
include J
theorem k177 (hpl : D.pends.length <= 500000) (hQ : ∀ h' ow', JH h' ow' jp dp sp SD (zP D).2 has done mark pages brk -> yL ow jp h ow' h' -> Q (.int .i64 (zP D).1) h') : AC Tryz.prog 177 [.ptr (some ⟨jp, 0⟩)] h Q := ac177 (by
 unfold vc177
 refine ⟨_, J.at (k := 0) rfl, ?_⟩
 unfold zP at hQ
 refine d64 J.dk (fun hn => ⟨_, _, rfl, zB (fun _ => ?_) (fun g => by simp at g)⟩) fun f hf => ⟨_, _, rfl, zB (fun g => by simp at g) (fun _ => ?_)⟩
 ·rw [if_neg (by rw [hn]; simp)] at hQ
  exact hQ h ow J (.refl _ _ _)
 ·rw [if_pos (by rw [hf]; rfl)] at hQ
  refine ⟨_, J.at (k := 0) rfl, ?_⟩
  exact d126 J.dk (by omega) fun h' ow' R S => ⟨_, rfl, hQ h' ow' (J.step S R) (.disk S)⟩)
theorem k179 (V : Vld has done mark) (hd : done.length <= 100) (hpl : D.pends.length <= 100000) (hQ : ∀ h' ow', JH h' ow' jp dp sp SD (yQ JE D 0 (yF has done mark)).2.1 has done mark (yQ JE D 0 (yF has done mark)).2.2 brk -> yL ow jp h ow' h' -> Q (.int .i64 (yQ JE D 0 (yF has done mark)).1) h') :
  AC Tryz.prog 179 [.ptr (some ⟨jp, 0⟩)] h Q := ac179 (by
 unfold vc179
 refine yD J.jc (o := 2) (by simp) ?_
 obtain ⟨J3, S3⟩ := J.put (pages' := 0) (brk' := brk) (B := .cells (splice [.ptr (some ⟨dp, 0⟩), .ptr (some ⟨sp, 0⟩), .int .i64 ((pages : Nat) : Int), .bool brk] 2 [.int .i64 0]) true) rfl
 generalize h.set jp (.cells (splice [.ptr (some ⟨dp, 0⟩), .ptr (some ⟨sp, 0⟩), .int .i64 ((pages : Nat) : Int), .bool brk] 2 [.int .i64 0]) true) = h3 at *
 refine ⟨_, J3.at (k := 1) rfl, ?_⟩
 refine v31 J3.st.view hd fun q8 h7 x7 E7 => ⟨q8, rfl, ?_⟩
 have J7 := J3.ext x7
 have W7 := E7.edW
 have hz : ∀ b, h3.length <= b /\ b < h7.length -> ow b = none /\ b ≠ jp := fun b hb => by
  have := J3.jl
  refine ⟨?_, by omega⟩
  cases ho : ow b with
  | none => rfl
  | some r => have := J3.dk.live b (by rw [ho]; simp); omega
 have hel : (yF has done mark).length <= 101 := by
  unfold yF
  rw [List.length_append]
  cases has <;> simp <;> omega
 have hck := zD7 V
 generalize yF has done mark = es at *
 refine ⟨fun xs h12 => ∃ (i n : Nat) (ow' : zO) (D' : DS), xs = [.int .i64 i] /\ i <= es.length /\ yQ JE D 0 (es.take i) = (0, D', n) /\ n <= 340 * i /\ D'.pends.length <= D.pends.length + 340 * i /\ JH h12 ow' jp dp sp SD D' has done mark n brk /\ yL ow jp h7 ow' h12, fun xs _ => match xs with | [.int _ i] => (es.length - i).toNat | _ => 0,
  ⟨0, 0, ow, D, rfl, by omega, rfl, by omega, by omega, J7, .refl _ _ _⟩, ?_⟩
 rintro n9 h12 ⟨i, n, ow2, D2, hx, hi, hf, hn, hp2, J12, S12⟩
 simp only [List.cons.injEq, AV.int.injEq, true_and, and_true] at hx
 subst hx
 rw [W7.len]
 refine zB (fun g => ?_) (fun g => ?_)
 ·replace g := of_decide_eq_true g
  have hil : i < es.length := by omega
  have W12 := W7.keeps S12.keeps fun b hb => fun hx => hx.elim (fun h1 => h1 (hz b hb).1) (hz b hb).2
  obtain ⟨L, a, b, c, dq⟩ := W12
  refine HasL.idx (E := edE) a (by omega) (by omega) fun p x hx hcx => ⟨_, _, _, _, hcx, ?_⟩
  have hx : L[i]? = some x := by simpa using hx
  have he : es[i]? = some (es[i]'hil) := List.getElem?_eq_getElem hil
  have hR := (c i x _ hx he).1
  have hcd := hck _ (List.getElem_mem hil)
  refine k111 J12 (e := x) hR hcd (by omega) (by omega) fun h19 ow3 J19 S19 => ⟨_, rfl, ?_⟩
  have T19 := S12.trans S19 J7.jl
  have hap := zBM (t := nN) (l := row (1 + n) (encD (es[i]'hil))) (D := D2)
  have hrs := vW (pages := n) hcd
  refine zB (fun g2 => ?_) (fun g2 => ?_)
  ·have g2 : (addP D2 nN (row (1 + n) (JE.enc (es[i]'hil)))).1 ≠ 0 := bne_iff_ne.1 g2
   have := zLZ (J := JE) (e := es[i]'hil) hf he g2
   rw [this] at hQ
   exact hQ h19 ow3 J19 (S3.trans ((yL.ext x7).trans T19 J3.jl) J.jl)
  ·have g2 : (addP D2 nN (row (1 + n) (JE.enc (es[i]'hil)))).1 = 0 := bne_eq_false_iff_eq.1 g2
   rw [zF ⟨by omega, by omega⟩]
   refine ⟨trivial, ⟨i + 1, _, ow3, _, by simp, by omega, zL0 (J := JE) (e := es[i]'hil) hf he g2, ?_, ?_, J19, T19⟩, by simp only; omega⟩
   ·show n + (addP D2 nN (row (1 + n) (encD (es[i]'hil)))).2.2 <= _
    omega
   ·show (addP D2 nN (row (1 + n) (encD (es[i]'hil)))).2.1.pends.length <= _
    omega
 ·replace g := of_decide_eq_false g
  have : i = es.length := by omega
  subst this
  rw [List.take_length] at hf
  rw [hf] at hQ
  exact hQ h12 ow2 J12 (S3.trans ((yL.ext x7).trans S12 J3.jl) J.jl))
end
end
theorem zB2 : ∀ {es : List ED} {D : DS} {a : Nat}, (∀ d ∈ es, chk d = true) -> (yQ JE D a es).2.1.pends.length <= D.pends.length + 340 * es.length /\ (yQ JE D a es).2.2 <= a + 340 * es.length
 | [], D, a, _ => by simp [yQ]
 | e :: es, D, a, h => by
  rw [yQ]
  have h1 := zBM (t := nN) (l := row (1 + a) (encD e)) (D := D)
  have h2 := vW (pages := a) (h e (by simp))
  show (if (addP D nN (row (1 + a) (encD e))).1 = 0 then _ else _ : Int × DS × Nat).2.1.pends.length <= _ /\ (if (addP D nN (row (1 + a) (encD e))).1 = 0 then _ else _ : Int × DS × Nat).2.2 <= _
  split
  ·have := zB2 (es := es) (D := (addP D nN (row (1 + a) (encD e))).2.1) (a := a + (addP D nN (row (1 + a) (encD e))).2.2) fun d hd => h d (by simp [hd])
   simp only [List.length_cons]
   show (yQ JE (addP D nN (row (1 + a) (encD e))).2.1 (a + (addP D nN (row (1 + a) (encD e))).2.2) es).2.1.pends.length <= _ /\ (yQ JE (addP D nN (row (1 + a) (encD e))).2.1 (a + (addP D nN (row (1 + a) (encD e))).2.2) es).2.2 <= _
   omega
  ·simp only [List.length_cons]
   show (addP D nN (row (1 + a) (encD e))).2.1.pends.length <= _ /\ a + (addP D nN (row (1 + a) (encD e))).2.2 <= _
   omega
theorem zDG {D : DS} {t u : Bs} : (D.rename t u).2.pends.length <= D.pends.length := by
 unfold DS.rename
 split
 ·simp
 ·split
  ·simp
  ·split
   ·simp
   ·split
    ·show (if t = u then D.deed.2 else _ : DS).pends.length <= _
     split
     ·rw [yK]; omega
     ·show (match D.find u with | some g => D.pends.filter (notB g.b) | none => D.pends : List PD).length <= _
      split
      ·exact List.length_filter_le _ _
      ·exact Nat.le_refl _
    ·rw [yK]; omega
def zDW (D : DS) (b : Nat) : Prop := (zP D).1 = 0 -> ((zP D).2.create nN b).1 = 0 -> ∀ y ∈ (zP D).2.files, y.b ≠ b
theorem zOZ {D : DS} {t : Bs} {b : Nat} (h : (D.create t b).1 = 0) : (D.create t b).2.files = D.files ++ [mkF b t] := by
 unfold DS.create at h ⊢
 split
 ·rename_i h1; rw [if_pos h1] at h; simp at h
 ·rename_i h1
  rw [if_neg h1] at h
  split
  ·rename_i h2; rw [if_pos h2] at h; simp at h
  ·rename_i h2
   rw [if_neg h2] at h
   split
   ·rename_i h3; rw [if_pos h3] at h; simp at h
   ·rename_i h3
    rw [if_neg h3] at h
    split
    ·rename_i h4; rw [if_pos h4] at h; simp at h
    ·rename_i h4
     rw [if_neg h4] at h
     split
     ·rfl
     ·rename_i h5; rw [if_neg h5] at h; exact absurd h h5
def stg (D : DS) (pages : Nat) (es : List ED) (i : Nat) (D' : DS) (pg : Nat) : Prop :=
 match i with
 | 0 => D' = D /\ pg = pages
 | 1 => zP D = (0, D') /\ pg = pages
 | 2 => ∃ b, zDW D b /\ (zP D).1 = 0 /\ (zP D).2.create nN b = (0, D') /\ pg = pages
 | 3 => ∃ b, zDW D b /\ (zP D).1 = 0 /\ ((zP D).2.create nN b).1 = 0 /\ yQ JE ((zP D).2.create nN b).2 0 es = (0, D', pg)
 | 4 => ∃ b, zDW D b /\ (zP D).1 = 0 /\ ((zP D).2.create nN b).1 = 0 /\ (yQ JE ((zP D).2.create nN b).2 0 es).1 = 0 /\ (yQ JE ((zP D).2.create nN b).2 0 es).2.2 = pg /\ (yQ JE ((zP D).2.create nN b).2 0 es).2.1.sync nN = (0, D')
 | _ => ∃ b, zDW D b /\ layP JE D b pages es = (0, D', pg)
section
variable {h h' : Heap} {ow ow' ow2 : zO} {jp dp sp : Nat} {SD : Nat -> Prop} {D D' : DS} {has : Bool} {done : List ED} {mark : ED} {pages : Nat} {brk : Bool} {Q : AHp}
variable (J : JH h ow jp dp sp SD D has done mark pages brk)
include J
theorem k103 (V : Vld has done mark) (hd : done.length <= 100) (hpl : D.pends.length <= 50000) (hQ : ∀ b h' ow', zDW D b -> JH h' ow' jp dp sp SD (layP JE D b pages (yF has done mark)).2.1 has done mark (layP JE D b pages (yF has done mark)).2.2 brk -> yL ow jp h ow' h' -> Q (.int .i64 (layP JE D b pages (yF has done mark)).1) h') :
  AC Tryz.prog 103 [.ptr (some ⟨jp, 0⟩)] h Q := ac103 (by
 unfold vc103 PNew
 refine ⟨some ⟨jp, 0⟩, by simp [zA], some ⟨jp, 0⟩, by simp [zA], ?_⟩
 have e1 : (h ++ [Blk.cells [.ptr (some ⟨jp, 0⟩)] true]).length = h.length + 1 := by simp
 rw [e1]
 generalize hfs : [AV.func (.func 177) [.ptr (some ⟨jp, 0⟩)] [], .func (.func 178) [] [.ptr (some ⟨h.length, 0⟩)], .func (.func 179) [.ptr (some ⟨jp, 0⟩)] [], .func (.func 180) [] [.ptr (some ⟨h.length, 0⟩)], .func (.func 181) [] [.ptr (some ⟨h.length, 0⟩)]] = fs
 have x7 : Ext h ((h ++ [Blk.cells [.ptr (some ⟨jp, 0⟩)] true]) ++ [Blk.cells fs true]) := (Ext.app _ _).trans (.app _ _)
 have b7 : ((h ++ [Blk.cells [.ptr (some ⟨jp, 0⟩)] true]) ++ [Blk.cells fs true])[h.length]? = some (.cells [.ptr (some ⟨jp, 0⟩)] true) := by
  rw [List.getElem?_append_left (by simp)]; simp
 have f7 : ((h ++ [Blk.cells [.ptr (some ⟨jp, 0⟩)] true]) ++ [Blk.cells fs true])[h.length + 1]? = some (.cells fs true) := by
  rw [<- e1]; simp
 have J7 := J.ext x7
 generalize ((h ++ [Blk.cells [.ptr (some ⟨jp, 0⟩)] true]) ++ [Blk.cells fs true]) = h7 at *
 have hjl := J.jl
 have nol : ∀ b, h.length <= b -> ow b = none /\ b ≠ jp := fun b hb => by
  refine ⟨?_, by omega⟩
  cases ho : ow b with
  | none => rfl
  | some r => have := J.dk.live b (by rw [ho]; simp); omega
 have keep : ∀ {h2 : Heap} {ow2 : zO}, yL ow jp h7 ow2 h2 -> ∀ {b : Nat} {B : Blk}, h.length <= b -> h7[b]? = some B -> h2[b]? = some B := fun S b B hb hB =>
  S.keeps _ _ (fun hx => hx.elim (fun h1 => h1 (nol b hb).1) (nol b hb).2) hB
 have hck := zD7 V
 have hel : (yF has done mark).length <= 101 := by
  unfold yF
  rw [List.length_append]
  cases has <;> simp <;> omega
 have fin : ∀ {h2 : Heap} {ow2 : zO}, yL ow jp h7 ow2 h2 -> yL ow jp h ow2 h2 := fun S => (yL.ext x7).trans S J.jl
 refine k101 (fs := fs) (n := 5) (fun i h2 => ∃ (ow2 : zO) (D2 : DS) (pg : Nat), stg D pages (yF has done mark) i D2 pg /\ D2.pends.length <= 90000 /\ JH h2 ow2 jp dp sp SD D2 has done mark pg brk /\ yL ow jp h7 ow2 h2) (by rw [<- hfs]; rfl) (by omega)
  (fun i h2 ⟨ow2, D2, pg, _, _, _, S⟩ => keep S (by omega) f7) ?_ ⟨ow, D, pages, ⟨rfl, rfl⟩, by omega, J7, .refl _ _ _⟩ ?_ ?_
 ·rw [<- hfs]; intro f hf
  simp only [List.mem_cons, List.mem_nil_iff, or_false] at hf
  rcases hf with rfl | rfl | rfl | rfl | rfl <;> rfl
 ·rintro i f h2 hf ⟨ow2, D2, pg, hst, hp2, J2, S2⟩ K hK0 hK1
  have box : zA h2 ⟨h.length, 0⟩ 1 = some [.ptr (some ⟨jp, 0⟩)] := by
   have := keep S2 (Nat.le_refl _) b7
   simp [zA, this]
  rw [<- hfs] at hf
  match i, hf with
  | 0, hf =>
   cases hf
   obtain ⟨rfl, rfl⟩ := hst
   show AC Tryz.prog 177 [.ptr (some ⟨jp, 0⟩)] h2 K
   refine k177 J2 (by omega) fun h3 ow3 J3 S3 => ?_
   have T := S2.trans S3 J7.jl
   by_cases h0 : (zP D2).1 = 0
   ·rw [h0]
    refine hK1 h3 ⟨ow3, _, pg, ⟨Prod.ext h0 rfl, rfl⟩, ?_, J3, T⟩
    unfold zP
    split
    ·exact Nat.le_trans kL hp2
    ·exact hp2
   ·refine hK0 h3 _ h0 ?_
    have := hQ 0 h3 ow3 (fun hc => absurd hc h0)
    unfold layP at this
    rw [if_pos h0] at this
    exact ⟨_, rfl, this J3 (fin T)⟩
  | 1, hf =>
   cases hf
   obtain ⟨hc, rfl⟩ := hst
   show AC Tryz.prog 178 [.ptr (some ⟨h.length, 0⟩)] h2 K
   refine ac178 ?_
   unfold vc178
   refine ⟨_, box, ⟨_, J2.at (k := 0) rfl, d95 J2.dk fun b h3 ow3 R3 S3 => ⟨_, rfl, ?_⟩⟩⟩
   have J3 := J2.step S3 R3
   have T := S2.trans (.disk S3) J7.jl
   have hc1 : (zP D).1 = 0 := by rw [hc]
   have hc2 : (zP D).2 = D2 := by rw [hc]
   have hfr : zDW D b := fun _ h1 y hy he => by
    rw [hc2] at h1 hy
    obtain ⟨_, _, _, _, C⟩ := R3
    have hb := C.blocks
    rw [zOZ (t := nN) h1, List.map_append, List.nodup_append] at hb
    exact hb.2.2 y.b (List.mem_map_of_mem hy) b (by simp [mkF]) he
   by_cases h0 : (D2.create nN b).1 = 0
   ·rw [h0]
    refine hK1 h3 ⟨ow3, _, pg, ⟨b, hfr, hc1, by rw [hc2]; exact Prod.ext h0 rfl, rfl⟩, ?_, J3, T⟩
    exact Nat.le_trans zA5 hp2
   ·refine hK0 h3 _ h0 ?_
    have := hQ b h3 ow3 hfr
    unfold layP at this
    rw [if_neg (by omega), hc2, if_pos h0] at this
    exact ⟨_, rfl, this J3 (fin T)⟩
  | 2, hf =>
   cases hf
   obtain ⟨b, hfr, hc1, hcr, rfl⟩ := hst
   show AC Tryz.prog 179 [.ptr (some ⟨jp, 0⟩)] h2 K
   have e2 : ((zP D).2.create nN b).1 = 0 := by rw [hcr]
   have e3 : ((zP D).2.create nN b).2 = D2 := by rw [hcr]
   refine k179 J2 V hd (by omega) fun h3 ow3 J3 S3 => ?_
   have T := S2.trans S3 J7.jl
   have hfp := zB2 (es := yF has done mark) (D := D2) (a := 0) hck
   by_cases h0 : (yQ JE D2 0 (yF has done mark)).1 = 0
   ·rw [h0]
    refine hK1 h3 ⟨ow3, _, _, ⟨b, hfr, hc1, e2, by rw [e3]; exact Prod.ext h0 (Prod.ext rfl rfl)⟩, ?_, J3, T⟩
    have hD2 : D2.pends.length <= 50000 := by
     rw [<- e3]
     have h5 := zA5 (D := (zP D).2) (t := nN) (b := b)
     have h6 : (zP D).2.pends.length <= D.pends.length := by
      unfold zP
      split
      ·exact kL
      ·exact Nat.le_refl _
     omega
    omega
   ·refine hK0 h3 _ h0 ?_
    have := hQ b h3 ow3 hfr
    unfold layP at this
    rw [if_neg (by omega), if_neg (by omega), e3, if_pos h0] at this
    exact ⟨_, rfl, this J3 (fin T)⟩
  | 3, hf =>
   cases hf
   obtain ⟨b, hfr, hc1, hcr, hfl⟩ := hst
   have e3 : (yQ JE ((zP D).2.create nN b).2 0 (yF has done mark)).1 = 0 := by rw [hfl]
   have e4 : (yQ JE ((zP D).2.create nN b).2 0 (yF has done mark)).2.1 = D2 := by rw [hfl]
   have e5 : (yQ JE ((zP D).2.create nN b).2 0 (yF has done mark)).2.2 = pg := by rw [hfl]
   show AC Tryz.prog 180 [.ptr (some ⟨h.length, 0⟩)] h2 K
   refine ac180 ?_
   unfold vc180
   refine ⟨_, box, ⟨_, J2.at (k := 0) rfl, d97 J2.dk (by omega) fun h3 ow3 R3 S3 => ⟨_, rfl, ?_⟩⟩⟩
   have J3 := J2.step S3 R3
   have T := S2.trans (.disk S3) J7.jl
   by_cases h0 : (D2.sync nN).1 = 0
   ·rw [h0]
    refine hK1 h3 ⟨ow3, _, pg, ⟨b, hfr, hc1, hcr, e3, e5, by rw [e4]; exact Prod.ext h0 rfl⟩, ?_, J3, T⟩
    exact Nat.le_trans zFC hp2
   ·refine hK0 h3 _ h0 ?_
    have := hQ b h3 ow3 hfr
    unfold layP at this
    rw [if_neg (by omega), if_neg (by omega), if_neg (by omega), e4, e5, if_pos h0] at this
    exact ⟨_, rfl, this J3 (fin T)⟩
  | 4, hf =>
   cases hf
   obtain ⟨b, hfr, hc1, hcr, hfl, hpg, hsy⟩ := hst
   have e3 : ((yQ JE ((zP D).2.create nN b).2 0 (yF has done mark)).2.1.sync nN).1 = 0 := by rw [hsy]
   have e4 : ((yQ JE ((zP D).2.create nN b).2 0 (yF has done mark)).2.1.sync nN).2 = D2 := by rw [hsy]
   show AC Tryz.prog 181 [.ptr (some ⟨h.length, 0⟩)] h2 K
   refine ac181 ?_
   unfold vc181
   refine ⟨_, box, ⟨_, J2.at (k := 0) rfl, d182 J2.dk (by omega) fun h3 ow3 R3 S3 => ⟨_, rfl, ?_⟩⟩⟩
   have J3 := J2.step S3 R3
   have T := S2.trans (.disk S3) J7.jl
   have hlay : layP JE D b pages (yF has done mark) = ((D2.rename nN nJ).1, (D2.rename nN nJ).2, pg) := by
    unfold layP
    rw [if_neg (by omega), if_neg (by omega), if_neg (by omega), if_neg (by omega), e4, hpg]
   by_cases h0 : (D2.rename nN nJ).1 = 0
   ·rw [h0]
    refine hK1 h3 ⟨ow3, _, pg, ⟨b, hfr, by rw [hlay, h0]⟩, ?_, J3, T⟩
    exact Nat.le_trans zDG hp2
   ·refine hK0 h3 _ h0 ?_
    have := hQ b h3 ow3 hfr
    rw [hlay] at this
    exact ⟨_, rfl, this J3 (fin T)⟩
  | i + 5, hf => simp at hf
 ·rintro h2 ⟨ow2, D2, pg, ⟨b, hfr, hl⟩, _, J2, S2⟩
  refine ⟨0, rfl, ?_⟩
  have := hQ b h2 ow2 hfr
  rw [hl] at this
  exact this J2 (fin S2))
end
section
variable {h h' : Heap} {ow ow' ow2 : zO} {jp dp sp : Nat} {SD : Nat -> Prop} {D D' : DS} {has : Bool} {done : List ED} {mark : ED} {pages : Nat} {brk : Bool} {Q : AHp}
theorem k125 {q : OSl} {l : List Bs} {s : Bs} (H : HasL strE h q l) (hl : l.length <= 1000000) (hQ : Q (.bool (l.contains s)) h) : AC Tryz.prog 125 [.sl q, .str s] h Q := ac125 (by
  unfold vc125
  refine ac205 ?_
  unfold vc205
  have hlen := H.len
  refine ⟨fun xs h6 => h6 = h /\ ∃ i : Nat, xs = [.int .i64 i] /\ i <= l.length /\ (l.take i).contains s = false, fun xs _ => match xs with | [.int _ i] => (l.length - i).toNat | _ => 0, ⟨rfl, 0, rfl, by omega, rfl⟩, ?_⟩
  rintro n3 h6 ⟨rfl, i, hx, hi, hc⟩
  simp only [List.cons.injEq, AV.int.injEq, true_and, and_true] at hx
  subst hx
  rw [hlen]
  refine zB (fun g => ?_) (fun g => ?_)
  · replace g := of_decide_eq_true g
    refine HasL.idx (E := strE) H (by omega) (by omega) fun p x hx hcx => ⟨x, hcx, ?_⟩
    have hx : l[i]? = some x := by simpa using hx
    refine zB (fun g2 => ?_) (fun g2 => ?_)
    · have g2 : s = x := by simpa using g2
      refine ⟨_, rfl, ?_⟩
      have : l.contains s = true := by rw [List.contains_iff_mem, g2]; exact List.mem_of_getElem? hx
      rw [this] at hQ
      rw [decide_eq_true (by omega)]; exact hQ
    · have g2 : ¬ s = x := by simpa using g2
      rw [zF ⟨by omega, by omega⟩]
      refine ⟨trivial, ⟨rfl, i + 1, by simp, by omega, ?_⟩, by simp only; omega⟩
      rw [List.take_add_one, hx]
      simp only [Option.toList_some, List.contains_append, hc, Bool.false_or]
      simpa using g2
  · replace g := of_decide_eq_false g
    have : i = l.length := by omega
    subst this
    rw [List.take_length] at hc
    rw [hc] at hQ
    exact ⟨_, rfl, hQ⟩)
variable (J : JH h ow jp dp sp SD D has done mark pages brk)
include J
theorem JH.nol {b : Nat} (hb : h.length <= b) : ow b = none /\ b ≠ jp := by
  have := J.jl
  refine ⟨?_, by omega⟩
  cases ho : ow b with
  | none => rfl
  | some r => have := J.dk.live b (by rw [ho]; simp); omega
theorem k43 (hb : brk = false) (V : Vld has done mark) (hd : done.length <= 100) (hpl : D.pends.length <= 1000000) (hQ : ∀ h' ow', JH h' ow' jp dp sp SD (yJ D (zN (zS (yF has done mark)))).2.2 has done mark pages brk -> yL ow jp h ow' h' ->
      Q (.tup [.int .i64 (yJ D (zN (zS (yF has done mark)))).1, .int .i64 (yJ D (zN (zS (yF has done mark)))).2.1]) h') : AC Tryz.prog 43 [.ptr (some ⟨jp, 0⟩)] h Q := ac43 (by
  unfold vc43 PNew
  refine k48 J ⟨_, rfl, ?_⟩
  rw [hb]
  refine zB (fun g => by cases g) (fun _ => ?_)
  refine ⟨_, J.at (k := 1) rfl, ?_⟩
  have hck := zD7 V
  have hel : (yF has done mark).length <= 101 := by
    unfold yF
    rw [List.length_append]
    cases has <;> simp <;> omega
  have hnl : (zN (zS (yF has done mark))).length <= 30000 := by
    have h1 := xX (l := zS (yF has done mark))
    have h2 := jV (l := yF has done mark) fun d hd => by
      have := hck d hd
      simp only [chk, Bool.and_eq_true, decide_eq_true_eq] at this
      exact this.1.2
    omega
  refine v41 J.st.view V hd fun q9 h8 N8 => ⟨q9, rfl, ?_⟩
  generalize zN (zS (yF has done mark)) = N at *
  have x11 : Ext h8 (h8 ++ [Blk.cells [.str nJ] true]) := .app _ _
  refine New.append (E := strE) (m := [nJ]) (N8.ext x11) (HasL.new (E := strE) (l := [nJ]) (n := 1) rfl rfl) (by simp only [List.length_cons, List.length_nil]; omega) fun q12 h13 N13 => ?_
  have J13 := J.ext N13.1
  refine ⟨_, J13.at (k := 0) rfl, d42 J13.dk fun q18 h17 N17 => ⟨q18, rfl, ?_⟩⟩
  have J17 := J13.ext N17.1
  have hll := N17.hasL.len
  have hln : D.list.length = D.namesL.length := by unfold DS.list; simp
  have hmany : D.namesL.length <= 1000 := by
    unfold DS.namesL
    have := xX (l := D.files.map (·.name))
    obtain ⟨_, _, _, _, C⟩ := J.dk
    have := C.many
    rw [List.length_map] at *
    omega
  have kq : ∀ {h2 : Heap} {ow2 : zO}, yL ow jp h17 ow2 h2 -> HasL strE h2 q12 (N ++ [nJ]) /\ HasL lisE h2 q18 D.list := fun S => by
    refine ⟨S.hasL (N13.hasL.mono N17.1) fun s hs => J.nol (N13.2.2 s hs), S.hasL N17.hasL fun s hs => J13.nol (N17.2.2 s hs)⟩
  refine ⟨fun xs h23 => ∃ (n : Int) (i : Nat) (ow' : zO) (D' : DS), xs = [.int .i64 n, .int .i64 i] /\ 0 <= n /\ n <= i /\ i <= D.namesL.length /\ xR (vA N) D (D.namesL.take i) 0 = (n, 0, D') /\ D'.pends.length <= 1000000 /\ JH h23 ow' jp dp sp SD D' has done mark pages brk /\ yL ow jp h17 ow' h23, fun xs _ => match xs with | [_, .int _ i] => (D.namesL.length - i).toNat | _ => 0,
    ⟨0, 0, ow, D, rfl, by omega, by omega, by omega, rfl, hpl, J17, .refl _ _ _⟩, ?_⟩
  rintro n19 n20 h23 ⟨n, i, ow2, D2, hx, hn0, hn1, hi, hcl, hp2, J23, S23⟩
  simp only [List.cons.injEq, AV.int.injEq, true_and, and_true] at hx
  obtain ⟨rfl, rfl⟩ := hx
  obtain ⟨H12, H18⟩ := kq S23
  rw [hll, hln]
  refine zB (fun g => ?_) (fun g => ?_)
  · replace g := of_decide_eq_true g
    refine HasL.idx (E := lisE) H18 (by omega) (by omega) fun p x hx hcx => ⟨x.1, _, hcx, ?_⟩
    have hx : D.list[i]? = some x := by simpa using hx
    have hni : D.namesL[i]? = some x.1 := by
      unfold DS.list at hx
      rw [List.getElem?_map] at hx
      cases hc : D.namesL[i]? with
      | none => rw [hc] at hx; cases hx
      | some t => rw [hc] at hx; cases hx; rfl
    have ht : D.namesL.take (i + 1) = D.namesL.take i ++ [x.1] := by rw [List.take_add_one, hni]; rfl
    refine k125 H12 (by simp; omega) ⟨_, rfl, ?_⟩
    show vif (vA N x.1) _ _
    rw [zF (n := ((i : Nat) : Int) + 1) ⟨by omega, by omega⟩, zF (n := n19 + 1) ⟨by omega, by omega⟩]
    refine zB (fun g2 => ?_) (fun g2 => ?_)
    · refine ⟨trivial, ⟨n19, i + 1, ow2, D2, by simp, hn0, by omega, by omega, ?_, hp2, J23, S23⟩, by simp only; omega⟩
      rw [ht, kR hcl, xR, if_pos g2]; rfl
    · have hk : ¬ vA N x.1 = true := by rw [g2]; simp
      refine ⟨_, J23.at (k := 0) rfl, d126 J23.dk hp2 fun h33 ow3 R33 S33 => ⟨_, rfl, ?_⟩⟩
      have J33 := J23.step S33 R33
      have T33 := S23.trans (.disk S33) J17.jl
      refine zB (fun g3 => ?_) (fun g3 => ?_)
      · have g3 : (D2.delete x.1).1 ≠ 0 := bne_iff_ne.1 g3
        have : yJ D N = (n19, (D2.delete x.1).1, (D2.delete x.1).2) := by
          unfold yJ
          have hl : D.namesL = D.namesL.take i ++ (x.1 :: D.namesL.drop (i + 1)) := Go.Man.drop_cons hni
          rw [hl, kR hcl, xR, if_neg hk, if_neg g3]
        rw [this] at hQ
        exact hQ h33 ow3 J33 ((yL.ext (N13.1.trans N17.1)).trans T33 J.jl)
      · have g3 : (D2.delete x.1).1 = 0 := bne_eq_false_iff_eq.1 g3
        refine ⟨trivial, ⟨n19 + 1, i + 1, ow3, _, by simp, by omega, by omega, by omega, ?_, Nat.le_trans kL hp2, J33, T33⟩, by simp only; omega⟩
        rw [ht, kR hcl, xR, if_neg hk, if_pos g3]; rfl
  · replace g := of_decide_eq_false g
    have : i = D.namesL.length := by omega
    subst this
    rw [List.take_length] at hcl
    have : yJ D N = (n19, 0, D2) := hcl
    rw [this] at hQ
    exact hQ h23 ow2 J23 ((yL.ext (N13.1.trans N17.1)).trans S23 J.jl))
theorem k102 (hb : brk = false) (V : Vld has done mark) (hd : done.length <= 100) (hpl : D.pends.length <= 1000000) (hQ : ∀ h' ow', JH h' ow' jp dp sp SD (yJ D (zN (zS (yF has done mark)))).2.2 has done mark pages brk -> yL ow jp h ow' h' ->
      Q (.int .i64 (yJ D (zN (zS (yF has done mark)))).2.1) h') : AC Tryz.prog 102 [.ptr (some ⟨jp, 0⟩)] h Q := ac102 (by
  unfold vc102
  exact k43 J hb V hd hpl fun h' ow' J' S' => ⟨_, _, rfl, hQ h' ow' J' S'⟩)
end
theorem zFL : ∀ {l : List Nat} {x : Nat}, x ∈ l -> x <= l.sum
 | y :: l, x, h => by
  rw [List.sum_cons]
  rcases List.mem_cons.1 h with rfl | h
  ·omega
  ·have := zFL h; omega
theorem zD5 {s s' : ESt} {d : ED} (h : appE s d = some s') : s.2.1.length <= s'.2.1.length := by
 unfold appE at h
 split at h
 ·cases h
  show s.2.1.length <= (xV s.2.1 d).length
  unfold xV
  split
  ·simp
  ·exact Nat.le_refl _
 ·cases h
theorem zKB : ∀ {n t : Nat} {l : List Bs} {s : ESt}, s.2.1.length <= (says JE n l t s : ESt).2.1.length
 | 0, t, l, s => Nat.le_refl _
 | n + 1, t, l, s => by
  rw [says]
  split
  ·exact Nat.le_refl _
  ·rename_i b k hu
   split
   ·exact Nat.le_refl _
   ·rename_i e hd
    split
    ·exact Nat.le_refl _
    ·rename_i s' ha
     exact Nat.le_trans (zD5 ha) zKB
theorem Lls.dropK {h : Heap} {q : OSl} {l : List Bs} (H : Lls byE h q l) {k : Nat} (hk : k <= l.length) {K : OSl -> Prop} (hK : ∀ q', Lls byE h q' (l.drop k) -> K q') : yC 1 q (k : Int) none none K := by
 obtain ⟨qs, a, b, c⟩ := H
 refine HasL.slice (E := slE) a (by omega) (by simp; omega) (by simp) fun q' H' => hK q' ⟨qs.drop k, ?_, by simp [b], fun i s x h1 h2 => ?_⟩
 ·have : (qs.take ((none : Option Int).getD (qs.length : Int)).toNat).drop ((k : Int)).toNat = qs.drop k := by simp
  rw [this] at H'
  exact H'
 ·rw [List.getElem?_drop] at h1 h2
  exact c _ _ _ h1 h2
section
variable {h h' : Heap} {Q : AHp} {ow : zO} {dp : Nat} {D : DS}
theorem fresh2 : St2 (h ++ [.cells [.sl none, .int .i64 0, .int .i64 0, .int .i64 0, .sl none, .bool false] true]) (fun b => b = h.length) h.length false [] xQ :=
 ⟨none, zK7, [], by simp [zK7], rfl, fun s hs => (by cases hs), Grow.start _, rfl, fun j e d h1 => (by simp at h1), ⟨rfl, rfl, rfl, rfl⟩, fun s hs => (by cases hs), by simp, by simp [xQ], fun b hb => by simp; omega⟩
theorem vld0 : Vld false [] xQ := ⟨fun i d h => (by simp at h), fun h => (by cases h), fun _ => rfl⟩
def zIC (D : DS) (t : Bs) : List Bs := match D.find t with | some f => f.now.map pad | none => []
theorem k100 (R : yX h ow dp D) {t : Bs} (ho : D.off = false) (hQ : ∀ q' qs h', LL byE h h' q' qs (zIC D t) -> Q (.sl q') h') : AC Tryz.prog 100 [.ptr (some ⟨dp, 0⟩), .str t] h Q := ac100 (by
 unfold vc100 PNew
 unfold zIC at hQ
 refine d64 R (fun hn => ⟨0, 4, rfl, ?_⟩) fun f hf => ⟨_, 0, rfl, ?_⟩
 ·rw [hn] at hQ
  refine ⟨fun xs h11 => xs = [.sl none, .int .i64 0] /\ h11 = h, fun _ _ => 0, ⟨rfl, rfl⟩, ?_⟩
  rintro q7 n8 h11 ⟨hx, rfl⟩
  simp only [List.cons.injEq, AV.int.injEq, AV.sl.injEq, true_and, and_true] at hx
  obtain ⟨rfl, rfl⟩ := hx
  exact zB (fun g => by simp at g) (fun _ => hQ _ _ _ (LL.nil _))
 ·rw [hf] at hQ
  simp only at hQ
  have hlen : f.now.length <= 16384 := by
   obtain ⟨_, _, _, _, C⟩ := R
   have h1 := zFL (List.mem_map_of_mem (f := fun g : FA => g.now.length) (jN hf).1)
   have := C.used
   omega
  refine ⟨fun xs h11 => ∃ (q7 : OSl) (qs : List (OSl)) (i : Nat), xs = [.sl q7, .int .i64 i] /\ i <= f.now.length /\ LL byE h h11 q7 qs ((f.now.map pad).take i), fun xs _ => match xs with | [_, .int _ i] => (f.now.length - i).toNat | _ => 0, ⟨none, [], 0, rfl, by omega, LL.nil h⟩, ?_⟩
  rintro q7 n8 h11 ⟨q7', qs, i, hx, hi, I⟩
  simp only [List.cons.injEq, AV.int.injEq, AV.sl.injEq, true_and, and_true] at hx
  obtain ⟨rfl, rfl⟩ := hx
  refine zB (fun g => ?_) (fun g => ?_)
  ·replace g := of_decide_eq_true g
   have R11 := R.grow I.ext
   refine d56 R11 (fun v hv1 hv2 hv3 => ?_) fun g' x q14 h13 _ hg' _ hx x13 H13 hq13 => ⟨_, _, rfl, zB (fun g2 => by simp at g2) (fun _ => ?_)⟩
   ·exact absurd ⟨by omega, by omega⟩ (hv3 ho f hf)
   ·rw [hf] at hg'
    obtain rfl := Option.some.inj hg'
    have hx : f.now[i]? = some x := by simpa using hx
    have I13 := I.grow x13
    refine I13.push (by' := 24) (s := q14) H13 (fun u hu => ⟨by have := hq13 u hu; have := I.ext.len; omega, fun o ho => ?_⟩) (by have := I.len; rw [List.length_take] at this; omega) fun out' h19 L19 _ _ _ => ?_
    ·have := HasL.live I.oa.hasL o ho
     have := hq13 u hu; omega
    ·rw [zF ⟨by omega, by omega⟩]
     have L20 : LL byE h h19 out' (qs ++ [q14]) ((f.now.map pad).take (i + 1)) := by
      rw [List.take_add_one, List.getElem?_map, hx]; exact L19
     exact ⟨trivial, ⟨out', _, i + 1, by simp, by omega, L20⟩, by simp only; omega⟩
  ·replace g := of_decide_eq_false g
   have : i = (f.now.map pad).length := by rw [List.length_map]; omega
   rw [this, List.take_length] at I
   exact hQ _ _ _ I)
theorem k99 {q : OSl} {l : List Bs} (L : Laid h) (H : Lls byE h q l) (hs : ∀ s ∈ l, s.length = 64) (hl : l.length <= 2300) (hd : (zCX JE l : ESt).2.1.length <= 100)
  (hQ : ∀ p SD h', Ext h h' -> (∀ b, SD b -> h.length <= b) -> St2 h' SD p (zCX JE l : ESt).1 (zCX JE l : ESt).2.1 (zCX JE l : ESt).2.2 -> Vld (zCX JE l : ESt).1 (zCX JE l : ESt).2.1 (zCX JE l : ESt).2.2 -> Q (.ptr (some ⟨p, 0⟩)) h') : AC Tryz.prog 99 [.sl q] h Q := ac99 (by
 unfold vc99
 refine t30 ⟨_, rfl, ?_⟩
 generalize hF : (zCX JE l : ESt) = F at *
 refine ⟨fun xs h9 => ∃ (q5 : OSl) (i n : Nat) (s : ESt) (SD : Nat -> Prop), xs = [.sl q5, .int .i64 ((1 + i : Nat) : Int)] /\ i <= l.length /\ Lls byE h q5 (l.drop i) /\ Ext h h9 /\ (∀ b, SD b -> h.length <= b) /\ St2 h9 SD h.length s.1 s.2.1 s.2.2 /\ Vld s.1 s.2.1 s.2.2 /\ l.length - i <= n /\ F = says JE n (l.drop i) (1 + i) s,
  fun xs _ => match xs with | [_, .int _ i] => (l.length + 2 - i).toNat | _ => 0, ⟨q, 0, l.length, (false, [], xQ), _, rfl, by omega, by simpa using H, .app _ _, fun b hb => by omega, fresh2, vld0, by omega, ?_⟩, ?_⟩
 ·rw [<- hF]; rfl
 rintro q5 n6 h9 ⟨q5', i, n, s, SD, hx, hi, H5, x9, hsd, S, V, hn, hf⟩
 simp only [List.cons.injEq, AV.int.injEq, AV.sl.injEq, true_and, and_true] at hx
 obtain ⟨rfl, rfl⟩ := hx
 have hlen := H5.len
 rw [List.length_drop] at hlen
 rw [hlen]
 have stop : ∀ {h2 : Heap}, Ext h9 h2 -> F = s -> Q (.ptr (some ⟨h.length, 0⟩)) h2 := fun x2 he => by
  subst he
  exact hQ _ SD _ (x9.trans x2) hsd (S.keeps (X := fun _ => False) (zK x2) (fun _ _ h => h) x2.len) V
 refine zB (fun g => ?_) (fun g => ?_)
 ·replace g := of_decide_eq_true g
  obtain ⟨n', rfl⟩ : ∃ n', n = n' + 1 := ⟨n - 1, by omega⟩
  rw [says] at hf
  refine k175 (tag := 1 + i) (L.ext x9) (H5.mono x9) (fun s hs' => by have := hs s (List.mem_of_mem_drop hs'); omega) (by omega) (by simp only [kC, List.length_drop]; omega) (by rw [List.length_drop]; omega)
   (fun hu v h11 hv x11 => ⟨_, _, _, rfl, zB (fun _ => stop x11 (by rw [hf, hu])) (fun g2 => by simp at g2; exact absurd g2 hv)⟩) fun b k q12 h11 hu N => ⟨_, _, _, rfl, zB (fun g2 => by simp at g2) (fun _ => ?_)⟩
  obtain ⟨k1, k2, k3⟩ := zFB hu
  rw [List.length_drop] at k2
  rw [hu] at hf
  simp only at hf
  refine e176 N.hasL (by omega) (fun hr h16 x16 => ⟨_, _, _, _, _, rfl, zB (fun _ => stop (N.1.trans x16) (by rw [hf]; simp only [hr])) (fun g2 => by simp at g2)⟩)
   fun d e h16 hr x16 hR he => ⟨_, _, _, _, _, rfl, zB (fun g2 => by simp at g2) (fun _ => ?_)⟩
  have hf : F = (match appE s d with | none => s | some s' => says JE n' ((l.drop i).drop k) (1 + i + k) s' : ESt) := by
   rw [hf]
   simp only [hr]
   cases appE s d <;> rfl
  have x916 : Ext h9 h16 := N.1.trans x16
  have S16 := S.keeps (X := fun _ => False) (zK x916) (fun _ _ h => h) x916.len
  have hdl : s.2.1.length <= 100 := by
   have : s.2.1.length <= F.2.1.length := by
    rw [hf]
    cases ha : appE s d with
    | none => exact Nat.le_refl _
    | some s' => exact Nat.le_trans (zD5 ha) zKB
   omega
  have hlv : ∀ b, SD b -> b < h9.length := by obtain ⟨_, _, _, _, _, _, _, _, _, _, _, _, _, h11⟩ := S; exact h11
  have hnl := N.1.len
  refine v32 S16 (e := e) hR (fun t ht hb => by have := he t ht; have := hlv _ hb; omega) hdl (fun hno => ⟨_, rfl, zB (fun _ => stop x916 ?_) (fun g2 => ?_)⟩) fun h23 SD' hyes S23 hsd' K23 l23 => ⟨_, rfl, zB (fun g2 => by simp at g2) (fun _ => ?_)⟩
  ·rw [hf]
   have : appE s d = none := by unfold appE; rw [hno]; rfl
   rw [this]
  ·exfalso
   have g2 : resV s.1 s.2.1 s.2.2 d = 0 := bne_eq_false_iff_eq.1 g2
   unfold resV at g2
   cases hc : chk d with
   | false => rw [hc] at g2; simp at g2
   | true =>
    rw [hc, Bool.true_and] at hno
    rw [hc, hno] at g2; simp at g2
  ·have ha : appE s d = some (nHas d, xV s.2.1 d, kQ d) := by unfold appE; rw [hyes]; rfl
   rw [ha] at hf
   refine Lls.dropK H5 (k := k) (by rw [List.length_drop]; omega) fun q25 H25 => ?_
   have hd2 : (l.drop i).drop k = l.drop (i + k) := by rw [List.drop_drop]
   rw [hd2] at H25 hf
   rw [zF ⟨by omega, by omega⟩]
   refine ⟨trivial, ⟨q25, i + k, n', (nHas d, xV s.2.1 d, kQ d), SD', ?_, by omega, H25, ?_, ?_, S23, V.step hyes, by omega, by rw [hf, show 1 + i + k = 1 + (i + k) by omega]⟩, by simp only; omega⟩
   ·simp; omega
   ·intro b B hB
    exact K23 _ _ (fun hb => by have := hsd b hb; have := zD hB; omega) (x916 _ _ (x9 _ _ hB))
   ·intro b hb
    rcases hsd' b hb with h1 | h1
    ·exact hsd b h1
    ·have := x916.len; have := x9.len; omega
 ·replace g := of_decide_eq_false g
  have : i = l.length := by omega
  subst this
  rw [List.drop_length, zKA] at hf
  exact stop (.refl _) hf)
end
theorem zH6 {done : List ED} (h : ∀ (i : Nat) (d : ED), done[i]? = some d -> chk d = true /\ (d.1 == 2) = true /\ d.2.1 = i) : ∀ i, i <= done.length -> fold (J := JE) (false, [], xQ) (done.take i) = some (false, done.take i, xQ)
 | 0, _ => rfl
 | i + 1, hi => by
  have hd : done[i]? = some (done[i]'(by omega)) := List.getElem?_eq_getElem _
  rw [List.take_add_one, hd]
  show fold (J := JE) (false, [], xQ) (done.take i ++ [done[i]'(by omega)]) = _
  rw [jC, zH6 h i (by omega), Option.bind_some]
  obtain ⟨a, b, c⟩ := h i _ hd
  have hl : (done.take i).length = i := by simp; omega
  have hg : goes false (done.take i) xQ (done[i]'(by omega)) = true := by
   unfold goes
   rw [hl, c]
   simp
  show (appE (false, done.take i, xQ) (done[i]'(by omega))).bind _ = _
  unfold appE
  simp only [a, hg, Bool.and_self, if_true, Option.bind_some]
  show some (nHas _, xV (done.take i) _, kQ _) = _
  unfold nHas xV kQ
  simp only [b]
  rfl
theorem zFP {has : Bool} {done : List ED} {mark : ED} (V : Vld has done mark) : fold (J := JE) (false, [], xQ) (yF has done mark) = some (has, done, mark) := by
 unfold yF
 rw [jC]
 have := zH6 V.1 done.length (Nat.le_refl _)
 rw [List.take_length] at this
 rw [this, Option.bind_some]
 cases has with
 | false =>
  rw [V.2.2 rfl]; rfl
 | true =>
  obtain ⟨a, b, c⟩ := V.2.1 rfl
  show (appE (false, done, xQ) mark).bind _ = _
  have hg : goes false done xQ mark = true := by
   unfold goes
   rw [c]
   simp
  unfold appE
  simp only [a, hg, Bool.and_self, if_true, Option.bind_some]
  show some (nHas mark, xV done mark, kQ mark) = _
  unfold nHas xV kQ
  simp only [b]
  rfl
theorem zOO {s f : ESt} {l : List ED} {i : Nat} {d : ED} (h : fold (J := JE) s l = some f) (hd : l[i]? = some d) {s1 : ESt} (h1 : fold (J := JE) s (l.take i) = some s1) : ∃ s2, appE s1 d = some s2 /\ fold (J := JE) s (l.take (i + 1)) = some s2 := by
 rw [Go.Man.drop_cons hd, jC, h1, Option.bind_some] at h
 have h : (appE s1 d).bind (fun s' => fold (J := JE) s' (l.drop (i + 1))) = some f := h
 obtain ⟨s2, h2, h3⟩ := Option.bind_eq_some_iff.1 h
 refine ⟨s2, h2, ?_⟩
 rw [List.take_add_one, hd]
 show fold (J := JE) s (l.take i ++ [d]) = _
 rw [jC, h1, Option.bind_some]
 show (appE s1 d).bind _ = _
 rw [h2]; rfl
theorem zPD {s s' : ESt} {d : ED} (h : appE s d = some s') : (chk d && goes s.1 s.2.1 s.2.2 d) = true /\ s' = (nHas d, xV s.2.1 d, kQ d) := by
 unfold appE at h
 split at h
 ·rename_i hc; cases h; exact ⟨hc, rfl⟩
 ·cases h
theorem zCO : ∀ {l : List ED} {s s' : ESt}, fold (J := JE) s l = some s' -> s.2.1.length <= s'.2.1.length
 | [], s, s', h => by simp only [fold, Option.some.injEq] at h; subst h; exact Nat.le_refl _
 | d :: l, s, s', h => by
  have h : (appE s d).bind (fun s' => fold (J := JE) s' l) = some s' := h
  obtain ⟨s2, h2, h3⟩ := Option.bind_eq_some_iff.1 h
  exact Nat.le_trans (zD5 h2) (zCO h3)
section
variable {h h' : Heap} {Q : AHp} {SD : Nat -> Prop} {sp : Nat} {has : Bool} {done : List ED} {mark : ED}
theorem k109 (S : StV h sp has done mark) (V : Vld has done mark) (hd : done.length <= 100) (hQ : ∀ p SD' h', Ext h h' -> (∀ b, SD' b -> h.length <= b) -> St2 h' SD' p has done mark -> Q (.ptr (some ⟨p, 0⟩)) h') : AC Tryz.prog 109 [.ptr (some ⟨sp, 0⟩)] h Q := ac109 (by
 unfold vc109
 refine t30 ⟨_, rfl, ?_⟩
 have x3 : Ext h (h ++ [Blk.cells [.sl none, .int .i64 0, .int .i64 0, .int .i64 0, .sl none, .bool false] true]) := .app _ _
 refine v31 (S.ext x3) hd fun q7 h6 x6 E6 => ⟨q7, rfl, ?_⟩
 have W6 := E6.edW
 have hF := zFP V
 have hel : (yF has done mark).length <= 101 := by
  unfold yF
  rw [List.length_append]
  cases has <;> simp <;> omega
 generalize yF has done mark = es at *
 have l3 : (h ++ [Blk.cells [.sl none, .int .i64 0, .int .i64 0, .int .i64 0, .sl none, .bool false] true]).length = h.length + 1 := by simp
 rw [l3] at W6
 have hl6 := x6.len
 rw [l3] at hl6
 refine ⟨fun xs h11 => ∃ (i : Nat) (s : ESt) (SD' : Nat -> Prop), xs = [.int .i64 i] /\ i <= es.length /\ fold (J := JE) (false, [], xQ) (es.take i) = some s /\ St2 h11 SD' h.length s.1 s.2.1 s.2.2 /\ (∀ b, SD' b -> b = h.length ∨ h6.length <= b) /\ zM (fun b => b = h.length) h6 h11 /\ h6.length <= h11.length, fun xs _ => match xs with | [.int _ i] => (es.length - i).toNat | _ => 0,
  ⟨0, (false, [], xQ), fun b => b = h.length, rfl, by omega, rfl, fresh2.keeps (X := fun _ => False) (zK x6) (fun _ _ h => h) x6.len, fun b hb => .inl hb, .refl _ _, Nat.le_refl _⟩, ?_⟩
 rintro n8 h11 ⟨i, s, SD', hx, hi, hf, S11, hsd, K11, l11⟩
 simp only [List.cons.injEq, AV.int.injEq, true_and, and_true] at hx
 subst hx
 have W11 := W6.keeps K11 fun b hb => by omega
 rw [W6.len]
 refine zB (fun g => ?_) (fun g => ?_)
 ·replace g := of_decide_eq_true g
  have hil : i < es.length := by omega
  obtain ⟨L, a, b, c, dq⟩ := W11
  refine HasL.idx (E := edE) a (by omega) (by omega) fun p x hx hcx => ⟨_, _, _, _, hcx, ?_⟩
  have hx : L[i]? = some x := by simpa using hx
  have he : es[i]? = some (es[i]'hil) := List.getElem?_eq_getElem hil
  obtain ⟨hR, hz⟩ := c i x _ hx he
  obtain ⟨s2, ha, hf2⟩ := zOO hF he hf
  obtain ⟨hy, rfl⟩ := zPD ha
  have hdl : s.2.1.length <= 100 := by
   have h1 := zD5 ha
   have h2 : (xV s.2.1 (es[i]'hil)).length <= done.length := by
    have h3 := hF
    rw [<- List.take_append_drop (i + 1) es, jC, hf2, Option.bind_some] at h3
    exact zCO h3
   have h1 : s.2.1.length <= (xV s.2.1 (es[i]'hil)).length := h1
   omega
  refine v32 S11 (e := x) hR (fun t ht hb => ?_) hdl (fun hno => ?_) fun h18 SD2 _ S18 hsd2 K18 l18 => ⟨_, rfl, ?_⟩
  ·have := hz t ht
   rcases hsd _ hb with h1 | h1 <;> omega
  ·rw [hno] at hy; cases hy
  ·rw [zF ⟨by omega, by omega⟩]
   refine ⟨trivial, ⟨i + 1, _, SD2, by simp, by omega, hf2, S18, fun b hb => ?_, ?_, by omega⟩, by simp only; omega⟩
   ·rcases hsd2 b hb with h1 | h1
    ·exact hsd b h1
    ·right; omega
   ·intro b B hb hB
    have hlt := zD hB
    exact K18 _ _ (fun h1 => by rcases hsd b h1 with h2 | h2; exact hb h2; omega) (K11 b B hb hB)
 ·replace g := of_decide_eq_false g
  have : i = es.length := by omega
  subst this
  rw [List.take_length, hF] at hf
  cases hf
  refine hQ _ SD' _ ?_ (fun b hb => by rcases hsd b hb with h1 | h1 <;> omega) S11
  intro b B hB
  have hlt := zD hB
  exact K11 b B (by omega) (x6 _ _ (x3 _ _ hB)))
end
def xT (D : DS) : ESt := zCX JE (zIC D nJ)
abbrev edsE (s : ESt) : List ED := yF s.1 s.2.1 s.2.2
def zDY (D : DS) (b : Nat) : Int × DS × Nat :=
 if (yJ D (zN (zS (edsE (xT D))))).2.1 ≠ 0 then ((yJ D (zN (zS (edsE (xT D))))).2.1, (yJ D (zN (zS (edsE (xT D))))).2.2, 0)
 else layP JE (yJ D (zN (zS (edsE (xT D))))).2.2 b 0 (edsE (xT D))
abbrev zIV (D : DS) (b : Nat) : Prop := (yJ D (zN (zS (edsE (xT D))))).2.1 = 0 -> zDW (yJ D (zN (zS (edsE (xT D))))).2.2 b
theorem vL {keep : Bs -> Bool} : ∀ {l : List Bs} {D : DS} {n : Int}, (xR keep D l n).2.2.pends.length <= D.pends.length
 | [], D, n => Nat.le_refl _
 | t :: l, D, n => by
  rw [xR]
  split
  ·exact vL
  ·split
   ·exact Nat.le_trans vL kL
   ·exact kL
section
variable {h h' : Heap} {ow ow' ow2 : zO} {dp : Nat} {D D' : DS} {Q : AHp}
theorem zOR : ∀ s ∈ zIC D nJ, s.length = 64 := by
 intro s hs
 unfold zIC at hs
 split at hs
 ·obtain ⟨x, _, rfl⟩ := List.mem_map.1 hs
  exact zC0
 ·cases hs
theorem k28 (L : Laid h) (o0 : ow 0 = none) (o1 : ow 1 = none) (R : yX h ow dp D) (ho : D.off = false) (hl : (zIC D nJ).length <= 2300) (hd : (xT D).2.1.length <= 100) (hpl : D.pends.length <= 50000)
  (h0 : ∀ b h' ow', zIV D b -> (zDY D b).1 ≠ 0 -> yX h' ow' dp (zDY D b).2.1 -> yY ow h ow' h' -> Q (.tup [.ptr none, .int .i64 (zDY D b).1]) h')
  (h1 : ∀ b jp sp SD h' ow', zIV D b -> (zDY D b).1 = 0 -> JH h' ow' jp dp sp SD (zDY D b).2.1 (xT D).1 (xT D).2.1 (xT D).2.2 (zDY D b).2.2 false -> yY ow h ow' h' -> h.length <= jp -> (∀ b, SD b -> h.length <= b) -> Vld (xT D).1 (xT D).2.1 (xT D).2.2 ->
   Q (.tup [.ptr (some ⟨jp, 0⟩), .int .i64 0]) h') : AC Tryz.prog 28 [.ptr (some ⟨dp, 0⟩)] h Q := ac28 (by
 unfold vc28
 refine zB (fun g => by cases g) (fun _ => ?_)
 refine d98 R ⟨_, rfl, ?_⟩
 rw [ho]
 refine zB (fun g => by cases g) (fun _ => ?_)
 refine k100 R ho fun q7 qs h6 L6 => ⟨q7, rfl, ?_⟩
 refine k99 (L.ext L6.ext) L6.lls zOR hl hd fun sp SD h9 x9 hsd S9 V => ⟨_, rfl, ?_⟩
 have x69 : Ext h h9 := L6.ext.trans x9
 simp only [PNew]
 have l12 : (h9 ++ [Blk.cells [.ptr (some ⟨dp, 0⟩), .ptr (some ⟨sp, 0⟩), .int .i64 0, .bool false] true]).length = h9.length + 1 := by simp
 rw [l12]
 have x12 : Ext h9 (h9 ++ [Blk.cells [.ptr (some ⟨dp, 0⟩), .ptr (some ⟨sp, 0⟩), .int .i64 0, .bool false] true]) := .app _ _
 have hlh := x69.len
 have hl2 := L.len
 have hsl : ∀ b, SD b -> b < h9.length := by obtain ⟨_, _, _, _, _, _, _, _, _, _, _, _, _, h11⟩ := S9; exact h11
 have nol : ∀ b, h.length <= b -> ow b = none := fun b hb => by
  cases hc : ow b with
  | none => rfl
  | some r => have := R.live b (by rw [hc]; simp); omega
 have h6l := L6.ext.len
 have J12 : JH (h9 ++ [Blk.cells [.ptr (some ⟨dp, 0⟩), .ptr (some ⟨sp, 0⟩), .int .i64 0, .bool false] true]) ow h9.length dp sp SD D (xT D).1 (xT D).2.1 (xT D).2.2 0 false :=
  ⟨L.ext (x69.trans x12), o0, o1, by simp, R.grow (x69.trans x12), S9.keeps (X := fun _ => False) (zK x12) (fun _ _ h => h) x12.len, nol _ hlh, fun b hb => nol b (by have := hsd b hb; omega), fun hb => by have := hsl _ hb; omega, by omega⟩
 generalize hfs : [AV.func (.func 102) [.ptr (some ⟨h9.length, 0⟩)] [], .func (.func 103) [.ptr (some ⟨h9.length, 0⟩)] []] = fs
 have x14 : Ext (h9 ++ [Blk.cells [.ptr (some ⟨dp, 0⟩), .ptr (some ⟨sp, 0⟩), .int .i64 0, .bool false] true]) ((h9 ++ [Blk.cells [.ptr (some ⟨dp, 0⟩), .ptr (some ⟨sp, 0⟩), .int .i64 0, .bool false] true]) ++ [Blk.cells fs true]) := .app _ _
 have J14 := J12.ext x14
 have f14 : ((h9 ++ [Blk.cells [.ptr (some ⟨dp, 0⟩), .ptr (some ⟨sp, 0⟩), .int .i64 0, .bool false] true]) ++ [Blk.cells fs true])[h9.length + 1]? = some (.cells fs true) := by rw [<- l12]; simp
 have xx : Ext h ((h9 ++ [Blk.cells [.ptr (some ⟨dp, 0⟩), .ptr (some ⟨sp, 0⟩), .int .i64 0, .bool false] true]) ++ [Blk.cells fs true]) := (x69.trans x12).trans x14
 generalize ((h9 ++ [Blk.cells [.ptr (some ⟨dp, 0⟩), .ptr (some ⟨sp, 0⟩), .int .i64 0, .bool false] true]) ++ [Blk.cells fs true]) = h14 at *
 have toD : ∀ {h2 : Heap} {ow2 : zO}, yL ow h9.length h14 ow2 h2 -> yY ow h ow2 h2 := fun S => by
  have := xx.len
  refine ⟨fun b B hb hB => S.keeps _ _ (fun hx => hx.elim (fun h1 => hb h1) (fun h1 => by have := zD hB; omega)) (xx _ _ hB), by have := S.len; omega, fun b hb => ?_⟩
  rcases S.own b hb with h1 | h1
  ·exact .inl h1
  ·right; omega
 have keepf : ∀ {h2 : Heap} {ow2 : zO}, yL ow h9.length h14 ow2 h2 -> h2[h9.length + 1]? = some (.cells fs true) := fun S =>
  S.keeps _ _ (fun hx => hx.elim (fun h1 => h1 (nol _ (by omega))) (fun h1 => by omega)) f14
 refine k101 (fs := fs) (n := 2) (fun i h2 => ∃ (ow2 : zO) (D2 : DS) (pg : Nat), (match i with
   | 0 => D2 = D /\ pg = 0
   | 1 => (yJ D (zN (zS (edsE (xT D))))).2.1 = 0 /\ D2 = (yJ D (zN (zS (edsE (xT D))))).2.2 /\ pg = 0
   | _ => ∃ b, zIV D b /\ zDY D b = (0, D2, pg)) /\ JH h2 ow2 h9.length dp sp SD D2 (xT D).1 (xT D).2.1 (xT D).2.2 pg false /\ yL ow h9.length h14 ow2 h2) (by rw [<- hfs]; rfl) (by omega) (fun i h2 ⟨ow2, D2, pg, _, _, S⟩ => keepf S) ?_ ⟨ow, D, 0, ⟨rfl, rfl⟩, J14, .refl _ _ _⟩ ?_ ?_
 ·rw [<- hfs]; intro f hf
  simp only [List.mem_cons, List.mem_nil_iff, or_false] at hf
  rcases hf with rfl | rfl <;> rfl
 ·rintro i f h2 hf ⟨ow2, D2, pg, hst, J2, S2⟩ K hK0 hK1
  rw [<- hfs] at hf
  match i, hf with
  | 0, hf =>
   cases hf
   obtain ⟨rfl, rfl⟩ := hst
   show AC Tryz.prog 102 [.ptr (some ⟨h9.length, 0⟩)] h2 K
   refine k102 J2 rfl V hd (by omega) fun h3 ow3 J3 S3 => ?_
   have T := S2.trans S3 J14.jl
   by_cases hz : (yJ D2 (zN (zS (edsE (xT D2))))).2.1 = 0
   ·rw [show yF (xT D2).1 (xT D2).2.1 (xT D2).2.2 = edsE (xT D2) from rfl, hz]
    exact hK1 h3 ⟨ow3, _, 0, ⟨hz, rfl, rfl⟩, J3, T⟩
   ·refine hK0 h3 _ hz ⟨_, rfl, zB (fun _ => ?_) (fun g => absurd (bne_eq_false_iff_eq.1 g) hz)⟩
    have := h0 0 h3 ow3 (fun h => absurd h hz)
    unfold zDY at this
    rw [if_pos hz] at this
    exact this hz J3.dk (toD T)
  | 1, hf =>
   cases hf
   obtain ⟨hz, rfl, rfl⟩ := hst
   show AC Tryz.prog 103 [.ptr (some ⟨h9.length, 0⟩)] h2 K
   refine k103 J2 V hd (Nat.le_trans vL hpl) fun b h3 ow3 hfr J3 S3 => ?_
   have T := S2.trans S3 J14.jl
   have hop : zDY D b = layP JE (yJ D (zN (zS (edsE (xT D))))).2.2 b 0 (edsE (xT D)) := by
    unfold zDY
    rw [if_neg (by omega)]
   by_cases hy : (layP JE (yJ D (zN (zS (edsE (xT D))))).2.2 b 0 (edsE (xT D))).1 = 0
   ·rw [show yF (xT D).1 (xT D).2.1 (xT D).2.2 = edsE (xT D) from rfl, hy]
    exact hK1 h3 ⟨ow3, _, _, ⟨b, fun _ => hfr, by rw [hop]; exact Prod.ext hy (Prod.ext rfl rfl)⟩, J3, T⟩
   ·refine hK0 h3 _ hy ⟨_, rfl, zB (fun _ => ?_) (fun g => absurd (bne_eq_false_iff_eq.1 g) hy)⟩
    have := h0 b h3 ow3 (fun _ => hfr)
    rw [hop] at this
    exact this hy J3.dk (toD T)
  | i + 2, hf => simp at hf
 ·rintro h2 ⟨ow2, D2, pg, ⟨b, hfr, hb⟩, J2, S2⟩
  refine ⟨0, rfl, zB (fun g => by cases g) (fun _ => ?_)⟩
  have := h1 b h9.length sp SD h2 ow2 hfr
  rw [hb] at this
  exact this rfl J2 (toD S2) hlh (fun b hb => by have := hsd b hb; omega) V)
theorem k28n (hQ : Q (.tup [.ptr none, .int .i64 6]) h) : AC Tryz.prog 28 [.ptr none] h Q := ac28 (by
 unfold vc28
 exact zB (fun _ => hQ) (fun g => by cases g))
end
section
variable {h h' : Heap} {ow ow' ow2 : zO} {jp dp sp : Nat} {SD : Nat -> Prop} {D D' : DS} {has : Bool} {done : List ED} {mark : ED} {pages : Nat} {brk : Bool} {Q : AHp}
variable (J : JH h ow jp dp sp SD D has done mark pages brk)
include J
theorem k35 (V : Vld has done mark) (hd : done.length <= 100) (hQ : ∀ p SD' h', Ext h h' -> (∀ b, SD' b -> h.length <= b) -> St2 h' SD' p has done mark -> Q (.ptr (some ⟨p, 0⟩)) h') : AC Tryz.prog 35 [.ptr (some ⟨jp, 0⟩)] h Q := ac35 (by
 unfold vc35
 exact zB (fun g => by cases g) (fun _ => ⟨_, J.at (k := 1) rfl, k109 J.st.view V hd fun p SD' h' x hs S => ⟨_, rfl, hQ p SD' h' x hs S⟩⟩))
theorem JH.newSt {sp' : Nat} {SD' : Nat -> Prop} {has' : Bool} {done' : List ED} {mark' : ED} (S : St2 h SD' sp' has' done' mark') (hs : ∀ b, SD' b -> ow b = none /\ b ≠ jp) :
  JH (h.set jp (.cells [.ptr (some ⟨dp, 0⟩), .ptr (some ⟨sp', 0⟩), .int .i64 (pages : Nat), .bool brk] true)) ow jp dp sp' SD' D has' done' mark' pages brk /\ yL ow jp h ow (h.set jp (.cells [.ptr (some ⟨dp, 0⟩), .ptr (some ⟨sp', 0⟩), .int .i64 (pages : Nat), .bool brk] true)) := by
 have K : zM (fun b => b = jp) h (h.set jp (.cells [.ptr (some ⟨dp, 0⟩), .ptr (some ⟨sp', 0⟩), .int .i64 (pages : Nat), .bool brk] true)) := zT rfl
 have hj2 := J.j2
 refine ⟨⟨J.lay.keeps K (by omega) (by omega), J.o0, J.o1, by rw [List.getElem?_set_self J.jl], J.dk.ext (yM K fun b hb => by rw [hb]; exact J.jo) (by simp), S.keeps K (fun b hb e => (hs b hb).2 e) (by simp), J.jo, fun b hb => (hs b hb).1, fun hb => (hs _ hb).2 rfl, J.j2⟩, ?_⟩
 exact ⟨yM K fun b hb => .inr hb, by simp, fun b h => .inl h⟩
theorem k33 {e : EV} {d : ED} (hR : EdR h e d) (hre : ∀ s, e.2.2.2 = some s -> ow s.b = none /\ s.b ≠ jp) (hb : brk = false) (V : Vld has done mark) (hd : done.length <= 99) (hpl : D.pends.length <= 50000) (hpg : pages <= 1000000)
  (h0 : (chk d && goes has done mark d) = false -> ∀ h', JH h' ow jp dp sp SD D has done mark pages false -> yL ow jp h ow h' -> Q (.int .i64 (resV has done mark d)) h')
  (h1 : (chk d && goes has done mark d) = true -> (addP D nJ (row (1 + pages) (encD d))).1 ≠ 0 -> ∀ h' ow', JH h' ow' jp dp sp SD (addP D nJ (row (1 + pages) (encD d))).2.1 has done mark (pages + (addP D nJ (row (1 + pages) (encD d))).2.2) true -> yL ow jp h ow' h' -> Q (.int .i64 (addP D nJ (row (1 + pages) (encD d))).1) h')
  (h2 : (chk d && goes has done mark d) = true -> (addP D nJ (row (1 + pages) (encD d))).1 = 0 -> ((addP D nJ (row (1 + pages) (encD d))).2.1.sync nJ).1 ≠ 0 -> ∀ h' ow', JH h' ow' jp dp sp SD ((addP D nJ (row (1 + pages) (encD d))).2.1.sync nJ).2 has done mark (pages + (addP D nJ (row (1 + pages) (encD d))).2.2) true -> yL ow jp h ow' h' -> Q (.int .i64 ((addP D nJ (row (1 + pages) (encD d))).2.1.sync nJ).1) h')
  (h3 : (chk d && goes has done mark d) = true -> (addP D nJ (row (1 + pages) (encD d))).1 = 0 -> ((addP D nJ (row (1 + pages) (encD d))).2.1.sync nJ).1 = 0 -> ∀ sp' SD' h' ow', (∀ b, SD' b -> h.length <= b) -> JH h' ow' jp dp sp' SD' ((addP D nJ (row (1 + pages) (encD d))).2.1.sync nJ).2 (nHas d) (xV done d) (kQ d) (pages + (addP D nJ (row (1 + pages) (encD d))).2.2) false -> yL ow jp h ow' h' -> Q (.int .i64 0) h') :
  AC Tryz.prog 33 [.ptr (some ⟨jp, 0⟩), evV e] h Q := ac33 (by
 unfold vc33
 simp only [PNew]
 have l7 : (h ++ [Blk.cells [.ptr (some ⟨jp, 0⟩)] true]).length = h.length + 1 := by simp
 rw [l7]
 have x9 : Ext h ((h ++ [Blk.cells [.ptr (some ⟨jp, 0⟩)] true]) ++ [Blk.cells [.int .i64 e.1, .int .i64 e.2.1, .int .i64 e.2.2.1, .sl e.2.2.2] true]) := (Ext.app _ _).trans (.app _ _)
 have a6 : ((h ++ [Blk.cells [.ptr (some ⟨jp, 0⟩)] true]) ++ [Blk.cells [.int .i64 e.1, .int .i64 e.2.1, .int .i64 e.2.2.1, .sl e.2.2.2] true])[h.length]? = some (.cells [.ptr (some ⟨jp, 0⟩)] true) := by
  rw [List.getElem?_append_left (by simp)]; simp
 have a8 : ((h ++ [Blk.cells [.ptr (some ⟨jp, 0⟩)] true]) ++ [Blk.cells [.int .i64 e.1, .int .i64 e.2.1, .int .i64 e.2.2.1, .sl e.2.2.2] true])[h.length + 1]? = some (.cells [.int .i64 e.1, .int .i64 e.2.1, .int .i64 e.2.2.1, .sl e.2.2.2] true) := by
  rw [<- l7]; simp
 have J9 := J.ext x9
 generalize ((h ++ [Blk.cells [.ptr (some ⟨jp, 0⟩)] true]) ++ [Blk.cells [.int .i64 e.1, .int .i64 e.2.1, .int .i64 e.2.2.1, .sl e.2.2.2] true]) = h9 at *
 have box : ∀ {h2 : Heap}, h2[h.length]? = some (.cells [.ptr (some ⟨jp, 0⟩)] true) -> zA h2 ⟨h.length, 0⟩ 1 = some [.ptr (some ⟨jp, 0⟩)] := fun hb => by simp [zA, hb]
 have edc : ∀ {h2 : Heap}, h2[h.length + 1]? = some (.cells [.int .i64 e.1, .int .i64 e.2.1, .int .i64 e.2.2.1, .sl e.2.2.2] true) -> zA h2 ⟨h.length + 1, 0⟩ 4 = some [.int .i64 e.1, .int .i64 e.2.1, .int .i64 e.2.2.1, .sl e.2.2.2] := fun hb => by simp [zA, hb]
 refine ⟨some ⟨jp, 0⟩, box a6, k48 J9 ⟨_, rfl, ?_⟩⟩
 rw [hb]
 refine zB (fun g => by cases g) (fun _ => ?_)
 refine ⟨some ⟨jp, 0⟩, box a6, ⟨_, J9.at (k := 1) rfl, ?_⟩⟩
 refine k109 J9.st.view V (by omega) fun p19 SD1 h18 x18 hs1 S18 => ⟨some ⟨p19, 0⟩, rfl, ?_⟩
 refine ⟨_, _, _, _, edc (x18 _ _ a8), ?_⟩
 have hjl := J.jl
 have l9 := x9.len
 have l18 := x18.len
 have J18 := J9.ext x18
 have x918 : Ext h h18 := x9.trans x18
 have R18 : EdR h18 e d := ⟨hR.1, hR.2.1, hR.2.2.1, hR.2.2.2.mono x918⟩
 have rl := HasL.live hR.2.2.2
 have a8l := zD a8
 refine v32 S18 (e := e) R18 (fun t ht hb1 => by have := hs1 _ hb1; have := rl t ht; omega) (by omega) (fun hno => ⟨_, rfl, zB (fun _ => h0 hno h18 (by rw [hb] at J18; exact J18) (.ext x918)) (fun g => ?_)⟩) fun h25 SD2 hyes S25 hs2 K25 l25 => ⟨_, rfl, zB (fun g => by cases g) (fun _ => ?_)⟩
 ·exfalso
  have g2 : resV has done mark d = 0 := bne_eq_false_iff_eq.1 g
  unfold resV at g2
  cases hc : chk d with
  | false => rw [hc] at g2; simp at g2
  | true =>
   rw [hc, Bool.true_and] at hno
   rw [hc, hno] at g2; simp at g2
 have x25 : Ext h9 h25 := fun b B hB => by
  have hlt := zD hB
  exact K25 _ _ (fun hx => by have := hs1 b hx; omega) (x18 _ _ hB)
 have hs2' : ∀ b, SD2 b -> h9.length <= b := fun b hb1 => by
  rcases hs2 b hb1 with h1 | h1
  ·exact hs1 b h1
  ·omega
 have hc : chk d = true := by
  cases hcc : chk d with
  | true => rfl
  | false => rw [hcc] at hyes; cases hyes
 have J25 := J9.ext x25
 generalize hfs : [AV.func (.func 110) [] [.ptr (some ⟨h.length, 0⟩), .ptr (some ⟨h.length + 1, 0⟩)], .func (.func 112) [] [.ptr (some ⟨h.length, 0⟩)]] = fs
 have x28 : Ext h25 (h25 ++ [Blk.cells fs true]) := .app _ _
 have f28 : (h25 ++ [Blk.cells fs true])[h25.length]? = some (.cells fs true) := by simp
 have J28 := J25.ext x28
 have S28 := S25.keeps (X := fun _ => False) (zK x28) (fun _ _ h => h) x28.len
 have xh : Ext h (h25 ++ [Blk.cells fs true]) := (x9.trans x25).trans x28
 have a6' := x28 _ _ (x25 _ _ a6)
 have a8' := x28 _ _ (x25 _ _ a8)
 have R28 : EdR (h25 ++ [Blk.cells fs true]) e d := ⟨hR.1, hR.2.1, hR.2.2.1, hR.2.2.2.mono xh⟩
 have l25' := x25.len
 have l28 := x28.len
 generalize (h25 ++ [Blk.cells fs true]) = h28 at *
 have hsl2 : ∀ b, SD2 b -> b < h28.length := by obtain ⟨_, _, _, _, _, _, _, _, _, _, _, _, _, h11⟩ := S28; exact h11
 have nol : ∀ b, h.length <= b -> ow b = none /\ b ≠ jp := fun b hb => J.nol hb
 have keepb : ∀ {h2 : Heap} {ow2 : zO}, yL ow jp h28 ow2 h2 -> ∀ {b : Nat} {B : Blk}, h.length <= b -> h28[b]? = some B -> h2[b]? = some B := fun S b B hb1 hB =>
  S.keeps _ _ (fun hx => hx.elim (fun h1 => h1 (nol b hb1).1) (nol b hb1).2) hB
 have fin : ∀ {h2 : Heap} {ow2 : zO}, yL ow jp h28 ow2 h2 -> yL ow jp h ow2 h2 := fun S => (yL.ext xh).trans S J.jl
 have hap := zBM (t := nJ) (l := row (1 + pages) (encD d)) (D := D)
 have hrs := vW (pages := pages) hc
 have bad : ∀ {h2 : Heap} {ow2 : zO} {D2 : DS} {pg : Nat} {v : Int} {K : AHp}, JH h2 ow2 jp dp sp SD D2 has done mark pg brk -> yL ow jp h28 ow2 h2 -> v ≠ 0 -> (∀ h', JH h' ow2 jp dp sp SD D2 has done mark pg true -> yL ow jp h ow2 h' -> Q (.int .i64 v) h') ->
   (∃ p32 : OPa, zA h2 ⟨h.length, 0⟩ 1 = some [.ptr p32] /\ vPtr p32 fun p33 => zI h2 ⟨p33.b, p33.o + 3⟩ [.bool true] fun h34 => Q (.int .i64 v) h34) := fun J2 S2 hv hk => by
  refine ⟨_, box (keepb S2 (Nat.le_refl _) a6'), yD J2.jc (o := 3) (by simp) ?_⟩
  obtain ⟨J3, S3⟩ := J2.put (pages' := _) (brk' := true) rfl
  exact hk _ J3 (fin (S2.trans S3 J28.jl))
 refine k101 (fs := fs) (n := 2) (fun i h2 => ∃ (ow2 : zO) (D2 : DS) (pg : Nat), (match i with
   | 0 => D2 = D /\ pg = pages
   | 1 => (addP D nJ (row (1 + pages) (encD d))).1 = 0 /\ D2 = (addP D nJ (row (1 + pages) (encD d))).2.1 /\ pg = pages + (addP D nJ (row (1 + pages) (encD d))).2.2
   | _ => (addP D nJ (row (1 + pages) (encD d))).1 = 0 /\ ((addP D nJ (row (1 + pages) (encD d))).2.1.sync nJ).1 = 0 /\ D2 = ((addP D nJ (row (1 + pages) (encD d))).2.1.sync nJ).2 /\ pg = pages + (addP D nJ (row (1 + pages) (encD d))).2.2) /\ JH h2 ow2 jp dp sp SD D2 has done mark pg brk /\ yL ow jp h28 ow2 h2) (by rw [<- hfs]; rfl) (by omega)
  (fun i h2 ⟨ow2, D2, pg, _, _, S⟩ => keepb S (by omega) f28) ?_ ⟨ow, D, pages, ⟨rfl, rfl⟩, J28, .refl _ _ _⟩ ?_ ?_
 ·rw [<- hfs]; intro f hf
  simp only [List.mem_cons, List.mem_nil_iff, or_false] at hf
  rcases hf with rfl | rfl <;> rfl
 ·rintro i f hh hf ⟨ow2, D2, pg, hst, J2, S2⟩ K hK0 hK1
  rw [<- hfs] at hf
  match i, hf with
  | 0, hf =>
   cases hf
   obtain ⟨rfl, rfl⟩ := hst
   show AC Tryz.prog 110 [.ptr (some ⟨h.length, 0⟩), .ptr (some ⟨h.length + 1, 0⟩)] hh K
   refine ac110 ?_
   unfold vc110
   refine ⟨_, box (keepb S2 (Nat.le_refl _) a6'), _, _, _, _, edc (keepb S2 (by omega) a8'), ?_⟩
   have R2 : EdR hh e d := ⟨hR.1, hR.2.1, hR.2.2.1, S2.hasL R28.2.2.2 hre⟩
   refine k111 J2 (e := e) R2 hc (by omega) (by omega) fun h3' ow3 J3 S3 => ⟨_, rfl, ?_⟩
   have T := S2.trans S3 J28.jl
   by_cases hz : (addP D2 nJ (row (1 + pg) (encD d))).1 = 0
   ·rw [show (addP D2 [106, 111, 117, 114, 110, 97, 108] (row (1 + pg) (encD d))).1 = 0 from hz]
    exact hK1 h3' ⟨ow3, _, _, ⟨hz, rfl, rfl⟩, J3, T⟩
   ·exact hK0 h3' _ hz ⟨_, rfl, zB (fun _ => bad (K := K) J3 T hz fun h' J4 S4 => h1 hyes hz h' ow3 J4 S4) (fun g => absurd (bne_eq_false_iff_eq.1 g) hz)⟩
  | 1, hf =>
   cases hf
   obtain ⟨hz, rfl, rfl⟩ := hst
   show AC Tryz.prog 112 [.ptr (some ⟨h.length, 0⟩)] hh K
   refine ac112 ?_
   unfold vc112
   refine ⟨_, box (keepb S2 (Nat.le_refl _) a6'), ⟨_, J2.at (k := 0) rfl, d97 J2.dk (by omega) fun h3' ow3 R3 S3 => ⟨_, rfl, ?_⟩⟩⟩
   have J3 := J2.step S3 R3
   have T := S2.trans (.disk S3) J28.jl
   by_cases hy : ((addP D nJ (row (1 + pages) (encD d))).2.1.sync nJ).1 = 0
   ·rw [show ((addP D nJ (row (1 + pages) (encD d))).2.1.sync [106, 111, 117, 114, 110, 97, 108]).1 = 0 from hy]
    exact hK1 h3' ⟨ow3, _, _, ⟨hz, hy, rfl, rfl⟩, J3, T⟩
   ·exact hK0 h3' _ hy ⟨_, rfl, zB (fun _ => bad (K := K) J3 T hy fun h' J4 S4 => h2 hyes hz hy h' ow3 J4 S4) (fun g => absurd (bne_eq_false_iff_eq.1 g) hy)⟩
  | i + 2, hf => simp at hf
 ·rintro hh ⟨ow2, D2, pg, ⟨hz, hy, rfl, rfl⟩, J2, S2⟩
  refine ⟨0, rfl, zB (fun g => by cases g) (fun _ => ?_)⟩
  refine ⟨_, box (keepb S2 (Nat.le_refl _) a6'), yD J2.jc (o := 1) (by simp) ?_⟩
  have St := S28.keeps S2.keeps (fun b hb1 => fun hx => hx.elim (fun h1 => h1 (nol b (by have := hs2' b hb1; omega)).1) (nol b (by have := hs2' b hb1; omega)).2) S2.len
  obtain ⟨J3, S3⟩ := J2.newSt St fun b hb1 => ⟨S2.none (hsl2 b hb1) (nol b (by have := hs2' b hb1; omega)).1, (nol b (by have := hs2' b hb1; omega)).2⟩
  rw [hb] at J3 S3
  have := h3 hyes hz hy p19 SD2 _ ow2 (fun b hb1 => by have := hs2' b hb1; omega) J3 (fin (S2.trans S3 J28.jl))
  rw [hb]
  exact this)
end
end Go.Proofs.YtnglhicedhcpbaaGreatDoor
