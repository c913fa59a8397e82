import Derived.Test.YtnglhicedhcpbaaGreatDoorLG10
import Derived.Test.YtnglhicedhcpbaaGreatDoorLG11
import Derived.Test.YtnglhicedhcpbaaGreatDoorLG12
import Derived.Test.YtnglhicedhcpbaaGreatDoorLG19
import Derived.Test.YtnglhicedhcpbaaGreatDoorLG20
import Derived.Test.YtnglhicedhcpbaaGreatDoorLG25
namespace Go.Proofs.YtnglhicedhcpbaaGreatDoor
open Go.Ab
set_option linter.unusedVariables false
set_option linter.unusedSimpArgs false
def refE : Enc (List UInt8 × Int × Int) := ⟨3, fun r => [.str r.1, .int .i64 r.2.1, .int .i64 r.2.2], fun _ => rfl, by omega, fun _ => rfl⟩
abbrev Rf := List UInt8 × Int × Int
abbrev ED := Int × Int × Int × List Rf
abbrev EV := Int × Int × Int × OSl
def edE : Enc EV := ⟨4, fun e => [.int .i64 e.1, .int .i64 e.2.1, .int .i64 e.2.2.1, .sl e.2.2.2], fun _ => rfl, by omega, fun _ => rfl⟩
abbrev evV (e : EV) : AV := .agg [.int .i64 e.1, .int .i64 e.2.1, .int .i64 e.2.2.1, .sl e.2.2.2]
abbrev zK7 : EV := (0, 0, 0, none)
abbrev xQ : ED := (0, 0, 0, [])
def EdR (h : Heap) (e : EV) (d : ED) : Prop := e.1 = d.1 /\ e.2.1 = d.2.1 /\ e.2.2.1 = d.2.2.1 /\ HasL refE h e.2.2.2 d.2.2.2
def kM (r : Rf) : Bool := decide (1 <= r.1.length) && decide (r.1.length <= 24) && decide (1 <= r.2.1) && decide (r.2.1 <= 2305843009213693952) && decide (0 <= r.2.2) && decide (r.2.2 <= 16384)
def atOk (a b : Int) : Bool := decide (0 <= a) && decide (a < 65536) && decide (0 <= b) && decide (b < 65536)
def chk (d : ED) : Bool := (d.1 == 1 || (d.1 == 2 && d.2.2.1 == 0)) && atOk d.2.1 d.2.2.1 && decide (d.2.2.2.length <= 256) && d.2.2.2.all kM
theorem zCB {α : Type} {p : α -> Bool} {l : List α} {i : Nat} {x : α} (hx : l[i]? = some x) (h : (l.take i).all p = true) (hp : p x = true) : (l.take (i + 1)).all p = true := by
 rw [List.take_add_one, hx, List.all_append, h]
 simp [hp]
section
variable {h : Heap} {Q : AHp}
theorem t186 {a b : Int} (hQ : ∀ n : Int, (n = 0 ↔ atOk a b = true) -> Q (.int .i64 n) h) : AC Tryz.prog 186 [.agg [.int .i64 a, .int .i64 b]] h Q := ac186 (by
 unfold vc186
 refine zB (fun h1 => hQ _ ?_) fun h1 => zB (fun h2 => hQ _ ?_) fun h2 => zB (fun h3 => hQ _ ?_) fun h3 => zB (fun h4 => hQ _ ?_) fun h4 => hQ _ ?_
 all_goals simp [atOk] at *
 all_goals omega)
theorem t185 {r : Rf} (hQ : Q (.bool (kM r)) h) : AC Tryz.prog 185 [.agg [.str r.1, .int .i64 r.2.1, .int .i64 r.2.2]] h Q := ac185 (by
 unfold vc185
 have key : ∀ b : Bool, b = kM r -> Q (.bool b) h := fun b hb => hb ▸ hQ
 refine zB (fun h1 => zB (fun h2 => zB (fun h3 => zB (fun h4 => zB (fun h5 => key _ ?_) fun h5 => key _ ?_) fun h4 => key _ ?_) fun h3 => key _ ?_) fun h2 => key _ ?_) fun h1 => key _ ?_
 all_goals simp only [decide_eq_true_eq, decide_eq_false_iff_not] at *
 all_goals unfold kM
 ·have e1 : decide (1 <= r.1.length) = true := by simp; omega
  have e2 : decide (r.1.length <= 24) = true := by simp; omega
  have e3 : decide (1 <= r.2.1) = true := by simp; omega
  have e4 : decide (r.2.1 <= 2305843009213693952) = true := by simp; omega
  have e5 : decide (0 <= r.2.2) = true := by simp; omega
  rw [e1, e2, e3, e4, e5]; simp
 all_goals
  symm
  simp only [Bool.and_eq_false_iff, decide_eq_false_iff_not]
  omega)
theorem t184 {r : Rf} (hQ : Q (.bool (!kM r)) h) : AC Tryz.prog 184 [.agg [.str r.1, .int .i64 r.2.1, .int .i64 r.2.2]] h Q := ac184 (by
 unfold vc184
 exact t185 ⟨_, rfl, hQ⟩)
theorem t244 {q : OSl} {l : List Rf} (hL : HasL refE h q l) (hl : l.length <= 256) (hQ : ∀ n : Int, (0 <= n ↔ l.all kM = false) -> Q (.int .i64 n) h) : AC Tryz.prog 244 [.sl q, .func (.func 184) [] []] h Q := ac244 (by
 unfold vc244
 have hlen := hL.len
 refine ⟨fun xs h9 => h9 = h /\ ∃ i : Nat, xs = [.int .i64 i] /\ i <= l.length /\ (l.take i).all kM = true, fun xs _ => match xs with | [.int _ i] => (l.length - i).toNat | _ => 0, ⟨rfl, 0, rfl, by omega, by simp⟩, ?_⟩
 rintro i h9 ⟨rfl, i', hx, h0, hall⟩
 simp only [List.cons.injEq, AV.int.injEq, true_and, and_true] at hx
 subst hx
 refine zB (fun h1 => ?_) (fun h1 => hQ _ ?_)
 ·simp only [decide_eq_true_eq] at h1
  refine hL.idx (by omega) (by omega) fun p x hx hc => ?_
  refine ⟨x.1, x.2.1, x.2.2, hc, t184 ⟨_, rfl, ?_⟩⟩
  have hx' : l[i']? = some x := by simpa using hx
  refine zB (fun h2 => hQ _ ?_) (fun h2 => ?_)
  ·refine ⟨fun _ => ?_, fun _ => by omega⟩
   have : x ∈ l := List.mem_of_getElem? hx'
   rw [List.all_eq_false]
   exact ⟨x, this, by simpa using h2⟩
  ·rw [zF ⟨by omega, by omega⟩]
   refine ⟨trivial, ⟨rfl, i' + 1, by simp, by omega, zCB hx' hall (by simpa using h2)⟩, ?_⟩
   simp only; omega
 ·simp only [decide_eq_false_iff_not] at h1
  have : i' = l.length := by omega
  subst this
  rw [List.take_length] at hall
  simp [hall])
theorem t187 {q : OSl} {l : List Rf} (hL : HasL refE h q l) (hl : l.length <= 256) (hQ : Q (.bool (!l.all kM)) h) : AC Tryz.prog 187 [.sl q, .func (.func 184) [] []] h Q := ac187 (by
 unfold vc187
 refine t244 hL hl fun n hn => ⟨n, rfl, ?_⟩
 have : decide (n ≥ 0) = !l.all kM := by
  cases ha : l.all kM with
  | false =>
   have : 0 <= n := hn.2 ha
   simpa using this
  | true =>
   have : ¬ 0 <= n := fun h => by have := hn.1 h; rw [ha] at this; cases this
   simpa using this
 rw [this]; exact hQ)
end
end Go.Proofs.YtnglhicedhcpbaaGreatDoor
namespace Go.Ab
open Go.Proofs.YtnglhicedhcpbaaGreatDoor
theorem zM.edR {X : Nat -> Prop} {h h' : Heap} (K : zM X h h') {e : EV} {d : ED} (hq : ∀ s, e.2.2.2 = some s -> ¬ X s.b) (H : EdR h e d) : EdR h' e d := ⟨H.1, H.2.1, H.2.2.1, K.hasL hq H.2.2.2⟩
end Go.Ab
namespace Go.Proofs.YtnglhicedhcpbaaGreatDoor
open Go.Ab
set_option linter.unusedVariables false
set_option linter.unusedSimpArgs false
def Grow {α : Type} (E : Enc α) (h : Heap) (q : OSl) (l : List α) : Prop := Acc E [] h q l
theorem Grow.start {α : Type} {E : Enc α} (h : Heap) : Grow E h none ([] : List α) := ⟨fun b B hb => by simp at hb, rfl⟩
theorem Grow.keeps {α : Type} {E : Enc α} {h h' : Heap} {q : OSl} {l : List α} {X : Nat -> Prop} (G : Grow E h q l) (K : zM X h h') (hq : ∀ s, q = some s -> ¬ X s.b) : Grow E h' q l := by
 refine ⟨fun b B hb => by simp at hb, ?_⟩
 have := G.2
 cases q with
 | none => exact this
 | some s => obtain ⟨b0, b1, b2, b3, b4, b5⟩ := this; exact ⟨b0, b1, b2, b3, b4, K _ _ (hq s rfl) b5⟩
theorem Grow.append {α : Type} {E : Enc α} {h : Heap} {q src : OSl} {l m : List α} {by' : Nat} {K : OSl -> Heap -> Prop} (A : Grow E h q l) (H : HasL E h src m) (hb : (l.length + m.length) * by' <= 140737488355328)
  (hK : ∀ q' h', Grow E h' q' (l ++ m) -> zM (fun b => ∃ s, q = some s /\ s.b = b) h h' -> h.length <= h'.length -> (∀ s', q' = some s' -> h.length <= s'.b ∨ ∃ s, q = some s /\ s.b = s'.b) -> K q' h') : zC E.sz by' q src h K := by
 refine ⟨E.all m, H.cells, by rw [Enc.all_length, H.len], ?_⟩
 rw [H.len]
 have hnil : ∀ h' : Heap, Ext [] h' := fun h' b B hb => by simp at hb
 obtain ⟨hx, A⟩ := A
 cases q with
 | none =>
  simp only at A
  subst A
  simp only
  split
  ·rename_i hm
   have : m = [] := List.eq_nil_of_length_eq_zero hm
   subst this
   exact hK _ _ ⟨hx, rfl⟩ (.refl _ _) (Nat.le_refl _) (fun s' h => by cases h)
  ·refine ⟨by simpa using hb, E.pos, hK _ _ ⟨hnil _, ?_⟩ (zK (Ext.app _ _)) (by simp) (fun s' h => by cases h; exact .inl (Nat.le_refl _))⟩
   exact ⟨Nat.zero_le _, rfl, by simp, by simp, rfl, by simp⟩
 | some s =>
  simp only at A ⊢
  obtain ⟨b0, b1, b2, b3, b4, b5⟩ := A
  have hset : ∀ B : Blk, zM (fun b => ∃ s', some s = some s' /\ s'.b = b) h (h.set s.b B) := by
   intro B b C hb hC
   rw [List.getElem?_set, if_neg]
   ·exact hC
   ·intro he; exact hb ⟨s, rfl, he⟩
  split
  ·rename_i hle
   have hm : m.length = 0 := by omega
   have : m = [] := List.eq_nil_of_length_eq_zero hm
   subst this
   rw [b5]
   simp only
   have e0 : E.all ([] : List α) = [] := rfl
   refine ⟨by simp [b1, b2, Enc.all_length, e0], hK _ _ ⟨hnil _, ?_⟩ (hset _) (by simp) (fun s' h => by cases h; exact .inr ⟨s, rfl, rfl⟩)⟩
   refine ⟨b0, b1, by simp [b2], by simp [b3], b4, ?_⟩
   have hlt := zD b5
   rw [List.getElem?_set_self hlt]
   simp [Enc.all, splice, List.take_append_drop]
  ·have hold : zA h ⟨s.b, s.o⟩ (s.len * E.sz) = some (E.all l) := by
    rw [zQ (p := ⟨s.b, s.o⟩) b5 (by simp [b1, b2, Enc.all_length])]
    simp [b1, b2, <- Enc.all_length]
   refine ⟨by rw [b2]; exact hb, E.pos, ?_⟩
   rw [hold, b5]
   simp only
   have h0' : ¬ s.opn = 0 := by rw [b4]; have := E.pos; omega
   rw [if_neg h0']
   refine ⟨trivial, b4, hK _ _ ⟨hnil _, ?_⟩ ((hset _).trans (zK (Ext.app _ _))) (by simp) (fun s' h => by cases h; exact .inl (Nat.le_refl _))⟩
   refine ⟨Nat.zero_le _, rfl, by simp [b2], by simp [b2], rfl, ?_⟩
   rw [List.getElem?_append_right (by simp)]
   simp [Enc.all_append]
section
variable {h : Heap} {Q : AHp}
theorem t183 {q : OSl} {l : List Rf} (hL : HasL refE h q l) (hl : l.length <= 256) (hQ : ∀ q' h', Ext h h' -> HasL refE h' q' l -> (∀ s, q' = some s -> h.length <= s.b) -> Q (.sl q') h') : AC Tryz.prog 183 [.sl q] h Q := ac183 (by
 unfold vc183
 refine zB (fun h1 => ?_) (fun h1 => ?_)
 ·cases q with
  | none => exact hQ _ _ (.refl _) hL (fun s hs => by cases hs)
  | some s => simp at h1
 ·unfold PNew
  have hL' := hL.mono (Ext.app h [.cells [] true])
  refine ⟨refE.all l, hL'.cells, by rw [Enc.all_length, hL.len]; rfl, ?_⟩
  rw [hL.len]
  simp only
  split
  ·rename_i h0
   have hl0 : l = [] := List.eq_nil_of_length_eq_zero (by omega)
   subst hl0
   simp only [List.getElem?_append_right (Nat.le_refl _), Nat.sub_self, List.getElem?_cons_zero]
   refine ⟨by simp [Enc.all], hQ _ _ ?_ ?_ (fun s hs => by cases hs; exact Nat.le_refl _)⟩
   ·exact (Ext.app _ _).set (Nat.le_refl _)
   ·refine ⟨by simp, by simp, .inl rfl, ?_⟩
    simp [zA, Enc.all]
  ·refine ⟨by omega, by omega, ?_⟩
   have hc : zA (h ++ [.cells [] true]) ⟨h.length, 0⟩ (0 * 3) = some [] := by simp [zA]
   rw [hc]
   simp only [List.getElem?_append_right (Nat.le_refl _), Nat.sub_self, List.getElem?_cons_zero, if_true, List.nil_append]
   refine hQ _ _ ((Ext.app _ _).trans (Ext.app _ _)) ?_ (fun s hs => by cases hs; simp)
   refine ⟨by simp, by simp, .inr rfl, ?_⟩
   rw [zQ (C := refE.all l) (rw' := true) (by simp) (by simp [Enc.all_length])]
   simp [<- Enc.all_length])
theorem t105 {e : EV} {d : ED} (hR : EdR h e d) (hl : d.2.2.2.length <= 256) (hQ : ∀ (e' : EV) h', Ext h h' -> EdR h' e' d -> (∀ s, e'.2.2.2 = some s -> h.length <= s.b) -> e'.1 = e.1 -> e'.2.1 = e.2.1 -> e'.2.2.1 = e.2.2.1 -> Q (evV e') h') : AC Tryz.prog 105 [evV e] h Q := ac105 (by
 unfold vc105
 refine t183 hR.2.2.2 hl fun q' h' hx hL hs => ⟨q', rfl, hQ (e.1, e.2.1, e.2.2.1, q') h' hx ⟨hR.1, hR.2.1, hR.2.2.1, hL⟩ hs rfl rfl rfl⟩)
end
def Cold (n : Nat) (q : OSl) (e : EV) : Prop := ∀ s, e.2.2.2 = some s -> n <= s.b /\ ∀ s', q = some s' -> s.b ≠ s'.b
def EdL (h : Heap) (n : Nat) (q : OSl) (l : List ED) : Prop :=
 ∃ L : List EV, Grow edE h q L /\ L.length = l.length /\ (∀ (j : Nat) (e : EV) (d : ED), L[j]? = some e -> l[j]? = some d -> EdR h e d /\ Cold n q e) /\ ∀ s, q = some s -> n <= s.b
theorem EdL.nil {h : Heap} {n : Nat} : EdL h n none [] := ⟨[], .start h, rfl, by simp, by simp⟩
theorem EdL.keeps {h h' : Heap} {n : Nat} {q : OSl} {l : List ED} {X : Nat -> Prop} (E : EdL h n q l) (K : zM X h h') (hX : ∀ b, n <= b -> ¬ X b) : EdL h' n q l := by
 obtain ⟨L, g, hl, he, hq⟩ := E
 refine ⟨L, g.keeps K (fun s hs => hX _ (hq s hs)), hl, fun j e d h1 h2 => ?_, hq⟩
 obtain ⟨r, c⟩ := he j e d h1 h2
 exact ⟨K.edR (fun s hs => hX _ (c s hs).1) r, c⟩
theorem EdL.ext {h h' : Heap} {n : Nat} {q : OSl} {l : List ED} (E : EdL h n q l) (K : Ext h h') : EdL h' n q l := E.keeps (X := fun _ => False) (zK K) (fun _ _ h => h)
theorem EdL.live {h : Heap} {n : Nat} {q : OSl} {l : List ED} (E : EdL h n q l) : ∀ s, q = some s -> s.b < h.length := by
 obtain ⟨L, g, _⟩ := E
 exact HasL.live (Acc.hasL g)
theorem EdL.push {h : Heap} {n : Nat} {q : OSl} {l : List ED} {e : EV} {d : ED} {K : OSl -> Heap -> Prop} (E : EdL h n q l) (hn : n <= h.length) (hR : EdR h e d) (hc : Cold n q e) (hl : l.length <= 1000)
  (hK : ∀ q' h', EdL h' n q' (l ++ [d]) -> zM (fun b => n <= b) h h' -> h.length <= h'.length -> K q' h') : PNew [.int .i64 e.1, .int .i64 e.2.1, .int .i64 e.2.2.1, .sl e.2.2.2] true h fun a h1 => zC 4 48 q (some ⟨a, 0, 1, 1, 0⟩) h1 K := by
 obtain ⟨L, g, hL, he, hq⟩ := E
 unfold PNew
 have hx : Ext h (h ++ [.cells [.int .i64 e.1, .int .i64 e.2.1, .int .i64 e.2.2.1, .sl e.2.2.2] true]) := .app _ _
 have hsrc : HasL edE (h ++ [.cells [.int .i64 e.1, .int .i64 e.2.1, .int .i64 e.2.2.1, .sl e.2.2.2] true]) (some ⟨h.length, 0, 1, 1, 0⟩) [e] := HasL.new (E := edE) (l := [e]) rfl (by simp [Enc.all, edE])
 have g1 : Grow edE (h ++ [.cells [.int .i64 e.1, .int .i64 e.2.1, .int .i64 e.2.2.1, .sl e.2.2.2] true]) q L := Acc.mono g hx
 have hlive := HasL.live (Acc.hasL g)
 refine Grow.append (E := edE) g1 hsrc (by simp; omega) fun q' h' G K1 hlen hq' => hK q' h' ?_ ?_ ?_
 ·have K2 : zM (fun b => ∃ s, q = some s /\ s.b = b) h h' := (zK hx).trans K1
  have hnew : ∀ s, q' = some s -> ∀ b, b < h.length -> (∀ s', q = some s' -> b ≠ s'.b) -> b ≠ s.b := by
   intro s hs b hb hne heq
   rcases hq' s hs with h1 | ⟨s1, h1, h2⟩
   ·simp at h1; omega
   ·exact hne s1 h1 (heq.trans h2.symm)
  refine ⟨L ++ [e], G, by simp [hL], ?_, ?_⟩
  ·intro j x y h1 h2
   rw [List.getElem?_append] at h1 h2
   have fin : EdR h x y -> Cold n q x -> EdR h' x y /\ Cold n q' x := by
    intro r c
    refine ⟨K2.edR (fun s hs ⟨s', g1, g2⟩ => (c s hs).2 s' g1 g2.symm) r, fun s hs => ⟨(c s hs).1, fun s' hs' => ?_⟩⟩
    exact hnew s' hs' s.b (HasL.live r.2.2.2 s hs) (c s hs).2
   split at h1
   ·rename_i hj
    rw [if_pos (by omega)] at h2
    obtain ⟨r, c⟩ := he j x y h1 h2
    exact fin r c
   ·rename_i hj
    rw [if_neg (by omega)] at h2
    have h3 : j - L.length = 0 := by have := zD h1; simp at this; omega
    have h4 : j - l.length = 0 := by omega
    rw [h3] at h1
    rw [h4] at h2
    simp at h1 h2
    subst h1 h2
    exact fin hR hc
  ·intro s hs
   rcases hq' s hs with h1 | ⟨s1, h1, h2⟩
   ·simp at h1; omega
   ·rw [<- h2]; exact hq s1 h1
 ·refine (zK hx).trans fun b B hb hB => K1 b B (fun ⟨s, h1, h2⟩ => hb ?_) hB
  rw [<- h2]; exact hq s h1
 ·simp at hlen; omega
section
variable {h : Heap} {Q : AHp} {p n : Nat} {has : Bool} {done : List ED} {mark : ED}
theorem t30 (hQ : Q (.ptr (some ⟨h.length, 0⟩)) (h ++ [.cells [.sl none, .int .i64 0, .int .i64 0, .int .i64 0, .sl none, .bool false] true])) : AC Tryz.prog 30 [] h Q := ac30 (by
 unfold vc30 PNew; exact hQ)
def yF (has : Bool) (done : List ED) (mark : ED) : List ED := done ++ (if has then [mark] else [])
end
def goes (has : Bool) (done : List ED) (mark : ED) (d : ED) : Bool := d.2.1 == (done.length : Int) && (d.1 == 2 || !has || decide (d.2.2.1 > mark.2.2.1))
def nHas (d : ED) : Bool := !(d.1 == 2)
def xV (done : List ED) (d : ED) : List ED := if d.1 == 2 then done ++ [d] else done
def kQ (d : ED) : ED := if d.1 == 2 then xQ else d
def InL (h : Heap) (q : OSl) (l : List ED) : Prop :=
 ∃ L : List EV, HasL edE h q L /\ L.length = l.length /\ ∀ (j : Nat) (e : EV) (d : ED), L[j]? = some e -> l[j]? = some d -> EdR h e d
theorem InL.keeps {h h' : Heap} {q : OSl} {l : List ED} {X : Nat -> Prop} (E : InL h q l) (K : zM X h h') (hX : ∀ b, b < h.length -> ¬ X b) : InL h' q l := by
 obtain ⟨L, g, hl, he⟩ := E
 refine ⟨L, K.hasL (fun s hs => hX _ (HasL.live g s hs)) g, hl, fun j e d h1 h2 => ?_⟩
 have r := he j e d h1 h2
 exact K.edR (fun s hs => hX _ (HasL.live r.2.2.2 s hs)) r
def Vld (has : Bool) (done : List ED) (mark : ED) : Prop :=
 (∀ (i : Nat) (d : ED), done[i]? = some d -> chk d = true /\ (d.1 == 2) = true /\ d.2.1 = i) /\ (has = true -> chk mark = true /\ (mark.1 == 2) = false /\ mark.2.1 = done.length) /\ (has = false -> mark = xQ)
theorem Vld.step {has : Bool} {done : List ED} {mark d : ED} (V : Vld has done mark) (h : (chk d && goes has done mark d) = true) : Vld (nHas d) (xV done d) (kQ d) := by
 rw [Bool.and_eq_true] at h
 obtain ⟨hc, hg⟩ := h
 simp only [goes, Bool.and_eq_true] at hg
 have h1 : d.2.1 = done.length := by simpa using hg.1
 unfold nHas xV kQ
 cases hk : (d.1 == 2) with
 | true =>
  simp only [Bool.not_true, if_true]
  refine ⟨fun i x hx => ?_, (fun h => by cases h), (fun _ => rfl)⟩
  rw [List.getElem?_append] at hx
  split at hx
  ·exact V.1 i x hx
  ·rename_i hi
   have : i - done.length = 0 := by have := zD hx; simp at this; omega
   rw [this] at hx
   simp at hx
   subst hx
   exact ⟨hc, hk, by rw [h1]; omega⟩
 | false =>
  simp only [Bool.not_false, Bool.false_eq_true, if_false]
  exact ⟨V.1, (fun _ => ⟨hc, hk, h1⟩), (fun h => by cases h)⟩
def StV (h : Heap) (p : Nat) (has : Bool) (done : List ED) (mark : ED) : Prop :=
 ∃ (qd : OSl) (m : EV), h[p]? = some (.cells [.sl qd, .int .i64 m.1, .int .i64 m.2.1, .int .i64 m.2.2.1, .sl m.2.2.2, .bool has] true) /\ InL h qd done /\ EdR h m mark /\ (∀ d ∈ done, d.2.2.2.length <= 256) /\ mark.2.2.2.length <= 256
theorem InL.ext {h h' : Heap} {q : OSl} {l : List ED} (E : InL h q l) (K : Ext h h') : InL h' q l := E.keeps (X := fun _ => False) (zK K) (fun _ _ h => h)
theorem InL.len {h : Heap} {q : OSl} {l : List ED} (E : InL h q l) : zJ q = l.length := by obtain ⟨L, g, k, _⟩ := E; rw [g.len, k]
theorem StV.ext {h h' : Heap} {p : Nat} {has : Bool} {done : List ED} {mark : ED} (S : StV h p has done mark) (K : Ext h h') : StV h' p has done mark := by
 obtain ⟨qd, m, h1, h2, h3, h4, h5⟩ := S
 exact ⟨qd, m, K _ _ h1, h2.ext K, ⟨h3.1, h3.2.1, h3.2.2.1, h3.2.2.2.mono K⟩, h4, h5⟩
section
variable {h : Heap} {Q : AHp} {p : Nat} {has : Bool} {done : List ED} {mark : ED}
theorem v46 (S : StV h p has done mark) (hQ : Q (.int .i64 done.length) h) : AC Tryz.prog 46 [.ptr (some ⟨p, 0⟩)] h Q := ac46 (by
 obtain ⟨qd, m, h1, h2, _⟩ := S
 unfold vc46
 refine ⟨qd, zZ h1 (o := 0) (k := 1) (by simp), ?_⟩
 rw [h2.len]; exact hQ)
theorem v106 (S : StV h p has done mark) (hQ : ∀ (e : EV) h', Ext h h' -> EdR h' e mark -> (∀ s, e.2.2.2 = some s -> h.length <= s.b) -> Q (.tup [evV e, .bool has]) h') : AC Tryz.prog 106 [.ptr (some ⟨p, 0⟩)] h Q := ac106 (by
 obtain ⟨qd, m, h1, h2, h3, h7, h8⟩ := S
 unfold vc106
 refine ⟨m.1, m.2.1, m.2.2.1, m.2.2.2, zZ h1 (o := 1) (k := 4) (by simp), ?_⟩
 refine ⟨has, zZ h1 (o := 5) (k := 1) (by simp), ?_⟩
 refine t105 (e := m) h3 h8 fun e' h' hx hR hs g1 g2 g3 => ?_
 refine ⟨e'.1, e'.2.1, e'.2.2.1, e'.2.2.2, rfl, ⟨has, zZ (hx _ _ h1) (o := 5) (k := 1) (by simp), rfl⟩, ⟨has, zZ (hx _ _ h1) (o := 5) (k := 1) (by simp), rfl⟩, ?_⟩
 exact hQ e' h' hx hR hs)
theorem v31 (S : StV h p has done mark) (hd : done.length <= 100) (hQ : ∀ q h', Ext h h' -> EdL h' h.length q (yF has done mark) -> Q (.sl q) h') : AC Tryz.prog 31 [.ptr (some ⟨p, 0⟩)] h Q := ac31 (by
 unfold vc31
 refine v46 S ⟨_, rfl, ?_⟩
 refine ⟨fun xs h9 => ∃ (q : OSl) (i : Nat), xs = [.sl q, .int .i64 i] /\ i <= done.length /\ Ext h h9 /\ EdL h9 h.length q (done.take i), fun xs _ => match xs with | [_, .int _ i] => (done.length - i).toNat | _ => 0,
  ⟨none, 0, rfl, by omega, .refl _, by simpa using EdL.nil⟩, ?_⟩
 rintro q i h9 ⟨q', i', hx, hi, hext, hE⟩
 simp only [List.cons.injEq, AV.int.injEq, AV.sl.injEq, true_and, and_true] at hx
 obtain ⟨rfl, rfl⟩ := hx
 have S9 := S.ext hext
 refine zB (fun h1 => ?_) (fun h1 => ?_)
 ·simp only [decide_eq_true_eq] at h1
  obtain ⟨qd, m, b1, ⟨L, g, hL, he⟩, b3, b7, b8⟩ := S9
  refine ⟨qd, zZ b1 (o := 0) (k := 1) (by simp), ?_⟩
  refine HasL.idx (E := edE) g (by omega) (by omega) fun pp x hx hc => ?_
  have hx' : L[i']? = some x := by simpa using hx
  have hdl : i' < done.length := by omega
  have hd' : done[i']? = some done[i'] := List.getElem?_eq_getElem hdl
  have hR := he i' x _ hx' hd'
  refine ⟨x.1, x.2.1, x.2.2.1, x.2.2.2, hc, ?_⟩
  refine t105 (e := x) hR (b7 _ (List.getElem_mem _)) fun e' h18 hx2 hR2 hs g1 g2 g3 => ?_
  refine ⟨e'.1, e'.2.1, e'.2.2.1, e'.2.2.2, rfl, ?_⟩
  have hlen9 := hext.len
  refine EdL.push (hE.ext hx2) (by have := hx2.len; omega) hR2 ?_ (by simp; omega) fun q2 h26 hE2 K2 hl2 => ?_
  ·intro s hs'
   have := hs s hs'
   refine ⟨by omega, fun s' hs2 => ?_⟩
   have := hE.live s' hs2
   omega
  ·rw [zF ⟨by omega, by omega⟩]
   refine ⟨trivial, ⟨q2, i' + 1, by simp, by omega, ?_, ?_⟩, ?_⟩
   ·intro b B hB
    have hlt := zD hB
    exact K2 b B (by omega) (hx2 _ _ (hext _ _ hB))
   ·rw [List.take_add_one, hd']; exact hE2
   ·simp only; omega
 ·simp only [decide_eq_false_iff_not] at h1
  have hi' : i' = done.length := by omega
  subst hi'
  rw [List.take_length] at hE
  refine v106 S9 fun e' h28 hx2 hR2 hs => ⟨e'.1, e'.2.1, e'.2.2.1, e'.2.2.2, has, rfl, ?_⟩
  have hlen9 := hext.len
  cases has with
  | true =>
   simp only [vif]
   refine EdL.push (hE.ext hx2) (by have := hx2.len; omega) hR2 ?_ (by omega) fun q2 h26 hE2 K2 hl2 => ?_
   ·intro s hs'
    have := hs s hs'
    refine ⟨by omega, fun s' hs2 => ?_⟩
    have := hE.live s' hs2
    omega
   ·refine hQ q2 h26 ?_ (by simpa [yF] using hE2)
    intro b B hB
    have hlt := zD hB
    exact K2 b B (by omega) (hx2 _ _ (hext _ _ hB))
  | false =>
   simp only [vif]
   exact hQ _ _ (hext.trans hx2) (by simpa [yF] using hE.ext hx2))
end
section
variable {h : Heap} {Q : AHp}
theorem u107 {e : EV} {d : ED} (hR : EdR h e d) (hQ1 : Q (.int .i64 (if chk d then 0 else 140)) h) : AC Tryz.prog 107 [evV e] h Q := ac107 (by
 have hQ : ∀ n : Int, (n = 0 ∨ n = 140) -> (n = 0 ↔ chk d = true) -> Q (.int .i64 n) h := by
  intro n h1 h2
  cases hc : chk d with
  | true => rw [hc] at hQ1; have := h2.2 hc; subst this; exact hQ1
  | false =>
   rw [hc] at hQ1
   have : n = 140 := h1.resolve_left (fun h0 => by have := h2.1 h0; rw [hc] at this; cases this)
   subst this; exact hQ1
 obtain ⟨r1, r2, r3, hL⟩ := hR
 have hlen := hL.len
 unfold vc107
 rw [r1, r2, r3]
 have rest : (d.1 == 1 || (d.1 == 2 && d.2.2.1 == 0)) = true -> ∀ n : Int, (n = 0 ↔ atOk d.2.1 d.2.2.1 = true) -> vif (n != 0) (Q (.int .i64 140) h) (vif (decide ((zJ e.2.2.2 : Int) > 256)) (Q (.int .i64 140) h)
   (AC Tryz.prog 187 [.sl e.2.2.2, .func (.func 184) [] []] h fun v8 h9 => ∃ b10 : Bool, v8 = .bool b10 /\ vif b10 (Q (.int .i64 140) h9) (Q (.int .i64 0) h9))) := by
  intro hk n hn
  refine zB (fun h1 => hQ _ (by simp) ?_) fun h1 => zB (fun h2 => hQ _ (by simp) ?_) fun h2 => ?_
  ·have : atOk d.2.1 d.2.2.1 = false := by
    cases ha : atOk d.2.1 d.2.2.1
    ·rfl
    ·have := hn.2 ha; subst this; simp at h1
   simp [chk, this]
  ·simp only [decide_eq_true_eq] at h2
   have : decide (d.2.2.2.length <= 256) = false := by simp; omega
   simp [chk, this]
  ·simp only [decide_eq_false_iff_not] at h2
   refine t187 hL (by omega) ⟨_, rfl, ?_⟩
   have ha : atOk d.2.1 d.2.2.1 = true := hn.1 (by simpa using h1)
   have hl : decide (d.2.2.2.length <= 256) = true := by simp; omega
   cases hall : d.2.2.2.all kM
   ·exact hQ _ (by simp) (by simp [chk, hall])
   ·exact hQ _ (by simp) (by unfold chk; rw [hk, ha, hl, hall]; simp)
 refine zB (fun h1 => ?_) fun h1 => zB (fun h2 => zB (fun h3 => hQ _ (by simp) ?_) fun h3 => ?_) fun h2 => hQ _ (by simp) ?_
 ·refine t186 fun n hn => ⟨n, rfl, rest ?_ n hn⟩
  rw [h1]; rfl
 ·have e3 : (d.2.2.1 == 0) = false := by simpa using h3
  unfold chk
  rw [h1, e3]; simp
 ·refine t186 fun n hn => ⟨n, rfl, rest ?_ n hn⟩
  have e3 : (d.2.2.1 == 0) = true := by simpa using h3
  rw [h2, e3]; simp
 ·unfold chk
  rw [h1, h2]; simp)
end
def St2 (h : Heap) (D : Nat -> Prop) (p : Nat) (has : Bool) (done : List ED) (mark : ED) : Prop :=
 ∃ (qd : OSl) (m : EV) (L : List EV), h[p]? = some (.cells [.sl qd, .int .i64 m.1, .int .i64 m.2.1, .int .i64 m.2.2.1, .sl m.2.2.2, .bool has] true) /\ D p /\ (∀ s, qd = some s -> D s.b /\ s.b ≠ p) /\ Grow edE h qd L /\ L.length = done.length /\
  (∀ (j : Nat) (e : EV) (d : ED), L[j]? = some e -> done[j]? = some d -> EdR h e d /\ ∀ s, e.2.2.2 = some s -> D s.b /\ s.b ≠ p /\ ∀ s', qd = some s' -> s.b ≠ s'.b) /\
  EdR h m mark /\ (∀ s, m.2.2.2 = some s -> D s.b /\ s.b ≠ p /\ ∀ s', qd = some s' -> s.b ≠ s'.b) /\ (∀ d ∈ done, d.2.2.2.length <= 256) /\ mark.2.2.2.length <= 256 /\ ∀ b, D b -> b < h.length
def RefS (h : Heap) (D : Nat -> Prop) (p : Nat) (has : Bool) (done : List ED) (mark : ED) : Prop :=
 ∃ (qd : OSl) (m : EV) (L : List EV), h[p]? = some (.cells [.sl qd, .int .i64 m.1, .int .i64 m.2.1, .int .i64 m.2.2.1, .sl m.2.2.2, .bool has] true) /\ ¬ D p /\ (∀ s, qd = some s -> ¬ D s.b /\ s.b ≠ p) /\ HasL edE h qd L /\ L.length = done.length /\
  (∀ (j : Nat) (e : EV) (d : ED), L[j]? = some e -> done[j]? = some d -> EdR h e d /\ ∀ s, e.2.2.2 = some s -> ¬ D s.b /\ s.b ≠ p) /\
  EdR h m mark /\ (∀ s, m.2.2.2 = some s -> ¬ D s.b /\ s.b ≠ p) /\ (∀ d ∈ done, d.2.2.2.length <= 256) /\ mark.2.2.2.length <= 256
section
variable {h h' : Heap} {D D' : Nat -> Prop} {p : Nat} {has : Bool} {done : List ED} {mark : ED}
theorem St2.view (S : St2 h D p has done mark) : StV h p has done mark := by
 obtain ⟨qd, m, L, h1, h2, h3, h4, h5, h6, h7, h8, h9, h10, h11⟩ := S
 exact ⟨qd, m, h1, ⟨L, Acc.hasL h4, h5, fun j e d a b => (h6 j e d a b).1⟩, h7, h9, h10⟩
theorem RefS.view (S : RefS h D p has done mark) : StV h p has done mark := by
 obtain ⟨qd, m, L, h1, h2, h3, h4, h5, h6, h7, h8, h9, h10⟩ := S
 exact ⟨qd, m, h1, ⟨L, h4, h5, fun j e d a b => (h6 j e d a b).1⟩, h7, h9, h10⟩
theorem St2.keeps {X : Nat -> Prop} (S : St2 h D p has done mark) (K : zM X h h') (hX : ∀ b, D b -> ¬ X b) (hl : h.length <= h'.length) : St2 h' D p has done mark := by
 obtain ⟨qd, m, L, h1, h2, h3, h4, h5, h6, h7, h8, h9, h10, h11⟩ := S
 refine ⟨qd, m, L, K _ _ (hX _ h2) h1, h2, h3, h4.keeps K (fun s hs => hX _ (h3 s hs).1), h5, fun j e d a b => ?_, K.edR (fun s hs => hX _ (h8 s hs).1) h7, h8, h9, h10, fun b hb => by have := h11 b hb; omega⟩
 obtain ⟨r, c⟩ := h6 j e d a b
 exact ⟨K.edR (fun s hs => hX _ (c s hs).1) r, c⟩
theorem RefS.keeps (S : RefS h D p has done mark) (K : zM D h h') (hD : ∀ b, D' b -> D b ∨ h.length <= b) : RefS h' D' p has done mark := by
 obtain ⟨qd, m, L, h1, h2, h3, h4, h5, h6, h7, h8, h9, h10⟩ := S
 have no : ∀ b, b < h.length -> ¬ D b -> ¬ D' b := fun b hb hn hd => by rcases hD b hd with h | h; exact hn h; omega
 have l4 := HasL.live h4
 refine ⟨qd, m, L, K _ _ h2 h1, no _ (zD h1) h2, fun s hs => ⟨no _ (l4 s hs) (h3 s hs).1, (h3 s hs).2⟩, K.hasL (fun s hs => (h3 s hs).1) h4, h5, fun j e d a b => ?_, K.edR (fun s hs => (h8 s hs).1) h7, fun s hs => ⟨no _ (HasL.live h7.2.2.2 s hs) (h8 s hs).1, (h8 s hs).2⟩, h9, h10⟩
 obtain ⟨r, c⟩ := h6 j e d a b
 exact ⟨K.edR (fun s hs => (c s hs).1) r, fun s hs => ⟨no _ (HasL.live r.2.2.2 s hs) (c s hs).1, (c s hs).2⟩⟩
theorem RefS.ext (S : RefS h D p has done mark) (K : Ext h h') : RefS h' D p has done mark := by
 obtain ⟨qd, m, L, h1, h2, h3, h4, h5, h6, h7, h8, h9, h10⟩ := S
 refine ⟨qd, m, L, K _ _ h1, h2, h3, h4.mono K, h5, fun j e d a b => ?_, ⟨h7.1, h7.2.1, h7.2.2.1, h7.2.2.2.mono K⟩, h8, h9, h10⟩
 obtain ⟨r, c⟩ := h6 j e d a b
 exact ⟨⟨r.1, r.2.1, r.2.2.1, r.2.2.2.mono K⟩, c⟩
variable {Q : AHp}
theorem v108 (S : StV h p has done mark) {e : EV} {d : ED} (hR : EdR h e d) (hQ : Q (.bool (goes has done mark d)) h) : AC Tryz.prog 108 [.ptr (some ⟨p, 0⟩), evV e] h Q := ac108 (by
 obtain ⟨qd, m, h1, h2, h3, h7, h8⟩ := S
 obtain ⟨r1, r2, r3, hL⟩ := hR
 have key : ∀ b : Bool, b = goes has done mark d -> Q (.bool b) h := fun b hb => hb ▸ hQ
 have hlen := h2.len
 unfold vc108
 refine ⟨qd, zZ h1 (o := 0) (k := 1) (by simp), ?_⟩
 rw [r1, r2, r3, hlen]
 refine zB (fun g1 => key _ ?_) fun g1 => zB (fun g2 => key _ ?_) fun g2 => ?_
 ·have : (d.2.1 == (done.length : Int)) = false := by simpa using g1
  simp [goes, this]
 ·have : (d.2.1 == (done.length : Int)) = true := by simpa using g1
  simp [goes, this, g2]
 ·have e1 : (d.2.1 == (done.length : Int)) = true := by simpa using g1
  refine ⟨has, zZ h1 (o := 5) (k := 1) (by simp), ?_⟩
  refine zB (fun g3 => key _ ?_) fun g3 => ?_
  ·simp [goes, e1, g3]
  ·refine ⟨m.2.2.1, ?_, key _ ?_⟩
   ·have := zZ h1 (o := 3) (k := 1) (by simp)
    simpa using this
   ·have h3' : m.2.2.1 = mark.2.2.1 := h3.2.2.1
    simp [goes, e1, g2, g3, h3'])
def resV (has : Bool) (done : List ED) (mark : ED) (d : ED) : Int := if chk d then (if goes has done mark d then 0 else 1) else 140
theorem v32 (S : St2 h D p has done mark) {e : EV} {d : ED} (hR : EdR h e d) (hp : ∀ s, e.2.2.2 = some s -> ¬ D s.b) (hd : done.length <= 100)
  (hno : (chk d && goes has done mark d) = false -> Q (.int .i64 (resV has done mark d)) h)
  (hgo : ∀ h' D', (chk d && goes has done mark d) = true -> St2 h' D' p (nHas d) (xV done d) (kQ d) -> (∀ b, D' b -> D b ∨ h.length <= b) -> zM D h h' -> h.length <= h'.length -> Q (.int .i64 0) h') : AC Tryz.prog 32 [.ptr (some ⟨p, 0⟩), evV e] h Q := ac32 (by
 have S0 := S.view
 obtain ⟨qd, m, L, h1, h2, h3, h4, h5, h6, h7, h8, h9, h10, h11⟩ := S
 have r1 : e.1 = d.1 := hR.1
 unfold vc32
 refine u107 (e := e) hR ⟨_, rfl, ?_⟩
 cases hc : chk d with
 | false =>
  simp only [hc, Bool.false_eq_true, if_false, resV, Bool.false_and] at hno ⊢
  exact hno trivial
 | true =>
 simp only [if_true]
 refine v108 S0 (e := e) hR ⟨_, rfl, zB (fun g2 => ?_) fun g2 => ?_⟩
 ·simp only [Bool.not_eq_true'] at g2
  simp only [hc, g2, resV, if_true, Bool.false_eq_true, if_false, Bool.and_false] at hno
  exact hno trivial
 have hg : goes has done mark d = true := by simpa using g2
 have hyes : (chk d && goes has done mark d) = true := by rw [hc, hg]; rfl
 have hrefs : d.2.2.2.length <= 256 := by
  simp only [chk, Bool.and_eq_true, decide_eq_true_eq] at hc
  exact hc.1.2
 have hep : ∀ s, e.2.2.2 = some s -> s.b ≠ p := fun s hs he => hp s hs (he ▸ h2)
 have hpl := zD h1
 refine yD h1 (o := 1) ?_ ?_
 ·simp
 have b1 : (h.set p (.cells (splice [.sl qd, .int .i64 m.1, .int .i64 m.2.1, .int .i64 m.2.2.1, .sl m.2.2.2, .bool has] 1 [.int .i64 0, .int .i64 0, .int .i64 0, .sl none]) true))[p]? = some (.cells [.sl qd, .int .i64 0, .int .i64 0, .int .i64 0, .sl none, .bool has] true) := by
  rw [List.getElem?_set_self hpl]; rfl
 refine yD b1 (o := 5) ?_ ?_
 ·simp
 rw [List.set_set]
 have e15 : splice [AV.sl qd, .int .i64 0, .int .i64 0, .int .i64 0, .sl none, .bool has] 5 [.bool false] = [.sl qd, .int .i64 0, .int .i64 0, .int .i64 0, .sl none, .bool false] := rfl
 rw [e15]
 generalize hh15 : h.set p (.cells [.sl qd, .int .i64 0, .int .i64 0, .int .i64 0, .sl none, .bool false] true) = h15
 have K15 : zM (fun b => b = p) h h15 := by rw [<- hh15]; exact zT rfl
 have l15 : h15.length = h.length := by rw [<- hh15]; simp
 have p15 : h15[p]? = some (.cells [.sl qd, .int .i64 0, .int .i64 0, .int .i64 0, .sl none, .bool false] true) := by rw [<- hh15, List.getElem?_set_self hpl]
 have R15 : EdR h15 e d := K15.edR (fun s hs => hep s hs) hR
 have G15 : Grow edE h15 qd L := h4.keeps K15 (fun s hs => (h3 s hs).2)
 have F15 : zM D h h15 := fun b B hb hB => K15 b B (fun he => hb (he ▸ h2)) hB
 have each15 : ∀ (j : Nat) (x : EV) (y : ED), L[j]? = some x -> done[j]? = some y -> EdR h15 x y /\ ∀ s, x.2.2.2 = some s -> D s.b /\ s.b ≠ p /\ ∀ s', qd = some s' -> s.b ≠ s'.b := by
  intro j x y a b
  obtain ⟨r, c⟩ := h6 j x y a b
  exact ⟨K15.edR (fun s hs => (c s hs).2.1) r, c⟩
 have hz : evV e = .agg [.int .i64 d.1, .int .i64 e.2.1, .int .i64 e.2.2.1, .sl e.2.2.2] := by rw [<- r1]
 rw [r1]
 refine zB (fun g3 => ?_) (fun g3 => ?_)
 ·refine ⟨qd, zZ p15 (o := 0) (k := 1) (by simp), ?_⟩
  rw [<- hz]
  refine t105 (e := e) R15 hrefs fun e' h19 hx hR2 hs q1 q2 q3 => ⟨e'.1, e'.2.1, e'.2.2.1, e'.2.2.2, rfl, ⟨qd, zZ (hx _ _ p15) (o := 0) (k := 1) (by simp), rfl⟩, ?_⟩
  have hl19 := hx.len
  unfold PNew
  have hx2 : Ext h19 (h19 ++ [.cells [.int .i64 e'.1, .int .i64 e'.2.1, .int .i64 e'.2.2.1, .sl e'.2.2.2] true]) := .app _ _
  refine ⟨⟨qd, zZ (hx2 _ _ (hx _ _ p15)) (o := 0) (k := 1) (by simp), rfl⟩, ?_⟩
  have G25 : Grow edE (h19 ++ [.cells [.int .i64 e'.1, .int .i64 e'.2.1, .int .i64 e'.2.2.1, .sl e'.2.2.2] true]) qd L := Acc.mono (Acc.mono G15 hx) hx2
  have hsrc : HasL edE (h19 ++ [.cells [.int .i64 e'.1, .int .i64 e'.2.1, .int .i64 e'.2.2.1, .sl e'.2.2.2] true]) (some ⟨h19.length, 0, 1, 1, 0⟩) [e'] := HasL.new (E := edE) (l := [e']) rfl (by simp [Enc.all, edE])
  refine Grow.append (E := edE) G25 hsrc (by simp; omega) fun q2 h27 G27 K27 hl27 hq27 => ?_
  have live0 := HasL.live (Acc.hasL h4)
  have hl25 : (h19 ++ [Blk.cells [.int .i64 e'.1, .int .i64 e'.2.1, .int .i64 e'.2.2.1, .sl e'.2.2.2] true]).length = h19.length + 1 := by simp
  have hpq : ¬ ∃ s, qd = some s /\ s.b = p := fun ⟨s, hs, he⟩ => (h3 s hs).2 he
  have p27 : h27[p]? = some (.cells [.sl qd, .int .i64 0, .int .i64 0, .int .i64 0, .sl none, .bool false] true) := K27 _ _ hpq (hx2 _ _ (hx _ _ p15))
  have hpl27 := zD p27
  have hq2 : ∀ s', q2 = some s' -> h19.length < s'.b + 1 /\ h.length <= s'.b ∨ (∃ s, qd = some s /\ s.b = s'.b) := by
   intro s' hs'
   rcases hq27 s' hs' with a | a
   ·rw [hl25] at a; left; omega
   ·exact .inr a
  have hne2 : ∀ b, b < h19.length -> (∀ s', qd = some s' -> b ≠ s'.b) -> ∀ s', q2 = some s' -> b ≠ s'.b := by
   intro b hb hn s' hs' he
   rcases hq27 s' hs' with a | ⟨s, a1, a2⟩
   ·rw [hl25] at a; omega
   ·exact hn s a1 (he.trans a2.symm)
  have K1527 : zM (fun b => ∃ s, qd = some s /\ s.b = b) h15 h27 := (zK (hx.trans hx2)).trans K27
  refine yD p27 (o := 0) ?_ ?_
  ·simp
  have Kset : zM (fun b => b = p) h27 (h27.set p (.cells (splice [.sl qd, .int .i64 0, .int .i64 0, .int .i64 0, .sl none, .bool false] 0 [.sl q2]) true)) := zT rfl
  have g3' : (d.1 == 2) = true := g3
  have e1 : nHas d = false := by simp [nHas, g3']
  have e2 : xV done d = done ++ [d] := by simp [xV, g3']
  have e3 : kQ d = xQ := by simp [kQ, g3']
  have fin : ∀ (x : EV) (y : ED), EdR h27 x y -> (∀ s, x.2.2.2 = some s -> s.b ≠ p) -> EdR (h27.set p (.cells (splice [.sl qd, .int .i64 0, .int .i64 0, .int .i64 0, .sl none, .bool false] 0 [.sl q2]) true)) x y := fun x y r c => Kset.edR (fun s hs => c s hs) r
  refine hgo _ (fun b => D b ∨ (h.length <= b /\ b < h27.length)) hyes ?_ (fun b hb => hb.imp id And.left) ?_ (by simp; omega)
  ·rw [e1, e2, e3]
   refine ⟨q2, zK7, L ++ [e'], ?_, .inl h2, ?_, G27.keeps Kset ?_, by simp [h5], ?_, ⟨rfl, rfl, rfl, rfl⟩, fun s hs => (by cases hs), ?_, by simp, ?_⟩
   ·rw [List.getElem?_set_self hpl27]; rfl
   ·intro s hs
    have hlv := HasL.live (Acc.hasL G27) s hs
    rcases hq2 s hs with a | ⟨s0, a1, a2⟩
    ·exact ⟨.inr ⟨a.2, hlv⟩, by omega⟩
    ·rw [<- a2]; exact ⟨.inl (h3 s0 a1).1, (h3 s0 a1).2⟩
   ·intro s hs he
    rcases hq2 s hs with a | ⟨s0, a1, a2⟩
    ·omega
    ·exact (h3 s0 a1).2 (a2.trans he)
   ·intro j x y hj hy
    rw [List.getElem?_append] at hj hy
    split at hj
    ·rw [if_pos (by omega)] at hy
     obtain ⟨r, c⟩ := each15 j x y hj hy
     have rl := HasL.live r.2.2.2
     refine ⟨fin x y (K1527.edR (fun s hs ⟨s', a1, a2⟩ => (c s hs).2.2 s' a1 a2.symm) r) (fun s hs => (c s hs).2.1), fun s hs => ⟨.inl (c s hs).1, (c s hs).2.1, hne2 _ (by have := rl s hs; omega) (c s hs).2.2⟩⟩
    ·rw [if_neg (by omega)] at hy
     have j0 : j - L.length = 0 := by have := zD hj; simp at this; omega
     have y0 : j - done.length = 0 := by omega
     rw [j0] at hj
     rw [y0] at hy
     simp at hj hy
     subst hj hy
     have rl := HasL.live hR2.2.2.2
     have hfr : ∀ s, e'.2.2.2 = some s -> ∀ s', qd = some s' -> s.b ≠ s'.b := fun s hs' s' hs2 => by have := hs s hs'; have := live0 s' hs2; omega
     refine ⟨fin _ _ (((zK hx2).trans K27).edR (fun s hs' ⟨s', a1, a2⟩ => hfr s hs' s' a1 a2.symm) hR2) (fun s hs' => by have := hs s hs'; omega), fun s hs' => ⟨.inr ⟨by have := hs s hs'; omega, by have := rl s hs'; omega⟩, by have := hs s hs'; omega, hne2 _ (rl s hs') (hfr s hs')⟩⟩
   ·intro x hx'
    rcases List.mem_append.1 hx' with hx' | hx'
    ·exact h9 x hx'
    ·simp at hx'; subst hx'; exact hrefs
   ·intro b hb
    rcases hb with hb | hb
    ·have := h11 b hb; simp; omega
    ·simp; omega
  ·intro b B hb hB
   have hbp : b ≠ p := fun he => hb (he ▸ h2)
   rw [List.getElem?_set, if_neg (Ne.symm hbp)]
   exact K1527 b B (fun ⟨s, a1, a2⟩ => hb (a2 ▸ (h3 s a1).1)) (F15 b B hb hB)
 ·rw [<- hz]
  refine t105 (e := e) R15 hrefs fun e' h33 hx hR2 hs q1 q2 q3 => ⟨e'.1, e'.2.1, e'.2.2.1, e'.2.2.2, rfl, ?_⟩
  have p33 := hx _ _ p15
  have hpl33 := zD p33
  have hl33 := hx.len
  refine yD p33 (o := 1) ?_ ?_
  ·simp
  have b39 : (h33.set p (.cells (splice [.sl qd, .int .i64 0, .int .i64 0, .int .i64 0, .sl none, .bool false] 1 [.int .i64 e'.1, .int .i64 e'.2.1, .int .i64 e'.2.2.1, .sl e'.2.2.2]) true))[p]? = some (.cells [.sl qd, .int .i64 e'.1, .int .i64 e'.2.1, .int .i64 e'.2.2.1, .sl e'.2.2.2, .bool false] true) := by
   rw [List.getElem?_set_self hpl33]; rfl
  refine yD b39 (o := 5) ?_ ?_
  ·simp
  rw [List.set_set]
  have hsub : zM (fun b => b = p) h33 (h33.set p (.cells (splice [.sl qd, .int .i64 e'.1, .int .i64 e'.2.1, .int .i64 e'.2.2.1, .sl e'.2.2.2, .bool false] 5 [.bool true]) true)) := zT rfl
  have g3' : (d.1 == 2) = false := g3
  have e1 : nHas d = true := by simp [nHas, g3']
  have e2 : xV done d = done := by simp [xV, g3']
  have e3 : kQ d = d := by simp [kQ, g3']
  have live0 := HasL.live (Acc.hasL h4)
  have rl := HasL.live hR2.2.2.2
  refine hgo _ (fun b => D b ∨ (h.length <= b /\ b < h33.length)) hyes ?_ (fun b hb => hb.imp id And.left) ?_ (by simp; omega)
  ·rw [e1, e2, e3]
   refine ⟨qd, e', L, ?_, .inl h2, fun s hs => ⟨.inl (h3 s hs).1, (h3 s hs).2⟩, Grow.keeps (h := h33) (Acc.mono G15 hx) hsub (fun s hs => (h3 s hs).2), h5, ?_, hsub.edR (fun s hs' => by have := hs s hs'; omega) hR2, ?_, h9, hrefs, ?_⟩
   ·rw [List.getElem?_set_self hpl33]; rfl
   ·intro j x y hj hy
    obtain ⟨r, c⟩ := each15 j x y hj hy
    exact ⟨hsub.edR (fun s hs => (c s hs).2.1) ⟨r.1, r.2.1, r.2.2.1, r.2.2.2.mono hx⟩, fun s hs => ⟨.inl (c s hs).1, (c s hs).2⟩⟩
   ·intro s hs'
    have a1 := hs s hs'
    exact ⟨.inr ⟨by omega, rl s hs'⟩, by omega, fun s' hs2 => by have := live0 s' hs2; omega⟩
   ·intro b hb
    rcases hb with hb | hb
    ·have := h11 b hb; simp; omega
    ·simp; omega
  ·intro b B hb hB
   have hbp : b ≠ p := fun he => hb (he ▸ h2)
   rw [List.getElem?_set, if_neg (Ne.symm hbp)]
   exact hx _ _ (F15 b B hb hB))
end
end Go.Proofs.YtnglhicedhcpbaaGreatDoor
namespace Go.Proofs.YtnglhicedhcpbaaGreatDoor
open Go.Ab
open Go.Num hiding Bs
set_option linter.unusedVariables false
set_option linter.unusedSimpArgs false
def encR (r : Rf) : Bs := numB r.1.length ++ r.1 ++ (numB r.2.1.toNat ++ numB r.2.2.toNat)
def jO (l : List Rf) : Bs := l.flatMap encR
def encD (d : ED) : Bs := numB d.1.toNat ++ numB d.2.1.toNat ++ numB d.2.2.1.toNat ++ numB d.2.2.2.length ++ jO d.2.2.2
theorem zKW {r : Rf} (h : kM r = true) : (encR r).length <= 51 := by
 simp only [kM, Bool.and_eq_true, decide_eq_true_eq] at h
 have h1 := zY (n := r.1.length) (by simp only [M63]; omega)
 have h2 := zY (n := r.2.1.toNat) (by simp only [M63]; omega)
 have h3 := zY (n := r.2.2.toNat) (by simp only [M63]; omega)
 simp only [encR, List.length_append]; omega
theorem zA3 : ∀ {l : List Rf}, l.all kM = true -> (jO l).length <= l.length * 51
 | [], _ => by simp [jO]
 | r :: l, h => by
  rw [List.all_cons, Bool.and_eq_true] at h
  have h1 := zKW h.1
  have h2 := zA3 h.2
  simp only [jO, List.flatMap_cons, List.length_append, List.length_cons] at *; omega
theorem zFV {l : List Rf} {i : Nat} {x : Rf} (h : l[i]? = some x) : jO (l.take (i + 1)) = jO (l.take i) ++ encR x := by
 rw [List.take_add_one, h]; simp [jO]
theorem all_take {α : Type} {p : α -> Bool} {l : List α} (i : Nat) (h : l.all p = true) : (l.take i).all p = true := by
 rw [List.all_eq_true] at *
 exact fun x hx => h x (List.mem_of_mem_take hx)
section
variable {h : Heap} {Q : AHp}
theorem t246 {s : Bs} (hs : s.length <= 100000) (hQ : ∀ q h', New byE h h' q (numB s.length ++ s) -> Q (.sl q) h') : AC Tryz.prog 246 [.str s] h Q := ac246 (by
 unfold vc246
 refine t236 (by simp only [M63]; omega) fun q4 h3 N => ⟨q4, _, rfl, ?_⟩
 have hl := zY (n := s.length) (by simp only [M63]; omega)
 rw [<- jD]
 exact New.append0 (E := byE) N (by omega) fun q' h2 N2 => hQ _ _ N2)
theorem t245 {q : OSl} {l : List Nat} (H : HasL intE h q (l.map fun (n : Nat) => (n : Int))) (hl : l.length <= 10) (hn : ∀ n ∈ l, n < M63) (hQ : ∀ q h', New byE h h' q (l.flatMap numB) -> Q (.sl q) h') : AC Tryz.prog 245 [.sl q] h Q := ac245 (by
 unfold vc245
 have hlen := H.len
 rw [List.length_map] at hlen
 have bnd : ∀ i, ((l.take i).flatMap numB).length <= i * 9 := by
  intro i
  induction i with
  | zero => simp
  | succ i ih =>
   rw [List.take_add_one]
   cases hx : l[i]? with
   | none => simp at ih ⊢; omega
   | some x =>
    have := zY (hn x (List.mem_of_getElem? hx))
    rw [List.flatMap_append, List.length_append]
    simp only [Option.toList_some, List.flatMap_cons, List.flatMap_nil, List.append_nil]
    omega
 refine ⟨fun xs h6 => ∃ (q2 : OSl) (i : Nat), xs = [.sl q2, .int .i64 i] /\ i <= l.length /\ New byE h h6 q2 ((l.take i).flatMap numB), fun xs _ => match xs with | [_, .int _ i] => (l.length - i).toNat | _ => 0, ⟨_, 0, rfl, by omega, by simpa using New.none⟩, ?_⟩
 rintro q2 i h6 ⟨q2', i', hx, hi, N⟩
 simp only [List.cons.injEq, AV.int.injEq, AV.sl.injEq, true_and, and_true] at hx
 obtain ⟨rfl, rfl⟩ := hx
 refine zB (fun g => ?_) (fun g => ?_)
 ·replace g := of_decide_eq_true g
  refine HasL.idx (E := intE) (H.mono N.1) (by omega) (by simp; omega) fun pp x hx hc => ?_
  have hx' : (l.map fun (n : Nat) => (n : Int))[i']? = some x := by simpa using hx
  rw [List.getElem?_map] at hx'
  cases hy : l[i']? with
  | none => rw [hy] at hx'; cases hx'
  | some y =>
   rw [hy] at hx'
   obtain rfl : ((y : Int)) = x := by simpa using hx'
   refine ⟨_, hc, t236 (hn y (List.mem_of_getElem? hy)) fun q11 h10 N1 => ⟨q11, _, rfl, ?_⟩⟩
   have hl1 := zY (hn y (List.mem_of_getElem? hy))
   have hl2 := bnd i'
   refine New.append (E := byE) (N.ext N1.1) N1.hasL (by omega) fun q13 h14 N2 => ?_
   rw [zF ⟨by omega, by omega⟩]
   refine ⟨trivial, ⟨q13, i' + 1, by simp, by omega, ?_⟩, by simp only; omega⟩
   rw [List.take_add_one, hy, List.flatMap_append]
   simpa using N2
 ·replace g := of_decide_eq_false g
  have : i' = l.length := by omega
  subst this
  rw [List.take_length] at N
  exact hQ _ _ N)
end
section
variable {h : Heap} {Q : AHp}
theorem EdR.ext {h h' : Heap} {e : EV} {d : ED} (R : EdR h e d) (K : Ext h h') : EdR h' e d := ⟨R.1, R.2.1, R.2.2.1, R.2.2.2.mono K⟩
theorem xE {d : ED} (h : chk d = true) : (d.1 = ((d.1.toNat : Nat) : Int) /\ d.1.toNat < M63) /\ (d.2.1 = ((d.2.1.toNat : Nat) : Int) /\ d.2.1.toNat < M63) /\ (d.2.2.1 = ((d.2.2.1.toNat : Nat) : Int) /\ d.2.2.1.toNat < M63) /\ d.2.2.2.length <= 256 /\ d.2.2.2.all kM = true := by
 simp only [chk, atOk, Bool.and_eq_true, Bool.or_eq_true, decide_eq_true_eq, beq_iff_eq] at h
 obtain ⟨⟨⟨h1, ⟨⟨h2, h3⟩, h4⟩, h5⟩, h6⟩, h7⟩ := h
 simp only [M63]
 refine ⟨⟨by omega, by omega⟩, ⟨by omega, by omega⟩, ⟨by omega, by omega⟩, h6, h7⟩
theorem zGH {r : Rf} (h : kM r = true) : r.1.length <= 24 /\ (r.2.1 = ((r.2.1.toNat : Nat) : Int) /\ r.2.1.toNat < M63) /\ (r.2.2 = ((r.2.2.toNat : Nat) : Int) /\ r.2.2.toNat < M63) := by
 simp only [kM, Bool.and_eq_true, decide_eq_true_eq] at h
 simp only [M63]
 omega
theorem zIE {d : ED} : encD d = (numB d.1.toNat ++ numB d.2.1.toNat ++ numB d.2.2.1.toNat ++ numB d.2.2.2.length) ++ jO (d.2.2.2.take d.2.2.2.length) := by
 rw [List.take_length]; rfl
theorem zPB {l : List Rf} (hl : l.length <= 256) (h : l.all kM = true) (i : Nat) : (jO (l.take i)).length <= 13056 := by
 have := zA3 (all_take i h)
 have h2 : (l.take i).length <= l.length := List.length_take_le' _ _
 omega
theorem cat3 {h0 : Heap} {q13 q24 q29 : OSl} {a b c : Bs} {K : AHp} {h28 : Heap} (A : New byE h0 h28 q13 a) (B : HasL byE h28 q24 b) (C : HasL byE h28 q29 c) (hT : a.length + b.length + c.length <= 100000)
  (hK : ∀ q34 h33, New byE h0 h33 q34 (a ++ b ++ c) -> K (.sl q34) h33) : PNew [.sl q13, .sl q24, .sl q29] true h28 fun a30 h31 => AC Tryz.prog 239 [.sl (some ⟨a30, 0, 3, 3, 0⟩)] h31 K := by
 unfold PNew
 have hx : Ext h28 (h28 ++ [.cells [.sl q13, .sl q24, .sl q29] true]) := .app _ _
 refine t239 (qs := [q13, q24, q29]) (ls := [a, b, c]) (HasL.new (E := slE) (l := [q13, q24, q29]) rfl rfl) rfl ?_ (by simp; omega) (by simp) fun q' h' N => hK q' h' ?_
 ·intro i s l hs hl
  match i with
  | 0 => simp at hs hl; subst hs hl; exact A.hasL.mono hx
  | 1 => simp at hs hl; subst hs hl; exact B.mono hx
  | 2 => simp at hs hl; subst hs hl; exact C.mono hx
  | n + 3 => simp at hs
 ·have := N.of ((A.1.trans hx))
  simpa using this
set_option maxRecDepth 20000 in
theorem t188 {e : EV} {d : ED} (hR : EdR h e d) (hQ0 : chk d = false -> Q (.tup [.sl none, .int .i64 140]) h) (hQ1 : ∀ q h', chk d = true -> New byE h h' q (encD d) -> Q (.tup [.sl q, .int .i64 0]) h') : AC Tryz.prog 188 [evV e] h Q := ac188 (by
 have hR0 := hR
 obtain ⟨r1, r2, r3, hL⟩ := hR
 have hlen := hL.len
 unfold vc188
 refine u107 (e := e) hR0 ⟨_, rfl, ?_⟩
 cases hc : chk d with
 | false =>
  rw [hc] at hQ0
  simp only [Bool.false_eq_true, if_false]
  exact hQ0 rfl
 | true =>
 rw [if_pos rfl]
 refine zB (fun g => by simp at g) fun _ => ?_
 obtain ⟨⟨c1, c1'⟩, ⟨c2, c2'⟩, ⟨c3, c3'⟩, c4, c5⟩ := xE hc
 show PNew _ true h _
 unfold PNew
 rw [r1, r2, r3, hlen]
 have hx1 : Ext h (h ++ [.cells [.int .i64 d.1, .int .i64 d.2.1, .int .i64 d.2.2.1, .int .i64 ((d.2.2.2.length : Nat) : Int)] true]) := .app _ _
 have len63 : d.2.2.2.length < M63 := by simp only [M63]; omega
 refine t245 (l := [d.1.toNat, d.2.1.toNat, d.2.2.1.toNat, d.2.2.2.length]) (HasL.new (E := intE) (l := [d.1.toNat, d.2.1.toNat, d.2.2.1.toNat, d.2.2.2.length].map fun (n : Nat) => (n : Int)) rfl ?_) (by simp) ?_ fun q12 h11 N0 => ⟨q12, rfl, ?_⟩
 ·show [AV.int .i64 d.1, .int .i64 d.2.1, .int .i64 d.2.2.1, .int .i64 ((d.2.2.2.length : Nat) : Int)] = [AV.int .i64 ((d.1.toNat : Nat) : Int), .int .i64 ((d.2.1.toNat : Nat) : Int), .int .i64 ((d.2.2.1.toNat : Nat) : Int), .int .i64 ((d.2.2.2.length : Nat) : Int)]
  rw [<- c1, <- c2, <- c3]
 ·intro n hn
  simp only [List.mem_cons, List.not_mem_nil, or_false] at hn
  rcases hn with rfl | rfl | rfl | rfl <;> assumption
 have N0 := N0.of hx1
 generalize hhd : [d.1.toNat, d.2.1.toNat, d.2.2.1.toNat, d.2.2.2.length].flatMap numB = hd at N0
 have hhd' : hd = numB d.1.toNat ++ numB d.2.1.toNat ++ numB d.2.2.1.toNat ++ numB d.2.2.2.length := by rw [<- hhd]; simp
 have hhl : hd.length <= 36 := by
  have h1 := zY c1'
  have h2 := zY c2'
  have h3 := zY c3'
  have h4 := zY len63
  rw [hhd']; simp only [List.length_append]; omega
 refine ⟨fun xs h6 => ∃ (q2 : OSl) (i : Nat), xs = [.sl q2, .int .i64 i] /\ i <= d.2.2.2.length /\ New byE h h6 q2 (hd ++ jO (d.2.2.2.take i)), fun xs _ => match xs with | [_, .int _ i] => (d.2.2.2.length - i).toNat | _ => 0, ⟨_, 0, rfl, by omega, by simpa [jO] using N0⟩, ?_⟩
 rintro q2 i h17 ⟨q2', i', hx, hi, N⟩
 simp only [List.cons.injEq, AV.int.injEq, AV.sl.injEq, true_and, and_true] at hx
 obtain ⟨rfl, rfl⟩ := hx
 refine zB (fun g => ?_) (fun g => ?_)
 ·replace g := of_decide_eq_true g
  refine HasL.idx (E := refE) (hL.mono N.1) (by omega) (by omega) fun pp y hy hcy => ⟨y.1, y.2.1, y.2.2, hcy, ?_⟩
  have hy' : d.2.2.2[i']? = some y := by simpa using hy
  have hok : kM y = true := by rw [List.all_eq_true] at c5; exact c5 y (List.mem_of_getElem? hy')
  obtain ⟨y1, ⟨y2, y2'⟩, ⟨y3, y3'⟩⟩ := zGH hok
  have bl := zPB c4 c5 i'
  have rl := zKW hok
  have hin : ∀ {h26 : Heap} {a : Nat}, h26[a]? = some (.cells [.int .i64 y.2.1, .int .i64 y.2.2] true) -> HasL intE h26 (some ⟨a, 0, 2, 2, 0⟩) ([y.2.1.toNat, y.2.2.toNat].map fun (n : Nat) => (n : Int)) := by
   intro h26 a hb
   refine ⟨rfl, Nat.le_refl _, .inl rfl, ?_⟩
   have e : intE.all ([y.2.1.toNat, y.2.2.toNat].map fun (n : Nat) => (n : Int)) = [.int .i64 y.2.1, .int .i64 y.2.2] := by
    show [AV.int .i64 ((y.2.1.toNat : Nat) : Int), .int .i64 ((y.2.2.toNat : Nat) : Int)] = _
    rw [<- y2, <- y3]
   rw [e, zQ (p := ⟨a, 0⟩) hb (by simp [intE])]
   simp [intE]
  have hn2 : ∀ n ∈ [y.2.1.toNat, y.2.2.toNat], n < M63 := by
   intro n hn
   simp only [List.mem_cons, List.not_mem_nil, or_false] at hn
   rcases hn with rfl | rfl <;> assumption
  have el : ([y.2.1.toNat, y.2.2.toNat] : List Nat).flatMap numB = numB y.2.1.toNat ++ numB y.2.2.toNat := by simp
  have eT : (hd ++ jO (d.2.2.2.take i')) ++ (numB y.1.length ++ y.1) ++ (numB y.2.1.toNat ++ numB y.2.2.toNat) = hd ++ jO (d.2.2.2.take (i' + 1)) := by
   rw [zFV hy']; simp [encR]
  have hTot : (hd ++ jO (d.2.2.2.take i')).length + (numB y.1.length ++ y.1).length + (numB y.2.1.toNat ++ numB y.2.2.toNat).length <= 100000 := by
   simp only [encR, List.length_append] at rl ⊢; omega
  have step : ∀ (q34 : OSl) (h33 : Heap), New byE h h33 q34 ((hd ++ jO (d.2.2.2.take i')) ++ (numB y.1.length ++ y.1) ++ (numB y.2.1.toNat ++ numB y.2.2.toNat)) -> _ := fun q34 h33 N3 =>
   (⟨⟨rfl, trivial⟩, ⟨q34, i' + 1, by rw [zF ⟨by omega, by omega⟩]; simp, by omega, by rw [<- eT]; exact N3⟩, by rw [zF ⟨by omega, by omega⟩]; omega⟩ :
    ((some [.int .i64 d.1, .int .i64 d.2.1, .int .i64 d.2.2.1, .sl e.2.2.2] : Option (List AV)) = some [.int .i64 d.1, .int .i64 d.2.1, .int .i64 d.2.2.1, .sl e.2.2.2] /\ True) /\ (∃ (q2 : OSl) (i : Nat), [AV.sl q34, .int .i64 (zE .i64 ((i' : Int) + 1))] = [.sl q2, .int .i64 i] /\ i <= d.2.2.2.length /\ New byE h h33 q2 (hd ++ jO (d.2.2.2.take i))) /\ ((d.2.2.2.length : Int) - zE .i64 ((i' : Int) + 1)).toNat < ((d.2.2.2.length : Int) - (i' : Int)).toNat)
  refine ⟨?_, ?_⟩
  ·refine t246 (s := y.1) (by omega) fun q24 h23 N1 => ⟨q24, rfl, rfl, rfl, rfl, ?_⟩
   have hx26 : Ext h23 (h23 ++ [.cells [.int .i64 y.2.1, .int .i64 y.2.2] true]) := .app _ _
   refine t245 (hin (by simp)) (by simp) hn2 fun q29 h28 N2 => ⟨q29, rfl, ?_⟩
   rw [el] at N2
   have hx28 := hx26.trans N2.1
   exact cat3 (N.ext (N1.1.trans hx28)) (N1.hasL.mono hx28) N2.hasL hTot fun q34 h33 N3 => ⟨q34, rfl, step q34 h33 N3⟩
  ·have hx36 : Ext h17 (h17 ++ [.cells [.int .i64 y.2.1, .int .i64 y.2.2] true]) := .app _ _
   refine ⟨rfl, t246 (s := y.1) (by omega) fun q24 h23 N1 => ⟨q24, rfl, rfl, rfl, ?_⟩⟩
   refine t245 (hin (N1.1 _ _ (by simp))) (by simp) hn2 fun q29 h28 N2 => ⟨q29, rfl, ?_⟩
   rw [el] at N2
   exact cat3 (N.ext ((hx36.trans N1.1).trans N2.1)) (N1.hasL.mono N2.1) N2.hasL hTot fun q34 h33 N3 => ⟨q34, rfl, step q34 h33 N3⟩
 ·replace g := of_decide_eq_false g
  have : i' = d.2.2.2.length := by omega
  subst this
  refine hQ1 _ _ hc ?_
  rw [zIE, <- hhd']
  exact N)
end
def rdRs : Nat -> Option Bs -> Option (List Rf × Bs)
 | 0, o => (match o with | some l => some ([], l) | none => none)
 | n + 1, o => (match nm (stO (nm (stO (tx 24 o)))) with
  | none => none
  | some (c, l) => (match rdRs n (some l) with
   | some (rs, l') => some ((valS (tx 24 o), valN (nm (stO (tx 24 o))), (c : Int)) :: rs, l')
   | none => none))
def rdE (b : Bs) : Option ED :=
 match nm (stO (nm (stO (nm (stO (nm (some b))))))) with
 | none => none
 | some (n, l) => if n > 256 then none else (match rdRs n (some l) with
  | some (rs, l') => if l' = [] /\ chk (valN (nm (some b)), valN (nm (stO (nm (some b)))), valN (nm (stO (nm (stO (nm (some b)))))), rs) = true then some (valN (nm (some b)), valN (nm (stO (nm (some b)))), valN (nm (stO (nm (stO (nm (some b)))))), rs) else none
  | none => none)
theorem zNN : ∀ {n : Nat}, rdRs n none = none
 | 0 => rfl
 | n + 1 => by
  have e : nm (stO (nm (stO (tx 24 none)))) = none := rfl
  simp only [rdRs, e]
theorem Bd.tx {o : Option Bs} {m : Nat} (B : Bd o) : Bd (stO (tx m o)) := by
 intro l hl
 cases o with
 | none => cases hl
 | some l0 =>
  have := B l0 rfl
  simp only [Go.Proofs.YtnglhicedhcpbaaGreatDoor.tx] at hl
  cases hr : rdT m l0 with
  | none => rw [hr] at hl; cases hl
  | some r => rw [hr] at hl; cases hl; have := rdT_len hr; omega
section
variable {h : Heap} {Q : AHp} {p : Nat} {o : Option Bs}
set_option maxRecDepth 20000 in
theorem e243 {m : Nat} (R : Rd h p o) (hl : Bd o) (hQ : ∀ h', Fr p h h' -> Rd h' p (stO (tx m o)) -> Q (.str (valS (tx m o))) h') : AC Tryz.prog 243 [.ptr (some ⟨p, 0⟩), .int .i64 m] h Q := ac243 (by
 unfold vc243
 refine e159 R hl fun h4 F4 R4 => ⟨_, rfl, ?_⟩
 refine e231 R4 ⟨_, rfl, ?_⟩
 have bad : tx m o = none -> ∀ o' h', Fr p h h' -> Rd h' p o' -> AC Tryz.prog 230 [.ptr (some ⟨p, 0⟩)] h' fun v9 h10 => ∃ n11 : Int, v9 = .int .i64 n11 /\ Q (.str []) h10 := by
  intro e o' h' F R'
  rw [e] at hQ
  exact e230 R' fun h2 F2 R2 => ⟨_, rfl, hQ h2 (F.trans F2) R2⟩
 have hB := hl.nm
 cases o with
 | none => exact zB (fun _ => bad rfl _ _ F4 R4) (fun g => by cases g)
 | some l =>
 have etx : tx m (some l) = match rdN l with | some (n, l') => if n <= m /\ n <= l'.length then some (l'.take n, l'.drop n) else none | none => none := rfl
 have enm : nm (some l) = rdN l := rfl
 cases hr : rdN l with
 | none =>
  rw [hr] at etx enm
  refine zB (fun _ => bad etx _ _ F4 R4) (fun g => ?_)
  rw [enm] at g; cases g
 | some r =>
  obtain ⟨n, l'⟩ := r
  rw [hr] at etx enm
  rw [enm] at R4 hB ⊢
  simp only [stO] at R4
  rw [jT]
  refine zB (fun g => by cases g) (fun _ => zB (fun g => ?_) (fun g => ?_))
  ·replace g := of_decide_eq_true g
   refine bad ?_ _ _ F4 R4
   rw [etx]; simp only; rw [if_neg (by omega)]
  ·replace g := of_decide_eq_false g
   refine e268 R4 hB (fun ht h' F' R' => ⟨_, rfl, ?_⟩) (fun a b ht q h' F' H' _ R' => ⟨_, rfl, ?_⟩)
   ·have : tx m (some l) = none := by
     rw [etx]; simp only
     rw [if_neg]
     rintro ⟨_, h2⟩
     simp only [tk] at ht
     rw [if_pos (by omega)] at ht
     cases ht
    rw [this] at hQ
    exact ⟨[], rfl, hQ h' (F4.trans F') R'⟩
   ·obtain ⟨l2, e1, b1, b2, rfl, rfl⟩ := zM7 ht
    cases e1
    have : tx m (some l) = some (l'.take n, l'.drop n) := by
     rw [etx]; simp only
     rw [if_pos (by omega)]
    rw [this] at hQ
    simp only [Int.toNat_natCast] at H' R'
    refine ⟨l'.take n, ?_, hQ h' (F4.trans F') R'⟩
    have := H'.cells
    rw [jD] at this
    simpa [byE] using this)
set_option maxRecDepth 20000 in
theorem e176 {q : OSl} {l : Bs} (H : HasL byE h q l) (hl : l.length <= 100000) (hQ0 : rdE l = none -> ∀ h', Ext h h' -> Q (.tup [evV zK7, .int .i64 140]) h') (hQ1 : ∀ d e h', rdE l = some d -> Ext h h' -> EdR h' e d -> (∀ s, e.2.2.2 = some s -> h.length <= s.b) -> Q (.tup [evV e, .int .i64 0]) h') : AC Tryz.prog 176 [.sl q] h Q := ac176 (by
 unfold vc176
 refine e158 H hl fun p h3 hx3 hp R0 => ⟨_, rfl, ?_⟩
 have B0 : Bd (some l) := fun l' h => by cases h; exact hl
 refine e159 R0 B0 fun h6 F1 R1 => ⟨_, rfl, ?_⟩
 refine e159 R1 B0.nm fun h9 F2 R2 => ⟨_, rfl, ?_⟩
 refine e159 R2 B0.nm.nm fun h12 F3 R3 => ⟨_, rfl, ?_⟩
 refine e159 R3 B0.nm.nm.nm fun h15 F4 R4 => ⟨_, rfl, ?_⟩
 refine e231 R4 ⟨_, rfl, ?_⟩
 have B4 := B0.nm.nm.nm.nm
 have x15 : Ext h h15 := (((F1.trans F2).trans F3).trans F4).ext hx3 hp
 have erd : rdE l = match nm (stO (nm (stO (nm (stO (nm (some l))))))) with
  | none => none
  | some (n, l1) => if n > 256 then none else (match rdRs n (some l1) with
   | some (rs, l') => if l' = [] /\ chk (valN (nm (some l)), valN (nm (stO (nm (some l)))), valN (nm (stO (nm (stO (nm (some l)))))), rs) = true then some (valN (nm (some l)), valN (nm (stO (nm (some l)))), valN (nm (stO (nm (stO (nm (some l)))))), rs) else none
   | none => none) := rfl
 generalize valN (nm (some l)) = v1 at *
 generalize valN (nm (stO (nm (some l)))) = v2 at *
 generalize valN (nm (stO (nm (stO (nm (some l)))))) = v3 at *
 generalize nm (stO (nm (stO (nm (stO (nm (some l))))))) = r4 at *
 cases r4 with
 | none =>
  exact zB (fun _ => hQ0 erd h15 x15) (fun g => by cases g)
 | some r =>
 obtain ⟨N, l1⟩ := r
 simp only [stO] at R4 B4
 rw [jT]
 refine zB (fun g => by cases g) (fun _ => zB (fun g => ?_) (fun g => ?_))
 ·replace g := of_decide_eq_true g
  simp only at erd
  rw [if_pos (by omega)] at erd
  exact hQ0 erd h15 x15
 replace g := of_decide_eq_false g
 simp only at erd
 rw [if_neg (by omega)] at erd
 have hp15 : p < h15.length := R4.live
 refine ⟨fun xs h27 => ∃ (i : Nat) (q24 : OSl) (rs : List Rf) (o : Option Bs), xs = [.int .i64 i, .int .i64 v1, .int .i64 v2, .int .i64 v3, .sl q24] /\ i <= N /\ rs.length = i /\ Ext h h27 /\ Rd h27 p o /\ Bd o /\ Apd refE h27 q24 rs /\ (∀ s, q24 = some s -> p < s.b) /\
   rdRs N (some l1) = (match rdRs (N - i) o with | some (rs', l') => some (rs ++ rs', l') | none => none),
  fun xs _ => match xs with | [.int _ i, _, _, _, _] => (N - i).toNat | _ => 0, ⟨0, none, [], some l1, rfl, by omega, rfl, x15, R4, B4, .inl ⟨rfl, rfl⟩, fun s hs => (by cases hs), ?_⟩, ?_⟩
 ·rw [Nat.sub_zero]
  cases rdRs N (some l1) with
  | none => rfl
  | some x => rfl
 rintro n20 n21 n22 n23 q24 h27 ⟨i', q24', rs, o, hx, hi, hrs, x27, R, B, A, hq, hI⟩
 simp only [List.cons.injEq, AV.int.injEq, AV.sl.injEq, true_and, and_true] at hx
 obtain ⟨rfl, rfl, rfl, rfl, rfl⟩ := hx
 refine zB (fun g2 => ?_) (fun g2 => ?_)
 ·replace g2 := of_decide_eq_true g2
  refine e243 (m := 24) R B fun h29 F29 R29 => ⟨_, rfl, rfl, ?_⟩
  refine e159 R29 B.tx fun h32 F32 R32 => ⟨_, rfl, rfl, ?_⟩
  refine e159 R32 B.tx.nm fun h35 F35 R35 => ⟨_, rfl, rfl, ?_⟩
  have F := (F29.trans F32).trans F35
  have A35 : Apd refE h35 q24 rs := A.keeps F.keeps (fun s hs he => by have := hq s hs; have he : s.b = p := he; omega)
  have x35 : Ext h h35 := F.ext x27 (by have := hx3.len; omega)
  unfold PNew
  have xn : Ext h35 (h35 ++ [.cells [.str (valS (tx 24 o)), .int .i64 (valN (nm (stO (tx 24 o)))), .int .i64 (valN (nm (stO (nm (stO (tx 24 o))))))] true]) := .app _ _
  have hsrc : HasL refE (h35 ++ [.cells [.str (valS (tx 24 o)), .int .i64 (valN (nm (stO (tx 24 o)))), .int .i64 (valN (nm (stO (nm (stO (tx 24 o))))))] true]) (some ⟨h35.length, 0, 1, 1, 0⟩) [(valS (tx 24 o), valN (nm (stO (tx 24 o))), valN (nm (stO (nm (stO (tx 24 o))))))] := HasL.new (E := refE) (l := [(valS (tx 24 o), valN (nm (stO (tx 24 o))), valN (nm (stO (nm (stO (tx 24 o))))))]) rfl (by simp [Enc.all, refE])
  refine ⟨rfl, Apd.append (E := refE) (A35.ext xn) hsrc (by simp; omega) fun q39 h40 A40 K40 hl40 hq40 => ?_⟩
  rw [zF ⟨by omega, by omega⟩]
  have hpl := R35.live
  refine ⟨⟨trivial, rfl, trivial⟩, ⟨i' + 1, q39, _, stO (nm (stO (nm (stO (tx 24 o))))), by simp, by omega, by simp [hrs], ?_, ?_, B.tx.nm.nm, A40, ?_, ?_⟩, by simp only; omega⟩
  ·intro b B' hB
   exact K40 b B' (fun ⟨s, a1, a2⟩ => by have := hq s a1; have := zD hB; have := hx3.len; omega) (xn _ _ (x35 _ _ hB))
  ·exact (R35.ext xn).keeps K40 (fun b hb ⟨s, a1, a2⟩ => by have := hq s a1; omega)
  ·intro s hs
   rcases hq40 s hs with a | ⟨s', a1, a2⟩
   ·simp at a; omega
   ·have := hq s' a1; omega
  ·rw [hI]
   obtain ⟨k, hk⟩ : ∃ k, N - i' = k + 1 := ⟨N - i' - 1, by omega⟩
   have hk2 : N - (i' + 1) = k := by omega
   rw [hk, hk2]
   simp only [rdRs]
   generalize tx 24 o = r1
   generalize nm (stO r1) = r2
   generalize nm (stO r2) = r3
   cases r3 with
   | none => simp only [stO, zNN]
   | some r3 =>
    obtain ⟨c, l3⟩ := r3
    simp only [stO, jT]
    cases rdRs k (some l3) with
    | none => rfl
    | some x => obtain ⟨rs', l'⟩ := x; simp
 ·replace g2 := of_decide_eq_false g2
  have : i' = N := by omega
  subst this
  rw [Nat.sub_self] at hI
  refine e160 R ⟨_, rfl, ?_⟩
  cases o with
  | none =>
   simp only [rdRs] at hI
   rw [hI] at erd
   exact zB (fun _ => hQ0 erd h27 x27) (fun g => by cases g)
  | some l' =>
   simp only [rdRs] at hI
   rw [hI] at erd
   simp only [List.append_nil] at erd
   by_cases hl' : l' = []
   ·simp only [if_pos hl']
    refine zB (fun g => by cases g) (fun _ => ?_)
    refine u107 (e := (n21, n22, n23, q24)) (d := (n21, n22, n23, rs)) ⟨rfl, rfl, rfl, A.hasL⟩ ⟨_, rfl, ?_⟩
    cases hc : chk (n21, n22, n23, rs) with
    | true =>
     rw [if_pos ⟨hl', hc⟩] at erd
     exact zB (fun g => by cases g) (fun _ => hQ1 (n21, n22, n23, rs) (n21, n22, n23, q24) h27 erd x27 ⟨rfl, rfl, rfl, A.hasL⟩ (fun s hs => by have := hq s hs; omega))
    | false =>
     rw [if_neg (fun hh => by rw [hc] at hh; cases hh.2)] at erd
     exact zB (fun _ => hQ0 erd h27 x27) (fun g => by cases g)
   ·simp only [if_neg hl']
    rw [if_neg (fun hh => hl' hh.1)] at erd
    exact zB (fun _ => hQ0 erd h27 x27) (fun g => by cases g))
end
theorem zFK {n : Nat} (hn : n < M63) {l : Bs} : nm (some (numB n ++ l)) = some (n, l) := zKH (by simpa only [M63] using hn)
theorem tx_enc {m : Nat} {s l : Bs} (h : s.length <= m) (hm : m < 1000) : tx m (some (numB s.length ++ (s ++ l))) = some (s, l) := by
 simp only [tx, rdT]
 rw [zKH (by omega)]
 simp only
 rw [if_pos ⟨h, by simp⟩]
 simp
theorem zKG : ∀ {rs : List Rf} {t : Bs}, rs.all kM = true -> rdRs rs.length (some (jO rs ++ t)) = some (rs, t)
 | [], t, _ => by simp [rdRs, jO]
 | r :: rs, t, h => by
  rw [List.all_cons, Bool.and_eq_true] at h
  obtain ⟨y1, ⟨y2, y2'⟩, ⟨y3, y3'⟩⟩ := zGH h.1
  have e0 : jO (r :: rs) ++ t = numB r.1.length ++ (r.1 ++ (numB r.2.1.toNat ++ (numB r.2.2.toNat ++ (jO rs ++ t)))) := by simp [jO, encR]
  rw [e0, List.length_cons]
  simp only [rdRs]
  rw [tx_enc (m := 24) y1 (by omega)]
  simp only [stO]
  rw [zFK y2']
  simp only [stO]
  rw [zFK y3']
  simp only [stO]
  rw [zKG h.2]
  simp only [valS, valN]
  rw [<- y2, <- y3]
theorem rdE_mk {b b1 b2 b3 b4 : Bs} {k e r n : Nat} {rs : List Rf} (h1 : nm (some b) = some (k, b1)) (h2 : nm (some b1) = some (e, b2)) (h3 : nm (some b2) = some (r, b3)) (h4 : nm (some b3) = some (n, b4)) (h5 : rdRs n (some b4) = some (rs, [])) (hn : n <= 256) (hc : chk ((k : Int), (e : Int), (r : Int), rs) = true) :
  rdE b = some ((k : Int), (e : Int), (r : Int), rs) := by
 have hn' : ¬ n > 256 := by omega
 simp only [rdE, h1, stO, h2, h3, h4, h5, valN, hc, hn', if_false, and_self, if_true]
theorem zP2 {d : ED} (h : chk d = true) : rdE (encD d) = some d := by
 obtain ⟨⟨c1, c1'⟩, ⟨c2, c2'⟩, ⟨c3, c3'⟩, c4, c5⟩ := xE h
 have len63 : d.2.2.2.length < M63 := by simp only [M63]; omega
 have e0 : encD d = numB d.1.toNat ++ (numB d.2.1.toNat ++ (numB d.2.2.1.toNat ++ (numB d.2.2.2.length ++ (jO d.2.2.2 ++ [])))) := by simp [encD]
 have := rdE_mk (b := encD d) (by rw [e0]; exact zFK c1') (zFK c2') (zFK c3') (zFK len63) (zKG c5) c4 (by rw [<- c1, <- c2, <- c3]; exact h)
 rw [this, <- c1, <- c2, <- c3]
end Go.Proofs.YtnglhicedhcpbaaGreatDoor
namespace Go.Proofs.YtnglhicedhcpbaaGreatDoor
open Go.Ab
set_option linter.unusedVariables false
set_option linter.unusedSimpArgs false
section
variable {h : Heap} {Q : AHp} {p : Nat} {has : Bool} {done : List ED} {mark : ED}
theorem u206 {a b : Int} (hQ : Q (.bool (atOk a b)) h) : AC Tryz.prog 206 [.agg [.int .i64 a, .int .i64 b]] h Q := ac206 (by
  unfold vc206
  have key : ∀ x : Bool, x = atOk a b -> Q (.bool x) h := fun x hx => hx ▸ hQ
  refine zB (fun h1 => zB (fun h2 => zB (fun h3 => key _ ?_) fun h3 => key _ ?_) fun h2 => key _ ?_) fun h1 => key _ ?_
  all_goals simp only [decide_eq_true_eq, decide_eq_false_iff_not] at *
  all_goals unfold atOk
  · have e1 : decide (0 <= a) = true := by simp; omega
    have e2 : decide (a < 65536) = true := by simp; omega
    have e3 : decide (0 <= b) = true := by simp; omega
    rw [e1, e2, e3]; simp
  all_goals
    symm
    simp only [Bool.and_eq_false_iff, decide_eq_false_iff_not]
    omega)
theorem u254 (S : StV h p has done mark) {e : EV} {d : ED} (hR : EdR h e d) (hQ : Q (.bool (goes has done mark d)) h) : AC Tryz.prog 254 [.ptr (some ⟨p, 0⟩), evV e] h Q := ac254 (by
  obtain ⟨qd, m, h1, h2, h3, h7, h8⟩ := S
  obtain ⟨r1, r2, r3, hL⟩ := hR
  have key : ∀ b : Bool, b = goes has done mark d -> Q (.bool b) h := fun b hb => hb ▸ hQ
  have hlen := h2.len
  unfold vc254
  refine ⟨qd, zZ h1 (o := 0) (k := 1) (by simp), ?_⟩
  rw [r1, r2, r3, hlen]
  refine zB (fun g1 => zB (fun g2 => key _ ?_) fun g2 => ?_) fun g1 => key _ ?_
  · simp [goes, g1, g2]
  · refine ⟨has, zZ h1 (o := 5) (k := 1) (by simp), ?_⟩
    refine zB (fun g3 => key _ ?_) fun g3 => ?_
    · simp [goes, g1, g3]
    · refine ⟨m.2.2.1, ?_, key _ ?_⟩
      · have := zZ h1 (o := 3) (k := 1) (by simp)
        simpa using this
      · have h3' : m.2.2.1 = mark.2.2.1 := h3.2.2.1
        simp [goes, g1, g2, g3, h3']
  · simp [goes, g1])
end
section
variable {h : Heap} {Q : AHp} {p : Nat} {has : Bool} {done : List ED} {mark : ED}
theorem loop17 {q : OSl} {l : List Rf} (hL : HasL refE h q l) (hl : l.length <= 256) {kp : Prop} (hkp : kp) (hQ : Q (.bool (l.all kM)) h) :
 ∃ (I9 : LHp) (m10 : LHn), I9 [.int .i64 0] h /\
 ∀ n8 : Int, ∀ h11 : Heap, I9 [.int .i64 n8] h11 ->
 vif (decide (n8 < (zJ q : Int)))
 (vIdx q n8 3 fun p12 =>
 ∃ s13 : List UInt8, ∃ n14 n15 : Int, zA h11 p12 3 = some [.str s13, .int .i64 n14, .int .i64 n15] /\
 vif (decide ((s13.length : Int) < 1))
 (Q (.bool false) h11)
 (vif (decide ((s13.length : Int) > 24))
 (Q (.bool false) h11)
 (vif (decide (n14 < 1))
 (Q (.bool false) h11)
 (vif (decide (n14 > 2305843009213693952))
 (Q (.bool false) h11)
 (vif (decide (n15 < 0))
 (Q (.bool false) h11)
 (vif (decide (n15 > 16384))
 (Q (.bool false) h11)
 (kp /\ I9 [.int .i64 (zE .i64 (n8 + 1))] h11 /\ m10 [.int .i64 (zE .i64 (n8 + 1))] h11 < m10 [.int .i64 n8] h11)))))))
 (Q (.bool true) h11) := by
  have hlen := hL.len
  refine ⟨fun xs h9 => h9 = h /\ ∃ i : Nat, xs = [.int .i64 i] /\ i <= l.length /\ (l.take i).all kM = true, fun xs _ => match xs with | [.int _ i] => (l.length - i).toNat | _ => 0, ⟨rfl, 0, rfl, by omega, by simp⟩, ?_⟩
  rintro i h9 ⟨rfl, i', hx, h0, hall⟩
  simp only [List.cons.injEq, AV.int.injEq, true_and, and_true] at hx
  subst hx
  refine zB (fun h1 => ?_) (fun h1 => ?_)
  · simp only [decide_eq_true_eq] at h1
    refine hL.idx (by omega) (by omega) fun pp x hx hc => ?_
    have hx' : l[i']? = some x := by simpa using hx
    refine ⟨x.1, x.2.1, x.2.2, hc, ?_⟩
    have bad : kM x = false -> Q (.bool false) h9 := by
      intro hb
      have : l.all kM = false := by rw [List.all_eq_false]; exact ⟨x, List.mem_of_getElem? hx', by simpa using hb⟩
      rw [this] at hQ; exact hQ
    refine zB (fun g1 => bad ?_) fun g1 => zB (fun g2 => bad ?_) fun g2 => zB (fun g3 => bad ?_) fun g3 => zB (fun g4 => bad ?_) fun g4 => zB (fun g5 => bad ?_) fun g5 => zB (fun g6 => bad ?_) fun g6 => ?_
    all_goals simp only [decide_eq_true_eq, decide_eq_false_iff_not] at g1
    rotate_right
    · simp only [decide_eq_false_iff_not] at g2 g3 g4 g5 g6
      have hok : kM x = true := by
        unfold kM
        have e1 : decide (1 <= x.1.length) = true := by simp; omega
        have e2 : decide (x.1.length <= 24) = true := by simp; omega
        have e3 : decide (1 <= x.2.1) = true := by simp; omega
        have e4 : decide (x.2.1 <= 2305843009213693952) = true := by simp; omega
        have e5 : decide (0 <= x.2.2) = true := by simp; omega
        have e6 : decide (x.2.2 <= 16384) = true := by simp; omega
        rw [e1, e2, e3, e4, e5, e6]; rfl
      rw [zF ⟨by omega, by omega⟩]
      refine ⟨hkp, ⟨rfl, i' + 1, by simp, by omega, zCB hx' hall hok⟩, ?_⟩
      simp only; omega
    all_goals
      unfold kM
      simp only [decide_eq_true_eq, decide_eq_false_iff_not, Bool.and_eq_false_iff] at *
      omega
  · simp only [decide_eq_false_iff_not] at h1
    have : i' = l.length := by omega
    subst this
    rw [List.take_length] at hall
    rw [hall] at hQ; exact hQ
theorem u253 {e : EV} {d : ED} (hR : EdR h e d) (hQ : Q (.bool (chk d)) h) : AC Tryz.prog 253 [evV e] h Q := ac253 (by
  obtain ⟨r1, r2, r3, hL⟩ := hR
  have hlen := hL.len
  have key : ∀ x : Bool, x = chk d -> Q (.bool x) h := fun x hx => hx ▸ hQ
  unfold vc253
  rw [r1, r2, r3]
  have fin : (d.1 == 1 || (d.1 == 2 && d.2.2.1 == 0)) = true -> atOk d.2.1 d.2.2.1 = true -> decide ((zJ e.2.2.2 : Int) > 256) = false -> Q (.bool (d.2.2.2.all kM)) h := by
    intro g1 g2 g3
    refine key _ ?_
    simp only [decide_eq_false_iff_not] at g3
    have e3 : decide (d.2.2.2.length <= 256) = true := by simp; omega
    unfold chk
    rw [g1, g2, e3]; simp
  have h256 : decide ((zJ e.2.2.2 : Int) > 256) = true -> chk d = false := by
    intro g
    simp only [decide_eq_true_eq] at g
    have e3 : decide (d.2.2.2.length <= 256) = false := by simp; omega
    simp [chk, e3]
  have hl' : decide ((zJ e.2.2.2 : Int) > 256) = false -> d.2.2.2.length <= 256 := by
    intro g; simp only [decide_eq_false_iff_not] at g; omega
  refine zB (fun g1 => zB (fun g2 => key _ ?_) fun g2 => u206 ⟨_, rfl, ?_⟩) fun g1 => u206 ⟨_, rfl, ?_⟩
  · have e1 : (d.1 == 1) = false := by simpa using g1
    have e2 : (d.1 == 2) = false := by simpa using g2
    unfold chk; rw [e1, e2]; simp
  · have e2 : (d.1 == 2) = true := by simpa using g2
    refine zB (fun g3 => key _ ?_) fun g3 => ?_
    · simp only [Bool.not_eq_true'] at g3; simp [chk, g3]
    have e3 : atOk d.2.1 d.2.2.1 = true := by simpa using g3
    refine zB (fun _ => ?_) fun g4 => (by rw [e2] at g4; cases g4)
    refine zB (fun g5 => key _ ?_) fun g5 => ?_
    · have e1 : (d.1 == 1) = false := by simpa using g1
      have e5 : (d.2.2.1 == 0) = false := by simpa using g5
      unfold chk; rw [e1, e5]; simp
    have e5 : (d.2.2.1 == 0) = true := by simpa using g5
    refine zB (fun g6 => key _ (h256 g6).symm) fun g6 => ?_
    exact loop17 hL (hl' g6) ⟨rfl, trivial⟩ (fin (by rw [e2, e5]; simp) e3 g6)
  · have e1 : (d.1 == 1) = true := by simpa using g1
    have e2 : (d.1 == 2) = false := by
      have : d.1 = 1 := by simpa using e1
      rw [this]; rfl
    refine zB (fun g3 => key _ ?_) fun g3 => ?_
    · simp only [Bool.not_eq_true'] at g3; simp [chk, g3]
    have e3 : atOk d.2.1 d.2.2.1 = true := by simpa using g3
    refine zB (fun g4 => (by rw [e2] at g4; cases g4)) fun _ => ?_
    refine zB (fun g6 => key _ (h256 g6).symm) fun g6 => ?_
    exact loop17 hL (hl' g6) ⟨rfl, trivial⟩ (fin (by rw [e1]; rfl) e3 g6))
end
theorem zA6 {α : Type} {E : Enc α} {h : Heap} {a : Nat} {q : OSl} {l : List α} {by' : Nat} {K : OSl -> Heap -> Prop} (ha : h[a]? = some (.cells [] true)) (H : HasL E h q l) (hb : l.length * by' <= 140737488355328)
    (hK : ∀ q' h', Ext h h' -> OwnL E h' q' l -> (∀ s, q' = some s -> s.b = a ∨ h.length <= s.b) -> K q' h') : zC E.sz by' (some ⟨a, 0, 0, 0, 0⟩) q h K := by
  refine ⟨E.all l, H.cells, by rw [Enc.all_length, H.len], ?_⟩
  rw [H.len]
  simp only [Nat.zero_add, Nat.zero_mul]
  split
  · rename_i h0
    have : l = [] := List.eq_nil_of_length_eq_zero (by omega)
    subst this
    rw [ha]
    have e0 : E.all ([] : List α) = [] := rfl
    simp only [e0, jP, List.length_nil]
    have hs : h.set a (.cells [] true) = h := zAE ha
    rw [hs]
    exact ⟨by simp, hK _ _ (.refl _) (.inl ⟨rfl, a, rfl, ha⟩) (fun s hs => by cases hs; exact .inl rfl)⟩
  · rename_i h0
    refine ⟨hb, E.pos, ?_⟩
    have hc : zA h ⟨a, 0⟩ 0 = some [] := by simp [zA, ha]
    rw [hc, ha]
    simp only [if_true, List.nil_append]
    refine hK _ _ (.app _ _) (.inr ⟨fun h => h0 (by rw [h]; simp), h.length, rfl, by simp⟩) (fun s hs => by cases hs; exact .inr (Nat.le_refl _))
theorem zA9 {α : Type} {E : Enc α} {h : Heap} {q src : OSl} {l : List α} {x : α} {by' : Nat} {K : OSl -> Heap -> Prop} (O : OwnL E h q l) (H : HasL E h src [x]) (hb : (l.length + 1) * by' <= 140737488355328)
    (hK : ∀ q' h', OwnL E h' q' (l ++ [x]) -> zM (fun b => ∃ s, q = some s /\ s.b = b) h h' -> h.length <= h'.length -> (∀ s', q' = some s' -> h.length <= s'.b) -> K q' h') : zC E.sz by' q src h K := by
  refine ⟨E.all [x], H.cells, by rw [Enc.all_length, H.len], ?_⟩
  rw [H.len]
  rcases O with ⟨rfl, a, rfl, ha⟩ | ⟨hne, a, rfl, ha⟩
  · simp only [List.length_cons, List.length_nil]
    rw [if_neg (by omega)]
    have hc : zA h ⟨a, 0⟩ (0 * E.sz) = some [] := by simp [zA, ha]
    simp only [List.length_nil] at hb
    refine ⟨hb, E.pos, ?_⟩
    rw [hc, ha]
    simp only [if_true, List.nil_append]
    exact hK _ _ (.inr ⟨by simp, h.length, rfl, by simp⟩) (zK (Ext.app _ _)) (by simp) (fun s hs => by cases hs; exact Nat.le_refl _)
  · simp only [List.length_cons, List.length_nil]
    rw [if_neg (by omega)]
    have hc : zA h ⟨a, 0⟩ (l.length * E.sz) = some (E.all l) := by
      rw [zQ (p := ⟨a, 0⟩) ha (by simp [Enc.all_length])]
      simp [<- Enc.all_length]
    refine ⟨hb, E.pos, ?_⟩
    rw [hc, ha]
    simp only
    rw [if_neg (by have := E.pos; omega)]
    refine ⟨trivial, trivial, hK _ _ (.inr ⟨by simp, h.length, by simp, ?_⟩) ?_ (by simp) (fun s hs => by cases hs; exact Nat.le_refl _)⟩
    · rw [List.getElem?_append_right (by simp)]
      simp [Enc.all_append]
    · refine zM.trans ?_ (zK (Ext.app _ _))
      intro b B hb hB
      rw [List.getElem?_set, if_neg]
      · exact hB
      · intro he; exact hb ⟨_, rfl, he⟩
section
variable {h : Heap} {Q : AHp} {p : Nat} {has : Bool} {done : List ED} {mark : ED}
theorem u193 {D : Nat -> Prop} (S : RefS h D p has done mark) (hD : ∀ b, D b -> b < h.length) {e : EV} {d : ED} (hR : EdR h e d) (hp : ∀ s, e.2.2.2 = some s -> ¬ D s.b /\ s.b ≠ p) (hd : done.length <= 100)
    (hno : (chk d && goes has done mark d) = false -> Q (.int .i64 (resV has done mark d)) h)
    (hgo : ∀ h', (chk d && goes has done mark d) = true -> RefS h' D p (nHas d) (xV done d) (kQ d) -> zM (fun b => b = p) h h' -> h.length <= h'.length -> Q (.int .i64 0) h') : AC Tryz.prog 193 [.ptr (some ⟨p, 0⟩), evV e] h Q := ac193 (by
  have S0 := S.view
  obtain ⟨qd, m, L, h1, h2, h3, h4, h5, h6, h7, h8, h9, h10⟩ := S
  have r1 : e.1 = d.1 := hR.1
  unfold vc193
  refine u253 (e := e) hR ⟨_, rfl, ?_⟩
  cases hc : chk d with
  | false =>
    simp only [hc, Bool.false_eq_true, if_false, resV, Bool.false_and] at hno
    simp only [Bool.not_false, vif]
    exact hno trivial
  | true =>
  simp only [Bool.not_true, vif]
  refine u254 S0 (e := e) hR ⟨_, rfl, zB (fun g2 => ?_) fun g2 => ?_⟩
  · simp only [Bool.not_eq_true'] at g2
    simp only [hc, g2, resV, if_true, Bool.false_eq_true, if_false, Bool.and_false] at hno
    exact hno trivial
  have hg : goes has done mark d = true := by simpa using g2
  have hyes : (chk d && goes has done mark d) = true := by rw [hc, hg]; rfl
  have hrefs : d.2.2.2.length <= 256 := by
    simp only [chk, Bool.and_eq_true, decide_eq_true_eq] at hc
    exact hc.1.2
  have hpl := zD h1
  have live4 := HasL.live h4
  have hrl := HasL.live hR.2.2.2
  rw [r1]
  refine zB (fun g3 => ?_) (fun g3 => ?_)
  · have g3' : (d.1 == 2) = true := g3
    have e1 : nHas d = false := by simp [nHas, g3']
    have e2 : xV done d = done ++ [d] := by simp [xV, g3']
    have e3 : kQ d = xQ := by simp [kQ, g3']
    have tail : ∀ (q20 : OSl) (h21 : Heap), Ext h h21 -> OwnL edE h21 q20 (L ++ [e]) -> (∀ s, q20 = some s -> h.length <= s.b) ->
        vPtr (some (⟨p, 0⟩ : PA)) fun p22 => zI h21 ⟨p22.b, p22.o + 0⟩ [.sl q20] fun h23 => vPtr (some (⟨p, 0⟩ : PA)) fun p24 => zI h23 ⟨p24.b, p24.o + 1⟩ [.int .i64 0, .int .i64 0, .int .i64 0, .sl none] fun h25 => vPtr (some (⟨p, 0⟩ : PA)) fun p26 => zI h25 ⟨p26.b, p26.o + 5⟩ [.bool false] fun h27 => Q (.int .i64 0) h27 := by
      intro q20 h21 hx O hq
      have p21 := hx _ _ h1
      have hpl21 := zD p21
      have hl21 := hx.len
      refine yD p21 (o := 0) ?_ ?_
      · simp
      have p23 : (h21.set p (.cells (splice [.sl qd, .int .i64 m.1, .int .i64 m.2.1, .int .i64 m.2.2.1, .sl m.2.2.2, .bool has] 0 [.sl q20]) true))[p]? = some (.cells [.sl q20, .int .i64 m.1, .int .i64 m.2.1, .int .i64 m.2.2.1, .sl m.2.2.2, .bool has] true) := by
        rw [List.getElem?_set_self hpl21]; rfl
      refine yD p23 (o := 1) ?_ ?_
      · simp
      rw [List.set_set]
      have p25 : (h21.set p (.cells (splice [.sl q20, .int .i64 m.1, .int .i64 m.2.1, .int .i64 m.2.2.1, .sl m.2.2.2, .bool has] 1 [.int .i64 0, .int .i64 0, .int .i64 0, .sl none]) true))[p]? = some (.cells [.sl q20, .int .i64 0, .int .i64 0, .int .i64 0, .sl none, .bool has] true) := by
        rw [List.getElem?_set_self hpl21]; rfl
      refine yD p25 (o := 5) ?_ ?_
      · simp
      rw [List.set_set]
      have Kset : zM (fun b => b = p) h21 (h21.set p (.cells (splice [.sl q20, .int .i64 0, .int .i64 0, .int .i64 0, .sl none, .bool has] 5 [.bool false]) true)) := zT rfl
      have Kall : zM (fun b => b = p) h (h21.set p (.cells (splice [.sl q20, .int .i64 0, .int .i64 0, .int .i64 0, .sl none, .bool has] 5 [.bool false]) true)) := (zK hx).trans Kset
      refine hgo _ hyes ?_ Kall (by simp; omega)
      rw [e1, e2, e3]
      refine ⟨q20, zK7, L ++ [e], ?_, h2, fun s hs => ⟨fun hd => by have := hD _ hd; have := hq s hs; omega, by have := hq s hs; omega⟩, Kset.hasL (fun s hs => by have := hq s hs; omega) O.hasL, by simp [h5], ?_, ⟨rfl, rfl, rfl, rfl⟩, fun s hs => (by cases hs), ?_, by simp⟩
      · rw [List.getElem?_set_self hpl21]; rfl
      · intro j x y hj hy
        rw [List.getElem?_append] at hj hy
        split at hj
        · rw [if_pos (by omega)] at hy
          obtain ⟨r, c⟩ := h6 j x y hj hy
          exact ⟨Kall.edR (fun s hs => (c s hs).2) r, c⟩
        · rw [if_neg (by omega)] at hy
          have j0 : j - L.length = 0 := by have := zD hj; simp at this; omega
          have y0 : j - done.length = 0 := by omega
          rw [j0] at hj
          rw [y0] at hy
          simp at hj hy
          subst hj hy
          exact ⟨Kall.edR (fun s hs => (hp s hs).2) hR, hp⟩
      · intro x hx'
        rcases List.mem_append.1 hx' with hx' | hx'
        · exact h9 x hx'
        · simp at hx'; subst hx'; exact hrefs
    have ecells : [AV.int .i64 d.1, .int .i64 e.2.1, .int .i64 e.2.2.1, .sl e.2.2.2] = edE.all [e] := by rw [<- r1]; simp [Enc.all, edE]
    have rd : ∀ h' : Heap, Ext h h' -> ∃ q, zA h' ⟨p, 0 + 0⟩ 1 = some [.sl q] /\ LV.val (.sl q) = LV.val (.sl qd) := fun h' hx => ⟨qd, zZ (hx _ _ h1) (o := 0) (k := 1) (by simp), rfl⟩
    have fin : ∀ (h19 : Heap) (q16 : OSl) (a18 : Nat), Ext h h19 -> OwnL edE h19 q16 L -> (∀ s, q16 = some s -> h.length <= s.b) -> h19[a18]? = some (.cells (edE.all [e]) true) -> zC 4 48 q16 (some ⟨a18, 0, 1, 1, 0⟩) h19 fun q20 h21 => vPtr (some (⟨p, 0⟩ : PA)) fun p22 => zI h21 ⟨p22.b, p22.o + 0⟩ [.sl q20] fun h23 => vPtr (some (⟨p, 0⟩ : PA)) fun p24 => zI h23 ⟨p24.b, p24.o + 1⟩ [.int .i64 0, .int .i64 0, .int .i64 0, .sl none] fun h25 => vPtr (some (⟨p, 0⟩ : PA)) fun p26 => zI h25 ⟨p26.b, p26.o + 5⟩ [.bool false] fun h27 => Q (.int .i64 0) h27 := by
      intro h19 q16 a18 hx O hq ha
      have hsrc : HasL edE h19 (some ⟨a18, 0, 1, 1, 0⟩) [e] := by
        refine ⟨rfl, Nat.le_refl _, .inl rfl, ?_⟩
        rw [zQ (p := ⟨a18, 0⟩) ha (by simp [Enc.all_length])]
        simp [Enc.all, edE]
      refine zA9 (E := edE) O hsrc (by omega) fun q20 h21 O2 K2 hl2 hq2 => tail q20 h21 ?_ O2 (fun s hs => by have := hq2 s hs; have := hx.len; omega)
      intro b B hB
      exact K2 b B (fun ⟨s, a1, a2⟩ => by have := hq s a1; have := zD hB; omega) (hx _ _ hB)
    refine ⟨qd, zZ h1 (o := 0) (k := 1) (by simp), ?_⟩
    unfold PNew
    rw [ecells]
    refine ⟨⟨trivial, rd _ (.app _ _), ?_, ?_⟩, ?_⟩
    · refine zA6 (E := edE) (a := h.length) (by simp) (h4.mono (Ext.app _ _)) (by omega) fun q16 h17 hx O hq => ⟨trivial, rd _ (((Ext.app _ _).trans hx).trans (Ext.app _ _)), ?_⟩
      refine fin _ q16 _ (((Ext.app _ _).trans hx).trans (Ext.app _ _)) (O.ext (Ext.app _ _)) (fun s hs => ?_) (by simp)
      rcases hq s hs with a | a
      · omega
      · simp at a; omega
    · refine ⟨rd _ ((Ext.app _ _).trans (Ext.app _ _)), ?_⟩
      refine zA6 (E := edE) (a := h.length) (by rw [List.getElem?_append_left (by simp)]; simp) ((h4.mono (Ext.app _ _)).mono (Ext.app _ _)) (by omega) fun q16 h17 hx O hq => ⟨trivial, ?_⟩
      refine fin _ q16 _ (((Ext.app _ _).trans (Ext.app _ _)).trans hx) O (fun s hs => ?_) (hx _ _ (by simp))
      rcases hq s hs with a | a
      · omega
      · simp at a; omega
    · refine ⟨rd _ (.app _ _), trivial, rd _ ((Ext.app _ _).trans (Ext.app _ _)), ?_⟩
      refine zA6 (E := edE) (a := (h ++ [Blk.cells (edE.all [e]) true]).length) (by simp) ((h4.mono (Ext.app _ _)).mono (Ext.app _ _)) (by omega) fun q16 h17 hx O hq => ⟨trivial, ?_⟩
      refine fin _ q16 _ (((Ext.app _ _).trans (Ext.app _ _)).trans hx) O (fun s hs => ?_) (hx _ _ (by rw [List.getElem?_append_left (by simp)]; simp))
      rcases hq s hs with a | a
      · simp at a; omega
      · simp at a; omega
  · have g3' : (d.1 == 2) = false := g3
    have e1 : nHas d = true := by simp [nHas, g3']
    have e2 : xV done d = done := by simp [xV, g3']
    have e3 : kQ d = d := by simp [kQ, g3']
    refine yD h1 (o := 1) ?_ ?_
    · simp
    have p60 : (h.set p (.cells (splice [.sl qd, .int .i64 m.1, .int .i64 m.2.1, .int .i64 m.2.2.1, .sl m.2.2.2, .bool has] 1 [.int .i64 d.1, .int .i64 e.2.1, .int .i64 e.2.2.1, .sl e.2.2.2]) true))[p]? = some (.cells [.sl qd, .int .i64 e.1, .int .i64 e.2.1, .int .i64 e.2.2.1, .sl e.2.2.2, .bool has] true) := by
      rw [List.getElem?_set_self hpl, r1]; rfl
    refine yD p60 (o := 5) ?_ ?_
    · simp
    rw [List.set_set]
    have Kset : zM (fun b => b = p) h (h.set p (.cells (splice [.sl qd, .int .i64 e.1, .int .i64 e.2.1, .int .i64 e.2.2.1, .sl e.2.2.2, .bool has] 5 [.bool true]) true)) := zT rfl
    refine hgo _ hyes ?_ Kset (by simp)
    rw [e1, e2, e3]
    refine ⟨qd, e, L, ?_, h2, h3, Kset.hasL (fun s hs => (h3 s hs).2) h4, h5, ?_, Kset.edR (fun s hs => (hp s hs).2) hR, hp, h9, hrefs⟩
    · rw [List.getElem?_set_self hpl]; rfl
    · intro j x y hj hy
      obtain ⟨r, c⟩ := h6 j x y hj hy
      exact ⟨Kset.edR (fun s hs => (c s hs).2) r, c⟩)
theorem u251 (S : StV h p has done mark) (hd : done.length <= 100) (hQ : ∀ q h', Ext h h' -> InL h' q (yF has done mark) -> Q (.sl q) h') : AC Tryz.prog 251 [.ptr (some ⟨p, 0⟩)] h Q := ac251 (by
  obtain ⟨qd, m, h1, ⟨L, g, hL, he⟩, h3, h7, h8⟩ := S
  unfold vc251 PNew
  have hx0 : Ext h (h ++ [.cells [] true]) := .app _ _
  refine ⟨qd, zZ (hx0 _ _ h1) (o := 0) (k := 1) (by simp), ?_⟩
  refine zA6 (E := edE) (a := h.length) (by simp) (g.mono hx0) (by omega) fun q6 h7' hx O hq => ?_
  have hx1 := hx0.trans hx
  refine ⟨has, zZ (hx1 _ _ h1) (o := 5) (k := 1) (by simp), ?_⟩
  have old : ∀ h', Ext h h' -> ∀ (j : Nat) (e : EV) (d : ED), L[j]? = some e -> done[j]? = some d -> EdR h' e d := fun h' hx j e d a b => by
    have r := he j e d a b
    exact ⟨r.1, r.2.1, r.2.2.1, r.2.2.2.mono hx⟩
  have hown : ∀ s, q6 = some s -> h.length <= s.b := fun s hs => by
    rcases hq s hs with a | a
    · omega
    · simp at a; omega
  cases has with
  | true =>
    simp only [vif]
    refine ⟨m.1, m.2.1, m.2.2.1, m.2.2.2, zZ (hx1 _ _ h1) (o := 1) (k := 4) (by simp), ?_⟩
    have hx2 : Ext h7' (h7' ++ [.cells [.int .i64 m.1, .int .i64 m.2.1, .int .i64 m.2.2.1, .sl m.2.2.2] true]) := .app _ _
    have hsrc : HasL edE (h7' ++ [.cells [.int .i64 m.1, .int .i64 m.2.1, .int .i64 m.2.2.1, .sl m.2.2.2] true]) (some ⟨h7'.length, 0, 1, 1, 0⟩) [m] := HasL.new (E := edE) (l := [m]) rfl (by simp [Enc.all, edE])
    refine zA9 (E := edE) (O.ext hx2) hsrc (by omega) fun q2 h18 O2 K2 hl2 hq2 => hQ q2 h18 ?_ ?_
    · intro b B hB
      exact K2 b B (fun ⟨s, a1, a2⟩ => by have := hown s a1; have := zD hB; omega) (hx2 _ _ (hx1 _ _ hB))
    · have hxx : Ext h h18 := fun b B hB => K2 b B (fun ⟨s, a1, a2⟩ => by have := hown s a1; have := zD hB; omega) (hx2 _ _ (hx1 _ _ hB))
      refine ⟨L ++ [m], O2.hasL, by simp [yF, hL], fun j e d a b => ?_⟩
      simp only [yF, if_true] at b
      rw [List.getElem?_append] at a b
      split at a
      · rw [if_pos (by omega)] at b; exact old h18 hxx j e d a b
      · rw [if_neg (by omega)] at b
        have j0 : j - L.length = 0 := by have := zD a; simp at this; omega
        have y0 : j - done.length = 0 := by omega
        rw [j0] at a
        rw [y0] at b
        simp at a b
        subst a b
        exact ⟨h3.1, h3.2.1, h3.2.2.1, h3.2.2.2.mono hxx⟩
  | false =>
    simp only [vif]
    refine hQ q6 h7' hx1 ⟨L, O.hasL, by simp [yF, hL], fun j e d a b => ?_⟩
    simp only [yF, Bool.false_eq_true, if_false, List.append_nil] at b
    exact old h7' hx1 j e d a b)
end
end Go.Proofs.YtnglhicedhcpbaaGreatDoor
