import Derived.Test.YtnglhicedhcpbaaGreatDoorKG10
import Derived.Test.YtnglhicedhcpbaaGreatDoorKG11
import Derived.Test.YtnglhicedhcpbaaGreatDoorKG18
import Derived.Test.YtnglhicedhcpbaaGreatDoorKG19
import Derived.Test.YtnglhicedhcpbaaGreatDoorKG24
namespace Go.Proofs.YtnglhicedhcpbaaGreatDoor
open Go.Ab
set_option linter.unusedVariables false
set_option linter.unusedSimpArgs false
def refE : Enc (List UInt8 × Int × Int) := ⟨3, fun r => [.str r.1, .int .i64 r.2.1, .int .i64 r.2.2], fun _ => rfl, by omega, fun _ => rfl⟩
abbrev Rf := List UInt8 × Int × Int
abbrev ED := Int × Int × Int × List Rf
abbrev EV := Int × Int × Int × Option SL
def edE : Enc EV := ⟨4, fun e => [.int .i64 e.1, .int .i64 e.2.1, .int .i64 e.2.2.1, .sl e.2.2.2], fun _ => rfl, by omega, fun _ => rfl⟩
abbrev evV (e : EV) : AV := .agg [.int .i64 e.1, .int .i64 e.2.1, .int .i64 e.2.2.1, .sl e.2.2.2]
abbrev zeroV : EV := (0, 0, 0, none)
abbrev zeroD : ED := (0, 0, 0, [])
def EdR (h : Heap) (e : EV) (d : ED) : Prop := e.1 = d.1 ∧ e.2.1 = d.2.1 ∧ e.2.2.1 = d.2.2.1 ∧ HasL refE h e.2.2.2 d.2.2.2
def refOk (r : Rf) : Bool := decide (1 ≤ r.1.length) && decide (r.1.length ≤ 24) && decide (1 ≤ r.2.1) && decide (r.2.1 ≤ 2305843009213693952) && decide (0 ≤ r.2.2) && decide (r.2.2 ≤ 16384)
def atOk (a b : Int) : Bool := decide (0 ≤ a) && decide (a < 65536) && decide (0 ≤ b) && decide (b < 65536)
def chk (d : ED) : Bool := (d.1 == 1 || (d.1 == 2 && d.2.2.1 == 0)) && atOk d.2.1 d.2.2.1 && decide (d.2.2.2.length ≤ 256) && d.2.2.2.all refOk
theorem take_succ_all {α : Type} {p : α → Bool} {l : List α} {i : Nat} {x : α} (hx : l[i]? = some x) (h : (l.take i).all p = true) (hp : p x = true) : (l.take (i + 1)).all p = true := by
  rw [List.take_add_one, hx, List.all_append, h]
  simp [hp]
section
variable {h : Heap} {Q : AV → Heap → Prop}
theorem t186 {a b : Int} (hQ : ∀ n : Int, (n = 0 ↔ atOk a b = true) → Q (.int .i64 n) h) : AC Tryz.prog 186 [.agg [.int .i64 a, .int .i64 b]] h Q := ac186 (by
  unfold vc186
  refine vif_mk (fun h1 => hQ _ ?_) fun h1 => vif_mk (fun h2 => hQ _ ?_) fun h2 => vif_mk (fun h3 => hQ _ ?_) fun h3 => vif_mk (fun h4 => hQ _ ?_) fun h4 => hQ _ ?_
  all_goals simp [atOk] at *
  all_goals omega)
theorem t185 {r : Rf} (hQ : Q (.bool (refOk r)) h) : AC Tryz.prog 185 [.agg [.str r.1, .int .i64 r.2.1, .int .i64 r.2.2]] h Q := ac185 (by
  unfold vc185
  have key : ∀ b : Bool, b = refOk r → Q (.bool b) h := fun b hb => hb ▸ hQ
  refine vif_mk (fun h1 => vif_mk (fun h2 => vif_mk (fun h3 => vif_mk (fun h4 => vif_mk (fun h5 => key _ ?_) fun h5 => key _ ?_) fun h4 => key _ ?_) fun h3 => key _ ?_) fun h2 => key _ ?_) fun h1 => key _ ?_
  all_goals simp only [decide_eq_true_eq, decide_eq_false_iff_not] at *
  all_goals unfold refOk
  · have e1 : decide (1 ≤ r.1.length) = true := by simp; omega
    have e2 : decide (r.1.length ≤ 24) = true := by simp; omega
    have e3 : decide (1 ≤ r.2.1) = true := by simp; omega
    have e4 : decide (r.2.1 ≤ 2305843009213693952) = true := by simp; omega
    have e5 : decide (0 ≤ r.2.2) = true := by simp; omega
    rw [e1, e2, e3, e4, e5]; simp
  all_goals
    symm
    simp only [Bool.and_eq_false_iff, decide_eq_false_iff_not]
    omega)
theorem t184 {r : Rf} (hQ : Q (.bool (!refOk r)) h) : AC Tryz.prog 184 [.agg [.str r.1, .int .i64 r.2.1, .int .i64 r.2.2]] h Q := ac184 (by
  unfold vc184
  exact t185 ⟨_, rfl, hQ⟩)
theorem t244 {q : Option SL} {l : List Rf} (hL : HasL refE h q l) (hl : l.length ≤ 256) (hQ : ∀ n : Int, (0 ≤ n ↔ l.all refOk = false) → Q (.int .i64 n) h) : AC Tryz.prog 244 [.sl q, .func (.func 184) [] []] h Q := ac244 (by
  unfold vc244
  have hlen := hL.len
  refine ⟨fun xs h9 => h9 = h ∧ ∃ i : Nat, xs = [.int .i64 i] ∧ i ≤ l.length ∧ (l.take i).all refOk = true, fun xs _ => match xs with | [.int _ i] => (l.length - i).toNat | _ => 0, ⟨rfl, 0, rfl, by omega, by simp⟩, ?_⟩
  rintro i h9 ⟨rfl, i', hx, h0, hall⟩
  simp only [List.cons.injEq, AV.int.injEq, true_and, and_true] at hx
  subst hx
  refine vif_mk (fun h1 => ?_) (fun h1 => hQ _ ?_)
  · simp only [decide_eq_true_eq] at h1
    refine hL.idx (by omega) (by omega) fun p x hx hc => ?_
    refine ⟨x.1, x.2.1, x.2.2, hc, t184 ⟨_, rfl, ?_⟩⟩
    have hx' : l[i']? = some x := by simpa using hx
    refine vif_mk (fun h2 => hQ _ ?_) (fun h2 => ?_)
    · refine ⟨fun _ => ?_, fun _ => by omega⟩
      have : x ∈ l := List.mem_of_getElem? hx'
      rw [List.all_eq_false]
      exact ⟨x, this, by simpa using h2⟩
    · rw [wrapK_i64 ⟨by omega, by omega⟩]
      refine ⟨trivial, ⟨rfl, i' + 1, by simp, by omega, take_succ_all hx' hall (by simpa using h2)⟩, ?_⟩
      simp only; omega
  · simp only [decide_eq_false_iff_not] at h1
    have : i' = l.length := by omega
    subst this
    rw [List.take_length] at hall
    simp [hall])
theorem t187 {q : Option SL} {l : List Rf} (hL : HasL refE h q l) (hl : l.length ≤ 256) (hQ : Q (.bool (!l.all refOk)) h) : AC Tryz.prog 187 [.sl q, .func (.func 184) [] []] h Q := ac187 (by
  unfold vc187
  refine t244 hL hl fun n hn => ⟨n, rfl, ?_⟩
  have : decide (n ≥ 0) = !l.all refOk := by
    cases ha : l.all refOk with
    | false =>
      have : 0 ≤ n := hn.2 ha
      simpa using this
    | true =>
      have : ¬ 0 ≤ n := fun h => by have := hn.1 h; rw [ha] at this; cases this
      simpa using this
  rw [this]; exact hQ)
end
end Go.Proofs.YtnglhicedhcpbaaGreatDoor
namespace Go.Ab
open Go.Proofs.YtnglhicedhcpbaaGreatDoor
theorem Keeps.edR {X : Nat → Prop} {h h' : Heap} (K : Keeps X h h') {e : EV} {d : ED} (hq : ∀ s, e.2.2.2 = some s → ¬ X s.b) (H : EdR h e d) : EdR h' e d := ⟨H.1, H.2.1, H.2.2.1, K.hasL hq H.2.2.2⟩
end Go.Ab
namespace Go.Proofs.YtnglhicedhcpbaaGreatDoor
open Go.Ab
set_option linter.unusedVariables false
set_option linter.unusedSimpArgs false
def Grow {α : Type} (E : Enc α) (h : Heap) (q : Option SL) (l : List α) : Prop := Acc E [] h q l
theorem Grow.start {α : Type} {E : Enc α} (h : Heap) : Grow E h none ([] : List α) := ⟨fun b B hb => by simp at hb, rfl⟩
theorem Grow.keeps {α : Type} {E : Enc α} {h h' : Heap} {q : Option SL} {l : List α} {X : Nat → Prop} (G : Grow E h q l) (K : Keeps X h h') (hq : ∀ s, q = some s → ¬ X s.b) : Grow E h' q l := by
  refine ⟨fun b B hb => by simp at hb, ?_⟩
  have := G.2
  cases q with
  | none => exact this
  | some s => obtain ⟨b0, b1, b2, b3, b4, b5⟩ := this; exact ⟨b0, b1, b2, b3, b4, K _ _ (hq s rfl) b5⟩
theorem Grow.append {α : Type} {E : Enc α} {h : Heap} {q src : Option SL} {l m : List α} {by' : Nat} {K : Option SL → Heap → Prop} (A : Grow E h q l) (H : HasL E h src m) (hb : (l.length + m.length) * by' ≤ 140737488355328)
    (hK : ∀ q' h', Grow E h' q' (l ++ m) → Keeps (fun b => ∃ s, q = some s ∧ s.b = b) h h' → h.length ≤ h'.length → (∀ s', q' = some s' → h.length ≤ s'.b ∨ ∃ s, q = some s ∧ s.b = s'.b) → K q' h') : PAppendS E.sz by' q src h K := by
  refine ⟨E.all m, H.cells, by rw [Enc.all_length, H.len], ?_⟩
  rw [H.len]
  have hnil : ∀ h' : Heap, Ext [] h' := fun h' b B hb => by simp at hb
  obtain ⟨hx, A⟩ := A
  cases q with
  | none =>
    simp only at A
    subst A
    simp only
    split
    · rename_i hm
      have : m = [] := List.eq_nil_of_length_eq_zero hm
      subst this
      exact hK _ _ ⟨hx, rfl⟩ (.refl _ _) (Nat.le_refl _) (fun s' h => by cases h)
    · refine ⟨by simpa using hb, E.pos, hK _ _ ⟨hnil _, ?_⟩ (keeps_of_ext (Ext.app _ _)) (by simp) (fun s' h => by cases h; exact .inl (Nat.le_refl _))⟩
      exact ⟨Nat.zero_le _, rfl, by simp, by simp, rfl, by simp⟩
  | some s =>
    simp only at A ⊢
    obtain ⟨b0, b1, b2, b3, b4, b5⟩ := A
    have hset : ∀ B : Blk, Keeps (fun b => ∃ s', some s = some s' ∧ s'.b = b) h (h.set s.b B) := by
      intro B b C hb hC
      rw [List.getElem?_set, if_neg]
      · exact hC
      · intro he; exact hb ⟨s, rfl, he⟩
    split
    · rename_i hle
      have hm : m.length = 0 := by omega
      have : m = [] := List.eq_nil_of_length_eq_zero hm
      subst this
      rw [b5]
      simp only
      have e0 : E.all ([] : List α) = [] := rfl
      refine ⟨by simp [b1, b2, Enc.all_length, e0], hK _ _ ⟨hnil _, ?_⟩ (hset _) (by simp) (fun s' h => by cases h; exact .inr ⟨s, rfl, rfl⟩)⟩
      refine ⟨b0, b1, by simp [b2], by simp [b3], b4, ?_⟩
      have hlt := lt_of_get b5
      rw [List.getElem?_set_self hlt]
      simp [Enc.all, splice, List.take_append_drop]
    · have hold : cellsAt h ⟨s.b, s.o⟩ (s.len * E.sz) = some (E.all l) := by
        rw [cellsAt_mk (p := ⟨s.b, s.o⟩) b5 (by simp [b1, b2, Enc.all_length])]
        simp [b1, b2, ← Enc.all_length]
      refine ⟨by rw [b2]; exact hb, E.pos, ?_⟩
      rw [hold, b5]
      simp only
      have h0' : ¬ s.opn = 0 := by rw [b4]; have := E.pos; omega
      rw [if_neg h0']
      refine ⟨trivial, b4, hK _ _ ⟨hnil _, ?_⟩ ((hset _).trans (keeps_of_ext (Ext.app _ _))) (by simp) (fun s' h => by cases h; exact .inl (Nat.le_refl _))⟩
      refine ⟨Nat.zero_le _, rfl, by simp [b2], by simp [b2], rfl, ?_⟩
      rw [List.getElem?_append_right (by simp)]
      simp [Enc.all_append]
section
variable {h : Heap} {Q : AV → Heap → Prop}
theorem t183 {q : Option SL} {l : List Rf} (hL : HasL refE h q l) (hl : l.length ≤ 256) (hQ : ∀ q' h', Ext h h' → HasL refE h' q' l → (∀ s, q' = some s → h.length ≤ s.b) → Q (.sl q') h') : AC Tryz.prog 183 [.sl q] h Q := ac183 (by
  unfold vc183
  refine vif_mk (fun h1 => ?_) (fun h1 => ?_)
  · cases q with
    | none => exact hQ _ _ (.refl _) hL (fun s hs => by cases hs)
    | some s => simp at h1
  · unfold PNew
    have hL' := hL.mono (Ext.app h [.cells [] true])
    refine ⟨refE.all l, hL'.cells, by rw [Enc.all_length, hL.len]; rfl, ?_⟩
    rw [hL.len]
    simp only
    split
    · rename_i h0
      have hl0 : l = [] := List.eq_nil_of_length_eq_zero (by omega)
      subst hl0
      simp only [List.getElem?_append_right (Nat.le_refl _), Nat.sub_self, List.getElem?_cons_zero]
      refine ⟨by simp [Enc.all], hQ _ _ ?_ ?_ (fun s hs => by cases hs; exact Nat.le_refl _)⟩
      · exact (Ext.app _ _).set (Nat.le_refl _)
      · refine ⟨by simp, by simp, .inl rfl, ?_⟩
        simp [cellsAt, Enc.all]
    · refine ⟨by omega, by omega, ?_⟩
      have hc : cellsAt (h ++ [.cells [] true]) ⟨h.length, 0⟩ (0 * 3) = some [] := by simp [cellsAt]
      rw [hc]
      simp only [List.getElem?_append_right (Nat.le_refl _), Nat.sub_self, List.getElem?_cons_zero, if_true, List.nil_append]
      refine hQ _ _ ((Ext.app _ _).trans (Ext.app _ _)) ?_ (fun s hs => by cases hs; simp)
      refine ⟨by simp, by simp, .inr rfl, ?_⟩
      rw [cellsAt_mk (C := refE.all l) (rw' := true) (by simp) (by simp [Enc.all_length])]
      simp [← Enc.all_length])
theorem t105 {e : EV} {d : ED} (hR : EdR h e d) (hl : d.2.2.2.length ≤ 256) (hQ : ∀ (e' : EV) h', Ext h h' → EdR h' e' d → (∀ s, e'.2.2.2 = some s → h.length ≤ s.b) → e'.1 = e.1 → e'.2.1 = e.2.1 → e'.2.2.1 = e.2.2.1 → Q (evV e') h') : AC Tryz.prog 105 [evV e] h Q := ac105 (by
  unfold vc105
  refine t183 hR.2.2.2 hl fun q' h' hx hL hs => ⟨q', rfl, hQ (e.1, e.2.1, e.2.2.1, q') h' hx ⟨hR.1, hR.2.1, hR.2.2.1, hL⟩ hs rfl rfl rfl⟩)
end
def Cold (n : Nat) (q : Option SL) (e : EV) : Prop := ∀ s, e.2.2.2 = some s → n ≤ s.b ∧ ∀ s', q = some s' → s.b ≠ s'.b
def EdL (h : Heap) (n : Nat) (q : Option SL) (l : List ED) : Prop :=
  ∃ L : List EV, Grow edE h q L ∧ L.length = l.length ∧ (∀ (j : Nat) (e : EV) (d : ED), L[j]? = some e → l[j]? = some d → EdR h e d ∧ Cold n q e) ∧ ∀ s, q = some s → n ≤ s.b
theorem EdL.nil {h : Heap} {n : Nat} : EdL h n none [] := ⟨[], .start h, rfl, by simp, by simp⟩
theorem EdL.keeps {h h' : Heap} {n : Nat} {q : Option SL} {l : List ED} {X : Nat → Prop} (E : EdL h n q l) (K : Keeps X h h') (hX : ∀ b, n ≤ b → ¬ X b) : EdL h' n q l := by
  obtain ⟨L, g, hl, he, hq⟩ := E
  refine ⟨L, g.keeps K (fun s hs => hX _ (hq s hs)), hl, fun j e d h1 h2 => ?_, hq⟩
  obtain ⟨r, c⟩ := he j e d h1 h2
  exact ⟨K.edR (fun s hs => hX _ (c s hs).1) r, c⟩
theorem EdL.ext {h h' : Heap} {n : Nat} {q : Option SL} {l : List ED} (E : EdL h n q l) (K : Ext h h') : EdL h' n q l := E.keeps (X := fun _ => False) (keeps_of_ext K) (fun _ _ h => h)
theorem EdL.live {h : Heap} {n : Nat} {q : Option SL} {l : List ED} (E : EdL h n q l) : ∀ s, q = some s → s.b < h.length := by
  obtain ⟨L, g, _⟩ := E
  exact HasL.live (Acc.hasL g)
theorem EdL.push {h : Heap} {n : Nat} {q : Option SL} {l : List ED} {e : EV} {d : ED} {K : Option SL → Heap → Prop} (E : EdL h n q l) (hn : n ≤ h.length) (hR : EdR h e d) (hc : Cold n q e) (hl : l.length ≤ 1000)
    (hK : ∀ q' h', EdL h' n q' (l ++ [d]) → Keeps (fun b => n ≤ b) h h' → h.length ≤ h'.length → K q' h') : PNew [.int .i64 e.1, .int .i64 e.2.1, .int .i64 e.2.2.1, .sl e.2.2.2] true h fun a h1 => PAppendS 4 48 q (some ⟨a, 0, 1, 1, 0⟩) h1 K := by
  obtain ⟨L, g, hL, he, hq⟩ := E
  unfold PNew
  have hx : Ext h (h ++ [.cells [.int .i64 e.1, .int .i64 e.2.1, .int .i64 e.2.2.1, .sl e.2.2.2] true]) := .app _ _
  have hsrc : HasL edE (h ++ [.cells [.int .i64 e.1, .int .i64 e.2.1, .int .i64 e.2.2.1, .sl e.2.2.2] true]) (some ⟨h.length, 0, 1, 1, 0⟩) [e] := HasL.new (E := edE) (l := [e]) rfl (by simp [Enc.all, edE])
  have g1 : Grow edE (h ++ [.cells [.int .i64 e.1, .int .i64 e.2.1, .int .i64 e.2.2.1, .sl e.2.2.2] true]) q L := Acc.mono g hx
  have hlive := HasL.live (Acc.hasL g)
  refine Grow.append (E := edE) g1 hsrc (by simp; omega) fun q' h' G K1 hlen hq' => hK q' h' ?_ ?_ ?_
  · have K2 : Keeps (fun b => ∃ s, q = some s ∧ s.b = b) h h' := (keeps_of_ext hx).trans K1
    have hnew : ∀ s, q' = some s → ∀ b, b < h.length → (∀ s', q = some s' → b ≠ s'.b) → b ≠ s.b := by
      intro s hs b hb hne heq
      rcases hq' s hs with h1 | ⟨s1, h1, h2⟩
      · simp at h1; omega
      · exact hne s1 h1 (heq.trans h2.symm)
    refine ⟨L ++ [e], G, by simp [hL], ?_, ?_⟩
    · intro j x y h1 h2
      rw [List.getElem?_append] at h1 h2
      have fin : EdR h x y → Cold n q x → EdR h' x y ∧ Cold n q' x := by
        intro r c
        refine ⟨K2.edR (fun s hs ⟨s', g1, g2⟩ => (c s hs).2 s' g1 g2.symm) r, fun s hs => ⟨(c s hs).1, fun s' hs' => ?_⟩⟩
        exact hnew s' hs' s.b (HasL.live r.2.2.2 s hs) (c s hs).2
      split at h1
      · rename_i hj
        rw [if_pos (by omega)] at h2
        obtain ⟨r, c⟩ := he j x y h1 h2
        exact fin r c
      · rename_i hj
        rw [if_neg (by omega)] at h2
        have h3 : j - L.length = 0 := by have := lt_of_get h1; simp at this; omega
        have h4 : j - l.length = 0 := by omega
        rw [h3] at h1
        rw [h4] at h2
        simp at h1 h2
        subst h1 h2
        exact fin hR hc
    · intro s hs
      rcases hq' s hs with h1 | ⟨s1, h1, h2⟩
      · simp at h1; omega
      · rw [← h2]; exact hq s1 h1
  · refine (keeps_of_ext hx).trans fun b B hb hB => K1 b B (fun ⟨s, h1, h2⟩ => hb ?_) hB
    rw [← h2]; exact hq s h1
  · simp at hlen; omega
section
variable {h : Heap} {Q : AV → Heap → Prop} {p n : Nat} {has : Bool} {done : List ED} {mark : ED}
theorem t30 (hQ : Q (.ptr (some ⟨h.length, 0⟩)) (h ++ [.cells [.sl none, .int .i64 0, .int .i64 0, .int .i64 0, .sl none, .bool false] true])) : AC Tryz.prog 30 [] h Q := ac30 (by
  unfold vc30 PNew; exact hQ)
def edits (has : Bool) (done : List ED) (mark : ED) : List ED := done ++ (if has then [mark] else [])
end
def goes (has : Bool) (done : List ED) (mark : ED) (d : ED) : Bool := d.2.1 == (done.length : Int) && (d.1 == 2 || !has || decide (d.2.2.1 > mark.2.2.1))
def nHas (d : ED) : Bool := !(d.1 == 2)
def nDone (done : List ED) (d : ED) : List ED := if d.1 == 2 then done ++ [d] else done
def nMark (d : ED) : ED := if d.1 == 2 then zeroD else d
def InL (h : Heap) (q : Option SL) (l : List ED) : Prop :=
  ∃ L : List EV, HasL edE h q L ∧ L.length = l.length ∧ ∀ (j : Nat) (e : EV) (d : ED), L[j]? = some e → l[j]? = some d → EdR h e d
theorem InL.keeps {h h' : Heap} {q : Option SL} {l : List ED} {X : Nat → Prop} (E : InL h q l) (K : Keeps X h h') (hX : ∀ b, b < h.length → ¬ X b) : InL h' q l := by
  obtain ⟨L, g, hl, he⟩ := E
  refine ⟨L, K.hasL (fun s hs => hX _ (HasL.live g s hs)) g, hl, fun j e d h1 h2 => ?_⟩
  have r := he j e d h1 h2
  exact K.edR (fun s hs => hX _ (HasL.live r.2.2.2 s hs)) r
def Vld (has : Bool) (done : List ED) (mark : ED) : Prop :=
  (∀ (i : Nat) (d : ED), done[i]? = some d → chk d = true ∧ (d.1 == 2) = true ∧ d.2.1 = i) ∧ (has = true → chk mark = true ∧ (mark.1 == 2) = false ∧ mark.2.1 = done.length) ∧ (has = false → mark = zeroD)
theorem Vld.step {has : Bool} {done : List ED} {mark d : ED} (V : Vld has done mark) (h : (chk d && goes has done mark d) = true) : Vld (nHas d) (nDone done d) (nMark d) := by
  rw [Bool.and_eq_true] at h
  obtain ⟨hc, hg⟩ := h
  simp only [goes, Bool.and_eq_true] at hg
  have h1 : d.2.1 = done.length := by simpa using hg.1
  unfold nHas nDone nMark
  cases hk : (d.1 == 2) with
  | true =>
    simp only [Bool.not_true, if_true]
    refine ⟨fun i x hx => ?_, (fun h => by cases h), (fun _ => rfl)⟩
    rw [List.getElem?_append] at hx
    split at hx
    · exact V.1 i x hx
    · rename_i hi
      have : i - done.length = 0 := by have := lt_of_get hx; simp at this; omega
      rw [this] at hx
      simp at hx
      subst hx
      exact ⟨hc, hk, by rw [h1]; omega⟩
  | false =>
    simp only [Bool.not_false, Bool.false_eq_true, if_false]
    exact ⟨V.1, (fun _ => ⟨hc, hk, h1⟩), (fun h => by cases h)⟩
def StV (h : Heap) (p : Nat) (has : Bool) (done : List ED) (mark : ED) : Prop :=
  ∃ (qd : Option SL) (m : EV), h[p]? = some (.cells [.sl qd, .int .i64 m.1, .int .i64 m.2.1, .int .i64 m.2.2.1, .sl m.2.2.2, .bool has] true) ∧ InL h qd done ∧ EdR h m mark ∧ (∀ d ∈ done, d.2.2.2.length ≤ 256) ∧ mark.2.2.2.length ≤ 256
theorem InL.ext {h h' : Heap} {q : Option SL} {l : List ED} (E : InL h q l) (K : Ext h h') : InL h' q l := E.keeps (X := fun _ => False) (keeps_of_ext K) (fun _ _ h => h)
theorem InL.len {h : Heap} {q : Option SL} {l : List ED} (E : InL h q l) : slLen q = l.length := by obtain ⟨L, g, k, _⟩ := E; rw [g.len, k]
theorem StV.ext {h h' : Heap} {p : Nat} {has : Bool} {done : List ED} {mark : ED} (S : StV h p has done mark) (K : Ext h h') : StV h' p has done mark := by
  obtain ⟨qd, m, h1, h2, h3, h4, h5⟩ := S
  exact ⟨qd, m, K _ _ h1, h2.ext K, ⟨h3.1, h3.2.1, h3.2.2.1, h3.2.2.2.mono K⟩, h4, h5⟩
section
variable {h : Heap} {Q : AV → Heap → Prop} {p : Nat} {has : Bool} {done : List ED} {mark : ED}
theorem v46 (S : StV h p has done mark) (hQ : Q (.int .i64 done.length) h) : AC Tryz.prog 46 [.ptr (some ⟨p, 0⟩)] h Q := ac46 (by
  obtain ⟨qd, m, h1, h2, _⟩ := S
  unfold vc46
  refine ⟨qd, cells6 h1 (o := 0) (k := 1) (by simp), ?_⟩
  rw [h2.len]; exact hQ)
theorem v106 (S : StV h p has done mark) (hQ : ∀ (e : EV) h', Ext h h' → EdR h' e mark → (∀ s, e.2.2.2 = some s → h.length ≤ s.b) → Q (.tup [evV e, .bool has]) h') : AC Tryz.prog 106 [.ptr (some ⟨p, 0⟩)] h Q := ac106 (by
  obtain ⟨qd, m, h1, h2, h3, h7, h8⟩ := S
  unfold vc106
  refine ⟨m.1, m.2.1, m.2.2.1, m.2.2.2, cells6 h1 (o := 1) (k := 4) (by simp), ?_⟩
  refine ⟨has, cells6 h1 (o := 5) (k := 1) (by simp), ?_⟩
  refine t105 (e := m) h3 h8 fun e' h' hx hR hs g1 g2 g3 => ?_
  refine ⟨e'.1, e'.2.1, e'.2.2.1, e'.2.2.2, rfl, ⟨has, cells6 (hx _ _ h1) (o := 5) (k := 1) (by simp), rfl⟩, ⟨has, cells6 (hx _ _ h1) (o := 5) (k := 1) (by simp), rfl⟩, ?_⟩
  exact hQ e' h' hx hR hs)
theorem v31 (S : StV h p has done mark) (hd : done.length ≤ 100) (hQ : ∀ q h', Ext h h' → EdL h' h.length q (edits has done mark) → Q (.sl q) h') : AC Tryz.prog 31 [.ptr (some ⟨p, 0⟩)] h Q := ac31 (by
  unfold vc31
  refine v46 S ⟨_, rfl, ?_⟩
  refine ⟨fun xs h9 => ∃ (q : Option SL) (i : Nat), xs = [.sl q, .int .i64 i] ∧ i ≤ done.length ∧ Ext h h9 ∧ EdL h9 h.length q (done.take i), fun xs _ => match xs with | [_, .int _ i] => (done.length - i).toNat | _ => 0,
    ⟨none, 0, rfl, by omega, .refl _, by simpa using EdL.nil⟩, ?_⟩
  rintro q i h9 ⟨q', i', hx, hi, hext, hE⟩
  simp only [List.cons.injEq, AV.int.injEq, AV.sl.injEq, true_and, and_true] at hx
  obtain ⟨rfl, rfl⟩ := hx
  have S9 := S.ext hext
  refine vif_mk (fun h1 => ?_) (fun h1 => ?_)
  · simp only [decide_eq_true_eq] at h1
    obtain ⟨qd, m, b1, ⟨L, g, hL, he⟩, b3, b7, b8⟩ := S9
    refine ⟨qd, cells6 b1 (o := 0) (k := 1) (by simp), ?_⟩
    refine HasL.idx (E := edE) g (by omega) (by omega) fun pp x hx hc => ?_
    have hx' : L[i']? = some x := by simpa using hx
    have hdl : i' < done.length := by omega
    have hd' : done[i']? = some done[i'] := List.getElem?_eq_getElem hdl
    have hR := he i' x _ hx' hd'
    refine ⟨x.1, x.2.1, x.2.2.1, x.2.2.2, hc, ?_⟩
    refine t105 (e := x) hR (b7 _ (List.getElem_mem _)) fun e' h18 hx2 hR2 hs g1 g2 g3 => ?_
    refine ⟨e'.1, e'.2.1, e'.2.2.1, e'.2.2.2, rfl, ?_⟩
    have hlen9 := hext.len
    refine EdL.push (hE.ext hx2) (by have := hx2.len; omega) hR2 ?_ (by simp; omega) fun q2 h26 hE2 K2 hl2 => ?_
    · intro s hs'
      have := hs s hs'
      refine ⟨by omega, fun s' hs2 => ?_⟩
      have := hE.live s' hs2
      omega
    · rw [wrapK_i64 ⟨by omega, by omega⟩]
      refine ⟨trivial, ⟨q2, i' + 1, by simp, by omega, ?_, ?_⟩, ?_⟩
      · intro b B hB
        have hlt := lt_of_get hB
        exact K2 b B (by omega) (hx2 _ _ (hext _ _ hB))
      · rw [List.take_add_one, hd']; exact hE2
      · simp only; omega
  · simp only [decide_eq_false_iff_not] at h1
    have hi' : i' = done.length := by omega
    subst hi'
    rw [List.take_length] at hE
    refine v106 S9 fun e' h28 hx2 hR2 hs => ⟨e'.1, e'.2.1, e'.2.2.1, e'.2.2.2, has, rfl, ?_⟩
    have hlen9 := hext.len
    cases has with
    | true =>
      simp only [vif]
      refine EdL.push (hE.ext hx2) (by have := hx2.len; omega) hR2 ?_ (by omega) fun q2 h26 hE2 K2 hl2 => ?_
      · intro s hs'
        have := hs s hs'
        refine ⟨by omega, fun s' hs2 => ?_⟩
        have := hE.live s' hs2
        omega
      · refine hQ q2 h26 ?_ (by simpa [edits] using hE2)
        intro b B hB
        have hlt := lt_of_get hB
        exact K2 b B (by omega) (hx2 _ _ (hext _ _ hB))
    | false =>
      simp only [vif]
      exact hQ _ _ (hext.trans hx2) (by simpa [edits] using hE.ext hx2))
end
section
variable {h : Heap} {Q : AV → Heap → Prop}
theorem u107 {e : EV} {d : ED} (hR : EdR h e d) (hQ1 : Q (.int .i64 (if chk d then 0 else 140)) h) : AC Tryz.prog 107 [evV e] h Q := ac107 (by
  have hQ : ∀ n : Int, (n = 0 ∨ n = 140) → (n = 0 ↔ chk d = true) → Q (.int .i64 n) h := by
    intro n h1 h2
    cases hc : chk d with
    | true => rw [hc] at hQ1; have := h2.2 hc; subst this; exact hQ1
    | false =>
      rw [hc] at hQ1
      have : n = 140 := h1.resolve_left (fun h0 => by have := h2.1 h0; rw [hc] at this; cases this)
      subst this; exact hQ1
  obtain ⟨r1, r2, r3, hL⟩ := hR
  have hlen := hL.len
  unfold vc107
  rw [r1, r2, r3]
  have rest : (d.1 == 1 || (d.1 == 2 && d.2.2.1 == 0)) = true → ∀ n : Int, (n = 0 ↔ atOk d.2.1 d.2.2.1 = true) → vif (n != 0) (Q (.int .i64 140) h) (vif (decide ((slLen e.2.2.2 : Int) > 256)) (Q (.int .i64 140) h)
      (AC Tryz.prog 187 [.sl e.2.2.2, .func (.func 184) [] []] h fun v8 h9 => ∃ b10 : Bool, v8 = .bool b10 ∧ vif b10 (Q (.int .i64 140) h9) (Q (.int .i64 0) h9))) := by
    intro hk n hn
    refine vif_mk (fun h1 => hQ _ (by simp) ?_) fun h1 => vif_mk (fun h2 => hQ _ (by simp) ?_) fun h2 => ?_
    · have : atOk d.2.1 d.2.2.1 = false := by
        cases ha : atOk d.2.1 d.2.2.1
        · rfl
        · have := hn.2 ha; subst this; simp at h1
      simp [chk, this]
    · simp only [decide_eq_true_eq] at h2
      have : decide (d.2.2.2.length ≤ 256) = false := by simp; omega
      simp [chk, this]
    · simp only [decide_eq_false_iff_not] at h2
      refine t187 hL (by omega) ⟨_, rfl, ?_⟩
      have ha : atOk d.2.1 d.2.2.1 = true := hn.1 (by simpa using h1)
      have hl : decide (d.2.2.2.length ≤ 256) = true := by simp; omega
      cases hall : d.2.2.2.all refOk
      · exact hQ _ (by simp) (by simp [chk, hall])
      · exact hQ _ (by simp) (by unfold chk; rw [hk, ha, hl, hall]; simp)
  refine vif_mk (fun h1 => ?_) fun h1 => vif_mk (fun h2 => vif_mk (fun h3 => hQ _ (by simp) ?_) fun h3 => ?_) fun h2 => hQ _ (by simp) ?_
  · refine t186 fun n hn => ⟨n, rfl, rest ?_ n hn⟩
    rw [h1]; rfl
  · have e3 : (d.2.2.1 == 0) = false := by simpa using h3
    unfold chk
    rw [h1, e3]; simp
  · refine t186 fun n hn => ⟨n, rfl, rest ?_ n hn⟩
    have e3 : (d.2.2.1 == 0) = true := by simpa using h3
    rw [h2, e3]; simp
  · unfold chk
    rw [h1, h2]; simp)
end
def St2 (h : Heap) (D : Nat → Prop) (p : Nat) (has : Bool) (done : List ED) (mark : ED) : Prop :=
  ∃ (qd : Option SL) (m : EV) (L : List EV), h[p]? = some (.cells [.sl qd, .int .i64 m.1, .int .i64 m.2.1, .int .i64 m.2.2.1, .sl m.2.2.2, .bool has] true) ∧ D p ∧ (∀ s, qd = some s → D s.b ∧ s.b ≠ p) ∧ Grow edE h qd L ∧ L.length = done.length ∧
    (∀ (j : Nat) (e : EV) (d : ED), L[j]? = some e → done[j]? = some d → EdR h e d ∧ ∀ s, e.2.2.2 = some s → D s.b ∧ s.b ≠ p ∧ ∀ s', qd = some s' → s.b ≠ s'.b) ∧
    EdR h m mark ∧ (∀ s, m.2.2.2 = some s → D s.b ∧ s.b ≠ p ∧ ∀ s', qd = some s' → s.b ≠ s'.b) ∧ (∀ d ∈ done, d.2.2.2.length ≤ 256) ∧ mark.2.2.2.length ≤ 256 ∧ ∀ b, D b → b < h.length
section
variable {h h' : Heap} {D D' : Nat → Prop} {p : Nat} {has : Bool} {done : List ED} {mark : ED}
theorem St2.view (S : St2 h D p has done mark) : StV h p has done mark := by
  obtain ⟨qd, m, L, h1, h2, h3, h4, h5, h6, h7, h8, h9, h10, h11⟩ := S
  exact ⟨qd, m, h1, ⟨L, Acc.hasL h4, h5, fun j e d a b => (h6 j e d a b).1⟩, h7, h9, h10⟩
theorem St2.keeps {X : Nat → Prop} (S : St2 h D p has done mark) (K : Keeps X h h') (hX : ∀ b, D b → ¬ X b) (hl : h.length ≤ h'.length) : St2 h' D p has done mark := by
  obtain ⟨qd, m, L, h1, h2, h3, h4, h5, h6, h7, h8, h9, h10, h11⟩ := S
  refine ⟨qd, m, L, K _ _ (hX _ h2) h1, h2, h3, h4.keeps K (fun s hs => hX _ (h3 s hs).1), h5, fun j e d a b => ?_, K.edR (fun s hs => hX _ (h8 s hs).1) h7, h8, h9, h10, fun b hb => by have := h11 b hb; omega⟩
  obtain ⟨r, c⟩ := h6 j e d a b
  exact ⟨K.edR (fun s hs => hX _ (c s hs).1) r, c⟩
variable {Q : AV → Heap → Prop}
theorem v108 (S : StV h p has done mark) {e : EV} {d : ED} (hR : EdR h e d) (hQ : Q (.bool (goes has done mark d)) h) : AC Tryz.prog 108 [.ptr (some ⟨p, 0⟩), evV e] h Q := ac108 (by
  obtain ⟨qd, m, h1, h2, h3, h7, h8⟩ := S
  obtain ⟨r1, r2, r3, hL⟩ := hR
  have key : ∀ b : Bool, b = goes has done mark d → Q (.bool b) h := fun b hb => hb ▸ hQ
  have hlen := h2.len
  unfold vc108
  refine ⟨qd, cells6 h1 (o := 0) (k := 1) (by simp), ?_⟩
  rw [r1, r2, r3, hlen]
  refine vif_mk (fun g1 => key _ ?_) fun g1 => vif_mk (fun g2 => key _ ?_) fun g2 => ?_
  · have : (d.2.1 == (done.length : Int)) = false := by simpa using g1
    simp [goes, this]
  · have : (d.2.1 == (done.length : Int)) = true := by simpa using g1
    simp [goes, this, g2]
  · have e1 : (d.2.1 == (done.length : Int)) = true := by simpa using g1
    refine ⟨has, cells6 h1 (o := 5) (k := 1) (by simp), ?_⟩
    refine vif_mk (fun g3 => key _ ?_) fun g3 => ?_
    · simp [goes, e1, g3]
    · refine ⟨m.2.2.1, ?_, key _ ?_⟩
      · have := cells6 h1 (o := 3) (k := 1) (by simp)
        simpa using this
      · have h3' : m.2.2.1 = mark.2.2.1 := h3.2.2.1
        simp [goes, e1, g2, g3, h3'])
def resV (has : Bool) (done : List ED) (mark : ED) (d : ED) : Int := if chk d then (if goes has done mark d then 0 else 1) else 140
theorem v32 (S : St2 h D p has done mark) {e : EV} {d : ED} (hR : EdR h e d) (hp : ∀ s, e.2.2.2 = some s → ¬ D s.b) (hd : done.length ≤ 100)
    (hno : (chk d && goes has done mark d) = false → Q (.int .i64 (resV has done mark d)) h)
    (hgo : ∀ h' D', (chk d && goes has done mark d) = true → St2 h' D' p (nHas d) (nDone done d) (nMark d) → (∀ b, D' b → D b ∨ h.length ≤ b) → Keeps D h h' → h.length ≤ h'.length → Q (.int .i64 0) h') : AC Tryz.prog 32 [.ptr (some ⟨p, 0⟩), evV e] h Q := ac32 (by
  have S0 := S.view
  obtain ⟨qd, m, L, h1, h2, h3, h4, h5, h6, h7, h8, h9, h10, h11⟩ := S
  have r1 : e.1 = d.1 := hR.1
  unfold vc32
  refine u107 (e := e) hR ⟨_, rfl, ?_⟩
  cases hc : chk d with
  | false =>
    simp only [hc, Bool.false_eq_true, if_false, resV, Bool.false_and] at hno ⊢
    exact hno trivial
  | true =>
  simp only [if_true]
  refine v108 S0 (e := e) hR ⟨_, rfl, vif_mk (fun g2 => ?_) fun g2 => ?_⟩
  · simp only [Bool.not_eq_true'] at g2
    simp only [hc, g2, resV, if_true, Bool.false_eq_true, if_false, Bool.and_false] at hno
    exact hno trivial
  have hg : goes has done mark d = true := by simpa using g2
  have hyes : (chk d && goes has done mark d) = true := by rw [hc, hg]; rfl
  have hrefs : d.2.2.2.length ≤ 256 := by
    simp only [chk, Bool.and_eq_true, decide_eq_true_eq] at hc
    exact hc.1.2
  have hep : ∀ s, e.2.2.2 = some s → s.b ≠ p := fun s hs he => hp s hs (he ▸ h2)
  have hpl := lt_of_get h1
  refine store6v h1 (o := 1) ?_ ?_
  · simp
  have b1 : (h.set p (.cells (splice [.sl qd, .int .i64 m.1, .int .i64 m.2.1, .int .i64 m.2.2.1, .sl m.2.2.2, .bool has] 1 [.int .i64 0, .int .i64 0, .int .i64 0, .sl none]) true))[p]? = some (.cells [.sl qd, .int .i64 0, .int .i64 0, .int .i64 0, .sl none, .bool has] true) := by
    rw [List.getElem?_set_self hpl]; rfl
  refine store6v b1 (o := 5) ?_ ?_
  · simp
  rw [List.set_set]
  have e15 : splice [AV.sl qd, .int .i64 0, .int .i64 0, .int .i64 0, .sl none, .bool has] 5 [.bool false] = [.sl qd, .int .i64 0, .int .i64 0, .int .i64 0, .sl none, .bool false] := rfl
  rw [e15]
  generalize hh15 : h.set p (.cells [.sl qd, .int .i64 0, .int .i64 0, .int .i64 0, .sl none, .bool false] true) = h15
  have K15 : Keeps (fun b => b = p) h h15 := by rw [← hh15]; exact keeps_set rfl
  have l15 : h15.length = h.length := by rw [← hh15]; simp
  have p15 : h15[p]? = some (.cells [.sl qd, .int .i64 0, .int .i64 0, .int .i64 0, .sl none, .bool false] true) := by rw [← hh15, List.getElem?_set_self hpl]
  have R15 : EdR h15 e d := K15.edR (fun s hs => hep s hs) hR
  have G15 : Grow edE h15 qd L := h4.keeps K15 (fun s hs => (h3 s hs).2)
  have F15 : Keeps D h h15 := fun b B hb hB => K15 b B (fun he => hb (he ▸ h2)) hB
  have each15 : ∀ (j : Nat) (x : EV) (y : ED), L[j]? = some x → done[j]? = some y → EdR h15 x y ∧ ∀ s, x.2.2.2 = some s → D s.b ∧ s.b ≠ p ∧ ∀ s', qd = some s' → s.b ≠ s'.b := by
    intro j x y a b
    obtain ⟨r, c⟩ := h6 j x y a b
    exact ⟨K15.edR (fun s hs => (c s hs).2.1) r, c⟩
  have hz : evV e = .agg [.int .i64 d.1, .int .i64 e.2.1, .int .i64 e.2.2.1, .sl e.2.2.2] := by rw [← r1]
  rw [r1]
  refine vif_mk (fun g3 => ?_) (fun g3 => ?_)
  · refine ⟨qd, cells6 p15 (o := 0) (k := 1) (by simp), ?_⟩
    rw [← hz]
    refine t105 (e := e) R15 hrefs fun e' h19 hx hR2 hs q1 q2 q3 => ⟨e'.1, e'.2.1, e'.2.2.1, e'.2.2.2, rfl, ⟨qd, cells6 (hx _ _ p15) (o := 0) (k := 1) (by simp), rfl⟩, ?_⟩
    have hl19 := hx.len
    unfold PNew
    have hx2 : Ext h19 (h19 ++ [.cells [.int .i64 e'.1, .int .i64 e'.2.1, .int .i64 e'.2.2.1, .sl e'.2.2.2] true]) := .app _ _
    refine ⟨⟨qd, cells6 (hx2 _ _ (hx _ _ p15)) (o := 0) (k := 1) (by simp), rfl⟩, ?_⟩
    have G25 : Grow edE (h19 ++ [.cells [.int .i64 e'.1, .int .i64 e'.2.1, .int .i64 e'.2.2.1, .sl e'.2.2.2] true]) qd L := Acc.mono (Acc.mono G15 hx) hx2
    have hsrc : HasL edE (h19 ++ [.cells [.int .i64 e'.1, .int .i64 e'.2.1, .int .i64 e'.2.2.1, .sl e'.2.2.2] true]) (some ⟨h19.length, 0, 1, 1, 0⟩) [e'] := HasL.new (E := edE) (l := [e']) rfl (by simp [Enc.all, edE])
    refine Grow.append (E := edE) G25 hsrc (by simp; omega) fun q2 h27 G27 K27 hl27 hq27 => ?_
    have live0 := HasL.live (Acc.hasL h4)
    have hl25 : (h19 ++ [Blk.cells [.int .i64 e'.1, .int .i64 e'.2.1, .int .i64 e'.2.2.1, .sl e'.2.2.2] true]).length = h19.length + 1 := by simp
    have hpq : ¬ ∃ s, qd = some s ∧ s.b = p := fun ⟨s, hs, he⟩ => (h3 s hs).2 he
    have p27 : h27[p]? = some (.cells [.sl qd, .int .i64 0, .int .i64 0, .int .i64 0, .sl none, .bool false] true) := K27 _ _ hpq (hx2 _ _ (hx _ _ p15))
    have hpl27 := lt_of_get p27
    have hq2 : ∀ s', q2 = some s' → h19.length < s'.b + 1 ∧ h.length ≤ s'.b ∨ (∃ s, qd = some s ∧ s.b = s'.b) := by
      intro s' hs'
      rcases hq27 s' hs' with a | a
      · rw [hl25] at a; left; omega
      · exact .inr a
    have hne2 : ∀ b, b < h19.length → (∀ s', qd = some s' → b ≠ s'.b) → ∀ s', q2 = some s' → b ≠ s'.b := by
      intro b hb hn s' hs' he
      rcases hq27 s' hs' with a | ⟨s, a1, a2⟩
      · rw [hl25] at a; omega
      · exact hn s a1 (he.trans a2.symm)
    have K1527 : Keeps (fun b => ∃ s, qd = some s ∧ s.b = b) h15 h27 := (keeps_of_ext (hx.trans hx2)).trans K27
    refine store6v p27 (o := 0) ?_ ?_
    · simp
    have Kset : Keeps (fun b => b = p) h27 (h27.set p (.cells (splice [.sl qd, .int .i64 0, .int .i64 0, .int .i64 0, .sl none, .bool false] 0 [.sl q2]) true)) := keeps_set rfl
    have g3' : (d.1 == 2) = true := g3
    have e1 : nHas d = false := by simp [nHas, g3']
    have e2 : nDone done d = done ++ [d] := by simp [nDone, g3']
    have e3 : nMark d = zeroD := by simp [nMark, g3']
    have fin : ∀ (x : EV) (y : ED), EdR h27 x y → (∀ s, x.2.2.2 = some s → s.b ≠ p) → EdR (h27.set p (.cells (splice [.sl qd, .int .i64 0, .int .i64 0, .int .i64 0, .sl none, .bool false] 0 [.sl q2]) true)) x y := fun x y r c => Kset.edR (fun s hs => c s hs) r
    refine hgo _ (fun b => D b ∨ (h.length ≤ b ∧ b < h27.length)) hyes ?_ (fun b hb => hb.imp id And.left) ?_ (by simp; omega)
    · rw [e1, e2, e3]
      refine ⟨q2, zeroV, L ++ [e'], ?_, .inl h2, ?_, G27.keeps Kset ?_, by simp [h5], ?_, ⟨rfl, rfl, rfl, rfl⟩, fun s hs => (by cases hs), ?_, by simp, ?_⟩
      · rw [List.getElem?_set_self hpl27]; rfl
      · intro s hs
        have hlv := HasL.live (Acc.hasL G27) s hs
        rcases hq2 s hs with a | ⟨s0, a1, a2⟩
        · exact ⟨.inr ⟨a.2, hlv⟩, by omega⟩
        · rw [← a2]; exact ⟨.inl (h3 s0 a1).1, (h3 s0 a1).2⟩
      · intro s hs he
        rcases hq2 s hs with a | ⟨s0, a1, a2⟩
        · omega
        · exact (h3 s0 a1).2 (a2.trans he)
      · intro j x y hj hy
        rw [List.getElem?_append] at hj hy
        split at hj
        · rw [if_pos (by omega)] at hy
          obtain ⟨r, c⟩ := each15 j x y hj hy
          have rl := HasL.live r.2.2.2
          refine ⟨fin x y (K1527.edR (fun s hs ⟨s', a1, a2⟩ => (c s hs).2.2 s' a1 a2.symm) r) (fun s hs => (c s hs).2.1), fun s hs => ⟨.inl (c s hs).1, (c s hs).2.1, hne2 _ (by have := rl s hs; omega) (c s hs).2.2⟩⟩
        · rw [if_neg (by omega)] at hy
          have j0 : j - L.length = 0 := by have := lt_of_get hj; simp at this; omega
          have y0 : j - done.length = 0 := by omega
          rw [j0] at hj
          rw [y0] at hy
          simp at hj hy
          subst hj hy
          have rl := HasL.live hR2.2.2.2
          have hfr : ∀ s, e'.2.2.2 = some s → ∀ s', qd = some s' → s.b ≠ s'.b := fun s hs' s' hs2 => by have := hs s hs'; have := live0 s' hs2; omega
          refine ⟨fin _ _ (((keeps_of_ext hx2).trans K27).edR (fun s hs' ⟨s', a1, a2⟩ => hfr s hs' s' a1 a2.symm) hR2) (fun s hs' => by have := hs s hs'; omega), fun s hs' => ⟨.inr ⟨by have := hs s hs'; omega, by have := rl s hs'; omega⟩, by have := hs s hs'; omega, hne2 _ (rl s hs') (hfr s hs')⟩⟩
      · intro x hx'
        rcases List.mem_append.1 hx' with hx' | hx'
        · exact h9 x hx'
        · simp at hx'; subst hx'; exact hrefs
      · intro b hb
        rcases hb with hb | hb
        · have := h11 b hb; simp; omega
        · simp; omega
    · intro b B hb hB
      have hbp : b ≠ p := fun he => hb (he ▸ h2)
      rw [List.getElem?_set, if_neg (Ne.symm hbp)]
      exact K1527 b B (fun ⟨s, a1, a2⟩ => hb (a2 ▸ (h3 s a1).1)) (F15 b B hb hB)
  · rw [← hz]
    refine t105 (e := e) R15 hrefs fun e' h33 hx hR2 hs q1 q2 q3 => ⟨e'.1, e'.2.1, e'.2.2.1, e'.2.2.2, rfl, ?_⟩
    have p33 := hx _ _ p15
    have hpl33 := lt_of_get p33
    have hl33 := hx.len
    refine store6v p33 (o := 1) ?_ ?_
    · simp
    have b39 : (h33.set p (.cells (splice [.sl qd, .int .i64 0, .int .i64 0, .int .i64 0, .sl none, .bool false] 1 [.int .i64 e'.1, .int .i64 e'.2.1, .int .i64 e'.2.2.1, .sl e'.2.2.2]) true))[p]? = some (.cells [.sl qd, .int .i64 e'.1, .int .i64 e'.2.1, .int .i64 e'.2.2.1, .sl e'.2.2.2, .bool false] true) := by
      rw [List.getElem?_set_self hpl33]; rfl
    refine store6v b39 (o := 5) ?_ ?_
    · simp
    rw [List.set_set]
    have hsub : Keeps (fun b => b = p) h33 (h33.set p (.cells (splice [.sl qd, .int .i64 e'.1, .int .i64 e'.2.1, .int .i64 e'.2.2.1, .sl e'.2.2.2, .bool false] 5 [.bool true]) true)) := keeps_set rfl
    have g3' : (d.1 == 2) = false := g3
    have e1 : nHas d = true := by simp [nHas, g3']
    have e2 : nDone done d = done := by simp [nDone, g3']
    have e3 : nMark d = d := by simp [nMark, g3']
    have live0 := HasL.live (Acc.hasL h4)
    have rl := HasL.live hR2.2.2.2
    refine hgo _ (fun b => D b ∨ (h.length ≤ b ∧ b < h33.length)) hyes ?_ (fun b hb => hb.imp id And.left) ?_ (by simp; omega)
    · rw [e1, e2, e3]
      refine ⟨qd, e', L, ?_, .inl h2, fun s hs => ⟨.inl (h3 s hs).1, (h3 s hs).2⟩, Grow.keeps (h := h33) (Acc.mono G15 hx) hsub (fun s hs => (h3 s hs).2), h5, ?_, hsub.edR (fun s hs' => by have := hs s hs'; omega) hR2, ?_, h9, hrefs, ?_⟩
      · rw [List.getElem?_set_self hpl33]; rfl
      · intro j x y hj hy
        obtain ⟨r, c⟩ := each15 j x y hj hy
        exact ⟨hsub.edR (fun s hs => (c s hs).2.1) ⟨r.1, r.2.1, r.2.2.1, r.2.2.2.mono hx⟩, fun s hs => ⟨.inl (c s hs).1, (c s hs).2⟩⟩
      · intro s hs'
        have a1 := hs s hs'
        exact ⟨.inr ⟨by omega, rl s hs'⟩, by omega, fun s' hs2 => by have := live0 s' hs2; omega⟩
      · intro b hb
        rcases hb with hb | hb
        · have := h11 b hb; simp; omega
        · simp; omega
    · intro b B hb hB
      have hbp : b ≠ p := fun he => hb (he ▸ h2)
      rw [List.getElem?_set, if_neg (Ne.symm hbp)]
      exact hx _ _ (F15 b B hb hB))
end
end Go.Proofs.YtnglhicedhcpbaaGreatDoor
namespace Go.Proofs.YtnglhicedhcpbaaGreatDoor
open Go.Ab
open Go.Num hiding Bs
set_option linter.unusedVariables false
set_option linter.unusedSimpArgs false
def encR (r : Rf) : Bs := numB r.1.length ++ r.1 ++ (numB r.2.1.toNat ++ numB r.2.2.toNat)
def encRs (l : List Rf) : Bs := l.flatMap encR
def encD (d : ED) : Bs := numB d.1.toNat ++ numB d.2.1.toNat ++ numB d.2.2.1.toNat ++ numB d.2.2.2.length ++ encRs d.2.2.2
theorem encR_len {r : Rf} (h : refOk r = true) : (encR r).length ≤ 51 := by
  simp only [refOk, Bool.and_eq_true, decide_eq_true_eq] at h
  have h1 := numB_len (n := r.1.length) (by simp only [M63]; omega)
  have h2 := numB_len (n := r.2.1.toNat) (by simp only [M63]; omega)
  have h3 := numB_len (n := r.2.2.toNat) (by simp only [M63]; omega)
  simp only [encR, List.length_append]; omega
theorem encRs_len : ∀ {l : List Rf}, l.all refOk = true → (encRs l).length ≤ l.length * 51
  | [], _ => by simp [encRs]
  | r :: l, h => by
    rw [List.all_cons, Bool.and_eq_true] at h
    have h1 := encR_len h.1
    have h2 := encRs_len h.2
    simp only [encRs, List.flatMap_cons, List.length_append, List.length_cons] at *; omega
theorem encRs_take {l : List Rf} {i : Nat} {x : Rf} (h : l[i]? = some x) : encRs (l.take (i + 1)) = encRs (l.take i) ++ encR x := by
  rw [List.take_add_one, h]; simp [encRs]
theorem all_take {α : Type} {p : α → Bool} {l : List α} (i : Nat) (h : l.all p = true) : (l.take i).all p = true := by
  rw [List.all_eq_true] at *
  exact fun x hx => h x (List.mem_of_mem_take hx)
section
variable {h : Heap} {Q : AV → Heap → Prop}
theorem t246 {s : Bs} (hs : s.length ≤ 100000) (hQ : ∀ q h', New byE h h' q (numB s.length ++ s) → Q (.sl q) h') : AC Tryz.prog 246 [.str s] h Q := ac246 (by
  unfold vc246
  refine t236 (by simp only [M63]; omega) fun q4 h3 N => ⟨q4, _, rfl, ?_⟩
  have hl := numB_len (n := s.length) (by simp only [M63]; omega)
  rw [← byE_all]
  exact New.append0 (E := byE) N (by omega) fun q' h2 N2 => hQ _ _ N2)
theorem t245 {q : Option SL} {l : List Nat} (H : HasL intE h q (l.map fun (n : Nat) => (n : Int))) (hl : l.length ≤ 10) (hn : ∀ n ∈ l, n < M63) (hQ : ∀ q h', New byE h h' q (l.flatMap numB) → Q (.sl q) h') : AC Tryz.prog 245 [.sl q] h Q := ac245 (by
  unfold vc245
  have hlen := H.len
  rw [List.length_map] at hlen
  have bnd : ∀ i, ((l.take i).flatMap numB).length ≤ i * 9 := by
    intro i
    induction i with
    | zero => simp
    | succ i ih =>
      rw [List.take_add_one]
      cases hx : l[i]? with
      | none => simp at ih ⊢; omega
      | some x =>
        have := numB_len (hn x (List.mem_of_getElem? hx))
        rw [List.flatMap_append, List.length_append]
        simp only [Option.toList_some, List.flatMap_cons, List.flatMap_nil, List.append_nil]
        omega
  refine ⟨fun xs h6 => ∃ (q2 : Option SL) (i : Nat), xs = [.sl q2, .int .i64 i] ∧ i ≤ l.length ∧ New byE h h6 q2 ((l.take i).flatMap numB), fun xs _ => match xs with | [_, .int _ i] => (l.length - i).toNat | _ => 0, ⟨_, 0, rfl, by omega, by simpa using New.none⟩, ?_⟩
  rintro q2 i h6 ⟨q2', i', hx, hi, N⟩
  simp only [List.cons.injEq, AV.int.injEq, AV.sl.injEq, true_and, and_true] at hx
  obtain ⟨rfl, rfl⟩ := hx
  refine vif_mk (fun g => ?_) (fun g => ?_)
  · replace g := of_decide_eq_true g
    refine HasL.idx (E := intE) (H.mono N.1) (by omega) (by simp; omega) fun pp x hx hc => ?_
    have hx' : (l.map fun (n : Nat) => (n : Int))[i']? = some x := by simpa using hx
    rw [List.getElem?_map] at hx'
    cases hy : l[i']? with
    | none => rw [hy] at hx'; cases hx'
    | some y =>
      rw [hy] at hx'
      obtain rfl : ((y : Int)) = x := by simpa using hx'
      refine ⟨_, hc, t236 (hn y (List.mem_of_getElem? hy)) fun q11 h10 N1 => ⟨q11, _, rfl, ?_⟩⟩
      have hl1 := numB_len (hn y (List.mem_of_getElem? hy))
      have hl2 := bnd i'
      refine New.append (E := byE) (N.ext N1.1) N1.hasL (by omega) fun q13 h14 N2 => ?_
      rw [wrapK_i64 ⟨by omega, by omega⟩]
      refine ⟨trivial, ⟨q13, i' + 1, by simp, by omega, ?_⟩, by simp only; omega⟩
      rw [List.take_add_one, hy, List.flatMap_append]
      simpa using N2
  · replace g := of_decide_eq_false g
    have : i' = l.length := by omega
    subst this
    rw [List.take_length] at N
    exact hQ _ _ N)
end
section
variable {h : Heap} {Q : AV → Heap → Prop}
theorem EdR.ext {h h' : Heap} {e : EV} {d : ED} (R : EdR h e d) (K : Ext h h') : EdR h' e d := ⟨R.1, R.2.1, R.2.2.1, R.2.2.2.mono K⟩
theorem chk_nums {d : ED} (h : chk d = true) : (d.1 = ((d.1.toNat : Nat) : Int) ∧ d.1.toNat < M63) ∧ (d.2.1 = ((d.2.1.toNat : Nat) : Int) ∧ d.2.1.toNat < M63) ∧ (d.2.2.1 = ((d.2.2.1.toNat : Nat) : Int) ∧ d.2.2.1.toNat < M63) ∧ d.2.2.2.length ≤ 256 ∧ d.2.2.2.all refOk = true := by
  simp only [chk, atOk, Bool.and_eq_true, Bool.or_eq_true, decide_eq_true_eq, beq_iff_eq] at h
  obtain ⟨⟨⟨h1, ⟨⟨h2, h3⟩, h4⟩, h5⟩, h6⟩, h7⟩ := h
  simp only [M63]
  refine ⟨⟨by omega, by omega⟩, ⟨by omega, by omega⟩, ⟨by omega, by omega⟩, h6, h7⟩
theorem ref_nums {r : Rf} (h : refOk r = true) : r.1.length ≤ 24 ∧ (r.2.1 = ((r.2.1.toNat : Nat) : Int) ∧ r.2.1.toNat < M63) ∧ (r.2.2 = ((r.2.2.toNat : Nat) : Int) ∧ r.2.2.toNat < M63) := by
  simp only [refOk, Bool.and_eq_true, decide_eq_true_eq] at h
  simp only [M63]
  omega
theorem encD_take {d : ED} : encD d = (numB d.1.toNat ++ numB d.2.1.toNat ++ numB d.2.2.1.toNat ++ numB d.2.2.2.length) ++ encRs (d.2.2.2.take d.2.2.2.length) := by
  rw [List.take_length]; rfl
theorem bnd_enc {l : List Rf} (hl : l.length ≤ 256) (h : l.all refOk = true) (i : Nat) : (encRs (l.take i)).length ≤ 13056 := by
  have := encRs_len (all_take i h)
  have h2 : (l.take i).length ≤ l.length := List.length_take_le' _ _
  omega
theorem cat3 {h0 : Heap} {q13 q24 q29 : Option SL} {a b c : Bs} {K : AV → Heap → Prop} {h28 : Heap} (A : New byE h0 h28 q13 a) (B : HasL byE h28 q24 b) (C : HasL byE h28 q29 c) (hT : a.length + b.length + c.length ≤ 100000)
    (hK : ∀ q34 h33, New byE h0 h33 q34 (a ++ b ++ c) → K (.sl q34) h33) : PNew [.sl q13, .sl q24, .sl q29] true h28 fun a30 h31 => AC Tryz.prog 239 [.sl (some ⟨a30, 0, 3, 3, 0⟩)] h31 K := by
  unfold PNew
  have hx : Ext h28 (h28 ++ [.cells [.sl q13, .sl q24, .sl q29] true]) := .app _ _
  refine t239 (qs := [q13, q24, q29]) (ls := [a, b, c]) (HasL.new (E := slE) (l := [q13, q24, q29]) rfl rfl) rfl ?_ (by simp; omega) (by simp) fun q' h' N => hK q' h' ?_
  · intro i s l hs hl
    match i with
    | 0 => simp at hs hl; subst hs hl; exact A.hasL.mono hx
    | 1 => simp at hs hl; subst hs hl; exact B.mono hx
    | 2 => simp at hs hl; subst hs hl; exact C.mono hx
    | n + 3 => simp at hs
  · have := N.of ((A.1.trans hx))
    simpa using this
set_option maxRecDepth 20000 in
theorem t188 {e : EV} {d : ED} (hR : EdR h e d) (hQ0 : chk d = false → Q (.tup [.sl none, .int .i64 140]) h) (hQ1 : ∀ q h', chk d = true → New byE h h' q (encD d) → Q (.tup [.sl q, .int .i64 0]) h') : AC Tryz.prog 188 [evV e] h Q := ac188 (by
  have hR0 := hR
  obtain ⟨r1, r2, r3, hL⟩ := hR
  have hlen := hL.len
  unfold vc188
  refine u107 (e := e) hR0 ⟨_, rfl, ?_⟩
  cases hc : chk d with
  | false =>
    rw [hc] at hQ0
    simp only [Bool.false_eq_true, if_false]
    exact hQ0 rfl
  | true =>
  rw [if_pos rfl]
  refine vif_mk (fun g => by simp at g) fun _ => ?_
  obtain ⟨⟨c1, c1'⟩, ⟨c2, c2'⟩, ⟨c3, c3'⟩, c4, c5⟩ := chk_nums hc
  show PNew _ true h _
  unfold PNew
  rw [r1, r2, r3, hlen]
  have hx1 : Ext h (h ++ [.cells [.int .i64 d.1, .int .i64 d.2.1, .int .i64 d.2.2.1, .int .i64 ((d.2.2.2.length : Nat) : Int)] true]) := .app _ _
  have len63 : d.2.2.2.length < M63 := by simp only [M63]; omega
  refine t245 (l := [d.1.toNat, d.2.1.toNat, d.2.2.1.toNat, d.2.2.2.length]) (HasL.new (E := intE) (l := [d.1.toNat, d.2.1.toNat, d.2.2.1.toNat, d.2.2.2.length].map fun (n : Nat) => (n : Int)) rfl ?_) (by simp) ?_ fun q12 h11 N0 => ⟨q12, rfl, ?_⟩
  · show [AV.int .i64 d.1, .int .i64 d.2.1, .int .i64 d.2.2.1, .int .i64 ((d.2.2.2.length : Nat) : Int)] = [AV.int .i64 ((d.1.toNat : Nat) : Int), .int .i64 ((d.2.1.toNat : Nat) : Int), .int .i64 ((d.2.2.1.toNat : Nat) : Int), .int .i64 ((d.2.2.2.length : Nat) : Int)]
    rw [← c1, ← c2, ← c3]
  · intro n hn
    simp only [List.mem_cons, List.not_mem_nil, or_false] at hn
    rcases hn with rfl | rfl | rfl | rfl <;> assumption
  have N0 := N0.of hx1
  generalize hhd : [d.1.toNat, d.2.1.toNat, d.2.2.1.toNat, d.2.2.2.length].flatMap numB = hd at N0
  have hhd' : hd = numB d.1.toNat ++ numB d.2.1.toNat ++ numB d.2.2.1.toNat ++ numB d.2.2.2.length := by rw [← hhd]; simp
  have hhl : hd.length ≤ 36 := by
    have h1 := numB_len c1'
    have h2 := numB_len c2'
    have h3 := numB_len c3'
    have h4 := numB_len len63
    rw [hhd']; simp only [List.length_append]; omega
  refine ⟨fun xs h6 => ∃ (q2 : Option SL) (i : Nat), xs = [.sl q2, .int .i64 i] ∧ i ≤ d.2.2.2.length ∧ New byE h h6 q2 (hd ++ encRs (d.2.2.2.take i)), fun xs _ => match xs with | [_, .int _ i] => (d.2.2.2.length - i).toNat | _ => 0, ⟨_, 0, rfl, by omega, by simpa [encRs] using N0⟩, ?_⟩
  rintro q2 i h17 ⟨q2', i', hx, hi, N⟩
  simp only [List.cons.injEq, AV.int.injEq, AV.sl.injEq, true_and, and_true] at hx
  obtain ⟨rfl, rfl⟩ := hx
  refine vif_mk (fun g => ?_) (fun g => ?_)
  · replace g := of_decide_eq_true g
    refine HasL.idx (E := refE) (hL.mono N.1) (by omega) (by omega) fun pp y hy hcy => ⟨y.1, y.2.1, y.2.2, hcy, ?_⟩
    have hy' : d.2.2.2[i']? = some y := by simpa using hy
    have hok : refOk y = true := by rw [List.all_eq_true] at c5; exact c5 y (List.mem_of_getElem? hy')
    obtain ⟨y1, ⟨y2, y2'⟩, ⟨y3, y3'⟩⟩ := ref_nums hok
    have bl := bnd_enc c4 c5 i'
    have rl := encR_len hok
    have hin : ∀ {h26 : Heap} {a : Nat}, h26[a]? = some (.cells [.int .i64 y.2.1, .int .i64 y.2.2] true) → HasL intE h26 (some ⟨a, 0, 2, 2, 0⟩) ([y.2.1.toNat, y.2.2.toNat].map fun (n : Nat) => (n : Int)) := by
      intro h26 a hb
      refine ⟨rfl, Nat.le_refl _, .inl rfl, ?_⟩
      have e : intE.all ([y.2.1.toNat, y.2.2.toNat].map fun (n : Nat) => (n : Int)) = [.int .i64 y.2.1, .int .i64 y.2.2] := by
        show [AV.int .i64 ((y.2.1.toNat : Nat) : Int), .int .i64 ((y.2.2.toNat : Nat) : Int)] = _
        rw [← y2, ← y3]
      rw [e, cellsAt_mk (p := ⟨a, 0⟩) hb (by simp [intE])]
      simp [intE]
    have hn2 : ∀ n ∈ [y.2.1.toNat, y.2.2.toNat], n < M63 := by
      intro n hn
      simp only [List.mem_cons, List.not_mem_nil, or_false] at hn
      rcases hn with rfl | rfl <;> assumption
    have el : ([y.2.1.toNat, y.2.2.toNat] : List Nat).flatMap numB = numB y.2.1.toNat ++ numB y.2.2.toNat := by simp
    have eT : (hd ++ encRs (d.2.2.2.take i')) ++ (numB y.1.length ++ y.1) ++ (numB y.2.1.toNat ++ numB y.2.2.toNat) = hd ++ encRs (d.2.2.2.take (i' + 1)) := by
      rw [encRs_take hy']; simp [encR]
    have hTot : (hd ++ encRs (d.2.2.2.take i')).length + (numB y.1.length ++ y.1).length + (numB y.2.1.toNat ++ numB y.2.2.toNat).length ≤ 100000 := by
      simp only [encR, List.length_append] at rl ⊢; omega
    have step : ∀ (q34 : Option SL) (h33 : Heap), New byE h h33 q34 ((hd ++ encRs (d.2.2.2.take i')) ++ (numB y.1.length ++ y.1) ++ (numB y.2.1.toNat ++ numB y.2.2.toNat)) → _ := fun q34 h33 N3 =>
      (⟨⟨rfl, trivial⟩, ⟨q34, i' + 1, by rw [wrapK_i64 ⟨by omega, by omega⟩]; simp, by omega, by rw [← eT]; exact N3⟩, by rw [wrapK_i64 ⟨by omega, by omega⟩]; omega⟩ :
        ((some [.int .i64 d.1, .int .i64 d.2.1, .int .i64 d.2.2.1, .sl e.2.2.2] : Option (List AV)) = some [.int .i64 d.1, .int .i64 d.2.1, .int .i64 d.2.2.1, .sl e.2.2.2] ∧ True) ∧ (∃ (q2 : Option SL) (i : Nat), [AV.sl q34, .int .i64 (wrapK .i64 ((i' : Int) + 1))] = [.sl q2, .int .i64 i] ∧ i ≤ d.2.2.2.length ∧ New byE h h33 q2 (hd ++ encRs (d.2.2.2.take i))) ∧ ((d.2.2.2.length : Int) - wrapK .i64 ((i' : Int) + 1)).toNat < ((d.2.2.2.length : Int) - (i' : Int)).toNat)
    refine ⟨?_, ?_⟩
    · refine t246 (s := y.1) (by omega) fun q24 h23 N1 => ⟨q24, rfl, rfl, rfl, rfl, ?_⟩
      have hx26 : Ext h23 (h23 ++ [.cells [.int .i64 y.2.1, .int .i64 y.2.2] true]) := .app _ _
      refine t245 (hin (by simp)) (by simp) hn2 fun q29 h28 N2 => ⟨q29, rfl, ?_⟩
      rw [el] at N2
      have hx28 := hx26.trans N2.1
      exact cat3 (N.ext (N1.1.trans hx28)) (N1.hasL.mono hx28) N2.hasL hTot fun q34 h33 N3 => ⟨q34, rfl, step q34 h33 N3⟩
    · have hx36 : Ext h17 (h17 ++ [.cells [.int .i64 y.2.1, .int .i64 y.2.2] true]) := .app _ _
      refine ⟨rfl, t246 (s := y.1) (by omega) fun q24 h23 N1 => ⟨q24, rfl, rfl, rfl, ?_⟩⟩
      refine t245 (hin (N1.1 _ _ (by simp))) (by simp) hn2 fun q29 h28 N2 => ⟨q29, rfl, ?_⟩
      rw [el] at N2
      exact cat3 (N.ext ((hx36.trans N1.1).trans N2.1)) (N1.hasL.mono N2.1) N2.hasL hTot fun q34 h33 N3 => ⟨q34, rfl, step q34 h33 N3⟩
  · replace g := of_decide_eq_false g
    have : i' = d.2.2.2.length := by omega
    subst this
    refine hQ1 _ _ hc ?_
    rw [encD_take, ← hhd']
    exact N)
end
def rdRs : Nat → Option Bs → Option (List Rf × Bs)
  | 0, o => (match o with | some l => some ([], l) | none => none)
  | n + 1, o => (match nm (stO (nm (stO (tx 24 o)))) with
    | none => none
    | some (c, l) => (match rdRs n (some l) with
      | some (rs, l') => some ((valS (tx 24 o), valN (nm (stO (tx 24 o))), (c : Int)) :: rs, l')
      | none => none))
def rdE (b : Bs) : Option ED :=
  match nm (stO (nm (stO (nm (stO (nm (some b))))))) with
  | none => none
  | some (n, l) => if n > 256 then none else (match rdRs n (some l) with
    | some (rs, l') => if l' = [] ∧ chk (valN (nm (some b)), valN (nm (stO (nm (some b)))), valN (nm (stO (nm (stO (nm (some b)))))), rs) = true then some (valN (nm (some b)), valN (nm (stO (nm (some b)))), valN (nm (stO (nm (stO (nm (some b)))))), rs) else none
    | none => none)
theorem rdRs_none : ∀ {n : Nat}, rdRs n none = none
  | 0 => rfl
  | n + 1 => by
    have e : nm (stO (nm (stO (tx 24 none)))) = none := rfl
    simp only [rdRs, e]
theorem Bd.tx {o : Option Bs} {m : Nat} (B : Bd o) : Bd (stO (tx m o)) := by
  intro l hl
  cases o with
  | none => cases hl
  | some l0 =>
    have := B l0 rfl
    simp only [Go.Proofs.YtnglhicedhcpbaaGreatDoor.tx] at hl
    cases hr : rdT m l0 with
    | none => rw [hr] at hl; cases hl
    | some r => rw [hr] at hl; cases hl; have := rdT_len hr; omega
section
variable {h : Heap} {Q : AV → Heap → Prop} {p : Nat} {o : Option Bs}
set_option maxRecDepth 20000 in
theorem e243 {m : Nat} (R : Rd h p o) (hl : Bd o) (hQ : ∀ h', Fr p h h' → Rd h' p (stO (tx m o)) → Q (.str (valS (tx m o))) h') : AC Tryz.prog 243 [.ptr (some ⟨p, 0⟩), .int .i64 m] h Q := ac243 (by
  unfold vc243
  refine e159 R hl fun h4 F4 R4 => ⟨_, rfl, ?_⟩
  refine e231 R4 ⟨_, rfl, ?_⟩
  have bad : tx m o = none → ∀ o' h', Fr p h h' → Rd h' p o' → AC Tryz.prog 230 [.ptr (some ⟨p, 0⟩)] h' fun v9 h10 => ∃ n11 : Int, v9 = .int .i64 n11 ∧ Q (.str []) h10 := by
    intro e o' h' F R'
    rw [e] at hQ
    exact e230 R' fun h2 F2 R2 => ⟨_, rfl, hQ h2 (F.trans F2) R2⟩
  have hB := hl.nm
  cases o with
  | none => exact vif_mk (fun _ => bad rfl _ _ F4 R4) (fun g => by cases g)
  | some l =>
  have etx : tx m (some l) = match rdN l with | some (n, l') => if n ≤ m ∧ n ≤ l'.length then some (l'.take n, l'.drop n) else none | none => none := rfl
  have enm : nm (some l) = rdN l := rfl
  cases hr : rdN l with
  | none =>
    rw [hr] at etx enm
    refine vif_mk (fun _ => bad etx _ _ F4 R4) (fun g => ?_)
    rw [enm] at g; cases g
  | some r =>
    obtain ⟨n, l'⟩ := r
    rw [hr] at etx enm
    rw [enm] at R4 hB ⊢
    simp only [stO] at R4
    rw [valN_some]
    refine vif_mk (fun g => by cases g) (fun _ => vif_mk (fun g => ?_) (fun g => ?_))
    · replace g := of_decide_eq_true g
      refine bad ?_ _ _ F4 R4
      rw [etx]; simp only; rw [if_neg (by omega)]
    · replace g := of_decide_eq_false g
      refine e268 R4 hB (fun ht h' F' R' => ⟨_, rfl, ?_⟩) (fun a b ht q h' F' H' _ R' => ⟨_, rfl, ?_⟩)
      · have : tx m (some l) = none := by
          rw [etx]; simp only
          rw [if_neg]
          rintro ⟨_, h2⟩
          simp only [tk] at ht
          rw [if_pos (by omega)] at ht
          cases ht
        rw [this] at hQ
        exact ⟨[], rfl, hQ h' (F4.trans F') R'⟩
      · obtain ⟨l2, e1, b1, b2, rfl, rfl⟩ := tk_some ht
        cases e1
        have : tx m (some l) = some (l'.take n, l'.drop n) := by
          rw [etx]; simp only
          rw [if_pos (by omega)]
        rw [this] at hQ
        simp only [Int.toNat_natCast] at H' R'
        refine ⟨l'.take n, ?_, hQ h' (F4.trans F') R'⟩
        have := H'.cells
        rw [byE_all] at this
        simpa [byE] using this)
set_option maxRecDepth 20000 in
theorem e176 {q : Option SL} {l : Bs} (H : HasL byE h q l) (hl : l.length ≤ 100000) (hQ0 : rdE l = none → ∀ h', Ext h h' → Q (.tup [evV zeroV, .int .i64 140]) h') (hQ1 : ∀ d e h', rdE l = some d → Ext h h' → EdR h' e d → (∀ s, e.2.2.2 = some s → h.length ≤ s.b) → Q (.tup [evV e, .int .i64 0]) h') : AC Tryz.prog 176 [.sl q] h Q := ac176 (by
  unfold vc176
  refine e158 H hl fun p h3 hx3 hp R0 => ⟨_, rfl, ?_⟩
  have B0 : Bd (some l) := fun l' h => by cases h; exact hl
  refine e159 R0 B0 fun h6 F1 R1 => ⟨_, rfl, ?_⟩
  refine e159 R1 B0.nm fun h9 F2 R2 => ⟨_, rfl, ?_⟩
  refine e159 R2 B0.nm.nm fun h12 F3 R3 => ⟨_, rfl, ?_⟩
  refine e159 R3 B0.nm.nm.nm fun h15 F4 R4 => ⟨_, rfl, ?_⟩
  refine e231 R4 ⟨_, rfl, ?_⟩
  have B4 := B0.nm.nm.nm.nm
  have x15 : Ext h h15 := (((F1.trans F2).trans F3).trans F4).ext hx3 hp
  have erd : rdE l = match nm (stO (nm (stO (nm (stO (nm (some l))))))) with
    | none => none
    | some (n, l1) => if n > 256 then none else (match rdRs n (some l1) with
      | some (rs, l') => if l' = [] ∧ chk (valN (nm (some l)), valN (nm (stO (nm (some l)))), valN (nm (stO (nm (stO (nm (some l)))))), rs) = true then some (valN (nm (some l)), valN (nm (stO (nm (some l)))), valN (nm (stO (nm (stO (nm (some l)))))), rs) else none
      | none => none) := rfl
  generalize valN (nm (some l)) = v1 at *
  generalize valN (nm (stO (nm (some l)))) = v2 at *
  generalize valN (nm (stO (nm (stO (nm (some l)))))) = v3 at *
  generalize nm (stO (nm (stO (nm (stO (nm (some l))))))) = r4 at *
  cases r4 with
  | none =>
    exact vif_mk (fun _ => hQ0 erd h15 x15) (fun g => by cases g)
  | some r =>
  obtain ⟨N, l1⟩ := r
  simp only [stO] at R4 B4
  rw [valN_some]
  refine vif_mk (fun g => by cases g) (fun _ => vif_mk (fun g => ?_) (fun g => ?_))
  · replace g := of_decide_eq_true g
    simp only at erd
    rw [if_pos (by omega)] at erd
    exact hQ0 erd h15 x15
  replace g := of_decide_eq_false g
  simp only at erd
  rw [if_neg (by omega)] at erd
  have hp15 : p < h15.length := R4.live
  refine ⟨fun xs h27 => ∃ (i : Nat) (q24 : Option SL) (rs : List Rf) (o : Option Bs), xs = [.int .i64 i, .int .i64 v1, .int .i64 v2, .int .i64 v3, .sl q24] ∧ i ≤ N ∧ rs.length = i ∧ Ext h h27 ∧ Rd h27 p o ∧ Bd o ∧ Apd refE h27 q24 rs ∧ (∀ s, q24 = some s → p < s.b) ∧
      rdRs N (some l1) = (match rdRs (N - i) o with | some (rs', l') => some (rs ++ rs', l') | none => none),
    fun xs _ => match xs with | [.int _ i, _, _, _, _] => (N - i).toNat | _ => 0, ⟨0, none, [], some l1, rfl, by omega, rfl, x15, R4, B4, .inl ⟨rfl, rfl⟩, fun s hs => (by cases hs), ?_⟩, ?_⟩
  · rw [Nat.sub_zero]
    cases rdRs N (some l1) with
    | none => rfl
    | some x => rfl
  rintro n20 n21 n22 n23 q24 h27 ⟨i', q24', rs, o, hx, hi, hrs, x27, R, B, A, hq, hI⟩
  simp only [List.cons.injEq, AV.int.injEq, AV.sl.injEq, true_and, and_true] at hx
  obtain ⟨rfl, rfl, rfl, rfl, rfl⟩ := hx
  refine vif_mk (fun g2 => ?_) (fun g2 => ?_)
  · replace g2 := of_decide_eq_true g2
    refine e243 (m := 24) R B fun h29 F29 R29 => ⟨_, rfl, rfl, ?_⟩
    refine e159 R29 B.tx fun h32 F32 R32 => ⟨_, rfl, rfl, ?_⟩
    refine e159 R32 B.tx.nm fun h35 F35 R35 => ⟨_, rfl, rfl, ?_⟩
    have F := (F29.trans F32).trans F35
    have A35 : Apd refE h35 q24 rs := A.keeps F.keeps (fun s hs he => by have := hq s hs; have he : s.b = p := he; omega)
    have x35 : Ext h h35 := F.ext x27 (by have := hx3.len; omega)
    unfold PNew
    have xn : Ext h35 (h35 ++ [.cells [.str (valS (tx 24 o)), .int .i64 (valN (nm (stO (tx 24 o)))), .int .i64 (valN (nm (stO (nm (stO (tx 24 o))))))] true]) := .app _ _
    have hsrc : HasL refE (h35 ++ [.cells [.str (valS (tx 24 o)), .int .i64 (valN (nm (stO (tx 24 o)))), .int .i64 (valN (nm (stO (nm (stO (tx 24 o))))))] true]) (some ⟨h35.length, 0, 1, 1, 0⟩) [(valS (tx 24 o), valN (nm (stO (tx 24 o))), valN (nm (stO (nm (stO (tx 24 o))))))] := HasL.new (E := refE) (l := [(valS (tx 24 o), valN (nm (stO (tx 24 o))), valN (nm (stO (nm (stO (tx 24 o))))))]) rfl (by simp [Enc.all, refE])
    refine ⟨rfl, Apd.append (E := refE) (A35.ext xn) hsrc (by simp; omega) fun q39 h40 A40 K40 hl40 hq40 => ?_⟩
    rw [wrapK_i64 ⟨by omega, by omega⟩]
    have hpl := R35.live
    refine ⟨⟨trivial, rfl, trivial⟩, ⟨i' + 1, q39, _, stO (nm (stO (nm (stO (tx 24 o))))), by simp, by omega, by simp [hrs], ?_, ?_, B.tx.nm.nm, A40, ?_, ?_⟩, by simp only; omega⟩
    · intro b B' hB
      exact K40 b B' (fun ⟨s, a1, a2⟩ => by have := hq s a1; have := lt_of_get hB; have := hx3.len; omega) (xn _ _ (x35 _ _ hB))
    · exact (R35.ext xn).keeps K40 (fun b hb ⟨s, a1, a2⟩ => by have := hq s a1; omega)
    · intro s hs
      rcases hq40 s hs with a | ⟨s', a1, a2⟩
      · simp at a; omega
      · have := hq s' a1; omega
    · rw [hI]
      obtain ⟨k, hk⟩ : ∃ k, N - i' = k + 1 := ⟨N - i' - 1, by omega⟩
      have hk2 : N - (i' + 1) = k := by omega
      rw [hk, hk2]
      simp only [rdRs]
      generalize tx 24 o = r1
      generalize nm (stO r1) = r2
      generalize nm (stO r2) = r3
      cases r3 with
      | none => simp only [stO, rdRs_none]
      | some r3 =>
        obtain ⟨c, l3⟩ := r3
        simp only [stO, valN_some]
        cases rdRs k (some l3) with
        | none => rfl
        | some x => obtain ⟨rs', l'⟩ := x; simp
  · replace g2 := of_decide_eq_false g2
    have : i' = N := by omega
    subst this
    rw [Nat.sub_self] at hI
    refine e160 R ⟨_, rfl, ?_⟩
    cases o with
    | none =>
      simp only [rdRs] at hI
      rw [hI] at erd
      exact vif_mk (fun _ => hQ0 erd h27 x27) (fun g => by cases g)
    | some l' =>
      simp only [rdRs] at hI
      rw [hI] at erd
      simp only [List.append_nil] at erd
      by_cases hl' : l' = []
      · simp only [if_pos hl']
        refine vif_mk (fun g => by cases g) (fun _ => ?_)
        refine u107 (e := (n21, n22, n23, q24)) (d := (n21, n22, n23, rs)) ⟨rfl, rfl, rfl, A.hasL⟩ ⟨_, rfl, ?_⟩
        cases hc : chk (n21, n22, n23, rs) with
        | true =>
          rw [if_pos ⟨hl', hc⟩] at erd
          exact vif_mk (fun g => by cases g) (fun _ => hQ1 (n21, n22, n23, rs) (n21, n22, n23, q24) h27 erd x27 ⟨rfl, rfl, rfl, A.hasL⟩ (fun s hs => by have := hq s hs; omega))
        | false =>
          rw [if_neg (fun hh => by rw [hc] at hh; cases hh.2)] at erd
          exact vif_mk (fun _ => hQ0 erd h27 x27) (fun g => by cases g)
      · simp only [if_neg hl']
        rw [if_neg (fun hh => hl' hh.1)] at erd
        exact vif_mk (fun _ => hQ0 erd h27 x27) (fun g => by cases g))
end
theorem nm_enc {n : Nat} (hn : n < M63) {l : Bs} : nm (some (numB n ++ l)) = some (n, l) := rdN_numB (by simpa only [M63] using hn)
theorem tx_enc {m : Nat} {s l : Bs} (h : s.length ≤ m) (hm : m < 1000) : tx m (some (numB s.length ++ (s ++ l))) = some (s, l) := by
  simp only [tx, rdT]
  rw [rdN_numB (by omega)]
  simp only
  rw [if_pos ⟨h, by simp⟩]
  simp
theorem rdRs_enc : ∀ {rs : List Rf} {t : Bs}, rs.all refOk = true → rdRs rs.length (some (encRs rs ++ t)) = some (rs, t)
  | [], t, _ => by simp [rdRs, encRs]
  | r :: rs, t, h => by
    rw [List.all_cons, Bool.and_eq_true] at h
    obtain ⟨y1, ⟨y2, y2'⟩, ⟨y3, y3'⟩⟩ := ref_nums h.1
    have e0 : encRs (r :: rs) ++ t = numB r.1.length ++ (r.1 ++ (numB r.2.1.toNat ++ (numB r.2.2.toNat ++ (encRs rs ++ t)))) := by simp [encRs, encR]
    rw [e0, List.length_cons]
    simp only [rdRs]
    rw [tx_enc (m := 24) y1 (by omega)]
    simp only [stO]
    rw [nm_enc y2']
    simp only [stO]
    rw [nm_enc y3']
    simp only [stO]
    rw [rdRs_enc h.2]
    simp only [valS, valN]
    rw [← y2, ← y3]
theorem rdE_mk {b b1 b2 b3 b4 : Bs} {k e r n : Nat} {rs : List Rf} (h1 : nm (some b) = some (k, b1)) (h2 : nm (some b1) = some (e, b2)) (h3 : nm (some b2) = some (r, b3)) (h4 : nm (some b3) = some (n, b4)) (h5 : rdRs n (some b4) = some (rs, [])) (hn : n ≤ 256) (hc : chk ((k : Int), (e : Int), (r : Int), rs) = true) :
    rdE b = some ((k : Int), (e : Int), (r : Int), rs) := by
  have hn' : ¬ n > 256 := by omega
  simp only [rdE, h1, stO, h2, h3, h4, h5, valN, hc, hn', if_false, and_self, if_true]
theorem rdE_encD {d : ED} (h : chk d = true) : rdE (encD d) = some d := by
  obtain ⟨⟨c1, c1'⟩, ⟨c2, c2'⟩, ⟨c3, c3'⟩, c4, c5⟩ := chk_nums h
  have len63 : d.2.2.2.length < M63 := by simp only [M63]; omega
  have e0 : encD d = numB d.1.toNat ++ (numB d.2.1.toNat ++ (numB d.2.2.1.toNat ++ (numB d.2.2.2.length ++ (encRs d.2.2.2 ++ [])))) := by simp [encD]
  have := rdE_mk (b := encD d) (by rw [e0]; exact nm_enc c1') (nm_enc c2') (nm_enc c3') (nm_enc len63) (rdRs_enc c5) c4 (by rw [← c1, ← c2, ← c3]; exact h)
  rw [this, ← c1, ← c2, ← c3]
def sameD (d d2 : ED) : Bool := decide (d = d2)
theorem sameD_eq {d d2 : ED} : sameD d d2 = ((d.1 == d2.1) && ((d.2.1 == d2.2.1) && (d.2.2.1 == d2.2.2.1)) && decide (d.2.2.2 = d2.2.2.2)) := by
  obtain ⟨a, b, c, l⟩ := d
  obtain ⟨a2, b2, c2, l2⟩ := d2
  unfold sameD
  rw [Bool.eq_iff_iff]
  simp [and_assoc]
section
variable {h : Heap} {Q : AV → Heap → Prop}
theorem eq_step {l l2 : List Rf} {i : Nat} {x y : Rf} (hx : l[i]? = some x) (hy : l2[i]? = some y) (ht : l.take i = l2.take i) (h : x = y) : l.take (i + 1) = l2.take (i + 1) := by
  rw [List.take_add_one, List.take_add_one, hx, hy, ht, h]
theorem u115 {e e2 : EV} {d d2 : ED} (hR : EdR h e d) (hR2 : EdR h e2 d2) (hl : d.2.2.2.length ≤ 300) (hQ : Q (.bool (sameD d d2)) h) : AC Tryz.prog 115 [evV e, evV e2] h Q := ac115 (by
  obtain ⟨r1, r2, r3, H⟩ := hR
  obtain ⟨s1, s2, s3, H2⟩ := hR2
  have hlen := H.len
  have hlen2 := H2.len
  unfold vc115
  rw [r1, r2, r3, s1, s2, s3]
  rw [sameD_eq] at hQ
  refine vif_mk (fun g => ?_) (fun g => ?_)
  · have : (d.1 == d2.1) = false := by simpa using g
    rw [this] at hQ; simpa using hQ
  refine vif_mk (fun g2 => ?_) (fun g2 => ?_)
  · rw [Bool.and_true] at g2
    have : (d.2.1 == d2.2.1 && d.2.2.1 == d2.2.2.1) = false := by
      cases hx : (d.2.1 == d2.2.1 && d.2.2.1 == d2.2.2.1)
      · rfl
      · rw [hx] at g2; cases g2
    rw [this] at hQ; simpa using hQ
  have hb : ((d.1 == d2.1) && ((d.2.1 == d2.2.1) && (d.2.2.1 == d2.2.2.1))) = true := by
    rw [Bool.and_true] at g2
    have h1 : (d.1 == d2.1) = true := by simpa using g
    have h2 : (d.2.1 == d2.2.1 && d.2.2.1 == d2.2.2.1) = true := by
      cases hx : (d.2.1 == d2.2.1 && d.2.2.1 == d2.2.2.1)
      · rw [hx] at g2; cases g2
      · rfl
    rw [h1, h2]; rfl
  rw [hb, Bool.true_and] at hQ
  generalize d.2.2.2 = l at *
  generalize d2.2.2.2 = l2 at *
  refine vif_mk (fun g => ?_) (fun g => ?_)
  · have : ¬ l = l2 := by
      intro he; subst he
      rw [hlen, hlen2] at g; simp at g
    rw [decide_eq_false this] at hQ; exact hQ
  have hle : l.length = l2.length := by
    rw [hlen, hlen2] at g
    have : ((l.length : Nat) : Int) = (l2.length : Nat) := by simpa using g
    omega
  refine ⟨fun xs h9 => h9 = h ∧ ∃ i : Nat, xs = [.int .i64 i] ∧ i ≤ l.length ∧ l.take i = l2.take i, fun xs _ => match xs with | [.int _ i] => (l.length - i).toNat | _ => 0, ⟨rfl, 0, rfl, by omega, by simp⟩, ?_⟩
  rintro i h9 ⟨rfl, i', hx, hi, ht⟩
  simp only [List.cons.injEq, AV.int.injEq, true_and, and_true] at hx
  subst hx
  refine vif_mk (fun g1 => ?_) (fun g1 => ?_)
  · replace g1 := of_decide_eq_true g1
    refine HasL.idx (E := refE) H (by omega) (by omega) fun pp x hx hc => ⟨x.1, x.2.1, x.2.2, hc, ?_⟩
    refine HasL.idx (E := refE) H2 (by omega) (by omega) fun pp2 y hy hc2 => ⟨y.1, y.2.1, y.2.2, hc2, ?_⟩
    have hx' : l[i']? = some x := by simpa using hx
    have hy' : l2[i']? = some y := by simpa using hy
    refine vif_mk (fun g2 => ?_) (fun g2 => ?_)
    · have hne : ¬ l = l2 := by
        intro he; subst he
        rw [hx'] at hy'; cases hy'
        simp at g2
      rw [decide_eq_false hne] at hQ; exact hQ
    · have hxy : x = y := by
        simp at g2
        obtain ⟨a, b, c⟩ := x
        obtain ⟨a2, b2, c2⟩ := y
        simp at g2 ⊢; exact g2
      rw [wrapK_i64 ⟨by omega, by omega⟩]
      exact ⟨⟨rfl, rfl, trivial⟩, ⟨rfl, i' + 1, by simp, by omega, eq_step hx' hy' ht hxy⟩, by simp only; omega⟩
  · replace g1 := of_decide_eq_false g1
    have : i' = l.length := by omega
    subst this
    have he : l = l2 := by rw [List.take_length, hle, List.take_length] at ht; exact ht
    rw [decide_eq_true he] at hQ; exact hQ)
end
end Go.Proofs.YtnglhicedhcpbaaGreatDoor
