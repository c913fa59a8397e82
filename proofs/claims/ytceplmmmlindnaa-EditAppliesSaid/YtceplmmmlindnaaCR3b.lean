/- What the functions of a state do, over the abstract heap: clones, marks, lists of edits. -/
import Derived.Test.YtceplmmmlindnaaCR3a
namespace Go.Proofs.Ytceplmmmlindnaa
open Go.Ab
set_option linter.unusedVariables false
set_option linter.unusedSimpArgs false

/-- From one heap to a later one: all blocks but some are as they were. -/
def Keeps (X : Nat → Prop) (h h' : Heap) : Prop := ∀ (b : Nat) (B : Blk), ¬ X b → h[b]? = some B → h'[b]? = some B
theorem Keeps.refl (X : Nat → Prop) (h : Heap) : Keeps X h h := fun _ _ _ e => e
theorem Keeps.trans {X : Nat → Prop} {a b c : Heap} (h : Keeps X a b) (h' : Keeps X b c) : Keeps X a c := fun k B hk e => h' k B hk (h k B hk e)
theorem keeps_of_ext {X : Nat → Prop} {h h' : Heap} (e : Ext h h') : Keeps X h h' := fun b B _ hb => e b B hb
theorem Keeps.cells {X : Nat → Prop} {h h' : Heap} (K : Keeps X h h') {p : PA} {n : Nat} {c : List AV} (hp : ¬ X p.b) (hc : cellsAt h p n = some c) : cellsAt h' p n = some c := by
  unfold cellsAt at hc ⊢
  split at hc
  · rename_i c' rw' hb
    rw [K _ _ hp hb]; exact hc
  · cases hc
theorem Keeps.hasL {α : Type} {E : Enc α} {X : Nat → Prop} {h h' : Heap} (K : Keeps X h h') {q : Option SL} {l : List α} (hq : ∀ s, q = some s → ¬ X s.b) (H : HasL E h q l) : HasL E h' q l := by
  cases q with
  | none => exact H
  | some s => exact ⟨H.1, H.2.1, H.2.2.1, K.cells (hq s rfl) H.2.2.2⟩
theorem Keeps.edR {X : Nat → Prop} {h h' : Heap} (K : Keeps X h h') {e : EV} {d : ED} (hq : ∀ s, e.2.2.2 = some s → ¬ X s.b) (H : EdR h e d) : EdR h' e d := ⟨H.1, H.2.1, H.2.2.1, K.hasL hq H.2.2.2⟩
theorem HasL.live {α : Type} {E : Enc α} {h : Heap} {q : Option SL} {l : List α} (H : HasL E h q l) : ∀ s, q = some s → s.b < h.length := by
  intro s hs
  subst hs
  obtain ⟨c, rw, hb, _⟩ := cellsAt_some H.2.2.2
  exact lt_of_get hb

/-- A list that has a block of its own. -/
def Grow {α : Type} (E : Enc α) (h : Heap) (q : Option SL) (l : List α) : Prop := Acc E [] h q l
theorem Grow.start {α : Type} {E : Enc α} (h : Heap) : Grow E h none ([] : List α) := ⟨fun b B hb => by simp at hb, rfl⟩
theorem Grow.keeps {α : Type} {E : Enc α} {h h' : Heap} {q : Option SL} {l : List α} {X : Nat → Prop} (G : Grow E h q l) (K : Keeps X h h') (hq : ∀ s, q = some s → ¬ X s.b) : Grow E h' q l := by
  refine ⟨fun b B hb => by simp at hb, ?_⟩
  have := G.2
  cases q with
  | none => exact this
  | some s => obtain ⟨b0, b1, b2, b3, b4, b5⟩ := this; exact ⟨b0, b1, b2, b3, b4, K _ _ (hq s rfl) b5⟩

theorem Grow.append {α : Type} {E : Enc α} {h : Heap} {q src : Option SL} {l m : List α} {by' : Nat} {K : Option SL → Heap → Prop} (A : Grow E h q l) (H : HasL E h src m) (hb : (l.length + m.length) * by' ≤ 140737488355328)
    (hK : ∀ q' h', Grow E h' q' (l ++ m) → Keeps (fun b => ∃ s, q = some s ∧ s.b = b) h h' → h.length ≤ h'.length → (∀ s', q' = some s' → h.length ≤ s'.b ∨ ∃ s, q = some s ∧ s.b = s'.b) → K q' h') : PAppendS E.sz by' q src h K := by
  refine ⟨E.all m, H.cells, by rw [Enc.all_length, H.len], ?_⟩
  rw [H.len]
  have hnil : ∀ h' : Heap, Ext [] h' := fun h' b B hb => by simp at hb
  obtain ⟨hx, A⟩ := A
  cases q with
  | none =>
    simp only at A
    subst A
    simp only
    split
    · rename_i hm
      have : m = [] := List.eq_nil_of_length_eq_zero hm
      subst this
      exact hK _ _ ⟨hx, rfl⟩ (.refl _ _) (Nat.le_refl _) (fun s' h => by cases h)
    · refine ⟨by simpa using hb, E.pos, hK _ _ ⟨hnil _, ?_⟩ (keeps_of_ext (Ext.app _ _)) (by simp) (fun s' h => by cases h; exact .inl (Nat.le_refl _))⟩
      exact ⟨Nat.zero_le _, rfl, by simp, by simp, rfl, by simp⟩
  | some s =>
    simp only at A ⊢
    obtain ⟨b0, b1, b2, b3, b4, b5⟩ := A
    have hset : ∀ B : Blk, Keeps (fun b => ∃ s', some s = some s' ∧ s'.b = b) h (h.set s.b B) := by
      intro B b C hb hC
      rw [List.getElem?_set, if_neg]
      · exact hC
      · intro he; exact hb ⟨s, rfl, he⟩
    split
    · rename_i hle
      have hm : m.length = 0 := by omega
      have : m = [] := List.eq_nil_of_length_eq_zero hm
      subst this
      rw [b5]
      simp only
      have e0 : E.all ([] : List α) = [] := rfl
      refine ⟨by simp [b1, b2, Enc.all_length, e0], hK _ _ ⟨hnil _, ?_⟩ (hset _) (by simp) (fun s' h => by cases h; exact .inr ⟨s, rfl, rfl⟩)⟩
      refine ⟨b0, b1, by simp [b2], by simp [b3], b4, ?_⟩
      have hlt := lt_of_get b5
      rw [List.getElem?_set_self hlt]
      simp [Enc.all, splice, List.take_append_drop]
    · have hold : cellsAt h ⟨s.b, s.o⟩ (s.len * E.sz) = some (E.all l) := by
        rw [cellsAt_mk (p := ⟨s.b, s.o⟩) b5 (by simp [b1, b2, Enc.all_length])]
        simp [b1, b2, ← Enc.all_length]
      refine ⟨by rw [b2]; exact hb, E.pos, ?_⟩
      rw [hold, b5]
      simp only
      have h0' : ¬ s.opn = 0 := by rw [b4]; have := E.pos; omega
      rw [if_neg h0']
      refine ⟨trivial, b4, hK _ _ ⟨hnil _, ?_⟩ ((hset _).trans (keeps_of_ext (Ext.app _ _))) (by simp) (fun s' h => by cases h; exact .inl (Nat.le_refl _))⟩
      refine ⟨Nat.zero_le _, rfl, by simp [b2], by simp [b2], rfl, ?_⟩
      rw [List.getElem?_append_right (by simp)]
      simp [Enc.all_append]

section
variable {h : Heap} {Q : AV → Heap → Prop}

/-- slices.Clone of refs. -/
theorem t119 {q : Option SL} {l : List Rf} (hL : HasL refE h q l) (hl : l.length ≤ 256) (hQ : ∀ q' h', Ext h h' → HasL refE h' q' l → (∀ s, q' = some s → h.length ≤ s.b) → Q (.sl q') h') : AC Try.prog 119 [.sl q] h Q := ac119 (by
  unfold vc119
  refine vif_mk (fun h1 => ?_) (fun h1 => ?_)
  · cases q with
    | none => exact hQ _ _ (.refl _) hL (fun s hs => by cases hs)
    | some s => simp at h1
  · unfold PNew
    have hL' := hL.mono (Ext.app h [.cells [] true])
    refine ⟨refE.all l, hL'.cells, by rw [Enc.all_length, hL.len]; rfl, ?_⟩
    rw [hL.len]
    simp only
    split
    · rename_i h0
      have hl0 : l = [] := List.eq_nil_of_length_eq_zero (by omega)
      subst hl0
      simp only [List.getElem?_append_right (Nat.le_refl _), Nat.sub_self, List.getElem?_cons_zero]
      refine ⟨by simp [Enc.all], hQ _ _ ?_ ?_ (fun s hs => by cases hs; exact Nat.le_refl _)⟩
      · exact (Ext.app _ _).set (Nat.le_refl _)
      · refine ⟨by simp, by simp, .inl rfl, ?_⟩
        simp [cellsAt, Enc.all]
    · refine ⟨by omega, by omega, ?_⟩
      have hc : cellsAt (h ++ [.cells [] true]) ⟨h.length, 0⟩ (0 * 3) = some [] := by simp [cellsAt]
      rw [hc]
      simp only [List.getElem?_append_right (Nat.le_refl _), Nat.sub_self, List.getElem?_cons_zero, if_true, List.nil_append]
      refine hQ _ _ ((Ext.app _ _).trans (Ext.app _ _)) ?_ (fun s hs => by cases hs; simp)
      refine ⟨by simp, by simp, .inr rfl, ?_⟩
      rw [cellsAt_mk (C := refE.all l) (rw' := true) (by simp) (by simp [Enc.all_length])]
      simp [← Enc.all_length])

/-- clone: another edit that is the same. -/
theorem t80 {e : EV} {d : ED} (hR : EdR h e d) (hl : d.2.2.2.length ≤ 256) (hQ : ∀ (e' : EV) h', Ext h h' → EdR h' e' d → (∀ s, e'.2.2.2 = some s → h.length ≤ s.b) → e'.1 = e.1 → e'.2.1 = e.2.1 → e'.2.2.1 = e.2.2.1 → Q (evV e') h') : AC Try.prog 80 [evV e] h Q := ac80 (by
  unfold vc80
  refine t119 hR.2.2.2 hl fun q' h' hx hL hs => ⟨q', rfl, hQ (e.1, e.2.1, e.2.2.1, q') h' hx ⟨hR.1, hR.2.1, hR.2.2.1, hL⟩ hs rfl rfl rfl⟩)
end
end Go.Proofs.Ytceplmmmlindnaa
