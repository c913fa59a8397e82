import Derived.Test.YtafmabnolelknaaGreatDoorAG12
import Derived.Deep.Slices
import Derived.Deep.Strs
namespace Go.Ab
open Go.ChangeShapes Go.WideShapes Go.ChangeAt Go.RowKit
set_option linter.unusedSimpArgs false
set_option linter.unusedVariables false
def ReadOnly (hp : Heap) : Prop := ∀ (b : Nat) (B : Blk), hp[b]? = some B → B.rw = false
theorem ReadOnly.add {hp : Heap} (h : ReadOnly hp) {B : Blk} (hB : B.rw = false) : ReadOnly (hp ++ [B]) := by
  intro b B' hb
  rw [List.getElem?_append] at hb
  split at hb
  · exact h b B' hb
  · have : b - hp.length = 0 := by have := lt_of_get hb; simp at this; omega
    rw [this] at hb; simp at hb; subst hb; exact hB
theorem HRel.addRO {μ : Ren} {hp : Heap} {W : World} (H : HRel μ hp W) (ro : ReadOnly hp) {e : ME} {B : Blk} (hB : B.rw = false) (he : e.r < W.heap.size) (hb : BlkRel (μ ++ [e]) W e B) : HRel (μ ++ [e]) (hp ++ [B]) W := by
  have ro' := ro.add hB
  have split2 : ∀ {b : Nat} {B' : Blk}, (hp ++ [B])[b]? = some B' → (b < hp.length ∧ hp[b]? = some B') ∨ (b = hp.length ∧ B' = B) := by
    intro b B' hb
    rw [List.getElem?_append] at hb
    split at hb
    · exact .inl ⟨by assumption, hb⟩
    · have : b - hp.length = 0 := by have := lt_of_get hb; simp at this; omega
      rw [this] at hb; simp at hb
      exact .inr ⟨by omega, hb.symm⟩
  have splitm : ∀ {b : Nat} {e' : ME}, (μ ++ [e])[b]? = some e' → (b < μ.length ∧ μ[b]? = some e') ∨ (b = μ.length ∧ e' = e) := by
    intro b e' hb
    rw [List.getElem?_append] at hb
    split at hb
    · exact .inl ⟨by assumption, hb⟩
    · have : b - μ.length = 0 := by have := lt_of_get hb; simp at this; omega
      rw [this] at hb; simp at hb
      exact .inr ⟨by omega, hb.symm⟩
  have hlen := H.len
  refine ⟨by simp [hlen], ?_, ?_, ?_⟩
  · intro b B' e' h1 h2
    rcases split2 h1 with ⟨g1, g2⟩ | ⟨g1, rfl⟩ <;> rcases splitm h2 with ⟨g3, g4⟩ | ⟨g3, rfl⟩
    · exact (H.blk b B' e' g2 g4).mono (Ren.le_append _ _)
    · omega
    · omega
    · exact hb
  · intro b1 b2 B1 B2 e1 e2 hne h1 h2 hrw
    rw [ro' b1 B1 h1] at hrw; cases hrw
  · intro b e' h2
    rcases splitm h2 with ⟨g3, g4⟩ | ⟨g3, rfl⟩
    · exact H.bnd b e' g4
    · exact he
end Go.Ab
