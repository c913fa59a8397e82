import Derived.Test.YtnglhicedhcpbaaGreatDoorKG2
import Derived.Test.YtnglhicedhcpbaaGreatDoorKG9
import Derived.Test.YtnglhicedhcpbaaGreatDoorKG15
import Derived.Sort.Walk0
namespace Go.Dsk
open Go.Ab Go.Sort Go.Proofs
set_option linter.unusedVariables false
set_option linter.unusedSimpArgs false
abbrev Str := List UInt8
def strE : Enc Str := ⟨1, fun s => [.str s], fun _ => rfl, by omega, fun _ => rfl⟩
theorem bl_lt {a b : Str} : bytesLess a b = true ↔ a < b := by
  unfold bytesLess; rw [bytesLess_eq]; simp
theorem bl_nlt {a b : Str} : bytesLess a b = false ↔ b ≤ a := by
  have : bytesLess a b = decide (a < b) := bytesLess_eq a b
  rw [this, decide_eq_false_iff_not, List.not_lt]
theorem insR_mem {n x : Str} : ∀ {l : List Str}, x ∈ insR n l ↔ x = n ∨ x ∈ l
  | [] => by simp [insR]
  | y :: l => by
    unfold insR
    split
    · rw [List.mem_cons, insR_mem (l := l), List.mem_cons]
      constructor
      · rintro (h | h | h)
        · exact .inr (.inl h)
        · exact .inl h
        · exact .inr (.inr h)
      · rintro (h | h | h)
        · exact .inr (.inl h)
        · exact .inl h
        · exact .inr (.inr h)
    · split
      · rename_i h; subst h; simp
      · simp
theorem insR_sorted {n : Str} : ∀ {l : List Str}, l.Pairwise (· < ·) → (insR n l).Pairwise (· < ·)
  | [], _ => by simp [insR]
  | y :: l, h => by
    rw [List.pairwise_cons] at h
    unfold insR
    split
    · rename_i hl
      rw [List.pairwise_cons]
      refine ⟨fun x hx => ?_, insR_sorted h.2⟩
      rcases insR_mem.1 hx with rfl | hx
      · exact bl_lt.1 hl
      · exact h.1 x hx
    · rename_i hl
      split
      · rw [List.pairwise_cons]; exact h
      · rename_i hne
        have hle : n ≤ y := bl_nlt.1 (by simpa using hl)
        have hlt : n < y := by
          rcases (inferInstance : Decidable (n < y)) with h1 | h1
          · exact (hne (List.le_antisymm (List.not_lt.1 h1) hle)).elim
          · exact h1
        rw [List.pairwise_cons, List.pairwise_cons]
        refine ⟨fun x hx => ?_, h⟩
        rcases List.mem_cons.1 hx with rfl | hx
        · exact hlt
        · exact List.lt_trans hlt (h.1 x hx)
theorem doc_inv : ∀ {l : List Str} {o : List Str}, o.Pairwise (· < ·) → (l.foldl (fun o n => insR n o) o).Pairwise (· < ·) ∧ ∀ x, x ∈ l.foldl (fun o n => insR n o) o ↔ x ∈ l ∨ x ∈ o
  | [], o, h => ⟨h, by simp⟩
  | n :: l, o, h => by
    have := doc_inv (l := l) (insR_sorted (n := n) h)
    refine ⟨this.1, fun x => ?_⟩
    rw [List.foldl_cons, this.2 x, insR_mem, List.mem_cons]
    constructor
    · rintro (h | h | h)
      · exact .inl (.inr h)
      · exact .inl (.inl h)
      · exact .inr h
    · rintro ((h | h) | h)
      · exact .inr (.inl h)
      · exact .inl h
      · exact .inr (.inr h)
theorem docNames_sorted {l : List Str} : (docNames l).Pairwise (· < ·) := (doc_inv (l := l) List.Pairwise.nil).1
theorem docNames_mem {l : List Str} {x : Str} : x ∈ docNames l ↔ x ∈ l := by
  unfold docNames
  rw [(doc_inv (l := l) List.Pairwise.nil).2 x]; simp
theorem docNames_nodup {l : List Str} : (docNames l).Nodup := docNames_sorted.imp fun h e => by subst e; exact List.lt_irrefl _ h
theorem insR_len {n : Str} : ∀ {l : List Str}, (insR n l).length ≤ l.length + 1
  | [] => by simp [insR]
  | y :: l => by
    unfold insR
    split
    · have := insR_len (n := n) (l := l); simp; omega
    · split <;> simp
theorem fold_len : ∀ {l o : List Str}, (l.foldl (fun o n => insR n o) o).length ≤ l.length + o.length
  | [], o => by simp
  | n :: l, o => by
    have h1 := fold_len (l := l) (o := insR n o)
    have h2 := insR_len (n := n) (l := o)
    simp only [List.foldl_cons, List.length_cons]; omega
theorem docNames_len {l : List Str} : (docNames l).length ≤ l.length := by
  have := fold_len (l := l) (o := []); simpa [docNames] using this
theorem keyStrs_cons {k v : AV} {n : Nat} {es : List (AV × AV × Nat)} {ss : List Str} (h : keyStrs ((k, v, n) :: es) = some ss) : ∃ s l, k = .str s ∧ keyStrs es = some l ∧ ss = s :: l := by
  unfold keyStrs at h
  split at h
  · rename_i heq; cases heq
  · rename_i s _ _ es' heq
    cases heq
    split at h
    · rename_i l hl; cases h; exact ⟨s, l, rfl, hl, rfl⟩
    · cases h
  · cases h
theorem sortedH_ext {h : Heap} {l : List Str} : Ext h (sortedH h l) := by
  cases l with
  | nil => exact .refl _
  | cons s l => exact .app _ _
theorem sortedV_has {h : Heap} {l : List Str} : ∃ q, sortedV h.length l = .sl q ∧ HasL strE (sortedH h l) q l := by
  cases l with
  | nil => exact ⟨none, rfl, rfl⟩
  | cons s l =>
    refine ⟨_, rfl, rfl, Nat.le_refl _, .inr rfl, ?_⟩
    have e : strE.all (s :: l) = (s :: l).map .str := by
      have : ∀ m : List Str, strE.all m = m.map .str := by
        intro m
        induction m with
        | nil => rfl
        | cons x m ih => rw [Enc.all_cons, ih]; rfl
      exact this _
    rw [cellsAt_mk (C := (s :: l).map .str) (rw' := true) (by simp [sortedH]) (by simp [strE]), e, List.drop_zero, List.take_of_length_le (by simp [strE])]
end Go.Dsk
