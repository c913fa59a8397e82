import Derived.Test.YtnglhicedhcpbaaGreatDoorLG2
import Derived.Test.YtnglhicedhcpbaaGreatDoorLG9
import Derived.Test.YtnglhicedhcpbaaGreatDoorLG16
import Derived.Sort.Walk0
namespace Go.Dsk
open Go.Ab Go.Sort Go.Proofs
set_option linter.unusedVariables false
set_option linter.unusedSimpArgs false
abbrev Str := List UInt8
def strE : Enc Str := ⟨1, fun s => [.str s], fun _ => rfl, by omega, fun _ => rfl⟩
theorem bl_lt {a b : Str} : bytesLess a b = true ↔ a < b := by
 unfold bytesLess; rw [bytesLess_eq]; simp
theorem bl_nlt {a b : Str} : bytesLess a b = false ↔ b <= a := by
 have : bytesLess a b = decide (a < b) := bytesLess_eq a b
 rw [this, decide_eq_false_iff_not, List.not_lt]
theorem zGW {n x : Str} : ∀ {l : List Str}, x ∈ insR n l ↔ x = n ∨ x ∈ l
 | [] => by simp [insR]
 | y :: l => by
  unfold insR
  split
  ·rw [List.mem_cons, zGW (l := l), List.mem_cons]
   constructor
   ·rintro (h | h | h)
    ·exact .inr (.inl h)
    ·exact .inl h
    ·exact .inr (.inr h)
   ·rintro (h | h | h)
    ·exact .inr (.inl h)
    ·exact .inl h
    ·exact .inr (.inr h)
  ·split
   ·rename_i h; subst h; simp
   ·simp
theorem zEM {n : Str} : ∀ {l : List Str}, l.Pairwise (· < ·) -> (insR n l).Pairwise (· < ·)
 | [], _ => by simp [insR]
 | y :: l, h => by
  rw [List.pairwise_cons] at h
  unfold insR
  split
  ·rename_i hl
   rw [List.pairwise_cons]
   refine ⟨fun x hx => ?_, zEM h.2⟩
   rcases zGW.1 hx with rfl | hx
   ·exact bl_lt.1 hl
   ·exact h.1 x hx
  ·rename_i hl
   split
   ·rw [List.pairwise_cons]; exact h
   ·rename_i hne
    have hle : n <= y := bl_nlt.1 (by simpa using hl)
    have hlt : n < y := by
     rcases (inferInstance : Decidable (n < y)) with h1 | h1
     ·exact (hne (List.le_antisymm (List.not_lt.1 h1) hle)).elim
     ·exact h1
    rw [List.pairwise_cons, List.pairwise_cons]
    refine ⟨fun x hx => ?_, h⟩
    rcases List.mem_cons.1 hx with rfl | hx
    ·exact hlt
    ·exact List.lt_trans hlt (h.1 x hx)
theorem zJI {n : Str} : ∀ {l : List Str} {k : Nat}, (∀ j x, j < k -> l[j]? = some x -> bytesLess x n = true) -> k <= l.length -> (∀ x, l[k]? = some x -> bytesLess x n = false) -> insR n l = if l[k]? = some n then l else l.take k ++ (n :: l.drop k)
 | [], k, _, hk, _ => by
  have : k = 0 := by simpa using hk
  subst this; simp [insR]
 | y :: l, 0, _, _, h2 => by
  have := h2 y rfl
  unfold insR
  rw [this]
  simp
 | y :: l, k + 1, h1, hk, h2 => by
  have hy := h1 0 y (by omega) rfl
  unfold insR
  rw [hy, if_pos rfl, zJI (l := l) (k := k) (fun j x hj hx => h1 (j + 1) x (by omega) (by simpa using hx)) (by simpa using hk) (fun x hx => h2 x (by simpa using hx))]
  simp only [List.getElem?_cons_succ]
  split <;> simp
theorem zJL : ∀ {l : List Str} {o : List Str}, o.Pairwise (· < ·) -> (l.foldl (fun o n => insR n o) o).Pairwise (· < ·) /\ ∀ x, x ∈ l.foldl (fun o n => insR n o) o ↔ x ∈ l ∨ x ∈ o
 | [], o, h => ⟨h, by simp⟩
 | n :: l, o, h => by
  have := zJL (l := l) (zEM (n := n) h)
  refine ⟨this.1, fun x => ?_⟩
  rw [List.foldl_cons, this.2 x, zGW, List.mem_cons]
  constructor
  ·rintro (h | h | h)
   ·exact .inl (.inr h)
   ·exact .inl (.inl h)
   ·exact .inr h
  ·rintro ((h | h) | h)
   ·exact .inr (.inl h)
   ·exact .inl h
   ·exact .inr (.inr h)
theorem xW {l : List Str} : (zN l).Pairwise (· < ·) := (zJL (l := l) List.Pairwise.nil).1
theorem xA {l : List Str} {x : Str} : x ∈ zN l ↔ x ∈ l := by
 unfold zN
 rw [(zJL (l := l) List.Pairwise.nil).2 x]; simp
theorem kG {l : List Str} : (zN l).Nodup := xW.imp fun h e => by subst e; exact List.lt_irrefl _ h
theorem zKP {n : Str} : ∀ {l : List Str}, (insR n l).length <= l.length + 1
 | [] => by simp [insR]
 | y :: l => by
  unfold insR
  split
  ·have := zKP (n := n) (l := l); simp; omega
  ·split <;> simp
theorem zCO : ∀ {l o : List Str}, (l.foldl (fun o n => insR n o) o).length <= l.length + o.length
 | [], o => by simp
 | n :: l, o => by
  have h1 := zCO (l := l) (o := insR n o)
  have h2 := zKP (n := n) (l := o)
  simp only [List.foldl_cons, List.length_cons]; omega
theorem xX {l : List Str} : (zN l).length <= l.length := by
 have := zCO (l := l) (o := []); simpa [zN] using this
theorem zG0 {l : List Str} {n : Str} : zN (l ++ [n]) = insR n (zN l) := by simp [zN]
theorem zDP {k v : AV} {n : Nat} {es : List (AV × AV × Nat)} {ss : List Str} (h : xI ((k, v, n) :: es) = some ss) : ∃ s l, k = .str s /\ xI es = some l /\ ss = s :: l := by
 unfold xI at h
 split at h
 ·rename_i heq; cases heq
 ·rename_i s _ _ es' heq
  cases heq
  split at h
  ·rename_i l hl; cases h; exact ⟨s, l, rfl, hl, rfl⟩
  ·cases h
 ·cases h
theorem zI3 {h : Heap} {l : List Str} : Ext h (zAW h l) := by
 cases l with
 | nil => exact .refl _
 | cons s l => exact .app _ _
theorem zI1 {h : Heap} {l : List Str} : ∃ q, zI2 h.length l = .sl q /\ HasL strE (zAW h l) q l := by
 cases l with
 | nil => exact ⟨none, rfl, rfl⟩
 | cons s l =>
  refine ⟨_, rfl, rfl, Nat.le_refl _, .inr rfl, ?_⟩
  have e : strE.all (s :: l) = (s :: l).map .str := by
   have : ∀ m : List Str, strE.all m = m.map .str := by
    intro m
    induction m with
    | nil => rfl
    | cons x m ih => rw [Enc.all_cons, ih]; rfl
   exact this _
  rw [zQ (C := (s :: l).map .str) (rw' := true) (by simp [zAW]) (by simp [strE]), e, List.drop_zero, List.take_of_length_le (by simp [strE])]
end Go.Dsk
