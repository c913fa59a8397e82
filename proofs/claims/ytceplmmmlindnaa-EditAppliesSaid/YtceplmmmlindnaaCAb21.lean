/- Blocks that one alone writes: copy, store, make. -/
import Derived.Test.YtceplmmmlindnaaCAb20
namespace Go.Ab
set_option linter.unusedSimpArgs false
set_option linter.unusedVariables false

section
variable {α : Type} {E : Enc α}

theorem splice_at {c xs : List AV} {o : Nat} : splice c o xs = c.take o ++ xs ++ c.drop (o + xs.length) := rfl

theorem all_replicate {n : Nat} {x : α} : E.all (List.replicate n x) = (List.replicate n (E.f x)).flatten := by simp [Enc.all]

/-- Elements laid over elements. -/
theorem splice_all {l m : List α} {k : Nat} (h : k + m.length ≤ l.length) : splice (E.all l) (k * E.sz) (E.all m) = E.all (l.take k ++ m ++ l.drop (k + m.length)) := by
  rw [splice_at, Enc.all_take, Enc.all_length, ← Nat.add_mul, Enc.all_drop, Enc.all_append, Enc.all_append]

theorem splice_app {A B C xs : List AV} {k : Nat} (h : k + xs.length ≤ B.length) : splice (A ++ (B ++ C)) (A.length + k) xs = A ++ (splice B k xs ++ C) := by
  rw [splice_at, splice_at, Nat.add_assoc, List.take_length_add_append, List.drop_length_add_append, List.take_append_of_le_length (by omega), List.drop_append_of_le_length h]
  simp

/-- A part of one element written. -/
theorem splice_set {l : List α} {i k : Nat} {r r' : α} {xs : List AV} (hi : l[i]? = some r) (hk : k + xs.length ≤ E.sz) (hr : E.f r' = splice (E.f r) k xs) :
    splice (E.all l) (i * E.sz + k) xs = E.all (l.set i r') := by
  have hlt := lt_of_get hi
  have e1 : l = l.take i ++ r :: l.drop (i + 1) := by
    have : l[i] = r := by rw [List.getElem?_eq_getElem hlt] at hi; exact Option.some.inj hi
    rw [← this, ← List.drop_eq_getElem_cons hlt, List.take_append_drop]
  have e2 : l.set i r' = l.take i ++ r' :: l.drop (i + 1) := by
    rw [List.set_eq_take_append_cons_drop, if_pos hlt]
  rw [e2]
  have hA : (E.all (l.take i)).length = i * E.sz := by rw [Enc.all_length, List.length_take]; congr 1; omega
  conv => lhs; rw [e1]
  rw [Enc.all_append, Enc.all_cons, Enc.all_append, Enc.all_cons, hr, ← hA, splice_app (by rw [E.len]; exact hk)]

/-- A block that is one's own, and stands for a list. -/
def Mine (E : Enc α) (h0 h : Heap) (b : Nat) (l : List α) : Prop := Ext h0 h ∧ h0.length ≤ b ∧ h[b]? = some (.cells (E.all l) true)

theorem Mine.mono {h0 h h' : Heap} {b : Nat} {l : List α} (M : Mine E h0 h b l) (e : Ext h h') : Mine E h0 h' b l := ⟨M.1.trans e, M.2.1, e _ _ M.2.2⟩
theorem Mine.set {h0 h : Heap} {b : Nat} {l l' : List α} (M : Mine E h0 h b l) : Mine E h0 (h.set b (.cells (E.all l') true)) b l' :=
  ⟨M.1.set M.2.1, M.2.1, by rw [List.getElem?_set_self (lt_of_get M.2.2)]⟩
theorem Mine.hasL {h0 h : Heap} {b : Nat} {l : List α} (M : Mine E h0 h b l) {n : Nat} (hn : n = l.length) : HasL E h (some ⟨b, 0, n, n, 0⟩) l := by
  subst hn
  refine ⟨rfl, Nat.le_refl _, .inl rfl, ?_⟩
  rw [cellsAt_mk (p := ⟨b, 0⟩) M.2.2 (by simp [Enc.all_length])]
  simp [← Enc.all_length]
theorem Mine.new {h : Heap} {l : List α} {c : List AV} (hc : c = E.all l) : Mine E h (h ++ [.cells c true]) h.length l := ⟨.app _ _, Nat.le_refl _, by simp [hc]⟩

theorem Mine.at {h0 h : Heap} {b : Nat} {l : List α} (M : Mine E h0 h b l) {i n c : Nat} {opn : Nat} {K : PA → Prop} {ix : Int} (hix : ix = i) (hi : i < n) (hK : K ⟨b, i * E.sz⟩) : vIdx (some ⟨b, 0, n, c, opn⟩) ix E.sz K := by
  subst hix
  refine ⟨by omega, by show (i : Int) < (n : Int); omega, ?_⟩
  simpa using hK

/-- A part of an element of one's own stored. -/
theorem Mine.store {h0 h : Heap} {b : Nat} {l : List α} (M : Mine E h0 h b l) {i k : Nat} {r r' : α} {xs : List AV} {K : Heap → Prop} {p : PA} (hp : p = ⟨b, i * E.sz + k⟩) (hi : l[i]? = some r) (hk : k + xs.length ≤ E.sz) (hr : E.f r' = splice (E.f r) k xs)
    (hK : ∀ h', Mine E h0 h' b (l.set i r') → K h') : PStore h p xs K := by
  subst hp
  unfold PStore
  rw [M.2.2]
  simp only
  have hlt := lt_of_get hi
  refine ⟨?_, ?_⟩
  · rw [Enc.all_length]
    have : (i + 1) * E.sz ≤ l.length * E.sz := Nat.mul_le_mul_right _ hlt
    rw [Nat.add_mul, Nat.one_mul] at this
    omega
  · rw [splice_set hi hk hr]
    exact hK _ M.set

theorem Mine.copy {h0 h : Heap} {b : Nat} {l m : List α} (M : Mine E h0 h b l) {k n c : Nat} {opn : Nat} {src : Option SL} {K : Int → Heap → Prop} (H : HasL E h src m) (hk : k + n ≤ l.length) {o : Nat} (ho : o = k * E.sz)
    (hK : ∀ h', Mine E h0 h' b (l.take k ++ m.take (min m.length n) ++ l.drop (k + min m.length n)) → K (min m.length n : Nat) h') : PCopyS E.sz (some ⟨b, o, n, c, opn⟩) src h K := by
  subst ho
  unfold PCopyS
  have hs : slLen (some (⟨b, k * E.sz, n, c, opn⟩ : SL)) = n := rfl
  rw [H.len, hs]
  have hcells : slCells h src (min m.length n * E.sz) = some (E.all (m.take (min m.length n))) := by
    have := H.cells
    rw [H.len] at this
    cases src with
    | none => simp only [HasL] at H; subst H; simp [slCells, Enc.all]
    | some s =>
      simp only [slCells] at this ⊢
      have := cellsAt_sub (k := 0) (m := min m.length n * E.sz) this (by simp; exact Nat.mul_le_mul_right _ (Nat.min_le_left _ _))
      simp only [Nat.add_zero, List.drop_zero, Enc.all_take] at this
      exact this
  refine ⟨_, hcells, by rw [Enc.all_length, List.length_take]; congr 1; omega, ?_⟩
  refine ⟨Nat.min_le_right _ _, ?_⟩
  unfold PStore
  simp only [M.2.2]
  have hl : (m.take (min m.length n)).length = min m.length n := by rw [List.length_take]; omega
  refine ⟨by rw [Enc.all_length, Enc.all_length, hl, ← Nat.add_mul]; exact Nat.mul_le_mul_right _ (by omega), ?_⟩
  rw [splice_all (by rw [hl]; omega), hl]
  exact hK _ M.set
end
end Go.Ab
