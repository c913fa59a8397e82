/- Lists that slices stand for, heaps that grow, and the small laws of conditions. -/
import Derived.Test.YtceplmmmlindnaaCAb18
namespace Go.Ab
set_option linter.unusedSimpArgs false
set_option linter.unusedVariables false

section
variable {A B : Prop}
theorem vif_dec {p : Prop} [Decidable p] : vif (decide p) A B ↔ (p → A) ∧ (¬ p → B) := by
  by_cases h : p <;> simp [vif, h]
theorem vif_eq {a b : Int} : vif (a == b) A B ↔ (a = b → A) ∧ (a ≠ b → B) := by
  by_cases h : a = b
  · subst h; simp [vif]
  · have : (a == b) = false := by simpa using h
    simp [vif, this, h]
theorem vif_ne {a b : Int} : vif (a != b) A B ↔ (a ≠ b → A) ∧ (a = b → B) := by
  by_cases h : a = b
  · subst h; simp [vif]
  · have : (a != b) = true := by simpa using h
    simp [vif, this, h]
theorem vif_not {b : Bool} : vif (!b) A B ↔ vif b B A := by cases b <;> rfl
theorem vif_and {a b : Bool} : vif (a && b) A B ↔ vif a (vif b A B) B := by cases a <;> rfl
theorem vif_or {a b : Bool} : vif (a || b) A B ↔ vif a A (vif b A B) := by cases a <;> rfl
theorem vif_true : vif true A B ↔ A := Iff.rfl
theorem vif_false : vif false A B ↔ B := Iff.rfl
theorem vif_var {b : Bool} : vif b A B ↔ (b = true → A) ∧ (b = false → B) := by cases b <;> simp [vif]
theorem need_var {b : Bool} : need b A ↔ b = true ∧ A := by cases b <;> simp [need]
theorem vif_mk {b : Bool} (h1 : b = true → A) (h2 : b = false → B) : vif b A B := vif_var.2 ⟨h1, h2⟩
end

/-- What was there is there still. -/
def Ext (h h' : Heap) : Prop := ∀ (b : Nat) (B : Blk), h[b]? = some B → h'[b]? = some B

theorem Ext.refl (h : Heap) : Ext h h := fun _ _ e => e
theorem Ext.trans {a b c : Heap} (h : Ext a b) (h' : Ext b c) : Ext a c := fun k B e => h' k B (h k B e)
theorem Ext.len {h h' : Heap} (e : Ext h h') : h.length ≤ h'.length := by
  rcases Nat.eq_zero_or_pos h.length with h0 | h0
  · omega
  · have hk : h.length - 1 < h.length := by omega
    have := e (h.length - 1) _ (List.getElem?_eq_getElem hk)
    have := lt_of_get this
    omega
theorem Ext.app (h t : Heap) : Ext h (h ++ t) := fun b B e => by
  rw [List.getElem?_append_left (lt_of_get e)]; exact e
theorem Ext.set {h0 h : Heap} {b : Nat} {B : Blk} (e : Ext h0 h) (hb : h0.length ≤ b) : Ext h0 (h.set b B) := fun k C hk => by
  have : b ≠ k := by have := lt_of_get hk; omega
  rw [List.getElem?_set, if_neg this]; exact e k C hk
theorem Ext.cells {h h' : Heap} (e : Ext h h') {p : PA} {n : Nat} {c : List AV} (hc : cellsAt h p n = some c) : cellsAt h' p n = some c := by
  unfold cellsAt at hc ⊢
  split at hc
  · rename_i c' rw' hb
    rw [e _ _ hb]; exact hc
  · cases hc

theorem cellsAt_elim {h : Heap} {p : PA} {n : Nat} {c : List AV} (hc : cellsAt h p n = some c) : ∃ C rw, h[p.b]? = some (.cells C rw) ∧ p.o + n ≤ C.length ∧ c = (C.drop p.o).take n := by
  unfold cellsAt at hc
  split at hc
  · rename_i C rw' hb
    split at hc
    · rename_i hl; cases hc; exact ⟨C, rw', hb, hl, rfl⟩
    · cases hc
  · cases hc
theorem cellsAt_mk {h : Heap} {p : PA} {n : Nat} {C : List AV} {rw' : Bool} (hb : h[p.b]? = some (.cells C rw')) (hl : p.o + n ≤ C.length) : cellsAt h p n = some ((C.drop p.o).take n) := by
  unfold cellsAt; rw [hb]; simp only [if_pos hl]
theorem cellsAt_len {h : Heap} {p : PA} {n : Nat} {c : List AV} (hc : cellsAt h p n = some c) : c.length = n := by
  obtain ⟨C, rw', _, hl, rfl⟩ := cellsAt_some hc
  simp; omega

/-- Some cells of some. -/
theorem cellsAt_sub {h : Heap} {p : PA} {n k m : Nat} {c : List AV} (hc : cellsAt h p n = some c) (hk : k + m ≤ n) : cellsAt h ⟨p.b, p.o + k⟩ m = some ((c.drop k).take m) := by
  obtain ⟨C, rw', hb, hl, rfl⟩ := cellsAt_elim hc
  rw [cellsAt_mk (p := ⟨p.b, p.o + k⟩) hb (by show p.o + k + m ≤ _; omega)]
  simp only [List.drop_take, List.take_take, List.drop_drop, Nat.min_eq_left (by omega : m ≤ n - k)]

/-- A kind of thing that lies in cells. -/
structure Enc (α : Type) where
  sz : Nat
  f : α → List AV
  len : ∀ a, (f a).length = sz
  pos : 0 < sz
  one : ∀ a, oneAll (f a) = true

section
variable {α : Type} (E : Enc α)
def Enc.all (l : List α) : List AV := (l.map E.f).flatten
variable {E}
theorem Enc.all_length {l : List α} : (E.all l).length = l.length * E.sz := by
  induction l with
  | nil => simp [Enc.all]
  | cons x l ih => simp only [Enc.all, List.map_cons, List.flatten_cons, List.length_append, E.len, List.length_cons] at *; rw [ih]; rw [Nat.add_mul]; omega
theorem Enc.all_nil : E.all [] = [] := rfl
theorem Enc.all_cons {x : α} {l : List α} : E.all (x :: l) = E.f x ++ E.all l := rfl
theorem Enc.all_append {l m : List α} : E.all (l ++ m) = E.all l ++ E.all m := by simp [Enc.all]
theorem Enc.all_drop {l : List α} : ∀ {k : Nat}, (E.all l).drop (k * E.sz) = E.all (l.drop k) := by
  induction l with
  | nil => intro k; simp [Enc.all]
  | cons x l ih =>
    intro k
    cases k with
    | zero => simp
    | succ k =>
      rw [Enc.all_cons, Nat.add_mul, Nat.one_mul, Nat.add_comm, ← List.drop_drop]
      rw [List.drop_left' (E.len x), ih, List.drop_succ_cons]
theorem Enc.all_take {l : List α} : ∀ {k : Nat}, (E.all l).take (k * E.sz) = E.all (l.take k) := by
  induction l with
  | nil => intro k; simp [Enc.all]
  | cons x l ih =>
    intro k
    cases k with
    | zero => simp [Enc.all]
    | succ k =>
      rw [Enc.all_cons, Nat.add_mul, Nat.one_mul, Nat.add_comm, List.take_append, List.take_of_length_le (by rw [E.len]; omega), E.len, Nat.add_sub_cancel_left, ih, List.take_succ_cons, Enc.all_cons]
theorem Enc.all_at {l : List α} {k : Nat} {x : α} (h : l[k]? = some x) : ((E.all l).drop (k * E.sz)).take E.sz = E.f x := by
  rw [Enc.all_drop]
  have : l.drop k = x :: l.drop (k + 1) := by
    rw [List.drop_eq_getElem_cons (lt_of_get h)]
    congr 1
    rw [List.getElem?_eq_getElem (lt_of_get h)] at h
    exact Option.some.inj h
  rw [this, Enc.all_cons, List.take_left' (E.len x)]

/-- A slice stands for a list. -/
def HasL (E : Enc α) (h : Heap) (q : Option SL) (l : List α) : Prop :=
  match q with
  | none => l = []
  | some s => s.len = l.length ∧ s.len ≤ s.cap ∧ (s.opn = 0 ∨ s.opn = E.sz) ∧ cellsAt h ⟨s.b, s.o⟩ (l.length * E.sz) = some (E.all l)

theorem HasL.len {h : Heap} {q : Option SL} {l : List α} (H : HasL E h q l) : slLen q = l.length := by
  cases q with
  | none => simp only [HasL] at H; subst H; rfl
  | some s => exact H.1
theorem HasL.mono {h h' : Heap} {q : Option SL} {l : List α} (H : HasL E h q l) (e : Ext h h') : HasL E h' q l := by
  cases q with
  | none => exact H
  | some s => exact ⟨H.1, H.2.1, H.2.2.1, e.cells H.2.2.2⟩

theorem HasL.idx {h : Heap} {q : Option SL} {l : List α} (H : HasL E h q l) {i : Int} {K : PA → Prop} (h0 : 0 ≤ i) (h1 : i < l.length)
    (hK : ∀ p x, l[i.toNat]? = some x → cellsAt h p E.sz = some (E.f x) → K p) : vIdx q i E.sz K := by
  cases q with
  | none => simp only [HasL] at H; subst H; simp at h1; omega
  | some s =>
    have hi : i.toNat < l.length := by omega
    refine ⟨h0, by rw [H.1]; exact h1, hK _ _ (List.getElem?_eq_getElem hi) ?_⟩
    have h2 : i.toNat * E.sz + E.sz ≤ l.length * E.sz := by
      have : (i.toNat + 1) * E.sz ≤ l.length * E.sz := Nat.mul_le_mul_right _ hi
      rw [Nat.add_mul, Nat.one_mul] at this; exact this
    rw [cellsAt_sub H.2.2.2 h2, Enc.all_at (List.getElem?_eq_getElem hi)]

theorem HasL.cells {h : Heap} {q : Option SL} {l : List α} (H : HasL E h q l) : slCells h q (slLen q * E.sz) = some (E.all l) := by
  cases q with
  | none => simp only [HasL] at H; subst H; simp [slCells, slLen, Enc.all]
  | some s => simp only [slCells, slLen, H.1]; exact H.2.2.2

theorem HasL.new {h : Heap} {l : List α} {n : Nat} (hn : n = l.length) {c : List AV} (hc : c = E.all l) : HasL E (h ++ [.cells c true]) (some ⟨h.length, 0, n, n, 0⟩) l := by
  subst hn hc
  refine ⟨rfl, Nat.le_refl _, .inl rfl, ?_⟩
  rw [cellsAt_mk (C := E.all l) (rw' := true) (by simp) (by simp [Enc.all_length])]
  simp [← Enc.all_length]

/-- s[lo:hi] of a list. -/
theorem HasL.slice {h : Heap} {q : Option SL} {l : List α} (H : HasL E h q l) {lo : Int} {hi : Option Int} {K : Option SL → Prop} (h0 : 0 ≤ lo) (h1 : lo ≤ hi.getD l.length) (h2 : hi.getD l.length ≤ l.length)
    (hK : ∀ q', HasL E h q' ((l.take (hi.getD l.length).toNat).drop lo.toNat) → K q') : PSlice E.sz q lo hi none K := by
  cases q with
  | none =>
    simp only [HasL] at H
    subst H
    simp only [List.length_nil] at h1 h2 hK
    have e1 : hi.getD 0 = 0 := by
      have : hi.getD ((0 : Nat) : Int) = hi.getD 0 := rfl
      simp only [Int.ofNat_zero, Int.natCast_zero] at h1 h2
      omega
    have e0 : lo = 0 := by
      simp only [Int.natCast_zero] at h1 h2; omega
    refine ⟨e0, e1, rfl, hK none ?_⟩
    simp [HasL]
  | some s =>
    obtain ⟨a1, a2, a3, a4⟩ := H
    have hl : (s.len : Int) = l.length := by rw [a1]
    refine ⟨a3, h0, by rw [hl]; exact h1, ?_, by simp, hK _ ?_⟩
    · simp only [hl, Option.getD_none]; omega
    · generalize hH : hi.getD (l.length : Int) = H at *
      have hHs : hi.getD (s.len : Int) = H := by rw [hl]; exact hH
      have hn : ((l.take H.toNat).drop lo.toNat).length = (H - lo).toNat := by simp; omega
      refine ⟨by simp only [hHs, hn], by simp only [hHs, Option.getD_none]; omega, by simp [a3], ?_⟩
      have := cellsAt_sub (k := lo.toNat * E.sz) (m := (H - lo).toNat * E.sz) a4 (by
        rw [← Nat.add_mul]; exact Nat.mul_le_mul_right _ (by omega))
      rw [hn]
      rw [this, Enc.all_drop, Enc.all_take, List.drop_take]
      congr 3
      omega

/-- A list that is being made: nobody else's. -/
def Acc (E : Enc α) (h0 h : Heap) (q : Option SL) (l : List α) : Prop :=
  Ext h0 h ∧ match q with
  | none => l = []
  | some s => h0.length ≤ s.b ∧ s.o = 0 ∧ s.len = l.length ∧ s.cap = l.length ∧ s.opn = E.sz ∧ h[s.b]? = some (.cells (E.all l) true)

theorem Acc.hasL {h0 h : Heap} {q : Option SL} {l : List α} (A : Acc E h0 h q l) : HasL E h q l := by
  obtain ⟨_, A⟩ := A
  cases q with
  | none => exact A
  | some s =>
    obtain ⟨_, a0, a1, a2, a3, a4⟩ := A
    refine ⟨a1, by omega, .inr a3, ?_⟩
    have := cellsAt_mk (p := ⟨s.b, s.o⟩) (n := l.length * E.sz) a4 (by simp [Enc.all_length, a0])
    rw [this]
    simp [a0, ← Enc.all_length]
theorem Acc.start (h : Heap) : Acc E h h none ([] : List α) := ⟨.refl h, rfl⟩
theorem Acc.ext {h0 h : Heap} {q : Option SL} {l : List α} (A : Acc E h0 h q l) : Ext h0 h := A.1
theorem Acc.mono {h0 h h' : Heap} {q : Option SL} {l : List α} (A : Acc E h0 h q l) (e : Ext h h') : Acc E h0 h' q l := by
  refine ⟨A.1.trans e, ?_⟩
  have := A.2
  cases q with
  | none => exact this
  | some s => obtain ⟨b0, b1, b2, b3, b4, b5⟩ := this; exact ⟨b0, b1, b2, b3, b4, e _ _ b5⟩

/-- append to it. -/
theorem Acc.append {h0 h : Heap} {q src : Option SL} {l m : List α} {by' : Nat} {K : Option SL → Heap → Prop} (A : Acc E h0 h q l) (H : HasL E h src m) (hb : (l.length + m.length) * by' ≤ 140737488355328)
    (hK : ∀ q' h', Acc E h0 h' q' (l ++ m) → K q' h') : PAppendS E.sz by' q src h K := by
  refine ⟨E.all m, H.cells, by rw [Enc.all_length, H.len], ?_⟩
  rw [H.len]
  obtain ⟨hx, A⟩ := A
  cases q with
  | none =>
    simp only at A
    subst A
    simp only
    split
    · rename_i hm
      have : m = [] := List.eq_nil_of_length_eq_zero hm
      subst this
      exact hK _ _ ⟨hx, rfl⟩
    · refine ⟨by simpa using hb, E.pos, hK _ _ ⟨hx.trans (.app _ _), ?_⟩⟩
      refine ⟨hx.len, rfl, by simp, by simp, rfl, by simp⟩
  | some s =>
    simp only at A ⊢
    obtain ⟨b0, b1, b2, b3, b4, b5⟩ := A
    split
    · rename_i hle
      have hm : m.length = 0 := by omega
      have : m = [] := List.eq_nil_of_length_eq_zero hm
      subst this
      rw [b5]
      simp only
      have e0 : E.all ([] : List α) = [] := rfl
      refine ⟨by simp [b1, b2, Enc.all_length, e0], hK _ _ ⟨hx.set b0, ?_⟩⟩
      refine ⟨b0, b1, by simp [b2], by simp [b3], b4, ?_⟩
      have hlt := lt_of_get b5
      rw [List.getElem?_set_self hlt]
      simp [Enc.all, splice, List.take_append_drop]
    · have hold : cellsAt h ⟨s.b, s.o⟩ (s.len * E.sz) = some (E.all l) := by
        rw [cellsAt_mk (p := ⟨s.b, s.o⟩) b5 (by simp [b1, b2, Enc.all_length])]
        simp [b1, b2, ← Enc.all_length]
      refine ⟨by rw [b2]; exact hb, E.pos, ?_⟩
      rw [hold, b5]
      simp only
      have h0' : ¬ s.opn = 0 := by rw [b4]; have := E.pos; omega
      rw [if_neg h0']
      refine ⟨trivial, b4, hK _ _ ⟨(hx.set b0).trans (.app _ _), ?_⟩⟩
      refine ⟨by have := hx.len; simp; omega, rfl, by simp [b2], by simp [b2], rfl, ?_⟩
      rw [List.getElem?_append_right (by simp)]
      simp [Enc.all_append]
end
end Go.Ab
