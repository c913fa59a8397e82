/- The abstract heap beside a world: what a block's making, a load, a store do to the relation. -/
import Derived.Test.YtceplmmmlindnaaCAb1
namespace Go
def World.setBlk (w : World) (r : Nat) (o : Obj) : World := { w with heap := w.heap.setIfInBounds r o }
end Go
namespace Go.Ab
set_option linter.unusedSimpArgs false
set_option linter.unusedVariables false

def splice {α : Type} (c : List α) (o : Nat) (xs : List α) : List α := c.take o ++ xs ++ c.drop (o + xs.length)

theorem splice_length {α : Type} {c : List α} {o : Nat} {xs : List α} (h : o + xs.length ≤ c.length) : (splice c o xs).length = c.length := by
  simp [splice]; omega

theorem splice_get {α : Type} {c : List α} {o : Nat} {xs : List α} (h : o + xs.length ≤ c.length) (i : Nat) :
    (splice c o xs)[i]? = if i < o then c[i]? else if i < o + xs.length then xs[i - o]? else c[i]? := by
  unfold splice
  have ho : (c.take o).length = o := by simp; omega
  rw [List.append_assoc, List.getElem?_append, ho]
  split
  · rename_i hi; rw [List.getElem?_take, if_pos hi]
  · rename_i hi
    rw [List.getElem?_append]
    by_cases h2 : i < o + xs.length
    · rw [if_pos (by omega), if_pos h2]
    · rw [if_neg (by omega), if_neg h2, List.getElem?_drop]
      congr 1; omega

theorem splice_nil {α : Type} (c : List α) (o : Nat) : splice c o [] = c := by simp [splice]

theorem splice_cons {α : Type} {c : List α} {o : Nat} {x : α} {xs : List α} (h : o + (xs.length + 1) ≤ c.length) :
    splice (c.set o x) (o + 1) xs = splice c o (x :: xs) := by
  apply List.ext_getElem?
  intro i
  rw [splice_get (by simp; omega), splice_get (by simp; omega), List.getElem?_set]
  by_cases h1 : i < o
  · rw [if_pos (by omega), if_pos h1, if_neg (by omega)]
  · by_cases h2 : i = o
    · subst h2
      simp
      omega
    · rw [if_neg (by omega), if_neg h1, if_neg (show ¬ o = i by omega)]
      simp only [List.length_cons]
      by_cases h3 : i < o + (xs.length + 1)
      · rw [if_pos (by omega), if_pos h3]
        obtain ⟨k, rfl⟩ : ∃ k, i = o + 1 + k := ⟨i - (o + 1), by omega⟩
        rw [show o + 1 + k - (o + 1) = k by omega, show o + 1 + k - o = k + 1 by omega]; simp
      · rw [if_neg (by omega), if_neg h3]


theorem setBlk_same (w : World) (r : Nat) (o : Obj) (h : r < w.heap.size) : (w.setBlk r o).heap[r]? = some o := by
  simp [World.setBlk, h]
theorem setBlk_other (w : World) (r k : Nat) (o : Obj) (h : k ≠ r) : (w.setBlk r o).heap[k]? = w.heap[k]? := by
  simp [World.setBlk, Array.getElem?_setIfInBounds, Ne.symm h]
@[simp] theorem size_setBlk (w : World) (r : Nat) (o : Obj) : (w.setBlk r o).heap.size = w.heap.size := by simp [World.setBlk]

theorem heap_lt {w : World} {r : Nat} {o : Obj} (h : w.heap[r]? = some o) : r < w.heap.size := by
  rcases Nat.lt_or_ge r w.heap.size with h' | h'
  · exact h'
  · simp [Array.getElem?_eq_none h'] at h

theorem setCell_eq_setBlk {w : World} {r : Nat} {C : Array Value} {t : TypeId} {fz : Nat × Nat} (h : w.heap[r]? = some (.cells C t fz)) (j : Nat) (v : Value) :
    w.setCell ⟨r, j, none⟩ v = w.setBlk r (.cells (C.setIfInBounds j v) t fz) := by
  unfold World.setCell World.setBlk
  congr 1
  have hr := heap_lt h
  have hg : w.heap[r] = .cells C t fz := by simpa [Array.getElem?_eq_getElem hr] using h
  apply Array.ext_getElem?
  intro i
  rw [Array.getElem?_modify, Array.getElem?_setIfInBounds]
  by_cases hi : r = i
  · subst hi
    simp [hr, hg]
  · simp [hi]

theorem cell_at {w : World} {r : Nat} {C : Array Value} {t : TypeId} {fz : Nat × Nat} (h : w.heap[r]? = some (.cells C t fz)) (j : Nat) : w.cell? ⟨r, j, none⟩ = C[j]? := by
  simp [World.cell?, h]
theorem frozen_at {w : World} {r : Nat} {C : Array Value} {t : TypeId} {fz : Nat × Nat} (h : w.heap[r]? = some (.cells C t fz)) (j : Nat) :
    w.frozen? ⟨r, j, none⟩ = decide (fz.1 ≤ j ∧ j < fz.2) := by
  obtain ⟨a, b⟩ := fz
  simp [World.frozen?, h]

theorem add_addr (r o i : Nat) : (⟨r, o, none⟩ : Addr).add i = ⟨r, o + i, none⟩ := by
  unfold Addr.add
  split
  · rename_i h; simp [h]
  · rfl

theorem setBlk_setBlk (w : World) (r : Nat) (a b : Obj) : (w.setBlk r a).setBlk r b = w.setBlk r b := by
  simp [World.setBlk]

theorem run_storeCells {P : Program} : ∀ (vs : List Value) (w : World) (r o i : Nat) (C : Array Value) (t : TypeId) (fz : Nat × Nat),
    w.heap[r]? = some (.cells C t fz) → o + i + vs.length ≤ C.size → (∀ v ∈ vs, v.oneCell' = true) → (∀ j, j < C.size → ¬ (fz.1 ≤ j ∧ j < fz.2)) →
    (storeCells ⟨r, o, none⟩ vs i).run P w = .ok () (w.setBlk r (.cells (splice C.toList (o + i) vs).toArray t fz))
  | [], w, r, o, i, C, t, fz, hw, hl, ho, hf => by
    simp only [storeCells, splice_nil]
    have : w.setBlk r (.cells C t fz) = w := by
      unfold World.setBlk
      have : w.heap.setIfInBounds r (.cells C t fz) = w.heap := by
        apply Array.ext_getElem?
        intro k
        rw [Array.getElem?_setIfInBounds]
        split
        · rename_i hk; subst hk; rw [if_pos (heap_lt hw), hw]
        · rfl
      rw [this]
    simp [this]
  | v :: vs, w, r, o, i, C, t, fz, hw, hl, ho, hf => by
    simp only [storeCells, List.length_cons] at *
    rw [Sem.run_bind, add_addr]
    have hc : w.cell? ⟨r, o + i, none⟩ = some C[o + i] := by
      rw [cell_at hw]; simp
    have hfr : w.frozen? ⟨r, o + i, none⟩ = false := by
      rw [frozen_at hw]; simpa using hf (o + i) (by omega)
    rw [run_store P w _ _ _ (ho v (by simp))]
    simp only [hc, hfr]
    simp only [Result.andThen_ok, if_false, Bool.false_eq_true]
    rw [setCell_eq_setBlk hw]
    have hlt := heap_lt hw
    have hw2 := setBlk_same w r (.cells (C.setIfInBounds (o + i) v) t fz) hlt
    have ih := run_storeCells (P := P) vs (w.setBlk r (.cells (C.setIfInBounds (o + i) v) t fz)) r o (i + 1) _ t fz hw2 (by simp; omega) (fun x hx => ho x (by simp [hx])) (fun j hj => hf j (by simpa using hj))
    rw [ih, setBlk_setBlk]
    congr 3
    rw [Array.toList_setIfInBounds, show o + (i + 1) = o + i + 1 by omega, splice_cons (by simp; omega)]

/-- Relation, all in one. -/
structure Rel (μ0 : Ren) (h0 : Heap) (w0 : World) (μ : Ren) (lam : List Nat) (L : Locs) (h : Heap) (w : World) : Prop where
  evo : Evo μ0 h0 w0 μ h w
  heap : HRel μ h w
  locs : LRel w0 μ h lam L w

theorem BlkRel.mono {μ μ' : Ren} {w : World} {e : ME} {B : Blk} (h : Ren.le μ μ') (r : BlkRel μ w e B) : BlkRel μ' w e B := by
  cases B with
  | dead => trivial
  | cells c rw =>
    obtain ⟨C, t, fz, h1, h2, h3, h3', h4, h5⟩ := r
    exact ⟨C, t, fz, h1, h2, h3, h3', fun i x hx => let ⟨y, hy, hr⟩ := h4 i x hx; ⟨y, hy, AV.rel.mono h _ _ hr⟩, h5⟩
  | mp es cl =>
    obtain ⟨ES, h1, h2⟩ := r
    exact ⟨ES, h1, h2.mono h⟩
  | it m since seen last =>
    obtain ⟨h0, mm, h1, h2⟩ := r
    exact ⟨h0, mm, h1, h2.mono h⟩
  | bx v =>
    obtain ⟨h0, y, t, h1, h2⟩ := r
    exact ⟨h0, y, t, h1, AV.rel.mono h _ _ h2⟩

/-- A block's relation hangs on that one real block alone. -/
theorem BlkRel.world {μ : Ren} {w w' : World} {e : ME} {B : Blk} (hw : w'.heap[e.r]? = w.heap[e.r]?) (r : BlkRel μ w e B) : BlkRel μ w' e B := by
  cases B with
  | dead => trivial
  | cells c rw => obtain ⟨C, t, fz, h1, h2⟩ := r; exact ⟨C, t, fz, by rw [hw, h1], h2⟩
  | mp es cl => obtain ⟨ES, h1, h2⟩ := r; exact ⟨ES, by rw [hw, h1], h2⟩
  | it m since seen last => obtain ⟨h0, mm, h1, h2⟩ := r; exact ⟨h0, mm, by rw [hw, h1], h2⟩
  | bx v => obtain ⟨h0, y, t, h1, h2⟩ := r; exact ⟨h0, y, t, by rw [hw, h1], h2⟩

theorem lt_of_get {α : Type} {l : List α} {i : Nat} {x : α} (h : l[i]? = some x) : i < l.length := by
  rcases Nat.lt_or_ge i l.length with h' | h'
  · exact h'
  · simp [List.getElem?_eq_none h'] at h

section
variable {μ0 : Ren} {h0 : Heap} {w0 : World} {μ : Ren} {lam : List Nat} {L : Locs} {h : Heap} {w : World}

/-- A world that has the same blocks (a draw). -/
theorem Rel.drawn (R : Rel μ0 h0 w0 μ lam L h w) {w' : World} (hh : w'.heap = w.heap) (h1 : w'.os = w.os) (h2 : w'.tape = w.tape) (h3 : w'.output = w.output) : Rel μ0 h0 w0 μ lam L h w' where
  evo := { R.evo with size := by rw [hh]; exact R.evo.size, frame := by rw [hh]; exact R.evo.frame, os := h1.trans R.evo.os, tape := h2.trans R.evo.tape, output := h3.trans R.evo.output }
  heap := ⟨R.heap.len, fun b B e hb he => (R.heap.blk b B e hb he).world (by rw [hh]), R.heap.sep, by rw [hh]; exact R.heap.bnd⟩
  locs := ⟨R.locs.len, by rw [hh]; exact R.locs.blk, R.locs.inj, R.locs.sep, by rw [hh]; exact R.locs.new⟩

theorem heap_push_old (w : World) (o : Obj) (k : Nat) (hk : k < w.heap.size) : (w.alloc o).heap[k]? = w.heap[k]? := by
  show (w.heap.push o)[k]? = _
  rw [Array.getElem?_push, if_neg (by omega)]
theorem heap_push_new (w : World) (o : Obj) : (w.alloc o).heap[w.heap.size]? = some o := by
  show (w.heap.push o)[_]? = _
  rw [Array.getElem?_push, if_pos rfl]

/-- A new real block that nobody sees. -/
theorem Rel.extra (R : Rel μ0 h0 w0 μ lam L h w) (o : Obj) : Rel μ0 h0 w0 μ lam L h (w.alloc o) where
  evo := { R.evo with
    size := by have := R.evo.size; simp; omega
    frame := fun r hr hn => by rw [heap_push_old _ _ _ (Nat.lt_of_lt_of_le hr R.evo.size)]; exact R.evo.frame r hr hn
    os := R.evo.os, tape := R.evo.tape, output := R.evo.output }
  heap := ⟨R.heap.len, fun b B e hb he => (R.heap.blk b B e hb he).world (heap_push_old _ _ _ (R.heap.bnd b e he)), R.heap.sep, fun b e he => by have := R.heap.bnd b e he; simp; omega⟩
  locs := ⟨R.locs.len, fun k c r hc hr => by rw [heap_push_old _ _ _ (R.locs.new k r hr).2]; exact R.locs.blk k c r hc hr, R.locs.inj, R.locs.sep, fun k r hr => by have := R.locs.new k r hr; simp; omega⟩

/-- A real block that neither a live block nor a variable of the call's own lies in becomes an abstract one. -/
theorem Rel.adopt (R : Rel μ0 h0 w0 μ lam L h w) (e : ME) (B : Blk)
    (hnew : w0.heap.size ≤ e.r ∨ ∃ (b0 : Nat) (B0 : Blk) (e0 : ME), h0[b0]? = some B0 ∧ B0.rw = true ∧ μ0[b0]? = some e0 ∧ e0.r = e.r) (hlt : e.r < w.heap.size)
    (hB : BlkRel (μ ++ [e]) w e B) (hfree : ∀ (b : Nat) (B : Blk) (e' : ME), h[b]? = some B → B.live = true → μ[b]? = some e' → e'.r ≠ e.r) (hloc : ∀ k : Nat, lam[k]? ≠ some e.r) :
    Rel μ0 h0 w0 (μ ++ [e]) lam L (h ++ [B]) w := by
  have hlen := R.heap.len
  have get : ∀ (b : Nat) (B' : Blk), (h ++ [B])[b]? = some B' → (b < h.length ∧ h[b]? = some B') ∨ (b = h.length ∧ B' = B) := by
    intro b B' hb
    rw [List.getElem?_append] at hb
    split at hb
    · exact .inl ⟨by assumption, hb⟩
    · have : b - h.length = 0 := by have := lt_of_get hb; simp at this; omega
      rw [this] at hb; simp at hb
      exact .inr ⟨by omega, hb.symm⟩
  have getm : ∀ (b : Nat) (e' : ME), (μ ++ [e])[b]? = some e' → (b < μ.length ∧ μ[b]? = some e') ∨ (b = μ.length ∧ e' = e) := by
    intro b e' hb
    rw [List.getElem?_append] at hb
    split at hb
    · exact .inl ⟨by assumption, hb⟩
    · have : b - μ.length = 0 := by have := lt_of_get hb; simp at this; omega
      rw [this] at hb; simp at hb
      exact .inr ⟨by omega, hb.symm⟩
  refine ⟨⟨R.evo.le.trans (Ren.le_append _ _), by have := R.evo.hlen; simp; omega, R.evo.size, R.evo.frame, ?_, ?_, R.evo.os, R.evo.tape, R.evo.output⟩, ⟨by simp [hlen], ?_, ?_, ?_⟩, ⟨R.locs.len, ?_, R.locs.inj, ?_, R.locs.new⟩⟩
  · intro b B' e' hb hr he
    rcases get b B' hb with ⟨h1, h2⟩ | ⟨h1, rfl⟩ <;> rcases getm b e' he with ⟨g1, g2⟩ | ⟨g1, rfl⟩
    · exact R.evo.own b B' e' h2 hr g2
    · omega
    · omega
    · exact hnew
  · intro b B' e' hb hr he
    rcases get b B' hb with ⟨h1, h2⟩ | ⟨h1, rfl⟩ <;> rcases getm b e' he with ⟨g1, g2⟩ | ⟨g1, rfl⟩
    · exact R.evo.liv b B' e' h2 hr g2
    · omega
    · omega
    · rcases hnew with h' | ⟨b0, B0, e0, k1, k2, k3, k4⟩
      · exact .inl h'
      · exact .inr ⟨b0, B0, e0, k1, by cases B0 <;> simp_all [Blk.rw, Blk.live], k3, k4⟩
  · intro b B' e' hb he
    rcases get b B' hb with ⟨h1, h2⟩ | ⟨h1, rfl⟩ <;> rcases getm b e' he with ⟨g1, g2⟩ | ⟨g1, rfl⟩
    · exact (R.heap.blk b B' e' h2 g2).mono (Ren.le_append _ _)
    · omega
    · omega
    · exact hB
  · intro b1 b2 B1 B2 e1 e2 hne hb1 hb2 hr hl he1 he2
    rcases get b1 B1 hb1 with ⟨h1, h2⟩ | ⟨h1, rfl⟩ <;> rcases getm b1 e1 he1 with ⟨g1, g2⟩ | ⟨g1, rfl⟩ <;>
      rcases get b2 B2 hb2 with ⟨h3, h4⟩ | ⟨h3, rfl⟩ <;> rcases getm b2 e2 he2 with ⟨g3, g4⟩ | ⟨g3, rfl⟩ <;> try omega
    · exact R.heap.sep b1 b2 B1 B2 e1 e2 hne h2 h4 hr hl g2 g4
    · exact hfree b1 B1 e1 h2 (by cases B1 <;> simp_all [Blk.rw, Blk.live]) g2
    · exact (hfree b2 B2 e2 h4 hl g4).symm
  · intro b e' he
    rcases getm b e' he with ⟨g1, g2⟩ | ⟨g1, rfl⟩
    · exact R.heap.bnd b e' g2
    · exact hlt
  · intro k c r hc hr
    obtain ⟨C, t, fz, h1, h2, h3⟩ := R.locs.blk k c r hc hr
    exact ⟨C, t, fz, h1, relL.mono (Ren.le_append _ _) _ _ h2, h3⟩
  · intro k r b B' e' hk hb hl he
    rcases get b B' hb with ⟨h1, h2⟩ | ⟨h1, rfl⟩ <;> rcases getm b e' he with ⟨g1, g2⟩ | ⟨g1, rfl⟩
    · exact R.locs.sep k r b B' e' hk h2 hl g2
    · omega
    · omega
    · intro h'; exact hloc k (by rw [hk, h'])

/-- A new block, real and abstract. -/
theorem Rel.alloc (R : Rel μ0 h0 w0 μ lam L h w) (c : List AV) (C : Array Value) (t : TypeId) (hl : c.length ≤ C.size) (ho : oneAll c = true)
    (hr : ∀ (i : Nat) (x : AV), c[i]? = some x → ∃ y, C[i]? = some y ∧ x.rel μ y) :
    Rel μ0 h0 w0 (μ ++ [⟨w.heap.size, 0, C.size⟩]) lam L (h ++ [.cells c true]) (w.alloc (.cells C t)) := by
  refine (R.extra (.cells C t)).adopt ⟨w.heap.size, 0, C.size⟩ (.cells c true) (.inl R.evo.size) (by simp) ?_ ?_ ?_
  · refine ⟨C, t, (0, 0), heap_push_new _ _, by simp, hl, ho, fun i x hx => ?_, fun _ => rfl⟩
    obtain ⟨y, hy, hxy⟩ := hr i x hx
    exact ⟨y, by simpa using hy, AV.rel.mono (Ren.le_append _ _) _ _ hxy⟩
  · intro b B e' _ _ he
    have := R.heap.bnd b e' he
    simp; omega
  · intro k hk
    have := (R.locs.new k _ hk).2
    simp at this

/-- A new variable of the call's own. -/
theorem Rel.allocLoc (R : Rel μ0 h0 w0 μ lam L h w) (c : List AV) (C : Array Value) (t : TypeId) (hr : relL μ c C.toList) (ho : oneAll c = true) :
    Rel μ0 h0 w0 μ (lam ++ [w.heap.size]) (L ++ [c]) h (w.alloc (.cells C t)) := by
  have X := R.extra (.cells C t)
  have getm : ∀ (b e' : Nat), (lam ++ [w.heap.size])[b]? = some e' → (b < lam.length ∧ lam[b]? = some e') ∨ (b = lam.length ∧ e' = w.heap.size) := by
    intro b e' hb
    rw [List.getElem?_append] at hb
    split at hb
    · exact .inl ⟨by assumption, hb⟩
    · have : b - lam.length = 0 := by have := lt_of_get hb; simp at this; omega
      rw [this] at hb; simp at hb
      exact .inr ⟨by omega, hb.symm⟩
  have hlen := R.locs.len
  refine ⟨X.evo, X.heap, ⟨by simp [hlen], ?_, ?_, ?_, ?_⟩⟩
  · intro k c' r hc hk
    rcases getm k r hk with ⟨g1, g2⟩ | ⟨g1, rfl⟩
    · rw [List.getElem?_append_left (by omega)] at hc
      exact X.locs.blk k c' r hc g2
    · rw [List.getElem?_append_right (by omega)] at hc
      have : k - L.length = 0 := by omega
      rw [this] at hc; simp at hc; subst hc
      exact ⟨C, t, (0, 0), heap_push_new _ _, hr, rfl, ho⟩
  · intro k1 k2 r h1 h2
    rcases getm k1 r h1 with ⟨g1, g2⟩ | ⟨g1, g2⟩ <;> rcases getm k2 r h2 with ⟨g3, g4⟩ | ⟨g3, g4⟩
    · exact R.locs.inj k1 k2 r g2 g4
    · have := (R.locs.new k1 r g2).2; omega
    · have := (R.locs.new k2 r g4).2; omega
    · omega
  · intro k r b B e hk hb hl he
    rcases getm k r hk with ⟨g1, g2⟩ | ⟨g1, rfl⟩
    · exact R.locs.sep k r b B e g2 hb hl he
    · have := R.heap.bnd b e he; omega
  · intro k r hk
    rcases getm k r hk with ⟨g1, g2⟩ | ⟨g1, rfl⟩
    · have := R.locs.new k r g2; simp; omega
    · have := R.evo.size; simp; omega

/-- A store into a block. -/
theorem Rel.store (R : Rel μ0 h0 w0 μ lam L h w) {b : Nat} {c : List AV} {e : ME} (hb : h[b]? = some (.cells c true)) (he : μ[b]? = some e) {o : Nat} {xs : List AV} (ho : o + xs.length ≤ c.length)
    {vs : List Value} (hv : relL μ xs vs) (hox : oneAll xs = true) {C : Array Value} {t : TypeId} {fz : Nat × Nat} (hw : w.heap[e.r]? = some (.cells C t fz)) :
    Rel μ0 h0 w0 μ lam L (h.set b (.cells (splice c o xs) true)) (w.setBlk e.r (.cells (splice C.toList (e.s + o) vs).toArray t fz)) := by
  have hlt := heap_lt hw
  have hvl := hv.length
  obtain ⟨C1, t1, fz1, h1, h2, h3, h3', h4, h5⟩ := R.heap.blk b _ e hb he
  rw [hw] at h1; cases h1
  have hbl := lt_of_get hb
  have key : ∀ (b' : Nat) (B' : Blk), (h.set b (.cells (splice c o xs) true))[b']? = some B' → ∃ B0, h[b']? = some B0 ∧ B0.rw = B'.rw ∧ B0.live = B'.live := by
    intro b' B' hb'
    rw [List.getElem?_set] at hb'
    split at hb'
    · rename_i heq; subst heq
      simp [hbl] at hb'; subst hb'
      exact ⟨_, hb, rfl, rfl⟩
    · exact ⟨B', hb', rfl, rfl⟩
  refine ⟨⟨R.evo.le, by simpa using R.evo.hlen, by simpa using R.evo.size, ?_, ?_, ?_, R.evo.os, R.evo.tape, R.evo.output⟩, ⟨by simpa using R.heap.len, ?_, ?_, by simpa using R.heap.bnd⟩, ⟨R.locs.len, ?_, R.locs.inj, ?_, by simpa using R.locs.new⟩⟩
  · intro r hr hn
    rcases R.evo.own b _ e hb rfl he with h6 | ⟨b0, B0, e0, g1, g2, g3, g4⟩
    · rw [setBlk_other _ _ _ _ (by omega)]; exact R.evo.frame r hr hn
    · rw [setBlk_other _ _ _ _ (by rw [← g4]; exact (hn _ _ _ g1 g2 g3).symm)]; exact R.evo.frame r hr hn
  · intro b' B' e' hb' hr he'
    obtain ⟨B0, g1, g2, g3⟩ := key b' B' hb'
    exact R.evo.own b' B0 e' g1 (by rw [g2, hr]) he'
  · intro b' B' e' hb' hr he'
    obtain ⟨B0, g1, g2, g3⟩ := key b' B' hb'
    exact R.evo.liv b' B0 e' g1 (by rw [g3, hr]) he'
  · intro b' B' e' hb' he'
    by_cases heq : b' = b
    · subst heq
      rw [he] at he'; cases he'
      rw [List.getElem?_set] at hb'
      simp [hbl] at hb'; subst hb'
      have hlen : (splice C.toList (e.s + o) vs).length = C.size := by rw [splice_length (by simp; omega)]; simp
      refine ⟨_, t, fz, setBlk_same _ _ _ hlt, by simp [hlen, h2], by rw [splice_length ho]; exact h3, oneAll_append (oneAll_append (oneAll_take h3' _) hox) (oneAll_drop h3' _), ?_, h5⟩
      intro i x hx
      rw [splice_get ho] at hx
      simp only [List.getElem?_toArray]
      rw [splice_get (by simp; omega)]
      by_cases g1 : i < o
      · rw [if_pos g1] at hx
        rw [if_pos (by omega)]
        simpa using h4 i x hx
      · rw [if_neg g1] at hx
        rw [if_neg (by omega)]
        by_cases g2 : i < o + xs.length
        · rw [if_pos g2] at hx
          rw [if_pos (by omega), show e.s + i - (e.s + o) = i - o by omega]
          exact hv.get hx
        · rw [if_neg g2] at hx
          rw [if_neg (by omega)]
          simpa using h4 i x hx
    · rw [List.getElem?_set, if_neg (Ne.symm heq)] at hb'
      have hr0 := R.heap.blk b' B' e' hb' he'
      cases hB : B'.live with
      | false => cases B' <;> simp [Blk.live] at hB; trivial
      | true =>
        exact hr0.world (setBlk_other _ _ _ _ (R.heap.sep b b' _ B' e e' (Ne.symm heq) hb hb' rfl hB he he').symm)
  · intro b1 b2 B1 B2 e1 e2 hne hb1 hb2 hr hl he1 he2
    obtain ⟨B1', g1, g2, g3⟩ := key b1 B1 hb1
    obtain ⟨B2', g4, g5, g6⟩ := key b2 B2 hb2
    exact R.heap.sep b1 b2 B1' B2' e1 e2 hne g1 g4 (by rw [g2, hr]) (by rw [g6, hl]) he1 he2
  · intro k c' r hc hk
    rw [setBlk_other _ _ _ _ (Ne.symm (R.locs.sep k r b _ e hk hb rfl he))]
    exact R.locs.blk k c' r hc hk
  · intro k r b' B' e' hk hb' hl he'
    obtain ⟨B0, g1, g2, g3⟩ := key b' B' hb'
    exact R.locs.sep k r b' B0 e' hk g1 (by rw [g3, hl]) he'

/-- A block turned into another one. -/
theorem Rel.setB (R : Rel μ0 h0 w0 μ lam L h w) {b : Nat} {B B' : Blk} {e : ME} (hb : h[b]? = some B) (hB : B.rw = true) (he : μ[b]? = some e) (hrw' : B'.rw = true) {o o1 : Obj} (hw : w.heap[e.r]? = some o1)
    (hn : BlkRel μ (w.setBlk e.r o) e B') : Rel μ0 h0 w0 μ lam L (h.set b B') (w.setBlk e.r o) := by
  have hlt := heap_lt hw
  have hbl := lt_of_get hb
  have hl : B.live = true := by cases B <;> simp_all [Blk.rw, Blk.live]
  have hl' : B'.live = true := by cases B' <;> simp_all [Blk.rw, Blk.live]
  have key : ∀ (b' : Nat) (B2 : Blk), (h.set b B')[b']? = some B2 → ∃ B0, h[b']? = some B0 ∧ (B2.rw = true → B0.rw = true) ∧ (B2.live = true → B0.live = true) := by
    intro b' B2 hb'
    rw [List.getElem?_set] at hb'
    split at hb'
    · rename_i heq; subst heq
      simp [hbl] at hb'; subst hb'
      exact ⟨_, hb, fun _ => hB, fun _ => hl⟩
    · exact ⟨B2, hb', id, id⟩
  refine ⟨⟨R.evo.le, by simpa using R.evo.hlen, by simpa using R.evo.size, ?_, ?_, ?_, R.evo.os, R.evo.tape, R.evo.output⟩, ⟨by simpa using R.heap.len, ?_, ?_, by simpa using R.heap.bnd⟩, ⟨R.locs.len, ?_, R.locs.inj, ?_, by simpa using R.locs.new⟩⟩
  · intro r hr hn
    rcases R.evo.own b _ e hb hB he with h6 | ⟨b0, B0, e0, g1, g2, g3, g4⟩
    · rw [setBlk_other _ _ _ _ (by omega)]; exact R.evo.frame r hr hn
    · rw [setBlk_other _ _ _ _ (by rw [← g4]; exact (hn _ _ _ g1 g2 g3).symm)]; exact R.evo.frame r hr hn
  · intro b' B2 e' hb' hr he'
    obtain ⟨B0, g1, g2, g3⟩ := key b' B2 hb'
    exact R.evo.own b' B0 e' g1 (g2 hr) he'
  · intro b' B2 e' hb' hr he'
    obtain ⟨B0, g1, g2, g3⟩ := key b' B2 hb'
    exact R.evo.liv b' B0 e' g1 (g3 hr) he'
  · intro b' B2 e' hb' he'
    by_cases heq : b' = b
    · subst heq
      rw [he] at he'; cases he'
      rw [List.getElem?_set] at hb'
      simp [hbl] at hb'; subst hb'
      exact hn
    · rw [List.getElem?_set, if_neg (Ne.symm heq)] at hb'
      have hr0 := R.heap.blk b' B2 e' hb' he'
      cases hB2 : B2.live with
      | false => cases B2 <;> simp [Blk.live] at hB2; trivial
      | true => exact hr0.world (setBlk_other _ _ _ _ (R.heap.sep b b' _ B2 e e' (Ne.symm heq) hb hb' hB hB2 he he').symm)
  · intro b1 b2 B1 B2 e1 e2 hne hb1 hb2 hr hlv he1 he2
    obtain ⟨B1', g1, g2, g3⟩ := key b1 B1 hb1
    obtain ⟨B2', g4, g5, g6⟩ := key b2 B2 hb2
    exact R.heap.sep b1 b2 B1' B2' e1 e2 hne g1 g4 (g2 hr) (g6 hlv) he1 he2
  · intro k c' r hc hk
    rw [setBlk_other _ _ _ _ (Ne.symm (R.locs.sep k r b _ e hk hb hl he))]
    exact R.locs.blk k c' r hc hk
  · intro k r b' B2 e' hk hb' hlv he'
    obtain ⟨B0, g1, g2, g3⟩ := key b' B2 hb'
    exact R.locs.sep k r b' B0 e' hk g1 (g3 hlv) he'

/-- A new block of whatever kind. -/
theorem Rel.allocB (R : Rel μ0 h0 w0 μ lam L h w) (B : Blk) (o : Obj) (n : Nat) (hr : BlkRel (μ ++ [⟨w.heap.size, 0, n⟩]) (w.alloc o) ⟨w.heap.size, 0, n⟩ B) :
    Rel μ0 h0 w0 (μ ++ [⟨w.heap.size, 0, n⟩]) lam L (h ++ [B]) (w.alloc o) := by
  refine (R.extra o).adopt ⟨w.heap.size, 0, n⟩ B (.inl R.evo.size) (by simp) hr ?_ ?_
  · intro b B' e' _ _ he
    have := R.heap.bnd b e' he
    simp; omega
  · intro k hk
    have := (R.locs.new k _ hk).2
    simp at this

/-- A store into a variable of the call's own. -/
theorem Rel.storeLoc (R : Rel μ0 h0 w0 μ lam L h w) {k : Nat} {c : List AV} {r : Nat} (hc : L[k]? = some c) (hk : lam[k]? = some r) {o : Nat} {xs : List AV} (ho : o + xs.length ≤ c.length)
    {vs : List Value} (hv : relL μ xs vs) (hox : oneAll xs = true) {C : Array Value} {t : TypeId} {fz : Nat × Nat} (hw : w.heap[r]? = some (.cells C t fz)) :
    Rel μ0 h0 w0 μ lam (L.set k (splice c o xs)) h (w.setBlk r (.cells (splice C.toList o vs).toArray t fz)) := by
  have hlt := heap_lt hw
  have hvl := hv.length
  obtain ⟨C1, t1, fz1, h1, h2, h3⟩ := R.locs.blk k c r hc hk
  rw [hw] at h1; cases h1
  have hcl := h2.length
  have hkl := lt_of_get hc
  have hnew := R.locs.new k r hk
  refine ⟨{ R.evo with size := by simpa using R.evo.size, frame := ?_, os := R.evo.os, tape := R.evo.tape, output := R.evo.output }, ⟨R.heap.len, ?_, R.heap.sep, by simpa using R.heap.bnd⟩, ⟨by simpa using R.locs.len, ?_, R.locs.inj, R.locs.sep, by simpa using R.locs.new⟩⟩
  · intro q hq hn
    rw [setBlk_other _ _ _ _ (by omega)]; exact R.evo.frame q hq hn
  · intro b B e hb he
    cases hB : B.live with
    | false => cases B <;> simp [Blk.live] at hB; trivial
    | true => exact (R.heap.blk b B e hb he).world (setBlk_other _ _ _ _ (R.locs.sep k r b B e hk hb hB he))
  · intro k' c' r' hc' hk'
    by_cases heq : k' = k
    · subst heq
      rw [hk] at hk'; cases hk'
      rw [List.getElem?_set] at hc'
      simp [hkl] at hc'; subst hc'
      have hCl : C.size = c.length := by simpa using hcl
      have hlen : (splice C.toList o vs).length = C.size := by rw [splice_length (by simp; omega)]; simp
      refine ⟨_, t, fz, setBlk_same _ _ _ hlt, ?_, h3.1, oneAll_append (oneAll_append (oneAll_take h3.2 _) hox) (oneAll_drop h3.2 _)⟩
      refine relL.of_get (by simp [hlen, splice_length ho, hCl]) fun i x y hx hy => ?_
      simp only at hy
      rw [splice_get ho] at hx
      rw [splice_get (by simp; omega)] at hy
      by_cases g1 : i < o
      · rw [if_pos g1] at hx hy
        obtain ⟨y', q1, q2⟩ := h2.get hx
        rw [q1] at hy; cases hy; exact q2
      · rw [if_neg g1] at hx hy
        by_cases g2 : i < o + xs.length
        · rw [if_pos g2] at hx
          rw [if_pos (by omega)] at hy
          obtain ⟨y', q1, q2⟩ := hv.get hx
          rw [q1] at hy; cases hy; exact q2
        · rw [if_neg g2] at hx
          rw [if_neg (by omega)] at hy
          obtain ⟨y', q1, q2⟩ := h2.get hx
          rw [q1] at hy; cases hy; exact q2
    · rw [List.getElem?_set, if_neg (Ne.symm heq)] at hc'
      have hne : r' ≠ r := fun h' => heq (R.locs.inj k' k r (by rw [hk', h']) hk)
      rw [setBlk_other _ _ _ _ hne]
      exact R.locs.blk k' c' r' hc' hk'

/-- A block that is given up. -/
theorem Rel.kill (R : Rel μ0 h0 w0 μ lam L h w) (b : Nat) : Rel μ0 h0 w0 μ lam L (h.set b .dead) w := by
  have key : ∀ (b' : Nat) (B' : Blk), (h.set b .dead)[b']? = some B' → B' = .dead ∨ h[b']? = some B' := by
    intro b' B' hb'
    rw [List.getElem?_set] at hb'
    split at hb'
    · split at hb'
      · cases hb'; exact .inl rfl
      · cases hb'
    · exact .inr hb'
  refine ⟨⟨R.evo.le, by simpa using R.evo.hlen, R.evo.size, R.evo.frame, ?_, ?_, R.evo.os, R.evo.tape, R.evo.output⟩, ⟨by simpa using R.heap.len, ?_, ?_, R.heap.bnd⟩, ⟨R.locs.len, R.locs.blk, R.locs.inj, ?_, R.locs.new⟩⟩
  · intro b' B' e' hb' hr he'
    rcases key b' B' hb' with rfl | h'
    · simp [Blk.rw] at hr
    · exact R.evo.own b' B' e' h' hr he'
  · intro b' B' e' hb' hr he'
    rcases key b' B' hb' with rfl | h'
    · simp [Blk.live] at hr
    · exact R.evo.liv b' B' e' h' hr he'
  · intro b' B' e' hb' he'
    rcases key b' B' hb' with rfl | h'
    · trivial
    · exact R.heap.blk b' B' e' h' he'
  · intro b1 b2 B1 B2 e1 e2 hne hb1 hb2 hr hl he1 he2
    rcases key b1 B1 hb1 with rfl | h1
    · simp [Blk.rw] at hr
    · rcases key b2 B2 hb2 with rfl | h2
      · simp [Blk.live] at hl
      · exact R.heap.sep b1 b2 B1 B2 e1 e2 hne h1 h2 hr hl he1 he2
  · intro k r b' B' e' hk hb' hl he'
    rcases key b' B' hb' with rfl | h'
    · simp [Blk.live] at hl
    · exact R.locs.sep k r b' B' e' hk h' hl he'

/-- A real block that is the call's own, and that nobody lies in any more, may be turned. -/
theorem Rel.scratch (R : Rel μ0 h0 w0 μ lam L h w) (r : Nat) (o : Obj)
    (hown : w0.heap.size ≤ r ∨ ∃ (b0 : Nat) (B0 : Blk) (e0 : ME), h0[b0]? = some B0 ∧ B0.rw = true ∧ μ0[b0]? = some e0 ∧ e0.r = r)
    (hfree : ∀ (b : Nat) (B : Blk) (e' : ME), h[b]? = some B → B.live = true → μ[b]? = some e' → e'.r ≠ r) (hloc : ∀ k : Nat, lam[k]? ≠ some r) :
    Rel μ0 h0 w0 μ lam L h (w.setBlk r o) := by
  refine ⟨{ R.evo with size := by simpa using R.evo.size, frame := ?_, os := R.evo.os, tape := R.evo.tape, output := R.evo.output }, ⟨R.heap.len, ?_, R.heap.sep, by simpa using R.heap.bnd⟩, ⟨R.locs.len, ?_, R.locs.inj, R.locs.sep, by simpa using R.locs.new⟩⟩
  · intro q hq hn
    rw [setBlk_other, R.evo.frame q hq hn]
    rcases hown with h' | ⟨b0, B0, e0, h1, h2, h3, h4⟩
    · omega
    · rw [← h4]; exact (hn _ _ _ h1 h2 h3).symm
  · intro b B e hb he
    cases hB : B.live with
    | false => cases B <;> simp [Blk.live] at hB; trivial
    | true => exact (R.heap.blk b B e hb he).world (setBlk_other _ _ _ _ (hfree b B e hb hB he))
  · intro k c q hc hq
    rw [setBlk_other _ _ _ _ (fun h' => hloc k (by rw [hq, h']))]
    exact R.locs.blk k c q hc hq
end
end Go.Ab
