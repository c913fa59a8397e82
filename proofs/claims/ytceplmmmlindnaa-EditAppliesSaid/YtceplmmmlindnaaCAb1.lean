/- The abstract heap: values, blocks, the relation to a world. Plain definitions and their lemmas. -/
import Derived.Calls
import Derived.Laws.Sem
import Derived.Laws.World
import Derived.Laws.Cells
import Derived.Laws.Append
import Derived.Laws.AppendOwn
namespace Go.Ab
set_option linter.unusedSimpArgs false
set_option linter.unusedVariables false

/-- A place in a block. -/
structure PA where
  b : Nat
  o : Nat
deriving DecidableEq

/-- A slice that is not nil: where it begins, how long it is, its capacity, and (opn > 0: the cells of an element) whether it may be more. -/
structure SL where
  b : Nat
  o : Nat
  len : Nat
  cap : Nat
  opn : Nat
deriving DecidableEq

inductive AV where
  | int (k : IntKind) (n : Int)
  | bool (b : Bool)
  | str (s : List UInt8)
  | ptr (p : Option PA)
  | sl (s : Option SL)
  | map (m : Option Nat)
  | func (fn : Fn) (first captured : List AV)
  | nilfunc
  | iface (t : TypeId) (v : AV)
  | niliface
  | agg (cs : List AV)
  | tup (vs : List AV)

inductive LV where
  | val (v : AV)
  | loc (k o : Nat)
  | top

inductive Blk where
  | cells (c : List AV) (rw : Bool)
  | mp (es : List (AV × AV × Nat)) (clock : Nat)
  | it (m : Option Nat) (since : Nat) (seen : List Nat) (last : Nat)
  | bx (v : AV)
  | dead

abbrev Heap := List Blk
abbrev Locs := List (List AV)

/-- Where a block lies: the real block, the shift, how many real cells from the shift on. -/
structure ME where
  r : Nat
  s : Nat
  n : Nat

abbrev Ren := List ME

mutual
def AV.rel (μ : Ren) : AV → Value → Prop
  | .int k n, v => v = .int k n
  | .bool b, v => v = .bool b
  | .str s, v => v = .string ⟨s.toArray⟩
  | .ptr (some p), v => ∃ e : ME, μ[p.b]? = some e ∧ v = .pointer (some ⟨e.r, e.s + p.o, none⟩)
  | .ptr none, v => v = .pointer none
  | .sl (some s), v => ∃ (e : ME) (c' : Nat) (q : Addr), (μ[s.b]? = some e ∨ c' = 0) ∧ v = .slice (some q) s.len c' ∧ s.len ≤ s.cap ∧ (c' = 0 ∨ q = ⟨e.r, e.s + s.o, none⟩) ∧ (s.opn = 0 → c' = s.cap) ∧ (s.opn ≠ 0 → s.cap ≤ c' ∧ s.o + c' * s.opn ≤ e.n)
  | .sl none, v => v = .slice none 0 0
  | .map (some b), v => ∃ e : ME, μ[b]? = some e ∧ v = .map (some e.r)
  | .map none, v => v = .map none
  | .func fn f c, v => ∃ f' c', v = .func fn f' c' ∧ relL μ f f'.toList ∧ relL μ c c'.toList
  | .nilfunc, v => v = .nilFunc
  | .iface t x, v => ∃ y, v = .iface t y ∧ x.rel μ y
  | .niliface, v => v = .nilIface
  | .agg cs, v => ∃ cs', v = .agg cs' ∧ relL μ cs cs'.toList
  | .tup cs, v => ∃ cs', v = .tuple cs' ∧ relL μ cs cs'.toList
def relL (μ : Ren) : List AV → List Value → Prop
  | [], l => l = []
  | x :: xs, l => ∃ y ys, l = y :: ys ∧ x.rel μ y ∧ relL μ xs ys
end

/-- A later renaming knows all that an elder one knows. -/
def Ren.le (μ μ' : Ren) : Prop := ∀ (b : Nat) (e : ME), μ[b]? = some e → μ'[b]? = some e
theorem Ren.le.refl (μ : Ren) : Ren.le μ μ := fun _ _ h => h
theorem Ren.le.trans {a b c : Ren} (h : Ren.le a b) (h' : Ren.le b c) : Ren.le a c := fun _ _ x => h' _ _ (h _ _ x)
theorem Ren.le_append (μ : Ren) (l : List ME) : Ren.le μ (μ ++ l) := by
  intro b e h
  have hb : b < μ.length := by
    rcases Nat.lt_or_ge b μ.length with h' | h'
    · exact h'
    · simp [List.getElem?_eq_none h'] at h
  simpa [List.getElem?_append_left hb] using h

mutual
theorem AV.rel.mono {μ μ' : Ren} (h : Ren.le μ μ') : ∀ (x : AV) (v : Value), x.rel μ v → x.rel μ' v
  | .int _ _, _, r => r
  | .bool _, _, r => r
  | .str _, _, r => r
  | .ptr (some _), _, ⟨e, he, r⟩ => ⟨e, h _ _ he, r⟩
  | .ptr none, _, r => r
  | .sl (some _), _, ⟨e, c, q, he, r⟩ => ⟨e, c, q, he.imp (h _ _) id, r⟩
  | .sl none, _, r => r
  | .map (some _), _, ⟨e, he, r⟩ => ⟨e, h _ _ he, r⟩
  | .map none, _, r => r
  | .func _ f c, _, ⟨f', c', hv, hf, hc⟩ => ⟨f', c', hv, relL.mono h f _ hf, relL.mono h c _ hc⟩
  | .nilfunc, _, r => r
  | .iface _ x, _, ⟨y, hv, hy⟩ => ⟨y, hv, AV.rel.mono h x y hy⟩
  | .niliface, _, r => r
  | .agg cs, _, ⟨c', hv, hc⟩ => ⟨c', hv, relL.mono h cs _ hc⟩
  | .tup cs, _, ⟨c', hv, hc⟩ => ⟨c', hv, relL.mono h cs _ hc⟩
theorem relL.mono {μ μ' : Ren} (h : Ren.le μ μ') : ∀ (xs : List AV) (l : List Value), relL μ xs l → relL μ' xs l
  | [], _, r => r
  | x :: xs, _, ⟨y, ys, hl, hx, hxs⟩ => ⟨y, ys, hl, AV.rel.mono h x y hx, relL.mono h xs ys hxs⟩
end

theorem relL.length {μ : Ren} : ∀ {xs : List AV} {l : List Value}, relL μ xs l → l.length = xs.length
  | [], _, r => by simp only [relL] at r; simp [r]
  | x :: xs, _, ⟨y, ys, hl, _, hxs⟩ => by rw [hl]; simp [relL.length hxs]

theorem relL.get {μ : Ren} : ∀ {xs : List AV} {l : List Value}, relL μ xs l → ∀ {i : Nat} {x : AV}, xs[i]? = some x → ∃ y, l[i]? = some y ∧ x.rel μ y
  | [], _, _, i, x, h => by simp at h
  | x :: xs, _, ⟨y, ys, hl, hx, hxs⟩, i, z, h => by
    subst hl
    cases i with
    | zero => simp at h; subst h; exact ⟨y, by simp, hx⟩
    | succ i => simp at h; obtain ⟨y', h1, h2⟩ := relL.get hxs h; exact ⟨y', by simpa using h1, h2⟩

theorem relL.of_get {μ : Ren} : ∀ {xs : List AV} {l : List Value}, l.length = xs.length → (∀ (i : Nat) (x : AV) (y : Value), xs[i]? = some x → l[i]? = some y → x.rel μ y) → relL μ xs l
  | [], l, hl, _ => by simp at hl; simp [relL, hl]
  | x :: xs, [], hl, _ => by simp at hl
  | x :: xs, y :: ys, hl, h => ⟨y, ys, rfl, h 0 x y (by simp) (by simp), relL.of_get (by simpa using hl) fun i a b ha hb => h (i + 1) a b (by simpa using ha) (by simpa using hb)⟩

theorem relL.append {μ : Ren} : ∀ {xs xs' : List AV} {l l' : List Value}, relL μ xs l → relL μ xs' l' → relL μ (xs ++ xs') (l ++ l')
  | [], xs', l, l', h, h' => by simp only [relL] at h; simpa [h] using h'
  | x :: xs, xs', _, l', ⟨y, ys, hl, hx, hxs⟩, h' => ⟨y, ys ++ l', by simp [hl], hx, relL.append hxs h'⟩

theorem relL.take {μ : Ren} {xs : List AV} {l : List Value} (h : relL μ xs l) (n : Nat) : relL μ (xs.take n) (l.take n) := by
  have hl := h.length
  refine relL.of_get (by simp [hl]) fun i x y hx hy => ?_
  rw [List.getElem?_take] at hx hy
  split at hx
  · rename_i hi
    rw [if_pos hi] at hy
    obtain ⟨y', h1, h2⟩ := h.get hx
    rw [h1] at hy; cases hy; exact h2
  · simp at hx

theorem relL.drop {μ : Ren} {xs : List AV} {l : List Value} (h : relL μ xs l) (n : Nat) : relL μ (xs.drop n) (l.drop n) := by
  have hl := h.length
  refine relL.of_get (by simp [hl]) fun i x y hx hy => ?_
  rw [List.getElem?_drop] at hx hy
  obtain ⟨y', h1, h2⟩ := h.get hx
  rw [h1] at hy; cases hy; exact h2

theorem relL.set {μ : Ren} {xs : List AV} {l : List Value} (h : relL μ xs l) (n : Nat) {x : AV} {y : Value} (hxy : x.rel μ y) : relL μ (xs.set n x) (l.set n y) := by
  have hl := h.length
  refine relL.of_get (by simp [hl]) fun i a b ha hb => ?_
  rw [List.getElem?_set] at ha hb
  split at ha
  · rename_i hi
    rw [if_pos hi] at hb
    split at ha
    · rename_i hlt
      rw [if_pos (by omega)] at hb
      cases ha; cases hb; exact hxy
    · simp at ha
  · rename_i hi
    rw [if_neg hi] at hb
    obtain ⟨y', h1, h2⟩ := h.get ha
    rw [h1] at hb; cases hb; exact h2

/-- May it lie in one cell? -/
def AV.one : AV → Bool
  | .agg _ | .tup _ => false
  | _ => true
def AV.cells : AV → List AV
  | .agg cs => cs
  | v => [v]

theorem AV.rel.oneCell {μ : Ren} {x : AV} {v : Value} (h : x.rel μ v) (hx : x.one = true) : v.oneCell' = true := by
  cases x <;> simp [AV.one] at hx
  case ptr p => cases p <;> simp only [AV.rel] at h; (subst h; rfl); (obtain ⟨e, _, rfl⟩ := h; rfl)
  case sl p => cases p <;> simp only [AV.rel] at h; (subst h; rfl); (obtain ⟨e, c, q, _, rfl, _⟩ := h; rfl)
  case map p => cases p <;> simp only [AV.rel] at h; (subst h; rfl); (obtain ⟨e, _, rfl⟩ := h; rfl)
  all_goals simp only [AV.rel] at h
  case func => obtain ⟨f', c', rfl, _⟩ := h; rfl
  case iface => obtain ⟨y, rfl, _⟩ := h; rfl
  all_goals (subst h; rfl)

theorem AV.rel.cells {μ : Ren} {x : AV} {v : Value} (h : x.rel μ v) (hx : ∀ c, x ≠ .tup c) : relL μ x.cells v.cells.toList := by
  have h0 := h
  cases x <;> simp only [AV.cells]
  case tup c => exact absurd rfl (hx c)
  case agg cs => obtain ⟨cs', rfl, h⟩ := h; simpa [Value.cells] using h
  case ptr p => cases p <;> simp only [AV.rel] at h; (subst h; exact ⟨_, [], rfl, h0, rfl⟩); (obtain ⟨e, _, rfl⟩ := h; exact ⟨_, [], rfl, h0, rfl⟩)
  case sl p => cases p <;> simp only [AV.rel] at h; (subst h; exact ⟨_, [], rfl, h0, rfl⟩); (obtain ⟨e, c, q, _, rfl, _⟩ := h; exact ⟨_, [], rfl, h0, rfl⟩)
  case map p => cases p <;> simp only [AV.rel] at h; (subst h; exact ⟨_, [], rfl, h0, rfl⟩); (obtain ⟨e, _, rfl⟩ := h; exact ⟨_, [], rfl, h0, rfl⟩)
  all_goals simp only [AV.rel] at h
  case func => obtain ⟨f', c', rfl, _⟩ := h; exact ⟨_, [], rfl, h0, rfl⟩
  case iface => obtain ⟨y, rfl, _⟩ := h; exact ⟨_, [], rfl, h0, rfl⟩
  all_goals (subst h; exact ⟨_, [], rfl, h0, rfl⟩)

def oneAll (l : List AV) : Bool := l.all AV.one
theorem oneAll_append {a b : List AV} (ha : oneAll a = true) (hb : oneAll b = true) : oneAll (a ++ b) = true := by simp [oneAll] at *; exact ⟨ha, hb⟩
theorem oneAll_take {a : List AV} (ha : oneAll a = true) (n : Nat) : oneAll (a.take n) = true := by simp only [oneAll, List.all_eq_true] at *; exact fun x hx => ha x (List.mem_of_mem_take hx)
theorem oneAll_drop {a : List AV} (ha : oneAll a = true) (n : Nat) : oneAll (a.drop n) = true := by simp only [oneAll, List.all_eq_true] at *; exact fun x hx => ha x (List.mem_of_mem_drop hx)

def Blk.rw : Blk → Bool
  | .cells _ rw => rw
  | .mp _ _ => true
  | .it _ _ _ _ => true
  | .bx _ => true
  | .dead => false
def Blk.live : Blk → Bool
  | .dead => false
  | _ => true

/-- The entries of a map. -/
def relM (μ : Ren) : List (AV × AV × Nat) → List MapEntry → Prop
  | [], l => l = []
  | (k, v, n) :: es, l => ∃ E Es, l = E :: Es ∧ k.rel μ E.key ∧ v.rel μ E.val ∧ E.born = n ∧ relM μ es Es

theorem relM.mono {μ μ' : Ren} (h : Ren.le μ μ') : ∀ {es : List (AV × AV × Nat)} {l : List MapEntry}, relM μ es l → relM μ' es l
  | [], _, r => r
  | (k, v, n) :: es, _, ⟨E, Es, h1, h2, h3, h4, h5⟩ => ⟨E, Es, h1, AV.rel.mono h _ _ h2, AV.rel.mono h _ _ h3, h4, h5.mono h⟩

/-- The map that an iterator goes over. -/
def relO (μ : Ren) : Option Nat → Option Nat → Prop
  | none, m => m = none
  | some b, m => ∃ e : ME, μ[b]? = some e ∧ m = some e.r
theorem relO.mono {μ μ' : Ren} (h : Ren.le μ μ') : ∀ {b m : Option Nat}, relO μ b m → relO μ' b m
  | none, _, r => r
  | some _, _, ⟨e, he, hm⟩ => ⟨e, h _ _ he, hm⟩

def BlkRel (μ : Ren) (w : World) (e : ME) : Blk → Prop
  | .dead => True
  | .cells c rw => ∃ C t fz, w.heap[e.r]? = some (.cells C t fz) ∧ C.size = e.s + e.n ∧ c.length ≤ e.n ∧ oneAll c = true ∧
      (∀ (i : Nat) (x : AV), c[i]? = some x → ∃ y, C[e.s + i]? = some y ∧ x.rel μ y) ∧ (rw = true → fz = (0, 0))
  | .mp es clock => ∃ ES, w.heap[e.r]? = some (.map ES clock) ∧ relM μ es ES.toList
  | .bx v => e.s = 0 ∧ ∃ y t, w.heap[e.r]? = some (.cells #[y] t (0, 0)) ∧ v.rel μ y
  | .it m since seen last => e.s = 0 ∧ ∃ mm, w.heap[e.r]? = some (.mapIter mm since seen.toArray last) ∧ relO μ m mm

structure HRel (μ : Ren) (h : Heap) (w : World) : Prop where
  len : μ.length = h.length
  blk : ∀ (b : Nat) (B : Blk) (e : ME), h[b]? = some B → μ[b]? = some e → BlkRel μ w e B
  sep : ∀ (b1 b2 : Nat) (B1 B2 : Blk) (e1 e2 : ME), b1 ≠ b2 → h[b1]? = some B1 → h[b2]? = some B2 → B1.rw = true → B2.live = true → μ[b1]? = some e1 → μ[b2]? = some e2 → e1.r ≠ e2.r
  bnd : ∀ (b : Nat) (e : ME), μ[b]? = some e → e.r < w.heap.size

/-- From an elder point (μ0, h0, w0) to a later one: what was not to be written is as it was. -/
structure Evo (μ0 : Ren) (h0 : Heap) (w0 : World) (μ : Ren) (h : Heap) (w : World) : Prop where
  le : Ren.le μ0 μ
  hlen : h0.length ≤ h.length
  size : w0.heap.size ≤ w.heap.size
  frame : ∀ r, r < w0.heap.size → (∀ (b : Nat) (B : Blk) (e : ME), h0[b]? = some B → B.rw = true → μ0[b]? = some e → e.r ≠ r) → w.heap[r]? = w0.heap[r]?
  own : ∀ (b : Nat) (B : Blk) (e : ME), h[b]? = some B → B.rw = true → μ[b]? = some e → w0.heap.size ≤ e.r ∨ ∃ (b0 : Nat) (B0 : Blk) (e0 : ME), h0[b0]? = some B0 ∧ B0.rw = true ∧ μ0[b0]? = some e0 ∧ e0.r = e.r
  liv : ∀ (b : Nat) (B : Blk) (e : ME), h[b]? = some B → B.live = true → μ[b]? = some e → w0.heap.size ≤ e.r ∨ ∃ (b0 : Nat) (B0 : Blk) (e0 : ME), h0[b0]? = some B0 ∧ B0.live = true ∧ μ0[b0]? = some e0 ∧ e0.r = e.r
  os : w.os = w0.os
  tape : w.tape = w0.tape
  output : w.output = w0.output

theorem Evo.refl (μ : Ren) (h : Heap) (w : World) : Evo μ h w μ h w :=
  ⟨.refl _, Nat.le_refl _, Nat.le_refl _, fun _ _ _ => rfl, fun b B e hb hr he => .inr ⟨b, B, e, hb, hr, he, rfl⟩, fun b B e hb hr he => .inr ⟨b, B, e, hb, hr, he, rfl⟩, rfl, rfl, rfl⟩

theorem Evo.trans {μ0 μ1 μ2 : Ren} {h0 h1 h2 : Heap} {w0 w1 w2 : World} (a : Evo μ0 h0 w0 μ1 h1 w1) (b : Evo μ1 h1 w1 μ2 h2 w2) : Evo μ0 h0 w0 μ2 h2 w2 where
  le := a.le.trans b.le
  hlen := Nat.le_trans a.hlen b.hlen
  size := Nat.le_trans a.size b.size
  frame r hr hn := by
    rw [b.frame r (Nat.lt_of_lt_of_le hr a.size) ?_, a.frame r hr hn]
    intro k B e hk hB he
    rcases a.own k B e hk hB he with h | ⟨b0, B0, e0, h1, h2, h3, h4⟩
    · omega
    · rw [← h4]; exact hn _ _ _ h1 h2 h3
  own k B e hk hB he := by
    rcases b.own k B e hk hB he with h | ⟨b0, B0, e0, h1, h2, h3, h4⟩
    · exact .inl (Nat.le_trans a.size h)
    · rcases a.own b0 B0 e0 h1 h2 h3 with h | ⟨b1, B1, e1, g1, g2, g3, g4⟩
      · exact .inl (by omega)
      · exact .inr ⟨b1, B1, e1, g1, g2, g3, by omega⟩
  liv k B e hk hB he := by
    rcases b.liv k B e hk hB he with h | ⟨b0, B0, e0, h1, h2, h3, h4⟩
    · exact .inl (Nat.le_trans a.size h)
    · rcases a.liv b0 B0 e0 h1 h2 h3 with h | ⟨b1, B1, e1, g1, g2, g3, g4⟩
      · exact .inl (by omega)
      · exact .inr ⟨b1, B1, e1, g1, g2, g3, by omega⟩
  os := b.os.trans a.os
  tape := b.tape.trans a.tape
  output := b.output.trans a.output

/-- The call's own variables that nobody else sees. -/
structure LRel (w0 : World) (μ : Ren) (h : Heap) (lam : List Nat) (L : Locs) (w : World) : Prop where
  len : lam.length = L.length
  blk : ∀ (k : Nat) (c : List AV) (r : Nat), L[k]? = some c → lam[k]? = some r → ∃ C t fz, w.heap[r]? = some (.cells C t fz) ∧ relL μ c C.toList ∧ fz = (0, 0) ∧ oneAll c = true
  inj : ∀ (k1 k2 r : Nat), lam[k1]? = some r → lam[k2]? = some r → k1 = k2
  sep : ∀ (k r b : Nat) (B : Blk) (e : ME), lam[k]? = some r → h[b]? = some B → B.live = true → μ[b]? = some e → e.r ≠ r
  new : ∀ (k r : Nat), lam[k]? = some r → w0.heap.size ≤ r ∧ r < w.heap.size

def LV.rel (μ : Ren) (lam : List Nat) : LV → Value → Prop
  | .val x, v => x.rel μ v
  | .loc k o, v => ∃ r, lam[k]? = some r ∧ v = .pointer (some ⟨r, o, none⟩)
  | .top, _ => True

def lamLe (a b : List Nat) : Prop := ∀ (k r : Nat), a[k]? = some r → b[k]? = some r

theorem LV.rel.mono {μ μ' : Ren} {lam lam' : List Nat} (h : Ren.le μ μ') (hl : lamLe lam lam') {x : LV} {v : Value} (r : x.rel μ lam v) : x.rel μ' lam' v := by
  cases x with
  | val x => exact AV.rel.mono h x v r
  | loc k o => obtain ⟨q, hq, hv⟩ := r; exact ⟨q, hl _ _ hq, hv⟩
  | top => trivial

/-- Constants. -/
def ofV : Nat → Value → Option AV
  | 0, _ => none
  | _ + 1, .int k n => some (.int k n)
  | _ + 1, .bool b => some (.bool b)
  | _ + 1, .string s => some (.str s.data.toList)
  | _ + 1, .pointer none => some (.ptr none)
  | _ + 1, .slice none 0 0 => some (.sl none)
  | _ + 1, .map none => some (.map none)
  | _ + 1, .nilFunc => some .nilfunc
  | _ + 1, .nilIface => some .niliface
  | n + 1, .iface t v => (ofV n v).map (.iface t)
  | n + 1, .agg cs => (cs.toList.mapM (ofV n)).map .agg
  | n + 1, .tuple cs => (cs.toList.mapM (ofV n)).map .tup
  | _ + 1, _ => none

theorem relL_of_mapM {μ : Ren} {f : Value → Option AV} (hf : ∀ v x, f v = some x → x.rel μ v) : ∀ (l : List Value) (xs : List AV), l.mapM f = some xs → relL μ xs l
  | [], xs, h => by simp at h; subst h; rfl
  | v :: l, xs, h => by
    simp only [List.mapM_cons, Option.bind_eq_bind, Option.pure_def, Option.bind_eq_some_iff] at h
    obtain ⟨x, hx, xs', hxs, h'⟩ := h
    cases h'
    exact ⟨v, l, rfl, hf _ _ hx, relL_of_mapM hf l _ hxs⟩

theorem ofV_rel (μ : Ren) : ∀ (n : Nat) (v : Value) (x : AV), ofV n v = some x → x.rel μ v
  | 0, _, _, h => by simp [ofV] at h
  | n + 1, v, x, h => by
    have ih := fun v x => ofV_rel μ n v x
    unfold ofV at h
    split at h <;> first
      | (cases h; done)
      | (cases h; simp only [AV.rel]; done)
      | (rename_i hh; cases hh; simp only [Option.map_eq_some_iff] at h; obtain ⟨y, hy, rfl⟩ := h; first | exact ⟨_, rfl, ih _ _ hy⟩ | exact ⟨_, rfl, relL_of_mapM ih _ _ hy⟩)
end Go.Ab
