import Derived.Calls
import Derived.Laws.Sem
import Derived.Laws.World
import Derived.Laws.Cells
import Derived.Laws.Append
import Derived.Laws.AppendOwn
import Derived.Laws.Entries
import Derived.ChangeKeysEq
namespace Go.Ab
set_option linter.unusedSimpArgs false
set_option linter.unusedVariables false
structure PA where
 b : Nat
 o : Nat
deriving DecidableEq
structure SL where
 b : Nat
 o : Nat
 len : Nat
 cap : Nat
 opn : Nat
deriving DecidableEq
inductive AV where
 | int (k : IntKind) (n : Int)
 | bool (b : Bool)
 | str (s : List UInt8)
 | ptr (p : Option PA)
 | sl (s : Option SL)
 | map (m : Option Nat)
 | func (fn : Fn) (first captured : List AV)
 | nilfunc
 | iface (t : TypeId) (v : AV)
 | niliface
 | agg (cs : List AV)
 | tup (vs : List AV)
inductive LV where
 | val (v : AV)
 | loc (k o : Nat)
 | top
inductive Blk where
 | cells (c : List AV) (rw : Bool)
 | mp (es : List (AV × AV × Nat)) (clock : Nat)
 | it (m : Option Nat) (since : Nat) (seen : List Nat) (last : Nat)
 | bx (v : AV)
 | gm (g j : Nat)
 | dead
abbrev Heap := List Blk
abbrev Locs := List (List AV)
structure ME where
 r : Nat
 s : Nat
 n : Nat
abbrev Ren := List ME
mutual
def AV.rel (μ : Ren) : AV → Value → Prop
 | .int k n, v => v = .int k n
 | .bool b, v => v = .bool b
 | .str s, v => v = .string ⟨s.toArray⟩
 | .ptr (some p), v => ∃ e : ME, μ[p.b]? = some e ∧ v = .pointer (some ⟨e.r, e.s + p.o, none⟩)
 | .ptr none, v => v = .pointer none
 | .sl (some s), v => ∃ (e : ME) (c' : Nat) (q : Addr), (μ[s.b]? = some e ∨ c' = 0) ∧ v = .slice (some q) s.len c' ∧ s.len ≤ s.cap ∧ (c' = 0 ∨ q = ⟨e.r, e.s + s.o, none⟩) ∧ (s.opn = 0 → c' = s.cap) ∧ (s.opn ≠ 0 → s.cap ≤ c' ∧ s.o + c' * s.opn ≤ e.n)
 | .sl none, v => v = .slice none 0 0
 | .map (some b), v => ∃ e : ME, μ[b]? = some e ∧ v = .map (some e.r)
 | .map none, v => v = .map none
 | .func fn f c, v => match fn with
  | .yield b => ∃ (e : ME) (f' c' : Array Value), μ[b]? = some e ∧ v = .func (.yield e.r) f' c' ∧ relL μ f f'.toList ∧ relL μ c c'.toList
  | fn => ∃ f' c', v = .func fn f' c' ∧ relL μ f f'.toList ∧ relL μ c c'.toList
 | .nilfunc, v => v = .nilFunc
 | .iface t x, v => ∃ y, v = .iface t y ∧ x.rel μ y
 | .niliface, v => v = .nilIface
 | .agg cs, v => ∃ cs', v = .agg cs' ∧ relL μ cs cs'.toList
 | .tup cs, v => ∃ cs', v = .tuple cs' ∧ relL μ cs cs'.toList
def relL (μ : Ren) : List AV → List Value → Prop
 | [], l => l = []
 | x :: xs, l => ∃ y ys, l = y :: ys ∧ x.rel μ y ∧ relL μ xs ys
end
def Ren.le (μ μ' : Ren) : Prop := ∀ (b : Nat) (e : ME), μ[b]? = some e → μ'[b]? = some e
theorem Ren.le.refl (μ : Ren) : Ren.le μ μ := fun _ _ h => h
theorem Ren.le.trans {a b c : Ren} (h : Ren.le a b) (h' : Ren.le b c) : Ren.le a c := fun _ _ x => h' _ _ (h _ _ x)
theorem Ren.le_append (μ : Ren) (l : List ME) : Ren.le μ (μ ++ l) := by
 intro b e h
 have hb : b < μ.length := by
  rcases Nat.lt_or_ge b μ.length with h' | h'
  ·exact h'
  ·simp [List.getElem?_eq_none h'] at h
 simpa [List.getElem?_append_left hb] using h
mutual
theorem AV.rel.mono {μ μ' : Ren} (h : Ren.le μ μ') : ∀ (x : AV) (v : Value), x.rel μ v → x.rel μ' v
 | .int _ _, _, r => r
 | .bool _, _, r => r
 | .str _, _, r => r
 | .ptr (some _), _, ⟨e, he, r⟩ => ⟨e, h _ _ he, r⟩
 | .ptr none, _, r => r
 | .sl (some _), _, ⟨e, c, q, he, r⟩ => ⟨e, c, q, he.imp (h _ _) id, r⟩
 | .sl none, _, r => r
 | .map (some _), _, ⟨e, he, r⟩ => ⟨e, h _ _ he, r⟩
 | .map none, _, r => r
 | .func (.yield _) f c, _, ⟨e, f', c', he, hv, hf, hc⟩ => ⟨e, f', c', h _ _ he, hv, relL.mono h f _ hf, relL.mono h c _ hc⟩
 | .func (.func _) f c, _, ⟨f', c', hv, hf, hc⟩ => ⟨f', c', hv, relL.mono h f _ hf, relL.mono h c _ hc⟩
 | .func (.method _) f c, _, ⟨f', c', hv, hf, hc⟩ => ⟨f', c', hv, relL.mono h f _ hf, relL.mono h c _ hc⟩
 | .func (.methodOf _ _) f c, _, ⟨f', c', hv, hf, hc⟩ => ⟨f', c', hv, relL.mono h f _ hf, relL.mono h c _ hc⟩
 | .func (.via _ _ _ _) f c, _, ⟨f', c', hv, hf, hc⟩ => ⟨f', c', hv, relL.mono h f _ hf, relL.mono h c _ hc⟩
 | .nilfunc, _, r => r
 | .iface _ x, _, ⟨y, hv, hy⟩ => ⟨y, hv, AV.rel.mono h x y hy⟩
 | .niliface, _, r => r
 | .agg cs, _, ⟨c', hv, hc⟩ => ⟨c', hv, relL.mono h cs _ hc⟩
 | .tup cs, _, ⟨c', hv, hc⟩ => ⟨c', hv, relL.mono h cs _ hc⟩
theorem relL.mono {μ μ' : Ren} (h : Ren.le μ μ') : ∀ (xs : List AV) (l : List Value), relL μ xs l → relL μ' xs l
 | [], _, r => r
 | x :: xs, _, ⟨y, ys, hl, hx, hxs⟩ => ⟨y, ys, hl, AV.rel.mono h x y hx, relL.mono h xs ys hxs⟩
end
theorem relL.length {μ : Ren} : ∀ {xs : List AV} {l : List Value}, relL μ xs l → l.length = xs.length
 | [], _, r => by simp only [relL] at r; simp [r]
 | x :: xs, _, ⟨y, ys, hl, _, hxs⟩ => by rw [hl]; simp [relL.length hxs]
theorem relL.get {μ : Ren} : ∀ {xs : List AV} {l : List Value}, relL μ xs l → ∀ {i : Nat} {x : AV}, xs[i]? = some x → ∃ y, l[i]? = some y ∧ x.rel μ y
 | [], _, _, i, x, h => by simp at h
 | x :: xs, _, ⟨y, ys, hl, hx, hxs⟩, i, z, h => by
  subst hl
  cases i with
  | zero => simp at h; subst h; exact ⟨y, by simp, hx⟩
  | succ i => simp at h; obtain ⟨y', h1, h2⟩ := relL.get hxs h; exact ⟨y', by simpa using h1, h2⟩
theorem relL.of_get {μ : Ren} : ∀ {xs : List AV} {l : List Value}, l.length = xs.length → (∀ (i : Nat) (x : AV) (y : Value), xs[i]? = some x → l[i]? = some y → x.rel μ y) → relL μ xs l
 | [], l, hl, _ => by simp at hl; simp [relL, hl]
 | x :: xs, [], hl, _ => by simp at hl
 | x :: xs, y :: ys, hl, h => ⟨y, ys, rfl, h 0 x y (by simp) (by simp), relL.of_get (by simpa using hl) fun i a b ha hb => h (i + 1) a b (by simpa using ha) (by simpa using hb)⟩
theorem relL.append {μ : Ren} : ∀ {xs xs' : List AV} {l l' : List Value}, relL μ xs l → relL μ xs' l' → relL μ (xs ++ xs') (l ++ l')
 | [], xs', l, l', h, h' => by simp only [relL] at h; simpa [h] using h'
 | x :: xs, xs', _, l', ⟨y, ys, hl, hx, hxs⟩, h' => ⟨y, ys ++ l', by simp [hl], hx, relL.append hxs h'⟩
theorem relL.take {μ : Ren} {xs : List AV} {l : List Value} (h : relL μ xs l) (n : Nat) : relL μ (xs.take n) (l.take n) := by
 have hl := h.length
 refine relL.of_get (by simp [hl]) fun i x y hx hy => ?_
 rw [List.getElem?_take] at hx hy
 split at hx
 ·rename_i hi
  rw [if_pos hi] at hy
  obtain ⟨y', h1, h2⟩ := h.get hx
  rw [h1] at hy; cases hy; exact h2
 ·simp at hx
theorem relL.drop {μ : Ren} {xs : List AV} {l : List Value} (h : relL μ xs l) (n : Nat) : relL μ (xs.drop n) (l.drop n) := by
 have hl := h.length
 refine relL.of_get (by simp [hl]) fun i x y hx hy => ?_
 rw [List.getElem?_drop] at hx hy
 obtain ⟨y', h1, h2⟩ := h.get hx
 rw [h1] at hy; cases hy; exact h2
theorem rel_func {μ : Ren} {fn : Fn} {f c : List AV} {v : Value} (h : AV.rel μ (.func fn f c) v) : ∃ fn' f' c', v = .func fn' f' c' := by
 cases fn <;> first | (obtain ⟨e, f', c', _, rfl, _⟩ := h; exact ⟨_, _, _, rfl⟩) | (obtain ⟨f', c', rfl, _⟩ := h; exact ⟨_, _, _, rfl⟩)
def AV.one : AV → Bool
 | .agg _ | .tup _ => false
 | _ => true
def AV.cells : AV → List AV
 | .agg cs => cs
 | v => [v]
theorem AV.rel.oneCell {μ : Ren} {x : AV} {v : Value} (h : x.rel μ v) (hx : x.one = true) : v.oneCell' = true := by
 cases x <;> simp [AV.one] at hx
 case ptr p => cases p <;> simp only [AV.rel] at h; (subst h; rfl); (obtain ⟨e, _, rfl⟩ := h; rfl)
 case sl p => cases p <;> simp only [AV.rel] at h; (subst h; rfl); (obtain ⟨e, c, q, _, rfl, _⟩ := h; rfl)
 case map p => cases p <;> simp only [AV.rel] at h; (subst h; rfl); (obtain ⟨e, _, rfl⟩ := h; rfl)
 all_goals simp only [AV.rel] at h
 case func fn _ _ => cases fn <;> first | (obtain ⟨e, f', c', _, rfl, _⟩ := h; rfl) | (obtain ⟨f', c', rfl, _⟩ := h; rfl)
 case iface => obtain ⟨y, rfl, _⟩ := h; rfl
 all_goals (subst h; rfl)
theorem AV.rel.cells {μ : Ren} {x : AV} {v : Value} (h : x.rel μ v) (hx : ∀ c, x ≠ .tup c) : relL μ x.cells v.cells.toList := by
 have h0 := h
 cases x <;> simp only [AV.cells]
 case tup c => exact absurd rfl (hx c)
 case agg cs => obtain ⟨cs', rfl, h⟩ := h; simpa [Value.cells] using h
 case ptr p => cases p <;> simp only [AV.rel] at h; (subst h; exact ⟨_, [], rfl, h0, rfl⟩); (obtain ⟨e, _, rfl⟩ := h; exact ⟨_, [], rfl, h0, rfl⟩)
 case sl p => cases p <;> simp only [AV.rel] at h; (subst h; exact ⟨_, [], rfl, h0, rfl⟩); (obtain ⟨e, c, q, _, rfl, _⟩ := h; exact ⟨_, [], rfl, h0, rfl⟩)
 case map p => cases p <;> simp only [AV.rel] at h; (subst h; exact ⟨_, [], rfl, h0, rfl⟩); (obtain ⟨e, _, rfl⟩ := h; exact ⟨_, [], rfl, h0, rfl⟩)
 all_goals simp only [AV.rel] at h
 case func fn _ _ => cases fn <;> first | (obtain ⟨e, f', c', _, rfl, _⟩ := h; exact ⟨_, [], rfl, h0, rfl⟩) | (obtain ⟨f', c', rfl, _⟩ := h; exact ⟨_, [], rfl, h0, rfl⟩)
 case iface => obtain ⟨y, rfl, _⟩ := h; exact ⟨_, [], rfl, h0, rfl⟩
 all_goals (subst h; exact ⟨_, [], rfl, h0, rfl⟩)
def oneAll (l : List AV) : Bool := l.all AV.one
theorem oneAll_append {a b : List AV} (ha : oneAll a = true) (hb : oneAll b = true) : oneAll (a ++ b) = true := by simp [oneAll] at *; exact ⟨ha, hb⟩
theorem oneAll_take {a : List AV} (ha : oneAll a = true) (n : Nat) : oneAll (a.take n) = true := by simp only [oneAll, List.all_eq_true] at *; exact fun x hx => ha x (List.mem_of_mem_take hx)
theorem oneAll_drop {a : List AV} (ha : oneAll a = true) (n : Nat) : oneAll (a.drop n) = true := by simp only [oneAll, List.all_eq_true] at *; exact fun x hx => ha x (List.mem_of_mem_drop hx)
def Blk.rw : Blk → Bool
 | .cells _ rw => rw
 | .mp _ _ => true
 | .it _ _ _ _ => true
 | .bx _ => true
 | .gm _ _ => false
 | .dead => false
def Blk.live : Blk → Bool
 | .dead => false
 | .gm _ _ => false
 | _ => true
def relM (μ : Ren) : List (AV × AV × Nat) → List MapEntry → Prop
 | [], l => l = []
 | (k, v, n) :: es, l => ∃ E Es, l = E :: Es ∧ k.rel μ E.key ∧ v.rel μ E.val ∧ E.born = n ∧ relM μ es Es
theorem relM.mono {μ μ' : Ren} (h : Ren.le μ μ') : ∀ {es : List (AV × AV × Nat)} {l : List MapEntry}, relM μ es l → relM μ' es l
 | [], _, r => r
 | (k, v, n) :: es, _, ⟨E, Es, h1, h2, h3, h4, h5⟩ => ⟨E, Es, h1, AV.rel.mono h _ _ h2, AV.rel.mono h _ _ h3, h4, h5.mono h⟩
def relO (μ : Ren) : Option Nat → Option Nat → Prop
 | none, m => m = none
 | some b, m => ∃ e : ME, μ[b]? = some e ∧ m = some e.r
theorem relO.mono {μ μ' : Ren} (h : Ren.le μ μ') : ∀ {b m : Option Nat}, relO μ b m → relO μ' b m
 | none, _, r => r
 | some _, _, ⟨e, he, hm⟩ => ⟨e, h _ _ he, hm⟩
def isTC : AV → Bool
 | .iface _ (.tup _) => true
 | .iface _ (.agg _) => true
 | _ => false
def bxRel (μ : Ren) (n : Nat) (C : Array Value) (t : TypeId) (v : AV) : Prop :=
 (isTC v = false ∧ ∃ y, C = #[y] ∧ v.rel μ y) ∨ ∃ cs, (v = .iface t (.tup cs) ∧ relL μ cs C.toList) ∨ (v = .iface t (.agg cs) ∧ (cs.length ≤ C.size ∧ C.size = n) ∧ relL μ cs (C.toList.take cs.length))
theorem bxRel.mono {μ μ' : Ren} (h : Ren.le μ μ') {n : Nat} {C : Array Value} {t : TypeId} {v : AV} (r : bxRel μ n C t v) : bxRel μ' n C t v := by
 rcases r with ⟨h0, y, h1, h2⟩ | ⟨cs, ⟨h1, h2⟩ | ⟨h1, h3, h2⟩⟩
 ·exact .inl ⟨h0, y, h1, AV.rel.mono h _ _ h2⟩
 ·exact .inr ⟨cs, .inl ⟨h1, relL.mono h _ _ h2⟩⟩
 ·exact .inr ⟨cs, .inr ⟨h1, h3, relL.mono h _ _ h2⟩⟩
def BlkRel (μ : Ren) (w : World) (e : ME) : Blk → Prop
 | .dead => True
 | .cells c rw => ∃ C t fz, w.heap[e.r]? = some (.cells C t fz) ∧ C.size = e.s + e.n ∧ c.length ≤ e.n ∧ oneAll c = true ∧
   (∀ (i : Nat) (x : AV), c[i]? = some x → ∃ y, C[e.s + i]? = some y ∧ x.rel μ y) ∧ (rw = true → fz = (0, 0))
 | .mp es clock => ∃ ES, w.heap[e.r]? = some (.map ES clock) ∧ relM μ es ES.toList
 | .gm g j => ∃ m, μ[j]? = some m ∧ m.r = g ∧ m.s = 0
 | .bx v => e.s = 0 ∧ ∃ C t, w.heap[e.r]? = some (.cells C t (0, 0)) ∧ bxRel μ e.n C t v
 | .it m since seen last => e.s = 0 ∧ ∃ mm, w.heap[e.r]? = some (.mapIter mm since seen.toArray last) ∧ relO μ m mm
structure HRel (μ : Ren) (h : Heap) (w : World) : Prop where
 len : μ.length = h.length
 blk : ∀ (b : Nat) (B : Blk) (e : ME), h[b]? = some B → μ[b]? = some e → BlkRel μ w e B
 sep : ∀ (b1 b2 : Nat) (B1 B2 : Blk) (e1 e2 : ME), b1 ≠ b2 → h[b1]? = some B1 → h[b2]? = some B2 → B1.rw = true → B2.live = true → μ[b1]? = some e1 → μ[b2]? = some e2 → e1.r ≠ e2.r
 bnd : ∀ (b : Nat) (e : ME), μ[b]? = some e → e.r < w.heap.size
structure Evo (μ0 : Ren) (h0 : Heap) (w0 : World) (μ : Ren) (h : Heap) (w : World) : Prop where
 le : Ren.le μ0 μ
 hlen : h0.length ≤ h.length
 size : w0.heap.size ≤ w.heap.size
 frame : ∀ r, r < w0.heap.size → (∀ (b : Nat) (B : Blk) (e : ME), h0[b]? = some B → B.rw = true → μ0[b]? = some e → e.r ≠ r) → w.heap[r]? = w0.heap[r]?
 own : ∀ (b : Nat) (B : Blk) (e : ME), h[b]? = some B → B.rw = true → μ[b]? = some e → w0.heap.size ≤ e.r ∨ ∃ (b0 : Nat) (B0 : Blk) (e0 : ME), h0[b0]? = some B0 ∧ B0.rw = true ∧ μ0[b0]? = some e0 ∧ e0.r = e.r
 liv : ∀ (b : Nat) (B : Blk) (e : ME), h[b]? = some B → B.live = true → μ[b]? = some e → w0.heap.size ≤ e.r ∨ ∃ (b0 : Nat) (B0 : Blk) (e0 : ME), h0[b0]? = some B0 ∧ B0.live = true ∧ μ0[b0]? = some e0 ∧ e0.r = e.r
 os : w.os = w0.os
 tape : w.tape = w0.tape
 output : w.output = w0.output
theorem Evo.refl (μ : Ren) (h : Heap) (w : World) : Evo μ h w μ h w :=
 ⟨.refl _, Nat.le_refl _, Nat.le_refl _, fun _ _ _ => rfl, fun b B e hb hr he => .inr ⟨b, B, e, hb, hr, he, rfl⟩, fun b B e hb hr he => .inr ⟨b, B, e, hb, hr, he, rfl⟩, rfl, rfl, rfl⟩
theorem Evo.trans {μ0 μ1 μ2 : Ren} {h0 h1 h2 : Heap} {w0 w1 w2 : World} (a : Evo μ0 h0 w0 μ1 h1 w1) (b : Evo μ1 h1 w1 μ2 h2 w2) : Evo μ0 h0 w0 μ2 h2 w2 where
 le := a.le.trans b.le
 hlen := Nat.le_trans a.hlen b.hlen
 size := Nat.le_trans a.size b.size
 frame r hr hn := by
  rw [b.frame r (Nat.lt_of_lt_of_le hr a.size) ?_, a.frame r hr hn]
  intro k B e hk hB he
  rcases a.own k B e hk hB he with h | ⟨b0, B0, e0, h1, h2, h3, h4⟩
  ·omega
  ·rw [← h4]; exact hn _ _ _ h1 h2 h3
 own k B e hk hB he := by
  rcases b.own k B e hk hB he with h | ⟨b0, B0, e0, h1, h2, h3, h4⟩
  ·exact .inl (Nat.le_trans a.size h)
  ·rcases a.own b0 B0 e0 h1 h2 h3 with h | ⟨b1, B1, e1, g1, g2, g3, g4⟩
   ·exact .inl (by omega)
   ·exact .inr ⟨b1, B1, e1, g1, g2, g3, by omega⟩
 liv k B e hk hB he := by
  rcases b.liv k B e hk hB he with h | ⟨b0, B0, e0, h1, h2, h3, h4⟩
  ·exact .inl (Nat.le_trans a.size h)
  ·rcases a.liv b0 B0 e0 h1 h2 h3 with h | ⟨b1, B1, e1, g1, g2, g3, g4⟩
   ·exact .inl (by omega)
   ·exact .inr ⟨b1, B1, e1, g1, g2, g3, by omega⟩
 os := b.os.trans a.os
 tape := b.tape.trans a.tape
 output := b.output.trans a.output
structure LRel (w0 : World) (μ : Ren) (h : Heap) (lam : List Nat) (L : Locs) (w : World) : Prop where
 len : lam.length = L.length
 blk : ∀ (k : Nat) (c : List AV) (r : Nat), L[k]? = some c → lam[k]? = some r → ∃ C t fz, w.heap[r]? = some (.cells C t fz) ∧ relL μ c C.toList ∧ fz = (0, 0) ∧ oneAll c = true
 inj : ∀ (k1 k2 r : Nat), lam[k1]? = some r → lam[k2]? = some r → k1 = k2
 sep : ∀ (k r b : Nat) (B : Blk) (e : ME), lam[k]? = some r → h[b]? = some B → B.live = true → μ[b]? = some e → e.r ≠ r
 new : ∀ (k r : Nat), lam[k]? = some r → w0.heap.size ≤ r ∧ r < w.heap.size
def LV.rel (μ : Ren) (lam : List Nat) : LV → Value → Prop
 | .val x, v => x.rel μ v
 | .loc k o, v => ∃ r, lam[k]? = some r ∧ v = .pointer (some ⟨r, o, none⟩)
 | .top, _ => True
def lamLe (a b : List Nat) : Prop := ∀ (k r : Nat), a[k]? = some r → b[k]? = some r
theorem LV.rel.mono {μ μ' : Ren} {lam lam' : List Nat} (h : Ren.le μ μ') (hl : lamLe lam lam') {x : LV} {v : Value} (r : x.rel μ lam v) : x.rel μ' lam' v := by
 cases x with
 | val x => exact AV.rel.mono h x v r
 | loc k o => obtain ⟨q, hq, hv⟩ := r; exact ⟨q, hl _ _ hq, hv⟩
 | top => trivial
def ofV : Nat → Value → Option AV
 | 0, _ => none
 | _ + 1, .int k n => some (.int k n)
 | _ + 1, .bool b => some (.bool b)
 | _ + 1, .string s => some (.str s.data.toList)
 | _ + 1, .pointer none => some (.ptr none)
 | _ + 1, .slice none 0 0 => some (.sl none)
 | _ + 1, .map none => some (.map none)
 | _ + 1, .nilFunc => some .nilfunc
 | _ + 1, .nilIface => some .niliface
 | n + 1, .iface t v => (ofV n v).map (.iface t)
 | n + 1, .agg cs => (cs.toList.mapM (ofV n)).map .agg
 | n + 1, .tuple cs => (cs.toList.mapM (ofV n)).map .tup
 | _ + 1, _ => none
theorem relL_of_mapM {μ : Ren} {f : Value → Option AV} (hf : ∀ v x, f v = some x → x.rel μ v) : ∀ (l : List Value) (xs : List AV), l.mapM f = some xs → relL μ xs l
 | [], xs, h => by simp at h; subst h; rfl
 | v :: l, xs, h => by
  simp only [List.mapM_cons, Option.bind_eq_bind, Option.pure_def, Option.bind_eq_some_iff] at h
  obtain ⟨x, hx, xs', hxs, h'⟩ := h
  cases h'
  exact ⟨v, l, rfl, hf _ _ hx, relL_of_mapM hf l _ hxs⟩
theorem ofV_rel (μ : Ren) : ∀ (n : Nat) (v : Value) (x : AV), ofV n v = some x → x.rel μ v
 | 0, _, _, h => by simp [ofV] at h
 | n + 1, v, x, h => by
  have ih := fun v x => ofV_rel μ n v x
  unfold ofV at h
  split at h <;> first
   | (cases h; done)
   | (cases h; simp only [AV.rel]; done)
   | (rename_i hh; cases hh; simp only [Option.map_eq_some_iff] at h; obtain ⟨y, hy, rfl⟩ := h; first | exact ⟨_, rfl, ih _ _ hy⟩ | exact ⟨_, rfl, relL_of_mapM ih _ _ hy⟩)
end Go.Ab
namespace Go
def World.setBlk (w : World) (r : Nat) (o : Obj) : World := { w with heap := w.heap.setIfInBounds r o }
end Go
namespace Go.Ab
set_option linter.unusedSimpArgs false
set_option linter.unusedVariables false
def splice {α : Type} (c : List α) (o : Nat) (xs : List α) : List α := c.take o ++ xs ++ c.drop (o + xs.length)
theorem splice_length {α : Type} {c : List α} {o : Nat} {xs : List α} (h : o + xs.length ≤ c.length) : (splice c o xs).length = c.length := by
 simp [splice]; omega
theorem splice_get {α : Type} {c : List α} {o : Nat} {xs : List α} (h : o + xs.length ≤ c.length) (i : Nat) :
  (splice c o xs)[i]? = if i < o then c[i]? else if i < o + xs.length then xs[i - o]? else c[i]? := by
 unfold splice
 have ho : (c.take o).length = o := by simp; omega
 rw [List.append_assoc, List.getElem?_append, ho]
 split
 ·rename_i hi; rw [List.getElem?_take, if_pos hi]
 ·rename_i hi
  rw [List.getElem?_append]
  by_cases h2 : i < o + xs.length
  ·rw [if_pos (by omega), if_pos h2]
  ·rw [if_neg (by omega), if_neg h2, List.getElem?_drop]
   congr 1; omega
theorem splice_nil {α : Type} (c : List α) (o : Nat) : splice c o [] = c := by simp [splice]
theorem splice_cons {α : Type} {c : List α} {o : Nat} {x : α} {xs : List α} (h : o + (xs.length + 1) ≤ c.length) :
  splice (c.set o x) (o + 1) xs = splice c o (x :: xs) := by
 apply List.ext_getElem?
 intro i
 rw [splice_get (by simp; omega), splice_get (by simp; omega), List.getElem?_set]
 by_cases h1 : i < o
 ·rw [if_pos (by omega), if_pos h1, if_neg (by omega)]
 ·by_cases h2 : i = o
  ·subst h2
   simp
   omega
  ·rw [if_neg (by omega), if_neg h1, if_neg (show ¬ o = i by omega)]
   simp only [List.length_cons]
   by_cases h3 : i < o + (xs.length + 1)
   ·rw [if_pos (by omega), if_pos h3]
    obtain ⟨k, rfl⟩ : ∃ k, i = o + 1 + k := ⟨i - (o + 1), by omega⟩
    rw [show o + 1 + k - (o + 1) = k by omega, show o + 1 + k - o = k + 1 by omega]; simp
   ·rw [if_neg (by omega), if_neg h3]
theorem setBlk_same (w : World) (r : Nat) (o : Obj) (h : r < w.heap.size) : (w.setBlk r o).heap[r]? = some o := by
 simp [World.setBlk, h]
theorem setBlk_other (w : World) (r k : Nat) (o : Obj) (h : k ≠ r) : (w.setBlk r o).heap[k]? = w.heap[k]? := by
 simp [World.setBlk, Array.getElem?_setIfInBounds, Ne.symm h]
@[simp] theorem size_setBlk (w : World) (r : Nat) (o : Obj) : (w.setBlk r o).heap.size = w.heap.size := by simp [World.setBlk]
theorem heap_lt {w : World} {r : Nat} {o : Obj} (h : w.heap[r]? = some o) : r < w.heap.size := by
 rcases Nat.lt_or_ge r w.heap.size with h' | h'
 ·exact h'
 ·simp [Array.getElem?_eq_none h'] at h
theorem setCell_eq_setBlk {w : World} {r : Nat} {C : Array Value} {t : TypeId} {fz : Nat × Nat} (h : w.heap[r]? = some (.cells C t fz)) (j : Nat) (v : Value) :
  w.setCell ⟨r, j, none⟩ v = w.setBlk r (.cells (C.setIfInBounds j v) t fz) := by
 unfold World.setCell World.setBlk
 congr 1
 have hr := heap_lt h
 have hg : w.heap[r] = .cells C t fz := by simpa [Array.getElem?_eq_getElem hr] using h
 apply Array.ext_getElem?
 intro i
 rw [Array.getElem?_modify, Array.getElem?_setIfInBounds]
 by_cases hi : r = i
 ·subst hi
  simp [hr, hg]
 ·simp [hi]
theorem cell_at {w : World} {r : Nat} {C : Array Value} {t : TypeId} {fz : Nat × Nat} (h : w.heap[r]? = some (.cells C t fz)) (j : Nat) : w.cell? ⟨r, j, none⟩ = C[j]? := by
 simp [World.cell?, h]
theorem frozen_at {w : World} {r : Nat} {C : Array Value} {t : TypeId} {fz : Nat × Nat} (h : w.heap[r]? = some (.cells C t fz)) (j : Nat) :
  w.frozen? ⟨r, j, none⟩ = decide (fz.1 ≤ j ∧ j < fz.2) := by
 obtain ⟨a, b⟩ := fz
 simp [World.frozen?, h]
theorem add_addr (r o i : Nat) : (⟨r, o, none⟩ : Addr).add i = ⟨r, o + i, none⟩ := by
 unfold Addr.add
 split
 ·rename_i h; simp [h]
 ·rfl
theorem setBlk_setBlk (w : World) (r : Nat) (a b : Obj) : (w.setBlk r a).setBlk r b = w.setBlk r b := by
 simp [World.setBlk]
theorem run_storeCells {P : Program} : ∀ (vs : List Value) (w : World) (r o i : Nat) (C : Array Value) (t : TypeId) (fz : Nat × Nat),
  w.heap[r]? = some (.cells C t fz) → o + i + vs.length ≤ C.size → (∀ v ∈ vs, v.oneCell' = true) → (∀ j, j < C.size → ¬ (fz.1 ≤ j ∧ j < fz.2)) →
  (storeCells ⟨r, o, none⟩ vs i).run P w = .ok () (w.setBlk r (.cells (splice C.toList (o + i) vs).toArray t fz))
 | [], w, r, o, i, C, t, fz, hw, hl, ho, hf => by
  simp only [storeCells, splice_nil]
  have : w.setBlk r (.cells C t fz) = w := by
   unfold World.setBlk
   have : w.heap.setIfInBounds r (.cells C t fz) = w.heap := by
    apply Array.ext_getElem?
    intro k
    rw [Array.getElem?_setIfInBounds]
    split
    ·rename_i hk; subst hk; rw [if_pos (heap_lt hw), hw]
    ·rfl
   rw [this]
  simp [this]
 | v :: vs, w, r, o, i, C, t, fz, hw, hl, ho, hf => by
  simp only [storeCells, List.length_cons] at *
  rw [Sem.run_bind, add_addr]
  have hc : w.cell? ⟨r, o + i, none⟩ = some C[o + i] := by
   rw [cell_at hw]; simp
  have hfr : w.frozen? ⟨r, o + i, none⟩ = false := by
   rw [frozen_at hw]; simpa using hf (o + i) (by omega)
  rw [run_store P w _ _ _ (ho v (by simp))]
  simp only [hc, hfr]
  simp only [Result.andThen_ok, if_false, Bool.false_eq_true]
  rw [setCell_eq_setBlk hw]
  have hlt := heap_lt hw
  have hw2 := setBlk_same w r (.cells (C.setIfInBounds (o + i) v) t fz) hlt
  have ih := run_storeCells (P := P) vs (w.setBlk r (.cells (C.setIfInBounds (o + i) v) t fz)) r o (i + 1) _ t fz hw2 (by simp; omega) (fun x hx => ho x (by simp [hx])) (fun j hj => hf j (by simpa using hj))
  rw [ih, setBlk_setBlk]
  congr 3
  rw [Array.toList_setIfInBounds, show o + (i + 1) = o + i + 1 by omega, splice_cons (by simp; omega)]
structure Rel (μ0 : Ren) (h0 : Heap) (w0 : World) (μ : Ren) (lam : List Nat) (L : Locs) (h : Heap) (w : World) : Prop where
 evo : Evo μ0 h0 w0 μ h w
 heap : HRel μ h w
 locs : LRel w0 μ h lam L w
theorem BlkRel.mono {μ μ' : Ren} {w : World} {e : ME} {B : Blk} (h : Ren.le μ μ') (r : BlkRel μ w e B) : BlkRel μ' w e B := by
 cases B with
 | dead => trivial
 | cells c rw =>
  obtain ⟨C, t, fz, h1, h2, h3, h3', h4, h5⟩ := r
  exact ⟨C, t, fz, h1, h2, h3, h3', fun i x hx => let ⟨y, hy, hr⟩ := h4 i x hx; ⟨y, hy, AV.rel.mono h _ _ hr⟩, h5⟩
 | mp es cl =>
  obtain ⟨ES, h1, h2⟩ := r
  exact ⟨ES, h1, h2.mono h⟩
 | it m since seen last =>
  obtain ⟨h0, mm, h1, h2⟩ := r
  exact ⟨h0, mm, h1, h2.mono h⟩
 | bx v =>
  obtain ⟨h0, y, t, h1, h2⟩ := r
  exact ⟨h0, y, t, h1, h2.mono h⟩
 | gm g j =>
  obtain ⟨m, h1, h2⟩ := r
  exact ⟨m, h _ _ h1, h2⟩
theorem BlkRel.world {μ : Ren} {w w' : World} {e : ME} {B : Blk} (hw : w'.heap[e.r]? = w.heap[e.r]?) (r : BlkRel μ w e B) : BlkRel μ w' e B := by
 cases B with
 | dead => trivial
 | cells c rw => obtain ⟨C, t, fz, h1, h2⟩ := r; exact ⟨C, t, fz, by rw [hw, h1], h2⟩
 | mp es cl => obtain ⟨ES, h1, h2⟩ := r; exact ⟨ES, by rw [hw, h1], h2⟩
 | it m since seen last => obtain ⟨h0, mm, h1, h2⟩ := r; exact ⟨h0, mm, by rw [hw, h1], h2⟩
 | bx v => obtain ⟨h0, y, t, h1, h2⟩ := r; exact ⟨h0, y, t, by rw [hw, h1], h2⟩
 | gm g j => exact r
theorem BlkRel.still {μ : Ren} {w w' : World} {e : ME} {B : Blk} (hB : B.live = false) (r : BlkRel μ w e B) : BlkRel μ w' e B := by
 cases B with
 | dead => trivial
 | gm g j => exact r
 | cells c rw => cases hB
 | mp es cl => cases hB
 | it m since seen last => cases hB
 | bx v => cases hB
theorem lt_of_get {α : Type} {l : List α} {i : Nat} {x : α} (h : l[i]? = some x) : i < l.length := by
 rcases Nat.lt_or_ge i l.length with h' | h'
 ·exact h'
 ·simp [List.getElem?_eq_none h'] at h
section
variable {μ0 : Ren} {h0 : Heap} {w0 : World} {μ : Ren} {lam : List Nat} {L : Locs} {h : Heap} {w : World}
theorem Rel.drawn (R : Rel μ0 h0 w0 μ lam L h w) {w' : World} (hh : w'.heap = w.heap) (h1 : w'.os = w.os) (h2 : w'.tape = w.tape) (h3 : w'.output = w.output) : Rel μ0 h0 w0 μ lam L h w' where
 evo := { R.evo with size := by rw [hh]; exact R.evo.size, frame := by rw [hh]; exact R.evo.frame, os := h1.trans R.evo.os, tape := h2.trans R.evo.tape, output := h3.trans R.evo.output }
 heap := ⟨R.heap.len, fun b B e hb he => (R.heap.blk b B e hb he).world (by rw [hh]), R.heap.sep, by rw [hh]; exact R.heap.bnd⟩
 locs := ⟨R.locs.len, by rw [hh]; exact R.locs.blk, R.locs.inj, R.locs.sep, by rw [hh]; exact R.locs.new⟩
theorem heap_push_old (w : World) (o : Obj) (k : Nat) (hk : k < w.heap.size) : (w.alloc o).heap[k]? = w.heap[k]? := by
 show (w.heap.push o)[k]? = _
 rw [Array.getElem?_push, if_neg (by omega)]
theorem heap_push_new (w : World) (o : Obj) : (w.alloc o).heap[w.heap.size]? = some o := by
 show (w.heap.push o)[_]? = _
 rw [Array.getElem?_push, if_pos rfl]
theorem Rel.extra (R : Rel μ0 h0 w0 μ lam L h w) (o : Obj) : Rel μ0 h0 w0 μ lam L h (w.alloc o) where
 evo := { R.evo with
  size := by have := R.evo.size; simp; omega
  frame := fun r hr hn => by rw [heap_push_old _ _ _ (Nat.lt_of_lt_of_le hr R.evo.size)]; exact R.evo.frame r hr hn
  os := R.evo.os, tape := R.evo.tape, output := R.evo.output }
 heap := ⟨R.heap.len, fun b B e hb he => (R.heap.blk b B e hb he).world (heap_push_old _ _ _ (R.heap.bnd b e he)), R.heap.sep, fun b e he => by have := R.heap.bnd b e he; simp; omega⟩
 locs := ⟨R.locs.len, fun k c r hc hr => by rw [heap_push_old _ _ _ (R.locs.new k r hr).2]; exact R.locs.blk k c r hc hr, R.locs.inj, R.locs.sep, fun k r hr => by have := R.locs.new k r hr; simp; omega⟩
theorem Rel.adopt (R : Rel μ0 h0 w0 μ lam L h w) (e : ME) (B : Blk)
  (hnew : w0.heap.size ≤ e.r ∨ ∃ (b0 : Nat) (B0 : Blk) (e0 : ME), h0[b0]? = some B0 ∧ B0.rw = true ∧ μ0[b0]? = some e0 ∧ e0.r = e.r) (hlt : e.r < w.heap.size)
  (hB : BlkRel (μ ++ [e]) w e B) (hfree : ∀ (b : Nat) (B : Blk) (e' : ME), h[b]? = some B → B.live = true → μ[b]? = some e' → e'.r ≠ e.r) (hloc : ∀ k : Nat, lam[k]? ≠ some e.r) :
  Rel μ0 h0 w0 (μ ++ [e]) lam L (h ++ [B]) w := by
 have hlen := R.heap.len
 have get : ∀ (b : Nat) (B' : Blk), (h ++ [B])[b]? = some B' → (b < h.length ∧ h[b]? = some B') ∨ (b = h.length ∧ B' = B) := by
  intro b B' hb
  rw [List.getElem?_append] at hb
  split at hb
  ·exact .inl ⟨by assumption, hb⟩
  ·have : b - h.length = 0 := by have := lt_of_get hb; simp at this; omega
   rw [this] at hb; simp at hb
   exact .inr ⟨by omega, hb.symm⟩
 have getm : ∀ (b : Nat) (e' : ME), (μ ++ [e])[b]? = some e' → (b < μ.length ∧ μ[b]? = some e') ∨ (b = μ.length ∧ e' = e) := by
  intro b e' hb
  rw [List.getElem?_append] at hb
  split at hb
  ·exact .inl ⟨by assumption, hb⟩
  ·have : b - μ.length = 0 := by have := lt_of_get hb; simp at this; omega
   rw [this] at hb; simp at hb
   exact .inr ⟨by omega, hb.symm⟩
 refine ⟨⟨R.evo.le.trans (Ren.le_append _ _), by have := R.evo.hlen; simp; omega, R.evo.size, R.evo.frame, ?_, ?_, R.evo.os, R.evo.tape, R.evo.output⟩, ⟨by simp [hlen], ?_, ?_, ?_⟩, ⟨R.locs.len, ?_, R.locs.inj, ?_, R.locs.new⟩⟩
 ·intro b B' e' hb hr he
  rcases get b B' hb with ⟨h1, h2⟩ | ⟨h1, rfl⟩ <;> rcases getm b e' he with ⟨g1, g2⟩ | ⟨g1, rfl⟩
  ·exact R.evo.own b B' e' h2 hr g2
  ·omega
  ·omega
  ·exact hnew
 ·intro b B' e' hb hr he
  rcases get b B' hb with ⟨h1, h2⟩ | ⟨h1, rfl⟩ <;> rcases getm b e' he with ⟨g1, g2⟩ | ⟨g1, rfl⟩
  ·exact R.evo.liv b B' e' h2 hr g2
  ·omega
  ·omega
  ·rcases hnew with h' | ⟨b0, B0, e0, k1, k2, k3, k4⟩
   ·exact .inl h'
   ·exact .inr ⟨b0, B0, e0, k1, by cases B0 <;> simp_all [Blk.rw, Blk.live], k3, k4⟩
 ·intro b B' e' hb he
  rcases get b B' hb with ⟨h1, h2⟩ | ⟨h1, rfl⟩ <;> rcases getm b e' he with ⟨g1, g2⟩ | ⟨g1, rfl⟩
  ·exact (R.heap.blk b B' e' h2 g2).mono (Ren.le_append _ _)
  ·omega
  ·omega
  ·exact hB
 ·intro b1 b2 B1 B2 e1 e2 hne hb1 hb2 hr hl he1 he2
  rcases get b1 B1 hb1 with ⟨h1, h2⟩ | ⟨h1, rfl⟩ <;> rcases getm b1 e1 he1 with ⟨g1, g2⟩ | ⟨g1, rfl⟩ <;>
   rcases get b2 B2 hb2 with ⟨h3, h4⟩ | ⟨h3, rfl⟩ <;> rcases getm b2 e2 he2 with ⟨g3, g4⟩ | ⟨g3, rfl⟩ <;> try omega
  ·exact R.heap.sep b1 b2 B1 B2 e1 e2 hne h2 h4 hr hl g2 g4
  ·exact hfree b1 B1 e1 h2 (by cases B1 <;> simp_all [Blk.rw, Blk.live]) g2
  ·exact (hfree b2 B2 e2 h4 hl g4).symm
 ·intro b e' he
  rcases getm b e' he with ⟨g1, g2⟩ | ⟨g1, rfl⟩
  ·exact R.heap.bnd b e' g2
  ·exact hlt
 ·intro k c r hc hr
  obtain ⟨C, t, fz, h1, h2, h3⟩ := R.locs.blk k c r hc hr
  exact ⟨C, t, fz, h1, relL.mono (Ren.le_append _ _) _ _ h2, h3⟩
 ·intro k r b B' e' hk hb hl he
  rcases get b B' hb with ⟨h1, h2⟩ | ⟨h1, rfl⟩ <;> rcases getm b e' he with ⟨g1, g2⟩ | ⟨g1, rfl⟩
  ·exact R.locs.sep k r b B' e' hk h2 hl g2
  ·omega
  ·omega
  ·intro h'; exact hloc k (by rw [hk, h'])
theorem Rel.alloc (R : Rel μ0 h0 w0 μ lam L h w) (c : List AV) (C : Array Value) (t : TypeId) (hl : c.length ≤ C.size) (ho : oneAll c = true)
  (hr : ∀ (i : Nat) (x : AV), c[i]? = some x → ∃ y, C[i]? = some y ∧ x.rel μ y) :
  Rel μ0 h0 w0 (μ ++ [⟨w.heap.size, 0, C.size⟩]) lam L (h ++ [.cells c true]) (w.alloc (.cells C t)) := by
 refine (R.extra (.cells C t)).adopt ⟨w.heap.size, 0, C.size⟩ (.cells c true) (.inl R.evo.size) (by simp) ?_ ?_ ?_
 ·refine ⟨C, t, (0, 0), heap_push_new _ _, by simp, hl, ho, fun i x hx => ?_, fun _ => rfl⟩
  obtain ⟨y, hy, hxy⟩ := hr i x hx
  exact ⟨y, by simpa using hy, AV.rel.mono (Ren.le_append _ _) _ _ hxy⟩
 ·intro b B e' _ _ he
  have := R.heap.bnd b e' he
  simp; omega
 ·intro k hk
  have := (R.locs.new k _ hk).2
  simp at this
theorem Rel.allocLoc (R : Rel μ0 h0 w0 μ lam L h w) (c : List AV) (C : Array Value) (t : TypeId) (hr : relL μ c C.toList) (ho : oneAll c = true) :
  Rel μ0 h0 w0 μ (lam ++ [w.heap.size]) (L ++ [c]) h (w.alloc (.cells C t)) := by
 have X := R.extra (.cells C t)
 have getm : ∀ (b e' : Nat), (lam ++ [w.heap.size])[b]? = some e' → (b < lam.length ∧ lam[b]? = some e') ∨ (b = lam.length ∧ e' = w.heap.size) := by
  intro b e' hb
  rw [List.getElem?_append] at hb
  split at hb
  ·exact .inl ⟨by assumption, hb⟩
  ·have : b - lam.length = 0 := by have := lt_of_get hb; simp at this; omega
   rw [this] at hb; simp at hb
   exact .inr ⟨by omega, hb.symm⟩
 have hlen := R.locs.len
 refine ⟨X.evo, X.heap, ⟨by simp [hlen], ?_, ?_, ?_, ?_⟩⟩
 ·intro k c' r hc hk
  rcases getm k r hk with ⟨g1, g2⟩ | ⟨g1, rfl⟩
  ·rw [List.getElem?_append_left (by omega)] at hc
   exact X.locs.blk k c' r hc g2
  ·rw [List.getElem?_append_right (by omega)] at hc
   have : k - L.length = 0 := by omega
   rw [this] at hc; simp at hc; subst hc
   exact ⟨C, t, (0, 0), heap_push_new _ _, hr, rfl, ho⟩
 ·intro k1 k2 r h1 h2
  rcases getm k1 r h1 with ⟨g1, g2⟩ | ⟨g1, g2⟩ <;> rcases getm k2 r h2 with ⟨g3, g4⟩ | ⟨g3, g4⟩
  ·exact R.locs.inj k1 k2 r g2 g4
  ·have := (R.locs.new k1 r g2).2; omega
  ·have := (R.locs.new k2 r g4).2; omega
  ·omega
 ·intro k r b B e hk hb hl he
  rcases getm k r hk with ⟨g1, g2⟩ | ⟨g1, rfl⟩
  ·exact R.locs.sep k r b B e g2 hb hl he
  ·have := R.heap.bnd b e he; omega
 ·intro k r hk
  rcases getm k r hk with ⟨g1, g2⟩ | ⟨g1, rfl⟩
  ·have := R.locs.new k r g2; simp; omega
  ·have := R.evo.size; simp; omega
theorem Rel.store (R : Rel μ0 h0 w0 μ lam L h w) {b : Nat} {c : List AV} {e : ME} (hb : h[b]? = some (.cells c true)) (he : μ[b]? = some e) {o : Nat} {xs : List AV} (ho : o + xs.length ≤ c.length)
  {vs : List Value} (hv : relL μ xs vs) (hox : oneAll xs = true) {C : Array Value} {t : TypeId} {fz : Nat × Nat} (hw : w.heap[e.r]? = some (.cells C t fz)) :
  Rel μ0 h0 w0 μ lam L (h.set b (.cells (splice c o xs) true)) (w.setBlk e.r (.cells (splice C.toList (e.s + o) vs).toArray t fz)) := by
 have hlt := heap_lt hw
 have hvl := hv.length
 obtain ⟨C1, t1, fz1, h1, h2, h3, h3', h4, h5⟩ := R.heap.blk b _ e hb he
 rw [hw] at h1; cases h1
 have hbl := lt_of_get hb
 have key : ∀ (b' : Nat) (B' : Blk), (h.set b (.cells (splice c o xs) true))[b']? = some B' → ∃ B0, h[b']? = some B0 ∧ B0.rw = B'.rw ∧ B0.live = B'.live := by
  intro b' B' hb'
  rw [List.getElem?_set] at hb'
  split at hb'
  ·rename_i heq; subst heq
   simp [hbl] at hb'; subst hb'
   exact ⟨_, hb, rfl, rfl⟩
  ·exact ⟨B', hb', rfl, rfl⟩
 refine ⟨⟨R.evo.le, by simpa using R.evo.hlen, by simpa using R.evo.size, ?_, ?_, ?_, R.evo.os, R.evo.tape, R.evo.output⟩, ⟨by simpa using R.heap.len, ?_, ?_, by simpa using R.heap.bnd⟩, ⟨R.locs.len, ?_, R.locs.inj, ?_, by simpa using R.locs.new⟩⟩
 ·intro r hr hn
  rcases R.evo.own b _ e hb rfl he with h6 | ⟨b0, B0, e0, g1, g2, g3, g4⟩
  ·rw [setBlk_other _ _ _ _ (by omega)]; exact R.evo.frame r hr hn
  ·rw [setBlk_other _ _ _ _ (by rw [← g4]; exact (hn _ _ _ g1 g2 g3).symm)]; exact R.evo.frame r hr hn
 ·intro b' B' e' hb' hr he'
  obtain ⟨B0, g1, g2, g3⟩ := key b' B' hb'
  exact R.evo.own b' B0 e' g1 (by rw [g2, hr]) he'
 ·intro b' B' e' hb' hr he'
  obtain ⟨B0, g1, g2, g3⟩ := key b' B' hb'
  exact R.evo.liv b' B0 e' g1 (by rw [g3, hr]) he'
 ·intro b' B' e' hb' he'
  by_cases heq : b' = b
  ·subst heq
   rw [he] at he'; cases he'
   rw [List.getElem?_set] at hb'
   simp [hbl] at hb'; subst hb'
   have hlen : (splice C.toList (e.s + o) vs).length = C.size := by rw [splice_length (by simp; omega)]; simp
   refine ⟨_, t, fz, setBlk_same _ _ _ hlt, by simp [hlen, h2], by rw [splice_length ho]; exact h3, oneAll_append (oneAll_append (oneAll_take h3' _) hox) (oneAll_drop h3' _), ?_, h5⟩
   intro i x hx
   rw [splice_get ho] at hx
   simp only [List.getElem?_toArray]
   rw [splice_get (by simp; omega)]
   by_cases g1 : i < o
   ·rw [if_pos g1] at hx
    rw [if_pos (by omega)]
    simpa using h4 i x hx
   ·rw [if_neg g1] at hx
    rw [if_neg (by omega)]
    by_cases g2 : i < o + xs.length
    ·rw [if_pos g2] at hx
     rw [if_pos (by omega), show e.s + i - (e.s + o) = i - o by omega]
     exact hv.get hx
    ·rw [if_neg g2] at hx
     rw [if_neg (by omega)]
     simpa using h4 i x hx
  ·rw [List.getElem?_set, if_neg (Ne.symm heq)] at hb'
   have hr0 := R.heap.blk b' B' e' hb' he'
   cases hB : B'.live with
   | false => exact hr0.still hB
   | true =>
    exact hr0.world (setBlk_other _ _ _ _ (R.heap.sep b b' _ B' e e' (Ne.symm heq) hb hb' rfl hB he he').symm)
 ·intro b1 b2 B1 B2 e1 e2 hne hb1 hb2 hr hl he1 he2
  obtain ⟨B1', g1, g2, g3⟩ := key b1 B1 hb1
  obtain ⟨B2', g4, g5, g6⟩ := key b2 B2 hb2
  exact R.heap.sep b1 b2 B1' B2' e1 e2 hne g1 g4 (by rw [g2, hr]) (by rw [g6, hl]) he1 he2
 ·intro k c' r hc hk
  rw [setBlk_other _ _ _ _ (Ne.symm (R.locs.sep k r b _ e hk hb rfl he))]
  exact R.locs.blk k c' r hc hk
 ·intro k r b' B' e' hk hb' hl he'
  obtain ⟨B0, g1, g2, g3⟩ := key b' B' hb'
  exact R.locs.sep k r b' B0 e' hk g1 (by rw [g3, hl]) he'
theorem Rel.setB (R : Rel μ0 h0 w0 μ lam L h w) {b : Nat} {B B' : Blk} {e : ME} (hb : h[b]? = some B) (hB : B.rw = true) (he : μ[b]? = some e) (hrw' : B'.rw = true) {o o1 : Obj} (hw : w.heap[e.r]? = some o1)
  (hn : BlkRel μ (w.setBlk e.r o) e B') : Rel μ0 h0 w0 μ lam L (h.set b B') (w.setBlk e.r o) := by
 have hlt := heap_lt hw
 have hbl := lt_of_get hb
 have hl : B.live = true := by cases B <;> simp_all [Blk.rw, Blk.live]
 have hl' : B'.live = true := by cases B' <;> simp_all [Blk.rw, Blk.live]
 have key : ∀ (b' : Nat) (B2 : Blk), (h.set b B')[b']? = some B2 → ∃ B0, h[b']? = some B0 ∧ (B2.rw = true → B0.rw = true) ∧ (B2.live = true → B0.live = true) := by
  intro b' B2 hb'
  rw [List.getElem?_set] at hb'
  split at hb'
  ·rename_i heq; subst heq
   simp [hbl] at hb'; subst hb'
   exact ⟨_, hb, fun _ => hB, fun _ => hl⟩
  ·exact ⟨B2, hb', id, id⟩
 refine ⟨⟨R.evo.le, by simpa using R.evo.hlen, by simpa using R.evo.size, ?_, ?_, ?_, R.evo.os, R.evo.tape, R.evo.output⟩, ⟨by simpa using R.heap.len, ?_, ?_, by simpa using R.heap.bnd⟩, ⟨R.locs.len, ?_, R.locs.inj, ?_, by simpa using R.locs.new⟩⟩
 ·intro r hr hn
  rcases R.evo.own b _ e hb hB he with h6 | ⟨b0, B0, e0, g1, g2, g3, g4⟩
  ·rw [setBlk_other _ _ _ _ (by omega)]; exact R.evo.frame r hr hn
  ·rw [setBlk_other _ _ _ _ (by rw [← g4]; exact (hn _ _ _ g1 g2 g3).symm)]; exact R.evo.frame r hr hn
 ·intro b' B2 e' hb' hr he'
  obtain ⟨B0, g1, g2, g3⟩ := key b' B2 hb'
  exact R.evo.own b' B0 e' g1 (g2 hr) he'
 ·intro b' B2 e' hb' hr he'
  obtain ⟨B0, g1, g2, g3⟩ := key b' B2 hb'
  exact R.evo.liv b' B0 e' g1 (g3 hr) he'
 ·intro b' B2 e' hb' he'
  by_cases heq : b' = b
  ·subst heq
   rw [he] at he'; cases he'
   rw [List.getElem?_set] at hb'
   simp [hbl] at hb'; subst hb'
   exact hn
  ·rw [List.getElem?_set, if_neg (Ne.symm heq)] at hb'
   have hr0 := R.heap.blk b' B2 e' hb' he'
   cases hB2 : B2.live with
   | false => exact hr0.still hB2
   | true => exact hr0.world (setBlk_other _ _ _ _ (R.heap.sep b b' _ B2 e e' (Ne.symm heq) hb hb' hB hB2 he he').symm)
 ·intro b1 b2 B1 B2 e1 e2 hne hb1 hb2 hr hlv he1 he2
  obtain ⟨B1', g1, g2, g3⟩ := key b1 B1 hb1
  obtain ⟨B2', g4, g5, g6⟩ := key b2 B2 hb2
  exact R.heap.sep b1 b2 B1' B2' e1 e2 hne g1 g4 (g2 hr) (g6 hlv) he1 he2
 ·intro k c' r hc hk
  rw [setBlk_other _ _ _ _ (Ne.symm (R.locs.sep k r b _ e hk hb hl he))]
  exact R.locs.blk k c' r hc hk
 ·intro k r b' B2 e' hk hb' hlv he'
  obtain ⟨B0, g1, g2, g3⟩ := key b' B2 hb'
  exact R.locs.sep k r b' B0 e' hk g1 (g3 hlv) he'
theorem Rel.allocB (R : Rel μ0 h0 w0 μ lam L h w) (B : Blk) (o : Obj) (n : Nat) (hr : BlkRel (μ ++ [⟨w.heap.size, 0, n⟩]) (w.alloc o) ⟨w.heap.size, 0, n⟩ B) :
  Rel μ0 h0 w0 (μ ++ [⟨w.heap.size, 0, n⟩]) lam L (h ++ [B]) (w.alloc o) := by
 refine (R.extra o).adopt ⟨w.heap.size, 0, n⟩ B (.inl R.evo.size) (by simp) hr ?_ ?_
 ·intro b B' e' _ _ he
  have := R.heap.bnd b e' he
  simp; omega
 ·intro k hk
  have := (R.locs.new k _ hk).2
  simp at this
theorem Rel.storeLoc (R : Rel μ0 h0 w0 μ lam L h w) {k : Nat} {c : List AV} {r : Nat} (hc : L[k]? = some c) (hk : lam[k]? = some r) {o : Nat} {xs : List AV} (ho : o + xs.length ≤ c.length)
  {vs : List Value} (hv : relL μ xs vs) (hox : oneAll xs = true) {C : Array Value} {t : TypeId} {fz : Nat × Nat} (hw : w.heap[r]? = some (.cells C t fz)) :
  Rel μ0 h0 w0 μ lam (L.set k (splice c o xs)) h (w.setBlk r (.cells (splice C.toList o vs).toArray t fz)) := by
 have hlt := heap_lt hw
 have hvl := hv.length
 obtain ⟨C1, t1, fz1, h1, h2, h3⟩ := R.locs.blk k c r hc hk
 rw [hw] at h1; cases h1
 have hcl := h2.length
 have hkl := lt_of_get hc
 have hnew := R.locs.new k r hk
 refine ⟨{ R.evo with size := by simpa using R.evo.size, frame := ?_, os := R.evo.os, tape := R.evo.tape, output := R.evo.output }, ⟨R.heap.len, ?_, R.heap.sep, by simpa using R.heap.bnd⟩, ⟨by simpa using R.locs.len, ?_, R.locs.inj, R.locs.sep, by simpa using R.locs.new⟩⟩
 ·intro q hq hn
  rw [setBlk_other _ _ _ _ (by omega)]; exact R.evo.frame q hq hn
 ·intro b B e hb he
  cases hB : B.live with
  | false => exact (R.heap.blk b B e hb he).still hB
  | true => exact (R.heap.blk b B e hb he).world (setBlk_other _ _ _ _ (R.locs.sep k r b B e hk hb hB he))
 ·intro k' c' r' hc' hk'
  by_cases heq : k' = k
  ·subst heq
   rw [hk] at hk'; cases hk'
   rw [List.getElem?_set] at hc'
   simp [hkl] at hc'; subst hc'
   have hCl : C.size = c.length := by simpa using hcl
   have hlen : (splice C.toList o vs).length = C.size := by rw [splice_length (by simp; omega)]; simp
   refine ⟨_, t, fz, setBlk_same _ _ _ hlt, ?_, h3.1, oneAll_append (oneAll_append (oneAll_take h3.2 _) hox) (oneAll_drop h3.2 _)⟩
   refine relL.of_get (by simp [hlen, splice_length ho, hCl]) fun i x y hx hy => ?_
   simp only at hy
   rw [splice_get ho] at hx
   rw [splice_get (by simp; omega)] at hy
   by_cases g1 : i < o
   ·rw [if_pos g1] at hx hy
    obtain ⟨y', q1, q2⟩ := h2.get hx
    rw [q1] at hy; cases hy; exact q2
   ·rw [if_neg g1] at hx hy
    by_cases g2 : i < o + xs.length
    ·rw [if_pos g2] at hx
     rw [if_pos (by omega)] at hy
     obtain ⟨y', q1, q2⟩ := hv.get hx
     rw [q1] at hy; cases hy; exact q2
    ·rw [if_neg g2] at hx
     rw [if_neg (by omega)] at hy
     obtain ⟨y', q1, q2⟩ := h2.get hx
     rw [q1] at hy; cases hy; exact q2
  ·rw [List.getElem?_set, if_neg (Ne.symm heq)] at hc'
   have hne : r' ≠ r := fun h' => heq (R.locs.inj k' k r (by rw [hk', h']) hk)
   rw [setBlk_other _ _ _ _ hne]
   exact R.locs.blk k' c' r' hc' hk'
theorem Rel.kill (R : Rel μ0 h0 w0 μ lam L h w) (b : Nat) : Rel μ0 h0 w0 μ lam L (h.set b .dead) w := by
 have key : ∀ (b' : Nat) (B' : Blk), (h.set b .dead)[b']? = some B' → B' = .dead ∨ h[b']? = some B' := by
  intro b' B' hb'
  rw [List.getElem?_set] at hb'
  split at hb'
  ·split at hb'
   ·cases hb'; exact .inl rfl
   ·cases hb'
  ·exact .inr hb'
 refine ⟨⟨R.evo.le, by simpa using R.evo.hlen, R.evo.size, R.evo.frame, ?_, ?_, R.evo.os, R.evo.tape, R.evo.output⟩, ⟨by simpa using R.heap.len, ?_, ?_, R.heap.bnd⟩, ⟨R.locs.len, R.locs.blk, R.locs.inj, ?_, R.locs.new⟩⟩
 ·intro b' B' e' hb' hr he'
  rcases key b' B' hb' with rfl | h'
  ·simp [Blk.rw] at hr
  ·exact R.evo.own b' B' e' h' hr he'
 ·intro b' B' e' hb' hr he'
  rcases key b' B' hb' with rfl | h'
  ·simp [Blk.live] at hr
  ·exact R.evo.liv b' B' e' h' hr he'
 ·intro b' B' e' hb' he'
  rcases key b' B' hb' with rfl | h'
  ·trivial
  ·exact R.heap.blk b' B' e' h' he'
 ·intro b1 b2 B1 B2 e1 e2 hne hb1 hb2 hr hl he1 he2
  rcases key b1 B1 hb1 with rfl | h1
  ·simp [Blk.rw] at hr
  ·rcases key b2 B2 hb2 with rfl | h2
   ·simp [Blk.live] at hl
   ·exact R.heap.sep b1 b2 B1 B2 e1 e2 hne h1 h2 hr hl he1 he2
 ·intro k r b' B' e' hk hb' hl he'
  rcases key b' B' hb' with rfl | h'
  ·simp [Blk.live] at hl
  ·exact R.locs.sep k r b' B' e' hk h' hl he'
theorem Rel.scratch (R : Rel μ0 h0 w0 μ lam L h w) (r : Nat) (o : Obj)
  (hown : w0.heap.size ≤ r ∨ ∃ (b0 : Nat) (B0 : Blk) (e0 : ME), h0[b0]? = some B0 ∧ B0.rw = true ∧ μ0[b0]? = some e0 ∧ e0.r = r)
  (hfree : ∀ (b : Nat) (B : Blk) (e' : ME), h[b]? = some B → B.live = true → μ[b]? = some e' → e'.r ≠ r) (hloc : ∀ k : Nat, lam[k]? ≠ some r) :
  Rel μ0 h0 w0 μ lam L h (w.setBlk r o) := by
 refine ⟨{ R.evo with size := by simpa using R.evo.size, frame := ?_, os := R.evo.os, tape := R.evo.tape, output := R.evo.output }, ⟨R.heap.len, ?_, R.heap.sep, by simpa using R.heap.bnd⟩, ⟨R.locs.len, ?_, R.locs.inj, R.locs.sep, by simpa using R.locs.new⟩⟩
 ·intro q hq hn
  rw [setBlk_other, R.evo.frame q hq hn]
  rcases hown with h' | ⟨b0, B0, e0, h1, h2, h3, h4⟩
  ·omega
  ·rw [← h4]; exact (hn _ _ _ h1 h2 h3).symm
 ·intro b B e hb he
  cases hB : B.live with
  | false => exact (R.heap.blk b B e hb he).still hB
  | true => exact (R.heap.blk b B e hb he).world (setBlk_other _ _ _ _ (hfree b B e hb hB he))
 ·intro k c q hc hq
  rw [setBlk_other _ _ _ _ (fun h' => hloc k (by rw [hq, h']))]
  exact R.locs.blk k c q hc hq
end
end Go.Ab
namespace Go.Ab
set_option linter.unusedSimpArgs false
set_option linter.unusedVariables false
def need (b : Bool) (A : Prop) : Prop := match b with | true => A | false => False
def exL : List AV → (List AV → Prop) → Prop
 | [], K => K []
 | .int k _ :: zs, K => ∃ n : Int, exL zs fun l => K (.int k n :: l)
 | .bool _ :: zs, K => ∃ b : Bool, exL zs fun l => K (.bool b :: l)
 | .str _ :: zs, K => ∃ s : List UInt8, exL zs fun l => K (.str s :: l)
 | .ptr _ :: zs, K => ∃ p : Option PA, exL zs fun l => K (.ptr p :: l)
 | .sl _ :: zs, K => ∃ s : Option SL, exL zs fun l => K (.sl s :: l)
 | .map _ :: zs, K => ∃ m : Option Nat, exL zs fun l => K (.map m :: l)
 | _ :: zs, K => ∃ v : AV, v.one = true ∧ exL zs fun l => K (v :: l)
def allL : List AV → (List AV → Prop) → Prop
 | [], K => K []
 | .int k _ :: zs, K => ∀ n : Int, allL zs fun l => K (.int k n :: l)
 | .bool _ :: zs, K => ∀ b : Bool, allL zs fun l => K (.bool b :: l)
 | .str _ :: zs, K => ∀ s : List UInt8, allL zs fun l => K (.str s :: l)
 | .ptr _ :: zs, K => ∀ p : Option PA, allL zs fun l => K (.ptr p :: l)
 | .sl _ :: zs, K => ∀ s : Option SL, allL zs fun l => K (.sl s :: l)
 | .map _ :: zs, K => ∀ m : Option Nat, allL zs fun l => K (.map m :: l)
 | _ :: zs, K => ∀ v : AV, v.one = true → allL zs fun l => K (v :: l)
def exT : List AV → (List AV → Prop) → Prop
 | [], K => K []
 | .agg zs :: vs, K => exL zs fun l => exT vs fun r => K (.agg l :: r)
 | z :: vs, K => exL [z] fun l => exT vs fun r => K (l ++ r)
def exV : AV → (AV → Prop) → Prop
 | .agg zs, K => exL zs fun l => K (.agg l)
 | .tup vs, K => exT vs fun l => K (.tup l)
 | z, K => exL [z] fun l => match l with | [x] => K x | _ => False
section
variable (P : Program)
def tsz (t : TypeId) : Nat := P.cellsOf t
def tbytes (t : TypeId) : Nat := P.bytesOf t
def tagg (t : TypeId) : Bool := match P.underlying t with | some (.struct _) | some (.array _ _) => true | _ => false
def tz (t : TypeId) : Option AV := ((P.info? t).bind (·.zero)).bind (ofV 4)
def telem (t : TypeId) : Option TypeId := match P.underlying t with | some (.slice e) => some e | _ => none
end
def cellsAt (h : Heap) (p : PA) (n : Nat) : Option (List AV) :=
 match h[p.b]? with
 | some (.cells c _) => if p.o + n ≤ c.length then some ((c.drop p.o).take n) else none
 | _ => none
def PLoad (z : AV) (h : Heap) (p : PA) (K : AV → Prop) : Prop := exV z fun v => cellsAt h p z.cells.length = some v.cells ∧ K v
def PStore (h : Heap) (p : PA) (xs : List AV) (K : Heap → Prop) : Prop :=
 match h[p.b]? with
 | some (.cells c true) => p.o + xs.length ≤ c.length ∧ K (h.set p.b (.cells (splice c p.o xs) true))
 | _ => False
def vPtr (q : Option PA) (K : PA → Prop) : Prop := match q with | some p => K p | none => False
def slLen (s : Option SL) : Nat := match s with | some s => s.len | none => 0
def vIdx (s : Option SL) (i : Int) (sz : Nat) (K : PA → Prop) : Prop :=
 match s with
 | some s => 0 ≤ i ∧ i < s.len ∧ K ⟨s.b, s.o + i.toNat * sz⟩
 | none => False
def slCells (h : Heap) (s : Option SL) (n : Nat) : Option (List AV) :=
 match s with
 | some s => cellsAt h ⟨s.b, s.o⟩ n
 | none => if n = 0 then some [] else none
def PAppend (sz bytes : Nat) (s : Option SL) (n : Nat) (xs : List AV) (h : Heap) (K : Option SL → Heap → Prop) : Prop :=
 xs.length = n * sz ∧
 match s with
 | none =>
  if n = 0 then K none h
  else n * bytes ≤ 140737488355328 ∧ 0 < sz ∧ K (some ⟨h.length, 0, n, n, sz⟩) (h ++ [.cells xs true])
 | some s =>
  if s.len + n ≤ s.cap then
   match h[s.b]? with
   | some (.cells c true) => s.o + s.len * sz + xs.length ≤ c.length ∧ K (some { s with len := s.len + n }) (h.set s.b (.cells (splice c (s.o + s.len * sz) xs) true))
   | _ => n = 0 ∧ K (some s) h
  else
   (s.len + n) * bytes ≤ 140737488355328 ∧ 0 < sz ∧
   match cellsAt h ⟨s.b, s.o⟩ (s.len * sz), h[s.b]? with
   | some old, some (.cells _ rw) =>
    if s.opn = 0 then K (some ⟨h.length, 0, s.len + n, s.len + n, sz⟩) (h ++ [.cells (old ++ xs) true])
    else rw = true ∧ s.opn = sz ∧ K (some ⟨h.length, 0, s.len + n, s.len + n, sz⟩) (h.set s.b .dead ++ [.cells (old ++ xs) true])
   | _, _ => False
def PCopy (sz : Nat) (s : Option SL) (n : Nat) (xs : List AV) (h : Heap) (K : Heap → Prop) : Prop :=
 xs.length = n * sz ∧
 match s with
 | none => n = 0 ∧ K h
 | some s => n ≤ s.len ∧ PStore h ⟨s.b, s.o⟩ xs K
def byteAVs (l : List UInt8) : List AV := l.map fun b => .int .u8 b.toNat
def maxI : Int := 9223372036854775807
def PSlice (sz : Nat) (s : Option SL) (lo : Int) (hi mx : Option Int) (K : Option SL → Prop) : Prop :=
 match s with
 | none => lo = 0 ∧ (hi.getD 0) = 0 ∧ (mx.getD 0) = 0 ∧ K none
 | some s =>
  (s.opn = 0 ∨ s.opn = sz) ∧ 0 ≤ lo ∧ lo ≤ hi.getD s.len ∧ hi.getD s.len ≤ mx.getD s.cap ∧ mx.getD s.cap ≤ s.cap ∧
   K (some ⟨s.b, s.o + lo.toNat * sz, (hi.getD s.len - lo).toNat, (mx.getD s.cap - lo).toNat, if mx.isNone then s.opn else 0⟩)
def strSlice (s : List UInt8) (lo : Int) (hi : Option Int) (K : List UInt8 → Prop) : Prop :=
 0 ≤ lo ∧ lo ≤ hi.getD s.length ∧ hi.getD s.length ≤ s.length ∧ K ((s.take (hi.getD s.length).toNat).drop lo.toNat)
def bytesLess : List UInt8 → List UInt8 → Bool := Op.bytesLess
def wrapK (k : IntKind) (n : Int) : Int := k.wrap n
def bitsAnd (k : IntKind) (x y : Int) : Int := k.wrap (BitVec.ofInt k.bits x &&& BitVec.ofInt k.bits y).toNat
def bitsOr (k : IntKind) (x y : Int) : Int := k.wrap (BitVec.ofInt k.bits x ||| BitVec.ofInt k.bits y).toNat
def bitsXor (k : IntKind) (x y : Int) : Int := k.wrap (BitVec.ofInt k.bits x ^^^ BitVec.ofInt k.bits y).toNat
def bitsAndNot (k : IntKind) (x y : Int) : Int := k.wrap (BitVec.ofInt k.bits x &&& ~~~BitVec.ofInt k.bits y).toNat
def shlK (k : IntKind) (x y : Int) : Int := k.wrap (x * 2 ^ min y.toNat k.bits)
def shrK (k : IntKind) (x y : Int) : Int := x.fdiv (2 ^ min y.toNat k.bits)
def aInt (op : BinOp) (k : IntKind) (a b : Int) (K : AV → Prop) : Prop :=
 match op with
 | .add => K (.int k (wrapK k (a + b)))
 | .sub => K (.int k (wrapK k (a - b)))
 | .mul => K (.int k (wrapK k (a * b)))
 | .quo => need (!(b == 0)) (K (.int k (wrapK k (a.tdiv b))))
 | .rem => need (!(b == 0)) (K (.int k (a.tmod b)))
 | .and => K (.int k (bitsAnd k a b))
 | .or => K (.int k (bitsOr k a b))
 | .xor => K (.int k (bitsXor k a b))
 | .andNot => K (.int k (bitsAndNot k a b))
 | .eql => K (.bool (a == b))
 | .neq => K (.bool (a != b))
 | .lss => K (.bool (decide (a < b)))
 | .leq => K (.bool (decide (a ≤ b)))
 | .gtr => K (.bool (decide (a > b)))
 | .geq => K (.bool (decide (a ≥ b)))
 | _ => False
def aStr (op : BinOp) (a b : List UInt8) (K : AV → Prop) : Prop :=
 match op with
 | .add => need (decide (a.length + b.length ≤ 9223372036854775807)) (K (.str (a ++ b)))
 | .eql => K (.bool (a == b))
 | .neq => K (.bool (!(a == b)))
 | .lss => K (.bool (bytesLess a b))
 | .leq => K (.bool (bytesLess a b || a == b))
 | .gtr => K (.bool (!(bytesLess a b || a == b)))
 | .geq => K (.bool (!bytesLess a b))
 | _ => False
def eqFs (P : Program) (eqT : TypeId → List AV → List AV → (Bool → List AV → List AV → Prop) → Prop) : List Field → Nat → List AV → List AV → (Bool → List AV → List AV → Prop) → Prop
 | [], _, xs, ys, K => K true xs ys
 | f :: fs, off, xs, ys, K =>
  need (f.offset == off && f.name != "_" && decide (0 < tsz P f.type) && decide (tsz P f.type ≤ xs.length) && decide (tsz P f.type ≤ ys.length) && (P.info? f.type).isSome && (P.underlying f.type).isSome)
   (eqT f.type xs ys fun b xs' ys' => eqFs P eqT fs (off + tsz P f.type) xs' ys' fun r xs'' ys'' => K (b && r) xs'' ys'')
def eqT (P : Program) : Nat → TypeId → List AV → List AV → (Bool → List AV → List AV → Prop) → Prop
 | 0, _, _, _, _ => False
 | n + 1, t, xs, ys, K =>
  match P.underlying t, xs, ys with
  | some (.int _), .int k a :: xs, .int k' b :: ys => need (decide (k = k') && tsz P t == 1) (K (a == b) xs ys)
  | some .bool, .bool a :: xs, .bool b :: ys => need (tsz P t == 1) (K (a == b) xs ys)
  | some .string, .str a :: xs, .str b :: ys => need (tsz P t == 1) (K (a == b) xs ys)
  | some (.struct fs), xs, ys =>
   need (!P.stoodInHeld t) (eqFs P (eqT P n) fs.toList 0 (xs.take (tsz P t)) (ys.take (tsz P t)) fun b xs' ys' => need (xs'.isEmpty && ys'.isEmpty) (K b (xs.drop (tsz P t)) (ys.drop (tsz P t))))
  | _, _, _ => False
def ptrEq (h : Heap) (p q : PA) (K : Bool → Prop) : Prop :=
 if p.b = q.b then K (p.o == q.o)
 else match h[p.b]?, h[q.b]? with
  | some (.cells _ true), some (.cells _ true) => K false
  | _, _ => False
def aEq (P : Program) (t : TypeId) (h : Heap) (x y : AV) (K : Bool → Prop) : Prop :=
 match P.underlying t, x, y with
 | some .bool, .bool a, .bool b => K (a == b)
 | some (.struct _), .agg xs, .agg ys => need (!P.eqGuardType P.depth t && xs.length == tsz P t && ys.length == tsz P t) (eqT P 50 t xs ys fun b _ _ => K b)
 | some (.pointer _), .ptr p, .ptr none => K p.isNone
 | some (.pointer _), .ptr none, .ptr (some _) => K false
 | some (.pointer e), .ptr (some p), .ptr (some q) => need (decide (0 < tsz P e)) (ptrEq h p q K)
 | some (.slice _), .sl s, .sl none => K s.isNone
 | some (.map _ _), .map s, .map none => K s.isNone
 | some (.func _ _ _), .nilfunc, .nilfunc => K true
 | some (.func _ _ _), .func _ _ _, .nilfunc => K false
 | _, _, _ => False
def aIntS (op : BinOp) (k : IntKind) (a : Int) (k' : IntKind) (b : Int) (K : AV → Prop) : Prop :=
 match op with
 | .shl => need (decide (0 ≤ b)) (K (.int k (shlK k a b)))
 | .shr => need (decide (0 ≤ b)) (K (.int k (shrK k a b)))
 | op => need (decide (k = k')) (aInt op k a b K)
def aCmp (P : Program) (op : BinOp) (t : TypeId) (h : Heap) (x y : AV) (K : AV → Prop) : Prop :=
 match op with
 | .eql => aEq P t h x y fun b => K (.bool b)
 | .neq => aEq P t h x y fun b => K (.bool (!b))
 | _ => False
def aBin (P : Program) (op : BinOp) (t : TypeId) (h : Heap) (x y : AV) (K : AV → Prop) : Prop :=
 match x, y with
 | .int k a, .int k' b => aIntS op k a k' b K
 | .str a, .str b => aStr op a b K
 | x, y => aCmp P op t h x y K
theorem aBin_else {P : Program} {op : BinOp} {t : TypeId} {h : Heap} {x y : AV} {K : AV → Prop} (h1 : ∀ k a k' b, x = .int k a → y = .int k' b → False) (h2 : ∀ a b, x = .str a → y = .str b → False) :
  aBin P op t h x y K = aCmp P op t h x y K := by
 cases x <;> cases y <;> first | rfl | exact (h1 _ _ _ _ rfl rfl).elim | exact (h2 _ _ rfl rfl).elim
def aUn (op : UnOp) (x : AV) (K : AV → Prop) : Prop :=
 match op, x with
 | .neg, .int k n => K (.int k (wrapK k (0 - n)))
 | .xor, .int k n => K (.int k (bitsXor k (if k.signed then -1 else k.max) n))
 | .not, .bool b => K (.bool (!b))
 | _, _ => False
def fieldOff (P : Program) (s : TypeId) (f : Nat) : Option (Nat × TypeId) :=
 match P.underlying s with
 | some (.struct fs) => (fs[f]?).map fun f => (f.offset, f.type)
 | _ => none
def ev (ρ : List LV) : Operand → LV
 | .tmp t => ρ.getD t .top
 | .const v => match ofV 4 v with | some x => .val x | none => .top
 | .global _ => .top
 | .func f => .val (.func (.func f) [] [])
def vals (ρ : List LV) : List Operand → Option (List AV)
 | [] => some []
 | o :: os => match ev ρ o, vals ρ os with
  | .val x, some l => some (x :: l)
  | _, _ => none
def fillA (place : Nat → Option (Nat × Nat)) (cells : List AV) : List (Nat × AV) → Option (List AV)
 | [] => some cells
 | (i, v) :: rest =>
  match place i with
  | none => none
  | some (off, size) => if v.cells.length ≠ size ∨ off + v.cells.length > cells.length then none else fillA place (splice cells off v.cells) rest
def partsA (ρ : List LV) (ps : Array (Nat × Operand)) : Option (List (Nat × AV)) :=
 (vals ρ (ps.toList.map (·.2))).map fun l => (ps.toList.map (·.1)).zip l
abbrev CallH := FuncId → List AV → Heap → (AV → Heap → Prop) → Prop
abbrev KO := LV → Locs → Heap → Prop
def vif (b : Bool) (A B : Prop) : Prop := match b with | true => A | false => B
def evI (ρ : List LV) (x : Operand) : Option Int := match ev ρ x with | .val (.int _ n) => some n | _ => none
def optI (ρ : List LV) : Option Operand → Option (Option Int)
 | none => some none
 | some x => (evI ρ x).map some
def isAgg : AV → Bool | .agg _ => true | _ => false
def isTup : AV → Bool | .tup _ => true | _ => false
def okTy (P : Program) (t : TypeId) (z : AV) : Bool := z.cells.length == tsz P t && isAgg z == tagg P t && (P.underlying t).isSome && !isTup z
def noTups (l : List (Nat × AV)) : Bool := l.all fun p => !isTup p.2
def part (z : AV) (c : List AV) (o : Nat) (K : AV → Prop) : Prop :=
 match isAgg z with
 | true => need (decide (o + z.cells.length ≤ c.length)) (K (.agg ((c.drop o).take z.cells.length)))
 | false => match c[o]? with | some v => K v | none => False
def strIdx (s : List UInt8) (i : Int) (K : AV → Prop) : Prop := 0 ≤ i ∧ match s[i.toNat]? with | some b => K (.int .u8 b.toNat) | none => False
def PStr (h : Heap) (s : Option SL) (K : List UInt8 → Prop) : Prop := ∃ l : List UInt8, slCells h s (slLen s) = some (byteAVs l) ∧ K l
def PAppendS (sz bytes : Nat) (s src : Option SL) (h : Heap) (K : Option SL → Heap → Prop) : Prop :=
 ∃ xs, slCells h src (slLen src * sz) = some xs ∧ PAppend sz bytes s (slLen src) xs h K
def PCopyS (sz : Nat) (s src : Option SL) (h : Heap) (K : Int → Heap → Prop) : Prop :=
 ∃ xs, slCells h src (min (slLen src) (slLen s) * sz) = some xs ∧ PCopy sz s (min (slLen src) (slLen s)) xs h fun h' => K (min (slLen src) (slLen s) : Nat) h'
def PMake (zs : List AV) (bytes : Nat) (l c : Int) (h : Heap) (K : Option SL → Heap → Prop) : Prop :=
 0 ≤ l ∧ l ≤ c ∧ c * bytes ≤ 281474976710656 ∧ c ≤ maxI ∧ K (some ⟨h.length, 0, l.toNat, c.toNat, 0⟩) (h ++ [.cells (List.replicate c.toNat zs).flatten true])
def fnY : Fn → Bool | .yield _ => true | _ => false
def vCallV (call : CallH) (f : AV) (args : List AV) (h : Heap) (Q : AV → Heap → Prop) : Prop :=
 match f with
 | .func (.func g) first cap => (match Nat.beq g 1000000000 with | true => False | false => call g (first ++ args ++ cap) h Q)
 | .func (.yield l) first cap => call 1000000000 (.func (.yield l) first cap :: args) h Q
 | _ => False
def methodOf (P : Program) (t : TypeId) (name : String) : Option FuncId :=
 match P.info? t with
 | none => none
 | some i =>
  match i.methods.find? (·.name == name) with
  | some m =>
   if m.path.isEmpty then
    match m.func, P.underlying t with
    | some (g, true), some (.pointer _) => some g
    | some (g, false), some (.pointer _) => none
    | some (g, false), some _ => some g
    | _, _ => none
   else none
  | none => none
def methodAt (P : Program) (t : TypeId) (name : String) : Option (FuncId × TypeId) :=
 match P.info? t with
 | none => none
 | some i =>
  match i.methods.find? (·.name == name) with
  | some m =>
   if m.path.isEmpty then
    match m.func, P.underlying t with
    | some (g, false), some (.pointer e) => some (g, e)
    | _, _ => none
   else none
  | none => none
def vInvoke (P : Program) (call : CallH) (r : AV) (name : String) (args : List AV) (h : Heap) (Q : AV → Heap → Prop) : Prop :=
 match r with
 | .iface t v => match methodOf P t name with
  | some g => (match Nat.beq g 1000000000 with | true => False | false => call g (v :: args) h Q)
  | none => match methodAt P t name, v with
   | some (g, e), .ptr (some p) => (match tz P e with
    | some z => (match okTy P e z with | true => PLoad z h p fun v => (match Nat.beq g 1000000000 with | true => False | false => call g (v :: args) h Q) | false => False)
    | none => False)
   | _, _ => False
 | _ => False
def vCallF (P : Program) (call : CallH) (f : AV) (args : List AV) (h : Heap) (Q : AV → Heap → Prop) : Prop :=
 match f with
 | .func (.method name) [r] _ => vInvoke P call r name args h Q
 | f => vCallV call f args h Q
def minI (a b : Int) : Int := if b < a then b else a
def maxI2 (a b : Int) : Int := if b > a then b else a
def minL : List AV → (AV → Prop) → Prop
 | [.int k a], K => K (.int k a)
 | [.int k a, .int k' b], K => need (decide (k = k')) (K (.int k (minI a b)))
 | [.int k a, .int k' b, .int k2 c], K => need (decide (k = k') && decide (k = k2)) (K (.int k (minI (minI a b) c)))
 | _, _ => False
def maxL : List AV → (AV → Prop) → Prop
 | [.int k a], K => K (.int k a)
 | [.int k a, .int k' b], K => need (decide (k = k')) (K (.int k (maxI2 a b)))
 | _, _ => False
def isU8 (P : Program) (t : TypeId) : Bool := match P.underlying t with | some (.int .u8) => true | _ => false
def isIntT (P : Program) (t : TypeId) : Bool := match P.underlying t with | some (.int _) => true | _ => false
def isStrT (P : Program) (t : TypeId) : Bool := match P.underlying t with | some .string => true | _ => false
def zcells (P : Program) (t : TypeId) : Option (List AV) := match tz P t with | some z => if okTy P t z then some z.cells else none | none => none
def keyIs1 (P : Program) (t : TypeId) (a b : AV) : Option Bool :=
 match P.underlying t, a, b with
 | some (.int _), .int k x, .int k' y => (match decide (k = k') with | true => some (x == y) | false => none)
 | some .string, .str x, .str y => some (x == y)
 | some .bool, .bool x, .bool y => some (x == y)
 | _, _, _ => none
def keyOk1 (P : Program) (t : TypeId) (a : AV) : Bool :=
 match P.underlying t, a with
 | some (.int q), .int q' _ => decide (q = q')
 | some .string, .str _ => true
 | some .bool, .bool _ => true
 | _, _ => false
def keysIs (P : Program) : List Field → Nat → List AV → List AV → Option Bool
 | [], _, [], [] => some true
 | f :: fs, off, x :: xs, y :: ys => (match f.offset == off && f.name != "_", keyIs1 P f.type x y, keysIs P fs (off + 1) xs ys with
  | true, some b, some r => some (b && r)
  | _, _, _ => none)
 | _, _, _, _ => none
def keysOk (P : Program) : List Field → Nat → List AV → Bool
 | [], _, [] => true
 | f :: fs, off, x :: xs => f.offset == off && (f.name != "_" && (keyOk1 P f.type x && keysOk P fs (off + 1) xs))
 | _, _, _ => false
def keysIs2 (P : Program) : List Field → Nat → List AV → List AV → Option Bool
 | [], _, [], [] => some true
 | [], _, _, _ => none
 | f :: fs, off, xs, ys => (match f.offset == off && f.name != "_" with
  | false => none
  | true => (match P.underlying f.type with
   | some (.struct gs) => (match P.stoodInHeld f.type || ((P.info? f.type).isNone || !(Nat.ble (tsz P f.type) xs.length && Nat.ble (tsz P f.type) ys.length)) with
    | true => none
    | false => (match keysIs P gs.toList 0 (xs.take (tsz P f.type)) (ys.take (tsz P f.type)), keysIs2 P fs (off + tsz P f.type) (xs.drop (tsz P f.type)) (ys.drop (tsz P f.type)) with
     | some b, some r => some (b && r)
     | _, _ => none))
   | _ => (match xs, ys with
    | x :: xs, y :: ys => (match keyIs1 P f.type x y, keysIs2 P fs (off + 1) xs ys with
     | some b, some r => some (b && r)
     | _, _ => none)
    | _, _ => none)))
def keysOk2 (P : Program) : List Field → Nat → List AV → Bool
 | [], _, xs => xs.isEmpty
 | f :: fs, off, xs => f.offset == off && (f.name != "_" && (match P.underlying f.type with
  | some (.struct gs) => ((P.info? f.type).isSome && Nat.ble (tsz P f.type) xs.length) && (keysOk P gs.toList 0 (xs.take (tsz P f.type)) && keysOk2 P fs (off + tsz P f.type) (xs.drop (tsz P f.type)))
  | _ => (match xs with
   | x :: xs => keyOk1 P f.type x && keysOk2 P fs (off + 1) xs
   | [] => false)))
def keyS (P : Program) (kt : TypeId) (fs : Array Field) (xs ys : List AV) : Option Bool :=
 match P.stoodInHeld kt with
 | true => none
 | false => keysIs2 P fs.toList 0 xs ys
def keysA (P : Program) (e : TypeId) : List AV → List AV → Option Bool
 | [], [] => some true
 | x :: xs, y :: ys => (match keyIs1 P e x y, keysA P e xs ys with
  | some b, some r => some (b && r)
  | _, _ => none)
 | _, _ => none
def keysAOk (P : Program) (e : TypeId) : List AV → Bool
 | [] => true
 | x :: xs => keyOk1 P e x && keysAOk P e xs
def keysAS (P : Program) (gs : List Field) (s : Nat) : Nat → List AV → List AV → Option Bool
 | 0, [], [] => some true
 | 0, _, _ => none
 | n + 1, xs, ys => (match keysIs P gs 0 (xs.take s) (ys.take s), keysAS P gs s n (xs.drop s) (ys.drop s) with
  | some b, some r => some (b && r)
  | _, _ => none)
def keysASOk (P : Program) (gs : List Field) (s : Nat) : Nat → List AV → Bool
 | 0, xs => xs.isEmpty
 | n + 1, xs => keysOk P gs 0 (xs.take s) && keysASOk P gs s n (xs.drop s)
def keyA (P : Program) (n : Nat) (e : TypeId) (xs ys : List AV) : Option Bool :=
 match xs.length == n && (ys.length == n && tsz P e == 1) with
 | true => keysA P e xs ys
 | false => (match P.underlying e with
  | some (.struct gs) => (match P.stoodInHeld e || (P.info? e).isNone with
   | true => none
   | false => keysAS P gs.toList (tsz P e) n xs ys)
  | _ => none)
def keyIs (P : Program) (kt : TypeId) (a b : AV) (K : Bool → Prop) : Prop :=
 match P.underlying kt, a, b with
 | some (.int _), .int k x, .int k' y => need (decide (k = k')) (K (x == y))
 | some .string, .str x, .str y => K (x == y)
 | some .bool, .bool x, .bool y => K (x == y)
 | some (.struct fs), .agg xs, .agg ys => (match keyS P kt fs xs ys with | some b => K b | none => False)
 | some (.array n e), .agg xs, .agg ys => (match keyA P n e xs ys with | some b => K b | none => False)
 | _, _, _ => False
def keyOk (P : Program) (kt : TypeId) (a : AV) : Bool :=
 match P.underlying kt, a with
 | some (.int q), .int q' _ => decide (q = q')
 | some .string, .str _ => true
 | some .bool, .bool _ => true
 | some (.struct fs), .agg xs => keysOk2 P fs.toList 0 xs
 | some (.array n e), .agg xs => (match xs.length == n && tsz P e == 1 with
  | true => keysAOk P e xs
  | false => (match P.underlying e with
   | some (.struct gs) => (P.info? e).isSome && keysASOk P gs.toList (tsz P e) n xs
   | _ => false))
 | _, _ => false
def findP (P : Program) (kt : TypeId) (k : AV) : List (AV × AV × Nat) → Nat → (Option (Nat × AV × Nat) → Prop) → Prop
 | [], _, K => K none
 | (k', v, n) :: es, i, K => keyIs P kt k k' fun b => vif b (K (some (i, v, n))) (findP P kt k es (i + 1) K)
def mapEs (h : Heap) : Option Nat → Option (List (AV × AV × Nat))
 | none => some []
 | some b => match h[b]? with | some (.mp es _) => some es | _ => none
def PLookup (P : Program) (kt et : TypeId) (m : Option Nat) (k : AV) (ok : Bool) (h : Heap) (K : AV → Prop) : Prop :=
 match mapEs h m, tz P et with
 | some es, some z => need (keyOk P kt k) (findP P kt k es 0 fun r => K (let v := (match r with | some (_, v, _) => v | none => z); match ok with | true => .tup [v, .bool r.isSome] | false => v))
 | _, _ => False
def PUpdate (P : Program) (kt : TypeId) (b : Nat) (k v : AV) (h : Heap) (K : Heap → Prop) : Prop :=
 match h[b]? with
 | some (.mp es cl) => need (keyOk P kt k && !isTup v) (findP P kt k es 0 fun r => match r with
  | some (i, _, n) => K (h.set b (.mp (es.set i (k, v, n)) cl))
  | none => K (h.set b (.mp (es ++ [(k, v, cl)]) (cl + 1))))
 | _ => False
def PEntryAt (P : Program) (kt et : TypeId) (b : Nat) (k : AV) (h : Heap) (K : AV → Nat → Heap → Prop) : Prop :=
 match h[b]?, tz P et with
 | some (.mp es cl), some z => need (keyOk P kt k) (findP P kt k es 0 fun r => match r with
  | some (i, v, n) => K v n (h.set b (.mp (es.set i (k, v, n)) cl))
  | none => K z cl (h.set b (.mp (es ++ [(k, z, cl)]) (cl + 1))))
 | _, _ => False
def PEntrySet (b : Nat) (n : Int) (v : AV) (h : Heap) (K : Heap → Prop) : Prop :=
 match h[b]? with
 | some (.mp es cl) => need (!isTup v) (match es.findIdx? (fun e => (e.2.2 : Int) == n) with
  | some i => K (h.set b (.mp (es.modify i fun e => (e.1, v, e.2.2)) cl))
  | none => False)
 | _ => False
def PDelete (P : Program) (kt : TypeId) (m : Option Nat) (k : AV) (h : Heap) (K : Heap → Prop) : Prop :=
 match m with
 | none => need (keyOk P kt k) (K h)
 | some b => match h[b]? with
  | some (.mp es cl) => need (keyOk P kt k) (findP P kt k es 0 fun r => match r with
   | some (i, _, _) => K (h.set b (.mp (es.eraseIdx i) cl))
   | none => K (h.set b (.mp es cl)))
  | _ => False
def allE : List (AV × AV × Nat) → (AV × AV × Nat → Prop) → Prop
 | [], _ => True
 | [e], K => K e
 | e :: es, K => K e ∧ allE es K
def leftE (es : List (AV × AV × Nat)) (seen : List Nat) : List (AV × AV × Nat) := es.filter fun e => !seen.contains e.2.2
def PNext (b : Nat) (h : Heap) (K : AV → Heap → Prop) : Prop :=
 match h[b]? with
 | some (.it none _ _ _) => K (.tup [.bool false]) h
 | some (.it (some m) since seen last) => (match h[m]? with
  | some (.mp es cl) => need (es.all fun e => decide (e.2.2 < since) && decide (e.2.2 < last)) (match leftE es seen with
   | [] => K (.tup [.bool false]) h
   | l => allE l fun e => K (.tup [.bool true, e.1, e.2.1]) (h.set b (.it (some m) since (seen ++ [e.2.2]) cl)))
  | _ => False)
 | _ => False
def PNext2 (b : Nat) (h : Heap) (KE : Heap → Prop) (KN : AV → AV → Heap → Prop) : Prop :=
 match h[b]? with
 | some (.it none _ _ _) => KE h
 | some (.it (some m) since seen last) => (match h[m]? with
  | some (.mp es cl) => need (es.all fun e => decide (e.2.2 < since) && decide (e.2.2 < last)) (match leftE es seen with
   | [] => KE h
   | l => allE l fun e => KN e.1 e.2.1 (h.set b (.it (some m) since (seen ++ [e.2.2]) cl)))
  | _ => False)
 | _ => False
def entryZ (P : Program) (isLoc : Nat → Bool) (d : Option Nat) : Option AV :=
 match d with
 | none => none
 | some d => (List.range 500).findSome? fun t => match isLoc (100000 + 1000 * d + t) with
  | true => (match P.underlying t with
   | some (.map kt et) => (match tz P kt, tz P et with
    | some a, some b => some (.tup [a, b])
    | _, _ => none)
   | _ => none)
  | false => none
def PEntry (b : Nat) (h : Heap) (K : AV → Prop) : Prop :=
 match h[b]? with
 | some (.it (some m) _ seen stepped) => (match seen.getLast?, h[m]? with
  | some stamp, some (.mp es cl) => need (cl == stepped) (match es.find? (fun e => e.2.2 == stamp) with
   | some e => K (.tup [e.1, e.2.1])
   | none => False)
  | _, _ => False)
 | _ => False
def vMap (m : Option Nat) (K : Nat → Prop) : Prop := match m with | some b => K b | none => False
def vSl (s : Option SL) (K : SL → Prop) : Prop := match s with | some s => K s | none => False
def vLenM (h : Heap) (m : Option Nat) (K : Nat → Prop) : Prop := match mapEs h m with | some es => K es.length | none => False
def PClear (zs : List AV) (s : Option SL) (h : Heap) (K : Heap → Prop) : Prop :=
 match s with
 | none => K h
 | some s => match s.len with
  | 0 => K h
  | n + 1 => need (oneAll zs) (PStore h ⟨s.b, s.o⟩ (List.replicate (n + 1) zs).flatten K)
def vRange (m : Option Nat) (h : Heap) (K : Nat → Heap → Prop) : Prop :=
 match m with
 | none => K h.length (h ++ [.it none 0 [] 0])
 | some b => match h[b]? with
  | some (.mp _ cl) => K h.length (h ++ [.it (some b) cl [] cl])
  | _ => False
def vBuiltin (P : Program) (b : Builtin) (argT : List TypeId) (args : List AV) (L : Locs) (h : Heap) (K : KO) : Prop :=
 match b, argT, args with
 | .len, [t], [.sl s] => match P.underlying t with | some (.slice _) => K (.val (.int .i64 (slLen s))) L h | _ => False
 | .len, [t], [.str s] => match P.underlying t with | some .string => K (.val (.int .i64 s.length)) L h | _ => False
 | .len, [t], [.map m] => match P.underlying t with | some (.map _ _) => vLenM h m fun n => K (.val (.int .i64 (n : Nat))) L h | _ => False
 | .delete, [t, _], [.map m, k] => match P.underlying t with | some (.map kt _) => PDelete P kt m k h fun h' => K (.val (.tup [])) L h' | _ => False
 | .clear, [t], [.sl s] => match telem P t with
  | none => False
  | some e => match zcells P e with
   | none => False
   | some zs => PClear zs s h fun h' => K (.val (.tup [])) L h'
 | .cap, [t], [.sl s] => match P.underlying t, s with
   | some (.slice _), none => K (.val (.int .i64 0)) L h
   | some (.slice _), some s => s.opn = 0 ∧ K (.val (.int .i64 s.cap)) L h
   | _, _ => False
 | .append, [t, u], [.sl s, x] =>
  match telem P t with
  | none => False
  | some e =>
   match zcells P e with
   | none => False
   | some zs =>
    need (decide (0 < tbytes P e)) <|
    match isIntT P u, x with
    | true, .int _ n => need (oneAll zs) <| 0 ≤ n ∧ n ≤ maxI ∧ n * tbytes P e ≤ 140737488355328 ∧ PAppend (tsz P e) (tbytes P e) s n.toNat (List.replicate n.toNat zs).flatten h fun s' h' => K (.val (.sl s')) L h'
    | false, .sl src => need (telem P u).isSome <| PAppendS (tsz P e) (tbytes P e) s src h fun s' h' => K (.val (.sl s')) L h'
    | false, .str src => need (isStrT P u && tsz P e == 1) (PAppend 1 (tbytes P e) s src.length (byteAVs src) h fun s' h' => K (.val (.sl s')) L h')
    | _, _ => False
 | .copy, [t, u], [.sl s, .sl src] =>
  match telem P t with
  | none => False
  | some e => need (P.info? e).isSome (PCopyS (tsz P e) s src h fun n h' => K (.val (.int .i64 n)) L h')
 | .min, _, args => minL args fun v => K (.val v) L h
 | .max, _, args => maxL args fun v => K (.val v) L h
 | _, _, _ => False
def PNew (c : List AV) (rw : Bool) (h : Heap) (K : Nat → Heap → Prop) : Prop := K h.length (h ++ [.cells c rw])
def vNew (loc : Bool) (c : List AV) (L : Locs) (h : Heap) (K : KO) : Prop :=
 need (oneAll c) (match loc with
 | true => K (.loc L.length 0) (L ++ [c]) h
 | false => PNew c true h fun b h' => K (.val (.ptr (some ⟨b, 0⟩))) L h')
def bldT (P : Program) (t : TypeId) : Bool := match P.underlying t with
 | some (.struct fs) => (match fs.toList with
  | [a, b] => (match P.underlying a.type, P.underlying b.type with
   | some (.pointer u), some (.slice e) => Nat.beq u t && isU8 P e
   | _, _ => false)
  | _ => false)
 | _ => false
def vAlloc (b : Bool) (t : TypeId) (loc : Bool) (zs : List AV) (L : Locs) (h : Heap) (K : KO) : Prop := match b with
 | true => need (oneAll zs) (K (.val (.ptr (some ⟨h.length, 0⟩))) L (h ++ [.bx (.iface t (.tup zs))]))
 | false => vNew loc zs L h K
def vLoad (P : Program) (t : TypeId) (x : LV) (L : Locs) (h : Heap) (K : AV → Prop) : Prop :=
 match tz P t with
 | none => False
 | some z =>
  match okTy P t z with
  | false => False
  | true =>
   match x with
   | .loc k o => match L[k]? with | some c => part z c o K | none => False
   | .val (.ptr q) => vPtr q fun p => PLoad z h p K
   | _ => False
def vop (P : Program) (isLoc : Nat → Bool) (call : CallH) (o : Oper) (ρ : List LV) (L : Locs) (h : Heap) (K : KO) : Prop :=
 match o.op with
 | .move x | .assign x => K (ev ρ x) L h
 | .pick c a b => match ev ρ c with | .val (.bool t) => vif t (K (ev ρ a) L h) (K (ev ρ b) L h) | _ => False
 | .alloc t => match zcells P t, o.dst with | some zs, some d => vAlloc (bldT P t) t (isLoc d) zs L h K | _, _ => False
 | .box t x => match ev ρ x, o.dst with | .val (.tup _), _ => False | .val v, some d => vNew (isLoc d) v.cells L h K | _, _ => False
 | .load t x => vLoad P t (ev ρ x) L h fun v => K (.val v) L h
 | .store t a x =>
  match ev ρ x with
  | .val v =>
   need ((P.info? t).isSome && v.cells.length == tsz P t && oneAll v.cells) <|
    match ev ρ a with
    | .loc k i => match L[k]? with | some c => need (decide (i + v.cells.length ≤ c.length)) (K .top (L.set k (splice c i v.cells)) h) | none => False
    | .val (.ptr q) => vPtr q fun p => PStore h p v.cells fun h' => K .top L h'
    | _ => False
  | _ => False
 | .nilCheck x =>
  match ev ρ x with
  | .loc k i => K (.loc k i) L h
  | .val (.ptr q) => vPtr q fun p => K (.val (.ptr (some p))) L h
  | .val (.func (.func f) a c) => K (.val (.func (.func f) a c)) L h
  | .val (.iface t v) => K (.val (.iface t v)) L h
  | _ => False
 | .binOp op t x y _ =>
  match ev ρ x, ev ρ y with
  | .val a, .val b => aBin P op t h a b fun v => K (.val v) L h
  | _, _ => False
 | .unOp op _ x => match ev ρ x with | .val a => aUn op a fun v => K (.val v) L h | _ => False
 | .convert src dst x =>
  match P.underlying src, P.underlying dst, ev ρ x with
  | some _, some (.int k), .val (.int _ n) => K (.val (.int k (wrapK k n))) L h
  | some .string, some .string, .val (.str s) => K (.val (.str s)) L h
  | some (.int _), some .string, .val (.int _ n) => need (decide (0 ≤ n) && decide (n < 128)) (K (.val (.str [UInt8.ofNat n.toNat])) L h)
  | some (.slice e), some .string, .val (.sl s) => need (isU8 P e) (PStr h s fun l => K (.val (.str l)) L h)
  | some .string, some (.slice e), .val (.str s) => need (isU8 P e) (s.length ≤ 4611686018427387904 ∧ PNew (byteAVs s) false h fun b h' => K (.val (.sl (some ⟨b, 0, s.length, s.length, 1⟩))) L h')
  | _, _, _ => False
 | .fieldAddr s x f =>
  match fieldOff P s f with
  | none => False
  | some (off, ft) =>
   need (decide (0 < tsz P ft)) <|
    match ev ρ x with
    | .loc k i => K (.loc k (i + off)) L h
    | .val (.ptr q) => vPtr q fun p => K (.val (.ptr (some ⟨p.b, p.o + off⟩))) L h
    | _ => False
 | .field s x f =>
  match fieldOff P s f, ev ρ x with
  | some (off, ft), .val (.agg cs) =>
   match tz P ft with
   | some z => need (okTy P ft z) (part z cs off fun v => K (.val v) L h)
   | none => False
  | _, _ => False
 | .indexAddr t x ix =>
  match evI ρ ix, P.underlying t, ev ρ x, x with
  | some i, some (.slice e), .val (.sl s), _ => need (P.info? e).isSome (vIdx s i (tsz P e) fun p => K (.val (.ptr (some p))) L h)
  | some i, some (.array n e), .val (.ptr q), _ => vPtr q fun p => need ((P.info? e).isSome && (decide (0 ≤ i) && decide (i < n))) (K (.val (.ptr (some ⟨p.b, p.o + i.toNat * tsz P e⟩))) L h)
  | some i, some (.array n e), .loc k j, _ => need ((P.info? e).isSome && (decide (0 ≤ i) && decide (i < n))) (K (.loc k (j + i.toNat * tsz P e)) L h)
  | some i, some (.array n e), .top, .global g => need ((P.info? e).isSome && (decide (0 ≤ i) && decide (i < n))) (∃ a j : Nat, h[a]? = some (.gm g j) ∧ K (.val (.ptr (some ⟨j, i.toNat * tsz P e⟩))) L h)
  | _, _, _, _ => False
 | .index t x ix =>
  match evI ρ ix, P.underlying t, ev ρ x with
  | some i, some .string, .val (.str s) => strIdx s i fun v => K (.val v) L h
  | _, _, _ => False
 | .build t ps =>
  match tz P t, P.underlying t, partsA ρ ps with
  | some (.agg zs), some (.struct fs), some parts =>
   need (noTups parts && fs.toList.all fun f => (P.info? f.type).isSome) <|
   match fillA (fun i => (fs[i]?).map fun f => (f.offset, tsz P f.type)) zs parts with
   | some cells => K (.val (.agg cells)) L h
   | none => False
  | some (.agg zs), some (.array _ e), some parts =>
   need (noTups parts && (P.info? e).isSome) <|
   match fillA (fun i => some (i * tsz P e, tsz P e)) zs parts with
   | some cells => K (.val (.agg cells)) L h
   | none => False
  | _, _, _ => False
 | .buildSlice t n ps =>
  match telem P t with
  | none => False
  | some e =>
   match zcells P e, partsA ρ ps with
   | some zs, some parts =>
    need (decide (n * tsz P e ≤ 16777216) && noTups parts) <|
    match fillA (fun i => some (i * tsz P e, tsz P e)) (List.replicate n zs).flatten parts with
    | some cells => need (oneAll cells) (PNew cells true h fun b h' => K (.val (.sl (some ⟨b, 0, n, n, 0⟩))) L h')
    | none => False
   | _, _ => False
 | .slice t x lo hi mx =>
  match P.underlying t, ev ρ x, optI ρ lo, optI ρ hi, optI ρ mx with
  | some (.slice e), .val (.sl s), some l, some hh, some m => need ((P.info? e).isSome && (m.isNone || hh.isSome)) (PSlice (tsz P e) s (l.getD 0) hh m fun s' => K (.val (.sl s')) L h)
  | some .string, .val (.str s), some l, some hh, some none => strSlice s (l.getD 0) hh fun s' => K (.val (.str s')) L h
  | some (.array n e), .val (.ptr q), some l, some hh, some m => vPtr q fun p => need ((P.info? e).isSome && (m.isNone || hh.isSome)) (PSlice (tsz P e) (some ⟨p.b, p.o, n, n, 0⟩) (l.getD 0) hh m fun s' => K (.val (.sl s')) L h)
  | _, _, _, _, _ => False
 | .makeSlice t l c =>
  match telem P t with
  | none => False
  | some e =>
   match zcells P e, evI ρ l, evI ρ c with
   | some zs, some n, some m => need (oneAll zs) <| PMake zs (tbytes P e) n m h fun s' h' => K (.val (.sl s')) L h'
   | _, _, _ => False
 | .sliceToArrayPointer t x =>
  match P.underlying t, ev ρ x with
  | some (.array n _), .val (.sl s) => vSl s fun s => need (decide (0 < n) && decide (n ≤ s.len)) (K (.val (.ptr (some ⟨s.b, s.o⟩))) L h)
  | _, _ => False
 | .makeMap _ r => match r with | none => K (.val (.map (some h.length))) L (h ++ [.mp [] 0]) | some _ => False
 | .lookup t x ix ok =>
  match P.underlying t, ev ρ x, ev ρ ix, tz P o.type with
  | some (.map kt et), .val (.map m), .val k, some z => PLookup P kt et m k ok h fun v => exV z fun u => v = u ∧ K (.val u) L h
  | _, _, _, _ => False
 | .mapUpdate t m k x =>
  match P.underlying t, ev ρ m, ev ρ k, ev ρ x with
  | some (.map kt _), .val (.map m), .val k, .val v => vMap m fun b => PUpdate P kt b k v h fun h' => K .top L h'
  | _, _, _, _ => False
 | .insert t m k x =>
  match P.underlying t, ev ρ m, ev ρ k, ev ρ x with
  | some (.map kt _), .val (.map m), .val k, .val v => vMap m fun b => PUpdate P kt b k v h fun h' => K .top L h'
  | _, _, _, _ => False
 | .mapEntry t m k =>
  match P.underlying t, ev ρ m, ev ρ k with
  | some (.map kt et), .val (.map m), .val k => vMap m fun b => PEntryAt P kt et b k h fun v n h' => K (.val (.tup [v, .int .i64 n])) L h'
  | _, _, _ => False
 | .entryStore _ m s x =>
  match ev ρ m, ev ρ s, ev ρ x with
  | .val (.map m), .val (.int _ n), .val v => vMap m fun b => PEntrySet b n v h fun h' => K .top L h'
  | _, _, _ => False
 | .range t x =>
  match P.underlying t, ev ρ x with
  | some (.map _ _), .val (.map m) => vRange m h fun b h' => K (.val (.ptr (some ⟨b, 0⟩))) L h'
  | _, _ => False
 | .next x isS =>
  match isS, ev ρ x with
  | false, .val (.ptr (some p)) => need (decide (p.o = 0)) (PNext2 p.b h (fun h' => K (.val (.tup [.bool false])) L h') fun k e h' => K (.val (.tup [.bool true, k, e])) L h')
  | _, _ => False
 | .entry x =>
  match ev ρ x, entryZ P isLoc o.dst with
  | .val (.ptr (some p)), some z => need (decide (p.o = 0)) (PEntry p.b h fun v => exV z fun u => v = u ∧ K (.val u) L h)
  | .val (.ptr (some p)), none => need (decide (p.o = 0)) (PEntry p.b h fun v => K (.val v) L h)
  | _, _ => False
 | .extract x i => match ev ρ x with | .val (.tup vs) => (match vs[i]? with | some v => K (.val v) L h | none => False) | _ => False
 | .makeFunc fn f c => match fnY fn with | true => False | false => (match vals ρ f.toList, vals ρ c.toList with | some a, some b => K (.val (.func fn a b)) L h | _, _ => False)
 | .makeInterface t x => match P.underlying t, ev ρ x with | some (.interface _), _ => False | some _, .val v => K (.val (.iface t v)) L h | _, _ => False
 | .call c =>
  match vals ρ c.args.toList with
  | none => False
  | some args =>
   match c.callee with
   | .value f =>
    match ev ρ f, tz P o.type with
    | .val g, some z => vCallF P call g args h fun v h' => exV z fun u => v = u ∧ K (.val u) L h'
    | _, _ => False
   | .invoke r name =>
    match ev ρ r, tz P o.type with
    | .val g, some z => vInvoke P call g name args h fun v h' => exV z fun u => v = u ∧ K (.val u) L h'
    | _, _ => False
   | .builtin b => vBuiltin P b c.argTypes.toList args L h K
 | _ => False
structure St where
 ρ : List LV
 L : Locs
 h : Heap
def St.put (st : St) (d : Option Nat) (v : LV) (L : Locs) (h : Heap) : St :=
 ⟨match d with | some d => st.ρ.set d v | none => st.ρ, L, h⟩
def guardVal (ops : Array Oper) (ρ : List LV) (j : Nat) : Option Bool :=
 match (ops[j]?).bind (·.dst) with
 | some d => match ρ[d]? with | some (.val (.bool b)) => some b | _ => none
 | none => none
def LV.und : LV := .val (.tup [])
def guardOff (ops : Array Oper) (ρ : List LV) (j : Nat) : Bool :=
 match (ops[j]?).bind (·.dst) with
 | some d => match ρ[d]? with | some (.val (.tup [])) => true | _ => false
 | none => false
def actsAt (ops : Array Oper) (o : Oper) (ρ : List LV) : Option Bool :=
 match o.guard with
 | none => some true
 | some (j, want) => match guardOff ops ρ j with
  | true => some false
  | false => (guardVal ops ρ j).map (· == want)
def setG (ops : Array Oper) (ρ : List LV) (j : Nat) (b : Bool) : List LV :=
 match (ops[j]?).bind (·.dst) with
 | some d => ρ.set d (.val (.bool b))
 | none => ρ
def vside (P : Program) (isLoc : Nat → Bool) (call : CallH) (o : Oper) (act : Bool) (st : St) (K : St → Prop) : Prop :=
 match act with
 | true => vop P isLoc call o st.ρ st.L st.h fun v L h => K (st.put o.dst v L h)
 | false => K (st.put o.dst .und st.L st.h)
def vguarded (P : Program) (isLoc : Nat → Bool) (call : CallH) (ops : Array Oper) (o : Oper) (st : St) (K : St → Prop) : Prop :=
 match o.guard with
 | none => vop P isLoc call o st.ρ st.L st.h fun v L h => K (st.put o.dst v L h)
 | some (j, want) =>
  match guardOff ops st.ρ j with
  | true => K (st.put o.dst .und st.L st.h)
  | false => match guardVal ops st.ρ j with
   | none => False
   | some b => vif b (vside P isLoc call o want ⟨setG ops st.ρ j true, st.L, st.h⟩ K) (vside P isLoc call o (!want) ⟨setG ops st.ρ j false, st.L, st.h⟩ K)
def vops (P : Program) (isLoc : Nat → Bool) (call : CallH) (ops : Array Oper) : List Nat → St → (St → Prop) → Prop
 | [], st, K => K st
 | i :: is, st, K =>
  match ops[i]? with
  | none => False
  | some o => vguarded P isLoc call ops o st fun st' => vops P isLoc call ops is st' K
def writes : Code → List Nat
 | .region _ ops _ => ops.toList.filterMap (·.dst)
 | .seq a b => writes a ++ writes b
 | .cond _ a b => writes a ++ writes b
 | .block _ a => writes a
 | .loop a => writes a
 | .scope a => writes a
 | .rangeFunc _ _ a b => writes a ++ writes b
 | _ => []
structure LoopInfo where
 slots : List Nat
 mods : List Nat
def slotVals (ρ : List LV) : List Nat → Option (List AV)
 | [] => some []
 | s :: ss => match ρ[s]?, slotVals ρ ss with | some (.val v), some l => some (v :: l) | _, _ => none
def locVals (L : Locs) : List Nat → Option (List AV)
 | [] => some []
 | k :: ks => match L[k]?, locVals L ks with | some c, some l => some (c ++ l) | _, _ => none
def carry (i : LoopInfo) (st : St) : Option (List AV) :=
 match slotVals st.ρ i.slots, locVals st.L i.mods with
 | some a, some b => some (a ++ b)
 | _, _ => none
def setTop (ρ : List LV) : List Nat → List LV
 | [] => ρ
 | t :: ts => setTop (ρ.set t .top) ts
def setSlots (ρ : List LV) : List Nat → List AV → List LV
 | s :: ss, v :: vs => setSlots (ρ.set s (.val v)) ss vs
 | _, _ => ρ
def setLocs (L : Locs) : List Nat → List AV → Locs
 | k :: ks, vs => match L[k]? with
  | some c => setLocs (L.set k (vs.take c.length)) ks (vs.drop c.length)
  | none => L
 | [], _ => L
def headSt (i : LoopInfo) (w : List Nat) (st : St) (xs : List AV) (h : Heap) : St :=
 ⟨setSlots (setTop st.ρ w) i.slots (xs.take i.slots.length), setLocs st.L i.mods (xs.drop i.slots.length), h⟩
def sameShape : AV → AV → Bool
 | .int k _, .int k' _ => decide (k = k')
 | .bool _, .bool _ => true
 | .str _, .str _ => true
 | .ptr _, .ptr _ => true
 | .sl _, .sl _ => true
 | .map _, .map _ => true
 | .func .., v => v.one
 | .nilfunc, v => v.one
 | .iface .., v => v.one
 | .niliface, v => v.one
 | .agg _, v => v.one
 | .tup _, v => v.one
 | _, _ => false
def sameShapes : List AV → List AV → Bool
 | [], [] => true
 | a :: as, b :: bs => sameShape a b && sameShapes as bs
 | _, _ => false
def keepL (mods : List Nat) (L0 L : Locs) : Nat → Prop
 | 0 => True
 | n + 1 => (match mods.contains n with
   | true => match L[n]?, L0[n]? with | some c, some c0 => need (c.length == c0.length) True | _, _ => False
   | false => L[n]? = L0[n]?) ∧ keepL mods L0 L n
def VLoop (body : List AV → Heap → (List AV → Heap → Prop) → Prop) (xs0 : List AV) (h0 : Heap) : Prop :=
 ∃ (I : List AV → Heap → Prop) (m : List AV → Heap → Nat), I xs0 h0 ∧ allL xs0 fun xs => ∀ h, I xs h → body xs h fun xs' h' => I xs' h' ∧ m xs' h' < m xs h
structure CutInfo where
 info : LoopInfo
 kinds : List AV
structure Hints where
 loc : Nat → Bool
 loops : Nat → LoopInfo
 plan : Nat → List Nat
 cut : Nat → Option CutInfo := fun _ => none
def VCut (body : (List AV → Heap → Prop) → Prop) (zs : List AV) (rest : List AV → Heap → Prop) : Prop :=
 ∃ J : List AV → Heap → Prop, body J ∧ allL zs fun xs => ∀ h, J xs h → rest xs h
abbrev DrawH := Nat → Array Oper → St → (St → Prop) → Prop
def setC (st : St) (c : Operand) (b : Bool) : St :=
 match c with
 | .tmp t => ⟨st.ρ.set t (.val (.bool b)), st.L, st.h⟩
 | _ => st
def vcode (P : Program) (H : Hints) (call : CallH) (draw : DrawH) : Code → Nat → St → (Exit → St → Prop) → Prop
 | .skip, _, st, Q => Q .normal st
 | .region id ops d, _, st, Q =>
  match d with
  | false => vops P H.loc call ops (List.range ops.size) st (Q .normal)
  | true => draw id ops st (Q .normal)
 | .seq a b, cur, st, Q =>
  vcode P H call draw a cur st fun e st' => match e with
   | .normal => vcode P H call draw b cur st' Q
   | e => Q e st'
 | .cond c a b, cur, st, Q =>
  match ev st.ρ c with
  | .val (.bool t) => vif t (vcode P H call draw a cur (setC st c true) Q) (vcode P H call draw b cur (setC st c false) Q)
  | _ => False
 | .block id body, _, st, Q =>
  match H.cut id with
  | none => vcode P H call draw body id st fun e st' => match e with
   | .exit i => (match i == id with | true => Q .normal st' | false => Q (.exit i) st')
   | e => Q e st'
  | some c =>
   need (locVals st.L c.info.mods).isSome <| VCut (fun K => vcode P H call draw body id st fun e st' => match e with
    | .exit i => (match i == id with
     | true => (match carry c.info st' with
      | some xs => need (sameShapes c.kinds xs) (keepL c.info.mods st.L st'.L st.L.length ∧ K xs st'.h)
      | none => False)
     | false => Q (.exit i) st')
    | .normal => (match carry c.info st' with
      | some xs => need (sameShapes c.kinds xs) (keepL c.info.mods st.L st'.L st.L.length ∧ K xs st'.h)
      | none => False)
    | e => Q e st') c.kinds fun xs h => Q .normal (headSt c.info (writes body) st xs h)
 | .loop body, cur, st, Q =>
  match carry (H.loops cur) st with
  | none => False
  | some xs0 =>
   need (sameShapes xs0 xs0) <| VLoop (fun xs h K => vcode P H call draw body cur (headSt (H.loops cur) (writes body) st xs h) fun e st' => match e with
    | .normal => match carry (H.loops cur) st' with
     | some xs' => need (sameShapes xs0 xs') (keepL (H.loops cur).mods st.L st'.L st.L.length ∧ K xs' st'.h)
     | none => False
    | e => Q e st') xs0 st.h
 | .exit id, _, st, Q => Q (.exit id) st
 | .ret, _, st, Q => Q .ret st
 | .scope body, cur, st, Q =>
  vcode P H call draw body cur st fun e st' => match e with
   | .goto _ => False
   | e => Q e st'
 | .label _, _, st, Q => Q .normal st
 | _, _, _, _ => False
def vresult (P : Program) (st : St) : ResultVar → (AV → Prop) → Prop
 | .tmp t, K => match st.ρ[t]? with | some (.val v) => K v | _ => False
 | .cell a t, K => vLoad P t (st.ρ.getD a .top) st.L st.h K
def vresults (P : Program) (st : St) : List ResultVar → (List AV → Prop) → Prop
 | [], K => K []
 | r :: rs, K => vresult P st r fun v => vresults P st rs fun l => K (v :: l)
def vret (P : Program) (fn : Func) (st : St) (Q : AV → Heap → Prop) : Prop :=
 vresults P st fn.results.toList fun l => match l with
  | [v] => Q v st.h
  | l => Q (.tup l) st.h
def vfun (P : Program) (H : Hints) (call : CallH) (draw : DrawH) (f : FuncId) (args : List AV) (h : Heap) (Q : AV → Heap → Prop) : Prop :=
 match P.funcs[f]? with
 | none => False
 | some fn =>
  match fn.body with
  | none => False
  | some c =>
   vcode P H call draw c 1000000 ⟨args.map .val ++ List.replicate (fn.ntmps - args.length) .top, [], h⟩ fun e st => match e with
    | .normal => vret P fn st Q
    | .ret => vret P fn st Q
    | _ => False
structure EnvRel (μ : Ren) (lam : List Nat) (ρ : List LV) (tmps : Array Value) : Prop where
 len : ρ.length = tmps.size
 get : ∀ (t : Nat) (lv : LV), ρ[t]? = some lv → lv.rel μ lam (tmps.getD t undef)
theorem EnvRel.mono {μ μ' : Ren} {lam lam' : List Nat} {ρ : List LV} {tmps : Array Value} (E : EnvRel μ lam ρ tmps) (h : Ren.le μ μ') (hl : lamLe lam lam') : EnvRel μ' lam' ρ tmps :=
 ⟨E.len, fun t lv ht => (E.get t lv ht).mono h hl⟩
theorem EnvRel.ev {μ : Ren} {lam : List Nat} {ρ : List LV} {a : Act} (E : EnvRel μ lam ρ a.tmps) (x : Operand) : (ev ρ x).rel μ lam (a.eval x) := by
 cases x with
 | tmp t =>
  simp only [Ab.ev, Act.eval, List.getD]
  cases h : ρ[t]? with
  | none => simp [LV.rel]
  | some lv => simpa using E.get t lv h
 | const v =>
  simp only [Ab.ev, Act.eval]
  split
  ·rename_i x hx; exact ofV_rel μ 4 v x hx
  ·trivial
 | global g => trivial
 | func f => exact ⟨#[], #[], rfl, rfl, rfl⟩
theorem EnvRel.val {μ : Ren} {lam : List Nat} {ρ : List LV} {a : Act} (E : EnvRel μ lam ρ a.tmps) {x : Operand} {v : AV} (h : Ab.ev ρ x = .val v) : v.rel μ (a.eval x) := by
 have := E.ev x; rw [h] at this; exact this
theorem EnvRel.loc {μ : Ren} {lam : List Nat} {ρ : List LV} {a : Act} (E : EnvRel μ lam ρ a.tmps) {x : Operand} {k o : Nat} (h : Ab.ev ρ x = .loc k o) :
  ∃ r, lam[k]? = some r ∧ a.eval x = .pointer (some ⟨r, o, none⟩) := by
 have := E.ev x; rw [h] at this; exact this
theorem EnvRel.vals {μ : Ren} {lam : List Nat} {ρ : List LV} {a : Act} (E : EnvRel μ lam ρ a.tmps) : ∀ (os : List Operand) (l : List AV), Ab.vals ρ os = some l → relL μ l (os.map a.eval)
 | [], l, h => by simp [Ab.vals] at h; subst h; rfl
 | o :: os, l, h => by
  simp only [Ab.vals] at h
  split at h
  ·rename_i x l' hx hl
   cases h
   exact ⟨_, _, rfl, E.val hx, E.vals os l' hl⟩
  ·cases h
theorem EnvRel.int {μ : Ren} {lam : List Nat} {ρ : List LV} {a : Act} (E : EnvRel μ lam ρ a.tmps) {x : Operand} {n : Int} (h : evI ρ x = some n) : ∃ k, a.eval x = .int k n := by
 simp only [evI] at h
 split at h
 ·rename_i k m hx; cases h; exact ⟨k, E.val hx⟩
 ·cases h
def Out (P : Program) (μ0 : Ren) (h0 : Heap) (w0 : World) (μ : Ren) (lam : List Nat) (w : World) (s : Sem Value) (K : KO) : Prop :=
 ∃ (v : Value) (w' : World) (lv : LV) (L' : Locs) (h' : Heap) (μ' : Ren) (lam' : List Nat),
  s.run P w = .ok v w' ∧ K lv L' h' ∧ Rel μ0 h0 w0 μ' lam' L' h' w' ∧ Ren.le μ μ' ∧ lamLe lam lam' ∧ lv.rel μ' lam' v
section
variable {P : Program} {μ0 : Ren} {h0 : Heap} {w0 : World} {μ : Ren} {lam : List Nat} {L : Locs} {h : Heap} {w : World} {K : KO}
theorem lamLe.refl (l : List Nat) : lamLe l l := fun _ _ h => h
theorem Out.same {s : Sem Value} (R : Rel μ0 h0 w0 μ lam L h w) {lv : LV} {v : Value} (hr : s.run P w = .ok v w) (hk : K lv L h) (hv : lv.rel μ lam v) : Out P μ0 h0 w0 μ lam w s K :=
 ⟨v, w, lv, L, h, μ, lam, hr, hk, R, .refl _, .refl _, hv⟩
theorem tz_info {t : TypeId} {z : AV} (hz : tz P t = some z) : ∃ i v, P.info? t = some i ∧ i.zero = some v ∧ ofV 4 v = some z := by
 simp only [tz, Option.bind_eq_some_iff] at hz
 obtain ⟨v, ⟨i, hi, hv⟩, hz⟩ := hz
 exact ⟨i, v, hi, hv, hz⟩
theorem okTy_parts {t : TypeId} {z : AV} (h : okTy P t z = true) : z.cells.length = tsz P t ∧ isAgg z = tagg P t ∧ (∃ d, P.underlying t = some d) ∧ ∀ c, z ≠ .tup c := by
 simp only [okTy, Bool.and_eq_true, beq_iff_eq, Option.isSome_iff_exists] at h
 exact ⟨h.1.1.1, h.1.1.2, h.1.2, fun c hc => by rw [hc] at h; simp [isTup] at h⟩
theorem run_isAgg {t : TypeId} {d : TypeDesc} (hd : P.underlying t = some d) : (Go.isAgg t).run P w = .ok (tagg P t) w := by
 unfold Go.isAgg tagg
 rw [Sem.run_bind, run_underlying hd]
 cases d <;> simp [hd]
theorem tsz_info {t : TypeId} {i : TypeInfo} (hi : P.info? t = some i) : tsz P t = i.size := by simp [tsz, Program.cellsOf, hi]
theorem run_sizeOf' {t : TypeId} {i : TypeInfo} (hi : P.info? t = some i) : (sizeOf t).run P w = .ok (tsz P t) w := run_sizeOf w hi
theorem load_part {μ : Ren} {r s : Nat} {C : Array Value} {t : TypeId} {fz : Nat × Nat} {c : List AV} (hw : w.heap[r]? = some (.cells C t fz))
  (hc : ∀ (i : Nat) (x : AV), c[i]? = some x → ∃ y, C[s + i]? = some y ∧ x.rel μ y) {ty : TypeId} {z : AV} (hz : tz P ty = some z) (hok : okTy P ty z = true)
  {o : Nat} {KV : AV → Prop} (hp : part z c o KV) :
  ∃ v x, (loadVar ty ⟨r, s + o, none⟩).run P w = .ok v w ∧ KV x ∧ x.rel μ v := by
 obtain ⟨i, zv, hi, hzv, hz'⟩ := tz_info hz
 obtain ⟨h1, h2, ⟨d, hd⟩, _⟩ := okTy_parts hok
 have hag := run_isAgg (w := w) hd
 simp only [part] at hp
 cases hg : isAgg z with
 | true =>
  rw [hg] at hp h2
  simp only [need] at hp
  split at hp
  ·rename_i hle
   simp at hle
   have hcells : ∀ j v, ((C.toList.drop (s + o)).take (tsz P ty))[j]? = some v → w.cell? ((⟨r, s + o, none⟩ : Addr).add j) = some v := by
    intro j v hv
    rw [add_addr, cell_at hw]
    rw [List.getElem?_take] at hv
    split at hv
    ·rw [List.getElem?_drop] at hv; simpa using hv
    ·cases hv
   have hlenC : ∀ j, j < tsz P ty → ∃ y, C[s + o + j]? = some y := by
    intro j hj
    have : o + j < c.length := by omega
    obtain ⟨y, hy, _⟩ := hc (o + j) c[o + j] (by simp [this])
    exact ⟨y, by rw [← hy]; congr 1; omega⟩
   have hlen : ((C.toList.drop (s + o)).take (tsz P ty)).length = tsz P ty := by
    simp only [List.length_take, List.length_drop, Array.length_toList]
    rcases Nat.eq_zero_or_pos (tsz P ty) with h0 | hpos
    ·omega
    ·obtain ⟨y, hy⟩ := hlenC (tsz P ty - 1) (by omega)
     have : s + o + (tsz P ty - 1) < C.size := by
      rcases Nat.lt_or_ge (s + o + (tsz P ty - 1)) C.size with h' | h'
      ·exact h'
      ·simp [Array.getElem?_eq_none h'] at hy
     omega
   have hrun := run_loadCells_list (P := P) w ⟨r, s + o, none⟩ _ hcells
   rw [hlen] at hrun
   refine ⟨.agg ((C.toList.drop (s + o)).take (tsz P ty)).toArray, _, ?_, hp, ?_⟩
   ·unfold loadVar
    rw [Sem.run_bind, hag, ← h2]
    simp [run_sizeOf' hi, hrun]
   ·refine ⟨_, rfl, ?_⟩
    simp only
    rw [h1]
    refine relL.of_get (by simp only [List.length_take, List.length_drop] at hlen ⊢; rw [hlen]; omega) fun j x y hx hy => ?_
    rw [List.getElem?_take] at hx hy
    split at hx
    ·rename_i hj
     rw [if_pos hj] at hy
     rw [List.getElem?_drop] at hx hy
     obtain ⟨y', g1, g2⟩ := hc _ _ hx
     have : C.toList[s + o + j]? = some y' := by simpa [Nat.add_assoc] using g1
     rw [this] at hy; cases hy; exact g2
    ·cases hx
  ·exact hp.elim
 | false =>
  rw [hg] at hp h2
  simp only at hp
  split at hp
  ·rename_i v hv
   obtain ⟨y, hy, hxy⟩ := hc o v hv
   refine ⟨y, v, ?_, hp, hxy⟩
   unfold loadVar
   rw [Sem.run_bind, hag, ← h2]
   have hcell : w.cell? ⟨r, s + o, none⟩ = some y := by rw [cell_at hw, hy]
   simp [hcell]
  ·exact hp.elim
theorem exL_elim : ∀ {zs : List AV} {KL : List AV → Prop}, exL zs KL → ∃ l, KL l ∧ l.length = zs.length ∧ (∀ x ∈ l, x.one = true)
 | [], KL, h => ⟨[], h, rfl, by simp⟩
 | z :: zs, KL, h => by
  cases z <;> simp only [exL] at h
  all_goals first
   | (obtain ⟨n, hv, h⟩ := h; obtain ⟨l, h1, h2, h3⟩ := exL_elim h; exact ⟨_, h1, by simp [h2], by intro x hx; simp at hx; rcases hx with rfl | hx; (first | exact hv | rfl); exact h3 x hx⟩)
   | (obtain ⟨n, h⟩ := h; obtain ⟨l, h1, h2, h3⟩ := exL_elim h; exact ⟨_, h1, by simp [h2], by intro x hx; simp at hx; rcases hx with rfl | hx; rfl; exact h3 x hx⟩)
theorem cells_of_one {v : AV} (h : v.one = true) : v.cells = [v] := by cases v <;> simp [AV.one] at h <;> rfl
theorem isAgg_of_one {v : AV} (h : v.one = true) : isAgg v = false := by cases v <;> simp [AV.one] at h <;> rfl
theorem exV_elim {z : AV} {KV : AV → Prop} (hz : ∀ c, z ≠ .tup c) (h : exV z KV) : ∃ v, KV v ∧ isAgg v = isAgg z ∧ v.cells.length = z.cells.length ∧ (∀ x ∈ v.cells, x.one = true) := by
 cases z <;> simp only [exV] at h
 case tup c => exact absurd rfl (hz c)
 case agg zs => obtain ⟨l, h1, h2, h3⟩ := exL_elim h; exact ⟨_, h1, rfl, h2, h3⟩
 all_goals
  obtain ⟨l, h1, h2, h3⟩ := exL_elim h
  obtain ⟨x, rfl⟩ : ∃ x, l = [x] := by
   match l, h2 with
   | [x], _ => exact ⟨x, rfl⟩
  have hx := h3 x (by simp)
  exact ⟨x, h1, by rw [isAgg_of_one hx]; rfl, by rw [cells_of_one hx]; rfl, by rw [cells_of_one hx]; simpa using hx⟩
theorem cellsAt_some {h : Heap} {p : PA} {n : Nat} {l : List AV} (hl : cellsAt h p n = some l) : ∃ c rw, h[p.b]? = some (.cells c rw) ∧ p.o + n ≤ c.length ∧ l = (c.drop p.o).take n := by
 simp only [cellsAt] at hl
 split at hl
 ·rename_i c rw hc
  split at hl
  ·cases hl; exact ⟨c, rw, hc, by assumption, rfl⟩
  ·cases hl
 ·cases hl
theorem PLoad_part {z : AV} {h : Heap} {p : PA} {KV : AV → Prop} (hz : ∀ c, z ≠ .tup c) (hp : PLoad z h p KV) : ∃ c rw, h[p.b]? = some (.cells c rw) ∧ part z c p.o KV := by
 obtain ⟨v, ⟨h1, h2⟩, h3, h4, h5⟩ := exV_elim hz hp
 obtain ⟨c, rw, g1, g2, g3⟩ := cellsAt_some h1
 refine ⟨c, rw, g1, ?_⟩
 unfold part
 cases hg : isAgg z with
 | true =>
  rw [hg] at h3
  cases v <;> simp [isAgg] at h3
  rename_i cs
  have g4 : cs = (c.drop p.o).take z.cells.length := g3
  simp only [need, g2, decide_true, ← g4]
  exact h2
 | false =>
  rw [hg] at h3
  have hzl : z.cells.length = 1 := by cases z <;> simp [isAgg] at hg <;> simp [AV.cells]
  have hvc : v.cells = [v] := by cases v <;> simp [isAgg] at h3 <;> rfl
  rw [hvc, hzl] at g3
  have : c[p.o]? = some v := by
   have := congrArg (fun l => l[0]?) g3
   simp [List.getElem?_take, List.getElem?_drop] at this
   exact this.symm
  simp [this, h2]
end
section
variable {P : Program} {μ0 : Ren} {h0 : Heap} {w0 : World} {μ : Ren} {lam : List Nat} {L : Locs} {h : Heap} {w : World} {K : KO}
theorem need_elim {b : Bool} {A : Prop} (h : need b A) : b = true ∧ A := by cases b <;> simp_all [need]
theorem lamLe_append (l : List Nat) (m : List Nat) : lamLe l (l ++ m) := by
 intro k r hk
 have := lt_of_get hk
 rw [List.getElem?_append_left this]; exact hk
theorem run_newVar (t : TypeId) (v : Value) : (newVar t v).run P w = .ok ⟨w.heap.size, 0, none⟩ (w.alloc (.cells v.cells t)) := by
 simp [newVar, newRow]
theorem out_new (R : Rel μ0 h0 w0 μ lam L h w) {loc : Bool} {c : List AV} {t : TypeId} {v : Value} (hc : relL μ c v.cells.toList) (hk : vNew loc c L h K) :
  Out P μ0 h0 w0 μ lam w (do pure (.pointer (some (← newVar t v)))) K := by
 have hrun : (do pure (.pointer (some (← newVar t v))) : Sem Value).run P w = .ok (.pointer (some ⟨w.heap.size, 0, none⟩)) (w.alloc (.cells v.cells t)) := by
  rw [Sem.run_bind, run_newVar]; rfl
 obtain ⟨ho, hk⟩ := need_elim hk
 cases loc with
 | true =>
  simp only at hk
  refine ⟨_, _, _, _, _, μ, lam ++ [w.heap.size], hrun, hk, R.allocLoc c v.cells t hc ho, .refl _, lamLe_append _ _, w.heap.size, ?_, rfl⟩
  rw [← R.locs.len]; simp
 | false =>
  simp only at hk
  have hl := hc.length
  have hsz : v.cells.size = c.length := by simpa using hl
  refine ⟨_, _, _, _, _, _, lam, hrun, hk, R.alloc c v.cells t (by omega) ho (fun i x hx => ?_), Ren.le_append _ _, lamLe.refl _, ⟨w.heap.size, 0, v.cells.size⟩, ?_, by simp⟩
  ·obtain ⟨y, hy, hxy⟩ := hc.get hx
   exact ⟨y, by simpa using hy, hxy⟩
  ·simp [R.heap.len]
theorem zcells_zero {t : TypeId} {zs : List AV} (hz : zcells P t = some zs) (w : World) (μ : Ren) : ∃ v, (zeroValue t).run P w = .ok v w ∧ relL μ zs v.cells.toList ∧ zs.length = tsz P t := by
 simp only [zcells] at hz
 split at hz
 ·rename_i z hz'
  split at hz
  ·rename_i hok
   cases hz
   obtain ⟨i, v, hi, hzv, hv⟩ := tz_info hz'
   obtain ⟨h1, _, _, h4⟩ := okTy_parts hok
   refine ⟨v, ?_, AV.rel.cells (ofV_rel μ 4 v z hv) h4, h1⟩
   simp only [zeroValue, typeInfo, Sem.run_bind, run_program, Result.andThen_ok, hi, Sem.run_pure, hzv]
  ·cases hz
 ·cases hz
theorem out_alloc1 (R : Rel μ0 h0 w0 μ lam L h w) {t : TypeId} {zs : List AV} (hz : zcells P t = some zs) (hk : K (.val (.ptr (some ⟨h.length, 0⟩))) L (h ++ [.bx (.iface t (.tup zs))])) :
  Out P μ0 h0 w0 μ lam w (Instr.alloc t true (.tuple #[])) K := by
 obtain ⟨v, hrun, hv, _⟩ := zcells_zero hz w μ
 refine ⟨.pointer (some ⟨w.heap.size, 0, none⟩), w.alloc (.cells v.cells t), _, _, _, _, lam, ?_, hk, R.allocB _ _ v.cells.size ⟨rfl, v.cells, t, heap_push_new _ _, .inr ⟨zs, .inl ⟨rfl, relL.mono (Ren.le_append _ _) _ _ hv⟩⟩⟩, Ren.le_append _ _, lamLe.refl _, ⟨w.heap.size, 0, v.cells.size⟩, ?_, by simp⟩
 ·unfold Instr.alloc
  rw [Sem.run_bind, hrun]
  show (do pure (.pointer (some (← newVar t v))) : Sem Value).run P w = _
  rw [Sem.run_bind, run_newVar]; rfl
 ·simp [R.heap.len]
theorem out_alloc (R : Rel μ0 h0 w0 μ lam L h w) {b loc : Bool} {t : TypeId} {zs : List AV} (hz : zcells P t = some zs) (hk : vAlloc b t loc zs L h K) :
  Out P μ0 h0 w0 μ lam w (Instr.alloc t true (.tuple #[])) K := by
 cases b with
 | true => exact out_alloc1 R hz (need_elim hk).2
 | false =>
 replace hk : vNew loc zs L h K := hk
 obtain ⟨v, hrun, hv, _⟩ := zcells_zero hz w μ
 obtain ⟨v', w', lv, L', h', μ', lam', hr, rest⟩ := out_new (P := P) (t := t) (v := v) R hv hk
 refine ⟨v', w', lv, L', h', μ', lam', ?_, rest⟩
 unfold Instr.alloc
 rw [Sem.run_bind, hrun]
 exact hr
theorem out_box (R : Rel μ0 h0 w0 μ lam L h w) {loc : Bool} {t : TypeId} {x : AV} {v : Value} (hx : x.rel μ v) (ht : ∀ c, x ≠ .tup c) (hk : vNew loc x.cells L h K) :
  Out P μ0 h0 w0 μ lam w (Instr.box t v) K := out_new R (AV.rel.cells hx ht) hk
theorem out_load (R : Rel μ0 h0 w0 μ lam L h w) {ρ : List LV} {a : Act} (E : EnvRel μ lam ρ a.tmps) {t : TypeId} {x : Operand} (hk : vLoad P t (ev ρ x) L h fun v => K (.val v) L h) :
  Out P μ0 h0 w0 μ lam w (Instr.loadAt t (a.eval x)) K := by
 simp only [vLoad] at hk
 split at hk
 ·exact hk.elim
 ·rename_i z hz
  split at hk
  ·exact hk.elim
  ·rename_i hok
   have hok' := okTy_parts hok
   split at hk
   ·rename_i k o hx
    split at hk
    ·rename_i c hc
     obtain ⟨r, hr, hv⟩ := E.loc hx
     obtain ⟨C, t', fz, h1, h2, h3⟩ := R.locs.blk k c r hc hr
     obtain ⟨v, x', g1, g2, g3⟩ := load_part (P := P) (s := 0) h1 (fun i x hx => by simpa using h2.get hx) hz hok hk
     refine Out.same R ?_ g2 g3
     rw [hv]
     simpa [Instr.loadAt, Instr.sureAddr] using g1
    ·exact hk.elim
   ·rename_i q hx
    have hv := E.val hx
    cases q with
    | none => exact hk.elim
    | some p =>
     simp only [vPtr] at hk
     obtain ⟨e, he, hv⟩ := hv
     obtain ⟨c, rw', hc, hp⟩ := PLoad_part hok'.2.2.2 hk
     obtain ⟨C, t', fz, h1, h2, h3, h3', h4, h5⟩ := R.heap.blk p.b _ e hc he
     obtain ⟨v, x', g1, g2, g3⟩ := load_part (P := P) h1 h4 hz hok hp
     refine Out.same R ?_ g2 g3
     rw [hv]
     simpa [Instr.loadAt, Instr.sureAddr] using g1
   ·exact hk.elim
theorem oneAll_rel {μ : Ren} : ∀ {xs : List AV} {vs : List Value}, relL μ xs vs → oneAll xs = true → ∀ v ∈ vs, v.oneCell' = true
 | [], vs, h, _, v, hv => by simp only [relL] at h; simp [h] at hv
 | x :: xs, _, ⟨y, ys, hl, hx, hxs⟩, ho, v, hv => by
  subst hl
  simp only [oneAll, List.all_cons, Bool.and_eq_true] at ho
  simp at hv
  rcases hv with rfl | hv
  ·exact hx.oneCell ho.1
  ·exact oneAll_rel hxs ho.2 v hv
theorem store_heap (R : Rel μ0 h0 w0 μ lam L h w) {p : PA} {e : ME} (he : μ[p.b]? = some e) {xs : List AV} {vs : List Value} (hv : relL μ xs vs) (ho : oneAll xs = true) {KH : Heap → Prop} (hk : PStore h p xs KH) :
  ∃ w' h', (storeCells ⟨e.r, e.s + p.o, none⟩ vs).run P w = .ok () w' ∧ KH h' ∧ Rel μ0 h0 w0 μ lam L h' w' := by
 simp only [PStore] at hk
 split at hk
 ·rename_i c hc
  obtain ⟨hle, hk⟩ := hk
  obtain ⟨C, t', fz, h1, h2, h3, h3', h4, h5⟩ := R.heap.blk p.b _ e hc he
  have hl := hv.length
  refine ⟨_, _, run_storeCells vs w e.r (e.s + p.o) 0 C t' fz h1 (by omega) (oneAll_rel hv ho) (fun j _ => by rw [h5 rfl]; simp), hk, ?_⟩
  have := R.store hc he hle hv ho h1
  simpa using this
 ·exact hk.elim
theorem store_loc (R : Rel μ0 h0 w0 μ lam L h w) {k r o : Nat} {c : List AV} (hr : lam[k]? = some r) (hc : L[k]? = some c) {xs : List AV} {vs : List Value} (hv : relL μ xs vs) (ho : oneAll xs = true)
  (hle : o + xs.length ≤ c.length) :
  ∃ w', (storeCells ⟨r, o, none⟩ vs).run P w = .ok () w' ∧ Rel μ0 h0 w0 μ lam (L.set k (splice c o xs)) h w' := by
 obtain ⟨C, t', fz, h1, h2, h3⟩ := R.locs.blk k c r hc hr
 have hl := hv.length
 have hcl := h2.length
 have hC : C.size = c.length := by simpa using hcl
 refine ⟨_, run_storeCells vs w r o 0 C t' fz h1 (by omega) (oneAll_rel hv ho) (fun j _ => by rw [h3.1]; simp), ?_⟩
 have := R.storeLoc hc hr hle hv ho h1
 simpa using this
theorem run_storeVar {t : TypeId} {a : Addr} {v : Value} (hsz : v.cells.size = tsz P t) {i : TypeInfo} (hi : P.info? t = some i) :
  (storeVar t a v).run P w = (storeCells a v.cells.toList).run P w := by
 unfold storeVar
 rw [Sem.run_bind, run_sizeOf' hi]
 simp [hsz]
theorem info_of_tsz {t : TypeId} (h : 0 < tsz P t) : ∃ i, P.info? t = some i := by
 cases hi : P.info? t with
 | none => simp [tsz, Program.cellsOf, hi] at h
 | some i => exact ⟨i, rfl⟩
theorem out_store (R : Rel μ0 h0 w0 μ lam L h w) {ρ : List LV} {a : Act} (E : EnvRel μ lam ρ a.tmps) {t : TypeId} {xa x : Operand} {v : AV} (hx : ev ρ x = .val v)
  (hneed : ((P.info? t).isSome && v.cells.length == tsz P t && oneAll v.cells) = true)
  (hk : match ev ρ xa with
    | .loc k i => match L[k]? with | some c => need (decide (i + v.cells.length ≤ c.length)) (K .top (L.set k (splice c i v.cells)) h) | none => False
    | .val (.ptr q) => vPtr q fun p => PStore h p v.cells fun h' => K .top L h'
    | _ => False) :
  ∃ w' L' h', (Instr.storeAt t (a.eval xa) (a.eval x)).run P w = .ok () w' ∧ K .top L' h' ∧ Rel μ0 h0 w0 μ lam L' h' w' := by
 simp only [Bool.and_eq_true, Option.isSome_iff_exists, beq_iff_eq] at hneed
 obtain ⟨⟨⟨i, hi⟩, hsz⟩, ho⟩ := hneed
 have hv := E.val hx
 have ht : ∀ c, v ≠ .tup c := by
  intro c hc; subst hc; simp [oneAll, AV.cells, AV.one] at ho
 have hcells := AV.rel.cells hv ht
 have hcl := hcells.length
 have hsz' : (a.eval x).cells.size = tsz P t := by rw [← hsz, ← hcl]; simp
 split at hk
 ·rename_i k o hxa
  obtain ⟨r, hr, hav⟩ := E.loc hxa
  split at hk
  ·rename_i c hc
   simp only [need] at hk
   split at hk
   ·rename_i hle
    simp at hle
    obtain ⟨w', g1, g2⟩ := store_loc (P := P) R hr hc hcells ho hle
    refine ⟨w', _, _, ?_, hk, g2⟩
    rw [hav]
    simp only [Instr.storeAt, Instr.sureAddr, Sem.run_bind, Sem.run_pure, Result.andThen_ok]
    rw [run_storeVar hsz' hi, g1]
   ·exact hk.elim
  ·exact hk.elim
 ·rename_i q hxa
  have hav := E.val hxa
  cases q with
  | none => exact hk.elim
  | some p =>
   simp only [vPtr] at hk
   obtain ⟨e, he, hav⟩ := hav
   obtain ⟨w', h', g1, g2, g3⟩ := store_heap (P := P) R he hcells ho hk
   refine ⟨w', _, _, ?_, g2, g3⟩
   rw [hav]
   simp only [Instr.storeAt, Instr.sureAddr, Sem.run_bind, Sem.run_pure, Result.andThen_ok]
   rw [run_storeVar hsz' hi, g1]
 ·exact hk.elim
theorem out_nilCheck (R : Rel μ0 h0 w0 μ lam L h w) {ρ : List LV} {a : Act} (E : EnvRel μ lam ρ a.tmps) {x : Operand}
  (hk : match ev ρ x with
   | .loc k i => K (.loc k i) L h
   | .val (.ptr q) => vPtr q fun p => K (.val (.ptr (some p))) L h
   | .val (.func (.func f) a c) => K (.val (.func (.func f) a c)) L h
   | .val (.iface t v) => K (.val (.iface t v)) L h
   | _ => False) (o : Oper) (ho : o.op = .nilCheck x) :
  ∃ lv, (execOp a.eval o).run P w = .ok (.value (a.eval x)) w ∧ K lv L h ∧ lv.rel μ lam (a.eval x) := by
 have hrun : (∀ v, a.eval x = v → (∃ q, v = .pointer (some q)) ∨ (∃ f c d, v = .func (.func f) c d) ∨ (∃ t y, v = .iface t y)) → (execOp a.eval o).run P w = .ok (.value (a.eval x)) w := by
  intro hv
  rcases hv _ rfl with ⟨q, hq⟩ | ⟨f, c, d, hq⟩ | ⟨t, y, hq⟩ <;> simp [execOp, ho, hq]
 have hev := E.ev x
 split at hk
 ·rename_i k i hx
  rw [hx] at hev
  obtain ⟨r, hr, hv⟩ := hev
  exact ⟨_, hrun (fun v hv' => .inl ⟨_, hv'.symm.trans hv⟩), hk, r, hr, hv⟩
 ·rename_i q hx
  rw [hx] at hev
  cases q with
  | none => exact hk.elim
  | some p =>
   have hev' := hev
   obtain ⟨e, he, hv⟩ := hev
   exact ⟨_, hrun (fun v hv' => .inl ⟨_, hv'.symm.trans hv⟩), hk, hev'⟩
 ·rename_i f c d hx
  rw [hx] at hev
  have hev' := hev
  obtain ⟨f', c', hv, _⟩ := hev
  exact ⟨_, hrun (fun v hv' => .inr (.inl ⟨_, _, _, hv'.symm.trans hv⟩)), hk, hev'⟩
 ·rename_i t v hx
  rw [hx] at hev
  have hev' := hev
  obtain ⟨y, hv, _⟩ := hev
  exact ⟨_, hrun (fun v hv' => .inr (.inr ⟨_, _, hv'.symm.trans hv⟩)), hk, hev'⟩
 ·exact hk.elim
theorem vif_elim {b : Bool} {A B : Prop} (h : vif b A B) : (b = true ∧ A) ∨ (b = false ∧ B) := by cases b <;> simp_all [vif]
theorem out_fieldAddr (R : Rel μ0 h0 w0 μ lam L h w) {ρ : List LV} {a : Act} (E : EnvRel μ lam ρ a.tmps) {s : TypeId} {x : Operand} {f : Nat}
  (hk : match fieldOff P s f with
  | none => False
  | some (off, ft) =>
   need (decide (0 < tsz P ft)) <|
    match ev ρ x with
    | .loc k i => K (.loc k (i + off)) L h
    | .val (.ptr q) => vPtr q fun p => K (.val (.ptr (some ⟨p.b, p.o + off⟩))) L h
    | _ => False) :
  Out P μ0 h0 w0 μ lam w (Instr.fieldAt s (a.eval x) f) K := by
 split at hk
 ·exact hk.elim
 ·rename_i off ft hf
  obtain ⟨h1, hk⟩ := need_elim hk
  simp at h1
  obtain ⟨i, hi⟩ := info_of_tsz h1
  have hrun : ∀ r o : Nat, a.eval x = .pointer (some ⟨r, o, none⟩) → (Instr.fieldAt s (a.eval x) f).run P w = .ok (.pointer (some ⟨r, o + off, none⟩)) w := by
   intro r o hv
   simp only [fieldOff] at hf
   split at hf
   ·rename_i fs hfs
    simp only [Option.map_eq_some_iff] at hf
    obtain ⟨fd, hfd, heq⟩ := hf
    simp only [Prod.mk.injEq] at heq
    obtain ⟨rfl, rfl⟩ := heq
    unfold Instr.fieldAt
    rw [Sem.run_bind, run_underlying hfs]
    simp only [Result.andThen_ok, hfd, hv, Instr.sureAddr, Sem.run_bind, Sem.run_pure, fieldPlace]
    rw [run_sizeOf' hi]
    simp only [Result.andThen_ok]
    rw [if_neg (by omega)]
    simp [add_addr]
   ·cases hf
  split at hk
  ·rename_i k i' hx
   obtain ⟨r, hr, hv⟩ := E.loc hx
   exact Out.same R (hrun _ _ hv) hk ⟨r, hr, rfl⟩
  ·rename_i q hx
   have hv := E.val hx
   cases q with
   | none => exact hk.elim
   | some p =>
    simp only [vPtr] at hk
    obtain ⟨e, he, hv⟩ := hv
    exact Out.same R (hrun _ _ hv) hk ⟨e, he, by simp [Nat.add_assoc]⟩
  ·exact hk.elim
theorem out_indexSlice (R : Rel μ0 h0 w0 μ lam L h w) {t e : TypeId} (ht : P.underlying t = some (.slice e)) (he : ∃ i, P.info? e = some i) {s : Option SL} {v : Value} (hv : AV.rel μ (.sl s) v) {k : IntKind} {i : Int}
  (hk : vIdx s i (tsz P e) fun p => K (.val (.ptr (some p))) L h) :
  Out P μ0 h0 w0 μ lam w (Instr.indexAt t v (.int k i)) K := by
 cases s with
 | none => exact hk.elim
 | some s =>
  obtain ⟨g1, g2, hk⟩ := hk
  obtain ⟨m, c', q, hm, rfl, hlc, hq, hx1, hx2⟩ := hv
  obtain ⟨ei, hei⟩ := he
  have hc' : c' ≠ 0 := by
   intro h0
   by_cases ho : s.opn = 0
   ·have := hx1 ho; omega
   ·have := (hx2 ho).1; omega
  have hq' := hq.resolve_left hc'
  subst hq'
  have hrun : (Instr.indexAt t (.slice (some ⟨m.r, m.s + s.o, none⟩) s.len c') (.int k i)).run P w = .ok (.pointer (some ⟨m.r, m.s + s.o + i.toNat * tsz P e, none⟩)) w := by
   unfold Instr.indexAt
   simp only [asIntOf, Sem.run_bind, Sem.run_pure, Result.andThen_ok, run_underlying ht]
   rw [if_pos ⟨g1, g2⟩, Sem.run_bind, run_sizeOf' hei]
   simp [add_addr]
  refine Out.same R hrun hk ⟨m, hm.resolve_right hc', ?_⟩
  simp [Nat.add_assoc]
theorem out_indexAddr (R : Rel μ0 h0 w0 μ lam L h w) {ρ : List LV} {a : Act} (E : EnvRel μ lam ρ a.tmps) {t : TypeId} {x ix : Operand}
  (hk : match evI ρ ix, P.underlying t, ev ρ x, x with
  | some i, some (.slice e), .val (.sl s), _ => need (P.info? e).isSome (vIdx s i (tsz P e) fun p => K (.val (.ptr (some p))) L h)
  | some i, some (.array n e), .val (.ptr q), _ => vPtr q fun p => need ((P.info? e).isSome && (decide (0 ≤ i) && decide (i < n))) (K (.val (.ptr (some ⟨p.b, p.o + i.toNat * tsz P e⟩))) L h)
  | some i, some (.array n e), .loc k j, _ => need ((P.info? e).isSome && (decide (0 ≤ i) && decide (i < n))) (K (.loc k (j + i.toNat * tsz P e)) L h)
  | some i, some (.array n e), .top, .global g => need ((P.info? e).isSome && (decide (0 ≤ i) && decide (i < n))) (∃ a j : Nat, h[a]? = some (.gm g j) ∧ K (.val (.ptr (some ⟨j, i.toNat * tsz P e⟩))) L h)
  | _, _, _, _ => False) :
  Out P μ0 h0 w0 μ lam w (Instr.indexAt t (a.eval x) (a.eval ix)) K := by
 split at hk
 ·rename_i i e s hi ht hx
  obtain ⟨k, hk'⟩ := E.int hi
  rw [hk']
  obtain ⟨h1, hk⟩ := need_elim hk
  exact out_indexSlice R ht (Option.isSome_iff_exists.1 h1) (E.val hx) hk
 ·rename_i i n e q hi ht hx
  obtain ⟨k, hk'⟩ := E.int hi
  have hv := E.val hx
  cases q with
  | none => exact hk.elim
  | some p =>
   simp only [vPtr] at hk
   obtain ⟨h1, hk⟩ := need_elim hk
   simp [Option.isSome_iff_exists] at h1
   obtain ⟨m, hm, hv⟩ := hv
   obtain ⟨⟨ei, hei⟩, h1⟩ := h1
   refine Out.same R (v := .pointer (some ⟨m.r, m.s + p.o + i.toNat * tsz P e, none⟩)) ?_ hk ⟨m, hm, by simp [Nat.add_assoc]⟩
   rw [hk', hv]
   unfold Instr.indexAt
   simp only [asIntOf, Sem.run_bind, Sem.run_pure, Result.andThen_ok, run_underlying ht, Instr.sureAddr]
   rw [if_pos ⟨h1.1, h1.2⟩, Sem.run_bind, run_sizeOf' hei]
   simp [add_addr]
 ·rename_i i n e k' j hi ht hx
  obtain ⟨k, hk'⟩ := E.int hi
  obtain ⟨r, hr, hv⟩ := E.loc hx
  obtain ⟨h1, hk⟩ := need_elim hk
  simp [Option.isSome_iff_exists] at h1
  obtain ⟨⟨ei, hei⟩, h1⟩ := h1
  refine Out.same R (v := .pointer (some ⟨r, j + i.toNat * tsz P e, none⟩)) ?_ hk ⟨r, hr, rfl⟩
  rw [hk', hv]
  unfold Instr.indexAt
  simp only [asIntOf, Sem.run_bind, Sem.run_pure, Result.andThen_ok, run_underlying ht, Instr.sureAddr]
  rw [if_pos ⟨h1.1, h1.2⟩, Sem.run_bind, run_sizeOf' hei]
  simp [add_addr]
 ·rename_i i n e g hi ht hx
  obtain ⟨k, hk'⟩ := E.int hi
  obtain ⟨h1, a', j, ha, hk⟩ := need_elim hk
  simp [Option.isSome_iff_exists] at h1
  obtain ⟨⟨ei, hei⟩, h1⟩ := h1
  have hal : a' < μ.length := by rw [R.heap.len]; exact lt_of_get ha
  obtain ⟨m, hm, hg, hs⟩ := R.heap.blk a' _ _ ha (List.getElem?_eq_getElem hal)
  refine Out.same R (v := .pointer (some ⟨m.r, m.s + i.toNat * tsz P e, none⟩)) ?_ hk ⟨m, hm, rfl⟩
  have hv : a.eval (.global g) = .pointer (some ⟨m.r, m.s, none⟩) := by rw [hg, hs]; rfl
  rw [hk', hv]
  unfold Instr.indexAt
  simp only [asIntOf, Sem.run_bind, Sem.run_pure, Result.andThen_ok, run_underlying ht, Instr.sureAddr]
  rw [if_pos ⟨h1.1, h1.2⟩, Sem.run_bind, run_sizeOf' hei]
  simp [add_addr]
 ·exact hk.elim
end
end Go.Ab
