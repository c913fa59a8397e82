/- The runs of the operations, fourth part: append, copy. -/
import Derived.Test.YtceplmmmlindnaaCAb8
namespace Go.Ab
set_option linter.unusedSimpArgs false
set_option linter.unusedVariables false

section
variable {P : Program} {μ0 : Ren} {h0 : Heap} {w0 : World} {μ : Ren} {lam : List Nat} {L : Locs} {h : Heap} {w : World} {K : KO}

/-- What is appended, as the model reads it. -/
structure Src (P : Program) (u : TypeId) (size : Nat) (x : Value) (n : Nat) (news : List Value) (w : World) : Prop where
  ty : (∃ e, P.underlying u = some (.slice e)) ∨ P.underlying u = some .string
  len : (Builtin.lenOf x).run P w = .ok n w
  get : ∀ w' : World, w'.heap = w.heap → (Builtin.firstCells size n x).run P w' = .ok news.toArray w'

/-- append that fits. -/
theorem run_append_fit {t u ty e : TypeId} {i : TypeInfo} (ht : P.underlying t = some (.slice e)) (hi : P.info? e = some i) {x : Value} {n : Nat} {news : List Value} (S : Src P u i.size x n news w)
    {base : Option Addr} {sLen sCap : Nat} (hfit : sLen + n ≤ sCap) {w' : World}
    (hst : (match base with | some a => storeCells (a.add (sLen * i.size)) news | none => pure () : Sem Unit).run P w = .ok () w') :
    (Builtin.append_ #[t, u] ty #[.slice base sLen sCap, x]).run P w = .ok (.slice base (sLen + n) sCap) w' := by
  have hl := S.len
  have hg := S.get w rfl
  cases base with
  | none =>
    simp at hst
    subst hst
    rcases S.ty with ⟨e', hu⟩ | hu
    all_goals
      simp [Builtin.append_, run_underlying ht, sizeOf, typeInfo, hi, run_underlying hu, hl, hfit, hg]
  | some a =>
    simp at hst
    rcases S.ty with ⟨e', hu⟩ | hu
    all_goals
      simp [Builtin.append_, run_underlying ht, sizeOf, typeInfo, hi, run_underlying hu, hl, hfit, hg, hst]

/-- append that makes a new array. -/
theorem run_append_new {t u ty e : TypeId} {i : TypeInfo} {z : Value} (ht : P.underlying t = some (.slice e)) (hi : P.info? e = some i) (hz : i.zero = some z) {x : Value} {n : Nat} {news : List Value} (S : Src P u i.size x n news w)
    {base : Option Addr} {sLen sCap : Nat} (hg : sCap < sLen + n) (hb : (sLen + n) * i.bytes ≤ 140737488355328) (hm : sLen + n ≤ 9223372036854775807) {olds : List Value}
    (hold : ∀ w' : World, w'.heap = w.heap → (Builtin.firstCells i.size sLen (.slice base sLen sCap)).run P w' = .ok olds.toArray w') :
    (Builtin.append_ #[t, u] ty #[.slice base sLen sCap, x]).run P w =
      .ok (.slice (some ⟨w.heap.size, 0, none⟩) (sLen + n) (grownCap w (sLen + n) sCap e))
        (w.drew.alloc (.cells (olds.toArray ++ (news.toArray ++ Builtin.zeroCells z.cells (grownCap w (sLen + n) sCap e - (sLen + n)))) e)) := by
  have hl := S.len
  have h1 := S.get w.drew rfl
  have h2 := hold w.drew rfl
  have hn : ¬ (sLen + n ≤ sCap) := by omega
  have h63' : ¬ (9223372036854775807 < ((sLen : Int) + (n : Int))) := by omega
  have hfit := growslice_fits hg hb
  have h48' : ¬ (281474976710656 < Builtin.nextslicecap (sLen + n) sCap * i.bytes) := by omega
  rcases S.ty with ⟨e', hu⟩ | hu
  all_goals
    simp [Builtin.append_, run_underlying ht, sizeOf, typeInfo, hi, hz, zeroValue, run_underlying hu, hl, hn, h63', h48', Question.forced, h1, h2, newRow, grownCap]

theorem set_same {α : Type} {l : List α} {i : Nat} {x : α} (h : l[i]? = some x) : l.set i x = l := by
  apply List.ext_getElem?
  intro j
  rw [List.getElem?_set]
  split
  · rename_i hij; subst hij
    split
    · exact h.symm
    · rw [List.getElem?_eq_none (by omega)]
  · rfl

theorem store_nothing (a : Addr) : (storeCells a []).run P w = .ok () w := rfl

theorem cells_slice {e : ME} {C : Array Value} {t : TypeId} {fz : Nat × Nat} {c : List AV} (hw : w.heap[e.r]? = some (.cells C t fz))
    (hc : ∀ (i : Nat) (x : AV), c[i]? = some x → ∃ y, C[e.s + i]? = some y ∧ x.rel μ y) {o n : Nat} (hle : o + n ≤ c.length) :
    ∃ vs : List Value, vs.length = n ∧ relL μ ((c.drop o).take n) vs ∧ (∀ j v, vs[j]? = some v → w.cell? ((⟨e.r, e.s + o, none⟩ : Addr).add j) = some v) ∧ vs = (C.toList.drop (e.s + o)).take n := by
  have hlenC : ∀ j, j < n → ∃ y, C[e.s + o + j]? = some y := by
    intro j hj
    have : o + j < c.length := by omega
    obtain ⟨y, hy, _⟩ := hc (o + j) c[o + j] (by simp [this])
    exact ⟨y, by rw [← hy]; congr 1; omega⟩
  have hlen : ((C.toList.drop (e.s + o)).take n).length = n := by
    simp only [List.length_take, List.length_drop, Array.length_toList]
    rcases Nat.eq_zero_or_pos n with h0 | hpos
    · omega
    · obtain ⟨y, hy⟩ := hlenC (n - 1) (by omega)
      have : e.s + o + (n - 1) < C.size := by
        rcases Nat.lt_or_ge (e.s + o + (n - 1)) C.size with h' | h'
        · exact h'
        · simp [Array.getElem?_eq_none h'] at hy
      omega
  refine ⟨_, hlen, ?_, ?_, rfl⟩
  · refine relL.of_get (by rw [hlen]; simp; omega) fun j x y hx hy => ?_
    rw [List.getElem?_take] at hx hy
    split at hx
    · rename_i hj
      rw [if_pos hj] at hy
      rw [List.getElem?_drop] at hx hy
      obtain ⟨y', g1, g2⟩ := hc _ _ hx
      have : C.toList[e.s + o + j]? = some y' := by simpa [Nat.add_assoc] using g1
      rw [this] at hy; cases hy; exact g2
    · cases hx
  · intro j v hv
    rw [add_addr, cell_at hw]
    rw [List.getElem?_take] at hv
    split at hv
    · rw [List.getElem?_drop] at hv; simpa using hv
    · cases hv

theorem firstCells_of {a : Addr} {size n len cap : Nat} {vs : List Value} (hl : vs.length = n * size) (h : ∀ j v, vs[j]? = some v → w.cell? (a.add j) = some v) :
    ∀ w' : World, w'.heap = w.heap → (Builtin.firstCells size n (.slice (some a) len cap)).run P w' = .ok vs.toArray w' := by
  intro w' hw
  refine run_firstCells_some (P := P) w' size n _ len cap vs hl fun j v hj => ?_
  have := h j v hj
  simpa [World.cell?, hw] using this

/-- What append does with a source: it fits, or a new array is made. -/
structure App (P : Program) (t u ty e : TypeId) (i : TypeInfo) (zv x : Value) (n : Nat) (news : List Value) (w : World) : Prop where
  fit : ∀ {base : Option Addr} {sLen sCap : Nat} {w' : World}, sLen + n ≤ sCap → (match base with | some a => storeCells (a.add (sLen * i.size)) news | none => pure () : Sem Unit).run P w = .ok () w' →
    (Builtin.append_ #[t, u] ty #[.slice base sLen sCap, x]).run P w = .ok (.slice base (sLen + n) sCap) w'
  new : ∀ {base : Option Addr} {sLen sCap : Nat} {olds : List Value}, sCap < sLen + n → (sLen + n) * i.bytes ≤ 140737488355328 → sLen + n ≤ 9223372036854775807 →
    (∀ w' : World, w'.heap = w.heap → (Builtin.firstCells i.size sLen (.slice base sLen sCap)).run P w' = .ok olds.toArray w') →
    (Builtin.append_ #[t, u] ty #[.slice base sLen sCap, x]).run P w =
      .ok (.slice (some ⟨w.heap.size, 0, none⟩) (sLen + n) (grownCap w (sLen + n) sCap e))
        (w.drew.alloc (.cells (olds.toArray ++ (news.toArray ++ Builtin.zeroCells zv.cells (grownCap w (sLen + n) sCap e - (sLen + n)))) e))

theorem App.of_src {t u ty e : TypeId} {i : TypeInfo} {zv : Value} (ht : P.underlying t = some (.slice e)) (hi : P.info? e = some i) (hz : i.zero = some zv) {x : Value} {n : Nat} {news : List Value} (S : Src P u i.size x n news w) :
    App P t u ty e i zv x n news w := ⟨fun hf hs => run_append_fit ht hi S hf hs, fun hg hb hm ho => run_append_new ht hi hz S hg hb hm ho⟩

theorem run_zeros_fit {t u ty e : TypeId} {i : TypeInfo} {z : Value} {k' k : IntKind} (ht : P.underlying t = some (.slice e)) (hu : P.underlying u = some (.int k')) (hi : P.info? e = some i) (hz : i.zero = some z) {n : Nat}
    (hn : n * i.bytes ≤ 281474976710656) (hm : n ≤ 9223372036854775807) {base : Option Addr} {sLen sCap : Nat} (hfit : sLen + n ≤ sCap) {w' : World} (hsz : z.cells.size = i.size)
    (hst : (match base with | some a => storeCells (a.add (sLen * i.size)) (Builtin.zeroCells z.cells n).toList | none => pure () : Sem Unit).run P w = .ok () w') :
    (Builtin.append_ #[t, u] ty #[.slice base sLen sCap, .int k n]).run P w = .ok (.slice base (sLen + n) sCap) w' := by
  have wn : IntKind.i64.wrap (n : Int) = n := by rw [IntKind.wrap_i64]; omega
  have hneg : ¬ ((n : Int) < 0) := by omega
  have h2 : ¬ (281474976710656 < (n : Int) * (i.bytes : Int)) := by
    have : ((n * i.bytes : Nat) : Int) ≤ 281474976710656 := by omega
    rw [Int.natCast_mul] at this; omega
  by_cases h0 : n * i.size = 0
  · have hzc : Builtin.zeroCells z.cells n = #[] := by
      apply Array.eq_empty_of_size_eq_zero
      rw [size_zeroCells, hsz, h0]
    rw [hzc] at hst
    cases base with
    | none =>
      simp at hst
      subst hst
      simp [Builtin.append_, run_underlying ht, run_underlying hu, sizeOf, typeInfo, hi, asInt, asIntOf, wn, hneg, h2, hfit, h0]
    | some a =>
      simp [store_nothing] at hst
      subst hst
      simp [Builtin.append_, run_underlying ht, run_underlying hu, sizeOf, typeInfo, hi, asInt, asIntOf, wn, hneg, h2, hfit, h0, store_nothing]
  · cases base with
    | none =>
      simp at hst
      subst hst
      simp [Builtin.append_, run_underlying ht, run_underlying hu, sizeOf, typeInfo, hi, asInt, asIntOf, wn, hneg, h2, hfit, h0, zeroValue, hz]
    | some a =>
      simp at hst
      simp [Builtin.append_, run_underlying ht, run_underlying hu, sizeOf, typeInfo, hi, asInt, asIntOf, wn, hneg, h2, hfit, h0, zeroValue, hz, hst]

theorem run_zeros_new {t u ty e : TypeId} {i : TypeInfo} {z : Value} {k' k : IntKind} (ht : P.underlying t = some (.slice e)) (hu : P.underlying u = some (.int k')) (hi : P.info? e = some i) (hz : i.zero = some z) {n : Nat}
    (hn : n * i.bytes ≤ 281474976710656) (hm : n ≤ 9223372036854775807) {base : Option Addr} {sLen sCap : Nat} (hg : sCap < sLen + n) (hb : (sLen + n) * i.bytes ≤ 140737488355328) (hm2 : sLen + n ≤ 9223372036854775807) (hsz : z.cells.size = i.size) {olds : List Value}
    (hold : ∀ w' : World, w'.heap = w.heap → (Builtin.firstCells i.size sLen (.slice base sLen sCap)).run P w' = .ok olds.toArray w') :
    (Builtin.append_ #[t, u] ty #[.slice base sLen sCap, .int k n]).run P w =
      .ok (.slice (some ⟨w.heap.size, 0, none⟩) (sLen + n) (grownCap w (sLen + n) sCap e))
        (w.drew.alloc (.cells (olds.toArray ++ ((Builtin.zeroCells z.cells n).toList.toArray ++ Builtin.zeroCells z.cells (grownCap w (sLen + n) sCap e - (sLen + n)))) e)) := by
  have wn : IntKind.i64.wrap (n : Int) = n := by rw [IntKind.wrap_i64]; omega
  have hneg : ¬ ((n : Int) < 0) := by omega
  have h2 : ¬ (281474976710656 < (n : Int) * (i.bytes : Int)) := by
    have : ((n * i.bytes : Nat) : Int) ≤ 281474976710656 := by omega
    rw [Int.natCast_mul] at this; omega
  have h3 := hold w.drew rfl
  have hn' : ¬ (sLen + n ≤ sCap) := by omega
  have h63' : ¬ (9223372036854775807 < ((sLen : Int) + (n : Int))) := by omega
  have hfit := growslice_fits hg hb
  have h48' : ¬ (281474976710656 < Builtin.nextslicecap (sLen + n) sCap * i.bytes) := by omega
  by_cases h0 : n * i.size = 0
  · have hzc : Builtin.zeroCells z.cells n = #[] := by
      apply Array.eq_empty_of_size_eq_zero
      rw [size_zeroCells, hsz, h0]
    rw [hzc]
    simp [Builtin.append_, run_underlying ht, run_underlying hu, sizeOf, typeInfo, hi, hz, zeroValue, asInt, asIntOf, wn, hneg, h2, hn', h63', h48', h0, Question.forced, h3, newRow, grownCap]
  · simp [Builtin.append_, run_underlying ht, run_underlying hu, sizeOf, typeInfo, hi, hz, zeroValue, asInt, asIntOf, wn, hneg, h2, hn', h63', h48', h0, Question.forced, h3, newRow, grownCap]

/-- append. -/
theorem out_append (R : Rel μ0 h0 w0 μ lam L h w) {t u ty e : TypeId} (ht : telem P t = some e) {zs : List AV} (hz : zcells P e = some zs) {x : Value} {n : Nat} {xs : List AV} {news : List Value}
    (A : ∀ i zv, P.info? e = some i → i.zero = some zv → App P t u ty e i zv x n news w) (hx : relL μ xs news) (ho : oneAll xs = true) {s : Option SL} {vs : Value} (hs : AV.rel μ (.sl s) vs) {KV : Option SL → Heap → Prop}
    (hm : 0 < tbytes P e)
    (hk : PAppend (tsz P e) (tbytes P e) s n xs h KV) :
    ∃ v w' s' h' μ', (Builtin.append_ #[t, u] ty #[vs, x]).run P w = .ok v w' ∧ KV s' h' ∧ Rel μ0 h0 w0 μ' lam L h' w' ∧ Ren.le μ μ' ∧ AV.rel μ' (.sl s') v := by
  have hu := telem_some ht
  obtain ⟨i, hi⟩ := zcells_info hz
  obtain ⟨zv, hzr, hzc, hzl⟩ := zcells_zero hz w μ
  have hzi : i.zero = some zv := by
    simp only [zeroValue, typeInfo, Sem.run_bind, run_program, Result.andThen_ok, hi, Sem.run_pure] at hzr
    cases hz' : i.zero with
    | none => simp [hz'] at hzr
    | some v => simp [hz'] at hzr; rw [hzr]
  have hsz : tsz P e = i.size := tsz_info hi
  have hby : tbytes P e = i.bytes := by simp [tbytes, Program.bytesOf, hi]
  rw [hby] at hk hm
  have bound : ∀ k : Nat, k * i.bytes ≤ 140737488355328 → k ≤ 9223372036854775807 := by
    intro k hk'
    have : k * 1 ≤ k * i.bytes := Nat.mul_le_mul_left _ hm
    omega
  obtain ⟨hxl, hk⟩ := hk
  have hnl := hx.length
  have hzs : zv.cells.size = tsz P e := by have := hzc.length; simp at this; omega
  have A' := A i zv hi hzi
  -- a new array, real and abstract
  have fresh : ∀ {base : Option Addr} {sLen sCap : Nat} {olds : List Value} {old : List AV} {h1 : Heap}, vs = .slice base sLen sCap → sCap < sLen + n → (sLen + n) * i.bytes ≤ 140737488355328 → sLen + n ≤ 9223372036854775807 →
      (∀ w' : World, w'.heap = w.heap → (Builtin.firstCells i.size sLen (.slice base sLen sCap)).run P w' = .ok olds.toArray w') → olds.length = sLen * tsz P e → relL μ old olds → oneAll old = true → 0 < tsz P e → Rel μ0 h0 w0 μ lam L h1 w → h1.length = h.length →
      KV (some ⟨h.length, 0, sLen + n, sLen + n, tsz P e⟩) (h1 ++ [.cells (old ++ xs) true]) →
      ∃ v w' s' h' μ', (Builtin.append_ #[t, u] ty #[vs, x]).run P w = .ok v w' ∧ KV s' h' ∧ Rel μ0 h0 w0 μ' lam L h' w' ∧ Ren.le μ μ' ∧ AV.rel μ' (.sl s') v := by
    intro base sLen sCap olds old h1 hv hg hb hmm hold hol hor hoo hpos R1 hh1 hkk
    have hrun := A'.new hg hb hmm hold
    rw [hv]
    have hge := grownCap_ge w (sLen + n) sCap e
    have hol' := hor.length
    have hCs : (olds.toArray ++ (news.toArray ++ Builtin.zeroCells zv.cells (grownCap w (sLen + n) sCap e - (sLen + n)))).size = grownCap w (sLen + n) sCap e * tsz P e := by
      simp only [Array.size_append, List.size_toArray, size_zeroCells, hzs, hol, hnl, hxl]
      rw [← Nat.add_mul, ← Nat.add_mul]
      congr 1
      omega
    have RD : Rel μ0 h0 w0 μ lam L h1 w.drew := R1.drawn rfl rfl rfl rfl
    have hlen : (old ++ xs).length = (sLen + n) * tsz P e := by simp [hxl, ← hol', hol, Nat.add_mul]
    have RA := RD.alloc (old ++ xs) (olds.toArray ++ (news.toArray ++ Builtin.zeroCells zv.cells (grownCap w (sLen + n) sCap e - (sLen + n)))) e (by rw [hCs, hlen]; exact Nat.mul_le_mul_right _ hge) (oneAll_append hoo ho)
      (fun j y hj => by
        have hall := hor.append hx
        obtain ⟨z, hz1, hz2⟩ := hall.get hj
        refine ⟨z, ?_, hz2⟩
        have hjl := lt_of_get hz1
        have : (olds.toArray ++ (news.toArray ++ Builtin.zeroCells zv.cells (grownCap w (sLen + n) sCap e - (sLen + n)))).toList = (olds ++ news) ++ (Builtin.zeroCells zv.cells (grownCap w (sLen + n) sCap e - (sLen + n))).toList := by simp
        rw [← Array.getElem?_toList, this, List.getElem?_append_left hjl]
        exact hz1)
    refine ⟨_, _, _, _, _, hrun, hkk, RA, Ren.le_append _ _, ⟨w.heap.size, 0, grownCap w (sLen + n) sCap e * tsz P e⟩, grownCap w (sLen + n) sCap e, _, ?_, rfl, Nat.le_refl _, .inr rfl, fun h' => by simp at h'; omega, fun _ => ⟨hge, ?_⟩⟩
    · left; show (μ ++ [_])[h.length]? = _
      rw [← hh1, ← R1.heap.len, List.getElem?_append_right (Nat.le_refl _), Nat.sub_self, hCs]
      rfl
    · simp
  cases s with
  | none =>
    obtain rfl : vs = _ := hs
    simp only at hk
    split at hk
    · rename_i hn0
      subst hn0
      have hnews : news = [] := by apply List.eq_nil_of_length_eq_zero; omega
      refine ⟨_, w, none, h, μ, A'.fit (base := none) (sLen := 0) (sCap := 0) (by omega) rfl, hk, R, .refl _, rfl⟩
    · obtain ⟨g1, g2, hk⟩ := hk
      have := fresh (base := none) (sLen := 0) (sCap := 0) (olds := []) (old := []) (h1 := h) rfl (by omega) (by simpa using g1) (by simpa using bound n g1) (fun w' _ => by simp [run_firstCells_none]) (by simp) rfl rfl g2 R rfl (by simpa using hk)
      exact this
  | some s =>
    obtain ⟨m, c', q, hmm, rfl, hlc, hq, hx1, hx2⟩ := hs
    simp only at hk
    have hcap : s.cap ≤ c' := by
      by_cases ho' : s.opn = 0
      · rw [hx1 ho']; omega
      · exact (hx2 ho').1
    split at hk
    · rename_i hfit
      split at hk
      · rename_i c hc
        obtain ⟨hle, hk⟩ := hk
        by_cases hc0 : c' = 0
        · have hn0 : n = 0 := by omega
          have hxs : xs = [] := by apply List.eq_nil_of_length_eq_zero; rw [hxl, hn0]; simp
          have hnews : news = [] := by apply List.eq_nil_of_length_eq_zero; rw [hnl, hxs]; rfl
          subst hxs; subst hnews
          rw [splice_nil, set_same hc] at hk
          subst hn0
          refine ⟨_, w, _, h, μ, A'.fit (base := some q) (sLen := s.len) (sCap := c') (by omega) (store_nothing _), hk, R, .refl _, m, c', q, hmm, rfl, ?_, hq, hx1, hx2⟩
          simpa using hlc
        · have hq' := hq.resolve_left hc0
          obtain ⟨C, t', fz, k1, k2, k3, ko, k4, k5⟩ := R.heap.blk _ _ m hc (hmm.resolve_right hc0)
          have hst := run_storeCells (P := P) news w m.r (m.s + (s.o + s.len * tsz P e)) 0 C t' fz k1 (by omega) (oneAll_rel hx ho) (fun j _ => by rw [k5 rfl]; simp)
          have RS := R.store hc (hmm.resolve_right hc0) (o := s.o + s.len * tsz P e) hle hx ho k1
          refine ⟨_, _, _, _, μ, A'.fit (base := some q) (sLen := s.len) (sCap := c') (by omega) ?_, hk, RS, .refl _, m, c', q, hmm, rfl, ?_, hq, hx1, hx2⟩
          · simp only
            rw [hq', add_addr, ← hsz]
            have := hst
            simp only [Nat.add_zero] at this
            rw [show m.s + s.o + s.len * tsz P e = m.s + (s.o + s.len * tsz P e) by omega]
            exact this
          · simpa using hfit
      · obtain ⟨hn0, hk⟩ := hk
        subst hn0
        have hxs : xs = [] := by apply List.eq_nil_of_length_eq_zero; rw [hxl]; simp
        have hnews : news = [] := by apply List.eq_nil_of_length_eq_zero; rw [hnl, hxs]; rfl
        subst hxs; subst hnews
        exact ⟨_, w, _, h, μ, A'.fit (base := some q) (sLen := s.len) (sCap := c') (by omega) (store_nothing _), hk, R, .refl _, m, c', q, hmm, rfl, hlc, hq, hx1, hx2⟩
    · rename_i hgrow
      obtain ⟨g1, g2, hk⟩ := hk
      split at hk
      · rename_i old c rw' hold hc
        obtain ⟨c2, rw2, e1, e2, e3⟩ := cellsAt_some hold
        simp only at e1 e2 e3
        rw [hc] at e1; cases e1
        have hblk := fun hc0 : c' ≠ 0 => R.heap.blk _ _ m hc (hmm.resolve_right hc0)
        have hget : ∃ olds : List Value, olds.length = s.len * tsz P e ∧ relL μ old olds ∧ ∀ w' : World, w'.heap = w.heap → (Builtin.firstCells i.size s.len (.slice (some q) s.len c')).run P w' = .ok olds.toArray w' := by
          by_cases hc0 : c' = 0
          · have hl0 : s.len = 0 := by omega
            refine ⟨[], by simp [hl0], ?_, ?_⟩
            · have : old = [] := by rw [e3, hl0]; simp
              rw [this]; rfl
            · intro w' _
              rw [hl0]
              simp [Builtin.firstCells, loadCells, loadCellsFrom]
          · have hq' := hq.resolve_left hc0
            obtain ⟨C, t', fz, k1, k2, k3, ko, k4, k5⟩ := hblk hc0
            obtain ⟨olds, a1, a2, a3, _⟩ := cells_slice k1 k4 e2
            exact ⟨olds, a1, by rw [e3]; exact a2, by rw [hq']; exact firstCells_of (by rw [a1, hsz]) a3⟩
        obtain ⟨olds, a1, a2, a3⟩ := hget
        have hoo : oneAll old = true := by
          by_cases hc0 : c' = 0
          · have hl0 : s.len = 0 := by omega
            rw [e3, hl0]; simp [oneAll]
          · obtain ⟨C, t', fz, k1, k2, k3, ko, k4, k5⟩ := hblk hc0
            rw [e3]; exact oneAll_take (oneAll_drop ko _) _
        split at hk
        · rename_i hop
          have hc'c := hx1 hop
          exact fresh (h1 := h) rfl (by omega) g1 (bound _ g1) a3 a1 a2 hoo g2 R rfl hk
        · rename_i hop
          obtain ⟨hrw, hopn, hk⟩ := hk
          subst hrw
          have hx2' := hx2 hop
          have RK := R.kill s.b
          by_cases hreal : c' < s.len + n
          · exact fresh (h1 := h.set s.b .dead) rfl hreal g1 (bound _ g1) a3 a1 a2 hoo g2 RK (by simp) hk
          · have hc0 : c' ≠ 0 := by omega
            have hq' := hq.resolve_left hc0
            obtain ⟨C, t', fz, k1, k2, k3, ko, k4, k5⟩ := hblk hc0
            replace hmm := hmm.resolve_right hc0
            rw [hopn] at hx2'
            have hmul : (s.len + n) * tsz P e ≤ c' * tsz P e := Nat.mul_le_mul_right _ (by omega)
            have hroom : s.o + (s.len + n) * tsz P e ≤ m.n := by omega
            rw [Nat.add_mul] at hroom
            have hst := run_storeCells (P := P) news w m.r (m.s + (s.o + s.len * tsz P e)) 0 C t' fz k1 (by omega) (oneAll_rel hx ho) (fun j _ => by rw [k5 rfl]; simp)
            simp only [Nat.add_zero] at hst
            have hownb := R.evo.own s.b _ m hc rfl hmm
            have hfree : ∀ (b : Nat) (B : Blk) (e' : ME), (h.set s.b .dead)[b]? = some B → B.live = true → μ[b]? = some e' → e'.r ≠ m.r := by
              intro b B e' hb hl he'
              rw [List.getElem?_set] at hb
              split at hb
              · split at hb
                · cases hb; simp [Blk.live] at hl
                · cases hb
              · rename_i hne
                exact (R.heap.sep s.b b _ B m e' hne hc hb rfl hl hmm he').symm
            have hloc : ∀ k : Nat, lam[k]? ≠ some m.r := fun k hk' => R.locs.sep k m.r s.b _ m hk' hc rfl hmm rfl
            have RS := RK.scratch m.r (.cells (splice C.toList (m.s + (s.o + s.len * tsz P e)) news).toArray t' fz) hownb hfree hloc
            have hlt := heap_lt k1
            have hslen : (splice C.toList (m.s + (s.o + s.len * tsz P e)) news).length = C.size := by rw [splice_length (by simp; omega)]; simp
            have holdl : old.length = s.len * tsz P e := by rw [← a2.length, a1]
            have RA := RS.adopt ⟨m.r, m.s + s.o, m.n - s.o⟩ (.cells (old ++ xs) true) hownb (by simpa using hlt) (by
              refine ⟨_, t', fz, setBlk_same _ _ _ hlt, by simp [hslen]; omega, by simp [holdl, hxl]; omega, oneAll_append hoo ho, ?_, k5⟩
              intro j y hj
              simp only [List.getElem?_toArray]
              rw [splice_get (by simp; omega)]
              rw [List.getElem?_append] at hj
              split at hj
              · rename_i hjl
                rw [if_pos (by omega)]
                rw [e3, List.getElem?_take] at hj
                split at hj
                · rw [List.getElem?_drop] at hj
                  obtain ⟨z, b1, b2⟩ := k4 _ _ hj
                  exact ⟨z, by rw [← Nat.add_assoc] at b1; simpa using b1, AV.rel.mono (Ren.le_append _ _) _ _ b2⟩
                · cases hj
              · rename_i hjl
                rw [if_neg (by omega)]
                obtain ⟨z, b1, b2⟩ := hx.get hj
                have hb1 := lt_of_get b1
                rw [if_pos (by omega)]
                exact ⟨z, by rw [← b1]; congr 1; omega, AV.rel.mono (Ren.le_append _ _) _ _ b2⟩) hfree hloc
            refine ⟨_, _, _, _, _, A'.fit (base := some q) (sLen := s.len) (sCap := c') (by omega) ?_, hk, RA, Ren.le_append _ _, ⟨m.r, m.s + s.o, m.n - s.o⟩, c', q, ?_, rfl, Nat.le_refl _, .inr (by simp [hq']), fun h' => by simp at h'; omega, fun _ => ⟨by simp; omega, by simp; omega⟩⟩
            · simp only
              rw [hq', add_addr, ← hsz, show m.s + s.o + s.len * tsz P e = m.s + (s.o + s.len * tsz P e) by omega]
              exact hst
            · simp [R.heap.len]
      · exact hk.elim
end
end Go.Ab
