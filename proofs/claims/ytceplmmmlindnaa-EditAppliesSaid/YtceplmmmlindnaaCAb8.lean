/- The runs of the operations, third part: what is built, converted, cut, made. -/
import Derived.Test.YtceplmmmlindnaaCAb7
namespace Go.Ab
set_option linter.unusedSimpArgs false
set_option linter.unusedVariables false

section
variable {P : Program} {μ0 : Ren} {h0 : Heap} {w0 : World} {μ : Ren} {lam : List Nat} {L : Locs} {h : Heap} {w : World} {K : KO}

theorem foldl_splice : ∀ (l : List Value) (k : Nat) (C : Array Value) (off : Nat), off + k + l.length ≤ C.size →
    (l.zipIdx k).foldl (fun (cs : Array Value) (p : Value × Nat) => cs.setIfInBounds (off + p.2) p.1) C = (splice C.toList (off + k) l).toArray
  | [], k, C, off, _ => by simp [splice_nil]
  | v :: l, k, C, off, hl => by
    simp only [List.length_cons] at hl
    simp only [List.zipIdx_cons, List.foldl_cons]
    rw [foldl_splice l (k + 1) _ off (by simp; omega), Array.toList_setIfInBounds, ← Nat.add_assoc, splice_cons (by simp; omega)]

theorem relL.splice {μ : Ren} {xs : List AV} {l : List Value} (h : relL μ xs l) {ys : List AV} {m : List Value} (h' : relL μ ys m) (o : Nat) : relL μ (Ab.splice xs o ys) (Ab.splice l o m) := by
  unfold Ab.splice
  rw [h'.length]
  exact ((h.take o).append h').append (h.drop _)

theorem fill_rel {μ : Ren} {place : Nat → Option (Nat × Nat)} : ∀ {parts : List (Nat × AV)} {vs : List (Nat × Value)} {cells : List AV} {C : Array Value} {out : List AV},
    relL μ cells C.toList → vs.map (·.1) = parts.map (·.1) → relL μ (parts.map (·.2)) (vs.map (·.2)) → (∀ p ∈ parts, ∀ c, p.2 ≠ .tup c) → fillA place cells parts = some out →
    ∃ O, Instr.fill place C vs = some O ∧ relL μ out O.toList ∧ out.length = cells.length
  | [], vs, cells, C, out, hc, hi, hv, ht, hf => by
    simp [fillA] at hf; subst hf
    simp at hi; subst hi
    exact ⟨C, rfl, hc, rfl⟩
  | (i, x) :: parts, vs, cells, C, out, hc, hi, hv, ht, hf => by
    obtain ⟨y, ys, hl, hxy, hv'⟩ := hv
    cases vs with
    | nil => simp at hl
    | cons p vs =>
      obtain ⟨i', v⟩ := p
      simp at hi hl
      obtain ⟨rfl, hi⟩ := hi
      obtain ⟨rfl, rfl⟩ := hl
      simp only [fillA] at hf
      split at hf
      · cases hf
      · rename_i off size hp
        split at hf
        · cases hf
        · rename_i hcond
          simp at hcond
          obtain ⟨hsz, hle⟩ := hcond
          have hcells := AV.rel.cells hxy (ht (_, x) (by simp))
          have hcl := hcells.length
          have hvs : v.cells.size = size := by rw [← hsz, ← hcl]; simp
          have hCl := hc.length
          have hCs : C.size = cells.length := by simpa using hCl
          have hfold : v.cells.zipIdx.foldl (fun (cs : Array Value) (p : Value × Nat) => cs.setIfInBounds (off + p.2) p.1) C = (Ab.splice C.toList off v.cells.toList).toArray := by
            rw [← Array.foldl_toList, Array.toList_zipIdx]
            have := foldl_splice v.cells.toList 0 C off (by simp; omega)
            simpa using this
          have hsp := hc.splice hcells off
          obtain ⟨O, g1, g2, g3⟩ := fill_rel (C := (Ab.splice C.toList off v.cells.toList).toArray) (by simpa using hsp) hi hv' (fun p hp => ht p (by simp [hp])) hf
          refine ⟨O, ?_, g2, by rw [g3, splice_length (by omega)]⟩
          simp only [Instr.fill, hp]
          rw [if_neg (by simp; omega), hfold, g1]

theorem partsA_rel {ρ : List LV} {a : Act} (E : EnvRel μ lam ρ a.tmps) {ps : Array (Nat × Operand)} {parts : List (Nat × AV)} (hp : partsA ρ ps = some parts) :
    ((ps.map fun (i, x) => (i, a.eval x)).toList.map (·.1)) = parts.map (·.1) ∧ relL μ (parts.map (·.2)) ((ps.map fun (i, x) => (i, a.eval x)).toList.map (·.2)) := by
  simp only [partsA, Option.map_eq_some_iff] at hp
  obtain ⟨l, hl, rfl⟩ := hp
  have := E.vals _ _ hl
  have hlen := this.length
  have hle : l.length = ps.toList.length := by simpa using hlen.symm
  constructor
  · rw [List.map_fst_zip (by simp [hle])]
    simp [Function.comp_def]
  · rw [List.map_snd_zip (by simp [hle])]
    simpa [Function.comp_def] using this

theorem noTups_elim {l : List (Nat × AV)} (h : noTups l = true) : ∀ p ∈ l, ∀ c, p.2 ≠ .tup c := by
  intro p hp c hc
  simp only [noTups, List.all_eq_true] at h
  have := h p hp
  rw [hc] at this
  simp [isTup] at this

theorem mapM_places {fs : Array Field} (hfs : ∀ f ∈ fs.toList, ∃ i, P.info? f.type = some i) :
    (fs.mapM fun f => do pure (f.offset, ← sizeOf f.type) : Sem (Array (Nat × Nat))).run P w = .ok (fs.map fun f => (f.offset, tsz P f.type)) w := by
  have key : ∀ l : List Field, (∀ f ∈ l, ∃ i, P.info? f.type = some i) → (l.mapM fun f => do pure (f.offset, ← sizeOf f.type) : Sem (List (Nat × Nat))).run P w = .ok (l.map fun f => (f.offset, tsz P f.type)) w := by
    intro l
    induction l with
    | nil => intro _; rfl
    | cons f l ih =>
      intro hl
      obtain ⟨i, hi⟩ := hl f (by simp)
      rw [List.mapM_cons]
      simp only [Sem.run_bind, run_sizeOf' hi, Result.andThen_ok, Sem.run_pure, ih (fun g hg => hl g (by simp [hg])), List.map_cons]
  rw [Array.mapM_eq_mapM_toList, Sem.run_map, key _ hfs]
  simp only [Result.andThen_ok]
  rw [← Array.toList_map, Array.toArray_toList]

theorem out_build (R : Rel μ0 h0 w0 μ lam L h w) {ρ : List LV} {a : Act} (E : EnvRel μ lam ρ a.tmps) {t : TypeId} {ps : Array (Nat × Operand)}
    (hk : match tz P t, P.underlying t, partsA ρ ps with
    | some (.agg zs), some (.struct fs), some parts =>
      need (noTups parts && fs.toList.all fun f => (P.info? f.type).isSome) <|
      match fillA (fun i => (fs[i]?).map fun f => (f.offset, tsz P f.type)) zs parts with
      | some cells => K (.val (.agg cells)) L h
      | none => False
    | some (.agg zs), some (.array _ e), some parts =>
      need (noTups parts && (P.info? e).isSome) <|
      match fillA (fun i => some (i * tsz P e, tsz P e)) zs parts with
      | some cells => K (.val (.agg cells)) L h
      | none => False
    | _, _, _ => False) :
    Out P μ0 h0 w0 μ lam w (Instr.build t (ps.map fun (i, x) => (i, a.eval x))) K := by
  split at hk
  · rename_i zs fs parts hz hu hp
    obtain ⟨h1, hk⟩ := need_elim hk
    simp only [Bool.and_eq_true, List.all_eq_true, Option.isSome_iff_exists] at h1
    split at hk
    · rename_i cells hf
      obtain ⟨i, zv, hi, hzv, hz'⟩ := tz_info hz
      obtain ⟨Z, hZ, hZr⟩ := ofV_rel μ 4 _ _ hz'
      obtain ⟨e1, e2⟩ := partsA_rel E hp
      obtain ⟨O, g1, g2, g3⟩ := fill_rel (C := Z) hZr e1 e2 (noTups_elim h1.1) hf
      refine Out.same R (v := .agg O) ?_ hk ⟨O, rfl, g2⟩
      unfold Instr.build
      have hzr : (zeroValue t).run P w = .ok zv w := by
        simp only [zeroValue, typeInfo, Sem.run_bind, run_program, Result.andThen_ok, hi, Sem.run_pure, hzv]
      rw [Sem.run_bind, hzr]
      simp only [Result.andThen_ok]
      rw [Sem.run_bind, run_underlying hu]
      simp only [Result.andThen_ok]
      rw [Sem.run_bind, mapM_places h1.2]
      simp only [Result.andThen_ok]
      have hplace : (fun i : Nat => (fs.map fun f : Field => (f.offset, tsz P f.type))[i]?) = (fun i : Nat => (fs[i]?).map fun f : Field => (f.offset, tsz P f.type)) := by
        funext i; simp
      rw [hplace]
      have hzc : zv.cells = Z := by rw [hZ]; rfl
      rw [hzc, g1]
      rfl
    · exact hk.elim
  · rename_i zs n e parts hz hu hp
    obtain ⟨h1, hk⟩ := need_elim hk
    simp only [Bool.and_eq_true, Option.isSome_iff_exists] at h1
    obtain ⟨h1, ei, hei⟩ := h1
    split at hk
    · rename_i cells hf
      obtain ⟨i, zv, hi, hzv, hz'⟩ := tz_info hz
      obtain ⟨Z, hZ, hZr⟩ := ofV_rel μ 4 _ _ hz'
      obtain ⟨e1, e2⟩ := partsA_rel E hp
      obtain ⟨O, g1, g2, g3⟩ := fill_rel (C := Z) hZr e1 e2 (noTups_elim h1) hf
      refine Out.same R (v := .agg O) ?_ hk ⟨O, rfl, g2⟩
      unfold Instr.build
      have hzr : (zeroValue t).run P w = .ok zv w := by
        simp only [zeroValue, typeInfo, Sem.run_bind, run_program, Result.andThen_ok, hi, Sem.run_pure, hzv]
      rw [Sem.run_bind, hzr]
      simp only [Result.andThen_ok]
      rw [Sem.run_bind, run_underlying hu]
      simp only [Result.andThen_ok]
      rw [Sem.run_bind, run_sizeOf' hei]
      simp only [Result.andThen_ok]
      have hzc : zv.cells = Z := by rw [hZ]; rfl
      rw [hzc, g1]
      rfl
    · exact hk.elim
  · exact hk.elim

theorem zeros_list (z : Array Value) (n : Nat) : ((Array.range (n * z.size)).map fun i => z[i % z.size]!).toList = (List.replicate n z.toList).flatten := by
  have key : ∀ n, (List.range (n * z.size)).map (fun i => z[i % z.size]!) = (List.replicate n z.toList).flatten := by
    intro n
    induction n with
    | zero => simp
    | succ n ih =>
      rw [show (n + 1) * z.size = z.size + n * z.size by rw [Nat.add_mul]; omega, List.range_add, List.map_append, List.map_map, List.replicate_succ, List.flatten_cons, ← ih]
      congr 1
      · apply List.ext_getElem?
        intro i
        rw [List.getElem?_map]
        by_cases hi : i < z.size
        · rw [List.getElem?_range hi]
          simp [Nat.mod_eq_of_lt hi, hi]
        · rw [List.getElem?_eq_none (by simpa using hi)]
          simp; omega
      · apply List.map_congr_left
        intro i _
        simp
  rw [Array.toList_map, Array.toList_range, key]

theorem relL.replicate {μ : Ren} {zs : List AV} {l : List Value} (h : relL μ zs l) : ∀ n, relL μ (List.replicate n zs).flatten (List.replicate n l).flatten
  | 0 => rfl
  | n + 1 => by simp only [List.replicate_succ, List.flatten_cons]; exact h.append (relL.replicate h n)

theorem telem_some {t e : TypeId} (h : telem P t = some e) : P.underlying t = some (.slice e) := by
  simp only [telem] at h
  split at h
  · rename_i e' hu; cases h; exact hu
  · cases h

theorem zcells_info {t : TypeId} {zs : List AV} (hz : zcells P t = some zs) : ∃ i, P.info? t = some i := by
  simp only [zcells] at hz
  split at hz
  · rename_i z hz'
    obtain ⟨i, v, hi, _⟩ := tz_info hz'
    exact ⟨i, hi⟩
  · cases hz

/-- A new block in the heap, of known cells. -/
theorem out_row (R : Rel μ0 h0 w0 μ lam L h w) {t : TypeId} {c : List AV} {C : Array Value} (hc : relL μ c C.toList) (ho : oneAll c = true) {n : Nat} (hk : K (.val (.sl (some ⟨h.length, 0, n, n, 0⟩))) L (h ++ [.cells c true])) :
    Out P μ0 h0 w0 μ lam w (do pure (.slice (some (← newRow t C)) n n)) K := by
  have hl := hc.length
  have hsz : C.size = c.length := by simpa using hl
  have hrun : (do pure (.slice (some (← newRow t C)) n n) : Sem Value).run P w = .ok (.slice (some ⟨w.heap.size, 0, none⟩) n n) (w.alloc (.cells C t)) := by
    simp [newRow]
  refine ⟨_, _, _, _, _, _, lam, hrun, hk, R.alloc c C t (by omega) ho (fun i x hx => ?_), Ren.le_append _ _, lamLe.refl _, ⟨w.heap.size, 0, C.size⟩, n, _, ?_, rfl, Nat.le_refl _, .inr rfl, fun _ => rfl, fun hne => absurd rfl hne⟩
  · obtain ⟨y, hy, hxy⟩ := hc.get hx
    exact ⟨y, by simpa using hy, hxy⟩
  · simp [R.heap.len]

theorem out_buildSlice (R : Rel μ0 h0 w0 μ lam L h w) {ρ : List LV} {a : Act} (E : EnvRel μ lam ρ a.tmps) {t : TypeId} {n : Nat} {ps : Array (Nat × Operand)}
    (hk : match telem P t with
    | none => False
    | some e =>
      match zcells P e, partsA ρ ps with
      | some zs, some parts =>
        need (decide (n * tsz P e ≤ 16777216) && noTups parts) <|
        match fillA (fun i => some (i * tsz P e, tsz P e)) (List.replicate n zs).flatten parts with
        | some cells => need (oneAll cells) (K (.val (.sl (some ⟨h.length, 0, n, n, 0⟩))) L (h ++ [.cells cells true]))
        | none => False
      | _, _ => False) :
    Out P μ0 h0 w0 μ lam w (Instr.buildSlice t n (ps.map fun (i, x) => (i, a.eval x))) K := by
  split at hk
  · exact hk.elim
  · rename_i e he
    have hu := telem_some he
    split at hk
    · rename_i zs parts hz hp
      obtain ⟨h1, hk⟩ := need_elim hk
      simp at h1
      split at hk
      · rename_i cells hf
        obtain ⟨ho, hk⟩ := need_elim hk
        obtain ⟨zv, hzr, hzc, hzl⟩ := zcells_zero hz w μ
        obtain ⟨ei, hei⟩ := zcells_info hz
        obtain ⟨e1, e2⟩ := partsA_rel E hp
        have hzsz : zv.cells.size = tsz P e := by have := hzc.length; simp at this; omega
        have hZ : relL μ (List.replicate n zs).flatten (((Array.range (n * tsz P e)).map fun i => zv.cells[i % zv.cells.size]!)).toList := by
          rw [← hzsz, zeros_list]; exact relL.replicate hzc n
        obtain ⟨O, g1, g2, g3⟩ := fill_rel hZ e1 e2 (noTups_elim h1.2) hf
        obtain ⟨v', w', lv, L', h', μ', lam', hr, rest⟩ := out_row (P := P) (t := e) R g2 ho hk
        refine ⟨v', w', lv, L', h', μ', lam', ?_, rest⟩
        rw [← hr]
        unfold Instr.buildSlice
        rw [Sem.run_bind, run_underlying hu]
        simp only [Result.andThen_ok]
        rw [Sem.run_bind, run_sizeOf' hei]
        simp only [Result.andThen_ok]
        rw [if_neg (by omega)]
        by_cases hn : n * tsz P e = 0
        · rw [if_pos hn]
          have : (Array.range (n * tsz P e)).map (fun i => (#[] : Array Value)[i % (#[] : Array Value).size]!) = (Array.range (n * tsz P e)).map fun i => zv.cells[i % zv.cells.size]! := by rw [hn]; simp
          simp only [Sem.run_bind, Sem.run_pure, Result.andThen_ok]
          rw [this, g1]
          simp only [Sem.run_bind, Sem.run_pure]
        · rw [if_neg hn]
          simp only [Sem.run_bind, hzr, Sem.run_pure, Result.andThen_ok]
          rw [g1]
          simp only [Sem.run_bind, Sem.run_pure]
      · exact hk.elim
    · exact hk.elim

theorem out_makeFunc (R : Rel μ0 h0 w0 μ lam L h w) {ρ : List LV} {a : Act} (E : EnvRel μ lam ρ a.tmps) {fn : Fn} {f c : Array Operand}
    (hk : match vals ρ f.toList, vals ρ c.toList with | some x, some y => K (.val (.func fn x y)) L h | _, _ => False) :
    Out P μ0 h0 w0 μ lam w (Instr.makeFunc fn (f.map a.eval) (c.map a.eval)) K := by
  split at hk
  · rename_i x y hx hy
    exact Out.same R rfl hk ⟨_, _, rfl, by simpa using E.vals _ _ hx, by simpa using E.vals _ _ hy⟩
  · exact hk.elim

theorem out_makeInterface (R : Rel μ0 h0 w0 μ lam L h w) {ρ : List LV} {a : Act} (E : EnvRel μ lam ρ a.tmps) {t : TypeId} {x : Operand}
    (hk : match P.underlying t, ev ρ x with | some (.interface _), _ => False | some _, .val v => K (.val (.iface t v)) L h | _, _ => False) :
    Out P μ0 h0 w0 μ lam w (Instr.makeInterface t (a.eval x)) K := by
  split at hk
  · exact hk.elim
  · rename_i d v hne hd hx
    refine Out.same R ?_ hk ⟨_, rfl, E.val hx⟩
    unfold Instr.makeInterface
    rw [Sem.run_bind, run_underlying hd]
    simp only [Result.andThen_ok]
    rfl
  · exact hk.elim

theorem run_sliceBound {x : Value} {y : Nat} {c : BoundsCode} {k : IntKind} {i : Int} (hx : x = .int k i) (h0 : 0 ≤ i) (h1 : i ≤ y) : (Instr.sliceBound x y c).run P w = .ok i.toNat w := by
  subst hx
  simp [Instr.sliceBound, asIntOf, h0, h1]

theorem optI_some {ρ : List LV} {a : Act} (E : EnvRel μ lam ρ a.tmps) {x : Option Operand} {r : Option Int} (h : optI ρ x = some r) :
    (r = none ∧ x.map a.eval = none) ∨ ∃ i k, r = some i ∧ x.map a.eval = some (.int k i) := by
  cases x with
  | none => simp [optI] at h; exact .inl ⟨h.symm, rfl⟩
  | some x =>
    simp only [optI, Option.map_eq_some_iff] at h
    obtain ⟨i, hi, rfl⟩ := h
    obtain ⟨k, hk⟩ := E.int hi
    exact .inr ⟨i, k, rfl, by simp [hk]⟩

/-- The three bounds of a cut. -/
theorem run_sliceBounds {isSlice : Bool} {len cap : Nat} {lo hi mx : Option Value} {l : Option Int} {hh m : Option Int}
    (hl : (l = none ∧ lo = none) ∨ ∃ i k, l = some i ∧ lo = some (.int k i)) (hhh : (hh = none ∧ hi = none) ∨ ∃ i k, hh = some i ∧ hi = some (.int k i))
    (hm : (m = none ∧ mx = none) ∨ ∃ i k, m = some i ∧ mx = some (.int k i)) (hmh : m.isSome → hh.isSome)
    (h0 : 0 ≤ l.getD 0) (h1 : l.getD 0 ≤ hh.getD len) (h2 : hh.getD len ≤ m.getD cap) (h3 : m.getD cap ≤ cap) :
    (Instr.sliceBounds isSlice len cap lo hi mx).run P w = .ok ((l.getD 0).toNat, (hh.getD len).toNat, (m.getD cap).toNat) w := by
  unfold Instr.sliceBounds
  rcases hm with ⟨rfl, rfl⟩ | ⟨mi, mk, rfl, rfl⟩
  · rcases hhh with ⟨rfl, rfl⟩ | ⟨hi', hk', rfl, rfl⟩
    · rcases hl with ⟨rfl, rfl⟩ | ⟨li, lk, rfl, rfl⟩
      · simp
      · simp only [Option.getD_some, Option.getD_none] at *
        simp [run_sliceBound rfl h0 h1]
    · simp only [Option.getD_some, Option.getD_none] at *
      have hpos : 0 ≤ hi' := by omega
      have e1 : (hi'.toNat : Int) = hi' := Int.toNat_of_nonneg hpos
      rcases hl with ⟨rfl, rfl⟩ | ⟨li, lk, rfl, rfl⟩
      · simp [run_sliceBound rfl hpos h2]
      · simp only [Option.getD_some, Option.getD_none] at *
        simp [run_sliceBound rfl hpos h2, run_sliceBound rfl h0 (show li ≤ (hi'.toNat : Int) by omega)]
  · rcases hhh with ⟨rfl, rfl⟩ | ⟨hi', hk', rfl, rfl⟩
    · simp at hmh
    · simp only [Option.getD_some, Option.getD_none] at *
      have hpos : 0 ≤ hi' := by omega
      have mpos : 0 ≤ mi := by omega
      rcases hl with ⟨rfl, rfl⟩ | ⟨li, lk, rfl, rfl⟩
      · simp [run_sliceBound rfl mpos h3, run_sliceBound rfl hpos (show hi' ≤ (mi.toNat : Int) by omega)]
      · simp only [Option.getD_some, Option.getD_none] at *
        simp [run_sliceBound rfl mpos h3, run_sliceBound rfl hpos (show hi' ≤ (mi.toNat : Int) by omega), run_sliceBound rfl h0 (show li ≤ (hi'.toNat : Int) by omega)]
end
end Go.Ab
