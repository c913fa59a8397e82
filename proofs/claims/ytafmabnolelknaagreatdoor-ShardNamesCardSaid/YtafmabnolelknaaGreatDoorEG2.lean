import Derived.Test.YtafmabnolelknaaGreatDoorEG1
import Derived.Laws.Entries
import Derived.ChangeKeysEq
namespace Go.Ab
set_option linter.unusedSimpArgs false
set_option linter.unusedVariables false
structure EnvRel (μ : Ren) (lam : List Nat) (ρ : List LV) (tmps : Array Value) : Prop where
 len : ρ.length = tmps.size
 get : ∀ (t : Nat) (lv : LV), ρ[t]? = some lv → lv.rel μ lam (tmps.getD t undef)
theorem EnvRel.mono {μ μ' : Ren} {lam lam' : List Nat} {ρ : List LV} {tmps : Array Value} (E : EnvRel μ lam ρ tmps) (h : Ren.le μ μ') (hl : lamLe lam lam') : EnvRel μ' lam' ρ tmps :=
 ⟨E.len, fun t lv ht => (E.get t lv ht).mono h hl⟩
theorem EnvRel.ev {μ : Ren} {lam : List Nat} {ρ : List LV} {a : Act} (E : EnvRel μ lam ρ a.tmps) (x : Operand) : (ev ρ x).rel μ lam (a.eval x) := by
 cases x with
 | tmp t =>
  simp only [Ab.ev, Act.eval, List.getD]
  cases h : ρ[t]? with
  | none => simp [LV.rel]
  | some lv => simpa using E.get t lv h
 | const v =>
  simp only [Ab.ev, Act.eval]
  split
  ·rename_i x hx; exact ofV_rel μ 4 v x hx
  ·trivial
 | global g => trivial
 | func f => exact ⟨#[], #[], rfl, rfl, rfl⟩
theorem EnvRel.val {μ : Ren} {lam : List Nat} {ρ : List LV} {a : Act} (E : EnvRel μ lam ρ a.tmps) {x : Operand} {v : AV} (h : Ab.ev ρ x = .val v) : v.rel μ (a.eval x) := by
 have := E.ev x; rw [h] at this; exact this
theorem EnvRel.loc {μ : Ren} {lam : List Nat} {ρ : List LV} {a : Act} (E : EnvRel μ lam ρ a.tmps) {x : Operand} {k o : Nat} (h : Ab.ev ρ x = .loc k o) :
  ∃ r, lam[k]? = some r ∧ a.eval x = .pointer (some ⟨r, o, none⟩) := by
 have := E.ev x; rw [h] at this; exact this
theorem EnvRel.vals {μ : Ren} {lam : List Nat} {ρ : List LV} {a : Act} (E : EnvRel μ lam ρ a.tmps) : ∀ (os : List Operand) (l : List AV), Ab.vals ρ os = some l → relL μ l (os.map a.eval)
 | [], l, h => by simp [Ab.vals] at h; subst h; rfl
 | o :: os, l, h => by
  simp only [Ab.vals] at h
  split at h
  ·rename_i x l' hx hl
   cases h
   exact ⟨_, _, rfl, E.val hx, E.vals os l' hl⟩
  ·cases h
theorem EnvRel.int {μ : Ren} {lam : List Nat} {ρ : List LV} {a : Act} (E : EnvRel μ lam ρ a.tmps) {x : Operand} {n : Int} (h : evI ρ x = some n) : ∃ k, a.eval x = .int k n := by
 simp only [evI] at h
 split at h
 ·rename_i k m hx; cases h; exact ⟨k, E.val hx⟩
 ·cases h
def Out (P : Program) (μ0 : Ren) (h0 : Heap) (w0 : World) (μ : Ren) (lam : List Nat) (w : World) (s : Sem Value) (K : KO) : Prop :=
 ∃ (v : Value) (w' : World) (lv : LV) (L' : Locs) (h' : Heap) (μ' : Ren) (lam' : List Nat),
  s.run P w = .ok v w' ∧ K lv L' h' ∧ Rel μ0 h0 w0 μ' lam' L' h' w' ∧ Ren.le μ μ' ∧ lamLe lam lam' ∧ lv.rel μ' lam' v
section
variable {P : Program} {μ0 : Ren} {h0 : Heap} {w0 : World} {μ : Ren} {lam : List Nat} {L : Locs} {h : Heap} {w : World} {K : KO}
theorem lamLe.refl (l : List Nat) : lamLe l l := fun _ _ h => h
theorem Out.same {s : Sem Value} (R : Rel μ0 h0 w0 μ lam L h w) {lv : LV} {v : Value} (hr : s.run P w = .ok v w) (hk : K lv L h) (hv : lv.rel μ lam v) : Out P μ0 h0 w0 μ lam w s K :=
 ⟨v, w, lv, L, h, μ, lam, hr, hk, R, .refl _, .refl _, hv⟩
theorem tz_info {t : TypeId} {z : AV} (hz : tz P t = some z) : ∃ i v, P.info? t = some i ∧ i.zero = some v ∧ ofV 4 v = some z := by
 simp only [tz, Option.bind_eq_some_iff] at hz
 obtain ⟨v, ⟨i, hi, hv⟩, hz⟩ := hz
 exact ⟨i, v, hi, hv, hz⟩
theorem okTy_parts {t : TypeId} {z : AV} (h : okTy P t z = true) : z.cells.length = tsz P t ∧ isAgg z = tagg P t ∧ (∃ d, P.underlying t = some d) ∧ ∀ c, z ≠ .tup c := by
 simp only [okTy, Bool.and_eq_true, beq_iff_eq, Option.isSome_iff_exists] at h
 exact ⟨h.1.1.1, h.1.1.2, h.1.2, fun c hc => by rw [hc] at h; simp [isTup] at h⟩
theorem run_isAgg {t : TypeId} {d : TypeDesc} (hd : P.underlying t = some d) : (Go.isAgg t).run P w = .ok (tagg P t) w := by
 unfold Go.isAgg tagg
 rw [Sem.run_bind, run_underlying hd]
 cases d <;> simp [hd]
theorem tsz_info {t : TypeId} {i : TypeInfo} (hi : P.info? t = some i) : tsz P t = i.size := by simp [tsz, Program.cellsOf, hi]
theorem run_sizeOf' {t : TypeId} {i : TypeInfo} (hi : P.info? t = some i) : (sizeOf t).run P w = .ok (tsz P t) w := run_sizeOf w hi
theorem load_part {μ : Ren} {r s : Nat} {C : Array Value} {t : TypeId} {fz : Nat × Nat} {c : List AV} (hw : w.heap[r]? = some (.cells C t fz))
  (hc : ∀ (i : Nat) (x : AV), c[i]? = some x → ∃ y, C[s + i]? = some y ∧ x.rel μ y) {ty : TypeId} {z : AV} (hz : tz P ty = some z) (hok : okTy P ty z = true)
  {o : Nat} {KV : AV → Prop} (hp : part z c o KV) :
  ∃ v x, (loadVar ty ⟨r, s + o, none⟩).run P w = .ok v w ∧ KV x ∧ x.rel μ v := by
 obtain ⟨i, zv, hi, hzv, hz'⟩ := tz_info hz
 obtain ⟨h1, h2, ⟨d, hd⟩, _⟩ := okTy_parts hok
 have hag := run_isAgg (w := w) hd
 simp only [part] at hp
 cases hg : isAgg z with
 | true =>
  rw [hg] at hp h2
  simp only [need] at hp
  split at hp
  ·rename_i hle
   simp at hle
   have hcells : ∀ j v, ((C.toList.drop (s + o)).take (tsz P ty))[j]? = some v → w.cell? ((⟨r, s + o, none⟩ : Addr).add j) = some v := by
    intro j v hv
    rw [add_addr, cell_at hw]
    rw [List.getElem?_take] at hv
    split at hv
    ·rw [List.getElem?_drop] at hv; simpa using hv
    ·cases hv
   have hlenC : ∀ j, j < tsz P ty → ∃ y, C[s + o + j]? = some y := by
    intro j hj
    have : o + j < c.length := by omega
    obtain ⟨y, hy, _⟩ := hc (o + j) c[o + j] (by simp [this])
    exact ⟨y, by rw [← hy]; congr 1; omega⟩
   have hlen : ((C.toList.drop (s + o)).take (tsz P ty)).length = tsz P ty := by
    simp only [List.length_take, List.length_drop, Array.length_toList]
    rcases Nat.eq_zero_or_pos (tsz P ty) with h0 | hpos
    ·omega
    ·obtain ⟨y, hy⟩ := hlenC (tsz P ty - 1) (by omega)
     have : s + o + (tsz P ty - 1) < C.size := by
      rcases Nat.lt_or_ge (s + o + (tsz P ty - 1)) C.size with h' | h'
      ·exact h'
      ·simp [Array.getElem?_eq_none h'] at hy
     omega
   have hrun := run_loadCells_list (P := P) w ⟨r, s + o, none⟩ _ hcells
   rw [hlen] at hrun
   refine ⟨.agg ((C.toList.drop (s + o)).take (tsz P ty)).toArray, _, ?_, hp, ?_⟩
   ·unfold loadVar
    rw [Sem.run_bind, hag, ← h2]
    simp [run_sizeOf' hi, hrun]
   ·refine ⟨_, rfl, ?_⟩
    simp only
    rw [h1]
    refine relL.of_get (by simp only [List.length_take, List.length_drop] at hlen ⊢; rw [hlen]; omega) fun j x y hx hy => ?_
    rw [List.getElem?_take] at hx hy
    split at hx
    ·rename_i hj
     rw [if_pos hj] at hy
     rw [List.getElem?_drop] at hx hy
     obtain ⟨y', g1, g2⟩ := hc _ _ hx
     have : C.toList[s + o + j]? = some y' := by simpa [Nat.add_assoc] using g1
     rw [this] at hy; cases hy; exact g2
    ·cases hx
  ·exact hp.elim
 | false =>
  rw [hg] at hp h2
  simp only at hp
  split at hp
  ·rename_i v hv
   obtain ⟨y, hy, hxy⟩ := hc o v hv
   refine ⟨y, v, ?_, hp, hxy⟩
   unfold loadVar
   rw [Sem.run_bind, hag, ← h2]
   have hcell : w.cell? ⟨r, s + o, none⟩ = some y := by rw [cell_at hw, hy]
   simp [hcell]
  ·exact hp.elim
theorem exL_elim : ∀ {zs : List AV} {KL : List AV → Prop}, exL zs KL → ∃ l, KL l ∧ l.length = zs.length ∧ (∀ x ∈ l, x.one = true)
 | [], KL, h => ⟨[], h, rfl, by simp⟩
 | z :: zs, KL, h => by
  cases z <;> simp only [exL] at h
  all_goals first
   | (obtain ⟨n, hv, h⟩ := h; obtain ⟨l, h1, h2, h3⟩ := exL_elim h; exact ⟨_, h1, by simp [h2], by intro x hx; simp at hx; rcases hx with rfl | hx; (first | exact hv | rfl); exact h3 x hx⟩)
   | (obtain ⟨n, h⟩ := h; obtain ⟨l, h1, h2, h3⟩ := exL_elim h; exact ⟨_, h1, by simp [h2], by intro x hx; simp at hx; rcases hx with rfl | hx; rfl; exact h3 x hx⟩)
theorem cells_of_one {v : AV} (h : v.one = true) : v.cells = [v] := by cases v <;> simp [AV.one] at h <;> rfl
theorem isAgg_of_one {v : AV} (h : v.one = true) : isAgg v = false := by cases v <;> simp [AV.one] at h <;> rfl
theorem exV_elim {z : AV} {KV : AV → Prop} (hz : ∀ c, z ≠ .tup c) (h : exV z KV) : ∃ v, KV v ∧ isAgg v = isAgg z ∧ v.cells.length = z.cells.length ∧ (∀ x ∈ v.cells, x.one = true) := by
 cases z <;> simp only [exV] at h
 case tup c => exact absurd rfl (hz c)
 case agg zs => obtain ⟨l, h1, h2, h3⟩ := exL_elim h; exact ⟨_, h1, rfl, h2, h3⟩
 all_goals
  obtain ⟨l, h1, h2, h3⟩ := exL_elim h
  obtain ⟨x, rfl⟩ : ∃ x, l = [x] := by
   match l, h2 with
   | [x], _ => exact ⟨x, rfl⟩
  have hx := h3 x (by simp)
  exact ⟨x, h1, by rw [isAgg_of_one hx]; rfl, by rw [cells_of_one hx]; rfl, by rw [cells_of_one hx]; simpa using hx⟩
theorem cellsAt_some {h : Heap} {p : PA} {n : Nat} {l : List AV} (hl : cellsAt h p n = some l) : ∃ c rw, h[p.b]? = some (.cells c rw) ∧ p.o + n ≤ c.length ∧ l = (c.drop p.o).take n := by
 simp only [cellsAt] at hl
 split at hl
 ·rename_i c rw hc
  split at hl
  ·cases hl; exact ⟨c, rw, hc, by assumption, rfl⟩
  ·cases hl
 ·cases hl
theorem PLoad_part {z : AV} {h : Heap} {p : PA} {KV : AV → Prop} (hz : ∀ c, z ≠ .tup c) (hp : PLoad z h p KV) : ∃ c rw, h[p.b]? = some (.cells c rw) ∧ part z c p.o KV := by
 obtain ⟨v, ⟨h1, h2⟩, h3, h4, h5⟩ := exV_elim hz hp
 obtain ⟨c, rw, g1, g2, g3⟩ := cellsAt_some h1
 refine ⟨c, rw, g1, ?_⟩
 unfold part
 cases hg : isAgg z with
 | true =>
  rw [hg] at h3
  cases v <;> simp [isAgg] at h3
  rename_i cs
  have g4 : cs = (c.drop p.o).take z.cells.length := g3
  simp only [need, g2, decide_true, ← g4]
  exact h2
 | false =>
  rw [hg] at h3
  have hzl : z.cells.length = 1 := by cases z <;> simp [isAgg] at hg <;> simp [AV.cells]
  have hvc : v.cells = [v] := by cases v <;> simp [isAgg] at h3 <;> rfl
  rw [hvc, hzl] at g3
  have : c[p.o]? = some v := by
   have := congrArg (fun l => l[0]?) g3
   simp [List.getElem?_take, List.getElem?_drop] at this
   exact this.symm
  simp [this, h2]
end
section
variable {P : Program} {μ0 : Ren} {h0 : Heap} {w0 : World} {μ : Ren} {lam : List Nat} {L : Locs} {h : Heap} {w : World} {K : KO}
theorem need_elim {b : Bool} {A : Prop} (h : need b A) : b = true ∧ A := by cases b <;> simp_all [need]
theorem lamLe_append (l : List Nat) (m : List Nat) : lamLe l (l ++ m) := by
 intro k r hk
 have := lt_of_get hk
 rw [List.getElem?_append_left this]; exact hk
theorem run_newVar (t : TypeId) (v : Value) : (newVar t v).run P w = .ok ⟨w.heap.size, 0, none⟩ (w.alloc (.cells v.cells t)) := by
 simp [newVar, newRow]
theorem out_new (R : Rel μ0 h0 w0 μ lam L h w) {loc : Bool} {c : List AV} {t : TypeId} {v : Value} (hc : relL μ c v.cells.toList) (hk : vNew loc c L h K) :
  Out P μ0 h0 w0 μ lam w (do pure (.pointer (some (← newVar t v)))) K := by
 have hrun : (do pure (.pointer (some (← newVar t v))) : Sem Value).run P w = .ok (.pointer (some ⟨w.heap.size, 0, none⟩)) (w.alloc (.cells v.cells t)) := by
  rw [Sem.run_bind, run_newVar]; rfl
 obtain ⟨ho, hk⟩ := need_elim hk
 cases loc with
 | true =>
  simp only at hk
  refine ⟨_, _, _, _, _, μ, lam ++ [w.heap.size], hrun, hk, R.allocLoc c v.cells t hc ho, .refl _, lamLe_append _ _, w.heap.size, ?_, rfl⟩
  rw [← R.locs.len]; simp
 | false =>
  simp only at hk
  have hl := hc.length
  have hsz : v.cells.size = c.length := by simpa using hl
  refine ⟨_, _, _, _, _, _, lam, hrun, hk, R.alloc c v.cells t (by omega) ho (fun i x hx => ?_), Ren.le_append _ _, lamLe.refl _, ⟨w.heap.size, 0, v.cells.size⟩, ?_, by simp⟩
  ·obtain ⟨y, hy, hxy⟩ := hc.get hx
   exact ⟨y, by simpa using hy, hxy⟩
  ·simp [R.heap.len]
theorem zcells_zero {t : TypeId} {zs : List AV} (hz : zcells P t = some zs) (w : World) (μ : Ren) : ∃ v, (zeroValue t).run P w = .ok v w ∧ relL μ zs v.cells.toList ∧ zs.length = tsz P t := by
 simp only [zcells] at hz
 split at hz
 ·rename_i z hz'
  split at hz
  ·rename_i hok
   cases hz
   obtain ⟨i, v, hi, hzv, hv⟩ := tz_info hz'
   obtain ⟨h1, _, _, h4⟩ := okTy_parts hok
   refine ⟨v, ?_, AV.rel.cells (ofV_rel μ 4 v z hv) h4, h1⟩
   simp only [zeroValue, typeInfo, Sem.run_bind, run_program, Result.andThen_ok, hi, Sem.run_pure, hzv]
  ·cases hz
 ·cases hz
theorem out_alloc (R : Rel μ0 h0 w0 μ lam L h w) {loc : Bool} {t : TypeId} {zs : List AV} (hz : zcells P t = some zs) (hk : vNew loc zs L h K) :
  Out P μ0 h0 w0 μ lam w (Instr.alloc t true (.tuple #[])) K := by
 obtain ⟨v, hrun, hv, _⟩ := zcells_zero hz w μ
 obtain ⟨v', w', lv, L', h', μ', lam', hr, rest⟩ := out_new (P := P) (t := t) (v := v) R hv hk
 refine ⟨v', w', lv, L', h', μ', lam', ?_, rest⟩
 unfold Instr.alloc
 rw [Sem.run_bind, hrun]
 exact hr
theorem out_box (R : Rel μ0 h0 w0 μ lam L h w) {loc : Bool} {t : TypeId} {x : AV} {v : Value} (hx : x.rel μ v) (ht : ∀ c, x ≠ .tup c) (hk : vNew loc x.cells L h K) :
  Out P μ0 h0 w0 μ lam w (Instr.box t v) K := out_new R (AV.rel.cells hx ht) hk
theorem out_load (R : Rel μ0 h0 w0 μ lam L h w) {ρ : List LV} {a : Act} (E : EnvRel μ lam ρ a.tmps) {t : TypeId} {x : Operand} (hk : vLoad P t (ev ρ x) L h fun v => K (.val v) L h) :
  Out P μ0 h0 w0 μ lam w (Instr.loadAt t (a.eval x)) K := by
 simp only [vLoad] at hk
 split at hk
 ·exact hk.elim
 ·rename_i z hz
  split at hk
  ·exact hk.elim
  ·rename_i hok
   have hok' := okTy_parts hok
   split at hk
   ·rename_i k o hx
    split at hk
    ·rename_i c hc
     obtain ⟨r, hr, hv⟩ := E.loc hx
     obtain ⟨C, t', fz, h1, h2, h3⟩ := R.locs.blk k c r hc hr
     obtain ⟨v, x', g1, g2, g3⟩ := load_part (P := P) (s := 0) h1 (fun i x hx => by simpa using h2.get hx) hz hok hk
     refine Out.same R ?_ g2 g3
     rw [hv]
     simpa [Instr.loadAt, Instr.sureAddr] using g1
    ·exact hk.elim
   ·rename_i q hx
    have hv := E.val hx
    cases q with
    | none => exact hk.elim
    | some p =>
     simp only [vPtr] at hk
     obtain ⟨e, he, hv⟩ := hv
     obtain ⟨c, rw', hc, hp⟩ := PLoad_part hok'.2.2.2 hk
     obtain ⟨C, t', fz, h1, h2, h3, h3', h4, h5⟩ := R.heap.blk p.b _ e hc he
     obtain ⟨v, x', g1, g2, g3⟩ := load_part (P := P) h1 h4 hz hok hp
     refine Out.same R ?_ g2 g3
     rw [hv]
     simpa [Instr.loadAt, Instr.sureAddr] using g1
   ·exact hk.elim
theorem oneAll_rel {μ : Ren} : ∀ {xs : List AV} {vs : List Value}, relL μ xs vs → oneAll xs = true → ∀ v ∈ vs, v.oneCell' = true
 | [], vs, h, _, v, hv => by simp only [relL] at h; simp [h] at hv
 | x :: xs, _, ⟨y, ys, hl, hx, hxs⟩, ho, v, hv => by
  subst hl
  simp only [oneAll, List.all_cons, Bool.and_eq_true] at ho
  simp at hv
  rcases hv with rfl | hv
  ·exact hx.oneCell ho.1
  ·exact oneAll_rel hxs ho.2 v hv
theorem store_heap (R : Rel μ0 h0 w0 μ lam L h w) {p : PA} {e : ME} (he : μ[p.b]? = some e) {xs : List AV} {vs : List Value} (hv : relL μ xs vs) (ho : oneAll xs = true) {KH : Heap → Prop} (hk : PStore h p xs KH) :
  ∃ w' h', (storeCells ⟨e.r, e.s + p.o, none⟩ vs).run P w = .ok () w' ∧ KH h' ∧ Rel μ0 h0 w0 μ lam L h' w' := by
 simp only [PStore] at hk
 split at hk
 ·rename_i c hc
  obtain ⟨hle, hk⟩ := hk
  obtain ⟨C, t', fz, h1, h2, h3, h3', h4, h5⟩ := R.heap.blk p.b _ e hc he
  have hl := hv.length
  refine ⟨_, _, run_storeCells vs w e.r (e.s + p.o) 0 C t' fz h1 (by omega) (oneAll_rel hv ho) (fun j _ => by rw [h5 rfl]; simp), hk, ?_⟩
  have := R.store hc he hle hv ho h1
  simpa using this
 ·exact hk.elim
theorem store_loc (R : Rel μ0 h0 w0 μ lam L h w) {k r o : Nat} {c : List AV} (hr : lam[k]? = some r) (hc : L[k]? = some c) {xs : List AV} {vs : List Value} (hv : relL μ xs vs) (ho : oneAll xs = true)
  (hle : o + xs.length ≤ c.length) :
  ∃ w', (storeCells ⟨r, o, none⟩ vs).run P w = .ok () w' ∧ Rel μ0 h0 w0 μ lam (L.set k (splice c o xs)) h w' := by
 obtain ⟨C, t', fz, h1, h2, h3⟩ := R.locs.blk k c r hc hr
 have hl := hv.length
 have hcl := h2.length
 have hC : C.size = c.length := by simpa using hcl
 refine ⟨_, run_storeCells vs w r o 0 C t' fz h1 (by omega) (oneAll_rel hv ho) (fun j _ => by rw [h3.1]; simp), ?_⟩
 have := R.storeLoc hc hr hle hv ho h1
 simpa using this
theorem run_storeVar {t : TypeId} {a : Addr} {v : Value} (hsz : v.cells.size = tsz P t) {i : TypeInfo} (hi : P.info? t = some i) :
  (storeVar t a v).run P w = (storeCells a v.cells.toList).run P w := by
 unfold storeVar
 rw [Sem.run_bind, run_sizeOf' hi]
 simp [hsz]
theorem info_of_tsz {t : TypeId} (h : 0 < tsz P t) : ∃ i, P.info? t = some i := by
 cases hi : P.info? t with
 | none => simp [tsz, Program.cellsOf, hi] at h
 | some i => exact ⟨i, rfl⟩
theorem out_store (R : Rel μ0 h0 w0 μ lam L h w) {ρ : List LV} {a : Act} (E : EnvRel μ lam ρ a.tmps) {t : TypeId} {xa x : Operand} {v : AV} (hx : ev ρ x = .val v)
  (hneed : ((P.info? t).isSome && v.cells.length == tsz P t && oneAll v.cells) = true)
  (hk : match ev ρ xa with
    | .loc k i => match L[k]? with | some c => need (decide (i + v.cells.length ≤ c.length)) (K .top (L.set k (splice c i v.cells)) h) | none => False
    | .val (.ptr q) => vPtr q fun p => PStore h p v.cells fun h' => K .top L h'
    | _ => False) :
  ∃ w' L' h', (Instr.storeAt t (a.eval xa) (a.eval x)).run P w = .ok () w' ∧ K .top L' h' ∧ Rel μ0 h0 w0 μ lam L' h' w' := by
 simp only [Bool.and_eq_true, Option.isSome_iff_exists, beq_iff_eq] at hneed
 obtain ⟨⟨⟨i, hi⟩, hsz⟩, ho⟩ := hneed
 have hv := E.val hx
 have ht : ∀ c, v ≠ .tup c := by
  intro c hc; subst hc; simp [oneAll, AV.cells, AV.one] at ho
 have hcells := AV.rel.cells hv ht
 have hcl := hcells.length
 have hsz' : (a.eval x).cells.size = tsz P t := by rw [← hsz, ← hcl]; simp
 split at hk
 ·rename_i k o hxa
  obtain ⟨r, hr, hav⟩ := E.loc hxa
  split at hk
  ·rename_i c hc
   simp only [need] at hk
   split at hk
   ·rename_i hle
    simp at hle
    obtain ⟨w', g1, g2⟩ := store_loc (P := P) R hr hc hcells ho hle
    refine ⟨w', _, _, ?_, hk, g2⟩
    rw [hav]
    simp only [Instr.storeAt, Instr.sureAddr, Sem.run_bind, Sem.run_pure, Result.andThen_ok]
    rw [run_storeVar hsz' hi, g1]
   ·exact hk.elim
  ·exact hk.elim
 ·rename_i q hxa
  have hav := E.val hxa
  cases q with
  | none => exact hk.elim
  | some p =>
   simp only [vPtr] at hk
   obtain ⟨e, he, hav⟩ := hav
   obtain ⟨w', h', g1, g2, g3⟩ := store_heap (P := P) R he hcells ho hk
   refine ⟨w', _, _, ?_, g2, g3⟩
   rw [hav]
   simp only [Instr.storeAt, Instr.sureAddr, Sem.run_bind, Sem.run_pure, Result.andThen_ok]
   rw [run_storeVar hsz' hi, g1]
 ·exact hk.elim
theorem out_nilCheck (R : Rel μ0 h0 w0 μ lam L h w) {ρ : List LV} {a : Act} (E : EnvRel μ lam ρ a.tmps) {x : Operand}
  (hk : match ev ρ x with
   | .loc k i => K (.loc k i) L h
   | .val (.ptr q) => vPtr q fun p => K (.val (.ptr (some p))) L h
   | .val (.func (.func f) a c) => K (.val (.func (.func f) a c)) L h
   | .val (.iface t v) => K (.val (.iface t v)) L h
   | _ => False) (o : Oper) (ho : o.op = .nilCheck x) :
  ∃ lv, (execOp a.eval o).run P w = .ok (.value (a.eval x)) w ∧ K lv L h ∧ lv.rel μ lam (a.eval x) := by
 have hrun : (∀ v, a.eval x = v → (∃ q, v = .pointer (some q)) ∨ (∃ f c d, v = .func (.func f) c d) ∨ (∃ t y, v = .iface t y)) → (execOp a.eval o).run P w = .ok (.value (a.eval x)) w := by
  intro hv
  rcases hv _ rfl with ⟨q, hq⟩ | ⟨f, c, d, hq⟩ | ⟨t, y, hq⟩ <;> simp [execOp, ho, hq]
 have hev := E.ev x
 split at hk
 ·rename_i k i hx
  rw [hx] at hev
  obtain ⟨r, hr, hv⟩ := hev
  exact ⟨_, hrun (fun v hv' => .inl ⟨_, hv'.symm.trans hv⟩), hk, r, hr, hv⟩
 ·rename_i q hx
  rw [hx] at hev
  cases q with
  | none => exact hk.elim
  | some p =>
   have hev' := hev
   obtain ⟨e, he, hv⟩ := hev
   exact ⟨_, hrun (fun v hv' => .inl ⟨_, hv'.symm.trans hv⟩), hk, hev'⟩
 ·rename_i f c d hx
  rw [hx] at hev
  have hev' := hev
  obtain ⟨f', c', hv, _⟩ := hev
  exact ⟨_, hrun (fun v hv' => .inr (.inl ⟨_, _, _, hv'.symm.trans hv⟩)), hk, hev'⟩
 ·rename_i t v hx
  rw [hx] at hev
  have hev' := hev
  obtain ⟨y, hv, _⟩ := hev
  exact ⟨_, hrun (fun v hv' => .inr (.inr ⟨_, _, hv'.symm.trans hv⟩)), hk, hev'⟩
 ·exact hk.elim
theorem vif_elim {b : Bool} {A B : Prop} (h : vif b A B) : (b = true ∧ A) ∨ (b = false ∧ B) := by cases b <;> simp_all [vif]
theorem out_fieldAddr (R : Rel μ0 h0 w0 μ lam L h w) {ρ : List LV} {a : Act} (E : EnvRel μ lam ρ a.tmps) {s : TypeId} {x : Operand} {f : Nat}
  (hk : match fieldOff P s f with
  | none => False
  | some (off, ft) =>
   need (decide (0 < tsz P ft)) <|
    match ev ρ x with
    | .loc k i => K (.loc k (i + off)) L h
    | .val (.ptr q) => vPtr q fun p => K (.val (.ptr (some ⟨p.b, p.o + off⟩))) L h
    | _ => False) :
  Out P μ0 h0 w0 μ lam w (Instr.fieldAt s (a.eval x) f) K := by
 split at hk
 ·exact hk.elim
 ·rename_i off ft hf
  obtain ⟨h1, hk⟩ := need_elim hk
  simp at h1
  obtain ⟨i, hi⟩ := info_of_tsz h1
  have hrun : ∀ r o : Nat, a.eval x = .pointer (some ⟨r, o, none⟩) → (Instr.fieldAt s (a.eval x) f).run P w = .ok (.pointer (some ⟨r, o + off, none⟩)) w := by
   intro r o hv
   simp only [fieldOff] at hf
   split at hf
   ·rename_i fs hfs
    simp only [Option.map_eq_some_iff] at hf
    obtain ⟨fd, hfd, heq⟩ := hf
    simp only [Prod.mk.injEq] at heq
    obtain ⟨rfl, rfl⟩ := heq
    unfold Instr.fieldAt
    rw [Sem.run_bind, run_underlying hfs]
    simp only [Result.andThen_ok, hfd, hv, Instr.sureAddr, Sem.run_bind, Sem.run_pure, fieldPlace]
    rw [run_sizeOf' hi]
    simp only [Result.andThen_ok]
    rw [if_neg (by omega)]
    simp [add_addr]
   ·cases hf
  split at hk
  ·rename_i k i' hx
   obtain ⟨r, hr, hv⟩ := E.loc hx
   exact Out.same R (hrun _ _ hv) hk ⟨r, hr, rfl⟩
  ·rename_i q hx
   have hv := E.val hx
   cases q with
   | none => exact hk.elim
   | some p =>
    simp only [vPtr] at hk
    obtain ⟨e, he, hv⟩ := hv
    exact Out.same R (hrun _ _ hv) hk ⟨e, he, by simp [Nat.add_assoc]⟩
  ·exact hk.elim
theorem out_indexSlice (R : Rel μ0 h0 w0 μ lam L h w) {t e : TypeId} (ht : P.underlying t = some (.slice e)) (he : ∃ i, P.info? e = some i) {s : Option SL} {v : Value} (hv : AV.rel μ (.sl s) v) {k : IntKind} {i : Int}
  (hk : vIdx s i (tsz P e) fun p => K (.val (.ptr (some p))) L h) :
  Out P μ0 h0 w0 μ lam w (Instr.indexAt t v (.int k i)) K := by
 cases s with
 | none => exact hk.elim
 | some s =>
  obtain ⟨g1, g2, hk⟩ := hk
  obtain ⟨m, c', q, hm, rfl, hlc, hq, hx1, hx2⟩ := hv
  obtain ⟨ei, hei⟩ := he
  have hc' : c' ≠ 0 := by
   intro h0
   by_cases ho : s.opn = 0
   ·have := hx1 ho; omega
   ·have := (hx2 ho).1; omega
  have hq' := hq.resolve_left hc'
  subst hq'
  have hrun : (Instr.indexAt t (.slice (some ⟨m.r, m.s + s.o, none⟩) s.len c') (.int k i)).run P w = .ok (.pointer (some ⟨m.r, m.s + s.o + i.toNat * tsz P e, none⟩)) w := by
   unfold Instr.indexAt
   simp only [asIntOf, Sem.run_bind, Sem.run_pure, Result.andThen_ok, run_underlying ht]
   rw [if_pos ⟨g1, g2⟩, Sem.run_bind, run_sizeOf' hei]
   simp [add_addr]
  refine Out.same R hrun hk ⟨m, hm.resolve_right hc', ?_⟩
  simp [Nat.add_assoc]
theorem out_indexAddr (R : Rel μ0 h0 w0 μ lam L h w) {ρ : List LV} {a : Act} (E : EnvRel μ lam ρ a.tmps) {t : TypeId} {x ix : Operand}
  (hk : match evI ρ ix, P.underlying t, ev ρ x, x with
  | some i, some (.slice e), .val (.sl s), _ => need (P.info? e).isSome (vIdx s i (tsz P e) fun p => K (.val (.ptr (some p))) L h)
  | some i, some (.array n e), .val (.ptr q), _ => vPtr q fun p => need ((P.info? e).isSome && (decide (0 ≤ i) && decide (i < n))) (K (.val (.ptr (some ⟨p.b, p.o + i.toNat * tsz P e⟩))) L h)
  | some i, some (.array n e), .loc k j, _ => need ((P.info? e).isSome && (decide (0 ≤ i) && decide (i < n))) (K (.loc k (j + i.toNat * tsz P e)) L h)
  | some i, some (.array n e), .top, .global g => need ((P.info? e).isSome && (decide (0 ≤ i) && decide (i < n))) (∃ a j : Nat, h[a]? = some (.gm g j) ∧ K (.val (.ptr (some ⟨j, i.toNat * tsz P e⟩))) L h)
  | _, _, _, _ => False) :
  Out P μ0 h0 w0 μ lam w (Instr.indexAt t (a.eval x) (a.eval ix)) K := by
 split at hk
 ·rename_i i e s hi ht hx
  obtain ⟨k, hk'⟩ := E.int hi
  rw [hk']
  obtain ⟨h1, hk⟩ := need_elim hk
  exact out_indexSlice R ht (Option.isSome_iff_exists.1 h1) (E.val hx) hk
 ·rename_i i n e q hi ht hx
  obtain ⟨k, hk'⟩ := E.int hi
  have hv := E.val hx
  cases q with
  | none => exact hk.elim
  | some p =>
   simp only [vPtr] at hk
   obtain ⟨h1, hk⟩ := need_elim hk
   simp [Option.isSome_iff_exists] at h1
   obtain ⟨m, hm, hv⟩ := hv
   obtain ⟨⟨ei, hei⟩, h1⟩ := h1
   refine Out.same R (v := .pointer (some ⟨m.r, m.s + p.o + i.toNat * tsz P e, none⟩)) ?_ hk ⟨m, hm, by simp [Nat.add_assoc]⟩
   rw [hk', hv]
   unfold Instr.indexAt
   simp only [asIntOf, Sem.run_bind, Sem.run_pure, Result.andThen_ok, run_underlying ht, Instr.sureAddr]
   rw [if_pos ⟨h1.1, h1.2⟩, Sem.run_bind, run_sizeOf' hei]
   simp [add_addr]
 ·rename_i i n e k' j hi ht hx
  obtain ⟨k, hk'⟩ := E.int hi
  obtain ⟨r, hr, hv⟩ := E.loc hx
  obtain ⟨h1, hk⟩ := need_elim hk
  simp [Option.isSome_iff_exists] at h1
  obtain ⟨⟨ei, hei⟩, h1⟩ := h1
  refine Out.same R (v := .pointer (some ⟨r, j + i.toNat * tsz P e, none⟩)) ?_ hk ⟨r, hr, rfl⟩
  rw [hk', hv]
  unfold Instr.indexAt
  simp only [asIntOf, Sem.run_bind, Sem.run_pure, Result.andThen_ok, run_underlying ht, Instr.sureAddr]
  rw [if_pos ⟨h1.1, h1.2⟩, Sem.run_bind, run_sizeOf' hei]
  simp [add_addr]
 ·rename_i i n e g hi ht hx
  obtain ⟨k, hk'⟩ := E.int hi
  obtain ⟨h1, a', j, ha, hk⟩ := need_elim hk
  simp [Option.isSome_iff_exists] at h1
  obtain ⟨⟨ei, hei⟩, h1⟩ := h1
  have hal : a' < μ.length := by rw [R.heap.len]; exact lt_of_get ha
  obtain ⟨m, hm, hg, hs⟩ := R.heap.blk a' _ _ ha (List.getElem?_eq_getElem hal)
  refine Out.same R (v := .pointer (some ⟨m.r, m.s + i.toNat * tsz P e, none⟩)) ?_ hk ⟨m, hm, rfl⟩
  have hv : a.eval (.global g) = .pointer (some ⟨m.r, m.s, none⟩) := by rw [hg, hs]; rfl
  rw [hk', hv]
  unfold Instr.indexAt
  simp only [asIntOf, Sem.run_bind, Sem.run_pure, Result.andThen_ok, run_underlying ht, Instr.sureAddr]
  rw [if_pos ⟨h1.1, h1.2⟩, Sem.run_bind, run_sizeOf' hei]
  simp [add_addr]
 ·exact hk.elim
end
end Go.Ab
