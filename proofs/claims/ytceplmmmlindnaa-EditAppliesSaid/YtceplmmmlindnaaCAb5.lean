/- Each operation's run, beside what it asks of the abstract heap. -/
import Derived.Test.YtceplmmmlindnaaCAb4
import Derived.Laws.Entries
import Derived.ChangeKeysEq
namespace Go.Ab
set_option linter.unusedSimpArgs false
set_option linter.unusedVariables false

structure EnvRel (μ : Ren) (lam : List Nat) (ρ : List LV) (tmps : Array Value) : Prop where
  len : ρ.length = tmps.size
  get : ∀ (t : Nat) (lv : LV), ρ[t]? = some lv → lv.rel μ lam (tmps.getD t undef)

theorem EnvRel.mono {μ μ' : Ren} {lam lam' : List Nat} {ρ : List LV} {tmps : Array Value} (E : EnvRel μ lam ρ tmps) (h : Ren.le μ μ') (hl : lamLe lam lam') : EnvRel μ' lam' ρ tmps :=
  ⟨E.len, fun t lv ht => (E.get t lv ht).mono h hl⟩

theorem EnvRel.ev {μ : Ren} {lam : List Nat} {ρ : List LV} {a : Act} (E : EnvRel μ lam ρ a.tmps) (x : Operand) : (ev ρ x).rel μ lam (a.eval x) := by
  cases x with
  | tmp t =>
    simp only [Ab.ev, Act.eval, List.getD]
    cases h : ρ[t]? with
    | none => simp [LV.rel]
    | some lv => simpa using E.get t lv h
  | const v =>
    simp only [Ab.ev, Act.eval]
    split
    · rename_i x hx; exact ofV_rel μ 4 v x hx
    · trivial
  | global g => trivial
  | func f => exact ⟨#[], #[], rfl, rfl, rfl⟩

theorem EnvRel.val {μ : Ren} {lam : List Nat} {ρ : List LV} {a : Act} (E : EnvRel μ lam ρ a.tmps) {x : Operand} {v : AV} (h : Ab.ev ρ x = .val v) : v.rel μ (a.eval x) := by
  have := E.ev x; rw [h] at this; exact this
theorem EnvRel.loc {μ : Ren} {lam : List Nat} {ρ : List LV} {a : Act} (E : EnvRel μ lam ρ a.tmps) {x : Operand} {k o : Nat} (h : Ab.ev ρ x = .loc k o) :
    ∃ r, lam[k]? = some r ∧ a.eval x = .pointer (some ⟨r, o, none⟩) := by
  have := E.ev x; rw [h] at this; exact this

theorem EnvRel.vals {μ : Ren} {lam : List Nat} {ρ : List LV} {a : Act} (E : EnvRel μ lam ρ a.tmps) : ∀ (os : List Operand) (l : List AV), Ab.vals ρ os = some l → relL μ l (os.map a.eval)
  | [], l, h => by simp [Ab.vals] at h; subst h; rfl
  | o :: os, l, h => by
    simp only [Ab.vals] at h
    split at h
    · rename_i x l' hx hl
      cases h
      exact ⟨_, _, rfl, E.val hx, E.vals os l' hl⟩
    · cases h

theorem EnvRel.int {μ : Ren} {lam : List Nat} {ρ : List LV} {a : Act} (E : EnvRel μ lam ρ a.tmps) {x : Operand} {n : Int} (h : evI ρ x = some n) : ∃ k, a.eval x = .int k n := by
  simp only [evI] at h
  split at h
  · rename_i k m hx; cases h; exact ⟨k, E.val hx⟩
  · cases h

/-- What an operation's run comes to. -/
def Out (P : Program) (μ0 : Ren) (h0 : Heap) (w0 : World) (μ : Ren) (lam : List Nat) (w : World) (s : Sem Value) (K : KO) : Prop :=
  ∃ (v : Value) (w' : World) (lv : LV) (L' : Locs) (h' : Heap) (μ' : Ren) (lam' : List Nat),
    s.run P w = .ok v w' ∧ K lv L' h' ∧ Rel μ0 h0 w0 μ' lam' L' h' w' ∧ Ren.le μ μ' ∧ lamLe lam lam' ∧ lv.rel μ' lam' v

section
variable {P : Program} {μ0 : Ren} {h0 : Heap} {w0 : World} {μ : Ren} {lam : List Nat} {L : Locs} {h : Heap} {w : World} {K : KO}

theorem lamLe.refl (l : List Nat) : lamLe l l := fun _ _ h => h

/-- An operation that leaves all as it is. -/
theorem Out.same {s : Sem Value} (R : Rel μ0 h0 w0 μ lam L h w) {lv : LV} {v : Value} (hr : s.run P w = .ok v w) (hk : K lv L h) (hv : lv.rel μ lam v) : Out P μ0 h0 w0 μ lam w s K :=
  ⟨v, w, lv, L, h, μ, lam, hr, hk, R, .refl _, .refl _, hv⟩

theorem tz_info {t : TypeId} {z : AV} (hz : tz P t = some z) : ∃ i v, P.info? t = some i ∧ i.zero = some v ∧ ofV 4 v = some z := by
  simp only [tz, Option.bind_eq_some_iff] at hz
  obtain ⟨v, ⟨i, hi, hv⟩, hz⟩ := hz
  exact ⟨i, v, hi, hv, hz⟩

theorem okTy_parts {t : TypeId} {z : AV} (h : okTy P t z = true) : z.cells.length = tsz P t ∧ isAgg z = tagg P t ∧ (∃ d, P.underlying t = some d) ∧ ∀ c, z ≠ .tup c := by
  simp only [okTy, Bool.and_eq_true, beq_iff_eq, Option.isSome_iff_exists] at h
  exact ⟨h.1.1.1, h.1.1.2, h.1.2, fun c hc => by rw [hc] at h; simp [isTup] at h⟩

theorem run_isAgg {t : TypeId} {d : TypeDesc} (hd : P.underlying t = some d) : (Go.isAgg t).run P w = .ok (tagg P t) w := by
  unfold Go.isAgg tagg
  rw [Sem.run_bind, run_underlying hd]
  cases d <;> simp [hd]

theorem tsz_info {t : TypeId} {i : TypeInfo} (hi : P.info? t = some i) : tsz P t = i.size := by simp [tsz, Program.cellsOf, hi]

theorem run_sizeOf' {t : TypeId} {i : TypeInfo} (hi : P.info? t = some i) : (sizeOf t).run P w = .ok (tsz P t) w := run_sizeOf w hi

/-- A variable that lies in known cells is loaded. -/
theorem load_part {μ : Ren} {r s : Nat} {C : Array Value} {t : TypeId} {fz : Nat × Nat} {c : List AV} (hw : w.heap[r]? = some (.cells C t fz))
    (hc : ∀ (i : Nat) (x : AV), c[i]? = some x → ∃ y, C[s + i]? = some y ∧ x.rel μ y) {ty : TypeId} {z : AV} (hz : tz P ty = some z) (hok : okTy P ty z = true)
    {o : Nat} {KV : AV → Prop} (hp : part z c o KV) :
    ∃ v x, (loadVar ty ⟨r, s + o, none⟩).run P w = .ok v w ∧ KV x ∧ x.rel μ v := by
  obtain ⟨i, zv, hi, hzv, hz'⟩ := tz_info hz
  obtain ⟨h1, h2, ⟨d, hd⟩, _⟩ := okTy_parts hok
  have hag := run_isAgg (w := w) hd
  simp only [part] at hp
  cases hg : isAgg z with
  | true =>
    rw [hg] at hp h2
    simp only [need] at hp
    split at hp
    · rename_i hle
      simp at hle
      have hcells : ∀ j v, ((C.toList.drop (s + o)).take (tsz P ty))[j]? = some v → w.cell? ((⟨r, s + o, none⟩ : Addr).add j) = some v := by
        intro j v hv
        rw [add_addr, cell_at hw]
        rw [List.getElem?_take] at hv
        split at hv
        · rw [List.getElem?_drop] at hv; simpa using hv
        · cases hv
      have hlenC : ∀ j, j < tsz P ty → ∃ y, C[s + o + j]? = some y := by
        intro j hj
        have : o + j < c.length := by omega
        obtain ⟨y, hy, _⟩ := hc (o + j) c[o + j] (by simp [this])
        exact ⟨y, by rw [← hy]; congr 1; omega⟩
      have hlen : ((C.toList.drop (s + o)).take (tsz P ty)).length = tsz P ty := by
        simp only [List.length_take, List.length_drop, Array.length_toList]
        rcases Nat.eq_zero_or_pos (tsz P ty) with h0 | hpos
        · omega
        · obtain ⟨y, hy⟩ := hlenC (tsz P ty - 1) (by omega)
          have : s + o + (tsz P ty - 1) < C.size := by
            rcases Nat.lt_or_ge (s + o + (tsz P ty - 1)) C.size with h' | h'
            · exact h'
            · simp [Array.getElem?_eq_none h'] at hy
          omega
      have hrun := run_loadCells_list (P := P) w ⟨r, s + o, none⟩ _ hcells
      rw [hlen] at hrun
      refine ⟨.agg ((C.toList.drop (s + o)).take (tsz P ty)).toArray, _, ?_, hp, ?_⟩
      · unfold loadVar
        rw [Sem.run_bind, hag, ← h2]
        simp [run_sizeOf' hi, hrun]
      · refine ⟨_, rfl, ?_⟩
        simp only
        rw [h1]
        refine relL.of_get (by simp only [List.length_take, List.length_drop] at hlen ⊢; rw [hlen]; omega) fun j x y hx hy => ?_
        rw [List.getElem?_take] at hx hy
        split at hx
        · rename_i hj
          rw [if_pos hj] at hy
          rw [List.getElem?_drop] at hx hy
          obtain ⟨y', g1, g2⟩ := hc _ _ hx
          have : C.toList[s + o + j]? = some y' := by simpa [Nat.add_assoc] using g1
          rw [this] at hy; cases hy; exact g2
        · cases hx
    · exact hp.elim
  | false =>
    rw [hg] at hp h2
    simp only at hp
    split at hp
    · rename_i v hv
      obtain ⟨y, hy, hxy⟩ := hc o v hv
      refine ⟨y, v, ?_, hp, hxy⟩
      unfold loadVar
      rw [Sem.run_bind, hag, ← h2]
      have hcell : w.cell? ⟨r, s + o, none⟩ = some y := by rw [cell_at hw, hy]
      simp [hcell]
    · exact hp.elim

theorem exL_elim : ∀ {zs : List AV} {KL : List AV → Prop}, exL zs KL → ∃ l, KL l ∧ l.length = zs.length ∧ (∀ x ∈ l, x.one = true)
  | [], KL, h => ⟨[], h, rfl, by simp⟩
  | z :: zs, KL, h => by
    cases z <;> simp only [exL] at h
    all_goals first
      | (obtain ⟨n, hv, h⟩ := h; obtain ⟨l, h1, h2, h3⟩ := exL_elim h; exact ⟨_, h1, by simp [h2], by intro x hx; simp at hx; rcases hx with rfl | hx; (first | exact hv | rfl); exact h3 x hx⟩)
      | (obtain ⟨n, h⟩ := h; obtain ⟨l, h1, h2, h3⟩ := exL_elim h; exact ⟨_, h1, by simp [h2], by intro x hx; simp at hx; rcases hx with rfl | hx; rfl; exact h3 x hx⟩)

theorem cells_of_one {v : AV} (h : v.one = true) : v.cells = [v] := by cases v <;> simp [AV.one] at h <;> rfl
theorem isAgg_of_one {v : AV} (h : v.one = true) : isAgg v = false := by cases v <;> simp [AV.one] at h <;> rfl

/-- What a shape says of its values: they are together or one cell, as it is. -/
theorem exV_elim {z : AV} {KV : AV → Prop} (hz : ∀ c, z ≠ .tup c) (h : exV z KV) : ∃ v, KV v ∧ isAgg v = isAgg z ∧ v.cells.length = z.cells.length ∧ (∀ x ∈ v.cells, x.one = true) := by
  cases z <;> simp only [exV] at h
  case tup c => exact absurd rfl (hz c)
  case agg zs => obtain ⟨l, h1, h2, h3⟩ := exL_elim h; exact ⟨_, h1, rfl, h2, h3⟩
  all_goals
    obtain ⟨l, h1, h2, h3⟩ := exL_elim h
    obtain ⟨x, rfl⟩ : ∃ x, l = [x] := by
      match l, h2 with
      | [x], _ => exact ⟨x, rfl⟩
    have hx := h3 x (by simp)
    exact ⟨x, h1, by rw [isAgg_of_one hx]; rfl, by rw [cells_of_one hx]; rfl, by rw [cells_of_one hx]; simpa using hx⟩

theorem cellsAt_some {h : Heap} {p : PA} {n : Nat} {l : List AV} (hl : cellsAt h p n = some l) : ∃ c rw, h[p.b]? = some (.cells c rw) ∧ p.o + n ≤ c.length ∧ l = (c.drop p.o).take n := by
  simp only [cellsAt] at hl
  split at hl
  · rename_i c rw hc
    split at hl
    · cases hl; exact ⟨c, rw, hc, by assumption, rfl⟩
    · cases hl
  · cases hl

theorem PLoad_part {z : AV} {h : Heap} {p : PA} {KV : AV → Prop} (hz : ∀ c, z ≠ .tup c) (hp : PLoad z h p KV) : ∃ c rw, h[p.b]? = some (.cells c rw) ∧ part z c p.o KV := by
  obtain ⟨v, ⟨h1, h2⟩, h3, h4, h5⟩ := exV_elim hz hp
  obtain ⟨c, rw, g1, g2, g3⟩ := cellsAt_some h1
  refine ⟨c, rw, g1, ?_⟩
  unfold part
  cases hg : isAgg z with
  | true =>
    rw [hg] at h3
    cases v <;> simp [isAgg] at h3
    rename_i cs
    have g4 : cs = (c.drop p.o).take z.cells.length := g3
    simp only [need, g2, decide_true, ← g4]
    exact h2
  | false =>
    rw [hg] at h3
    have hzl : z.cells.length = 1 := by cases z <;> simp [isAgg] at hg <;> simp [AV.cells]
    have hvc : v.cells = [v] := by cases v <;> simp [isAgg] at h3 <;> rfl
    rw [hvc, hzl] at g3
    have : c[p.o]? = some v := by
      have := congrArg (fun l => l[0]?) g3
      simp [List.getElem?_take, List.getElem?_drop] at this
      exact this.symm
    simp [this, h2]

end
end Go.Ab
