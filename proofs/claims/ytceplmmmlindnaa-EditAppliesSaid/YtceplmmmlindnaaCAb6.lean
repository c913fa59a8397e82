/- The runs of the operations, one by one. -/
import Derived.Test.YtceplmmmlindnaaCAb5
namespace Go.Ab
set_option linter.unusedSimpArgs false
set_option linter.unusedVariables false

section
variable {P : Program} {μ0 : Ren} {h0 : Heap} {w0 : World} {μ : Ren} {lam : List Nat} {L : Locs} {h : Heap} {w : World} {K : KO}

theorem need_elim {b : Bool} {A : Prop} (h : need b A) : b = true ∧ A := by cases b <;> simp_all [need]

theorem lamLe_append (l : List Nat) (m : List Nat) : lamLe l (l ++ m) := by
  intro k r hk
  have := lt_of_get hk
  rw [List.getElem?_append_left this]; exact hk

theorem run_newVar (t : TypeId) (v : Value) : (newVar t v).run P w = .ok ⟨w.heap.size, 0, none⟩ (w.alloc (.cells v.cells t)) := by
  simp [newVar, newRow]

/-- A new variable, of known cells. -/
theorem out_new (R : Rel μ0 h0 w0 μ lam L h w) {loc : Bool} {c : List AV} {t : TypeId} {v : Value} (hc : relL μ c v.cells.toList) (hk : vNew loc c L h K) :
    Out P μ0 h0 w0 μ lam w (do pure (.pointer (some (← newVar t v)))) K := by
  have hrun : (do pure (.pointer (some (← newVar t v))) : Sem Value).run P w = .ok (.pointer (some ⟨w.heap.size, 0, none⟩)) (w.alloc (.cells v.cells t)) := by
    rw [Sem.run_bind, run_newVar]; rfl
  obtain ⟨ho, hk⟩ := need_elim hk
  cases loc with
  | true =>
    simp only at hk
    refine ⟨_, _, _, _, _, μ, lam ++ [w.heap.size], hrun, hk, R.allocLoc c v.cells t hc ho, .refl _, lamLe_append _ _, w.heap.size, ?_, rfl⟩
    rw [← R.locs.len]; simp
  | false =>
    simp only at hk
    have hl := hc.length
    have hsz : v.cells.size = c.length := by simpa using hl
    refine ⟨_, _, _, _, _, _, lam, hrun, hk, R.alloc c v.cells t (by omega) ho (fun i x hx => ?_), Ren.le_append _ _, lamLe.refl _, ⟨w.heap.size, 0, v.cells.size⟩, ?_, by simp⟩
    · obtain ⟨y, hy, hxy⟩ := hc.get hx
      exact ⟨y, by simpa using hy, hxy⟩
    · simp [R.heap.len]

theorem zcells_zero {t : TypeId} {zs : List AV} (hz : zcells P t = some zs) (w : World) (μ : Ren) : ∃ v, (zeroValue t).run P w = .ok v w ∧ relL μ zs v.cells.toList ∧ zs.length = tsz P t := by
  simp only [zcells] at hz
  split at hz
  · rename_i z hz'
    split at hz
    · rename_i hok
      cases hz
      obtain ⟨i, v, hi, hzv, hv⟩ := tz_info hz'
      obtain ⟨h1, _, _, h4⟩ := okTy_parts hok
      refine ⟨v, ?_, AV.rel.cells (ofV_rel μ 4 v z hv) h4, h1⟩
      simp only [zeroValue, typeInfo, Sem.run_bind, run_program, Result.andThen_ok, hi, Sem.run_pure, hzv]
    · cases hz
  · cases hz

theorem out_alloc (R : Rel μ0 h0 w0 μ lam L h w) {loc : Bool} {t : TypeId} {zs : List AV} (hz : zcells P t = some zs) (hk : vNew loc zs L h K) :
    Out P μ0 h0 w0 μ lam w (Instr.alloc t true (.tuple #[])) K := by
  obtain ⟨v, hrun, hv, _⟩ := zcells_zero hz w μ
  obtain ⟨v', w', lv, L', h', μ', lam', hr, rest⟩ := out_new (P := P) (t := t) (v := v) R hv hk
  refine ⟨v', w', lv, L', h', μ', lam', ?_, rest⟩
  unfold Instr.alloc
  rw [Sem.run_bind, hrun]
  exact hr

theorem out_box (R : Rel μ0 h0 w0 μ lam L h w) {loc : Bool} {t : TypeId} {x : AV} {v : Value} (hx : x.rel μ v) (ht : ∀ c, x ≠ .tup c) (hk : vNew loc x.cells L h K) :
    Out P μ0 h0 w0 μ lam w (Instr.box t v) K := out_new R (AV.rel.cells hx ht) hk

theorem out_load (R : Rel μ0 h0 w0 μ lam L h w) {ρ : List LV} {a : Act} (E : EnvRel μ lam ρ a.tmps) {t : TypeId} {x : Operand} (hk : vLoad P t (ev ρ x) L h fun v => K (.val v) L h) :
    Out P μ0 h0 w0 μ lam w (Instr.loadAt t (a.eval x)) K := by
  simp only [vLoad] at hk
  split at hk
  · exact hk.elim
  · rename_i z hz
    split at hk
    · exact hk.elim
    · rename_i hok
      have hok' := okTy_parts hok
      split at hk
      · rename_i k o hx
        split at hk
        · rename_i c hc
          obtain ⟨r, hr, hv⟩ := E.loc hx
          obtain ⟨C, t', fz, h1, h2, h3⟩ := R.locs.blk k c r hc hr
          obtain ⟨v, x', g1, g2, g3⟩ := load_part (P := P) (s := 0) h1 (fun i x hx => by simpa using h2.get hx) hz hok hk
          refine Out.same R ?_ g2 g3
          rw [hv]
          simpa [Instr.loadAt, Instr.sureAddr] using g1
        · exact hk.elim
      · rename_i q hx
        have hv := E.val hx
        cases q with
        | none => exact hk.elim
        | some p =>
          simp only [vPtr] at hk
          obtain ⟨e, he, hv⟩ := hv
          obtain ⟨c, rw', hc, hp⟩ := PLoad_part hok'.2.2.2 hk
          obtain ⟨C, t', fz, h1, h2, h3, h3', h4, h5⟩ := R.heap.blk p.b _ e hc he
          obtain ⟨v, x', g1, g2, g3⟩ := load_part (P := P) h1 h4 hz hok hp
          refine Out.same R ?_ g2 g3
          rw [hv]
          simpa [Instr.loadAt, Instr.sureAddr] using g1
      · exact hk.elim

theorem oneAll_rel {μ : Ren} : ∀ {xs : List AV} {vs : List Value}, relL μ xs vs → oneAll xs = true → ∀ v ∈ vs, v.oneCell' = true
  | [], vs, h, _, v, hv => by simp only [relL] at h; simp [h] at hv
  | x :: xs, _, ⟨y, ys, hl, hx, hxs⟩, ho, v, hv => by
    subst hl
    simp only [oneAll, List.all_cons, Bool.and_eq_true] at ho
    simp at hv
    rcases hv with rfl | hv
    · exact hx.oneCell ho.1
    · exact oneAll_rel hxs ho.2 v hv

/-- Cells stored into a block of the heap. -/
theorem store_heap (R : Rel μ0 h0 w0 μ lam L h w) {p : PA} {e : ME} (he : μ[p.b]? = some e) {xs : List AV} {vs : List Value} (hv : relL μ xs vs) (ho : oneAll xs = true) {KH : Heap → Prop} (hk : PStore h p xs KH) :
    ∃ w' h', (storeCells ⟨e.r, e.s + p.o, none⟩ vs).run P w = .ok () w' ∧ KH h' ∧ Rel μ0 h0 w0 μ lam L h' w' := by
  simp only [PStore] at hk
  split at hk
  · rename_i c hc
    obtain ⟨hle, hk⟩ := hk
    obtain ⟨C, t', fz, h1, h2, h3, h3', h4, h5⟩ := R.heap.blk p.b _ e hc he
    have hl := hv.length
    refine ⟨_, _, run_storeCells vs w e.r (e.s + p.o) 0 C t' fz h1 (by omega) (oneAll_rel hv ho) (fun j _ => by rw [h5 rfl]; simp), hk, ?_⟩
    have := R.store hc he hle hv ho h1
    simpa using this
  · exact hk.elim

theorem store_loc (R : Rel μ0 h0 w0 μ lam L h w) {k r o : Nat} {c : List AV} (hr : lam[k]? = some r) (hc : L[k]? = some c) {xs : List AV} {vs : List Value} (hv : relL μ xs vs) (ho : oneAll xs = true)
    (hle : o + xs.length ≤ c.length) :
    ∃ w', (storeCells ⟨r, o, none⟩ vs).run P w = .ok () w' ∧ Rel μ0 h0 w0 μ lam (L.set k (splice c o xs)) h w' := by
  obtain ⟨C, t', fz, h1, h2, h3⟩ := R.locs.blk k c r hc hr
  have hl := hv.length
  have hcl := h2.length
  have hC : C.size = c.length := by simpa using hcl
  refine ⟨_, run_storeCells vs w r o 0 C t' fz h1 (by omega) (oneAll_rel hv ho) (fun j _ => by rw [h3.1]; simp), ?_⟩
  have := R.storeLoc hc hr hle hv ho h1
  simpa using this

theorem run_storeVar {t : TypeId} {a : Addr} {v : Value} (hsz : v.cells.size = tsz P t) {i : TypeInfo} (hi : P.info? t = some i) :
    (storeVar t a v).run P w = (storeCells a v.cells.toList).run P w := by
  unfold storeVar
  rw [Sem.run_bind, run_sizeOf' hi]
  simp [hsz]

/-- A type of some cells is one. -/
theorem info_of_tsz {t : TypeId} (h : 0 < tsz P t) : ∃ i, P.info? t = some i := by
  cases hi : P.info? t with
  | none => simp [tsz, Program.cellsOf, hi] at h
  | some i => exact ⟨i, rfl⟩

theorem out_store (R : Rel μ0 h0 w0 μ lam L h w) {ρ : List LV} {a : Act} (E : EnvRel μ lam ρ a.tmps) {t : TypeId} {xa x : Operand} {v : AV} (hx : ev ρ x = .val v)
    (hneed : ((P.info? t).isSome && v.cells.length == tsz P t && oneAll v.cells) = true)
    (hk : match ev ρ xa with
        | .loc k i => match L[k]? with | some c => need (decide (i + v.cells.length ≤ c.length)) (K .top (L.set k (splice c i v.cells)) h) | none => False
        | .val (.ptr q) => vPtr q fun p => PStore h p v.cells fun h' => K .top L h'
        | _ => False) :
    ∃ w' L' h', (Instr.storeAt t (a.eval xa) (a.eval x)).run P w = .ok () w' ∧ K .top L' h' ∧ Rel μ0 h0 w0 μ lam L' h' w' := by
  simp only [Bool.and_eq_true, Option.isSome_iff_exists, beq_iff_eq] at hneed
  obtain ⟨⟨⟨i, hi⟩, hsz⟩, ho⟩ := hneed
  have hv := E.val hx
  have ht : ∀ c, v ≠ .tup c := by
    intro c hc; subst hc; simp [oneAll, AV.cells, AV.one] at ho
  have hcells := AV.rel.cells hv ht
  have hcl := hcells.length
  have hsz' : (a.eval x).cells.size = tsz P t := by rw [← hsz, ← hcl]; simp
  split at hk
  · rename_i k o hxa
    obtain ⟨r, hr, hav⟩ := E.loc hxa
    split at hk
    · rename_i c hc
      simp only [need] at hk
      split at hk
      · rename_i hle
        simp at hle
        obtain ⟨w', g1, g2⟩ := store_loc (P := P) R hr hc hcells ho hle
        refine ⟨w', _, _, ?_, hk, g2⟩
        rw [hav]
        simp only [Instr.storeAt, Instr.sureAddr, Sem.run_bind, Sem.run_pure, Result.andThen_ok]
        rw [run_storeVar hsz' hi, g1]
      · exact hk.elim
    · exact hk.elim
  · rename_i q hxa
    have hav := E.val hxa
    cases q with
    | none => exact hk.elim
    | some p =>
      simp only [vPtr] at hk
      obtain ⟨e, he, hav⟩ := hav
      obtain ⟨w', h', g1, g2, g3⟩ := store_heap (P := P) R he hcells ho hk
      refine ⟨w', _, _, ?_, g2, g3⟩
      rw [hav]
      simp only [Instr.storeAt, Instr.sureAddr, Sem.run_bind, Sem.run_pure, Result.andThen_ok]
      rw [run_storeVar hsz' hi, g1]
  · exact hk.elim

theorem out_nilCheck (R : Rel μ0 h0 w0 μ lam L h w) {ρ : List LV} {a : Act} (E : EnvRel μ lam ρ a.tmps) {x : Operand}
    (hk : match ev ρ x with
      | .loc k i => K (.loc k i) L h
      | .val (.ptr q) => vPtr q fun p => K (.val (.ptr (some p))) L h
      | .val (.func (.func f) a c) => K (.val (.func (.func f) a c)) L h
      | .val (.iface t v) => K (.val (.iface t v)) L h
      | _ => False) (o : Oper) (ho : o.op = .nilCheck x) :
    ∃ lv, (execOp a.eval o).run P w = .ok (.value (a.eval x)) w ∧ K lv L h ∧ lv.rel μ lam (a.eval x) := by
  have hrun : (∀ v, a.eval x = v → (∃ q, v = .pointer (some q)) ∨ (∃ f c d, v = .func (.func f) c d) ∨ (∃ t y, v = .iface t y)) → (execOp a.eval o).run P w = .ok (.value (a.eval x)) w := by
    intro hv
    rcases hv _ rfl with ⟨q, hq⟩ | ⟨f, c, d, hq⟩ | ⟨t, y, hq⟩ <;> simp [execOp, ho, hq]
  have hev := E.ev x
  split at hk
  · rename_i k i hx
    rw [hx] at hev
    obtain ⟨r, hr, hv⟩ := hev
    exact ⟨_, hrun (fun v hv' => .inl ⟨_, hv'.symm.trans hv⟩), hk, r, hr, hv⟩
  · rename_i q hx
    rw [hx] at hev
    cases q with
    | none => exact hk.elim
    | some p =>
      have hev' := hev
      obtain ⟨e, he, hv⟩ := hev
      exact ⟨_, hrun (fun v hv' => .inl ⟨_, hv'.symm.trans hv⟩), hk, hev'⟩
  · rename_i f c d hx
    rw [hx] at hev
    have hev' := hev
    obtain ⟨f', c', hv, _⟩ := hev
    exact ⟨_, hrun (fun v hv' => .inr (.inl ⟨_, _, _, hv'.symm.trans hv⟩)), hk, hev'⟩
  · rename_i t v hx
    rw [hx] at hev
    have hev' := hev
    obtain ⟨y, hv, _⟩ := hev
    exact ⟨_, hrun (fun v hv' => .inr (.inr ⟨_, _, hv'.symm.trans hv⟩)), hk, hev'⟩
  · exact hk.elim

theorem vif_elim {b : Bool} {A B : Prop} (h : vif b A B) : (b = true ∧ A) ∨ (b = false ∧ B) := by cases b <;> simp_all [vif]

theorem out_fieldAddr (R : Rel μ0 h0 w0 μ lam L h w) {ρ : List LV} {a : Act} (E : EnvRel μ lam ρ a.tmps) {s : TypeId} {x : Operand} {f : Nat}
    (hk : match fieldOff P s f with
    | none => False
    | some (off, ft) =>
      need (decide (0 < tsz P ft)) <|
        match ev ρ x with
        | .loc k i => K (.loc k (i + off)) L h
        | .val (.ptr q) => vPtr q fun p => K (.val (.ptr (some ⟨p.b, p.o + off⟩))) L h
        | _ => False) :
    Out P μ0 h0 w0 μ lam w (Instr.fieldAt s (a.eval x) f) K := by
  split at hk
  · exact hk.elim
  · rename_i off ft hf
    obtain ⟨h1, hk⟩ := need_elim hk
    simp at h1
    obtain ⟨i, hi⟩ := info_of_tsz h1
    have hrun : ∀ r o : Nat, a.eval x = .pointer (some ⟨r, o, none⟩) → (Instr.fieldAt s (a.eval x) f).run P w = .ok (.pointer (some ⟨r, o + off, none⟩)) w := by
      intro r o hv
      simp only [fieldOff] at hf
      split at hf
      · rename_i fs hfs
        simp only [Option.map_eq_some_iff] at hf
        obtain ⟨fd, hfd, heq⟩ := hf
        simp only [Prod.mk.injEq] at heq
        obtain ⟨rfl, rfl⟩ := heq
        unfold Instr.fieldAt
        rw [Sem.run_bind, run_underlying hfs]
        simp only [Result.andThen_ok, hfd, hv, Instr.sureAddr, Sem.run_bind, Sem.run_pure, fieldPlace]
        rw [run_sizeOf' hi]
        simp only [Result.andThen_ok]
        rw [if_neg (by omega)]
        simp [add_addr]
      · cases hf
    split at hk
    · rename_i k i' hx
      obtain ⟨r, hr, hv⟩ := E.loc hx
      exact Out.same R (hrun _ _ hv) hk ⟨r, hr, rfl⟩
    · rename_i q hx
      have hv := E.val hx
      cases q with
      | none => exact hk.elim
      | some p =>
        simp only [vPtr] at hk
        obtain ⟨e, he, hv⟩ := hv
        exact Out.same R (hrun _ _ hv) hk ⟨e, he, by simp [Nat.add_assoc]⟩
    · exact hk.elim

theorem out_indexSlice (R : Rel μ0 h0 w0 μ lam L h w) {t e : TypeId} (ht : P.underlying t = some (.slice e)) (he : ∃ i, P.info? e = some i) {s : Option SL} {v : Value} (hv : AV.rel μ (.sl s) v) {k : IntKind} {i : Int}
    (hk : vIdx s i (tsz P e) fun p => K (.val (.ptr (some p))) L h) :
    Out P μ0 h0 w0 μ lam w (Instr.indexAt t v (.int k i)) K := by
  cases s with
  | none => exact hk.elim
  | some s =>
    obtain ⟨g1, g2, hk⟩ := hk
    obtain ⟨m, c', q, hm, rfl, hlc, hq, hx1, hx2⟩ := hv
    obtain ⟨ei, hei⟩ := he
    have hc' : c' ≠ 0 := by
      intro h0
      by_cases ho : s.opn = 0
      · have := hx1 ho; omega
      · have := (hx2 ho).1; omega
    have hq' := hq.resolve_left hc'
    subst hq'
    have hrun : (Instr.indexAt t (.slice (some ⟨m.r, m.s + s.o, none⟩) s.len c') (.int k i)).run P w = .ok (.pointer (some ⟨m.r, m.s + s.o + i.toNat * tsz P e, none⟩)) w := by
      unfold Instr.indexAt
      simp only [asIntOf, Sem.run_bind, Sem.run_pure, Result.andThen_ok, run_underlying ht]
      rw [if_pos ⟨g1, g2⟩, Sem.run_bind, run_sizeOf' hei]
      simp [add_addr]
    refine Out.same R hrun hk ⟨m, hm.resolve_right hc', ?_⟩
    simp [Nat.add_assoc]

theorem out_indexAddr (R : Rel μ0 h0 w0 μ lam L h w) {ρ : List LV} {a : Act} (E : EnvRel μ lam ρ a.tmps) {t : TypeId} {x ix : Operand}
    (hk : match evI ρ ix, P.underlying t, ev ρ x with
    | some i, some (.slice e), .val (.sl s) => need (P.info? e).isSome (vIdx s i (tsz P e) fun p => K (.val (.ptr (some p))) L h)
    | some i, some (.array n e), .val (.ptr q) => vPtr q fun p => need ((P.info? e).isSome && (decide (0 ≤ i) && decide (i < n))) (K (.val (.ptr (some ⟨p.b, p.o + i.toNat * tsz P e⟩))) L h)
    | some i, some (.array n e), .loc k j => need ((P.info? e).isSome && (decide (0 ≤ i) && decide (i < n))) (K (.loc k (j + i.toNat * tsz P e)) L h)
    | _, _, _ => False) :
    Out P μ0 h0 w0 μ lam w (Instr.indexAt t (a.eval x) (a.eval ix)) K := by
  split at hk
  · rename_i i e s hi ht hx
    obtain ⟨k, hk'⟩ := E.int hi
    rw [hk']
    obtain ⟨h1, hk⟩ := need_elim hk
    exact out_indexSlice R ht (Option.isSome_iff_exists.1 h1) (E.val hx) hk
  · rename_i i n e q hi ht hx
    obtain ⟨k, hk'⟩ := E.int hi
    have hv := E.val hx
    cases q with
    | none => exact hk.elim
    | some p =>
      simp only [vPtr] at hk
      obtain ⟨h1, hk⟩ := need_elim hk
      simp [Option.isSome_iff_exists] at h1
      obtain ⟨m, hm, hv⟩ := hv
      obtain ⟨⟨ei, hei⟩, h1⟩ := h1
      refine Out.same R (v := .pointer (some ⟨m.r, m.s + p.o + i.toNat * tsz P e, none⟩)) ?_ hk ⟨m, hm, by simp [Nat.add_assoc]⟩
      rw [hk', hv]
      unfold Instr.indexAt
      simp only [asIntOf, Sem.run_bind, Sem.run_pure, Result.andThen_ok, run_underlying ht, Instr.sureAddr]
      rw [if_pos ⟨h1.1, h1.2⟩, Sem.run_bind, run_sizeOf' hei]
      simp [add_addr]
  · rename_i i n e k' j hi ht hx
    obtain ⟨k, hk'⟩ := E.int hi
    obtain ⟨r, hr, hv⟩ := E.loc hx
    obtain ⟨h1, hk⟩ := need_elim hk
    simp [Option.isSome_iff_exists] at h1
    obtain ⟨⟨ei, hei⟩, h1⟩ := h1
    refine Out.same R (v := .pointer (some ⟨r, j + i.toNat * tsz P e, none⟩)) ?_ hk ⟨r, hr, rfl⟩
    rw [hk', hv]
    unfold Instr.indexAt
    simp only [asIntOf, Sem.run_bind, Sem.run_pure, Result.andThen_ok, run_underlying ht, Instr.sureAddr]
    rw [if_pos ⟨h1.1, h1.2⟩, Sem.run_bind, run_sizeOf' hei]
    simp [add_addr]
  · exact hk.elim
end
end Go.Ab
