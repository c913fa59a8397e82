/- Calls; what a whole operation comes to. -/
import Derived.Test.YtceplmmmlindnaaCAb10
import Derived.Test.YtceplmmmlindnaaCAbM
namespace Go.Ab
set_option linter.unusedSimpArgs false
set_option linter.unusedVariables false

def callable (P : Program) (f : FuncId) : Bool := match P.funcs[f]? with | some fn => fn.body.isSome && !(fn.name == "runtime.NumGoroutine") | none => false

def CallPost (μ : Ren) (h : Heap) (w : World) (Q : AV → Heap → Prop) (e : Ending) (w' : World) : Prop :=
  ∃ v x h' μ', e = .returned v ∧ Q x h' ∧ Evo μ h w μ' h' w' ∧ HRel μ' h' w' ∧ x.rel μ' v

/-- A function's triple over the abstract heap: called with these values in this heap it returns, and Q holds of what it hands back and of the heap then. -/
def AC (P : Program) (f : FuncId) (args : List AV) (h : Heap) (Q : AV → Heap → Prop) : Prop :=
  callable P f = true ∧ ∀ (μ : Ren) (w : World) (vs : List Value), HRel μ h w → relL μ args vs → Calls P f vs.toArray w (CallPost μ h w Q)

theorem AC.mono {P : Program} {f : FuncId} {args : List AV} {h : Heap} {Q Q' : AV → Heap → Prop} (H : AC P f args h Q) (hq : ∀ v h', Q v h' → Q' v h') : AC P f args h Q' :=
  ⟨H.1, fun μ w vs hh hv => (H.2 μ w vs hh hv).mono fun _ _ ⟨v, x, h', μ', e, q, rest⟩ => ⟨v, x, h', μ', e, hq _ _ q, rest⟩⟩

section
variable {P : Program} {μ0 : Ren} {h0 : Heap} {w0 : World} {μ : Ren} {lam : List Nat} {L : Locs} {h : Heap} {w : World} {K : KO}

/-- Behind a call the call's own variables are as they were. -/
theorem Rel.call (R : Rel μ0 h0 w0 μ lam L h w) {μ' : Ren} {h' : Heap} {w' : World} (hev : Evo μ h w μ' h' w') (hh : HRel μ' h' w') : Rel μ0 h0 w0 μ' lam L h' w' := by
  have same : ∀ k r : Nat, lam[k]? = some r → w'.heap[r]? = w.heap[r]? := by
    intro k r hk
    refine hev.frame r (R.locs.new k r hk).2 fun b B e hb hB he => ?_
    exact R.locs.sep k r b B e hk hb (by cases B <;> simp_all [Blk.rw, Blk.live]) he
  refine ⟨R.evo.trans hev, hh, ⟨R.locs.len, ?_, R.locs.inj, ?_, ?_⟩⟩
  · intro k c r hc hr
    obtain ⟨C, t, fz, h1, h2, h3⟩ := R.locs.blk k c r hc hr
    exact ⟨C, t, fz, by rw [same k r hr, h1], relL.mono hev.le _ _ h2, h3⟩
  · intro k r b B e hk hb hB he
    have hnew := (R.locs.new k r hk).2
    rcases hev.liv b B e hb hB he with h1 | ⟨b0, B0, e0, h1, h2, h3, h4⟩
    · omega
    · rw [← h4]; exact R.locs.sep k r b0 B0 e0 hk h1 h2 h3
  · intro k r hk
    have := R.locs.new k r hk
    have := hev.size
    omega

theorem run_callFunc {f : FuncId} (hf : callable P f = true) (args : Array Value) : (callFunc f args).run P w = .ok (.enter f args) w := by
  simp only [callable] at hf
  split at hf
  · rename_i fn hfn
    simp only [Bool.and_eq_true, Bool.not_eq_true', Option.isSome_iff_exists] at hf
    obtain ⟨⟨c, hc⟩, hn⟩ := hf
    unfold callFunc
    rw [Sem.run_bind, run_program]
    simp only [Result.andThen_ok, hfn, hn, Bool.false_eq_true, if_false, hc, Option.isNone_some]
    rfl
  · cases hf

theorem out_copy (R : Rel μ0 h0 w0 μ lam L h w) {t u ty e : TypeId} (ht : telem P t = some e) {s src : Option SL} {vs vx : Value} (hs : AV.rel μ (.sl s) vs) (hx : AV.rel μ (.sl src) vx) {i : TypeInfo} (hi : P.info? e = some i)
    {KI : Int → Heap → Prop} (hk : PCopyS (tsz P e) s src h KI) :
    ∃ n w' h', (Builtin.copy_ #[t, u] ty #[vs, vx]).run P w = .ok (.int .i64 n) w' ∧ KI n h' ∧ Rel μ0 h0 w0 μ lam L h' w' := by
  have hu := telem_some ht
  obtain ⟨xs, hxs, hxl, hk⟩ := hk
  obtain ⟨a, len, cap, news, rfl, rfl, hnl, hr, hone, ha, hn⟩ := slCells_rel R hx (by
    by_cases h0 : min (slLen src) (slLen s) * tsz P e = 0
    · exact .inl h0
    · right
      have : min (slLen src) (slLen s) ≠ 0 := fun hc => h0 (by rw [hc]; simp)
      omega) hxs
  have hsz : tsz P e = i.size := tsz_info hi
  have hfirst : (Builtin.firstCells i.size (min (slLen src) (slLen s)) (.slice a (slLen src) cap)).run P w = .ok news.toArray w := by
    cases a with
    | none => rw [hn rfl]; exact run_firstCells_none w _ _ _ _
    | some a =>
      exact firstCells_of (w := w) (by rw [hnl, hsz]) (ha a rfl) w rfl
  have hmin : Nat.min (slLen src) (slLen s) = min (slLen src) (slLen s) := rfl
  cases s with
  | none =>
    obtain rfl : vs = _ := hs
    obtain ⟨hn0, hk⟩ := hk
    refine ⟨_, w, h, ?_, hk, R⟩
    unfold Builtin.copy_
    simp only [slLen] at hfirst hn0 ⊢
    simp [run_underlying hu, Builtin.lenOf, sizeOf, typeInfo, hi, hmin, goInt] at hfirst ⊢
    simp [hfirst]
  | some s =>
    obtain ⟨m, c', q, hmm, rfl, hlc, hq, hx1, hx2⟩ := hs
    obtain ⟨hle, hk⟩ := hk
    by_cases hc0 : c' = 0
    · have hcap : s.cap ≤ c' := by
        by_cases ho' : s.opn = 0
        · rw [hx1 ho']; omega
        · exact (hx2 ho').1
      have hl0 : s.len = 0 := by omega
      have hn0 : min (slLen src) (slLen (some s)) = 0 := by simp [slLen, hl0]
      have hxs0 : xs = [] := by apply List.eq_nil_of_length_eq_zero; rw [hxl, hn0]; simp
      have hnews : news = [] := by apply List.eq_nil_of_length_eq_zero; rw [hnl, hn0]; simp
      subst hxs0; subst hnews
      simp only [PStore] at hk
      split at hk
      · rename_i c hc
        obtain ⟨_, hk⟩ := hk
        rw [splice_nil, set_same hc] at hk
        refine ⟨_, w, h, ?_, hk, R⟩
        unfold Builtin.copy_
        simp only [slLen] at hfirst ⊢
        simp [run_underlying hu, Builtin.lenOf, sizeOf, typeInfo, hi, hmin, goInt, slLen] at hfirst ⊢
        simp [hfirst, store_nothing]
      · exact hk.elim
    · have hq' := hq.resolve_left hc0
      obtain ⟨w', h', g1, g2, g3⟩ := store_heap (P := P) R (p := ⟨s.b, s.o⟩) (hmm.resolve_right hc0) hr hone hk
      refine ⟨_, w', h', ?_, g2, g3⟩
      rw [← hq'] at g1
      unfold Builtin.copy_
      simp only [slLen] at hfirst ⊢
      simp [run_underlying hu, Builtin.lenOf, sizeOf, typeInfo, hi, hmin, goInt] at hfirst ⊢
      simp [hfirst, g1]

theorem relL_one {μ : Ren} {x : AV} {vs : List Value} (h : relL μ [x] vs) : ∃ v, vs = [v] ∧ x.rel μ v := by
  obtain ⟨y, ys, hl, hx, h'⟩ := h
  simp only [relL] at h'
  subst h'
  exact ⟨y, hl, hx⟩
theorem relL_two {μ : Ren} {x y : AV} {vs : List Value} (h : relL μ [x, y] vs) : ∃ v u, vs = [v, u] ∧ x.rel μ v ∧ y.rel μ u := by
  obtain ⟨v, ys, hl, hx, h'⟩ := h
  obtain ⟨u, rfl, hy⟩ := relL_one h'
  exact ⟨v, u, hl, hx, hy⟩

theorem src_slice (R : Rel μ0 h0 w0 μ lam L h w) {u e' : TypeId} (hu : P.underlying u = some (.slice e')) {sz : Nat} {s : Option SL} {v : Value} (hv : AV.rel μ (.sl s) v) {xs : List AV} (hx : slCells h s (slLen s * sz) = some xs) :
    ∃ news, Src P u sz v (slLen s) news w ∧ relL μ xs news ∧ oneAll xs = true := by
  obtain ⟨a, len, cap, news, rfl, rfl, hnl, hr, hone, ha, hn⟩ := slCells_rel R hv (by
    by_cases h0 : slLen s * sz = 0
    · exact .inl h0
    · right
      have : slLen s ≠ 0 := fun hc => h0 (by rw [hc]; simp)
      omega) hx
  refine ⟨news, ⟨.inl ⟨e', hu⟩, rfl, ?_⟩, hr, hone⟩
  cases a with
  | none =>
    intro w' _
    rw [hn rfl]; exact run_firstCells_none w' _ _ _ _
  | some a =>
    exact firstCells_of (w := w) hnl (ha a rfl)

theorem src_string {u : TypeId} (hu : P.underlying u = some .string) (s : List UInt8) : Src P u 1 (.string ⟨s.toArray⟩) s.length (s.map fun b => Value.int .u8 b.toNat) w := by
  refine ⟨.inr hu, by simp [Builtin.lenOf, ByteArray.size], fun w' _ => ?_⟩
  simp only [Builtin.firstCells, Sem.run_pure]
  congr 1
  apply Array.ext'
  simp [ByteArray.data_extract]

theorem isIntT_some {u : TypeId} (h : isIntT P u = true) : ∃ k, P.underlying u = some (.int k) := by
  simp only [isIntT] at h
  split at h
  · rename_i k hk; exact ⟨k, hk⟩
  · cases h
theorem isStrT_some {u : TypeId} (h : isStrT P u = true) : P.underlying u = some .string := by
  simp only [isStrT] at h
  split at h
  · assumption
  · cases h

theorem out_builtin (R : Rel μ0 h0 w0 μ lam L h w) {b : Builtin} {argT : List TypeId} {ty : TypeId} {args : List AV} {vs : List Value} (hv : relL μ args vs) (hk : vBuiltin P b argT args L h K) (cs : Array Bool) :
    ∃ v w' lv L' h' μ', (builtin b argT.toArray ty cs vs.toArray).run P w = .ok (.value v) w' ∧ K lv L' h' ∧ Rel μ0 h0 w0 μ' lam L' h' w' ∧ Ren.le μ μ' ∧ lv.rel μ' lam v := by
  have simple : ∀ {v : Value} {lv : LV} (s : Sem Value), builtin b argT.toArray ty cs vs.toArray = (do pure (.value (← s))) → s.run P w = .ok v w → K lv L h → lv.rel μ lam v →
      ∃ v w' lv L' h' μ', (builtin b argT.toArray ty cs vs.toArray).run P w = .ok (.value v) w' ∧ K lv L' h' ∧ Rel μ0 h0 w0 μ' lam L' h' w' ∧ Ren.le μ μ' ∧ lv.rel μ' lam v := by
    intro v lv s e1 e2 e3 e4
    exact ⟨v, w, lv, L, h, μ, by rw [e1, Sem.run_bind, e2]; rfl, e3, R, .refl _, e4⟩
  unfold vBuiltin at hk
  split at hk
  · rename_i t s
    obtain ⟨v, rfl, hs⟩ := relL_one hv
    split at hk
    · rename_i e hu
      refine simple (v := .int .i64 (slLen s)) (Builtin.len_ #[t] ty #[v]) rfl ?_ hk rfl
      cases s with
      | none => obtain rfl : v = _ := hs; simp [Builtin.len_, run_underlying hu, goInt, slLen]
      | some s => obtain ⟨m, c', q, hm, rfl, _⟩ := hs; simp [Builtin.len_, run_underlying hu, goInt, slLen]
    · exact hk.elim
  · rename_i t s
    obtain ⟨v, rfl, hs⟩ := relL_one hv
    obtain rfl : v = _ := hs
    split at hk
    · rename_i hu
      exact simple (v := .int .i64 s.length) (Builtin.len_ #[t] ty #[_]) rfl (by
        have : (⟨s.toArray⟩ : ByteArray).size = s.length := by simp [ByteArray.size]
        simp only [Builtin.len_]
        simp [run_underlying hu, goInt]
        exact congrArg _ this) hk rfl
    · exact hk.elim
  · rename_i t m
    obtain ⟨v, rfl, hs⟩ := relL_one hv
    split at hk
    · rename_i kt et es hu hes
      cases m with
      | none =>
        obtain rfl : v = _ := hs
        simp only [mapEs, Option.some.injEq] at hes
        subst hes
        exact simple (v := .int .i64 0) (Builtin.len_ #[t] ty #[_]) rfl (by simp [Builtin.len_, run_underlying hu, goInt]) hk rfl
      | some b =>
        simp only [mapEs] at hes
        split at hes
        · rename_i es' cl hb
          cases hes
          obtain ⟨e, ES, he, rfl, h2, h3⟩ := map_block R hb hs
          have hl := h3.length
          refine simple (v := .int .i64 es.length) (Builtin.len_ #[t] ty #[_]) rfl ?_ hk rfl
          simp only [Builtin.len_]
          simp [run_underlying hu, goInt, MapKept.run_getObj_map h2]
          have : ES.size = es.length := by simpa using hl
          rw [this]
        · cases hes
    · exact hk.elim
  · rename_i t u m k
    obtain ⟨v, y, rfl, hs, hx⟩ := relL_two hv
    split at hk
    · rename_i kt et hu
      obtain ⟨w', h', g1, g2, g3⟩ := out_delete (P := P) (u := u) (ty := ty) R hu hs hx hk
      refine ⟨.tuple #[], w', .val (.tup []), L, h', μ, ?_, g2, g3, .refl _, ⟨#[], rfl, rfl⟩⟩
      show Sem.run P (do pure (Next.value (← Builtin.delete_ #[t, u] ty #[v, y]))) w = _
      rw [Sem.run_bind, g1]; rfl
    · exact hk.elim
  · rename_i t s
    obtain ⟨v, rfl, hs⟩ := relL_one hv
    split at hk
    · exact hk.elim
    · rename_i e he
      have hu := telem_some he
      have done : ∀ {w' : World} {h' : Heap}, (Builtin.clear_ #[t] ty #[v]).run P w = .ok (.tuple #[]) w' → K (.val (.tup [])) L h' → Rel μ0 h0 w0 μ lam L h' w' →
          ∃ v1 w' lv L' h' μ', (builtin .clear #[t] ty cs #[v]).run P w = .ok (.value v1) w' ∧ K lv L' h' ∧ Rel μ0 h0 w0 μ' lam L' h' w' ∧ Ren.le μ μ' ∧ lv.rel μ' lam v1 := by
        intro w' h' g1 g2 g3
        refine ⟨.tuple #[], w', .val (.tup []), L, h', μ, ?_, g2, g3, .refl _, ⟨#[], rfl, rfl⟩⟩
        show Sem.run P (do pure (Next.value (← Builtin.clear_ #[t] ty #[v]))) w = _
        rw [Sem.run_bind, g1]; rfl
      split at hk
      · rename_i hz
        obtain rfl : v = _ := hs
        exact done (by simp [Builtin.clear_, run_underlying hu]) hk R
      · rename_i zs s hz
        obtain ⟨m, c', q, hm, rfl, hlc, hq, hx1, hx2⟩ := hs
        split at hk
        · rename_i hlen
          exact done (by simp [Builtin.clear_, run_underlying hu, hlen]) hk R
        · rename_i n hlen
          obtain ⟨hone, hk⟩ := need_elim hk
          have hc0 : c' ≠ 0 := by
            have : s.cap ≤ c' := by
              by_cases ho : s.opn = 0
              · rw [hx1 ho]; exact Nat.le_refl _
              · exact (hx2 ho).1
            omega
          have hq' := hq.resolve_left hc0
          obtain ⟨zv, hzr, hzc, hzl⟩ := zcells_zero hz w μ
          have hz2 : (Builtin.zeroCells zv.cells (n + 1)).toList = (List.replicate (n + 1) zv.cells.toList).flatten := by
            unfold Builtin.zeroCells
            exact zeros_list _ _
          have hone' : oneAll (List.replicate (n + 1) zs).flatten = true := by
            simp only [oneAll, List.all_eq_true] at hone ⊢
            intro x hx
            obtain ⟨l, hl1, hl2⟩ := List.mem_flatten.1 hx
            rw [(List.mem_replicate.1 hl1).2] at hl2
            exact hone x hl2
          obtain ⟨w', h', g1, g2, g3⟩ := store_heap (P := P) R (p := ⟨s.b, s.o⟩) (hm.resolve_right hc0) (relL.replicate hzc (n + 1)) hone' hk
          refine done ?_ g2 g3
          simp only [Builtin.clear_]
          simp [run_underlying hu, hlen]
          rw [hzr]
          simp only [Result.andThen_ok]
          rw [hz2, hq', g1]
          rfl
      · exact hk.elim
  · rename_i t s
    obtain ⟨v, rfl, hs⟩ := relL_one hv
    split at hk
    · rename_i e hu
      obtain rfl : v = _ := hs
      exact simple (v := .int .i64 0) (Builtin.cap_ #[t] ty #[_]) rfl (by simp [Builtin.cap_, run_underlying hu, goInt]) hk rfl
    · rename_i e s hu
      obtain ⟨hop, hk⟩ := hk
      obtain ⟨m, c', q, hm, rfl, hlc, hq, hx1, hx2⟩ := hs
      have := hx1 hop
      subst this
      exact simple (v := .int .i64 s.cap) (Builtin.cap_ #[t] ty #[_]) rfl (by simp [Builtin.cap_, run_underlying hu, goInt]) hk rfl
    · exact hk.elim
  · rename_i t u s x
    obtain ⟨v, y, rfl, hs, hx⟩ := relL_two hv
    split at hk
    · exact hk.elim
    · rename_i e he
      split at hk
      · exact hk.elim
      · rename_i zs hz
        have hu := telem_some he
        have hby := (need_elim hk).1
        replace hk := (need_elim hk).2
        simp at hby
        have fin : ∀ {n : Nat} {xs : List AV} {news : List Value}, (∀ i zv, P.info? e = some i → i.zero = some zv → App P t u ty e i zv y n news w) → relL μ xs news → oneAll xs = true →
            (PAppend (tsz P e) (tbytes P e) s n xs h fun s' h' => K (.val (.sl s')) L h') →
            ∃ v' w' lv L' h' μ', (builtin .append #[t, u] ty cs #[v, y]).run P w = .ok (.value v') w' ∧ K lv L' h' ∧ Rel μ0 h0 w0 μ' lam L' h' w' ∧ Ren.le μ μ' ∧ lv.rel μ' lam v' := by
          intro n xs news hA hr ho hkk
          obtain ⟨v', w', s', h', μ', g1, g2, g3, g4, g5⟩ := out_append (P := P) (ty := ty) R he hz hA hr ho hs hby hkk
          refine ⟨v', w', .val (.sl s'), L, h', μ', ?_, g2, g3, g4, g5⟩
          show Sem.run P (do pure (Next.value (← Builtin.append_ #[t, u] ty #[v, y]))) w = _
          rw [Sem.run_bind, g1]; rfl
        split at hk
        · rename_i k n hint
          obtain ⟨ho, g1, g2, g3, hk⟩ := need_elim hk
          obtain rfl : y = _ := hx
          obtain ⟨nn, rfl⟩ := int_nat g1
          obtain ⟨k', hu'⟩ := isIntT_some hint
          obtain ⟨zv, hzr, hzc, hzl⟩ := zcells_zero hz w μ
          have hn2 : nn * tbytes P e ≤ 140737488355328 := by
            have : ((nn * tbytes P e : Nat) : Int) ≤ 140737488355328 := by rw [Int.natCast_mul]; exact g3
            omega
          have hone : oneAll (List.replicate nn zs).flatten = true := by
            simp only [oneAll, List.all_eq_true] at ho ⊢
            intro x hx
            simp at hx
            obtain ⟨_, ⟨_, rfl⟩, hx⟩ := hx
            exact ho x hx
          refine fin (n := nn) (news := (List.replicate nn zv.cells.toList).flatten) ?_ (relL.replicate hzc nn) hone (by simpa using hk)
          intro i zv' hi hzi
          have hzv : zv' = zv := by
            simp only [zeroValue, typeInfo, Sem.run_bind, run_program, Result.andThen_ok, hi, hzi, Sem.run_pure, Result.ok.injEq, and_true] at hzr
            exact hzr
          subst hzv
          have hby' : tbytes P e = i.bytes := by simp [tbytes, Program.bytesOf, hi]
          have hsz : zv'.cells.size = i.size := by have := hzc.length; simp at this; rw [this, hzl]; exact tsz_info hi
          have hzl' : (Builtin.zeroCells zv'.cells nn).toList = (List.replicate nn zv'.cells.toList).flatten := by
            unfold Builtin.zeroCells
            exact zeros_list _ _
          rw [hby'] at hn2
          refine ⟨fun hf hst => run_zeros_fit hu hu' hi hzi (by omega) (by simp [maxI] at g2; omega) hf hsz (by rw [hzl']; exact hst), fun hg hb hm hold => ?_⟩
          have := run_zeros_new (P := P) (ty := ty) (k := k) hu hu' hi hzi (n := nn) (by omega) (by simp [maxI] at g2; omega) hg hb hm hsz hold
          rw [hzl'] at this
          exact this
        · rename_i src hint
          obtain ⟨hte, xs, hxs, hk⟩ := need_elim hk
          obtain ⟨e', he'⟩ := Option.isSome_iff_exists.1 hte
          obtain ⟨news, S, hr, hone⟩ := src_slice R (telem_some he') hx hxs
          refine fin ?_ hr hone hk
          intro i zv hi hzi
          rw [tsz_info hi] at S
          exact App.of_src hu hi hzi S
        · rename_i src hint
          obtain ⟨h1, hk⟩ := need_elim hk
          simp only [Bool.and_eq_true, beq_iff_eq] at h1
          obtain ⟨h1, h2⟩ := h1
          obtain rfl : y = _ := hx
          have hus := isStrT_some h1
          refine fin (news := src.map fun b => Value.int .u8 b.toNat) ?_ (relL_bytes_mk src) (oneAll_bytes src) (by rw [h2]; exact hk)
          intro i zv hi hzi
          have S := src_string (P := P) (w := w) hus src
          rw [← h2, tsz_info hi] at S
          exact App.of_src hu hi hzi S
        · exact hk.elim
  · rename_i t u s src
    obtain ⟨v, y, rfl, hs, hx⟩ := relL_two hv
    split at hk
    · exact hk.elim
    · rename_i e he
      obtain ⟨h1, hk⟩ := need_elim hk
      obtain ⟨i, hi⟩ := Option.isSome_iff_exists.1 h1
      obtain ⟨n, w', h', g1, g2, g3⟩ := out_copy (P := P) (u := u) (ty := ty) R he hs hx hi hk
      refine ⟨.int .i64 n, w', _, L, h', μ, ?_, g2, g3, .refl _, rfl⟩
      show Sem.run P (do pure (Next.value (← Builtin.copy_ #[t, u] ty #[v, y]))) w = _
      rw [Sem.run_bind, g1]; rfl
  · unfold minL at hk
    split at hk
    · obtain ⟨v, rfl, hx⟩ := relL_one hv
      obtain rfl : v = _ := hx
      refine simple (Builtin.min_ argT.toArray ty #[_]) rfl ?_ hk rfl
      simp [Builtin.min_]
    · rename_i k a k' b
      obtain ⟨h1, hk⟩ := need_elim hk
      obtain ⟨v, y, rfl, hx, hy⟩ := relL_two hv
      obtain rfl : v = _ := hx
      obtain rfl : y = _ := hy
      refine simple (v := .int k (minI a b)) (Builtin.min_ argT.toArray ty #[_, _]) rfl ?_ hk rfl
      simp [Builtin.min_, Builtin.min2, minI]
    · exact hk.elim
  · unfold maxL at hk
    split at hk
    · obtain ⟨v, rfl, hx⟩ := relL_one hv
      obtain rfl : v = _ := hx
      refine simple (Builtin.max_ argT.toArray ty #[_]) rfl ?_ hk rfl
      simp [Builtin.max_]
    · rename_i k a k' b
      obtain ⟨h1, hk⟩ := need_elim hk
      obtain ⟨v, y, rfl, hx, hy⟩ := relL_two hv
      obtain rfl : v = _ := hx
      obtain rfl : y = _ := hy
      refine simple (v := .int k (maxI2 a b)) (Builtin.max_ argT.toArray ty #[_, _]) rfl ?_ hk rfl
      simp [Builtin.max_, Builtin.max2, maxI2]
    · exact hk.elim
  · exact hk.elim
end
end Go.Ab
