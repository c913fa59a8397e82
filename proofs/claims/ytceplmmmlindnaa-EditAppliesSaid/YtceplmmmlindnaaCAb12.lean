/- What an operation's condition gives: its weakest precondition. -/
import Derived.Test.YtceplmmmlindnaaCAb11
namespace Go.Ab
set_option linter.unusedSimpArgs false
set_option linter.unusedVariables false

theorem exT_ex : ∀ {zs : List AV} {KL : List AV → Prop}, exT zs KL → ∃ l, KL l
  | [], KL, h => ⟨[], h⟩
  | z :: zs, KL, h => by
    cases z <;> simp only [exT] at h
    all_goals
      obtain ⟨l, h1, _, _⟩ := exL_elim h
      obtain ⟨r, h2⟩ := exT_ex h1
      exact ⟨_, h2⟩

theorem exV_ex {z : AV} {KV : AV → Prop} (h : exV z KV) : ∃ u, KV u := by
  by_cases hz : ∃ c, z = .tup c
  · obtain ⟨c, rfl⟩ := hz
    obtain ⟨l, hl⟩ := exT_ex h
    exact ⟨_, hl⟩
  · obtain ⟨u, hu, _⟩ := exV_elim (fun c hc => hz ⟨c, hc⟩) h
    exact ⟨u, hu⟩

section
variable {P : Program} {μ0 : Ren} {h0 : Heap} {w0 : World} {μ : Ren} {lam : List Nat} {L : Locs} {h : Heap} {w : World} {K : KO}

/-- What holds of what comes next. -/
abbrev NextOK (μ0 : Ren) (h0 : Heap) (w0 : World) (μ : Ren) (lam : List Nat) (K : KO) (d : Option Tmp) (a : Act) (next : Act → World → Prop) : Prop :=
  ∀ (lv : LV) (L' : Locs) (h' : Heap) (μ' : Ren) (lam' : List Nat) (v : Value) (w' : World), K lv L' h' → Rel μ0 h0 w0 μ' lam' L' h' w' → Ren.le μ μ' → lamLe lam lam' → lv.rel μ' lam' v → next (a.put d v) w'

theorem wp_of_out {o : Oper} {a : Act} {next : Act → World → Prop} {Q : Exit → Act → World → Prop} {s : Sem Value} (H : Out P μ0 h0 w0 μ lam w s K) (he : execOp a.eval o = (do pure (.value (← s)))) (hn : NextOK μ0 h0 w0 μ lam K o.dst a next) :
    o.wp P a w next Q := by
  obtain ⟨v, w', lv, L', h', μ', lam', hr, hk, R', h1, h2, hv⟩ := H
  unfold Oper.wp
  rw [he, Sem.run_bind, hr]
  exact hn _ _ _ _ _ _ _ hk R' h1 h2 hv

theorem wp_of_call {o : Oper} {a : Act} {next : Act → World → Prop} {Q : Exit → Act → World → Prop} (R : Rel μ0 h0 w0 μ lam L h w) {g : FuncId} {args : List AV} {vs : List Value} (hv : relL μ args vs) {z : AV}
    (H : AC P g args h fun v h' => exV z fun u => v = u ∧ K (.val u) L h') (he : (execOp a.eval o).run P w = .ok (.enter g vs.toArray) w) (hn : NextOK μ0 h0 w0 μ lam K o.dst a next) :
    o.wp P a w next Q := by
  unfold Oper.wp
  rw [he]
  refine (H.2 μ w vs R.heap hv).mono fun e w' ⟨v, x, h', μ', hx, hq, hev, hh, hr⟩ => ?_
  subst hx
  obtain ⟨u, rfl, hk⟩ := exV_ex hq
  exact hn _ _ _ _ _ _ _ hk (R.call hev hh) hev.le (lamLe.refl _) hr

theorem run_method {t : TypeId} {v : Value} {name : String} {g : FuncId} (hm : methodOf P t name = some g) : ∀ n, (method (n + 1) t v name).run P w = .ok (g, v) w := by
  intro n
  simp only [methodOf] at hm
  split at hm
  · cases hm
  · rename_i i hi
    split at hm
    · rename_i m hf
      split at hm
      · rename_i hp
        have hpath : m.path.toList = [] := by simpa using hp
        unfold method
        have hti : (typeInfo t).run P w = .ok i w := by simp [typeInfo, hi]
        rw [Sem.run_bind, hti]
        simp only [Result.andThen_ok, hf]
        rw [Sem.run_bind, hpath]
        simp only [follow, Sem.run_pure, Result.andThen_ok]
        split at hm
        · rename_i g' e hfn hu
          cases hm
          simp only [hfn, Sem.run_bind]
          unfold receiverAt
          rw [Sem.run_bind, run_underlying hu]
          simp [Place.get]
        · cases hm
        · rename_i g' d hfn hu hne
          cases hm
          simp only [hu, Sem.run_bind]
          unfold receiverAt
          rw [Sem.run_bind, run_underlying hne]
          simp [Place.get]
        · cases hm
      · cases hm
    · cases hm

theorem run_methodAt {t e : TypeId} {r : Addr} {name : String} {g : FuncId} (hm : methodAt P t name = some (g, e)) {v : Value} (hl : (loadVar e r).run P w = .ok v w) : ∀ n, (method (n + 1) t (.pointer (some r)) name).run P w = .ok (g, v) w := by
  intro n
  simp only [methodAt] at hm
  split at hm
  · cases hm
  · rename_i i hi
    split at hm
    · rename_i m hf
      split at hm
      · rename_i hp
        have hpath : m.path.toList = [] := by simpa using hp
        unfold method
        have hti : (typeInfo t).run P w = .ok i w := by simp [typeInfo, hi]
        rw [Sem.run_bind, hti]
        simp only [Result.andThen_ok, hf]
        rw [Sem.run_bind, hpath]
        simp only [follow, Sem.run_pure, Result.andThen_ok]
        split at hm
        · rename_i g' e' hfn hu
          cases hm
          simp only [hfn, Sem.run_bind]
          unfold receiverAt
          rw [Sem.run_bind, run_underlying hu]
          simp only [Result.andThen_ok, Place.get, hp, if_true]
          have : ∀ s, (Builtin.ssaWrapNilChk_ #[t] t #[.pointer (some r), strVal "", strVal s]).run P w = .ok (.pointer (some r)) w := by
            intro s
            rfl
          have hadr : (asAddr (.pointer (some r))).run P w = .ok r w := rfl
          simp [this, hadr, hl]
        · cases hm
      · cases hm
    · cases hm

theorem wp_invoke {o : Oper} {a : Act} {next : Act → World → Prop} {Q : Exit → Act → World → Prop} (R : Rel μ0 h0 w0 μ lam L h w) {g : AV} {vg : Value} (hgv : g.rel μ vg) {args : List AV} {vs : List Value} (hvs : relL μ args vs) {name : String} {z : AV}
    (hk : vInvoke P (AC P) g name args h fun v h' => exV z fun u => v = u ∧ K (.val u) L h')
    (he : (execOp a.eval o).run P w = (callMethod vg name vs.toArray).run P w) (hn : NextOK μ0 h0 w0 μ lam K o.dst a next) : o.wp P a w next Q := by
  unfold vInvoke at hk
  split at hk
  · rename_i t v
    have fin : ∀ {g' : FuncId} {x : AV} {y0 y : Value}, vg = .iface t y0 → x.rel μ y → AC P g' (x :: args) h (fun v h' => exV z fun u => v = u ∧ K (.val u) L h') → (∀ n, (method (n + 1) t y0 name).run P w = .ok (g', y) w) → o.wp P a w next Q := by
      intro g' x y0 y hv hy hk hmeth
      refine wp_of_call (vs := y :: vs) R (show relL μ (x :: args) _ from ⟨_, _, rfl, hy, hvs⟩) hk ?_ hn
      rw [he, hv]
      unfold callMethod
      rw [Sem.run_bind, run_program]
      simp only [Result.andThen_ok]
      have hmm := hmeth (P.types.size + 99)
      rw [Sem.run_bind, show P.types.size + Made.depth = P.types.size + 99 + 1 from rfl, hmm]
      simp only [Result.andThen_ok]
      rw [run_callFunc hk.1]
      have : #[y] ++ vs.toArray = (y :: vs).toArray := by apply Array.ext'; simp
      rw [this]
    obtain ⟨y, hv, hy⟩ := hgv
    split at hk
    · rename_i g' hm
      exact fin hv hy hk fun n => run_method hm n
    · rename_i hm
      split at hk
      · rename_i g' e p hma
        split at hk
        · rename_i z' hz'
          split at hk
          · rename_i hok
            obtain ⟨e', he', rfl⟩ := hy
            obtain ⟨c1, rw1, hc1, hpart⟩ := PLoad_part (okTy_parts hok).2.2.2 hk
            obtain ⟨C, t', fz, q1, q2, q3, q4, q5, q6⟩ := R.heap.blk _ _ _ hc1 he'
            obtain ⟨i, zv, hi, _, _⟩ := tz_info hz'
            obtain ⟨v', x, l1, l2, l3⟩ := load_part (P := P) q1 q5 hz' hok hpart
            exact fin hv l3 l2 fun n => run_methodAt hma l1 n
          · exact hk.elim
        · exact hk.elim
      · exact hk.elim
  · exact hk.elim

theorem vop_wp {isLoc : Nat → Bool} {o : Oper} {ρ : List LV} {a : Act} {next : Act → World → Prop} {Q : Exit → Act → World → Prop} (R : Rel μ0 h0 w0 μ lam L h w) (E : EnvRel μ lam ρ a.tmps)
    (hk : vop P isLoc (AC P) o ρ L h K) (hn : NextOK μ0 h0 w0 μ lam K o.dst a next) : o.wp P a w next Q := by
  have ex : ∀ op, o.op = op → execOp a.eval o = execOp a.eval { o with op := op } := by intro op h; subst h; rfl
  unfold vop at hk
  split at hk
  · rename_i x ho
    unfold Oper.wp
    rw [ex _ ho]
    exact hn _ _ _ _ _ _ _ hk R (.refl _) (lamLe.refl _) (E.ev x)
  · rename_i x ho
    unfold Oper.wp
    rw [ex _ ho]
    exact hn _ _ _ _ _ _ _ hk R (.refl _) (lamLe.refl _) (E.ev x)
  · rename_i c x y ho
    split at hk
    · rename_i t hc
      have hcv : a.eval c = _ := E.val hc
      unfold Oper.wp
      rw [ex _ ho]
      rcases vif_elim hk with ⟨rfl, hk⟩ | ⟨rfl, hk⟩
      · have : (execOp a.eval { o with op := .pick c x y }).run P w = .ok (.value (a.eval x)) w := by simp [execOp, hcv, asBool]
        rw [this]
        exact hn _ _ _ _ _ _ _ hk R (.refl _) (lamLe.refl _) (E.ev x)
      · have : (execOp a.eval { o with op := .pick c x y }).run P w = .ok (.value (a.eval y)) w := by simp [execOp, hcv, asBool]
        rw [this]
        exact hn _ _ _ _ _ _ _ hk R (.refl _) (lamLe.refl _) (E.ev y)
    · exact hk.elim
  · rename_i t ho
    split at hk
    · rename_i zs d hz hd
      exact wp_of_out (out_alloc R hz hk) (ex _ ho) hn
    · exact hk.elim
  · rename_i t x ho
    split at hk
    · exact hk.elim
    · rename_i v d hne hx hd
      exact wp_of_out (out_box R (E.val hx) (fun c hc => hne c (by rw [hc])) hk) (ex _ ho) hn
    · exact hk.elim
  · rename_i t x ho
    exact wp_of_out (out_load R E hk) (ex _ ho) hn
  · rename_i t xa x ho
    split at hk
    · rename_i v hx
      obtain ⟨h1, hk⟩ := need_elim hk
      obtain ⟨w', L', h', g1, g2, g3⟩ := out_store R E hx h1 hk
      unfold Oper.wp
      rw [ex _ ho]
      have : (execOp a.eval { o with op := .store t xa x }).run P w = .ok .skip w' := by
        show Sem.run P (do Instr.storeAt t (a.eval xa) (a.eval x); pure Next.skip) w = _
        rw [Sem.run_bind, g1]; rfl
      rw [this]
      exact hn _ _ _ _ _ _ _ g2 g3 (.refl _) (lamLe.refl _) trivial
    · exact hk.elim
  · rename_i x ho
    obtain ⟨lv, g1, g2, g3⟩ := out_nilCheck R E hk o ho
    unfold Oper.wp
    rw [g1]
    exact hn _ _ _ _ _ _ _ g2 R (.refl _) (lamLe.refl _) g3
  · rename_i op t x y yt ho
    split at hk
    · rename_i xv yv hx hy
      exact wp_of_out (out_bin R (E.val hx) (E.val hy) hk) (ex _ ho) hn
    · exact hk.elim
  · rename_i op t x ho
    split at hk
    · rename_i xv hx
      exact wp_of_out (out_un R (E.val hx) hk) (ex _ ho) hn
    · exact hk.elim
  · rename_i src dst x ho
    split at hk
    · rename_i sd k k' n hs hd hx
      have hv : a.eval x = _ := E.val hx
      refine wp_of_out (s := convert src dst (a.eval x)) (Out.same R (v := .int k (wrapK k n)) ?_ hk rfl) (ex _ ho) hn
      rw [hv]
      unfold convert
      rw [Sem.run_bind, run_underlying hs]
      simp only [Result.andThen_ok]
      rw [Sem.run_bind, run_underlying hd]
      simp [Conv.intToInt, wrapK]
    · rename_i s hs hd hx
      have hv : a.eval x = _ := E.val hx
      refine wp_of_out (s := convert src dst (a.eval x)) (Out.same R (v := .string ⟨s.toArray⟩) ?_ hk rfl) (ex _ ho) hn
      rw [hv]
      unfold convert
      rw [Sem.run_bind, run_underlying hs]
      simp only [Result.andThen_ok]
      rw [Sem.run_bind, run_underlying hd]
      rfl
    · rename_i e s hs hd hx
      obtain ⟨he, hk⟩ := need_elim hk
      exact wp_of_out (out_bytesToString R hs hd he (E.val hx) hk) (ex _ ho) hn
    · rename_i e s hs hd hx
      obtain ⟨he, hle, hk⟩ := need_elim hk
      have hv : a.eval x = _ := E.val hx
      exact wp_of_out (s := convert src dst (a.eval x)) (by rw [hv]; exact out_stringToBytes R hs hd he hle hk) (ex _ ho) hn
    · exact hk.elim
  · rename_i s x f ho
    exact wp_of_out (out_fieldAddr R E hk) (ex _ ho) hn
  · rename_i s x f ho
    exact wp_of_out (out_field R E hk) (ex _ ho) hn
  · rename_i t x ix ho
    exact wp_of_out (out_indexAddr R E hk) (ex _ ho) hn
  · rename_i t x ix ho
    exact wp_of_out (out_index R E hk) (ex _ ho) hn
  · rename_i t ps ho
    exact wp_of_out (out_build R E hk) (ex _ ho) hn
  · rename_i t n ps ho
    exact wp_of_out (out_buildSlice R E hk) (ex _ ho) hn
  · rename_i t x lo hi mx ho
    exact wp_of_out (out_slice R E hk) (ex _ ho) hn
  · rename_i t l c ho
    split at hk
    · exact hk.elim
    · rename_i e he
      split at hk
      · rename_i zs n m hz hl hc
        obtain ⟨h1, hk⟩ := need_elim hk
        obtain ⟨kl, hl'⟩ := E.int hl
        obtain ⟨kc, hc'⟩ := E.int hc
        exact wp_of_out (s := Instr.makeSlice t (a.eval l) (a.eval c)) (by rw [hl', hc']; exact out_make R he hz h1 hk) (ex _ ho) hn
      · exact hk.elim
  · rename_i t x ho
    split at hk
    · rename_i n e s hu hx
      obtain ⟨h1, hk⟩ := need_elim hk
      simp only [Bool.and_eq_true, decide_eq_true_eq] at h1
      obtain ⟨m, c', q, hm, hv, hlc, hq, hx1, hx2⟩ := E.val hx
      have hc0 : c' ≠ 0 := by
        have : s.cap ≤ c' := by
          by_cases ho : s.opn = 0
          · rw [hx1 ho]; exact Nat.le_refl _
          · exact (hx2 ho).1
        omega
      have hq' := hq.resolve_left hc0
      refine wp_of_out (s := Instr.arrayAt t (a.eval x)) (Out.same R (v := .pointer (some ⟨m.r, m.s + s.o, none⟩)) ?_ hk ⟨m, hm.resolve_right hc0, rfl⟩) (ex _ ho) hn
      rw [hv, hq']
      have hnot : ¬ s.len < n := by omega
      simp [Instr.arrayAt, run_underlying hu, hnot]
    · exact hk.elim
  · rename_i t r ho
    split at hk
    · exact wp_of_out (s := Instr.makeMap t none) (out_makeMap R hk) (ex _ ho) hn
    · exact hk.elim
  · rename_i t x ix ok ho
    split at hk
    · rename_i kt et m k hu hx hix
      exact wp_of_out (out_lookup R hu (E.val hx) (E.val hix) hk) (ex _ ho) hn
    · exact hk.elim
  · rename_i t m k x ho
    split at hk
    · rename_i kt et b kk v hu hm hkk hx
      obtain ⟨w', h', g1, g2, g3⟩ := out_update R hu (E.val hm) (E.val hkk) (E.val hx) hk
      unfold Oper.wp
      rw [ex _ ho]
      have : (execOp a.eval { o with op := .mapUpdate t m k x }).run P w = .ok .skip w' := by
        show Sem.run P (do Instr.mapUpdate t (a.eval m) (a.eval k) (a.eval x); pure Next.skip) w = _
        rw [Sem.run_bind, g1]; rfl
      rw [this]
      exact hn _ _ _ _ _ _ _ g2 g3 (.refl _) (lamLe.refl _) trivial
    · exact hk.elim
  · rename_i t x ho
    split at hk
    · rename_i kt et hu hx
      exact wp_of_out (out_range R hu (E.val hx) (m := none) hk) (ex _ ho) hn
    · rename_i kt et b hu hx
      exact wp_of_out (out_range R hu (E.val hx) (m := some b) hk) (ex _ ho) hn
    · exact hk.elim
  · rename_i x isS ho
    split at hk
    · rename_i p hx
      obtain ⟨h1, hk⟩ := need_elim hk
      have h1' : p.o = 0 := of_decide_eq_true h1
      have hp : p = ⟨p.b, 0⟩ := by cases p; simp_all
      have hv := E.val hx
      rw [hp] at hv
      exact wp_of_out (out_next (ty := o.type) R hv hk) (ex _ ho) hn
    · exact hk.elim
  · rename_i x ho
    split at hk
    · rename_i p hx
      obtain ⟨h1, hk⟩ := need_elim hk
      have h1' : p.o = 0 := of_decide_eq_true h1
      have hp : p = ⟨p.b, 0⟩ := by cases p; simp_all
      have hv := E.val hx
      rw [hp] at hv
      exact wp_of_out (out_entry R hv hk) (ex _ ho) hn
    · exact hk.elim
  · rename_i x i ho
    exact wp_of_out (out_extract R E hk) (ex _ ho) hn
  · rename_i fn f c ho
    exact wp_of_out (out_makeFunc R E hk) (ex _ ho) hn
  · rename_i t x ho
    exact wp_of_out (out_makeInterface R E hk) (ex _ ho) hn
  · rename_i c ho
    split at hk
    · exact hk.elim
    · rename_i args hargs
      have hvs := E.vals _ _ hargs
      split at hk
      · rename_i f hcal
        split at hk
        · rename_i g z hg hz
          have hgv := E.val hg
          unfold vCallF at hk
          split at hk
          · rename_i name r cap
            obtain ⟨f', c', hv, hf, hc⟩ := hgv
            obtain ⟨y, hf1, hy⟩ := relL_one hf
            have hfe : f' = #[y] := by apply Array.ext'; simpa using hf1
            subst hfe
            refine wp_invoke R hy hvs hk ?_ hn
            rw [ex _ ho]
            show Sem.run P (do let d ← resolve a.eval c o.type; invoke d.target d.args) w = _
            have : (resolve a.eval c o.type).run P w = .ok { target := .fn (.method name) c', args := #[y] ++ c.args.map a.eval } w := by
              unfold resolve
              simp [hcal, Deferred.ofValue, hv]
            rw [Sem.run_bind, this]
            have hargs' : #[y] ++ c.args.map a.eval = (y :: c.args.toList.map a.eval).toArray := by apply Array.ext'; simp
            simp only [Result.andThen_ok, invoke, hargs']
            have h1' : (y :: c.args.toList.map a.eval).toArray.extract 1 (y :: c.args.toList.map a.eval).toArray.size = (c.args.toList.map a.eval).toArray := by
              apply Array.ext'
              simp only [Array.toList_extract, List.extract_eq_drop_take']
              rw [List.take_of_length_le (by simp)]
              rfl
            show Sem.run P (callMethod y name ((y :: c.args.toList.map a.eval).toArray.extract 1 (y :: c.args.toList.map a.eval).toArray.size)) w = _
            rw [h1']
          unfold vCallV at hk
          split at hk
          · rename_i g' first cap hne
            obtain ⟨f', c', hv, hf, hc⟩ := hgv
            refine wp_of_call (vs := f'.toList ++ c.args.toList.map a.eval ++ c'.toList) R ((hf.append hvs).append hc) hk ?_ hn
            rw [ex _ ho]
            show Sem.run P (do let d ← resolve a.eval c o.type; invoke d.target d.args) w = _
            have : (resolve a.eval c o.type).run P w = .ok { target := .fn (.func g') c', args := f' ++ c.args.map a.eval } w := by
              unfold resolve
              simp [hcal, Deferred.ofValue, hv]
            rw [Sem.run_bind, this]
            simp only [Result.andThen_ok, invoke]
            rw [run_callFunc hk.1]
            congr 2
            apply Array.ext'
            simp
          · exact hk.elim
        · exact hk.elim
      · rename_i r name hcal
        split at hk
        · rename_i g z hg hz
          have hgv := E.val hg
          refine wp_invoke R hgv hvs hk ?_ hn
          rw [ex _ ho]
          show Sem.run P (do let d ← resolve a.eval c o.type; invoke d.target d.args) w = _
          have : (resolve a.eval c o.type).run P w = .ok { target := .fn (.method name) #[], args := #[a.eval r] ++ c.args.map a.eval } w := by
            unfold resolve
            simp [hcal]
          rw [Sem.run_bind, this]
          have hargs' : #[a.eval r] ++ c.args.map a.eval = (a.eval r :: c.args.toList.map a.eval).toArray := by apply Array.ext'; simp
          simp only [Result.andThen_ok, invoke, hargs']
          have h1' : (a.eval r :: c.args.toList.map a.eval).toArray.extract 1 (a.eval r :: c.args.toList.map a.eval).toArray.size = (c.args.toList.map a.eval).toArray := by
            apply Array.ext'
            simp only [Array.toList_extract, List.extract_eq_drop_take']
            rw [List.take_of_length_le (by simp)]
            rfl
          show Sem.run P (callMethod (a.eval r) name ((a.eval r :: c.args.toList.map a.eval).toArray.extract 1 (a.eval r :: c.args.toList.map a.eval).toArray.size)) w = _
          rw [h1']
        · exact hk.elim
      · rename_i b hcal
        obtain ⟨v, w', lv, L', h', μ', g1, g2, g3, g4, g5⟩ := out_builtin (ty := o.type) R hvs hk (c.args.map fun | .const _ => true | _ => false)
        unfold Oper.wp
        rw [ex _ ho]
        have : (execOp a.eval { o with op := .call c }).run P w = .ok (.value v) w' := by
          show Sem.run P (do let d ← resolve a.eval c o.type; invoke d.target d.args) w = _
          have : (resolve a.eval c o.type).run P w = .ok { target := .builtin b c.argTypes o.type (c.args.map fun | .const _ => true | _ => false), args := c.args.map a.eval } w := by
            unfold resolve
            simp [hcal]
            intro x _
            cases x <;> rfl
          rw [Sem.run_bind, this]
          simp only [Result.andThen_ok, invoke]
          have e1 : (c.args.map a.eval) = (c.args.toList.map a.eval).toArray := by apply Array.ext'; simp
          rw [e1]
          have e2 : (c.args.map fun | .const _ => true | _ => false) = (c.args.map fun | .const _ => true | _ => false) := rfl
          refine Eq.trans ?_ g1
          congr 1
        rw [this]
        exact hn _ _ _ _ _ _ _ g2 g3 g4 (lamLe.refl _) g5
  · exact hk.elim
end
end Go.Ab
