import Derived.Test.YtafmabnolelknaaGreatDoorEG5
namespace Go.Ab
set_option linter.unusedSimpArgs false
set_option linter.unusedVariables false
theorem exT_ex : ∀ {zs : List AV} {KL : List AV → Prop}, exT zs KL → ∃ l, KL l
 | [], KL, h => ⟨[], h⟩
 | z :: zs, KL, h => by
  cases z <;> simp only [exT] at h
  all_goals
   obtain ⟨l, h1, _, _⟩ := exL_elim h
   obtain ⟨r, h2⟩ := exT_ex h1
   exact ⟨_, h2⟩
theorem exV_ex {z : AV} {KV : AV → Prop} (h : exV z KV) : ∃ u, KV u := by
 by_cases hz : ∃ c, z = .tup c
 ·obtain ⟨c, rfl⟩ := hz
  obtain ⟨l, hl⟩ := exT_ex h
  exact ⟨_, hl⟩
 ·obtain ⟨u, hu, _⟩ := exV_elim (fun c hc => hz ⟨c, hc⟩) h
  exact ⟨u, hu⟩
theorem exL_mono : ∀ {zs : List AV} {A B : List AV → Prop}, (∀ l, A l → B l) → exL zs A → exL zs B
 | [], A, B, hm, h => hm _ h
 | z :: zs, A, B, hm, h => by
  cases z <;> simp only [exL] at h ⊢
  case int => obtain ⟨n, h⟩ := h; exact ⟨n, exL_mono (fun l => hm _) h⟩
  case bool => obtain ⟨n, h⟩ := h; exact ⟨n, exL_mono (fun l => hm _) h⟩
  case str => obtain ⟨n, h⟩ := h; exact ⟨n, exL_mono (fun l => hm _) h⟩
  case ptr => obtain ⟨n, h⟩ := h; exact ⟨n, exL_mono (fun l => hm _) h⟩
  case sl => obtain ⟨n, h⟩ := h; exact ⟨n, exL_mono (fun l => hm _) h⟩
  case map => obtain ⟨n, h⟩ := h; exact ⟨n, exL_mono (fun l => hm _) h⟩
  all_goals obtain ⟨n, h1, h⟩ := h; exact ⟨n, h1, exL_mono (fun l => hm _) h⟩
theorem exT_mono : ∀ {zs : List AV} {A B : List AV → Prop}, (∀ l, A l → B l) → exT zs A → exT zs B
 | [], A, B, hm, h => hm _ h
 | z :: zs, A, B, hm, h => by
  cases z <;> simp only [exT] at h ⊢
  all_goals exact exL_mono (fun l hl => exT_mono (fun r => hm _) hl) h
theorem exV_mono {z : AV} {A B : AV → Prop} (hm : ∀ l, A l → B l) (h : exV z A) : exV z B := by
 cases z <;> simp only [exV] at h ⊢
 case agg => exact exL_mono (fun l => hm _) h
 case tup => exact exT_mono (fun l => hm _) h
 all_goals
  refine exL_mono (fun l hl => ?_) h
  split at hl
  ·exact hm _ hl
  ·exact hl.elim
theorem exV_at {z v : AV} {K : AV → Prop} (h : exV z fun u => v = u ∧ K u) : K v := by
 obtain ⟨u, rfl, hu⟩ := exV_ex h
 exact hu
theorem keyIs_mono {P : Program} {kt : TypeId} {a b : AV} {A B : Bool → Prop} (hm : ∀ x, A x → B x) (h : keyIs P kt a b A) : keyIs P kt a b B := by
 unfold keyIs at h ⊢
 generalize P.underlying kt = d at h ⊢
 split at h
 ·obtain ⟨h1, h2⟩ := need_elim h
  simp only [h1, need]; exact hm _ h2
 ·exact hm _ h
 ·exact hm _ h
 ·split at h
  ·exact hm _ h
  ·exact h.elim
 ·split at h
  ·exact hm _ h
  ·exact h.elim
 ·exact h.elim
theorem findP_mono {P : Program} {kt : TypeId} {k : AV} : ∀ {es : List (AV × AV × Nat)} {i : Nat} {A B : Option (Nat × AV × Nat) → Prop}, (∀ r, A r → B r) → findP P kt k es i A → findP P kt k es i B
 | [], i, A, B, hm, h => hm _ h
 | (k', v, n) :: es, i, A, B, hm, h => by
  simp only [findP] at h ⊢
  refine keyIs_mono (fun b hb => ?_) h
  cases b
  ·exact findP_mono hm hb
  ·exact hm _ hb
theorem PLookup_mono {P : Program} {kt et : TypeId} {m : Option Nat} {k : AV} {ok : Bool} {h : Heap} {A B : AV → Prop} (hm : ∀ v, A v → B v) (hk : PLookup P kt et m k ok h A) : PLookup P kt et m k ok h B := by
 unfold PLookup at hk ⊢
 split at hk
 ·obtain ⟨h1, hk⟩ := need_elim hk
  simp only [h1, need]
  exact findP_mono (fun r => hm _) hk
 ·exact hk.elim
theorem PEntry_mono {b : Nat} {h : Heap} {A B : AV → Prop} (hm : ∀ v, A v → B v) (hk : PEntry b h A) : PEntry b h B := by
 unfold PEntry at hk ⊢
 split at hk
 ·split at hk
  ·obtain ⟨h1, hk⟩ := need_elim hk
   simp only [h1, need]
   split at hk
   ·exact hm _ hk
   ·exact hk.elim
  ·exact hk.elim
 ·exact hk.elim
section
variable {P : Program} {μ0 : Ren} {h0 : Heap} {w0 : World} {μ : Ren} {lam : List Nat} {L : Locs} {h : Heap} {w : World} {K : KO}
abbrev NextOK (μ0 : Ren) (h0 : Heap) (w0 : World) (μ : Ren) (lam : List Nat) (K : KO) (d : Option Tmp) (a : Act) (next : Act → World → Prop) : Prop :=
 ∀ (lv : LV) (L' : Locs) (h' : Heap) (μ' : Ren) (lam' : List Nat) (v : Value) (w' : World), K lv L' h' → Rel μ0 h0 w0 μ' lam' L' h' w' → Ren.le μ μ' → lamLe lam lam' → lv.rel μ' lam' v → next (a.put d v) w'
theorem wp_of_out {o : Oper} {a : Act} {next : Act → World → Prop} {Q : Exit → Act → World → Prop} {s : Sem Value} (H : Out P μ0 h0 w0 μ lam w s K) (he : execOp a.eval o = (do pure (.value (← s)))) (hn : NextOK μ0 h0 w0 μ lam K o.dst a next) :
  o.wp P a w next Q := by
 obtain ⟨v, w', lv, L', h', μ', lam', hr, hk, R', h1, h2, hv⟩ := H
 unfold Oper.wp
 rw [he, Sem.run_bind, hr]
 exact hn _ _ _ _ _ _ _ hk R' h1 h2 hv
theorem wp_of_call {o : Oper} {a : Act} {next : Act → World → Prop} {Q : Exit → Act → World → Prop} (R : Rel μ0 h0 w0 μ lam L h w) {g : FuncId} {args : List AV} {vs : List Value} (hv : relL μ args vs) {z : AV}
  (H : AC P g args h fun v h' => exV z fun u => v = u ∧ K (.val u) L h') (he : (execOp a.eval o).run P w = .ok (.enter g vs.toArray) w) (hn : NextOK μ0 h0 w0 μ lam K o.dst a next) :
  o.wp P a w next Q := by
 unfold Oper.wp
 rw [he]
 refine (H.2 μ w vs R.heap hv).mono fun e w' ⟨v, x, h', μ', hx, hq, hev, hh, hr⟩ => ?_
 subst hx
 obtain ⟨u, rfl, hk⟩ := exV_ex hq
 exact hn _ _ _ _ _ _ _ hk (R.call hev hh) hev.le (lamLe.refl _) hr
theorem run_method {t : TypeId} {v : Value} {name : String} {g : FuncId} (hm : methodOf P t name = some g) : ∀ n, (method (n + 1) t v name).run P w = .ok (g, v) w := by
 intro n
 simp only [methodOf] at hm
 split at hm
 ·cases hm
 ·rename_i i hi
  split at hm
  ·rename_i m hf
   split at hm
   ·rename_i hp
    have hpath : m.path.toList = [] := by simpa using hp
    unfold method
    have hti : (typeInfo t).run P w = .ok i w := by simp [typeInfo, hi]
    rw [Sem.run_bind, hti]
    simp only [Result.andThen_ok, hf]
    rw [Sem.run_bind, hpath]
    simp only [follow, Sem.run_pure, Result.andThen_ok]
    split at hm
    ·rename_i g' e hfn hu
     cases hm
     simp only [hfn, Sem.run_bind]
     unfold receiverAt
     rw [Sem.run_bind, run_underlying hu]
     simp [Place.get]
    ·cases hm
    ·rename_i g' d hfn hu hne
     cases hm
     simp only [hu, Sem.run_bind]
     unfold receiverAt
     rw [Sem.run_bind, run_underlying hne]
     simp [Place.get]
    ·cases hm
   ·cases hm
  ·cases hm
theorem run_methodAt {t e : TypeId} {r : Addr} {name : String} {g : FuncId} (hm : methodAt P t name = some (g, e)) {v : Value} (hl : (loadVar e r).run P w = .ok v w) : ∀ n, (method (n + 1) t (.pointer (some r)) name).run P w = .ok (g, v) w := by
 intro n
 simp only [methodAt] at hm
 split at hm
 ·cases hm
 ·rename_i i hi
  split at hm
  ·rename_i m hf
   split at hm
   ·rename_i hp
    have hpath : m.path.toList = [] := by simpa using hp
    unfold method
    have hti : (typeInfo t).run P w = .ok i w := by simp [typeInfo, hi]
    rw [Sem.run_bind, hti]
    simp only [Result.andThen_ok, hf]
    rw [Sem.run_bind, hpath]
    simp only [follow, Sem.run_pure, Result.andThen_ok]
    split at hm
    ·rename_i g' e' hfn hu
     cases hm
     simp only [hfn, Sem.run_bind]
     unfold receiverAt
     rw [Sem.run_bind, run_underlying hu]
     simp only [Result.andThen_ok, Place.get, hp, if_true]
     have : ∀ s, (Builtin.ssaWrapNilChk_ #[t] t #[.pointer (some r), strVal "", strVal s]).run P w = .ok (.pointer (some r)) w := by
      intro s
      rfl
     have hadr : (asAddr (.pointer (some r))).run P w = .ok r w := rfl
     simp [this, hadr, hl]
    ·cases hm
   ·cases hm
  ·cases hm
theorem wp_invoke {o : Oper} {a : Act} {next : Act → World → Prop} {Q : Exit → Act → World → Prop} (R : Rel μ0 h0 w0 μ lam L h w) {g : AV} {vg : Value} (hgv : g.rel μ vg) {args : List AV} {vs : List Value} (hvs : relL μ args vs) {name : String} {z : AV}
  (hk : vInvoke P (AC P) g name args h fun v h' => exV z fun u => v = u ∧ K (.val u) L h')
  (he : (execOp a.eval o).run P w = (callMethod vg name vs.toArray).run P w) (hn : NextOK μ0 h0 w0 μ lam K o.dst a next) : o.wp P a w next Q := by
 unfold vInvoke at hk
 split at hk
 ·rename_i t v
  have fin : ∀ {g' : FuncId} {x : AV} {y0 y : Value}, vg = .iface t y0 → x.rel μ y → (match Nat.beq g' 1000000000 with | true => False | false => AC P g' (x :: args) h (fun v h' => exV z fun u => v = u ∧ K (.val u) L h')) → (∀ n, (method (n + 1) t y0 name).run P w = .ok (g', y) w) → o.wp P a w next Q := by
   intro g' x y0 y hv hy hk hmeth
   replace hk : AC P g' (x :: args) h (fun v h' => exV z fun u => v = u ∧ K (.val u) L h') := by
    split at hk
    ·exact hk.elim
    ·exact hk
   refine wp_of_call (vs := y :: vs) R (show relL μ (x :: args) _ from ⟨_, _, rfl, hy, hvs⟩) hk ?_ hn
   rw [he, hv]
   unfold callMethod
   rw [Sem.run_bind, run_program]
   simp only [Result.andThen_ok]
   have hmm := hmeth (P.types.size + 99)
   rw [Sem.run_bind, show P.types.size + Made.depth = P.types.size + 99 + 1 from rfl, hmm]
   simp only [Result.andThen_ok]
   rw [run_callFunc hk.1]
   have : #[y] ++ vs.toArray = (y :: vs).toArray := by apply Array.ext'; simp
   rw [this]
  obtain ⟨y, hv, hy⟩ := hgv
  split at hk
  ·rename_i g' hm
   exact fin hv hy hk fun n => run_method hm n
  ·rename_i hm
   split at hk
   ·rename_i g' e p hma
    split at hk
    ·rename_i z' hz'
     split at hk
     ·rename_i hok
      obtain ⟨e', he', rfl⟩ := hy
      obtain ⟨c1, rw1, hc1, hpart⟩ := PLoad_part (okTy_parts hok).2.2.2 hk
      obtain ⟨C, t', fz, q1, q2, q3, q4, q5, q6⟩ := R.heap.blk _ _ _ hc1 he'
      obtain ⟨i, zv, hi, _, _⟩ := tz_info hz'
      obtain ⟨v', x, l1, l2, l3⟩ := load_part (P := P) q1 q5 hz' hok hpart
      exact fin hv l3 l2 fun n => run_methodAt hma l1 n
     ·exact hk.elim
    ·exact hk.elim
   ·exact hk.elim
 ·exact hk.elim
theorem vop_wp {isLoc : Nat → Bool} {o : Oper} {ρ : List LV} {a : Act} {next : Act → World → Prop} {Q : Exit → Act → World → Prop} (R : Rel μ0 h0 w0 μ lam L h w) (E : EnvRel μ lam ρ a.tmps)
  (hk : vop P isLoc (AC P) o ρ L h K) (hn : NextOK μ0 h0 w0 μ lam K o.dst a next) : o.wp P a w next Q := by
 have ex : ∀ op, o.op = op → execOp a.eval o = execOp a.eval { o with op := op } := by intro op h; subst h; rfl
 unfold vop at hk
 split at hk
 ·rename_i x ho
  unfold Oper.wp
  rw [ex _ ho]
  exact hn _ _ _ _ _ _ _ hk R (.refl _) (lamLe.refl _) (E.ev x)
 ·rename_i x ho
  unfold Oper.wp
  rw [ex _ ho]
  exact hn _ _ _ _ _ _ _ hk R (.refl _) (lamLe.refl _) (E.ev x)
 ·rename_i c x y ho
  split at hk
  ·rename_i t hc
   have hcv : a.eval c = _ := E.val hc
   unfold Oper.wp
   rw [ex _ ho]
   rcases vif_elim hk with ⟨rfl, hk⟩ | ⟨rfl, hk⟩
   ·have : (execOp a.eval { o with op := .pick c x y }).run P w = .ok (.value (a.eval x)) w := by simp [execOp, hcv, asBool]
    rw [this]
    exact hn _ _ _ _ _ _ _ hk R (.refl _) (lamLe.refl _) (E.ev x)
   ·have : (execOp a.eval { o with op := .pick c x y }).run P w = .ok (.value (a.eval y)) w := by simp [execOp, hcv, asBool]
    rw [this]
    exact hn _ _ _ _ _ _ _ hk R (.refl _) (lamLe.refl _) (E.ev y)
  ·exact hk.elim
 ·rename_i t ho
  split at hk
  ·rename_i zs d hz hd
   exact wp_of_out (out_alloc R hz hk) (ex _ ho) hn
  ·exact hk.elim
 ·rename_i t x ho
  split at hk
  ·exact hk.elim
  ·rename_i v d hne hx hd
   exact wp_of_out (out_box R (E.val hx) (fun c hc => hne c (by rw [hc])) hk) (ex _ ho) hn
  ·exact hk.elim
 ·rename_i t x ho
  exact wp_of_out (out_load R E hk) (ex _ ho) hn
 ·rename_i t xa x ho
  split at hk
  ·rename_i v hx
   obtain ⟨h1, hk⟩ := need_elim hk
   obtain ⟨w', L', h', g1, g2, g3⟩ := out_store R E hx h1 hk
   unfold Oper.wp
   rw [ex _ ho]
   have : (execOp a.eval { o with op := .store t xa x }).run P w = .ok .skip w' := by
    show Sem.run P (do Instr.storeAt t (a.eval xa) (a.eval x); pure Next.skip) w = _
    rw [Sem.run_bind, g1]; rfl
   rw [this]
   exact hn _ _ _ _ _ _ _ g2 g3 (.refl _) (lamLe.refl _) trivial
  ·exact hk.elim
 ·rename_i x ho
  obtain ⟨lv, g1, g2, g3⟩ := out_nilCheck R E hk o ho
  unfold Oper.wp
  rw [g1]
  exact hn _ _ _ _ _ _ _ g2 R (.refl _) (lamLe.refl _) g3
 ·rename_i op t x y yt ho
  split at hk
  ·rename_i xv yv hx hy
   exact wp_of_out (out_bin R (E.val hx) (E.val hy) hk) (ex _ ho) hn
  ·exact hk.elim
 ·rename_i op t x ho
  split at hk
  ·rename_i xv hx
   exact wp_of_out (out_un R (E.val hx) hk) (ex _ ho) hn
  ·exact hk.elim
 ·rename_i src dst x ho
  split at hk
  ·rename_i sd k k' n hs hd hx
   have hv : a.eval x = _ := E.val hx
   refine wp_of_out (s := convert src dst (a.eval x)) (Out.same R (v := .int k (wrapK k n)) ?_ hk rfl) (ex _ ho) hn
   rw [hv]
   unfold convert
   rw [Sem.run_bind, run_underlying hs]
   simp only [Result.andThen_ok]
   rw [Sem.run_bind, run_underlying hd]
   simp [Conv.intToInt, wrapK]
  ·rename_i s hs hd hx
   have hv : a.eval x = _ := E.val hx
   refine wp_of_out (s := convert src dst (a.eval x)) (Out.same R (v := .string ⟨s.toArray⟩) ?_ hk rfl) (ex _ ho) hn
   rw [hv]
   unfold convert
   rw [Sem.run_bind, run_underlying hs]
   simp only [Result.andThen_ok]
   rw [Sem.run_bind, run_underlying hd]
   rfl
  ·rename_i e s hs hd hx
   obtain ⟨he, hk⟩ := need_elim hk
   exact wp_of_out (out_bytesToString R hs hd he (E.val hx) hk) (ex _ ho) hn
  ·rename_i e s hs hd hx
   obtain ⟨he, hle, hk⟩ := need_elim hk
   have hv : a.eval x = _ := E.val hx
   exact wp_of_out (s := convert src dst (a.eval x)) (by rw [hv]; exact out_stringToBytes R hs hd he hle hk) (ex _ ho) hn
  ·exact hk.elim
 ·rename_i s x f ho
  exact wp_of_out (out_fieldAddr R E hk) (ex _ ho) hn
 ·rename_i s x f ho
  exact wp_of_out (out_field R E hk) (ex _ ho) hn
 ·rename_i t x ix ho
  exact wp_of_out (out_indexAddr R E hk) (ex _ ho) hn
 ·rename_i t x ix ho
  exact wp_of_out (out_index R E hk) (ex _ ho) hn
 ·rename_i t ps ho
  exact wp_of_out (out_build R E hk) (ex _ ho) hn
 ·rename_i t n ps ho
  exact wp_of_out (out_buildSlice R E hk) (ex _ ho) hn
 ·rename_i t x lo hi mx ho
  exact wp_of_out (out_slice R E hk) (ex _ ho) hn
 ·rename_i t l c ho
  split at hk
  ·exact hk.elim
  ·rename_i e he
   split at hk
   ·rename_i zs n m hz hl hc
    obtain ⟨h1, hk⟩ := need_elim hk
    obtain ⟨kl, hl'⟩ := E.int hl
    obtain ⟨kc, hc'⟩ := E.int hc
    exact wp_of_out (s := Instr.makeSlice t (a.eval l) (a.eval c)) (by rw [hl', hc']; exact out_make R he hz h1 hk) (ex _ ho) hn
   ·exact hk.elim
 ·rename_i t x ho
  split at hk
  ·rename_i n e s0 hu hx
   unfold vSl at hk
   split at hk
   rotate_left
   ·exact hk.elim
   rename_i s
   obtain ⟨h1, hk⟩ := need_elim hk
   simp only [Bool.and_eq_true, decide_eq_true_eq] at h1
   obtain ⟨m, c', q, hm, hv, hlc, hq, hx1, hx2⟩ := E.val hx
   have hc0 : c' ≠ 0 := by
    have : s.cap ≤ c' := by
     by_cases ho : s.opn = 0
     ·rw [hx1 ho]; exact Nat.le_refl _
     ·exact (hx2 ho).1
    omega
   have hq' := hq.resolve_left hc0
   refine wp_of_out (s := Instr.arrayAt t (a.eval x)) (Out.same R (v := .pointer (some ⟨m.r, m.s + s.o, none⟩)) ?_ hk ⟨m, hm.resolve_right hc0, rfl⟩) (ex _ ho) hn
   rw [hv, hq']
   have hnot : ¬ s.len < n := by omega
   simp [Instr.arrayAt, run_underlying hu, hnot]
  ·exact hk.elim
 ·rename_i t r ho
  split at hk
  ·exact wp_of_out (s := Instr.makeMap t none) (out_makeMap R hk) (ex _ ho) hn
  ·exact hk.elim
 ·rename_i t x ix ok ho
  split at hk
  ·rename_i kt et m k z hu hx hix hz
   exact wp_of_out (out_lookup R hu (E.val hx) (E.val hix) (PLookup_mono (fun v hv => exV_at hv) hk)) (ex _ ho) hn
  ·exact hk.elim
 ·rename_i t m k x ho
  split at hk
  ·rename_i kt et m' kk v hu hm hkk hx
   unfold vMap at hk
   split at hk
   rotate_left
   ·exact hk.elim
   rename_i b
   obtain ⟨w', h', g1, g2, g3⟩ := out_update R hu (E.val hm) (E.val hkk) (E.val hx) hk
   unfold Oper.wp
   rw [ex _ ho]
   have : (execOp a.eval { o with op := .mapUpdate t m k x }).run P w = .ok .skip w' := by
    show Sem.run P (do Instr.mapUpdate t (a.eval m) (a.eval k) (a.eval x); pure Next.skip) w = _
    rw [Sem.run_bind, g1]; rfl
   rw [this]
   exact hn _ _ _ _ _ _ _ g2 g3 (.refl _) (lamLe.refl _) trivial
  ·exact hk.elim
 ·rename_i t m k x ho
  split at hk
  ·rename_i kt et m' kk v hu hm hkk hx
   unfold vMap at hk
   split at hk
   rotate_left
   ·exact hk.elim
   rename_i b
   obtain ⟨w', h', g1, g2, g3⟩ := out_update R hu (E.val hm) (E.val hkk) (E.val hx) hk
   unfold Oper.wp
   rw [ex _ ho]
   have : (execOp a.eval { o with op := .insert t m k x }).run P w = .ok .skip w' := by
    show Sem.run P (do Instr.mapUpdate t (a.eval m) (a.eval k) (a.eval x); pure Next.skip) w = _
    rw [Sem.run_bind, g1]; rfl
   rw [this]
   exact hn _ _ _ _ _ _ _ g2 g3 (.refl _) (lamLe.refl _) trivial
  ·exact hk.elim
 ·rename_i t x ho
  split at hk
  ·rename_i kt et m hu hx
   exact wp_of_out (out_range R hu (E.val hx) (m := m) hk) (ex _ ho) hn
  ·exact hk.elim
 ·rename_i x isS ho
  split at hk
  ·rename_i p hx
   obtain ⟨h1, hk⟩ := need_elim hk
   have h1' : p.o = 0 := of_decide_eq_true h1
   have hp : p = ⟨p.b, 0⟩ := by cases p; simp_all
   have hv := E.val hx
   rw [hp] at hv
   have hk : PNext p.b h fun v h' => K (.val v) L h' := hk
   exact wp_of_out (out_next (ty := o.type) R hv hk) (ex _ ho) hn
  ·exact hk.elim
 ·rename_i x ho
  split at hk
  ·rename_i p z hx hz
   obtain ⟨h1, hk⟩ := need_elim hk
   have h1' : p.o = 0 := of_decide_eq_true h1
   have hp : p = ⟨p.b, 0⟩ := by cases p; simp_all
   have hv := E.val hx
   rw [hp] at hv
   exact wp_of_out (out_entry R hv (PEntry_mono (fun v hv => exV_at hv) hk)) (ex _ ho) hn
  ·rename_i p hx hz
   obtain ⟨h1, hk⟩ := need_elim hk
   have h1' : p.o = 0 := of_decide_eq_true h1
   have hp : p = ⟨p.b, 0⟩ := by cases p; simp_all
   have hv := E.val hx
   rw [hp] at hv
   exact wp_of_out (out_entry R hv hk) (ex _ ho) hn
  ·exact hk.elim
 ·rename_i x i ho
  exact wp_of_out (out_extract R E hk) (ex _ ho) hn
 ·rename_i fn f c ho
  exact wp_of_out (out_makeFunc R E hk) (ex _ ho) hn
 ·rename_i t x ho
  exact wp_of_out (out_makeInterface R E hk) (ex _ ho) hn
 ·rename_i c ho
  split at hk
  ·exact hk.elim
  ·rename_i args hargs
   have hvs := E.vals _ _ hargs
   split at hk
   ·rename_i f hcal
    split at hk
    ·rename_i g z hg hz
     have hgv := E.val hg
     unfold vCallF at hk
     split at hk
     ·rename_i name r cap
      obtain ⟨f', c', hv, hf, hc⟩ := hgv
      obtain ⟨y, hf1, hy⟩ := relL_one hf
      have hfe : f' = #[y] := by apply Array.ext'; simpa using hf1
      subst hfe
      refine wp_invoke R hy hvs hk ?_ hn
      rw [ex _ ho]
      show Sem.run P (do let d ← resolve a.eval c o.type; invoke d.target d.args) w = _
      have : (resolve a.eval c o.type).run P w = .ok { target := .fn (.method name) c', args := #[y] ++ c.args.map a.eval } w := by
       unfold resolve
       simp [hcal, Deferred.ofValue, hv]
      rw [Sem.run_bind, this]
      have hargs' : #[y] ++ c.args.map a.eval = (y :: c.args.toList.map a.eval).toArray := by apply Array.ext'; simp
      simp only [Result.andThen_ok, invoke, hargs']
      have h1' : (y :: c.args.toList.map a.eval).toArray.extract 1 (y :: c.args.toList.map a.eval).toArray.size = (c.args.toList.map a.eval).toArray := by
       apply Array.ext'
       simp only [Array.toList_extract, List.extract_eq_drop_take']
       rw [List.take_of_length_le (by simp)]
       rfl
      show Sem.run P (callMethod y name ((y :: c.args.toList.map a.eval).toArray.extract 1 (y :: c.args.toList.map a.eval).toArray.size)) w = _
      rw [h1']
     unfold vCallV at hk
     split at hk
     ·rename_i g' first cap hne
      replace hk : AC P g' (first ++ args ++ cap) h (fun v h' => exV z fun u => v = u ∧ K (.val u) L h') := by
       split at hk
       ·exact hk.elim
       ·exact hk
      obtain ⟨f', c', hv, hf, hc⟩ := hgv
      refine wp_of_call (vs := f'.toList ++ c.args.toList.map a.eval ++ c'.toList) R ((hf.append hvs).append hc) hk ?_ hn
      rw [ex _ ho]
      show Sem.run P (do let d ← resolve a.eval c o.type; invoke d.target d.args) w = _
      have : (resolve a.eval c o.type).run P w = .ok { target := .fn (.func g') c', args := f' ++ c.args.map a.eval } w := by
       unfold resolve
       simp [hcal, Deferred.ofValue, hv]
      rw [Sem.run_bind, this]
      simp only [Result.andThen_ok, invoke]
      rw [run_callFunc hk.1]
      congr 2
      apply Array.ext'
      simp
     ·have := callable_ne hk.1
      simp at this
     ·exact hk.elim
    ·exact hk.elim
   ·rename_i r name hcal
    split at hk
    ·rename_i g z hg hz
     have hgv := E.val hg
     refine wp_invoke R hgv hvs hk ?_ hn
     rw [ex _ ho]
     show Sem.run P (do let d ← resolve a.eval c o.type; invoke d.target d.args) w = _
     have : (resolve a.eval c o.type).run P w = .ok { target := .fn (.method name) #[], args := #[a.eval r] ++ c.args.map a.eval } w := by
      unfold resolve
      simp [hcal]
     rw [Sem.run_bind, this]
     have hargs' : #[a.eval r] ++ c.args.map a.eval = (a.eval r :: c.args.toList.map a.eval).toArray := by apply Array.ext'; simp
     simp only [Result.andThen_ok, invoke, hargs']
     have h1' : (a.eval r :: c.args.toList.map a.eval).toArray.extract 1 (a.eval r :: c.args.toList.map a.eval).toArray.size = (c.args.toList.map a.eval).toArray := by
      apply Array.ext'
      simp only [Array.toList_extract, List.extract_eq_drop_take']
      rw [List.take_of_length_le (by simp)]
      rfl
     show Sem.run P (callMethod (a.eval r) name ((a.eval r :: c.args.toList.map a.eval).toArray.extract 1 (a.eval r :: c.args.toList.map a.eval).toArray.size)) w = _
     rw [h1']
    ·exact hk.elim
   ·rename_i b hcal
    obtain ⟨v, w', lv, L', h', μ', g1, g2, g3, g4, g5⟩ := out_builtin (ty := o.type) R hvs hk (c.args.map fun | .const _ => true | _ => false)
    unfold Oper.wp
    rw [ex _ ho]
    have : (execOp a.eval { o with op := .call c }).run P w = .ok (.value v) w' := by
     show Sem.run P (do let d ← resolve a.eval c o.type; invoke d.target d.args) w = _
     have : (resolve a.eval c o.type).run P w = .ok { target := .builtin b c.argTypes o.type (c.args.map fun | .const _ => true | _ => false), args := c.args.map a.eval } w := by
      unfold resolve
      simp [hcal]
      intro x _
      cases x <;> rfl
     rw [Sem.run_bind, this]
     simp only [Result.andThen_ok, invoke]
     have e1 : (c.args.map a.eval) = (c.args.toList.map a.eval).toArray := by apply Array.ext'; simp
     rw [e1]
     have e2 : (c.args.map fun | .const _ => true | _ => false) = (c.args.map fun | .const _ => true | _ => false) := rfl
     refine Eq.trans ?_ g1
     congr 1
    rw [this]
    exact hn _ _ _ _ _ _ _ g2 g3 g4 (lamLe.refl _) g5
 ·exact hk.elim
end
theorem wp_loop_ghost {P : Program} {G : Type} {Q : Exit → Act → World → Prop} {c : Code} (I : G → Act → World → Prop) (m : G → Nat)
  (round : ∀ g a w, I g a w → c.wp P (Exit.then (fun a' w' => ∃ g', I g' a' w' ∧ m g' < m g) Q) a w) (g : G) (a : Act) (w : World) (h : I g a w) : (Code.loop c).wp P Q a w := by
 have key : ∀ n g a w, m g = n → I g a w → ∀ b k cs,
   ∃ e a' w', Q e a' w' ∧ Arrives P (lone (b.at a (.code c :: .inLoop c :: k)) cs w) b k cs e a' w' := by
  intro n
  induction n using Nat.strongRecOn with
  | _ n ih =>
   intro g a w hn hI b k cs
   obtain ⟨e, a₁, w₁, hq, harr⟩ := round g a w hI b (.inLoop c :: k) cs
   cases e with
   | normal =>
    obtain ⟨g', hI₁, hlt⟩ := hq
    obtain ⟨e₂, a₂, w₂, hq₂, harr₂⟩ := ih (m g') (hn ▸ hlt) g' a₁ w₁ rfl hI₁ b k cs
    exact ⟨e₂, a₂, w₂, hq₂, .of_steps (Steps.trans harr (.one step_inLoop)) harr₂⟩
   | exit id => exact ⟨_, a₁, w₁, hq, .pass (x := .inLoop c) rfl (fun _ _ => .inl (by simp)) harr⟩
   | goto l => exact ⟨_, a₁, w₁, hq, .pass (x := .inLoop c) rfl (fun _ _ => .inl (by simp)) harr⟩
   | ret => exact ⟨_, a₁, w₁, hq, .pass (x := .inLoop c) rfl (fun _ _ => .inl (by simp)) harr⟩
   | panic ch => exact ⟨_, a₁, w₁, hq, .pass (x := .inLoop c) rfl (fun _ _ => .inl (by simp)) harr⟩
   | outgrown => exact ⟨_, a₁, w₁, hq, .pass (x := .inLoop c) rfl (fun _ _ => .inl (by simp)) harr⟩
 intro b k cs
 obtain ⟨e, a', w', hq, harr⟩ := key _ g a w rfl h b k cs
 exact ⟨e, a', w', hq, .of_steps (.one step_loop) harr⟩
section
variable {P : Program} {μ0 : Ren} {h0 : Heap} {w0 : World}
structure Post (μ0 : Ren) (h0 : Heap) (w0 : World) (μ : Ren) (lam : List Nat) (a : Act) (ws : List Nat) (st : St) (a' : Act) (w' : World) (μ' : Ren) (lam' : List Nat) : Prop where
 rel : Rel μ0 h0 w0 μ' lam' st.L st.h w'
 env : EnvRel μ' lam' st.ρ a'.tmps
 le : Ren.le μ μ'
 lle : lamLe lam lam'
 defers : a'.defers = a.defers
 size : a'.tmps.size = a.tmps.size
 keep : ∀ t, t ∉ ws → a'.tmps.getD t undef = a.tmps.getD t undef
def CPost (μ0 : Ren) (h0 : Heap) (w0 : World) (μ : Ren) (lam : List Nat) (a : Act) (ws : List Nat) (Q : Exit → St → Prop) (e : Exit) (a' : Act) (w' : World) : Prop :=
 ∃ st μ' lam', Q e st ∧ Post μ0 h0 w0 μ lam a ws st a' w' μ' lam'
theorem Post.start {μ : Ren} {lam : List Nat} {st : St} {a : Act} {w : World} (R : Rel μ0 h0 w0 μ lam st.L st.h w) (E : EnvRel μ lam st.ρ a.tmps) (ws : List Nat) : Post μ0 h0 w0 μ lam a ws st a w μ lam :=
 ⟨R, E, .refl _, .refl _, rfl, rfl, fun _ _ => rfl⟩
theorem Post.trans {μ μ1 μ2 : Ren} {lam lam1 lam2 : List Nat} {a a1 a2 : Act} {ws1 ws2 ws : List Nat} {st1 st2 : St} {w1 w2 : World} (p : Post μ0 h0 w0 μ lam a ws1 st1 a1 w1 μ1 lam1) (q : Post μ0 h0 w0 μ1 lam1 a1 ws2 st2 a2 w2 μ2 lam2)
  (h1 : ∀ t ∈ ws1, t ∈ ws) (h2 : ∀ t ∈ ws2, t ∈ ws) : Post μ0 h0 w0 μ lam a ws st2 a2 w2 μ2 lam2 :=
 ⟨q.rel, q.env, p.le.trans q.le, fun _ _ h => q.lle _ _ (p.lle _ _ h), q.defers.trans p.defers, q.size.trans p.size, fun t ht => (q.keep t fun h => ht (h2 t h)).trans (p.keep t fun h => ht (h1 t h))⟩
theorem Post.weaken {μ μ1 : Ren} {lam lam1 : List Nat} {a a1 : Act} {ws1 ws : List Nat} {st1 : St} {w1 : World} (p : Post μ0 h0 w0 μ lam a ws1 st1 a1 w1 μ1 lam1) (h1 : ∀ t ∈ ws1, t ∈ ws) : Post μ0 h0 w0 μ lam a ws st1 a1 w1 μ1 lam1 :=
 { p with keep := fun t ht => p.keep t fun h => ht (h1 t h) }
theorem EnvRel.put {μ : Ren} {lam : List Nat} {ρ : List LV} {a : Act} (E : EnvRel μ lam ρ a.tmps) {d : Option Nat} {lv : LV} {v : Value} (hv : lv.rel μ lam v) :
  EnvRel μ lam (match d with | some d => ρ.set d lv | none => ρ) (a.put d v).tmps := by
 cases d with
 | none => exact E
 | some d =>
  refine ⟨by simp [Act.put, E.len], fun t x hx => ?_⟩
  simp only [Act.put]
  rw [List.getElem?_set] at hx
  split at hx
  ·rename_i hdt
   subst hdt
   split at hx
   ·rename_i hlt
    cases hx
    have : d < a.tmps.size := by rw [← E.len]; exact hlt
    simpa [this] using hv
   ·cases hx
  ·rename_i hne
   have := E.get t x hx
   simpa [Array.getElem?_setIfInBounds, hne] using this
theorem put_keep {a : Act} {d : Option Nat} {v : Value} {t : Nat} (h : d ≠ some t) : (a.put d v).tmps.getD t undef = a.tmps.getD t undef := by
 cases d with
 | none => rfl
 | some d =>
  have : d ≠ t := fun h' => h (by rw [h'])
  simp [Act.put, Array.getElem?_setIfInBounds, this]
theorem put_size {a : Act} {d : Option Nat} {v : Value} : (a.put d v).tmps.size = a.tmps.size := by cases d <;> simp [Act.put]
theorem put_defers {a : Act} {d : Option Nat} {v : Value} : (a.put d v).defers = a.defers := by cases d <;> simp [Act.put]
theorem yielded_of {μ : Ren} {lam : List Nat} {ρ : List LV} {a : Act} (E : EnvRel μ lam ρ a.tmps) {ops : Array Oper} {j : Nat} {b : Bool} (h : guardVal ops ρ j = some b) : yielded ops a.tmps j = some b := by
 simp only [guardVal] at h
 split at h
 ·rename_i d hd
  split at h
  ·rename_i b' hb
   cases h
   have := E.get d _ hb
   have hlt : d < a.tmps.size := by rw [← E.len]; exact lt_of_get hb
   have e1 : a.tmps.getD d undef = .bool b := this
   unfold yielded
   rw [hd]
   have e2 : a.tmps[d]? = some (.bool b) := by
    rw [Array.getElem?_eq_getElem hlt]
    simpa [hlt] using e1
   simp [e2]
  ·cases h
 ·cases h
theorem setG_same {ops : Array Oper} {ρ : List LV} {j : Nat} {b : Bool} (h : guardVal ops ρ j = some b) : setG ops ρ j b = ρ := by
 unfold guardVal at h
 unfold setG
 split at h
 ·rename_i d hd
  split at h
  ·rename_i b' hb
   cases h
   refine List.ext_getElem? fun t => ?_
   rw [List.getElem?_set]
   split
   ·rename_i ht
    subst ht
    rw [if_pos (lt_of_get hb)]
    exact hb.symm
   ·rfl
  ·cases h
 ·cases h
theorem vguarded_elim {isLoc : Nat → Bool} {call : CallH} {ops : Array Oper} {o : Oper} {st : St} {K : St → Prop} (hk : vguarded P isLoc call ops o st K) :
  (actsAt ops o st.ρ = some true ∧ vop P isLoc call o st.ρ st.L st.h fun v L h => K (st.put o.dst v L h)) ∨ (actsAt ops o st.ρ = some false ∧ K (st.put o.dst .und st.L st.h)) := by
 unfold vguarded at hk
 unfold actsAt
 split at hk
 ·rename_i hg; exact .inl ⟨by simp [hg], hk⟩
 ·rename_i j want hg
  split at hk
  ·rename_i ho
   exact .inr ⟨by simp [ho], hk⟩
  ·rename_i ho
   split at hk
   ·exact hk.elim
   ·rename_i b hb
    simp only [ho, hb]
    rcases vif_elim hk with ⟨rfl, hk⟩ | ⟨rfl, hk⟩ <;> rw [setG_same hb] at hk <;> cases want <;> simp only [vside, Bool.not_true, Bool.not_false] at hk
    ·exact .inr ⟨rfl, hk⟩
    ·exact .inl ⟨rfl, hk⟩
    ·exact .inl ⟨rfl, hk⟩
    ·exact .inr ⟨rfl, hk⟩
theorem wanted_of {μ : Ren} {lam : List Nat} {ρ : List LV} {a : Act} (E : EnvRel μ lam ρ a.tmps) {ops : Array Oper} {o : Oper} {b : Bool} (h : actsAt ops o ρ = some b) : Region.wanted o (yielded ops a.tmps) = b := by
 unfold actsAt at h
 unfold Region.wanted
 split at h
 ·rename_i hg; cases h; simp [hg]
 ·rename_i j want hg
  simp only [hg]
  split at h
  ·rename_i ho
   cases h
   unfold guardOff at ho
   split at ho
   ·rename_i d hd
    split at ho
    ·rename_i hb
     have := E.get d _ hb
     have hlt : d < a.tmps.size := by rw [← E.len]; exact lt_of_get hb
     have e1 : ∃ cs, a.tmps.getD d undef = .tuple cs := by
      obtain ⟨cs, h1, _⟩ := this
      exact ⟨cs, h1⟩
     obtain ⟨cs, e1⟩ := e1
     have e2 : a.tmps[d]? = some (.tuple cs) := by
      rw [Array.getElem?_eq_getElem hlt]
      simpa [hlt] using e1
     unfold yielded
     simp [hd, e2]
    ·cases ho
   ·cases ho
  ·simp only [Option.map_eq_some_iff] at h
   obtain ⟨b', hb', rfl⟩ := h
   rw [yielded_of E hb']
   cases b' <;> cases want <;> rfl
theorem und_rel {μ : Ren} {lam : List Nat} : LV.und.rel μ lam undef := ⟨#[], rfl, rfl⟩
theorem vops_wp {isLoc : Nat → Bool} {ops : Array Oper} {ws : List Nat} (hws : ∀ (i : Nat) (o : Oper) (d : Nat), ops[i]? = some o → o.dst = some d → d ∈ ws) {Q : Exit → Act → World → Prop} :
  ∀ (is : List Nat) (st : St) (K : St → Prop) (μ : Ren) (lam : List Nat) (a : Act) (w : World), vops P isLoc (AC P) ops is st K → Rel μ0 h0 w0 μ lam st.L st.h w → EnvRel μ lam st.ρ a.tmps →
   (∀ st' a' w' μ' lam', K st' → Post μ0 h0 w0 μ lam a ws st' a' w' μ' lam' → Q .normal a' w') → wpOps P ops Q is a w
 | [], st, K, μ, lam, a, w, hk, R, E, hq => hq _ _ _ _ _ hk (Post.start R E ws)
 | i :: is, st, K, μ, lam, a, w, hk, R, E, hq => by
  simp only [vops] at hk
  split at hk
  ·exact hk.elim
  ·rename_i o ho
   simp only [wpOps, ho]
   have fin : ∀ (lv : LV) (L' : Locs) (h' : Heap) (μ' : Ren) (lam' : List Nat) (v : Value) (w' : World), vops P isLoc (AC P) ops is (st.put o.dst lv L' h') K → Rel μ0 h0 w0 μ' lam' L' h' w' → Ren.le μ μ' → lamLe lam lam' → lv.rel μ' lam' v →
     wpOps P ops Q is (a.put o.dst v) w' := by
    intro lv L' h' μ' lam' v w' hk' R' h1 h2 hv
    have E' := (E.mono h1 h2).put (d := o.dst) hv
    refine vops_wp hws is _ K μ' lam' _ _ hk' R' E' fun st2 a2 w2 μ2 lam2 hK p => hq _ _ _ μ2 lam2 hK ?_
    have p1 : Post μ0 h0 w0 μ lam a ws (st.put o.dst lv L' h') (a.put o.dst v) w' μ' lam' :=
     ⟨R', E', h1, h2, put_defers, put_size, fun t ht => put_keep fun hd => ht (hws i o t ho hd)⟩
    exact p1.trans p (fun _ h => h) (fun _ h => h)
   rcases vguarded_elim hk with ⟨hg, hk⟩ | ⟨hg, hk⟩
   ·rw [if_pos (wanted_of E hg)]
    exact .inl (vop_wp R E hk fun lv L' h' μ' lam' v w' a1 a2 a3 a4 a5 => fin lv L' h' μ' lam' v w' a1 a2 a3 a4 a5)
   ·rw [if_neg (by rw [wanted_of E hg]; simp)]
    exact fin .und _ _ μ lam undef w hk R (.refl _) (lamLe.refl _) und_rel
theorem region_ws {ops : Array Oper} (id : Nat) (d : Bool) : ∀ (i : Nat) (o : Oper) (t : Nat), ops[i]? = some o → o.dst = some t → t ∈ writes (.region id ops d) := by
 intro i o t ho hd
 simp only [writes, List.mem_filterMap]
 refine ⟨o, ?_, hd⟩
 have := lt_of_get (l := ops.toList) (i := i) (x := o) (by simpa using ho)
 exact List.mem_of_getElem? (by simpa using ho)
def DrawOK (P : Program) (draw : DrawH) : Prop :=
 ∀ (μ0 : Ren) (h0 : Heap) (w0 : World) (id : Nat) (ops : Array Oper) (st : St) (K : St → Prop) (μ : Ren) (lam : List Nat) (a : Act) (w : World), draw id ops st K →
  Rel μ0 h0 w0 μ lam st.L st.h w → EnvRel μ lam st.ρ a.tmps → (Code.region id ops true).wp P (CPost μ0 h0 w0 μ lam a (writes (.region id ops true)) fun e st' => e = .normal ∧ K st') a w
theorem allL_inst : ∀ {zs : List AV} {F : List AV → Prop}, allL zs F → ∀ {xs : List AV}, sameShapes zs xs = true → F xs
 | [], F, h, xs, hs => by
  cases xs with
  | nil => exact h
  | cons x xs => simp [sameShapes] at hs
 | z :: zs, F, h, [], hs => by simp [sameShapes] at hs
 | z :: zs, F, h, x :: xs, hs => by
  simp only [sameShapes, Bool.and_eq_true] at hs
  obtain ⟨h1, h2⟩ := hs
  cases z <;> simp only [allL] at h <;> simp only [sameShape] at h1
  case int k n =>
   cases x <;> simp at h1
   subst h1
   exact allL_inst (h _) h2
  case bool => cases x <;> simp at h1; exact allL_inst (h _) h2
  case str => cases x <;> simp at h1; exact allL_inst (h _) h2
  case ptr => cases x <;> simp at h1; exact allL_inst (h _) h2
  case sl => cases x <;> simp at h1; exact allL_inst (h _) h2
  case map => cases x <;> simp at h1; exact allL_inst (h _) h2
  all_goals exact allL_inst (h _ h1) h2
theorem setTop_get : ∀ {ts : List Nat} {ρ : List LV} {t : Nat} {lv : LV}, (setTop ρ ts)[t]? = some lv → lv = .top ∨ (t ∉ ts ∧ ρ[t]? = some lv)
 | [], ρ, t, lv, h => .inr ⟨by simp, h⟩
 | s :: ts, ρ, t, lv, h => by
  rcases setTop_get (ts := ts) h with h1 | ⟨h1, h2⟩
  ·exact .inl h1
  ·rw [List.getElem?_set] at h2
   split at h2
   ·split at h2
    ·cases h2; exact .inl rfl
    ·cases h2
   ·rename_i hne
    exact .inr ⟨by simp [h1]; exact fun hc => hne hc.symm, h2⟩
theorem setTop_length : ∀ (ts : List Nat) (ρ : List LV), (setTop ρ ts).length = ρ.length
 | [], ρ => rfl
 | s :: ts, ρ => by simp [setTop, setTop_length ts]
theorem setSlots_length : ∀ (ss : List Nat) (vs : List AV) (ρ : List LV), (setSlots ρ ss vs).length = ρ.length
 | [], vs, ρ => by cases vs <;> rfl
 | s :: ss, [], ρ => rfl
 | s :: ss, v :: vs, ρ => by simp [setSlots, setSlots_length ss vs]
theorem setSlots_get : ∀ {ss : List Nat} {vs : List AV} {ρ : List LV} {t : Nat} {lv : LV}, (setSlots ρ ss vs)[t]? = some lv → (∃ (i : Nat) (v : AV), ss[i]? = some t ∧ vs[i]? = some v ∧ lv = .val v) ∨ ρ[t]? = some lv
 | [], vs, ρ, t, lv, h => by cases vs <;> exact .inr h
 | s :: ss, [], ρ, t, lv, h => .inr h
 | s :: ss, v :: vs, ρ, t, lv, h => by
  rcases setSlots_get (ss := ss) h with ⟨i, u, h1, h2, h3⟩ | h1
  ·exact .inl ⟨i + 1, u, by simpa using h1, by simpa using h2, h3⟩
  ·rw [List.getElem?_set] at h1
   split at h1
   ·rename_i hst
    split at h1
    ·cases h1; exact .inl ⟨0, v, by simp [hst], by simp, rfl⟩
    ·cases h1
   ·exact .inr h1
theorem slotVals_get : ∀ {ss : List Nat} {ρ : List LV} {vs : List AV}, slotVals ρ ss = some vs → vs.length = ss.length ∧ ∀ (i s : Nat) (v : AV), ss[i]? = some s → vs[i]? = some v → ρ[s]? = some (.val v)
 | [], ρ, vs, h => by simp [slotVals] at h; subst h; simp
 | s :: ss, ρ, vs, h => by
  simp only [slotVals] at h
  split at h
  ·rename_i v l hv hl
   cases h
   obtain ⟨h1, h2⟩ := slotVals_get hl
   refine ⟨by simp [h1], fun i s' v' hs hv' => ?_⟩
   cases i with
   | zero => simp at hs hv'; subst hs; subst hv'; exact hv
   | succ i => exact h2 i s' v' (by simpa using hs) (by simpa using hv')
  ·cases h
theorem locVals_setLocs : ∀ {ks : List Nat} {L L' : Locs} {vs : List AV}, locVals L' ks = some vs → (∀ k ∈ ks, ∃ c c' : List AV, L[k]? = some c ∧ L'[k]? = some c' ∧ c'.length = c.length) →
  (setLocs L ks vs).length = L.length ∧ ∀ k : Nat, (setLocs L ks vs)[k]? = if k ∈ ks then L'[k]? else L[k]?
 | [], L, L', vs, h, hc => by simp [setLocs]
 | k :: ks, L, L', vs, h, hc => by
  simp only [locVals] at h
  split at h
  ·rename_i c' l hk hl
   cases h
   obtain ⟨c, c2, h1, h2, h3⟩ := hc k (by simp)
   rw [hk] at h2; cases h2
   simp only [setLocs, h1]
   have e1 : (c' ++ l).take c.length = c' := by rw [← h3]; simp
   have e2 : (c' ++ l).drop c.length = l := by rw [← h3]; simp
   rw [e1, e2]
   have hkl := lt_of_get h1
   obtain ⟨g1, g2⟩ := locVals_setLocs (ks := ks) (L := L.set k c') (L' := L') (vs := l) hl (by
    intro j hj
    obtain ⟨d, d', k1, k2, k3⟩ := hc j (by simp [hj])
    by_cases hjk : k = j
    ·subst hjk
     rw [h1] at k1; cases k1
     rw [hk] at k2; cases k2
     exact ⟨c', c', by simp [hkl], hk, rfl⟩
    ·exact ⟨d, d', by rw [List.getElem?_set, if_neg hjk]; exact k1, k2, k3⟩)
   refine ⟨by simpa using g1, fun j => ?_⟩
   rw [g2 j]
   by_cases hj : j ∈ ks
   ·simp [hj]
   ·by_cases hjk : j = k
    ·subst hjk
     simp [hj, hkl, hk]
    ·simp [hj, hjk, List.getElem?_set, Ne.symm hjk]
  ·cases h
theorem keepL_get {mods : List Nat} {L0 L : Locs} : ∀ {n : Nat}, keepL mods L0 L n → ∀ k, k < n → (k ∈ mods ∧ ∃ c c0 : List AV, L[k]? = some c ∧ L0[k]? = some c0 ∧ c.length = c0.length) ∨ (k ∉ mods ∧ L[k]? = L0[k]?)
 | 0, _, k, hk => by omega
 | n + 1, h, k, hk => by
  obtain ⟨h1, h2⟩ := h
  rcases Nat.lt_or_ge k n with hlt | hge
  ·exact keepL_get h2 k hlt
  ·obtain rfl : k = n := by omega
   split at h1
   ·rename_i hc
    left
    refine ⟨by simpa using hc, ?_⟩
    split at h1
    ·rename_i c c0 e1 e2
     exact ⟨c, c0, e1, e2, by simpa using (need_elim h1).1⟩
    ·exact h1.elim
   ·rename_i hc
    exact .inr ⟨by simpa using hc, h1⟩
theorem Rel.forget {μ : Ren} {lam : List Nat} {L L1 : Locs} {h : Heap} {w : World} (R : Rel μ0 h0 w0 μ lam L h w) {n : Nat} (hn : L1.length = n) (hle : n ≤ L.length) (hL : ∀ k, k < n → L1[k]? = L[k]?) : Rel μ0 h0 w0 μ (lam.take n) L1 h w := by
 have sub : ∀ k r : Nat, (lam.take n)[k]? = some r → k < n ∧ lam[k]? = some r := by
  intro k r hk
  rw [List.getElem?_take] at hk
  split at hk
  ·exact ⟨by assumption, hk⟩
  ·cases hk
 refine ⟨R.evo, R.heap, ⟨by simp [R.locs.len, hn]; omega, ?_, ?_, ?_, ?_⟩⟩
 ·intro k c r hc hr
  obtain ⟨h1, h2⟩ := sub k r hr
  rw [hL k h1] at hc
  exact R.locs.blk k c r hc h2
 ·intro k1 k2 r h1 h2
  exact R.locs.inj k1 k2 r (sub _ _ h1).2 (sub _ _ h2).2
 ·intro k r b B e hk
  exact R.locs.sep k r b B e (sub _ _ hk).2
 ·intro k r hk
  exact R.locs.new k r (sub _ _ hk).2
end
end Go.Ab
