import Derived.Test.YtafmabnolelknaaGreatDoorEG6
import Derived.Scope
namespace Go.Ab
set_option linter.unusedSimpArgs false
set_option linter.unusedVariables false
section
variable {P : Program} {μ0 : Ren} {h0 : Heap} {w0 : World}
theorem head_env {i : LoopInfo} {ws : List Nat} {st : St} {xs : List AV} {h : Heap} {μ μ1 : Ren} {lam lam1 : List Nat} {a a1 : Act} (E : EnvRel μ lam st.ρ a.tmps) (hsize : a1.tmps.size = a.tmps.size) (h1 : Ren.le μ μ1) (h2 : lamLe lam lam1)
  (hkeep : ∀ t, t ∉ ws → a1.tmps.getD t undef = a.tmps.getD t undef) (hslots : ∀ (j s : Nat) (v : AV), i.slots[j]? = some s → (xs.take i.slots.length)[j]? = some v → v.rel μ1 (a1.tmps.getD s undef)) :
  EnvRel μ1 lam1 (headSt i ws st xs h).ρ a1.tmps := by
 refine ⟨by simp [headSt, setSlots_length, setTop_length, E.len, hsize], fun t lv ht => ?_⟩
 rcases setSlots_get ht with ⟨j, v, g1, g2, rfl⟩ | g
 ·exact hslots j t v g1 g2
 ·rcases setTop_get g with rfl | ⟨g1, g2⟩
  ·trivial
  ·rw [hkeep t g1]
   exact (E.get t lv g2).mono h1 h2
theorem carry_parts {i : LoopInfo} {st : St} {xs : List AV} (h : carry i st = some xs) : ∃ a b, slotVals st.ρ i.slots = some a ∧ locVals st.L i.mods = some b ∧ xs = a ++ b ∧ a.length = i.slots.length := by
 simp only [carry] at h
 split at h
 ·rename_i a b ha hb
  cases h
  exact ⟨a, b, ha, hb, rfl, (slotVals_get ha).1⟩
 ·cases h
theorem locVals_mem : ∀ {ks : List Nat} {L : Locs} {vs : List AV}, locVals L ks = some vs → ∀ k ∈ ks, ∃ c, L[k]? = some c
 | [], L, vs, h, k, hk => by simp at hk
 | j :: ks, L, vs, h, k, hk => by
  simp only [locVals] at h
  split at h
  ·rename_i c l hc hl
   simp at hk
   rcases hk with rfl | hk
   ·exact ⟨c, hc⟩
   ·exact locVals_mem hl k hk
  ·cases h
theorem setC_same {st : St} {c : Operand} {b : Bool} (h : ev st.ρ c = .val (.bool b)) : setC st c b = st := by
 cases c with
 | tmp t =>
  have : st.ρ.set t (.val (.bool b)) = st.ρ := by
   refine List.ext_getElem? fun k => ?_
   rw [List.getElem?_set]
   split
   ·rename_i hk
    subst hk
    split
    ·rename_i hlt
     simp only [ev] at h
     rw [← h]
     simp [List.getD, hlt]
    ·rename_i hlt
     simp [List.getElem?_eq_none (Nat.le_of_not_lt hlt)]
   ·rfl
  simp only [setC, this]
 | _ => rfl
theorem keepL_le {mods : List Nat} {L0 L : Locs} (h : keepL mods L0 L L0.length) : L0.length ≤ L.length := by
 rcases Nat.eq_zero_or_pos L0.length with h0 | hpos
 ·omega
 ·rcases keepL_get h (L0.length - 1) (by omega) with ⟨_, c, c0, k1, _, _⟩ | ⟨_, k1⟩
  ·have := lt_of_get k1; omega
  ·have : L0[L0.length - 1]? = some L0[L0.length - 1] := by simp
   rw [this] at k1
   have := lt_of_get k1; omega
theorem cut_locs {mods : List Nat} {L0 L : Locs} {lv0 lv : List AV} (hl0 : locVals L0 mods = some lv0) (hlv : locVals L mods = some lv) (hkeep : keepL mods L0 L L0.length) :
  (setLocs L0 mods lv).length = L0.length ∧ ∀ k, k < L0.length → (setLocs L0 mods lv)[k]? = L[k]? := by
 have hk := keepL_get hkeep
 obtain ⟨g1, g2⟩ := locVals_setLocs hlv (fun k hkm => by
  obtain ⟨c0, hc0⟩ := locVals_mem hl0 k hkm
  rcases hk k (lt_of_get hc0) with ⟨_, c, c0', e1, e2, e3⟩ | ⟨hn, _⟩
  ·exact ⟨c0', c, e2, e1, e3⟩
  ·exact absurd hkm hn)
 refine ⟨g1, fun k hkl => ?_⟩
 rw [g2 k]
 split
 ·rfl
 ·rename_i hkm
  rcases hk k hkl with ⟨hm, _⟩ | ⟨_, e⟩
  ·exact absurd hm hkm
  ·exact e.symm
theorem vcode_wp {H : Hints} {draw : DrawH} (hdraw : DrawOK P draw) : ∀ (c : Code) (cur : Nat) (st : St) (Q : Exit → St → Prop) (μ : Ren) (lam : List Nat) (a : Act) (w : World),
  vcode P H (AC P) draw c cur st Q → Rel μ0 h0 w0 μ lam st.L st.h w → EnvRel μ lam st.ρ a.tmps → c.wp P (CPost μ0 h0 w0 μ lam a (writes c) Q) a w
 | .skip, cur, st, Q, μ, lam, a, w, hk, R, E => wp_skip ⟨st, μ, lam, hk, Post.start R E _⟩
 | .region id ops false, cur, st, Q, μ, lam, a, w, hk, R, E =>
  wp_region (vops_wp (region_ws id false) _ st _ μ lam a w hk R E fun st' a' w' μ' lam' hK p => ⟨st', μ', lam', hK, p⟩)
 | .region id ops true, cur, st, Q, μ, lam, a, w, hk, R, E =>
  wp_mono (hdraw μ0 h0 w0 id ops st _ μ lam a w hk R E) fun e a' w' ⟨st', μ', lam', ⟨he, hK⟩, p⟩ => ⟨st', μ', lam', he ▸ hK, p⟩
 | .seq x y, cur, st, Q, μ, lam, a, w, hk, R, E => by
  refine wp_seq (wp_mono (vcode_wp hdraw x cur st _ μ lam a w hk R E) fun e a' w' ⟨st', μ', lam', hq, p⟩ => ?_)
  cases e with
  | normal =>
   refine wp_mono (vcode_wp hdraw y cur st' Q μ' lam' a' w' hq p.rel p.env) fun e2 a2 w2 ⟨st2, μ2, lam2, hq2, p2⟩ => ?_
   exact ⟨st2, μ2, lam2, hq2, p.trans p2 (fun t ht => by simp [writes, ht]) (fun t ht => by simp [writes, ht])⟩
  | _ => exact ⟨st', μ', lam', hq, p.weaken fun t ht => by simp [writes, ht]⟩
 | .cond c x y, cur, st, Q, μ, lam, a, w, hk, R, E => by
  simp only [vcode] at hk
  split at hk
  ·rename_i t ht
   have hv : a.eval c = _ := E.val ht
   rcases vif_elim hk with ⟨rfl, hk⟩ | ⟨rfl, hk⟩ <;> rw [setC_same ht] at hk
   ·exact wp_cond_true hv (wp_mono (vcode_wp hdraw x cur st Q μ lam a w hk R E) fun e a' w' ⟨st', μ', lam', hq, p⟩ => ⟨st', μ', lam', hq, p.weaken fun t ht => by simp [writes, ht]⟩)
   ·exact wp_cond_false hv (wp_mono (vcode_wp hdraw y cur st Q μ lam a w hk R E) fun e a' w' ⟨st', μ', lam', hq, p⟩ => ⟨st', μ', lam', hq, p.weaken fun t ht => by simp [writes, ht]⟩)
  ·exact hk.elim
 | .block id body, cur, st, Q, μ, lam, a, w, hk, R, E => by
  simp only [vcode] at hk
  split at hk
  ·refine wp_block (wp_mono (vcode_wp hdraw body id st _ μ lam a w hk R E) fun e a' w' ⟨st', μ', lam', hq, p⟩ => ?_)
   cases e with
   | exit i =>
    simp only at hq
    show Exit.inBlock id _ (.exit i) a' w'
    simp only [Exit.inBlock]
    split at hq
    ·rename_i hi
     rw [if_pos (by simpa using hi)]
     exact ⟨st', μ', lam', hq, p⟩
    ·rename_i hi
     rw [if_neg (by simpa using hi)]
     exact ⟨st', μ', lam', hq, p⟩
   | _ => exact ⟨st', μ', lam', hq, p⟩
  ·rename_i c hc
   obtain ⟨hl0, J, hbody, hrest⟩ := need_elim hk
   obtain ⟨lv0, hl0⟩ := Option.isSome_iff_exists.1 hl0
   refine wp_block (wp_mono (vcode_wp hdraw body id st _ μ lam a w hbody R E) fun e a' w' ⟨st2, μ2, lam2, hq, p2⟩ => ?_)
   have join : (match carry c.info st2 with | some xs => need (sameShapes c.kinds xs) (keepL c.info.mods st.L st2.L st.L.length ∧ J xs st2.h) | none => False) →
     CPost μ0 h0 w0 μ lam a (writes body) Q .normal a' w' := by
    intro hq
    split at hq
    ·rename_i xs' hxs'
     obtain ⟨hsh', hkeep, hJ⟩ := need_elim hq
     obtain ⟨sv, lv, hs, hl, hx, hn⟩ := carry_parts hxs'
     have e1 : xs'.take c.info.slots.length = sv := by rw [hx, ← hn]; simp
     have e2 : xs'.drop c.info.slots.length = lv := by rw [hx, ← hn]; simp
     obtain ⟨g1, g2⟩ := cut_locs hl0 hl hkeep
     have hle2 : st.L.length ≤ st2.L.length := keepL_le hkeep
     have hlam : lam2.take st.L.length = lam := by
      have hlen0 : lam.length = st.L.length := R.locs.len
      apply List.ext_getElem?
      intro k
      rw [List.getElem?_take]
      split
      ·rename_i hk
       have hkl : k < lam.length := by omega
       rw [p2.lle k lam[k] (by simp [hkl])]
       simp [hkl]
      ·rw [List.getElem?_eq_none (by omega)]
     have RF := p2.rel.forget (L1 := (headSt c.info (writes body) st xs' st2.h).L) (n := st.L.length) (by simp only [headSt]; rw [e2]; exact g1) hle2 (fun k hk => by simp only [headSt]; rw [e2]; exact g2 k hk)
     rw [hlam] at RF
     refine ⟨headSt c.info (writes body) st xs' st2.h, μ2, lam, allL_inst hrest hsh' st2.h hJ, ⟨RF, ?_, p2.le, lamLe.refl _, p2.defers, p2.size, p2.keep⟩⟩
     refine head_env E p2.size p2.le (lamLe.refl _) p2.keep fun j s v hj hv => ?_
     rw [e1] at hv
     exact p2.env.get s _ ((slotVals_get hs).2 j s v hj hv)
    ·exact hq.elim
   cases e with
   | exit i =>
    simp only at hq
    show Exit.inBlock id _ (.exit i) a' w'
    simp only [Exit.inBlock]
    split at hq
    ·rename_i hi
     rw [if_pos (by simpa using hi)]
     exact join hq
    ·rename_i hi
     rw [if_neg (by simpa using hi)]
     exact ⟨st2, μ2, lam2, hq, p2⟩
   | normal => exact join hq
   | _ => exact ⟨st2, μ2, lam2, hq, p2⟩
 | .loop body, cur, st, Q, μ, lam, a, w, hk, R, E => by
  simp only [vcode] at hk
  split at hk
  ·exact hk.elim
  ·rename_i xs0 hxs0
   obtain ⟨hsh0, I, m, hI0, hround⟩ := need_elim hk
   obtain ⟨sv0, lv0, hs0, hl0, hx0, hn0⟩ := carry_parts hxs0
   have hlen0 : lam.length = st.L.length := R.locs.len
   have headL : ∀ {L' : Locs} {lv : List AV}, locVals L' (H.loops cur).mods = some lv → keepL (H.loops cur).mods st.L L' st.L.length →
     (setLocs st.L (H.loops cur).mods lv).length = st.L.length ∧ ∀ k, k < st.L.length → (setLocs st.L (H.loops cur).mods lv)[k]? = L'[k]? := by
    intro L' lv hlv hkeep
    have hk := keepL_get hkeep
    obtain ⟨g1, g2⟩ := locVals_setLocs hlv (fun k hkm => by
     obtain ⟨c0, hc0⟩ := locVals_mem hl0 k hkm
     rcases hk k (lt_of_get hc0) with ⟨_, c, c0', e1, e2, e3⟩ | ⟨hn, _⟩
     ·exact ⟨c0', c, e2, e1, e3⟩
     ·exact absurd hkm hn)
    refine ⟨g1, fun k hkl => ?_⟩
    rw [g2 k]
    split
    ·rfl
    ·rename_i hkm
     rcases hk k hkl with ⟨hm, _⟩ | ⟨_, e⟩
     ·exact absurd hm hkm
     ·exact e.symm
   have keep0 : ∀ n, n ≤ st.L.length → keepL (H.loops cur).mods st.L st.L n := by
    intro n
    induction n with
    | zero => intro _; trivial
    | succ n ih =>
     intro hn
     refine ⟨?_, ih (by omega)⟩
     have hget : st.L[n]? = some st.L[n] := by simp
     split
     ·rw [hget]; simp [need]
     ·rfl
   refine wp_loop_ghost (G := List AV × Heap × Ren)
    (fun g a1 w1 => I g.1 g.2.1 ∧ sameShapes xs0 g.1 = true ∧ Post μ0 h0 w0 μ lam a (writes body) (headSt (H.loops cur) (writes body) st g.1 g.2.1) a1 w1 g.2.2 lam)
    (fun g => m g.1 g.2.1) ?_ (xs0, st.h, μ) a w ⟨hI0, ?_, ?_⟩
   ·rintro ⟨xs, h, μ1⟩ a1 w1 ⟨hI, hsh, p⟩
    have hr := allL_inst hround hsh h hI
    refine wp_mono (vcode_wp hdraw body cur _ _ μ1 lam a1 w1 hr p.rel p.env) fun e a2 w2 ⟨st2, μ2, lam2, hq, p2⟩ => ?_
    have pt := p.trans p2 (fun _ h => h) (fun _ h => h)
    cases e with
    | normal =>
     simp only at hq
     split at hq
     ·rename_i xs' hxs'
      obtain ⟨hsh', hkeep, hI', hm'⟩ := need_elim hq
      obtain ⟨sv, lv, hs, hl, hx, hn⟩ := carry_parts hxs'
      have e1 : xs'.take (H.loops cur).slots.length = sv := by rw [hx, ← hn]; simp
      have e2 : xs'.drop (H.loops cur).slots.length = lv := by rw [hx, ← hn]; simp
      obtain ⟨g1, g2⟩ := headL hl hkeep
      have hle2 : st.L.length ≤ st2.L.length := by
       rcases Nat.eq_zero_or_pos st.L.length with h0 | hpos
       ·omega
       ·rcases keepL_get hkeep (st.L.length - 1) (by omega) with ⟨_, c, c0, k1, _, _⟩ | ⟨_, k1⟩
        ·have := lt_of_get k1; omega
        ·have : st.L[st.L.length - 1]? = some st.L[st.L.length - 1] := by simp
         rw [this] at k1
         have := lt_of_get k1; omega
      have hlam : lam2.take st.L.length = lam := by
       apply List.ext_getElem?
       intro k
       rw [List.getElem?_take]
       split
       ·rename_i hk
        have hkl : k < lam.length := by omega
        rw [pt.lle k lam[k] (by simp [hkl])]
        simp [hkl]
       ·rw [List.getElem?_eq_none (by omega)]
      have RF := p2.rel.forget (L1 := (headSt (H.loops cur) (writes body) st xs' st2.h).L) (n := st.L.length) (by simp only [headSt]; rw [e2]; exact g1) hle2 (fun k hk => by simp only [headSt]; rw [e2]; exact g2 k hk)
      rw [hlam] at RF
      refine ⟨(xs', st2.h, μ2), ⟨hI', hsh', ⟨RF, ?_, pt.le, lamLe.refl _, pt.defers, pt.size, pt.keep⟩⟩, hm'⟩
      refine head_env E pt.size pt.le (lamLe.refl _) pt.keep fun j s v hj hv => ?_
      rw [e1] at hv
      have := (slotVals_get hs).2 j s v hj hv
      exact p2.env.get s _ this
     ·exact hq.elim
    | _ => exact ⟨st2, μ2, lam2, hq, pt⟩
   ·exact hsh0
   ·have e1 : xs0.take (H.loops cur).slots.length = sv0 := by rw [hx0, ← hn0]; simp
    have e2 : xs0.drop (H.loops cur).slots.length = lv0 := by rw [hx0, ← hn0]; simp
    obtain ⟨g1, g2⟩ := headL hl0 (keep0 _ (Nat.le_refl _))
    have hLeq : (headSt (H.loops cur) (writes body) st xs0 st.h).L = st.L := by
     simp only [headSt]
     rw [e2]
     apply List.ext_getElem?
     intro k
     rcases Nat.lt_or_ge k st.L.length with hk | hk
     ·exact g2 k hk
     ·rw [List.getElem?_eq_none (by omega), List.getElem?_eq_none hk]
    refine ⟨by rw [hLeq]; exact R, ?_, .refl _, lamLe.refl _, rfl, rfl, fun _ _ => rfl⟩
    refine head_env E rfl (.refl _) (lamLe.refl _) (fun _ _ => rfl) fun j s v hj hv => ?_
    rw [e1] at hv
    exact E.get s _ ((slotVals_get hs0).2 j s v hj hv)
 | .exit id, cur, st, Q, μ, lam, a, w, hk, R, E => wp_exit ⟨st, μ, lam, hk, Post.start R E _⟩
 | .ret, cur, st, Q, μ, lam, a, w, hk, R, E => wp_ret ⟨st, μ, lam, hk, Post.start R E _⟩
 | .rangeFunc .., cur, st, Q, μ, lam, a, w, hk, R, E => hk.elim
 | .scope body, cur, st, Q, μ, lam, a, w, hk, R, E => by
  refine wp_scope_straight (wp_mono (vcode_wp hdraw body cur st _ μ lam a w hk R E) fun e a' w' ⟨st', μ', lam', hq, p⟩ => ?_)
  cases e with
  | goto l => exact hq.elim
  | _ => exact ⟨st', μ', lam', hq, p⟩
 | .label _, cur, st, Q, μ, lam, a, w, hk, R, E => wp_label ⟨st, μ, lam, hk, Post.start R E _⟩
 | .goto _, cur, st, Q, μ, lam, a, w, hk, R, E => hk.elim
 | .refuse _, cur, st, Q, μ, lam, a, w, hk, R, E => hk.elim
def resSem (tmps : Array Value) : ResultVar → Sem Value
 | .tmp t => pure (tmps.getD t undef)
 | .cell p t => do loadVar t (← asAddr (tmps.getD p undef))
theorem run_result {μ : Ren} {lam : List Nat} {st : St} {a : Act} {w : World} (R : Rel μ0 h0 w0 μ lam st.L st.h w) (E : EnvRel μ lam st.ρ a.tmps) {r : ResultVar} {KV : AV → Prop} (hk : vresult P st r KV) :
  ∃ v x, (resSem a.tmps r).run P w = .ok v w ∧ KV x ∧ x.rel μ v := by
 cases r with
 | tmp t =>
  simp only [vresult] at hk
  split at hk
  ·rename_i v hv
   exact ⟨_, v, rfl, hk, E.get t _ hv⟩
  ·exact hk.elim
 | cell p t =>
  simp only [vresult, vLoad] at hk
  have hev : (st.ρ.getD p .top).rel μ lam (a.tmps.getD p undef) := by
   have := E.ev (.tmp p)
   simpa [Ab.ev, Act.eval] using this
  split at hk
  ·exact hk.elim
  ·rename_i z hz
   split at hk
   ·exact hk.elim
   ·rename_i hok
    have hok' := okTy_parts hok
    split at hk
    ·rename_i k o hx
     rw [hx] at hev
     obtain ⟨r, hr, hv⟩ := hev
     split at hk
     ·rename_i c hc
      obtain ⟨C, t', fz, h1, h2, h3⟩ := R.locs.blk k c r hc hr
      obtain ⟨v, x', g1, g2, g3⟩ := load_part (P := P) (s := 0) h1 (fun i x hx => by simpa using h2.get hx) hz hok hk
      refine ⟨v, x', ?_, g2, g3⟩
      simp only [resSem, hv, asAddr, Sem.run_bind, Sem.run_pure, Result.andThen_ok]
      simpa using g1
     ·exact hk.elim
    ·rename_i q hx
     rw [hx] at hev
     cases q with
     | none => exact hk.elim
     | some p' =>
      simp only [vPtr] at hk
      obtain ⟨e, he, hv⟩ := hev
      obtain ⟨c, rw', hc, hp⟩ := PLoad_part hok'.2.2.2 hk
      obtain ⟨C, t', fz, h1, h2, h3, h3', h4, h5⟩ := R.heap.blk p'.b _ e hc he
      obtain ⟨v, x', g1, g2, g3⟩ := load_part (P := P) h1 h4 hz hok hp
      refine ⟨v, x', ?_, g2, g3⟩
      simp only [resSem, hv, asAddr, Sem.run_bind, Sem.run_pure, Result.andThen_ok]
      exact g1
    ·exact hk.elim
theorem run_resultList {μ : Ren} {lam : List Nat} {st : St} {a : Act} {w : World} (R : Rel μ0 h0 w0 μ lam st.L st.h w) (E : EnvRel μ lam st.ρ a.tmps) : ∀ {rs : List ResultVar} {KL : List AV → Prop}, vresults P st rs KL →
  ∃ vs l, (rs.mapM (resSem a.tmps)).run P w = .ok vs w ∧ KL l ∧ relL μ l vs
 | [], KL, hk => ⟨[], [], rfl, hk, rfl⟩
 | r :: rs, KL, hk => by
  obtain ⟨v, x, g1, g2, g3⟩ := run_result R E hk
  obtain ⟨vs, l, g4, g5, g6⟩ := run_resultList R E g2
  refine ⟨v :: vs, x :: l, ?_, g5, v, vs, rfl, g3, g6⟩
  rw [List.mapM_cons, Sem.run_bind, g1]
  simp only [Result.andThen_ok, Sem.run_bind, g4, Sem.run_pure]
theorem run_results {μ : Ren} {lam : List Nat} {st : St} {a : Act} {w : World} {fn : Func} (R : Rel μ0 h0 w0 μ lam st.L st.h w) (E : EnvRel μ lam st.ρ a.tmps) {Q : AV → Heap → Prop} (hk : vret P fn st Q) :
  ∃ v x, (results fn a.tmps).run P w = .ok v w ∧ Q x st.h ∧ x.rel μ v := by
 obtain ⟨vs, l, g1, g2, g3⟩ := run_resultList R E hk
 have hl := g3.length
 have hrun : (results fn a.tmps).run P w = .ok (if h : vs.toArray.size = 1 then vs.toArray[0] else .tuple vs.toArray) w := by
  have e1 : results fn a.tmps = (do let vs ← fn.results.mapM (resSem a.tmps); pure (if h : vs.size = 1 then vs[0] else .tuple vs)) := by
   unfold results
   congr 1
  rw [e1, Sem.run_bind, Array.mapM_eq_mapM_toList, Sem.run_map, g1]
  rfl
 rw [hrun]
 match l, vs, g2, g3, hl with
 | [], [], g2, g3, _ => exact ⟨_, _, rfl, g2, #[], rfl, rfl⟩
 | [x], [v], g2, g3, _ =>
  obtain ⟨y, ys, e, hy, _⟩ := g3
  cases e
  exact ⟨_, _, rfl, g2, hy⟩
 | x :: y :: l, v :: u :: vs, g2, g3, _ => exact ⟨_, _, rfl, g2, _, rfl, g3⟩
theorem AC_of_code {H : Hints} {draw : DrawH} (hdraw : DrawOK P draw) {f : FuncId} {fn : Func} {c : Code} {args : List AV} {h : Heap} {Q : AV → Heap → Prop} (hf : P.funcs[f]? = some fn) (hb : fn.body = some c) (hn : (fn.name == "runtime.NumGoroutine") = false) (hy : Nat.beq f 1000000000 = false)
  (hk : vcode P H (AC P) draw c 1000000 ⟨args.map .val ++ List.replicate (fn.ntmps - args.length) .top, [], h⟩ fun e st => match e with
    | .normal => vret P fn st Q
    | .ret => vret P fn st Q
    | _ => False) : AC P f args h Q := by
 refine ⟨by simp only [callable, hf, hb, hn, hy]; rfl, fun μ w vs hh hv => ?_⟩
 have hvl := hv.length
 have R : Rel μ h w μ [] [] h w := ⟨Evo.refl μ h w, hh, ⟨rfl, by simp, by simp, by simp, by simp⟩⟩
 have E : EnvRel μ [] (args.map .val ++ List.replicate (fn.ntmps - args.length) .top) (vs.toArray ++ Array.replicate (fn.ntmps - vs.toArray.size) undef) := by
  refine ⟨by simp [hvl], fun t lv ht => ?_⟩
  rw [List.getElem?_append] at ht
  split at ht
  ·rename_i hlt
   simp at hlt
   simp only [List.getElem?_map, Option.map_eq_some_iff] at ht
   obtain ⟨x, hx, rfl⟩ := ht
   obtain ⟨y, hy, hxy⟩ := hv.get hx
   have hyl := lt_of_get hy
   have : (vs.toArray ++ Array.replicate (fn.ntmps - vs.toArray.size) undef).getD t undef = y := by
    rw [Array.getD_eq_getD_getElem?, Array.getElem?_append_left (by simpa using hyl)]
    simp [hy]
   rw [this]; exact hxy
  ·rw [List.getElem?_replicate] at ht
   split at ht
   ·cases ht; trivial
   ·cases ht
 refine calls_of_wp hf hb (wp_mono (vcode_wp (μ0 := μ) (h0 := h) (w0 := w) hdraw c 1000000 _ _ μ [] { tmps := vs.toArray ++ Array.replicate (fn.ntmps - vs.toArray.size) undef, defers := [] } w hk R E) ?_)
 rintro e a' w' ⟨st, μ', lam', hq, p⟩
 have hd : a'.defers = [] := p.defers
 cases e with
 | normal =>
  obtain ⟨v, x, g1, g2, g3⟩ := run_results p.rel p.env hq
  exact ⟨hd, v, g1, v, x, st.h, μ', rfl, g2, p.rel.evo, p.rel.heap, g3⟩
 | ret =>
  obtain ⟨v, x, g1, g2, g3⟩ := run_results p.rel p.env hq
  exact ⟨hd, v, g1, v, x, st.h, μ', rfl, g2, p.rel.evo, p.rel.heap, g3⟩
 | _ => exact hq.elim
end
end Go.Ab
