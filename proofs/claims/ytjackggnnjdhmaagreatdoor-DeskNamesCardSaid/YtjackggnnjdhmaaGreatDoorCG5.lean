import Derived.Test.YtjackggnnjdhmaaGreatDoorCG4
import Derived.Scope
import Derived.Orders
import Derived.WalkKit
import Derived.ProofKit
import Derived.JoinedCond
import Derived.Carry
import Derived.Lib.SmallJoins
namespace Go.Ab
set_option linter.unusedSimpArgs false
set_option linter.unusedVariables false
section
variable {P : Program} {μ0 : Ren} {h0 : Heap} {w0 : World}
theorem head_env {i : LoopInfo} {ws : List Nat} {st : St} {xs : List AV} {h : Heap} {μ μ1 : Ren} {lam lam1 : List Nat} {a a1 : Act} (E : EnvRel μ lam st.ρ a.tmps) (hsize : a1.tmps.size = a.tmps.size) (h1 : Ren.le μ μ1) (h2 : lamLe lam lam1)
  (hkeep : ∀ t, t ∉ ws → a1.tmps.getD t undef = a.tmps.getD t undef) (hslots : ∀ (j s : Nat) (v : AV), i.slots[j]? = some s → (xs.take i.slots.length)[j]? = some v → v.rel μ1 (a1.tmps.getD s undef)) :
  EnvRel μ1 lam1 (headSt i ws st xs h).ρ a1.tmps := by
 refine ⟨by simp [headSt, setSlots_length, setTop_length, E.len, hsize], fun t lv ht => ?_⟩
 rcases setSlots_get ht with ⟨j, v, g1, g2, rfl⟩ | g
 ·exact hslots j t v g1 g2
 ·rcases setTop_get g with rfl | ⟨g1, g2⟩
  ·trivial
  ·rw [hkeep t g1]
   exact (E.get t lv g2).mono h1 h2
theorem carry_parts {i : LoopInfo} {st : St} {xs : List AV} (h : carry i st = some xs) : ∃ a b, slotVals st.ρ i.slots = some a ∧ locVals st.L i.mods = some b ∧ xs = a ++ b ∧ a.length = i.slots.length := by
 simp only [carry] at h
 split at h
 ·rename_i a b ha hb
  cases h
  exact ⟨a, b, ha, hb, rfl, (slotVals_get ha).1⟩
 ·cases h
theorem locVals_mem : ∀ {ks : List Nat} {L : Locs} {vs : List AV}, locVals L ks = some vs → ∀ k ∈ ks, ∃ c, L[k]? = some c
 | [], L, vs, h, k, hk => by simp at hk
 | j :: ks, L, vs, h, k, hk => by
  simp only [locVals] at h
  split at h
  ·rename_i c l hc hl
   simp at hk
   rcases hk with rfl | hk
   ·exact ⟨c, hc⟩
   ·exact locVals_mem hl k hk
  ·cases h
theorem setC_same {st : St} {c : Operand} {b : Bool} (h : ev st.ρ c = .val (.bool b)) : setC st c b = st := by
 cases c with
 | tmp t =>
  have : st.ρ.set t (.val (.bool b)) = st.ρ := by
   refine List.ext_getElem? fun k => ?_
   rw [List.getElem?_set]
   split
   ·rename_i hk
    subst hk
    split
    ·rename_i hlt
     simp only [ev] at h
     rw [← h]
     simp [List.getD, hlt]
    ·rename_i hlt
     simp [List.getElem?_eq_none (Nat.le_of_not_lt hlt)]
   ·rfl
  simp only [setC, this]
 | _ => rfl
theorem keepL_le {mods : List Nat} {L0 L : Locs} (h : keepL mods L0 L L0.length) : L0.length ≤ L.length := by
 rcases Nat.eq_zero_or_pos L0.length with h0 | hpos
 ·omega
 ·rcases keepL_get h (L0.length - 1) (by omega) with ⟨_, c, c0, k1, _, _⟩ | ⟨_, k1⟩
  ·have := lt_of_get k1; omega
  ·have : L0[L0.length - 1]? = some L0[L0.length - 1] := by simp
   rw [this] at k1
   have := lt_of_get k1; omega
theorem cut_locs {mods : List Nat} {L0 L : Locs} {lv0 lv : List AV} (hl0 : locVals L0 mods = some lv0) (hlv : locVals L mods = some lv) (hkeep : keepL mods L0 L L0.length) :
  (setLocs L0 mods lv).length = L0.length ∧ ∀ k, k < L0.length → (setLocs L0 mods lv)[k]? = L[k]? := by
 have hk := keepL_get hkeep
 obtain ⟨g1, g2⟩ := locVals_setLocs hlv (fun k hkm => by
  obtain ⟨c0, hc0⟩ := locVals_mem hl0 k hkm
  rcases hk k (lt_of_get hc0) with ⟨_, c, c0', e1, e2, e3⟩ | ⟨hn, _⟩
  ·exact ⟨c0', c, e2, e1, e3⟩
  ·exact absurd hkm hn)
 refine ⟨g1, fun k hkl => ?_⟩
 rw [g2 k]
 split
 ·rfl
 ·rename_i hkm
  rcases hk k hkl with ⟨hm, _⟩ | ⟨_, e⟩
  ·exact absurd hm hkm
  ·exact e.symm
theorem vcode_wp {H : Hints} {draw : DrawH} (hdraw : DrawOK P draw) : ∀ (c : Code) (cur : Nat) (st : St) (Q : Exit → St → Prop) (μ : Ren) (lam : List Nat) (a : Act) (w : World),
  vcode P H (AC P) draw c cur st Q → Rel μ0 h0 w0 μ lam st.L st.h w → EnvRel μ lam st.ρ a.tmps → c.wp P (CPost μ0 h0 w0 μ lam a (writes c) Q) a w
 | .skip, cur, st, Q, μ, lam, a, w, hk, R, E => wp_skip ⟨st, μ, lam, hk, Post.start R E _⟩
 | .region id ops false, cur, st, Q, μ, lam, a, w, hk, R, E =>
  wp_region (vops_wp (region_ws id false) _ st _ μ lam a w hk R E fun st' a' w' μ' lam' hK p => ⟨st', μ', lam', hK, p⟩)
 | .region id ops true, cur, st, Q, μ, lam, a, w, hk, R, E =>
  wp_mono (hdraw μ0 h0 w0 id ops st _ μ lam a w hk R E) fun e a' w' ⟨st', μ', lam', ⟨he, hK⟩, p⟩ => ⟨st', μ', lam', he ▸ hK, p⟩
 | .seq x y, cur, st, Q, μ, lam, a, w, hk, R, E => by
  refine wp_seq (wp_mono (vcode_wp hdraw x cur st _ μ lam a w hk R E) fun e a' w' ⟨st', μ', lam', hq, p⟩ => ?_)
  cases e with
  | normal =>
   refine wp_mono (vcode_wp hdraw y cur st' Q μ' lam' a' w' hq p.rel p.env) fun e2 a2 w2 ⟨st2, μ2, lam2, hq2, p2⟩ => ?_
   exact ⟨st2, μ2, lam2, hq2, p.trans p2 (fun t ht => by simp [writes, ht]) (fun t ht => by simp [writes, ht])⟩
  | _ => exact ⟨st', μ', lam', hq, p.weaken fun t ht => by simp [writes, ht]⟩
 | .cond c x y, cur, st, Q, μ, lam, a, w, hk, R, E => by
  simp only [vcode] at hk
  split at hk
  ·rename_i t ht
   have hv : a.eval c = _ := E.val ht
   rcases vif_elim hk with ⟨rfl, hk⟩ | ⟨rfl, hk⟩ <;> rw [setC_same ht] at hk
   ·exact wp_cond_true hv (wp_mono (vcode_wp hdraw x cur st Q μ lam a w hk R E) fun e a' w' ⟨st', μ', lam', hq, p⟩ => ⟨st', μ', lam', hq, p.weaken fun t ht => by simp [writes, ht]⟩)
   ·exact wp_cond_false hv (wp_mono (vcode_wp hdraw y cur st Q μ lam a w hk R E) fun e a' w' ⟨st', μ', lam', hq, p⟩ => ⟨st', μ', lam', hq, p.weaken fun t ht => by simp [writes, ht]⟩)
  ·exact hk.elim
 | .block id body, cur, st, Q, μ, lam, a, w, hk, R, E => by
  simp only [vcode] at hk
  split at hk
  ·refine wp_block (wp_mono (vcode_wp hdraw body id st _ μ lam a w hk R E) fun e a' w' ⟨st', μ', lam', hq, p⟩ => ?_)
   cases e with
   | exit i =>
    simp only at hq
    show Exit.inBlock id _ (.exit i) a' w'
    simp only [Exit.inBlock]
    split at hq
    ·rename_i hi
     rw [if_pos (by simpa using hi)]
     exact ⟨st', μ', lam', hq, p⟩
    ·rename_i hi
     rw [if_neg (by simpa using hi)]
     exact ⟨st', μ', lam', hq, p⟩
   | _ => exact ⟨st', μ', lam', hq, p⟩
  ·rename_i c hc
   obtain ⟨hl0, J, hbody, hrest⟩ := need_elim hk
   obtain ⟨lv0, hl0⟩ := Option.isSome_iff_exists.1 hl0
   refine wp_block (wp_mono (vcode_wp hdraw body id st _ μ lam a w hbody R E) fun e a' w' ⟨st2, μ2, lam2, hq, p2⟩ => ?_)
   have join : (match carry c.info st2 with | some xs => need (sameShapes c.kinds xs) (keepL c.info.mods st.L st2.L st.L.length ∧ J xs st2.h) | none => False) →
     CPost μ0 h0 w0 μ lam a (writes body) Q .normal a' w' := by
    intro hq
    split at hq
    ·rename_i xs' hxs'
     obtain ⟨hsh', hkeep, hJ⟩ := need_elim hq
     obtain ⟨sv, lv, hs, hl, hx, hn⟩ := carry_parts hxs'
     have e1 : xs'.take c.info.slots.length = sv := by rw [hx, ← hn]; simp
     have e2 : xs'.drop c.info.slots.length = lv := by rw [hx, ← hn]; simp
     obtain ⟨g1, g2⟩ := cut_locs hl0 hl hkeep
     have hle2 : st.L.length ≤ st2.L.length := keepL_le hkeep
     have hlam : lam2.take st.L.length = lam := by
      have hlen0 : lam.length = st.L.length := R.locs.len
      apply List.ext_getElem?
      intro k
      rw [List.getElem?_take]
      split
      ·rename_i hk
       have hkl : k < lam.length := by omega
       rw [p2.lle k lam[k] (by simp [hkl])]
       simp [hkl]
      ·rw [List.getElem?_eq_none (by omega)]
     have RF := p2.rel.forget (L1 := (headSt c.info (writes body) st xs' st2.h).L) (n := st.L.length) (by simp only [headSt]; rw [e2]; exact g1) hle2 (fun k hk => by simp only [headSt]; rw [e2]; exact g2 k hk)
     rw [hlam] at RF
     refine ⟨headSt c.info (writes body) st xs' st2.h, μ2, lam, allL_inst hrest hsh' st2.h hJ, ⟨RF, ?_, p2.le, lamLe.refl _, p2.defers, p2.size, p2.keep⟩⟩
     refine head_env E p2.size p2.le (lamLe.refl _) p2.keep fun j s v hj hv => ?_
     rw [e1] at hv
     exact p2.env.get s _ ((slotVals_get hs).2 j s v hj hv)
    ·exact hq.elim
   cases e with
   | exit i =>
    simp only at hq
    show Exit.inBlock id _ (.exit i) a' w'
    simp only [Exit.inBlock]
    split at hq
    ·rename_i hi
     rw [if_pos (by simpa using hi)]
     exact join hq
    ·rename_i hi
     rw [if_neg (by simpa using hi)]
     exact ⟨st2, μ2, lam2, hq, p2⟩
   | normal => exact join hq
   | _ => exact ⟨st2, μ2, lam2, hq, p2⟩
 | .loop body, cur, st, Q, μ, lam, a, w, hk, R, E => by
  simp only [vcode] at hk
  split at hk
  ·exact hk.elim
  ·rename_i xs0 hxs0
   obtain ⟨hsh0, I, m, hI0, hround⟩ := need_elim hk
   obtain ⟨sv0, lv0, hs0, hl0, hx0, hn0⟩ := carry_parts hxs0
   have hlen0 : lam.length = st.L.length := R.locs.len
   have headL : ∀ {L' : Locs} {lv : List AV}, locVals L' (H.loops cur).mods = some lv → keepL (H.loops cur).mods st.L L' st.L.length →
     (setLocs st.L (H.loops cur).mods lv).length = st.L.length ∧ ∀ k, k < st.L.length → (setLocs st.L (H.loops cur).mods lv)[k]? = L'[k]? := by
    intro L' lv hlv hkeep
    have hk := keepL_get hkeep
    obtain ⟨g1, g2⟩ := locVals_setLocs hlv (fun k hkm => by
     obtain ⟨c0, hc0⟩ := locVals_mem hl0 k hkm
     rcases hk k (lt_of_get hc0) with ⟨_, c, c0', e1, e2, e3⟩ | ⟨hn, _⟩
     ·exact ⟨c0', c, e2, e1, e3⟩
     ·exact absurd hkm hn)
    refine ⟨g1, fun k hkl => ?_⟩
    rw [g2 k]
    split
    ·rfl
    ·rename_i hkm
     rcases hk k hkl with ⟨hm, _⟩ | ⟨_, e⟩
     ·exact absurd hm hkm
     ·exact e.symm
   have keep0 : ∀ n, n ≤ st.L.length → keepL (H.loops cur).mods st.L st.L n := by
    intro n
    induction n with
    | zero => intro _; trivial
    | succ n ih =>
     intro hn
     refine ⟨?_, ih (by omega)⟩
     have hget : st.L[n]? = some st.L[n] := by simp
     split
     ·rw [hget]; simp [need]
     ·rfl
   refine wp_loop_ghost (G := List AV × Heap × Ren)
    (fun g a1 w1 => I g.1 g.2.1 ∧ sameShapes xs0 g.1 = true ∧ Post μ0 h0 w0 μ lam a (writes body) (headSt (H.loops cur) (writes body) st g.1 g.2.1) a1 w1 g.2.2 lam)
    (fun g => m g.1 g.2.1) ?_ (xs0, st.h, μ) a w ⟨hI0, ?_, ?_⟩
   ·rintro ⟨xs, h, μ1⟩ a1 w1 ⟨hI, hsh, p⟩
    have hr := allL_inst hround hsh h hI
    refine wp_mono (vcode_wp hdraw body cur _ _ μ1 lam a1 w1 hr p.rel p.env) fun e a2 w2 ⟨st2, μ2, lam2, hq, p2⟩ => ?_
    have pt := p.trans p2 (fun _ h => h) (fun _ h => h)
    cases e with
    | normal =>
     simp only at hq
     split at hq
     ·rename_i xs' hxs'
      obtain ⟨hsh', hkeep, hI', hm'⟩ := need_elim hq
      obtain ⟨sv, lv, hs, hl, hx, hn⟩ := carry_parts hxs'
      have e1 : xs'.take (H.loops cur).slots.length = sv := by rw [hx, ← hn]; simp
      have e2 : xs'.drop (H.loops cur).slots.length = lv := by rw [hx, ← hn]; simp
      obtain ⟨g1, g2⟩ := headL hl hkeep
      have hle2 : st.L.length ≤ st2.L.length := by
       rcases Nat.eq_zero_or_pos st.L.length with h0 | hpos
       ·omega
       ·rcases keepL_get hkeep (st.L.length - 1) (by omega) with ⟨_, c, c0, k1, _, _⟩ | ⟨_, k1⟩
        ·have := lt_of_get k1; omega
        ·have : st.L[st.L.length - 1]? = some st.L[st.L.length - 1] := by simp
         rw [this] at k1
         have := lt_of_get k1; omega
      have hlam : lam2.take st.L.length = lam := by
       apply List.ext_getElem?
       intro k
       rw [List.getElem?_take]
       split
       ·rename_i hk
        have hkl : k < lam.length := by omega
        rw [pt.lle k lam[k] (by simp [hkl])]
        simp [hkl]
       ·rw [List.getElem?_eq_none (by omega)]
      have RF := p2.rel.forget (L1 := (headSt (H.loops cur) (writes body) st xs' st2.h).L) (n := st.L.length) (by simp only [headSt]; rw [e2]; exact g1) hle2 (fun k hk => by simp only [headSt]; rw [e2]; exact g2 k hk)
      rw [hlam] at RF
      refine ⟨(xs', st2.h, μ2), ⟨hI', hsh', ⟨RF, ?_, pt.le, lamLe.refl _, pt.defers, pt.size, pt.keep⟩⟩, hm'⟩
      refine head_env E pt.size pt.le (lamLe.refl _) pt.keep fun j s v hj hv => ?_
      rw [e1] at hv
      have := (slotVals_get hs).2 j s v hj hv
      exact p2.env.get s _ this
     ·exact hq.elim
    | _ => exact ⟨st2, μ2, lam2, hq, pt⟩
   ·exact hsh0
   ·have e1 : xs0.take (H.loops cur).slots.length = sv0 := by rw [hx0, ← hn0]; simp
    have e2 : xs0.drop (H.loops cur).slots.length = lv0 := by rw [hx0, ← hn0]; simp
    obtain ⟨g1, g2⟩ := headL hl0 (keep0 _ (Nat.le_refl _))
    have hLeq : (headSt (H.loops cur) (writes body) st xs0 st.h).L = st.L := by
     simp only [headSt]
     rw [e2]
     apply List.ext_getElem?
     intro k
     rcases Nat.lt_or_ge k st.L.length with hk | hk
     ·exact g2 k hk
     ·rw [List.getElem?_eq_none (by omega), List.getElem?_eq_none hk]
    refine ⟨by rw [hLeq]; exact R, ?_, .refl _, lamLe.refl _, rfl, rfl, fun _ _ => rfl⟩
    refine head_env E rfl (.refl _) (lamLe.refl _) (fun _ _ => rfl) fun j s v hj hv => ?_
    rw [e1] at hv
    exact E.get s _ ((slotVals_get hs0).2 j s v hj hv)
 | .exit id, cur, st, Q, μ, lam, a, w, hk, R, E => wp_exit ⟨st, μ, lam, hk, Post.start R E _⟩
 | .ret, cur, st, Q, μ, lam, a, w, hk, R, E => wp_ret ⟨st, μ, lam, hk, Post.start R E _⟩
 | .rangeFunc .., cur, st, Q, μ, lam, a, w, hk, R, E => hk.elim
 | .scope body, cur, st, Q, μ, lam, a, w, hk, R, E => by
  refine wp_scope_straight (wp_mono (vcode_wp hdraw body cur st _ μ lam a w hk R E) fun e a' w' ⟨st', μ', lam', hq, p⟩ => ?_)
  cases e with
  | goto l => exact hq.elim
  | _ => exact ⟨st', μ', lam', hq, p⟩
 | .label _, cur, st, Q, μ, lam, a, w, hk, R, E => wp_label ⟨st, μ, lam, hk, Post.start R E _⟩
 | .goto _, cur, st, Q, μ, lam, a, w, hk, R, E => hk.elim
 | .refuse _, cur, st, Q, μ, lam, a, w, hk, R, E => hk.elim
def resSem (tmps : Array Value) : ResultVar → Sem Value
 | .tmp t => pure (tmps.getD t undef)
 | .cell p t => do loadVar t (← asAddr (tmps.getD p undef))
theorem run_result {μ : Ren} {lam : List Nat} {st : St} {a : Act} {w : World} (R : Rel μ0 h0 w0 μ lam st.L st.h w) (E : EnvRel μ lam st.ρ a.tmps) {r : ResultVar} {KV : AV → Prop} (hk : vresult P st r KV) :
  ∃ v x, (resSem a.tmps r).run P w = .ok v w ∧ KV x ∧ x.rel μ v := by
 cases r with
 | tmp t =>
  simp only [vresult] at hk
  split at hk
  ·rename_i v hv
   exact ⟨_, v, rfl, hk, E.get t _ hv⟩
  ·exact hk.elim
 | cell p t =>
  simp only [vresult, vLoad] at hk
  have hev : (st.ρ.getD p .top).rel μ lam (a.tmps.getD p undef) := by
   have := E.ev (.tmp p)
   simpa [Ab.ev, Act.eval] using this
  split at hk
  ·exact hk.elim
  ·rename_i z hz
   split at hk
   ·exact hk.elim
   ·rename_i hok
    have hok' := okTy_parts hok
    split at hk
    ·rename_i k o hx
     rw [hx] at hev
     obtain ⟨r, hr, hv⟩ := hev
     split at hk
     ·rename_i c hc
      obtain ⟨C, t', fz, h1, h2, h3⟩ := R.locs.blk k c r hc hr
      obtain ⟨v, x', g1, g2, g3⟩ := load_part (P := P) (s := 0) h1 (fun i x hx => by simpa using h2.get hx) hz hok hk
      refine ⟨v, x', ?_, g2, g3⟩
      simp only [resSem, hv, asAddr, Sem.run_bind, Sem.run_pure, Result.andThen_ok]
      simpa using g1
     ·exact hk.elim
    ·rename_i q hx
     rw [hx] at hev
     cases q with
     | none => exact hk.elim
     | some p' =>
      simp only [vPtr] at hk
      obtain ⟨e, he, hv⟩ := hev
      obtain ⟨c, rw', hc, hp⟩ := PLoad_part hok'.2.2.2 hk
      obtain ⟨C, t', fz, h1, h2, h3, h3', h4, h5⟩ := R.heap.blk p'.b _ e hc he
      obtain ⟨v, x', g1, g2, g3⟩ := load_part (P := P) h1 h4 hz hok hp
      refine ⟨v, x', ?_, g2, g3⟩
      simp only [resSem, hv, asAddr, Sem.run_bind, Sem.run_pure, Result.andThen_ok]
      exact g1
    ·exact hk.elim
theorem run_resultList {μ : Ren} {lam : List Nat} {st : St} {a : Act} {w : World} (R : Rel μ0 h0 w0 μ lam st.L st.h w) (E : EnvRel μ lam st.ρ a.tmps) : ∀ {rs : List ResultVar} {KL : List AV → Prop}, vresults P st rs KL →
  ∃ vs l, (rs.mapM (resSem a.tmps)).run P w = .ok vs w ∧ KL l ∧ relL μ l vs
 | [], KL, hk => ⟨[], [], rfl, hk, rfl⟩
 | r :: rs, KL, hk => by
  obtain ⟨v, x, g1, g2, g3⟩ := run_result R E hk
  obtain ⟨vs, l, g4, g5, g6⟩ := run_resultList R E g2
  refine ⟨v :: vs, x :: l, ?_, g5, v, vs, rfl, g3, g6⟩
  rw [List.mapM_cons, Sem.run_bind, g1]
  simp only [Result.andThen_ok, Sem.run_bind, g4, Sem.run_pure]
theorem run_results {μ : Ren} {lam : List Nat} {st : St} {a : Act} {w : World} {fn : Func} (R : Rel μ0 h0 w0 μ lam st.L st.h w) (E : EnvRel μ lam st.ρ a.tmps) {Q : AV → Heap → Prop} (hk : vret P fn st Q) :
  ∃ v x, (results fn a.tmps).run P w = .ok v w ∧ Q x st.h ∧ x.rel μ v := by
 obtain ⟨vs, l, g1, g2, g3⟩ := run_resultList R E hk
 have hl := g3.length
 have hrun : (results fn a.tmps).run P w = .ok (if h : vs.toArray.size = 1 then vs.toArray[0] else .tuple vs.toArray) w := by
  have e1 : results fn a.tmps = (do let vs ← fn.results.mapM (resSem a.tmps); pure (if h : vs.size = 1 then vs[0] else .tuple vs)) := by
   unfold results
   congr 1
  rw [e1, Sem.run_bind, Array.mapM_eq_mapM_toList, Sem.run_map, g1]
  rfl
 rw [hrun]
 match l, vs, g2, g3, hl with
 | [], [], g2, g3, _ => exact ⟨_, _, rfl, g2, #[], rfl, rfl⟩
 | [x], [v], g2, g3, _ =>
  obtain ⟨y, ys, e, hy, _⟩ := g3
  cases e
  exact ⟨_, _, rfl, g2, hy⟩
 | x :: y :: l, v :: u :: vs, g2, g3, _ => exact ⟨_, _, rfl, g2, _, rfl, g3⟩
theorem AC_of_code {H : Hints} {draw : DrawH} (hdraw : DrawOK P draw) {f : FuncId} {fn : Func} {c : Code} {args : List AV} {h : Heap} {Q : AV → Heap → Prop} (hf : P.funcs[f]? = some fn) (hb : fn.body = some c) (hn : (fn.name == "runtime.NumGoroutine") = false) (hy : Nat.beq f 1000000000 = false)
  (hk : vcode P H (AC P) draw c 1000000 ⟨args.map .val ++ List.replicate (fn.ntmps - args.length) .top, [], h⟩ fun e st => match e with
    | .normal => vret P fn st Q
    | .ret => vret P fn st Q
    | _ => False) : AC P f args h Q := by
 refine ⟨by simp only [callable, hf, hb, hn, hy]; rfl, fun μ w vs hh hv => ?_⟩
 have hvl := hv.length
 have R : Rel μ h w μ [] [] h w := ⟨Evo.refl μ h w, hh, ⟨rfl, by simp, by simp, by simp, by simp⟩⟩
 have E : EnvRel μ [] (args.map .val ++ List.replicate (fn.ntmps - args.length) .top) (vs.toArray ++ Array.replicate (fn.ntmps - vs.toArray.size) undef) := by
  refine ⟨by simp [hvl], fun t lv ht => ?_⟩
  rw [List.getElem?_append] at ht
  split at ht
  ·rename_i hlt
   simp at hlt
   simp only [List.getElem?_map, Option.map_eq_some_iff] at ht
   obtain ⟨x, hx, rfl⟩ := ht
   obtain ⟨y, hy, hxy⟩ := hv.get hx
   have hyl := lt_of_get hy
   have : (vs.toArray ++ Array.replicate (fn.ntmps - vs.toArray.size) undef).getD t undef = y := by
    rw [Array.getD_eq_getD_getElem?, Array.getElem?_append_left (by simpa using hyl)]
    simp [hy]
   rw [this]; exact hxy
  ·rw [List.getElem?_replicate] at ht
   split at ht
   ·cases ht; trivial
   ·cases ht
 refine calls_of_wp hf hb (wp_mono (vcode_wp (μ0 := μ) (h0 := h) (w0 := w) hdraw c 1000000 _ _ μ [] { tmps := vs.toArray ++ Array.replicate (fn.ntmps - vs.toArray.size) undef, defers := [] } w hk R E) ?_)
 rintro e a' w' ⟨st, μ', lam', hq, p⟩
 have hd : a'.defers = [] := p.defers
 cases e with
 | normal =>
  obtain ⟨v, x, g1, g2, g3⟩ := run_results p.rel p.env hq
  exact ⟨hd, v, g1, v, x, st.h, μ', rfl, g2, p.rel.evo, p.rel.heap, g3⟩
 | ret =>
  obtain ⟨v, x, g1, g2, g3⟩ := run_results p.rel p.env hq
  exact ⟨hd, v, g1, v, x, st.h, μ', rfl, g2, p.rel.evo, p.rel.heap, g3⟩
 | _ => exact hq.elim
end
def cls (P : Program) (o : Oper) : Nat :=
 match o.op with
 | .indexAddr _ (.global _) _ => 2
 | .move _ | .pick .. | .nilCheck _ | .unOp .. | .fieldAddr .. | .field .. | .indexAddr .. | .extract .. | .slice .. | .build .. | .index .. | .makeFunc .. | .makeInterface .. | .sliceToArrayPointer .. => 1
 | .binOp _ t _ _ _ => match P.underlying t with | some (.pointer _) => 2 | _ => 1
 | .load .. | .lookup .. => 2
 | .convert src dst _ => match P.underlying dst with | some (.int _) => 1 | some .string => 2 | _ => 0
 | .call c => match c.callee with | .builtin .len => (match (c.argTypes.toList.head?).bind P.underlying with | some (.map _ _) => 2 | _ => 1) | .builtin .min => 1 | .builtin .max => 1 | _ => 0
 | _ => 0
section
variable {P : Program} {isLoc : Nat → Bool} {call : CallH} {L : Locs} {h : Heap} {ρ : List LV}
def Same (lv : LV) (L : Locs) (h : Heap) : KO := fun lv' L' h' => lv' = lv ∧ L' = L ∧ h' = h
theorem exL_join : ∀ {zs : List AV} {A B : List AV → Prop}, exL zs A → (∀ l, l.length = zs.length → (∀ x ∈ l, x.one = true) → A l → B l) → exL zs B
 | [], A, B, h, f => f _ rfl (by simp) h
 | z :: zs, A, B, h, f => by
  cases z <;> simp only [exL] at h ⊢
  all_goals first
   | (obtain ⟨n, hv, h⟩ := h; exact ⟨n, hv, exL_join h fun l hl ho => f _ (by simp [hl]) (by intro x hx; simp at hx; rcases hx with rfl | hx; (first | exact hv | rfl); exact ho x hx)⟩)
   | (obtain ⟨n, h⟩ := h; exact ⟨n, exL_join h fun l hl ho => f _ (by simp [hl]) (by intro x hx; simp at hx; rcases hx with rfl | hx; rfl; exact ho x hx)⟩)
theorem exV_join {z : AV} {A B : AV → Prop} (hz : ∀ c, z ≠ .tup c) (h : exV z A) (f : ∀ v, isAgg v = isAgg z → (isAgg z = false → v.one = true) → A v → B v) : exV z B := by
 cases z <;> simp only [exV] at h ⊢
 case tup c => exact absurd rfl (hz c)
 case agg zs => exact exL_join h fun l _ _ => f _ rfl (fun h => by cases h)
 all_goals
  refine exL_join h fun l hlen ho hl => ?_
  clear hlen
  split at hl
  ·rename_i x
   have hx := ho x (by simp)
   exact f _ (by rw [isAgg_of_one hx]; rfl) (fun _ => hx) hl
  ·exact hl.elim
theorem eq_of_cells {v v' : AV} (h : isAgg v = isAgg v') (h1 : isAgg v = false → v.one = true) (h2 : isAgg v' = false → v'.one = true) (hc : v.cells = v'.cells) : v = v' := by
 cases hv : isAgg v with
 | true =>
  rw [hv] at h
  cases v <;> simp [isAgg] at hv
  cases v' <;> simp [isAgg] at h
  simpa [AV.cells] using hc
 | false =>
  rw [hv] at h
  rw [cells_of_one (h1 hv), cells_of_one (h2 h.symm)] at hc
  simpa using hc
theorem exV_one {z : AV} {r : Option (List AV)} {KV : AV → Prop} (hz : ∀ c, z ≠ .tup c) (h : exV z fun v => r = some v.cells ∧ KV v) : ∃ v, KV v ∧ ∀ B : AV → Prop, B v → exV z fun v' => r = some v'.cells ∧ B v' := by
 obtain ⟨v, ⟨h1, h2⟩, h3, _, h4⟩ := exV_elim hz h
 have hone : isAgg z = false → v.one = true := by
  intro hg
  have : v.cells = [v] := by rw [hg] at h3; cases v <;> simp [isAgg] at h3 <;> rfl
  exact h4 v (by rw [this]; simp)
 refine ⟨v, h2, fun B hB => exV_join hz h fun v' a1 a2 ⟨b1, _⟩ => ⟨b1, ?_⟩⟩
 rw [b1] at h1
 have := eq_of_cells (a1.trans h3.symm) (fun hg => a2 (a1 ▸ hg)) (fun hg => hone (h3 ▸ hg)) (Option.some.inj h1)
 rw [this]; exact hB
theorem part_same {z : AV} {c : List AV} {o : Nat} {KV : AV → Prop} (h : part z c o KV) : ∃ v, KV v ∧ ∀ B : AV → Prop, B v → part z c o B := by
 unfold part at h
 cases hg : isAgg z with
 | true =>
  rw [hg] at h
  obtain ⟨h1, h2⟩ := need_elim h
  refine ⟨_, h2, fun B hB => ?_⟩
  unfold part
  simp only [hg, h1, need]
  exact hB
 | false =>
  rw [hg] at h
  simp only at h
  split at h
  ·rename_i v hv
   refine ⟨v, h, fun B hB => ?_⟩
   unfold part
   simp only [hg, hv]
   exact hB
  ·exact h.elim
theorem load_same {t : TypeId} {x : LV} {KV : AV → Prop} (hk : vLoad P t x L h KV) : ∃ v, KV v ∧ ∀ B : AV → Prop, B v → vLoad P t x L h B := by
 unfold vLoad at hk
 split at hk
 ·exact hk.elim
 ·rename_i z hz
  split at hk
  ·exact hk.elim
  ·rename_i hok
   have hok' := okTy_parts hok
   split at hk
   ·rename_i k o
    split at hk
    ·rename_i c hc
     obtain ⟨v, h1, h2⟩ := part_same hk
     exact ⟨v, h1, fun B hB => by simp only [vLoad, hz, hok, hc]; exact h2 _ hB⟩
    ·exact hk.elim
   ·rename_i q
    cases q with
    | none => exact hk.elim
    | some p =>
     simp only [vPtr, PLoad] at hk
     obtain ⟨v, h1, h2⟩ := exV_one hok'.2.2.2 hk
     exact ⟨v, h1, fun B hB => by simp only [vLoad, hz, hok, vPtr, PLoad]; exact h2 B hB⟩
   ·exact hk.elim
theorem need_mk {b : Bool} {A : Prop} (h : b = true) (a : A) : need b A := by subst h; exact a
theorem eqFs_same {n : Nat} (ih : ∀ (t : TypeId) (xs ys : List AV) (KB : Bool → List AV → List AV → Prop), eqT P n t xs ys KB → ∃ b xs' ys', KB b xs' ys' ∧ ∀ B : Bool → List AV → List AV → Prop, B b xs' ys' → eqT P n t xs ys B) :
  ∀ (fs : List Field) (off : Nat) (xs ys : List AV) (KB : Bool → List AV → List AV → Prop), eqFs P (eqT P n) fs off xs ys KB → ∃ b xs' ys', KB b xs' ys' ∧ ∀ B : Bool → List AV → List AV → Prop, B b xs' ys' → eqFs P (eqT P n) fs off xs ys B
 | [], off, xs, ys, KB, h => ⟨_, _, _, h, fun B hB => hB⟩
 | f :: fs, off, xs, ys, KB, h => by
  simp only [eqFs] at h
  obtain ⟨h1, h2⟩ := need_elim h
  obtain ⟨b, xs', ys', h3, h4⟩ := ih _ _ _ _ h2
  obtain ⟨r, xs2, ys2, h5, h6⟩ := eqFs_same ih fs _ _ _ _ h3
  refine ⟨_, _, _, h5, fun B hB => ?_⟩
  simp only [eqFs]
  exact need_mk h1 (h4 _ (h6 _ hB))
theorem eqT_same : ∀ (n : Nat) (t : TypeId) (xs ys : List AV) (KB : Bool → List AV → List AV → Prop), eqT P n t xs ys KB → ∃ b xs' ys', KB b xs' ys' ∧ ∀ B : Bool → List AV → List AV → Prop, B b xs' ys' → eqT P n t xs ys B
 | 0, _, _, _, _, h => h.elim
 | n + 1, t, xs, ys, KB, h => by
  unfold eqT at h
  split at h
  ·rename_i hu
   obtain ⟨h1, h2⟩ := need_elim h
   exact ⟨_, _, _, h2, fun B hB => by unfold eqT; rw [hu]; exact need_mk h1 hB⟩
  ·rename_i hu
   obtain ⟨h1, h2⟩ := need_elim h
   exact ⟨_, _, _, h2, fun B hB => by unfold eqT; rw [hu]; exact need_mk h1 hB⟩
  ·rename_i hu
   obtain ⟨h1, h2⟩ := need_elim h
   exact ⟨_, _, _, h2, fun B hB => by unfold eqT; rw [hu]; exact need_mk h1 hB⟩
  ·rename_i fs hu
   obtain ⟨h1, h2⟩ := need_elim h
   obtain ⟨b, xs', ys', h3, h4⟩ := eqFs_same (eqT_same n) _ _ _ _ _ h2
   obtain ⟨h5, h6⟩ := need_elim h3
   exact ⟨_, _, _, h6, fun B hB => by unfold eqT; rw [hu]; exact need_mk h1 (h4 _ (need_mk h5 hB))⟩
  ·exact h.elim
theorem aInt_same {op : BinOp} {k : IntKind} {a b : Int} {KV : AV → Prop} (h : aInt op k a b KV) : ∃ v, KV v ∧ ∀ B : AV → Prop, B v → aInt op k a b B := by
 cases op <;> simp only [aInt] at h <;> first
  | exact h.elim
  | exact ⟨_, h, fun B hB => hB⟩
  | (obtain ⟨h1, h2⟩ := need_elim h; exact ⟨_, h2, fun B hB => need_mk h1 hB⟩)
theorem aStr_same {op : BinOp} {a b : List UInt8} {KV : AV → Prop} (h : aStr op a b KV) : ∃ v, KV v ∧ ∀ B : AV → Prop, B v → aStr op a b B := by
 cases op <;> simp only [aStr] at h <;> first
  | exact h.elim
  | exact ⟨_, h, fun B hB => hB⟩
  | (obtain ⟨h1, h2⟩ := need_elim h; exact ⟨_, h2, fun B hB => need_mk h1 hB⟩)
theorem aEq_same {t : TypeId} {x y : AV} {KB : Bool → Prop} (hk : aEq P t h x y KB) :
  ∃ b, KB b ∧ (∀ B : Bool → Prop, B b → aEq P t h x y B) ∧ ((∀ e, P.underlying t ≠ some (.pointer e)) → ∀ (h2 : Heap) (B : Bool → Prop), B b → aEq P t h2 x y B) := by
 unfold aEq at hk
 split at hk
 ·rename_i hu; exact ⟨_, hk, fun B hB => by unfold aEq; rw [hu]; exact hB, fun _ h2 B hB => by unfold aEq; rw [hu]; exact hB⟩
 ·rename_i hu
  obtain ⟨h1, h2⟩ := need_elim hk
  obtain ⟨b, xs', ys', h3, h4⟩ := eqT_same _ _ _ _ _ h2
  exact ⟨b, h3, fun B hB => by unfold aEq; rw [hu]; exact need_mk h1 (h4 _ hB), fun _ h2 B hB => by unfold aEq; rw [hu]; exact need_mk h1 (h4 _ hB)⟩
 ·rename_i e p hu; exact ⟨_, hk, fun B hB => by unfold aEq; rw [hu]; exact hB, fun hn => absurd hu (hn _)⟩
 ·rename_i e p hu; exact ⟨_, hk, fun B hB => by unfold aEq; rw [hu]; exact hB, fun hn => absurd hu (hn _)⟩
 ·rename_i e p q hu
  obtain ⟨h1, h2⟩ := need_elim hk
  unfold ptrEq at h2
  split at h2
  ·rename_i hb
   exact ⟨_, h2, fun B hB => by unfold aEq; rw [hu]; exact need_mk h1 (by unfold ptrEq; rw [if_pos hb]; exact hB), fun hn => absurd hu (hn _)⟩
  ·rename_i hb
   split at h2
   ·rename_i c1 c2 e1 e2
    exact ⟨_, h2, fun B hB => by unfold aEq; rw [hu]; exact need_mk h1 (by unfold ptrEq; rw [if_neg hb, e1, e2]; exact hB), fun hn => absurd hu (hn _)⟩
   ·exact h2.elim
 ·rename_i hu; exact ⟨_, hk, fun B hB => by unfold aEq; rw [hu]; exact hB, fun _ h2 B hB => by unfold aEq; rw [hu]; exact hB⟩
 ·rename_i hu; exact ⟨_, hk, fun B hB => by unfold aEq; rw [hu]; exact hB, fun _ h2 B hB => by unfold aEq; rw [hu]; exact hB⟩
 ·rename_i hu; exact ⟨_, hk, fun B hB => by unfold aEq; rw [hu]; exact hB, fun _ h2 B hB => by unfold aEq; rw [hu]; exact hB⟩
 ·rename_i hu; exact ⟨_, hk, fun B hB => by unfold aEq; rw [hu]; exact hB, fun _ h2 B hB => by unfold aEq; rw [hu]; exact hB⟩
 ·exact hk.elim
theorem aBin_same {op : BinOp} {t : TypeId} {x y : AV} {KV : AV → Prop} (h' : aBin P op t h x y KV) :
  ∃ v, KV v ∧ (∀ B : AV → Prop, B v → aBin P op t h x y B) ∧ ((∀ e, P.underlying t ≠ some (.pointer e)) → ∀ (h2 : Heap) (B : AV → Prop), B v → aBin P op t h2 x y B) := by
 unfold aBin at h'
 split at h'
 ·rename_i k a k' b
  have key : ∃ v, KV v ∧ ∀ B : AV → Prop, B v → aIntS op k a k' b B := by
   unfold aIntS at h'
   split at h'
   ·obtain ⟨h1, h2⟩ := need_elim h'; exact ⟨_, h2, fun B hB => need_mk h1 hB⟩
   ·obtain ⟨h1, h2⟩ := need_elim h'; exact ⟨_, h2, fun B hB => need_mk h1 hB⟩
   ·rename_i hs1 hs2
    obtain ⟨h1, h2⟩ := need_elim h'
    obtain ⟨v, h3, h4⟩ := aInt_same h2
    refine ⟨v, h3, fun B hB => ?_⟩
    unfold aIntS
    split
    ·exact absurd rfl hs1
    ·exact absurd rfl hs2
    ·exact need_mk h1 (h4 _ hB)
  obtain ⟨v, h1, h2⟩ := key
  exact ⟨v, h1, h2, fun _ _ => h2⟩
 ·obtain ⟨v, h3, h4⟩ := aStr_same h'
  exact ⟨v, h3, h4, fun _ _ => h4⟩
 ·rename_i n1 n2
  unfold aCmp at h'
  split at h'
  ·obtain ⟨b, h3, h4, h5⟩ := aEq_same h'
   exact ⟨_, h3, fun B hB => by rw [aBin_else n1 n2]; exact h4 (fun b => B (.bool b)) hB, fun hn h2 B hB => by rw [aBin_else n1 n2]; exact h5 hn h2 (fun b => B (.bool b)) hB⟩
  ·obtain ⟨b, h3, h4, h5⟩ := aEq_same h'
   exact ⟨_, h3, fun B hB => by rw [aBin_else n1 n2]; exact h4 (fun b => B (.bool (!b))) hB, fun hn h2 B hB => by rw [aBin_else n1 n2]; exact h5 hn h2 (fun b => B (.bool (!b))) hB⟩
  ·exact h'.elim
theorem findP_same {kt : TypeId} {k : AV} : ∀ {es : List (AV × AV × Nat)} {i : Nat} {KR : Option (Nat × AV × Nat) → Prop}, findP P kt k es i KR → ∃ r, KR r ∧ ∀ B : Option (Nat × AV × Nat) → Prop, B r → findP P kt k es i B
 | [], i, KR, h => ⟨_, h, fun B hB => hB⟩
 | (k', v, n) :: es, i, KR, h => by
  have key : ∀ {KB : Bool → Prop}, keyIs P kt k k' KB → ∃ b, KB b ∧ ∀ B : Bool → Prop, B b → keyIs P kt k k' B := by
   intro KB h
   unfold keyIs at h ⊢
   generalize P.underlying kt = d at h ⊢
   split at h
   ·obtain ⟨h1, h2⟩ := need_elim h
    exact ⟨_, h2, fun B hB => need_mk h1 hB⟩
   ·exact ⟨_, h, fun B hB => hB⟩
   ·exact ⟨_, h, fun B hB => hB⟩
   ·split at h
    ·rename_i hq; exact ⟨_, h, fun B hB => by first | exact hB | (simp only [hq]; exact hB)⟩
    ·exact h.elim
   ·split at h
    ·rename_i hq; exact ⟨_, h, fun B hB => by first | exact hB | (simp only [hq]; exact hB)⟩
    ·exact h.elim
   ·exact h.elim
  simp only [findP] at h
  obtain ⟨b, h1, h2⟩ := key h
  rcases vif_elim h1 with ⟨rfl, h1⟩ | ⟨rfl, h1⟩
  ·exact ⟨_, h1, fun B hB => by simp only [findP]; exact h2 _ hB⟩
  ·obtain ⟨r, h3, h4⟩ := findP_same h1
   exact ⟨r, h3, fun B hB => by simp only [findP]; exact h2 _ (h4 B hB)⟩
theorem lookup_same {kt et : TypeId} {m : Option Nat} {k : AV} {ok : Bool} {KV : AV → Prop} (hk : PLookup P kt et m k ok h KV) : ∃ v, KV v ∧ ∀ B : AV → Prop, B v → PLookup P kt et m k ok h B := by
 unfold PLookup at hk
 split at hk
 ·rename_i es z hes hz
  obtain ⟨h1, hk⟩ := need_elim hk
  obtain ⟨r, h2, h3⟩ := findP_same hk
  exact ⟨_, h2, fun B hB => by simp only [PLookup, hes, hz]; exact need_mk h1 (h3 _ hB)⟩
 ·exact hk.elim
theorem vop_same {o : Oper} {K : KO} (hc : cls P o ≠ 0) (hk : vop P isLoc call o ρ L h K) :
  ∃ lv, K lv L h ∧ vop P isLoc call o ρ L h (Same lv L h) ∧ (cls P o = 1 → ∀ L2 h2, vop P isLoc call o ρ L2 h2 (Same lv L2 h2)) := by
 have fin : ∀ {op : Op} {lv : LV}, o.op = op → (∀ L2 h2, vop P isLoc call { o with op := op } ρ L2 h2 (Same lv L2 h2)) → ∀ L2 h2, vop P isLoc call o ρ L2 h2 (Same lv L2 h2) := by
  intro op lv ho hh; subst ho; exact hh
 have S : ∀ (lv : LV) L2 h2, Same lv L2 h2 lv L2 h2 := fun lv L2 h2 => ⟨rfl, rfl, rfl⟩
 unfold vop at hk
 split at hk
 ·rename_i x ho
  have := fin (lv := ev ρ x) ho fun L2 h2 => by simp only [vop]; exact S _ _ _
  exact ⟨_, hk, this _ _, fun _ => this⟩
 ·rename_i x ho; simp [cls, ho] at hc
 ·rename_i c x y ho
  split at hk
  ·rename_i t hct
   rcases vif_elim hk with ⟨rfl, hk⟩ | ⟨rfl, hk⟩
   ·have := fin (lv := ev ρ x) ho fun L2 h2 => by simp only [vop, hct, vif]; exact S _ _ _
    exact ⟨_, hk, this _ _, fun _ => this⟩
   ·have := fin (lv := ev ρ y) ho fun L2 h2 => by simp only [vop, hct, vif]; exact S _ _ _
    exact ⟨_, hk, this _ _, fun _ => this⟩
  ·exact hk.elim
 ·rename_i t ho; simp [cls, ho] at hc
 ·rename_i t x ho; simp [cls, ho] at hc
 ·rename_i t x ho
  obtain ⟨v, h1, h2⟩ := load_same hk
  refine ⟨_, h1, ?_, fun h1 => by simp [cls, ho] at h1⟩
  unfold vop
  rw [ho]
  exact h2 _ (S _ _ _)
 ·rename_i t a x ho; simp [cls, ho] at hc
 ·rename_i x ho
  split at hk
  ·rename_i hx
   have := fin (lv := _) ho fun L2 h2 => by simp only [vop, hx]; exact S _ _ _
   exact ⟨_, hk, this _ _, fun _ => this⟩
  ·rename_i q hx
   cases q with
   | none => exact hk.elim
   | some p =>
    have := fin (lv := _) ho fun L2 h2 => by simp only [vop, hx, vPtr]; exact S _ _ _
    exact ⟨_, hk, this _ _, fun _ => this⟩
  ·rename_i hx
   have := fin (lv := _) ho fun L2 h2 => by simp only [vop, hx]; exact S _ _ _
   exact ⟨_, hk, this _ _, fun _ => this⟩
  ·rename_i hx
   have := fin (lv := _) ho fun L2 h2 => by simp only [vop, hx]; exact S _ _ _
   exact ⟨_, hk, this _ _, fun _ => this⟩
  ·exact hk.elim
 ·rename_i op t x y yt ho
  split at hk
  ·rename_i a b hx hy
   obtain ⟨v, h1, h2, h3⟩ := aBin_same hk
   refine ⟨_, h1, ?_, fun hcl => ?_⟩
   ·unfold vop
    rw [ho]
    simp only [hx, hy]
    exact h2 _ (S _ _ _)
   ·have hn : ∀ e, P.underlying t ≠ some (.pointer e) := by
     intro e he
     simp [cls, ho, he] at hcl
    exact fin ho fun L2 h2 => by simp only [vop, hx, hy]; exact h3 hn _ _ (S _ _ _)
  ·exact hk.elim
 ·rename_i op x ho
  split at hk
  ·rename_i a hx
   unfold aUn at hk
   split at hk
   ·have := fin (lv := _) ho fun L2 h2 => by simp only [vop, hx, aUn]; exact S _ _ _
    exact ⟨_, hk, this _ _, fun _ => this⟩
   ·have := fin (lv := _) ho fun L2 h2 => by simp only [vop, hx, aUn]; exact S _ _ _
    exact ⟨_, hk, this _ _, fun _ => this⟩
   ·have := fin (lv := _) ho fun L2 h2 => by simp only [vop, hx, aUn]; exact S _ _ _
    exact ⟨_, hk, this _ _, fun _ => this⟩
   ·exact hk.elim
  ·exact hk.elim
 ·rename_i src dst x ho
  split at hk
  ·rename_i sd k k' n hs hd hx
   have := fin (lv := _) ho fun L2 h2 => by simp only [vop, hs, hd, hx]; exact S _ _ _
   exact ⟨_, hk, this _ _, fun _ => this⟩
  ·rename_i s hs hd hx
   have := fin (lv := _) ho fun L2 h2 => by simp only [vop, hs, hd, hx]; exact S _ _ _
   exact ⟨_, hk, this _ _, fun _ => this⟩
  ·rename_i k1 k2 n hs hd hx
   obtain ⟨he, hk⟩ := need_elim hk
   have := fin (lv := _) ho fun L2 h2 => by simp only [vop, hs, hd, hx]; exact need_mk he (S _ _ _)
   exact ⟨_, hk, this _ _, fun _ => this⟩
  ·rename_i e s hs hd hx
   obtain ⟨he, l, hl, hk⟩ := need_elim hk
   refine ⟨_, hk, ?_, fun h1 => by simp [cls, ho, hd] at h1⟩
   unfold vop
   rw [ho]
   simp only [hs, hd, hx]
   exact need_mk he ⟨l, hl, S _ _ _⟩
  ·rename_i e s hs hd hx
   simp [cls, ho, hd] at hc
  ·exact hk.elim
 ·rename_i s x f ho
  split at hk
  ·exact hk.elim
  ·rename_i off ft hf
   obtain ⟨h1, hk⟩ := need_elim hk
   split at hk
   ·rename_i k i hx
    have := fin (lv := _) ho fun L2 h2 => by simp only [vop, hf, hx]; exact need_mk h1 (S _ _ _)
    exact ⟨_, hk, this _ _, fun _ => this⟩
   ·rename_i q hx
    cases q with
    | none => exact hk.elim
    | some p =>
     have := fin (lv := _) ho fun L2 h2 => by simp only [vop, hf, hx, vPtr]; exact need_mk h1 (S _ _ _)
     exact ⟨_, hk, this _ _, fun _ => this⟩
   ·exact hk.elim
 ·rename_i s x f ho
  split at hk
  ·rename_i off ft cs hf hx
   split at hk
   ·rename_i z hz
    obtain ⟨h1, hk⟩ := need_elim hk
    obtain ⟨v, h3, h4⟩ := part_same hk
    have := fin (lv := _) ho fun L2 h2 => by simp only [vop, hf, hx, hz]; exact need_mk h1 (h4 (fun v' => Same (.val v) L2 h2 (.val v') L2 h2) (S _ _ _))
    exact ⟨_, h3, this _ _, fun _ => this⟩
   ·exact hk.elim
  ·exact hk.elim
 ·rename_i t x ix ho
  split at hk
  ·rename_i i e s hi hu hx
   obtain ⟨h1, hk⟩ := need_elim hk
   cases s with
   | none => exact hk.elim
   | some s =>
    obtain ⟨g1, g2, hk⟩ := hk
    have := fin (lv := _) ho fun L2 h2 => by simp only [vop, hi, hu, hx]; exact need_mk h1 ⟨g1, g2, S _ _ _⟩
    exact ⟨_, hk, this _ _, fun _ => this⟩
  ·rename_i i n e q hi hu hx
   cases q with
   | none => exact hk.elim
   | some p =>
    simp only [vPtr] at hk
    obtain ⟨h1, hk⟩ := need_elim hk
    have := fin (lv := _) ho fun L2 h2 => by simp only [vop, hi, hu, hx, vPtr]; exact need_mk h1 (S _ _ _)
    exact ⟨_, hk, this _ _, fun _ => this⟩
  ·rename_i i n e k j hi hu hx
   obtain ⟨h1, hk⟩ := need_elim hk
   have := fin (lv := _) ho fun L2 h2 => by simp only [vop, hi, hu, hx]; exact need_mk h1 (S _ _ _)
   exact ⟨_, hk, this _ _, fun _ => this⟩
  ·rename_i i n e g hi hu hx
   obtain ⟨h1, a, j, ha, hk⟩ := need_elim hk
   refine ⟨_, hk, ?_, fun h1 => by simp [cls, ho] at h1⟩
   unfold vop
   rw [ho]
   simp only [hi, hu, hx]
   exact need_mk h1 ⟨a, j, ha, S _ _ _⟩
  ·exact hk.elim
 ·rename_i t x ix ho
  split at hk
  ·rename_i i s hi hu hx
   obtain ⟨g1, hk⟩ := hk
   split at hk
   ·rename_i b hb
    have := fin (lv := _) ho fun L2 h2 => by simp only [vop, hi, hu, hx, strIdx, hb]; exact ⟨g1, S _ _ _⟩
    exact ⟨_, hk, this _ _, fun _ => this⟩
   ·exact hk.elim
  ·exact hk.elim
 ·rename_i t ps ho
  split at hk
  ·rename_i zs fs parts hz hu hp
   obtain ⟨h1, hk⟩ := need_elim hk
   split at hk
   ·rename_i cells hf
    have := fin (lv := _) ho fun L2 h2 => by simp only [vop, hz, hu, hp, hf]; exact need_mk h1 (S _ _ _)
    exact ⟨_, hk, this _ _, fun _ => this⟩
   ·exact hk.elim
  ·rename_i zs n e parts hz hu hp
   obtain ⟨h1, hk⟩ := need_elim hk
   split at hk
   ·rename_i cells hf
    have := fin (lv := _) ho fun L2 h2 => by simp only [vop, hz, hu, hp, hf]; exact need_mk h1 (S _ _ _)
    exact ⟨_, hk, this _ _, fun _ => this⟩
   ·exact hk.elim
  ·exact hk.elim
 ·rename_i t n ps ho; simp [cls, ho] at hc
 ·rename_i t x lo hi mx ho
  split at hk
  ·rename_i e s l hh m hu hx hl hhh hm
   obtain ⟨h1, hk⟩ := need_elim hk
   cases s with
   | none =>
    obtain ⟨g1, g2, g3, hk⟩ := hk
    have := fin (lv := _) ho fun L2 h2 => by simp only [vop, hu, hx, hl, hhh, hm]; exact need_mk h1 ⟨g1, g2, g3, S _ _ _⟩
    exact ⟨_, hk, this _ _, fun _ => this⟩
   | some s =>
    obtain ⟨g0, g1, g2, g3, g4, hk⟩ := hk
    have := fin (lv := _) ho fun L2 h2 => by simp only [vop, hu, hx, hl, hhh, hm]; exact need_mk h1 ⟨g0, g1, g2, g3, g4, S _ _ _⟩
    exact ⟨_, hk, this _ _, fun _ => this⟩
  ·rename_i s l hh hu hx hl hhh hm
   obtain ⟨g1, g2, g3, hk⟩ := hk
   have := fin (lv := _) ho fun L2 h2 => by simp only [vop, hu, hx, hl, hhh, hm]; exact ⟨g1, g2, g3, S _ _ _⟩
   exact ⟨_, hk, this _ _, fun _ => this⟩
  ·rename_i n e q l hh m hu hx hl hhh hm
   cases q with
   | none => exact hk.elim
   | some p =>
    simp only [vPtr] at hk
    obtain ⟨h1, g0, g1, g2, g3, g4, hk⟩ := need_elim hk
    have := fin (lv := _) ho fun L2 h2 => by simp only [vop, hu, hx, hl, hhh, hm, vPtr]; exact need_mk h1 ⟨g0, g1, g2, g3, g4, S _ _ _⟩
    exact ⟨_, hk, this _ _, fun _ => this⟩
  ·exact hk.elim
 ·rename_i t l c ho; simp [cls, ho] at hc
 ·rename_i t x ho
  split at hk
  ·rename_i n e s0 hu hx
   unfold vSl at hk
   split at hk
   rotate_left
   ·exact hk.elim
   rename_i s
   obtain ⟨h1, hk⟩ := need_elim hk
   have := fin (lv := _) ho fun L2 h2 => by simp only [vop, hu, hx, vSl]; exact need_mk h1 (S _ _ _)
   exact ⟨_, hk, this _ _, fun _ => this⟩
  ·exact hk.elim
 ·rename_i t r ho; simp [cls, ho] at hc
 ·rename_i t x ix ok ho
  split at hk
  ·rename_i kt et m k z hu hx hix hz
   obtain ⟨v, h1, h2⟩ := lookup_same hk
   refine ⟨.val v, exV_at (K := fun u => K (.val u) L h) h1, ?_, fun h1 => by simp [cls, ho] at h1⟩
   unfold vop
   rw [ho]
   simp only [hu, hx, hix, hz]
   refine h2 _ (exV_mono (fun u hu => ?_) h1)
   obtain ⟨rfl, hu⟩ := hu
   exact ⟨rfl, S _ _ _⟩
  ·exact hk.elim
 ·rename_i t m k x ho; simp [cls, ho] at hc
 ·rename_i t m k x ho; simp [cls, ho] at hc
 ·rename_i t m k ho; simp [cls, ho] at hc
 ·rename_i t m s x ho; simp [cls, ho] at hc
 ·rename_i t x ho; simp [cls, ho] at hc
 ·rename_i x isS ho; simp [cls, ho] at hc
 ·rename_i x ho; simp [cls, ho] at hc
 ·rename_i x i ho
  split at hk
  ·rename_i vs hx
   split at hk
   ·rename_i v hv
    have := fin (lv := _) ho fun L2 h2 => by simp only [vop, hx, hv]; exact S _ _ _
    exact ⟨_, hk, this _ _, fun _ => this⟩
   ·exact hk.elim
  ·exact hk.elim
 ·rename_i fn f c ho
  split at hk
  ·exact hk.elim
  rename_i hyf
  split at hk
  ·rename_i a b ha hb
   have := fin (lv := _) ho fun L2 h2 => by simp only [vop, hyf, ha, hb]; exact S _ _ _
   exact ⟨_, hk, this _ _, fun _ => this⟩
  ·exact hk.elim
 ·rename_i t x ho
  split at hk
  ·exact hk.elim
  ·rename_i d v hne hu hx
   have := fin (lv := LV.val (.iface t v)) ho fun L2 h2 => by
    simp only [vop, hu, hx]
    exact S _ _ _
   exact ⟨_, hk, this _ _, fun _ => this⟩
  ·exact hk.elim
 ·rename_i c ho
  split at hk
  ·exact hk.elim
  ·rename_i args ha
   split at hk
   ·rename_i f hcal; simp [cls, ho, hcal] at hc
   ·rename_i r name hcal; simp [cls, ho, hcal] at hc
   ·rename_i b hcal
    have b2 : ∀ {lv : LV}, vBuiltin P b c.argTypes.toList args L h (Same lv L h) → vop P isLoc call o ρ L h (Same lv L h) := fun hh => by unfold vop; rw [ho]; simp only [ha, hcal]; exact hh
    have hcl : b = .len → ∀ t kt et, c.argTypes.toList = [t] → P.underlying t = some (.map kt et) → cls P o = 1 → False := by
     intro hb t kt et h1 h2 h3
     subst hb
     simp [cls, ho, hcal, h1, h2] at h3
    have bf : ∀ {lv : LV}, (∀ L2 h2, vBuiltin P b c.argTypes.toList args L2 h2 (Same lv L2 h2)) → ∀ L2 h2, vop P isLoc call o ρ L2 h2 (Same lv L2 h2) := fun hh => fin ho fun L2 h2 => by simp only [vop, ha, hcal]; exact hh L2 h2
    generalize hat : c.argTypes.toList = at' at hk bf b2 hcl
    have hb : b = .len ∨ b = .min ∨ b = .max := by
     cases b <;> simp [cls, ho, hcal] at hc <;> simp
    rcases hb with rfl | rfl | rfl
    ·unfold vBuiltin at hk
     split at hk
     ·split at hk
      ·rename_i t s e hu
       have := bf (lv := _) fun L2 h2 => by simp only [vBuiltin, hu]; exact S _ _ _
       exact ⟨_, hk, this _ _, fun _ => this⟩
      ·exact hk.elim
     ·split at hk
      ·rename_i t s hu
       have := bf (lv := _) fun L2 h2 => by simp only [vBuiltin, hu]; exact S _ _ _
       exact ⟨_, hk, this _ _, fun _ => this⟩
      ·exact hk.elim
     ·split at hk
      ·rename_i t m kt et hu
       unfold vLenM at hk
       split at hk
       ·rename_i es hes
        have := b2 (lv := _) (by simp only [vBuiltin, hu, vLenM, hes]; exact S _ _ _)
        exact ⟨_, hk, this, fun h1 => (hcl rfl _ _ _ rfl hu h1).elim⟩
       ·exact hk.elim
      ·exact hk.elim
     all_goals first | exact hk.elim | contradiction
    ·simp only [vBuiltin] at hk
     unfold minL at hk
     split at hk
     ·have := bf (lv := _) fun L2 h2 => by simp only [vBuiltin, minL]; exact S _ _ _
      exact ⟨_, hk, this _ _, fun _ => this⟩
     ·obtain ⟨h1, hk⟩ := need_elim hk
      have := bf (lv := _) fun L2 h2 => by simp only [vBuiltin, minL]; exact need_mk h1 (S _ _ _)
      exact ⟨_, hk, this _ _, fun _ => this⟩
     ·obtain ⟨h1, hk⟩ := need_elim hk
      have := bf (lv := _) fun L2 h2 => by simp only [vBuiltin, minL]; exact need_mk h1 (S _ _ _)
      exact ⟨_, hk, this _ _, fun _ => this⟩
     ·exact hk.elim
    ·simp only [vBuiltin] at hk
     unfold maxL at hk
     split at hk
     ·have := bf (lv := _) fun L2 h2 => by simp only [vBuiltin, maxL]; exact S _ _ _
      exact ⟨_, hk, this _ _, fun _ => this⟩
     ·obtain ⟨h1, hk⟩ := need_elim hk
      have := bf (lv := _) fun L2 h2 => by simp only [vBuiltin, maxL]; exact need_mk h1 (S _ _ _)
      exact ⟨_, hk, this _ _, fun _ => this⟩
     ·exact hk.elim
 ·exact hk.elim
end
section
variable {P : Program} {isLoc : Nat → Bool} {call : CallH} {L : Locs} {h : Heap} {ρ ρ' : List LV}
theorem vals_congr : ∀ {l : List Operand}, (∀ x ∈ l, ev ρ x = ev ρ' x) → vals ρ l = vals ρ' l
 | [], _ => rfl
 | x :: l, hx => by
  simp only [vals]
  rw [hx x (by simp), vals_congr (l := l) fun y hy => hx y (by simp [hy])]
theorem partsA_congr {ps : Array (Nat × Operand)} (hx : ∀ x ∈ (ps.toList.map (·.2)), ev ρ x = ev ρ' x) : partsA ρ ps = partsA ρ' ps := by
 unfold partsA
 rw [vals_congr hx]
theorem evI_congr {x : Operand} (hx : ev ρ x = ev ρ' x) : evI ρ x = evI ρ' x := by unfold evI; rw [hx]
theorem optI_congr {x : Option Operand} (hx : ∀ y, x = some y → ev ρ y = ev ρ' y) : optI ρ x = optI ρ' x := by
 cases x with
 | none => rfl
 | some y => simp only [optI]; rw [evI_congr (hx y rfl)]
theorem vop_congr {o : Oper} {K : KO} (hx : ∀ x ∈ o.op.operands.toList, ev ρ x = ev ρ' x) : vop P isLoc call o ρ L h K = vop P isLoc call o ρ' L h K := by
 obtain ⟨dst, op, type, pos, after, guard⟩ := o
 cases op <;> simp only [Op.operands, Call.operands] at hx <;> simp only [vop]
 case move x => rw [hx x (by simp)]
 case assign x => rw [hx x (by simp)]
 case pick c a b => rw [hx c (by simp), hx a (by simp), hx b (by simp)]
 case box t x => rw [hx x (by simp)]
 case load t x => rw [hx x (by simp)]
 case store t a x => rw [hx a (by simp), hx x (by simp)]
 case nilCheck x => rw [hx x (by simp)]
 case binOp op t x y yt => rw [hx x (by simp), hx y (by simp)]
 case unOp op t x => rw [hx x (by simp)]
 case convert a b x => rw [hx x (by simp)]
 case fieldAddr s x f => rw [hx x (by simp)]
 case field s x f => rw [hx x (by simp)]
 case indexAddr t x ix => rw [hx x (by simp), evI_congr (hx ix (by simp))]
 case index t x ix => rw [hx x (by simp), evI_congr (hx ix (by simp))]
 case build t ps => rw [partsA_congr (by simpa using hx)]
 case buildSlice t n ps => rw [partsA_congr (by simpa using hx)]
 case slice t x lo hi mx =>
  rw [hx x (by simp), optI_congr (x := lo) (fun y hy => hx y (by simp [hy])), optI_congr (x := hi) (fun y hy => hx y (by simp [hy])), optI_congr (x := mx) (fun y hy => hx y (by simp [hy]))]
 case makeSlice t l c => rw [evI_congr (hx l (by simp)), evI_congr (hx c (by simp))]
 case sliceToArrayPointer t x => rw [hx x (by simp)]
 case lookup t x ix ok => rw [hx x (by simp), hx ix (by simp)]
 case mapUpdate t m k x => rw [hx m (by simp), hx k (by simp), hx x (by simp)]
 case insert t m k x => rw [hx m (by simp), hx k (by simp), hx x (by simp)]
 case mapEntry t m k => rw [hx m (by simp), hx k (by simp)]
 case entryStore t m s x => rw [hx m (by simp), hx s (by simp), hx x (by simp)]
 case range t x => rw [hx x (by simp)]
 case next x b => rw [hx x (by simp)]
 case entry x => rw [hx x (by simp)]
 case extract x i => rw [hx x (by simp)]
 case makeFunc fn f c => rw [vals_congr (l := f.toList) (fun y hy => hx y (by simp at hy ⊢; exact .inl hy)), vals_congr (l := c.toList) (fun y hy => hx y (by simp at hy ⊢; exact .inr hy))]
 case makeInterface t x => rw [hx x (by simp)]
 case call c =>
  rw [vals_congr (l := c.args.toList) (fun y hy => hx y (by simp at hy ⊢; exact .inr hy))]
  cases hc : c.callee with
  | value f => simp only [hc] at hx ⊢; rw [hx f (by simp)]
  | invoke r m => simp only [hc] at hx ⊢; rw [hx r (by simp)]
  | builtin b => rfl
end
def bindsOf (o : Oper) : List Nat := (o.after.toList.filter (Region.binds .any)).map (·.on)
inductive Bf (ops : Array Oper) : Nat → Nat → Prop
 | edge {i j : Nat} {o : Oper} : ops[i]? = some o → j ∈ bindsOf o → Bf ops i j
 | via {i e j : Nat} {o : Oper} : ops[i]? = some o → e ∈ bindsOf o → Bf ops e j → Bf ops i j
def forceN {α : Type} (n : Nat) (k : Nat → α) : α := match n with | 0 => k 0 | m + 1 => k (m + 1)
theorem forceN_eq {α : Type} (n : Nat) (k : Nat → α) : forceN n k = k n := by cases n <;> rfl
def rowAt (rows : List Nat) (n i : Nat) : Nat := if i < n then rows.getD (n - 1 - i) 0 else 0
def rowOf (rows : List Nat) (n : Nat) : List Nat → Nat
 | [] => 0
 | e :: es => (2 ^ e ||| rowAt rows n e) ||| rowOf rows n es
def bfRows {α : Type} : List Oper → Nat → List Nat → (List Nat → Nat → α) → α
 | [], n, rows, k => k rows n
 | o :: os, n, rows, k => forceN (rowOf rows n (bindsOf o)) fun v => bfRows os (n + 1) (v :: rows) k
def bfBit (rows : List Nat) (n i j : Nat) : Bool := (rowAt rows n i).testBit j
theorem rowOf_bit {rows : List Nat} {n : Nat} : ∀ {l : List Nat} {j : Nat}, (rowOf rows n l).testBit j = true → ∃ e ∈ l, e = j ∨ (rowAt rows n e).testBit j = true
 | [], j, h => by simp [rowOf] at h
 | e :: es, j, h => by
  simp only [rowOf, Nat.testBit_or, Bool.or_eq_true, Nat.testBit_two_pow, decide_eq_true_eq] at h
  rcases h with (h | h) | h
  ·exact ⟨e, by simp, .inl h⟩
  ·exact ⟨e, by simp, .inr h⟩
  ·obtain ⟨e', h1, h2⟩ := rowOf_bit h; exact ⟨e', by simp [h1], h2⟩
theorem bfRows_ok {ops : Array Oper} {α : Type} {k : List Nat → Nat → α} : ∀ (os : List Oper) (n : Nat) (rows : List Nat), rows.length = n → ops.toList.drop n = os → (∀ i j, bfBit rows n i j = true → Bf ops i j) →
  ∃ rows' n', bfRows os n rows k = k rows' n' ∧ ∀ i j, bfBit rows' n' i j = true → Bf ops i j
 | [], n, rows, _, _, h => ⟨rows, n, rfl, h⟩
 | o :: os, n, rows, hl, hd, h => by
  simp only [bfRows, forceN_eq]
  have ho : ops[n]? = some o := by
   have : (ops.toList.drop n)[0]? = some o := by rw [hd]; rfl
   simpa using this
  refine bfRows_ok os (n + 1) _ (by simp [hl]) (by rw [← List.drop_drop, hd]; rfl) fun i j hb => ?_
  unfold bfBit rowAt at hb
  split at hb
  ·rename_i hi
   by_cases hin : i = n
   ·subst hin
    simp only [Nat.add_sub_cancel, Nat.sub_self, List.getD_cons_zero] at hb
    obtain ⟨e, he, h2⟩ := rowOf_bit hb
    rcases h2 with rfl | h2
    ·exact .edge ho he
    ·exact .via ho he (h e j h2)
   ·have : n + 1 - 1 - i = (n - 1 - i) + 1 := by omega
    rw [this, List.getD_cons_succ] at hb
    refine h i j ?_
    unfold bfBit rowAt
    rw [if_pos (by omega)]
    exact hb
  ·simp at hb
def okDraw (P : Program) (ops : Array Oper) (rows : List Nat) (m : Nat) : Bool :=
 let n := ops.size
 Region.noSelect ops && P.follows .mixedOrders &&
 (List.range n).all fun i => match ops[i]? with
  | none => false
  | some o =>
   (bindsOf o).all (fun e => decide (e < i)) &&
   (match o.dst with | some d => cls P o == 0 || !(o.looksAt ops).contains d | none => true) &&
   (List.range n).all fun j => i == j || match ops[j]? with
    | none => false
    | some o' => match o'.dst with
     | none => true
     | some d => !(o.dst == some d) && (!(o.looksAt ops).contains d || (bfBit rows m i j || (bfBit rows m j i && (cls P o == 0 || cls P o' == 0))))
def readyRO (P : Program) (ops : Array Oper) (listed : List Nat) : Option Nat :=
 (List.range ops.size).find? fun i => !listed.contains i && match ops[i]? with | some o => cls P o != 0 && (bindsOf o).all listed.contains | none => false
def readyE (ops : Array Oper) (listed : List Nat) : List Nat :=
 (List.range ops.size).filter fun i => !listed.contains i && match ops[i]? with | some o => (bindsOf o).all listed.contains | none => false
def vall : List Nat → (Nat → Prop) → Prop
 | [], _ => True
 | [j], f => f j
 | j :: js, f => f j ∧ vall js f
theorem vall_mem {f : Nat → Prop} : ∀ {l : List Nat}, vall l f → ∀ j ∈ l, f j
 | [], _, j, hj => by simp at hj
 | [k], h, j, hj => by simp at hj; subst hj; exact h
 | k :: k' :: l, h, j, hj => by
  simp only [vall] at h
  rcases List.mem_cons.1 hj with rfl | hj
  ·exact h.1
  ·exact vall_mem h.2 j hj
def vg (P : Program) (isLoc : Nat → Bool) (call : CallH) (ops : Array Oper) (o : Oper) (ρ : List LV) (L : Locs) (h : Heap) (K : KO) : Prop :=
 match actsAt ops o ρ with
 | none => False
 | some b => vif b (vop P isLoc call o ρ L h K) (K .und L h)
def rechk1 (P : Program) (isLoc : Nat → Bool) (call : CallH) (ops : Array Oper) (i : Nat) (st : St) : Prop :=
 match ops[i]? with
 | some o => vg P isLoc call ops o st.ρ st.L st.h fun lv _ _ => match o.dst with | some d => lv = st.ρ.getD d .top | none => True
 | none => False
def rechks (P : Program) (isLoc : Nat → Bool) (call : CallH) (ops : Array Oper) (st : St) (A : Prop) : List Nat → Prop
 | [] => A
 | i :: is => rechk1 P isLoc call ops i st ∧ rechks P isLoc call ops st A is
theorem rechks_elim {P : Program} {isLoc : Nat → Bool} {call : CallH} {ops : Array Oper} {st : St} {A : Prop} : ∀ {l : List Nat}, rechks P isLoc call ops st A l → A ∧ ∀ i ∈ l, rechk1 P isLoc call ops i st
 | [], h => ⟨h, by simp⟩
 | i :: is, ⟨h1, h2⟩ => ⟨(rechks_elim h2).1, by intro j hj; simp at hj; rcases hj with rfl | hj; exact h1; exact (rechks_elim h2).2 j hj⟩
def toCheck (P : Program) (ops : Array Oper) (rows : List Nat) (m : Nat) (listed : List Nat) (j : Nat) : List Nat :=
 listed.filter fun i => match ops[i]? with | some o => cls P o == 2 && !bfBit rows m j i | none => false
def vany (P : Program) (isLoc : Nat → Bool) (call : CallH) (ops : Array Oper) (rows : List Nat) (m : Nat) : Nat → List Nat → St → (St → Prop) → Prop
 | 0, _, _, _ => False
 | n + 1, listed, st, K =>
  match readyRO P ops listed with
  | some i => match ops[i]? with
   | some o => vguarded P isLoc call ops o st fun st' => vany P isLoc call ops rows m n (i :: listed) st' K
   | none => False
  | none => match readyE ops listed with
   | [] => need ((List.range ops.size).all listed.contains) (K st)
   | j :: js => vall (j :: js) fun j => match ops[j]? with
    | some o => vguarded P isLoc call ops o st fun st' => rechks P isLoc call ops st' (vany P isLoc call ops rows m n (j :: listed) st' K) (toCheck P ops rows m listed j)
    | none => False
def vdraw (P : Program) (isLoc : Nat → Bool) (call : CallH) : DrawH := fun _ ops st K =>
 bfRows ops.toList 0 [] fun rows m => need (okDraw P ops rows m) (vany P isLoc call ops rows m (ops.size + 1) [] st K)
section
variable {P : Program} {isLoc : Nat → Bool} {call : CallH} {ops : Array Oper}
structure OkD (P : Program) (ops : Array Oper) : Prop where
 nosel : Region.noSelect ops = true
 mixed : P.follows .mixedOrders = true
 lt : ∀ (i : Nat) (o : Oper), ops[i]? = some o → ∀ e ∈ bindsOf o, e < i
 self : ∀ (i : Nat) (o : Oper) (d : Nat), ops[i]? = some o → o.dst = some d → cls P o ≠ 0 → d ∉ o.looksAt ops
 dst : ∀ (i j : Nat) (o o' : Oper) (d : Nat), ops[i]? = some o → ops[j]? = some o' → i ≠ j → o'.dst = some d → o.dst ≠ some d
 look : ∀ (i j : Nat) (o o' : Oper) (d : Nat), ops[i]? = some o → ops[j]? = some o' → i ≠ j → o'.dst = some d → d ∈ o.looksAt ops →
  Bf ops i j ∨ (Bf ops j i ∧ (cls P o = 0 ∨ cls P o' = 0))
theorem okD_of {rows : List Nat} {m : Nat} (hb : ∀ i j, bfBit rows m i j = true → Bf ops i j) (h : okDraw P ops rows m = true) : OkD P ops := by
 simp only [okDraw, Bool.and_eq_true, List.all_eq_true, List.mem_range] at h
 obtain ⟨⟨h1, h2⟩, h3⟩ := h
 have at' : ∀ (i : Nat) (o : Oper), ops[i]? = some o → _ := fun i o ho => h3 i (Array.getElem?_eq_some_iff.1 ho).1
 refine ⟨h1, h2, ?_, ?_, ?_, ?_⟩
 ·intro i o ho e he
  have := at' i o ho
  rw [ho] at this
  simp only [Bool.and_eq_true, List.all_eq_true] at this
  simpa using this.1.1 e he
 ·intro i o d ho hd hc
  have := at' i o ho
  rw [ho] at this
  simp only [Bool.and_eq_true, List.all_eq_true, hd] at this
  have := this.1.2
  simp [hc] at this
  exact this
 ·intro i j o o' d ho ho' hne hd
  have := at' i o ho
  rw [ho] at this
  simp only [Bool.and_eq_true, List.all_eq_true] at this
  have := this.2 j (by simpa using (Array.getElem?_eq_some_iff.1 ho').1)
  simp only [ho', hd, Bool.or_eq_true, Bool.and_eq_true, beq_iff_eq, hne, false_or] at this
  have := this.1
  simpa using this
 ·intro i j o o' d ho ho' hne hd hl
  have := at' i o ho
  rw [ho] at this
  simp only [Bool.and_eq_true, List.all_eq_true] at this
  have := this.2 j (by simpa using (Array.getElem?_eq_some_iff.1 ho').1)
  simp only [ho', hd, Bool.or_eq_true, Bool.and_eq_true, beq_iff_eq, hne, false_or] at this
  have := this.2
  simp only [Bool.not_eq_true', List.contains_eq_mem, decide_eq_false_iff_not, hl, not_true_eq_false, false_or] at this
  rcases this with h | ⟨h, h'⟩
  ·exact .inl (hb _ _ h)
  ·exact .inr ⟨hb _ _ h, h'⟩
theorem Bf.closed {S : Nat → Prop} (hS : ∀ (i : Nat) (o : Oper), ops[i]? = some o → S i → ∀ e ∈ bindsOf o, S e) {i j : Nat} (h : Bf ops i j) : (∀ o, ops[i]? = some o → ∀ e ∈ bindsOf o, S e) → S j := by
 induction h with
 | edge ho he => intro h; exact h _ ho _ he
 | via ho he _ ih =>
  intro h
  exact ih fun o' ho' e' he' => hS _ _ ho' (h _ ho _ he) _ he'
theorem vg_of {o : Oper} {st : St} {K : St → Prop} (hk : vguarded P isLoc call ops o st K) : vg P isLoc call ops o st.ρ st.L st.h fun v L h => K (st.put o.dst v L h) := by
 unfold vg
 rcases vguarded_elim hk with ⟨hg, hk⟩ | ⟨hg, hk⟩ <;> simp only [hg, vif] <;> exact hk
theorem vg_congr {o : Oper} {ρ ρ' : List LV} {L : Locs} {h : Heap} {K : KO} (hx : ∀ d ∈ o.looksAt ops, ρ[d]? = ρ'[d]?) : vg P isLoc call ops o ρ L h K = vg P isLoc call ops o ρ' L h K := by
 have h1 : ∀ x ∈ o.op.operands.toList, ev ρ x = ev ρ' x := by
  intro x hm
  cases x with
  | tmp t =>
   have := hx t (by unfold Oper.looksAt; exact List.mem_append_left _ (List.mem_filterMap.2 ⟨.tmp t, hm, rfl⟩))
   simp only [ev, List.getD, this]
  | _ => rfl
 have hv : ∀ K, vop P isLoc call o ρ L h K = vop P isLoc call o ρ' L h K := fun K => vop_congr h1
 have ha : actsAt ops o ρ = actsAt ops o ρ' := by
  unfold actsAt
  cases hg : o.guard with
  | none => rfl
  | some gw =>
   obtain ⟨g, want⟩ := gw
   have hgv : guardVal ops ρ g = guardVal ops ρ' g := by
    unfold guardVal
    cases ht : (ops[g]?).bind (·.dst) with
    | none => rfl
    | some t => simp only [hx t (by simp [Oper.looksAt, hg, ht])]
   have hgo : guardOff ops ρ g = guardOff ops ρ' g := by
    unfold guardOff
    cases ht : (ops[g]?).bind (·.dst) with
    | none => rfl
    | some t => simp only [hx t (by simp [Oper.looksAt, hg, ht])]
   simp only [hgv, hgo]
 unfold vg
 simp only [ha, hv]
theorem vg_same {o : Oper} {ρ : List LV} {L : Locs} {h : Heap} {K : KO} (hc : cls P o ≠ 0) (hk : vg P isLoc call ops o ρ L h K) :
  ∃ lv, K lv L h ∧ vg P isLoc call ops o ρ L h (Same lv L h) ∧ (cls P o = 1 → ∀ L2 h2, vg P isLoc call ops o ρ L2 h2 (Same lv L2 h2)) := by
 have S : ∀ (lv : LV) L2 h2, Same lv L2 h2 lv L2 h2 := fun lv L2 h2 => ⟨rfl, rfl, rfl⟩
 unfold vg at hk ⊢
 cases ha : actsAt ops o ρ with
 | none => simp only [ha] at hk
 | some b =>
  simp only [ha] at hk ⊢
  cases b <;> simp only [vif] at hk ⊢
  ·exact ⟨.und, hk, S _ _ _, fun _ => S _⟩
  ·exact vop_same hc hk
end
section
variable {P : Program} {μ0 : Ren} {h0 : Heap} {w0 : World} {isLoc : Nat → Bool} {ops : Array Oper}
theorem vg_wp {i : Nat} {o : Oper} {ρ : List LV} {L : Locs} {h : Heap} {K : KO} {μ : Ren} {lam : List Nat} {a : Act} {w : World} {next : Act → World → Prop} {Q : Exit → Act → World → Prop} (ho : ops[i]? = some o)
  (R : Rel μ0 h0 w0 μ lam L h w) (E : EnvRel μ lam ρ a.tmps) (hk : vg P isLoc (AC P) ops o ρ L h K) (hn : NextOK μ0 h0 w0 μ lam K o.dst a next) : wpOp P ops Q i next a w := by
 unfold wpOp
 simp only [ho]
 unfold vg at hk
 split at hk
 ·exact hk.elim
 ·rename_i b hb
  rcases vif_elim hk with ⟨rfl, hk⟩ | ⟨rfl, hk⟩
  ·rw [if_pos (wanted_of E hb)]
   exact .inl (vop_wp R E hk hn)
  ·rw [if_neg (by rw [wanted_of E hb]; simp)]
   exact hn .und L h μ lam undef w hk R (.refl _) (lamLe.refl _) und_rel
end
section
variable {P : Program} {μ0 : Ren} {h0 : Heap} {w0 : World} {isLoc : Nat → Bool} {ops : Array Oper}
def Lr (lR : Array Bool) (i : Nat) : Prop := lR.getD i false = true
def Own (P : Program) (isLoc : Nat → Bool) (ops : Array Oper) (i : Nat) (st : St) : Prop :=
 ∃ o, ops[i]? = some o ∧ cls P o ≠ 0 ∧ ∃ lv, vg P isLoc (AC P) ops o st.ρ st.L st.h (Same lv st.L st.h) ∧ ∀ d, o.dst = some d → st.ρ.set d lv = st.ρ
structure DInv (P : Program) (μ0 : Ren) (h0 : Heap) (w0 : World) (isLoc : Nat → Bool) (ops : Array Oper) (ws : List Nat) (μ : Ren) (lam : List Nat) (a : Act)
  (lA : List Nat) (st : St) (lR : Array Bool) (ρR : List LV) (a' : Act) (w' : World) (μ' : Ren) (lam' : List Nat) : Prop where
 size : lR.size = ops.size
 sub : ∀ i, Lr lR i → i ∈ lA
 clA : ∀ (i : Nat) (o : Oper), ops[i]? = some o → i ∈ lA → ∀ e ∈ bindsOf o, e ∈ lA
 clR : ∀ (i : Nat) (o : Oper), ops[i]? = some o → Lr lR i → ∀ e ∈ bindsOf o, Lr lR e
 owed : ∀ i, i ∈ lA → ¬ Lr lR i → Own P isLoc ops i st
 len : ρR.length = st.ρ.length
 view : ∀ t, (∃ i o, i ∈ lA ∧ ¬ Lr lR i ∧ ops[i]? = some o ∧ o.dst = some t) ∨ ρR[t]? = st.ρ[t]?
 post : Post μ0 h0 w0 μ lam a ws ⟨ρR, st.L, st.h⟩ a' w' μ' lam'
theorem readyRO_some {listed : List Nat} {i : Nat} (h : readyRO P ops listed = some i) : i ∉ listed ∧ ∃ o, ops[i]? = some o ∧ cls P o ≠ 0 ∧ ∀ e ∈ bindsOf o, e ∈ listed := by
 have := List.find?_some h
 simp only [Bool.and_eq_true, Bool.not_eq_true', List.contains_eq_mem, decide_eq_false_iff_not] at this
 obtain ⟨h1, h2⟩ := this
 refine ⟨h1, ?_⟩
 split at h2
 ·rename_i o ho
  simp only [Bool.and_eq_true, bne_iff_ne, List.all_eq_true, decide_eq_true_eq] at h2
  exact ⟨o, ho, h2.1, fun e he => by simpa using h2.2 e he⟩
 ·simp at h2
theorem set_comm {α : Type} (l : List α) {i j : Nat} (a b : α) (h : i ≠ j) : (l.set i a).set j b = (l.set j b).set i a := List.set_comm a b h
theorem Own.put (D : OkD P ops) {i j : Nat} {o : Oper} {st : St} {lv : LV} (hO : Own P isLoc ops j st) (ho : ops[i]? = some o) (hne : i ≠ j) (hl : ∀ d o', o.dst = some d → ops[j]? = some o' → d ∉ o'.looksAt ops) :
  Own P isLoc ops j (st.put o.dst lv st.L st.h) := by
 obtain ⟨o', ho', hc, lv', hv, hs⟩ := hO
 refine ⟨o', ho', hc, lv', ?_, ?_⟩
 ·simp only [St.put]
  rw [vg_congr (ρ' := st.ρ)]
  ·exact hv
  ·intro t ht
   split
   ·rename_i d hd
    rw [List.getElem?_set, if_neg]
    intro h; subst h
    exact hl _ _ hd ho' ht
   ·rfl
 ·intro d' hd'
  simp only [St.put]
  split
  ·rename_i d hd
   have : d ≠ d' := by
    intro h; subst h
    exact D.dst i j o o' _ ho ho' hne hd' hd
   rw [set_comm _ _ _ this, hs d' hd']
  ·exact hs d' hd'
theorem saturate (D : OkD P ops) {rows : List Nat} {m : Nat} {ws : List Nat} {μ : Ren} {lam : List Nat} {a : Act} {lR : Array Bool} {ρR : List LV} {a' : Act} {w' : World} {μ' : Ren} {lam' : List Nat} {K : St → Prop} :
  ∀ (n : Nat) (lA : List Nat) (st : St), vany P isLoc (AC P) ops rows m n lA st K → DInv P μ0 h0 w0 isLoc ops ws μ lam a lA st lR ρR a' w' μ' lam' →
   ∃ n' lA' st', vany P isLoc (AC P) ops rows m (n' + 1) lA' st' K ∧ DInv P μ0 h0 w0 isLoc ops ws μ lam a lA' st' lR ρR a' w' μ' lam' ∧ readyRO P ops lA' = none
 | 0, _, _, h, _ => h.elim
 | n + 1, lA, st, h, I => by
  cases hr : readyRO P ops lA with
  | none => exact ⟨n, lA, st, h, I, hr⟩
  | some i =>
   obtain ⟨hni, o, ho, hc, hb⟩ := readyRO_some hr
   simp only [vany, hr, ho] at h
   obtain ⟨lv, hk, hv, h1⟩ := vg_same hc (vg_of h)
   refine saturate D n _ _ hk ?_
   have hself : ∀ d, o.dst = some d → d ∉ o.looksAt ops := fun d hd => D.self i o d ho hd hc
   exact {
    size := I.size
    sub := fun k hk => List.mem_cons_of_mem _ (I.sub k hk)
    clA := by
     intro k o' ho' hk' e he
     rcases List.mem_cons.1 hk' with rfl | hk'
     ·rw [ho] at ho'; cases ho'
      exact List.mem_cons_of_mem _ (hb e he)
     ·exact List.mem_cons_of_mem _ (I.clA k o' ho' hk' e he)
    clR := I.clR
    owed := by
     intro k hk' hn
     by_cases hki : k = i
     ·subst hki
      refine ⟨o, ho, hc, lv, ?_, ?_⟩
      ·simp only [St.put]
       rw [vg_congr (ρ' := st.ρ)]
       ·exact hv
       ·intro t ht
        split
        ·rename_i d hd
         rw [List.getElem?_set, if_neg]
         intro h; subst h
         exact hself _ hd ht
        ·rfl
      ·intro d hd
       simp only [St.put, hd, List.set_set]
     ·have hkA : k ∈ lA := (List.mem_cons.1 hk').resolve_left hki
      have hO := I.owed k hkA hn
      refine hO.put D ho (Ne.symm hki) fun d o' hd ho' hl => ?_
      rcases D.look k i o' o d ho' ho hki hd hl with hbf | ⟨_, hcc⟩
      ·exact hni (hbf.closed (S := (· ∈ lA)) I.clA fun o2 ho2 e he => I.clA k o2 ho2 hkA e he)
      ·obtain ⟨o2, ho2, hc2, _⟩ := hO
       rw [ho'] at ho2; cases ho2
       exact hcc.elim hc2 hc
    len := by
     simp only [St.put]
     split <;> simp [I.len]
    view := by
     intro t
     by_cases ht : o.dst = some t
     ·exact .inl ⟨i, o, by simp, fun hl => hni (I.sub i hl), ho, ht⟩
     ·rcases I.view t with ⟨k, o', h1, h2, h3, h4⟩ | hv
      ·exact .inl ⟨k, o', List.mem_cons_of_mem _ h1, h2, h3, h4⟩
      ·refine .inr ?_
       rw [hv]
       simp only [St.put]
       split
       ·rename_i d hd
        rw [List.getElem?_set, if_neg]
        intro h; subst h; exact ht hd
       ·rfl
    post := by simpa [St.put] using I.post }
def cnt (lR : Array Bool) : Nat := (lR.toList.filter (fun b => !b)).length
theorem cnt_set {lR : Array Bool} {i : Nat} (h : lR.getD i true = false) : cnt (lR.setIfInBounds i true) + 1 = cnt lR := by
 unfold cnt
 have hi : i < lR.size := by
  rcases Nat.lt_or_ge i lR.size with h' | h'
  ·exact h'
  ·simp [Array.getElem?_eq_none h'] at h
 have key : ∀ (l : List Bool) (i : Nat), l[i]? = some false → ((l.set i true).filter (fun b => !b)).length + 1 = (l.filter (fun b => !b)).length := by
  intro l
  induction l with
  | nil => intro i h; simp at h
  | cons x l ih =>
   intro i h
   cases i with
   | zero => simp at h; subst h; simp
   | succ i =>
    simp at h
    have := ih i h
    cases x <;> simp <;> omega
 rw [Array.toList_setIfInBounds]
 refine key _ _ ?_
 simp [hi] at h ⊢
 exact h
theorem lr_set {lR : Array Bool} {i j : Nat} : Lr (lR.setIfInBounds i true) j ↔ (j = i ∧ i < lR.size) ∨ Lr lR j := by
 unfold Lr
 by_cases h : i = j
 ·subst h
  by_cases hlt : i < lR.size
  ·simp [hlt]
  ·simp [hlt]
 ·rw [getD_set_ne false h]
  constructor
  ·exact .inr
  ·rintro (⟨rfl, _⟩ | h'); exact absurd rfl h; exact h'
theorem not_lr {lR : Array Bool} {i : Nat} (h : lR.getD i true = false) : ¬ Lr lR i := by
 unfold Lr
 intro h'
 by_cases hlt : i < lR.size
 ·simp [hlt] at h h'
  rw [h] at h'; cases h'
 ·simp [hlt] at h'
theorem lr_of {lR : Array Bool} {i : Nat} (hlt : i < lR.size) (h : lR.getD i true ≠ false) : Lr lR i := by
 unfold Lr
 simp [hlt] at h ⊢
 exact h
theorem all_listed (D : OkD P ops) {lR : Array Bool} (hs : lR.size = ops.size) (h : Region.ready .any ops lR = []) : ∀ i, i < ops.size → Lr lR i := by
 intro i
 induction i using Nat.strongRecOn with
 | _ i ih =>
  intro hi
  by_cases hl : lR.getD i true = false
  ·have : i ∈ Region.ready .any ops lR := by
    refine mem_ready.2 ⟨hl, ops[i], by simp [hi], fun e he hb => ?_⟩
    have hm : e.on ∈ bindsOf ops[i] := by
     simp only [bindsOf, List.mem_map, List.mem_filter]
     exact ⟨e, ⟨by simpa using he, hb⟩, rfl⟩
    have hlt := D.lt i ops[i] (by simp [hi]) _ hm
    exact ih e.on hlt (by omega)
   rw [h] at this
   simp at this
  ·exact lr_of (by omega) hl
theorem draw_main (D : OkD P ops) {rows : List Nat} {m : Nat} (hrows : ∀ i j, bfBit rows m i j = true → Bf ops i j) {ws : List Nat} (hws : ∀ (i : Nat) (o : Oper) (d : Nat), ops[i]? = some o → o.dst = some d → d ∈ ws)
  {μ : Ren} {lam : List Nat} {a : Act} {K : St → Prop} {Q : Exit → Act → World → Prop}
  (hq : ∀ st' a' w' μ' lam', K st' → Post μ0 h0 w0 μ lam a ws st' a' w' μ' lam' → Q .normal a' w') :
  ∀ (fuel n : Nat) (lA : List Nat) (st : St) (lR : Array Bool) (ρR : List LV) (a' : Act) (w' : World) (μ' : Ren) (lam' : List Nat), cnt lR ≤ fuel → vany P isLoc (AC P) ops rows m n lA st K →
   DInv P μ0 h0 w0 isLoc ops ws μ lam a lA st lR ρR a' w' μ' lam' → wpAny P .any ops Q fuel lR a' w' := by
 have fin : ∀ (n : Nat) (lA : List Nat) (st : St) (lR : Array Bool) (ρR : List LV) (a' : Act) (w' : World) (μ' : Ren) (lam' : List Nat), vany P isLoc (AC P) ops rows m n lA st K →
   DInv P μ0 h0 w0 isLoc ops ws μ lam a lA st lR ρR a' w' μ' lam' → Region.ready .any ops lR = [] → Q .normal a' w' := by
  intro n lA st lR ρR a' w' μ' lam' hv I hr
  obtain ⟨n, lA, st, hv, I, hro⟩ := saturate D n lA st hv I
  have hall := all_listed D I.size hr
  have hE : readyE ops lA = [] := by
   unfold readyE
   rw [List.filter_eq_nil_iff]
   intro i hi
   have : i ∈ lA := I.sub i (hall i (List.mem_range.1 hi))
   simp [this]
  simp only [vany, hro, hE] at hv
  obtain ⟨_, hk⟩ := need_elim hv
  have hρ : ρR = st.ρ := by
   refine List.ext_getElem? fun t => ?_
   rcases I.view t with ⟨i, o, _, h2, h3, _⟩ | h
   ·exact absurd (hall i (Array.getElem?_eq_some_iff.1 h3).1) h2
   ·exact h
  refine hq st a' w' μ' lam' hk ?_
  have := I.post
  rw [hρ] at this
  exact this
 intro fuel
 induction fuel with
 | zero =>
  intro n lA st lR ρR a' w' μ' lam' hc hv I
  have hr : Region.ready .any ops lR = [] := by
   refine List.eq_nil_iff_forall_not_mem.2 fun i hi => ?_
   have := cnt_set (mem_ready.1 hi).1
   omega
  exact ⟨hr, fin _ _ _ _ _ _ _ _ _ hv I hr⟩
 | succ fuel ih =>
  intro n lA st lR ρR a' w' μ' lam' hc hv I
  refine ⟨fin _ _ _ _ _ _ _ _ _ hv I, fun i hi => ?_⟩
  obtain ⟨n, lA, st, hv, I, hro⟩ := saturate D n lA st hv I
  obtain ⟨hun, o, ho, haft⟩ := mem_ready.1 hi
  have hnl := not_lr hun
  have hisz : i < lR.size := by rw [I.size]; exact (Array.getElem?_eq_some_iff.1 ho).1
  have hbR : ∀ e ∈ bindsOf o, Lr lR e := by
   intro e he
   simp only [bindsOf, List.mem_map, List.mem_filter] at he
   obtain ⟨x, ⟨hx, hb⟩, rfl⟩ := he
   exact haft x (by simpa using hx) hb
  have hbfR : ∀ j, Bf ops i j → Lr lR j := fun j hb => hb.closed (S := Lr lR) I.clR fun o2 ho2 e he => by
   rw [ho] at ho2; cases ho2; exact hbR e he
  have hcnt : cnt (lR.setIfInBounds i true) ≤ fuel := by have := cnt_set hun; omega
  have clR' : ∀ (k : Nat) (o' : Oper), ops[k]? = some o' → Lr (lR.setIfInBounds i true) k → ∀ e ∈ bindsOf o', Lr (lR.setIfInBounds i true) e := by
   intro k o' ho' hk e he
   rw [lr_set] at hk ⊢
   rcases hk with ⟨rfl, _⟩ | hk
   ·rw [ho] at ho'; cases ho'; exact .inr (hbR e he)
   ·exact .inr (I.clR k o' ho' hk e he)
  by_cases hiA : i ∈ lA
  ·
   obtain ⟨o2, ho2, hcls, lv, hvg, hset⟩ := I.owed i hiA hnl
   rw [ho] at ho2; cases ho2
   have hcong : ∀ t ∈ o.looksAt ops, ρR[t]? = st.ρ[t]? := by
    intro t ht
    rcases I.view t with ⟨k, o', h1, h2, h3, h4⟩ | h
    ·exfalso
     by_cases hki : k = i
     ·subst hki
      rw [ho] at h3; cases h3
      exact D.self k o t ho h4 hcls ht
     ·rcases D.look i k o o' t ho h3 (Ne.symm hki) h4 ht with hbf | ⟨_, hcc⟩
      ·exact h2 (hbfR k hbf)
      ·obtain ⟨o3, ho3, hc3, _⟩ := I.owed k h1 h2
       rw [h3] at ho3; cases ho3
       exact hcc.elim hcls hc3
    ·exact h
   rw [← vg_congr hcong] at hvg
   refine vg_wp ho I.post.rel I.post.env hvg ?_
   intro lv' L' h' μ2 lam2 v w2 hsame R2 hle hlle hrel
   obtain ⟨rfl, rfl, rfl⟩ := hsame
   have E2 := (I.post.env.mono hle hlle).put (d := o.dst) hrel
   have p1 : Post μ0 h0 w0 μ' lam' a' ws ⟨match o.dst with | some d => ρR.set d lv' | none => ρR, st.L, st.h⟩ (a'.put o.dst v) w2 μ2 lam2 :=
    ⟨R2, E2, hle, hlle, put_defers, put_size, fun t ht => put_keep fun hd => ht (hws i o t ho hd)⟩
   refine ih (n + 1) lA st _ _ _ _ μ2 lam2 hcnt hv {
    size := by simpa using I.size
    sub := by
     intro k hk
     rcases lr_set.1 hk with ⟨rfl, _⟩ | hk
     ·exact hiA
     ·exact I.sub k hk
    clA := I.clA
    clR := clR'
    owed := fun k hk hn => I.owed k hk fun h => hn (lr_set.2 (.inr h))
    len := by split <;> simp [I.len]
    view := by
     intro t
     by_cases ht : o.dst = some t
     ·refine .inr ?_
      rw [ht]
      have := hset t ht
      simp only
      rw [← this, List.getElem?_set, List.getElem?_set]
      simp [I.len]
     ·rcases I.view t with ⟨k, o', h1, h2, h3, h4⟩ | h
      ·refine .inl ⟨k, o', h1, fun hl => ?_, h3, h4⟩
       rcases lr_set.1 hl with ⟨rfl, _⟩ | hl
       ·rw [ho] at h3; cases h3; exact ht h4
       ·exact h2 hl
      ·refine .inr ?_
       rw [← h]
       split
       ·rename_i d hd
        rw [List.getElem?_set, if_neg]
        intro h; subst h; exact ht hd
       ·rfl
    post := I.post.trans p1 (fun _ h => h) (fun _ h => h) }
  ·
   have hiE : i ∈ readyE ops lA := by
    unfold readyE
    simp only [List.mem_filter, List.mem_range, Bool.and_eq_true, Bool.not_eq_true', List.contains_eq_mem, decide_eq_false_iff_not, ho, List.all_eq_true, decide_eq_true_eq]
    exact ⟨by rw [← I.size]; exact hisz, hiA, fun e he => I.sub e (hbR e he)⟩
   simp only [vany, hro] at hv
   have hvi : vg P isLoc (AC P) ops o st.ρ st.L st.h fun v L h => rechks P isLoc (AC P) ops (st.put o.dst v L h) (vany P isLoc (AC P) ops rows m n (i :: lA) (st.put o.dst v L h) K) (toCheck P ops rows m lA i) := by
    cases hE : readyE ops lA with
    | nil => rw [hE] at hiE; simp at hiE
    | cons j js =>
     rw [hE] at hv hiE
     have := vall_mem hv i hiE
     simp only [ho] at this
     exact vg_of this
   have hcong : ∀ t ∈ o.looksAt ops, ρR[t]? = st.ρ[t]? := by
    intro t ht
    rcases I.view t with ⟨k, o', h1, h2, h3, h4⟩ | h
    ·exfalso
     have hki : k ≠ i := by rintro rfl; exact hiA h1
     rcases D.look i k o o' t ho h3 (Ne.symm hki) h4 ht with hbf | ⟨hbf, _⟩
     ·exact h2 (hbfR k hbf)
     ·exact hiA (hbf.closed (S := (· ∈ lA)) I.clA fun o2 ho2 e he => I.clA k o2 ho2 h1 e he)
    ·exact h
   rw [← vg_congr hcong] at hvi
   refine vg_wp ho I.post.rel I.post.env hvi ?_
   intro lv L' h' μ2 lam2 v w2 hk R2 hle hlle hrel
   obtain ⟨hk, hre⟩ := rechks_elim hk
   have E2 := (I.post.env.mono hle hlle).put (d := o.dst) hrel
   have p1 : Post μ0 h0 w0 μ' lam' a' ws ⟨match o.dst with | some d => ρR.set d lv | none => ρR, L', h'⟩ (a'.put o.dst v) w2 μ2 lam2 :=
    ⟨R2, E2, hle, hlle, put_defers, put_size, fun t ht => put_keep fun hd => ht (hws i o t ho hd)⟩
   refine ih n (i :: lA) (st.put o.dst lv L' h') _ _ _ _ μ2 lam2 hcnt hk {
    size := by simpa using I.size
    sub := by
     intro k hk
     rcases lr_set.1 hk with ⟨rfl, _⟩ | hk
     ·simp
     ·exact List.mem_cons_of_mem _ (I.sub k hk)
    clA := by
     intro k o' ho' hk' e he
     rcases List.mem_cons.1 hk' with rfl | hk'
     ·rw [ho] at ho'; cases ho'
      exact List.mem_cons_of_mem _ (I.sub e (hbR e he))
     ·exact List.mem_cons_of_mem _ (I.clA k o' ho' hk' e he)
    clR := clR'
    owed := by
     intro k hk' hn
     have hki : k ≠ i := by rintro rfl; exact hn (lr_set.2 (.inl ⟨rfl, hisz⟩))
     have hkA : k ∈ lA := (List.mem_cons.1 hk').resolve_left hki
     have hkR : ¬ Lr lR k := fun h => hn (lr_set.2 (.inr h))
     have hO := I.owed k hkA hkR
     have hlook : ∀ d o', o.dst = some d → ops[k]? = some o' → d ∉ o'.looksAt ops := by
      intro d o' hd ho' hl
      rcases D.look k i o' o d ho' ho hki hd hl with hbf | ⟨hbf, _⟩
      ·exact hiA (hbf.closed (S := (· ∈ lA)) I.clA fun o2 ho2 e he => I.clA k o2 ho2 hkA e he)
      ·exact hkR (hbfR k hbf)
     have hO2 := hO.put D (lv := lv) ho (Ne.symm hki) hlook
     obtain ⟨o', ho', hc, lv2, hv2, hs2⟩ := hO2
     have hst : (st.put o.dst lv L' h').ρ = (st.put o.dst lv st.L st.h).ρ := rfl
     by_cases hc1 : cls P o' = 1
     ·obtain ⟨lv3, ⟨h1, _, _⟩, _, h3⟩ := vg_same hc hv2
      subst h1
      exact ⟨o', ho', hc, lv3, h3 hc1 _ _, hs2⟩
     ·by_cases hc2 : cls P o' = 2
      ·have hm : k ∈ toCheck P ops rows m lA i := by
        unfold toCheck
        rw [List.mem_filter]
        refine ⟨hkA, ?_⟩
        simp only [ho', hc2, beq_self_eq_true, Bool.true_and, Bool.not_eq_true']
        cases hbit : bfBit rows m i k with
        | false => rfl
        | true => exact absurd (hbfR k (hrows _ _ hbit)) hkR
       have := hre k hm
       unfold rechk1 at this
       simp only [ho'] at this
       obtain ⟨lv3, h1, h2, _⟩ := vg_same hc this
       refine ⟨o', ho', hc, lv3, h2, fun d hd => ?_⟩
       simp only [hd] at h1
       rw [h1]
       refine List.ext_getElem? fun t => ?_
       rw [List.getElem?_set]
       split
       ·rename_i hdt
        subst hdt
        split
        ·rename_i hlt
         simp [List.getD, hlt]
        ·rename_i hlt
         simp [List.getElem?_eq_none (Nat.le_of_not_lt hlt)]
       ·rfl
      ·exfalso
       have : cls P o' = 0 ∨ cls P o' = 1 ∨ cls P o' = 2 := by
        unfold cls
        repeat' split
        all_goals simp
       rcases this with h | h | h
       ·exact hc h
       ·exact hc1 h
       ·exact hc2 h
    len := by
     simp only [St.put]
     cases o.dst <;> simp [I.len]
    view := by
     intro t
     rcases I.view t with ⟨k, o', h1, h2, h3, h4⟩ | h
     ·refine .inl ⟨k, o', List.mem_cons_of_mem _ h1, fun hl => ?_, h3, h4⟩
      rcases lr_set.1 hl with ⟨rfl, _⟩ | hl
      ·exact hiA h1
      ·exact h2 hl
     ·refine .inr ?_
      simp only [St.put]
      split
      ·rename_i d hd
       simp only [hd]
       rw [List.getElem?_set, List.getElem?_set, h, I.len]
      ·rename_i hd
       simp only [hd]
       exact h
    post := I.post.trans p1 (fun _ h => h) (fun _ h => h) }
theorem vdraw_ok {isLoc : Nat → Bool} : DrawOK P (vdraw P isLoc (AC P)) := by
 intro μ0 h0 w0 id ops st K μ lam a w hk R E
 unfold vdraw at hk
 obtain ⟨rows, m, he, hrows⟩ := bfRows_ok (ops := ops) (k := fun rows m => need (okDraw P ops rows m) (vany P isLoc (AC P) ops rows m (ops.size + 1) [] st K)) ops.toList 0 [] rfl rfl (by
  intro i j h; simp [bfBit, rowAt] at h)
 rw [he] at hk
 obtain ⟨hd, hk⟩ := need_elim hk
 have D := okD_of hrows hd
 refine wp_region_any D.mixed ?_
 have Rd : Rel μ0 h0 w0 μ lam st.L st.h { w with drawn := w.drawn + 1 } := R.drawn rfl rfl rfl rfl
 refine draw_main (μ := μ) (lam := lam) (a := a) (ws := writes (.region id ops true)) D hrows (region_ws id true) (fun st' a' w' μ' lam' hK p => ⟨st', μ', lam', ⟨rfl, hK⟩, p⟩) ops.size (ops.size + 1) [] st _ st.ρ a _ μ lam ?_ hk ?_
 ·have : ∀ n, ((List.replicate n false).filter (fun b => !b)).length = n := by intro n; simp
  simp [cnt]
 ·have nl : ∀ i, ¬ Lr (Array.replicate ops.size false) i := by
   intro i h
   unfold Lr at h
   by_cases hlt : i < ops.size
   ·simp [hlt] at h
   ·simp [hlt] at h
  exact {
   size := by simp
   sub := fun i h => absurd h (nl i)
   clA := fun i o _ h => absurd h (by simp)
   clR := fun i o _ h => absurd h (nl i)
   owed := fun i h => absurd h (by simp)
   len := rfl
   view := fun t => .inr rfl
   post := Post.start Rd E _ }
end
end Go.Ab
namespace Go.Ab
def hintsOf (locs : List Nat) (loops : List (Nat × List Nat × List Nat)) : Hints where
 loc d := locs.contains d
 loops c := match loops.find? (fun x => x.1 == c) with | some (_, s, m) => ⟨s, m⟩ | none => ⟨[], []⟩
 plan _ := []
def notCount (P : Program) (f : FuncId) : Bool := match P.funcs[f]? with | some fn => !(fn.name == "runtime.NumGoroutine") && !(Nat.beq f 1000000000) | none => false
def VC (P : Program) (H : Hints) (f : FuncId) (args : List AV) (h : Heap) (Q : AV → Heap → Prop) : Prop := vfun P H (AC P) (vdraw P H.loc (AC P)) f args h Q
theorem AC_of_VC {P : Program} {H : Hints} {f : FuncId} {args : List AV} {h : Heap} {Q : AV → Heap → Prop} (hn : notCount P f = true) (hk : VC P H f args h Q) : AC P f args h Q := by
 unfold VC vfun at hk
 unfold notCount at hn
 cases hf : P.funcs[f]? with
 | none => simp only [hf] at hk
 | some fn =>
  simp only [hf] at hk hn
  cases hb : fn.body with
  | none => simp only [hb] at hk
  | some c =>
   simp only [hb] at hk
   have hn : (fn.name == "runtime.NumGoroutine") = false ∧ Nat.beq f 1000000000 = false := by simpa only [Bool.and_eq_true, Bool.not_eq_true'] using hn
   exact AC_of_code vdraw_ok hf hb hn.1 hn.2 hk
theorem AC_by {P : Program} {H : Hints} {f : FuncId} {args : List AV} {h : Heap} {Q : AV → Heap → Prop} {A : Prop} (hn : notCount P f = true) (e : A = VC P H f args h Q) (hk : A) : AC P f args h Q :=
 AC_of_VC hn (e ▸ hk)
end Go.Ab
namespace Go.Ab
set_option linter.unusedSimpArgs false
set_option linter.unusedVariables false
section
variable {A B : Prop}
theorem vif_var {b : Bool} : vif b A B ↔ (b = true → A) ∧ (b = false → B) := by cases b <;> simp [vif]
theorem vif_mk {b : Bool} (h1 : b = true → A) (h2 : b = false → B) : vif b A B := vif_var.2 ⟨h1, h2⟩
end
def Ext (h h' : Heap) : Prop := ∀ (b : Nat) (B : Blk), h[b]? = some B → h'[b]? = some B
theorem Ext.refl (h : Heap) : Ext h h := fun _ _ e => e
theorem Ext.trans {a b c : Heap} (h : Ext a b) (h' : Ext b c) : Ext a c := fun k B e => h' k B (h k B e)
theorem Ext.len {h h' : Heap} (e : Ext h h') : h.length ≤ h'.length := by
 rcases Nat.eq_zero_or_pos h.length with h0 | h0
 ·omega
 ·have hk : h.length - 1 < h.length := by omega
  have := e (h.length - 1) _ (List.getElem?_eq_getElem hk)
  have := lt_of_get this
  omega
theorem Ext.app (h t : Heap) : Ext h (h ++ t) := fun b B e => by
 rw [List.getElem?_append_left (lt_of_get e)]; exact e
theorem Ext.cells {h h' : Heap} (e : Ext h h') {p : PA} {n : Nat} {c : List AV} (hc : cellsAt h p n = some c) : cellsAt h' p n = some c := by
 unfold cellsAt at hc ⊢
 split at hc
 ·rename_i c' rw' hb
  rw [e _ _ hb]; exact hc
 ·cases hc
theorem cellsAt_elim {h : Heap} {p : PA} {n : Nat} {c : List AV} (hc : cellsAt h p n = some c) : ∃ C rw, h[p.b]? = some (.cells C rw) ∧ p.o + n ≤ C.length ∧ c = (C.drop p.o).take n := by
 unfold cellsAt at hc
 split at hc
 ·rename_i C rw' hb
  split at hc
  ·rename_i hl; cases hc; exact ⟨C, rw', hb, hl, rfl⟩
  ·cases hc
 ·cases hc
theorem cellsAt_mk {h : Heap} {p : PA} {n : Nat} {C : List AV} {rw' : Bool} (hb : h[p.b]? = some (.cells C rw')) (hl : p.o + n ≤ C.length) : cellsAt h p n = some ((C.drop p.o).take n) := by
 unfold cellsAt; rw [hb]; simp only [if_pos hl]
theorem cellsAt_sub {h : Heap} {p : PA} {n k m : Nat} {c : List AV} (hc : cellsAt h p n = some c) (hk : k + m ≤ n) : cellsAt h ⟨p.b, p.o + k⟩ m = some ((c.drop k).take m) := by
 obtain ⟨C, rw', hb, hl, rfl⟩ := cellsAt_elim hc
 rw [cellsAt_mk (p := ⟨p.b, p.o + k⟩) hb (by show p.o + k + m ≤ _; omega)]
 simp only [List.drop_take, List.take_take, List.drop_drop, Nat.min_eq_left (by omega : m ≤ n - k)]
structure Enc (α : Type) where
 sz : Nat
 f : α → List AV
 len : ∀ a, (f a).length = sz
 pos : 0 < sz
 one : ∀ a, oneAll (f a) = true
section
variable {α : Type} (E : Enc α)
def Enc.all (l : List α) : List AV := (l.map E.f).flatten
variable {E}
theorem Enc.all_length {l : List α} : (E.all l).length = l.length * E.sz := by
 induction l with
 | nil => simp [Enc.all]
 | cons x l ih => simp only [Enc.all, List.map_cons, List.flatten_cons, List.length_append, E.len, List.length_cons] at *; rw [ih]; rw [Nat.add_mul]; omega
theorem Enc.all_cons {x : α} {l : List α} : E.all (x :: l) = E.f x ++ E.all l := rfl
theorem Enc.all_append {l m : List α} : E.all (l ++ m) = E.all l ++ E.all m := by simp [Enc.all]
theorem Enc.all_drop {l : List α} : ∀ {k : Nat}, (E.all l).drop (k * E.sz) = E.all (l.drop k) := by
 induction l with
 | nil => intro k; simp [Enc.all]
 | cons x l ih =>
  intro k
  cases k with
  | zero => simp
  | succ k =>
   rw [Enc.all_cons, Nat.add_mul, Nat.one_mul, Nat.add_comm, ← List.drop_drop]
   rw [List.drop_left' (E.len x), ih, List.drop_succ_cons]
theorem Enc.all_at {l : List α} {k : Nat} {x : α} (h : l[k]? = some x) : ((E.all l).drop (k * E.sz)).take E.sz = E.f x := by
 rw [Enc.all_drop]
 have : l.drop k = x :: l.drop (k + 1) := by
  rw [List.drop_eq_getElem_cons (lt_of_get h)]
  congr 1
  rw [List.getElem?_eq_getElem (lt_of_get h)] at h
  exact Option.some.inj h
 rw [this, Enc.all_cons, List.take_left' (E.len x)]
def HasL (E : Enc α) (h : Heap) (q : Option SL) (l : List α) : Prop :=
 match q with
 | none => l = []
 | some s => s.len = l.length ∧ s.len ≤ s.cap ∧ (s.opn = 0 ∨ s.opn = E.sz) ∧ cellsAt h ⟨s.b, s.o⟩ (l.length * E.sz) = some (E.all l)
theorem HasL.len {h : Heap} {q : Option SL} {l : List α} (H : HasL E h q l) : slLen q = l.length := by
 cases q with
 | none => simp only [HasL] at H; subst H; rfl
 | some s => exact H.1
theorem HasL.mono {h h' : Heap} {q : Option SL} {l : List α} (H : HasL E h q l) (e : Ext h h') : HasL E h' q l := by
 cases q with
 | none => exact H
 | some s => exact ⟨H.1, H.2.1, H.2.2.1, e.cells H.2.2.2⟩
theorem HasL.idx {h : Heap} {q : Option SL} {l : List α} (H : HasL E h q l) {i : Int} {K : PA → Prop} (h0 : 0 ≤ i) (h1 : i < l.length)
  (hK : ∀ p x, l[i.toNat]? = some x → cellsAt h p E.sz = some (E.f x) → K p) : vIdx q i E.sz K := by
 cases q with
 | none => simp only [HasL] at H; subst H; simp at h1; omega
 | some s =>
  have hi : i.toNat < l.length := by omega
  refine ⟨h0, by rw [H.1]; exact h1, hK _ _ (List.getElem?_eq_getElem hi) ?_⟩
  have h2 : i.toNat * E.sz + E.sz ≤ l.length * E.sz := by
   have : (i.toNat + 1) * E.sz ≤ l.length * E.sz := Nat.mul_le_mul_right _ hi
   rw [Nat.add_mul, Nat.one_mul] at this; exact this
  rw [cellsAt_sub H.2.2.2 h2, Enc.all_at (List.getElem?_eq_getElem hi)]
theorem HasL.cells {h : Heap} {q : Option SL} {l : List α} (H : HasL E h q l) : slCells h q (slLen q * E.sz) = some (E.all l) := by
 cases q with
 | none => simp only [HasL] at H; subst H; simp [slCells, slLen, Enc.all]
 | some s => simp only [slCells, slLen, H.1]; exact H.2.2.2
theorem HasL.new {h : Heap} {l : List α} {n : Nat} (hn : n = l.length) {c : List AV} (hc : c = E.all l) : HasL E (h ++ [.cells c true]) (some ⟨h.length, 0, n, n, 0⟩) l := by
 subst hn hc
 refine ⟨rfl, Nat.le_refl _, .inl rfl, ?_⟩
 rw [cellsAt_mk (C := E.all l) (rw' := true) (by simp) (by simp [Enc.all_length])]
 simp [← Enc.all_length]
end
end Go.Ab
namespace Go.Ab
theorem wrapK_i64 {n : Int} (h : -9223372036854775808 ≤ n ∧ n ≤ 9223372036854775807) : wrapK .i64 n = n := by
 have e1 : (2 : Int) ^ 64 = 18446744073709551616 := by decide
 have e2 : (2 : Int) ^ 63 = 9223372036854775808 := by decide
 simp only [wrapK, IntKind.wrap, IntKind.bits, IntKind.signed, Bool.true_and, e1, e2]
 by_cases hn : n % 18446744073709551616 ≥ 9223372036854775808
 ·rw [if_pos (by simpa using hn)]; omega
 ·rw [if_neg (by simpa using hn)]; omega
theorem wrapK_u64 {n : Int} (h : 0 ≤ n ∧ n ≤ 18446744073709551615) : wrapK .u64 n = n := by
 simp only [wrapK, IntKind.wrap, IntKind.bits, IntKind.signed, Bool.false_and]
 simp only [Bool.false_eq_true, if_false]
 omega
end Go.Ab

namespace Go.Ab
open Go.ChangeShapes Go.WideShapes Go.ChangeAt Go.RowKit
set_option linter.unusedSimpArgs false
set_option linter.unusedVariables false
section
variable {H : Type} {enc : TypeId × Value → H} {P : Program}
theorem trodAll_below (hl : laidOutB P = true) {W W' : World} (hb : Below W.heap.size W W') {sp : Nat → Bool} : ∀ {ts : List TypeId} {vs : List Value} {ds : List (DataW H)} {ps : List MemPlace},
  (∀ t ∈ ts, P.readableRec t = true ∧ t < P.types.size) → DataW.TrodAll enc P W 0 (fun _ => true) true ts vs ds ps → (∀ x ∈ ps, x.block < W.heap.size) → (∀ x ∈ ps, sp x.block = true) → DataW.TrodAll enc P W' 0 sp true ts vs ds ps
 | [], vs, ds, ps, ht, h, h1, h2 => by
  obtain ⟨rfl, rfl, rfl⟩ := trodAll_nil h
  exact h
 | t :: ts, vs, ds, ps, ht, h, h1, h2 => by
  obtain ⟨v, vs1, d, ds1, a, b, rfl, rfl, rfl, h3, h4⟩ := trodAll_cons h
  exact ⟨a, b, WideElems.Trod_stays hl (ht t (by simp)).1 (ht t (by simp)).2 h3 (fun x hx => hb.same (h1 x (by simp [hx]))) (fun x hx => h2 x (by simp [hx])),
   trodAll_below hl hb (fun t' ht' => ht t' (by simp [ht'])) h4 (fun x hx => h1 x (by simp [hx])) (fun x hx => h2 x (by simp [hx])), rfl⟩
def readables (P : Program) (ts : List TypeId) : Bool := laidOutB P && ts.all fun t => P.readableRec t && decide (t < P.types.size)
theorem post_yes {f : Func} {s : ChangeSpec} {apart fresh handsOn again : Bool} {W W' : World} {args : Array Value} {ds gs : List (DataW H)} {before : List MemPlace} {t : TypeId}
  (hW : DataW.Whole enc P f.params.toList s.vars apart W args.toList ds gs before) (hv : s.vars = []) (hfn : s.fn H (ds ++ gs) = { results := [.lit (.bool true)], args := ds }) (hr : f.resultTypes = #[t]) (ht : P.underlying t = some .bool)
  (hrd : readables P f.params.toList = true) (hb : Below W.heap.size W W') : s.post enc P f apart fresh handsOn again W args (.bool true) W' := by
 have hW' := hW
 obtain ⟨p, q, hA, hV, rfl, hz, hn⟩ := hW
 rw [hv] at hV
 obtain ⟨rfl, rfl⟩ := trodVars_none hV
 simp only [readables, Bool.and_eq_true, List.all_eq_true, decide_eq_true_eq] at hrd
 have hlt : ∀ x ∈ p, x.block < W.heap.size := fun x hx => hW'.lt x (by simp [hx])
 have hargs : ∀ sp : Nat → Bool, (∀ x ∈ p ++ [], sp x.block = true) → DataW.TrodAll enc P W' 0 sp true f.params.toList args.toList (s.fn H (ds ++ [])).args p := by
  intro sp hsp
  rw [hfn]
  exact trodAll_below hrd.1 hb hrd.2 hA hlt fun x hx => hsp x (by simp [hx])
 have hres : ∀ (b : Nat) (sp : Nat → Bool) (hd : Bool), DataW.TrodAll enc P W' b sp hd f.resultTypes.toList ((Value.bool true).resultList f.resultTypes.size) (s.fn H (ds ++ [])).results [] := by
  intro b sp hd
  rw [hfn, hr]
  exact trodAll_cons_mk (shut_bool ht _) trodAll_mk0
 have hvars : ∀ sp : Nat → Bool, DataW.TrodVars enc P W' sp s.vars (s.fn H (ds ++ [])).vars [] := by
  intro sp
  rw [hfn, hv]
  rfl
 have hold : ∀ x ∈ p ++ [], (fun b => decide (b < W.heap.size)) x.block = true := fun x hx => by simpa using hlt x (by simpa using hx)
 refine ⟨ds, [], p ++ [], [], p, [], hW', hres _ _ _, hargs _ hold, hvars _, hb.frame _, fun _ => ?_⟩
 refine ⟨?_, _, _, ([] ++ p) ++ [], ⟨[] ++ p, [], trodAll_append (hargs _ (fun _ _ => rfl)) (hres _ _ _), hvars _, rfl, ?_, ?_⟩, ?_⟩
 ·intro j t' r h1 h2
  rw [hr] at h1 h2
  match j, h1, h2 with
  | 0, h1, h2 =>
   simp [Value.resultList] at h1 h2
   subst h1; subst h2
   exact okWide_bool_mk ht _
 ·intro b off hp
  have : (MemPlace.cell b off) ∈ p := by simpa using hp
  rw [hb.frozen (hlt _ this)]
  exact hz b off (by simpa using this)
 ·intro ha
  have := hn ha
  simpa using this
 ·intro x hx _
  simpa using hx
theorem calls_of_AC {f : FuncId} {xs : List AV} {h : Heap} {μ : Ren} {W : World} {args : Array Value} (H : AC P f xs h fun v _ => v = .bool true) (hh : HRel μ h W) (hx : relL μ xs args.toList)
  (hro : ∀ (b : Nat) (B : Blk), h[b]? = some B → B.rw = false) : Calls P f args W fun e W' => e = .returned (.bool true) ∧ Below W.heap.size W W' := by
 have := H.2 μ W args.toList hh hx
 simp only [Array.toArray_toList] at this
 refine this.mono fun e W' ⟨v, x, h', μ', he, hq, ev, _, hr⟩ => ?_
 subst hq
 obtain rfl : v = .bool true := hr
 refine ⟨he, ev.os, ev.tape, ev.output, ev.size, fun k hk => ev.frame k hk fun b B e' hb hrw _ => ?_⟩
 rw [hro b B hb] at hrw
 cases hrw
end
end Go.Ab
namespace Go.Ab
set_option linter.unusedSimpArgs false
set_option linter.unusedVariables false
structure Q16 (α : Type) where
 x0 : α
 x1 : α
 x2 : α
 x3 : α
 x4 : α
 x5 : α
 x6 : α
 x7 : α
 x8 : α
 x9 : α
 x10 : α
 x11 : α
 x12 : α
 x13 : α
 x14 : α
 x15 : α
section
variable {α : Type}
def Q16.get (e : Q16 α) (d : Nat) : α := match d with
 | 0 => e.x0
 | 1 => e.x1
 | 2 => e.x2
 | 3 => e.x3
 | 4 => e.x4
 | 5 => e.x5
 | 6 => e.x6
 | 7 => e.x7
 | 8 => e.x8
 | 9 => e.x9
 | 10 => e.x10
 | 11 => e.x11
 | 12 => e.x12
 | 13 => e.x13
 | 14 => e.x14
 | _ => e.x15
def Q16.set (e : Q16 α) (d : Nat) (y : α) : Q16 α := match d with
 | 0 => ⟨y, e.x1, e.x2, e.x3, e.x4, e.x5, e.x6, e.x7, e.x8, e.x9, e.x10, e.x11, e.x12, e.x13, e.x14, e.x15⟩
 | 1 => ⟨e.x0, y, e.x2, e.x3, e.x4, e.x5, e.x6, e.x7, e.x8, e.x9, e.x10, e.x11, e.x12, e.x13, e.x14, e.x15⟩
 | 2 => ⟨e.x0, e.x1, y, e.x3, e.x4, e.x5, e.x6, e.x7, e.x8, e.x9, e.x10, e.x11, e.x12, e.x13, e.x14, e.x15⟩
 | 3 => ⟨e.x0, e.x1, e.x2, y, e.x4, e.x5, e.x6, e.x7, e.x8, e.x9, e.x10, e.x11, e.x12, e.x13, e.x14, e.x15⟩
 | 4 => ⟨e.x0, e.x1, e.x2, e.x3, y, e.x5, e.x6, e.x7, e.x8, e.x9, e.x10, e.x11, e.x12, e.x13, e.x14, e.x15⟩
 | 5 => ⟨e.x0, e.x1, e.x2, e.x3, e.x4, y, e.x6, e.x7, e.x8, e.x9, e.x10, e.x11, e.x12, e.x13, e.x14, e.x15⟩
 | 6 => ⟨e.x0, e.x1, e.x2, e.x3, e.x4, e.x5, y, e.x7, e.x8, e.x9, e.x10, e.x11, e.x12, e.x13, e.x14, e.x15⟩
 | 7 => ⟨e.x0, e.x1, e.x2, e.x3, e.x4, e.x5, e.x6, y, e.x8, e.x9, e.x10, e.x11, e.x12, e.x13, e.x14, e.x15⟩
 | 8 => ⟨e.x0, e.x1, e.x2, e.x3, e.x4, e.x5, e.x6, e.x7, y, e.x9, e.x10, e.x11, e.x12, e.x13, e.x14, e.x15⟩
 | 9 => ⟨e.x0, e.x1, e.x2, e.x3, e.x4, e.x5, e.x6, e.x7, e.x8, y, e.x10, e.x11, e.x12, e.x13, e.x14, e.x15⟩
 | 10 => ⟨e.x0, e.x1, e.x2, e.x3, e.x4, e.x5, e.x6, e.x7, e.x8, e.x9, y, e.x11, e.x12, e.x13, e.x14, e.x15⟩
 | 11 => ⟨e.x0, e.x1, e.x2, e.x3, e.x4, e.x5, e.x6, e.x7, e.x8, e.x9, e.x10, y, e.x12, e.x13, e.x14, e.x15⟩
 | 12 => ⟨e.x0, e.x1, e.x2, e.x3, e.x4, e.x5, e.x6, e.x7, e.x8, e.x9, e.x10, e.x11, y, e.x13, e.x14, e.x15⟩
 | 13 => ⟨e.x0, e.x1, e.x2, e.x3, e.x4, e.x5, e.x6, e.x7, e.x8, e.x9, e.x10, e.x11, e.x12, y, e.x14, e.x15⟩
 | 14 => ⟨e.x0, e.x1, e.x2, e.x3, e.x4, e.x5, e.x6, e.x7, e.x8, e.x9, e.x10, e.x11, e.x12, e.x13, y, e.x15⟩
 | _ => ⟨e.x0, e.x1, e.x2, e.x3, e.x4, e.x5, e.x6, e.x7, e.x8, e.x9, e.x10, e.x11, e.x12, e.x13, e.x14, y⟩
theorem lt16 {d : Nat} (h : d < 16) : d = 0 ∨ d = 1 ∨ d = 2 ∨ d = 3 ∨ d = 4 ∨ d = 5 ∨ d = 6 ∨ d = 7 ∨ d = 8 ∨ d = 9 ∨ d = 10 ∨ d = 11 ∨ d = 12 ∨ d = 13 ∨ d = 14 ∨ d = 15 := by omega
theorem Q16.get_set {e : Q16 α} {d d' : Nat} {y : α} (h : d < 16) (h' : d' < 16) : (e.set d y).get d' = if d' = d then y else e.get d' := by
 rcases lt16 h with rfl | rfl | rfl | rfl | rfl | rfl | rfl | rfl | rfl | rfl | rfl | rfl | rfl | rfl | rfl | rfl <;> rcases lt16 h' with rfl | rfl | rfl | rfl | rfl | rfl | rfl | rfl | rfl | rfl | rfl | rfl | rfl | rfl | rfl | rfl <;> rfl
def Q16.all (y : α) : Q16 α := ⟨y, y, y, y, y, y, y, y, y, y, y, y, y, y, y, y⟩
theorem Q16.all_get {y : α} {d : Nat} : (Q16.all y).get d = y := by
 unfold Q16.get
 split <;> rfl
inductive T (α : Type) where
 | e
 | s (t : Q16 (Q16 (Option α)))
 | b (t : Q16 (Q16 (Q16 (Q16 (Q16 (Option α))))))
abbrev D1 (i : Nat) : Nat := Nat.mod i 16
abbrev D2 (i : Nat) : Nat := Nat.mod (Nat.div i 16) 16
abbrev D3 (i : Nat) : Nat := Nat.mod (Nat.div i 256) 16
abbrev D4 (i : Nat) : Nat := Nat.mod (Nat.div i 4096) 16
abbrev D5 (i : Nat) : Nat := Nat.mod (Nat.div i 65536) 16
theorem D_lt (i : Nat) : D1 i < 16 ∧ D2 i < 16 ∧ D3 i < 16 ∧ D4 i < 16 ∧ D5 i < 16 := ⟨Nat.mod_lt _ (by omega), Nat.mod_lt _ (by omega), Nat.mod_lt _ (by omega), Nat.mod_lt _ (by omega), Nat.mod_lt _ (by omega)⟩
theorem D_inj {i j : Nat} (hi : i < 1048576) (hj : j < 1048576) (h1 : D1 i = D1 j) (h2 : D2 i = D2 j) (h3 : D3 i = D3 j) (h4 : D4 i = D4 j) (h5 : D5 i = D5 j) : i = j := by
 change i % 16 = j % 16 at h1
 change i / 16 % 16 = j / 16 % 16 at h2
 change i / 256 % 16 = j / 256 % 16 at h3
 change i / 4096 % 16 = j / 4096 % 16 at h4
 change i / 65536 % 16 = j / 65536 % 16 at h5
 omega
theorem D_inj2 {i j : Nat} (hi : i < 256) (hj : j < 256) (h1 : D1 i = D1 j) (h2 : D2 i = D2 j) : i = j := by
 change i % 16 = j % 16 at h1
 change i / 16 % 16 = j / 16 % 16 at h2
 omega
namespace T
def get : T α → Nat → Option α
 | .e, _ => none
 | .s t, i => match Nat.blt i 256 with | true => (t.get (D2 i)).get (D1 i) | false => none
 | .b t, i => match Nat.blt i 1048576 with | true => ((((t.get (D5 i)).get (D4 i)).get (D3 i)).get (D2 i)).get (D1 i) | false => none
def upd : T α → Nat → α → T α
 | .e, _, _ => .e
 | .s t, i, x => .s (t.set (D2 i) ((t.get (D2 i)).set (D1 i) (some x)))
 | .b t, i, x => .b (t.set (D5 i) ((t.get (D5 i)).set (D4 i) (((t.get (D5 i)).get (D4 i)).set (D3 i) ((((t.get (D5 i)).get (D4 i)).get (D3 i)).set (D2 i) (((((t.get (D5 i)).get (D4 i)).get (D3 i)).get (D2 i)).set (D1 i) (some x))))))
def room : T α → Nat
 | .e => 0
 | .s _ => 256
 | .b _ => 1048576
def put (t : T α) (i : Nat) (x : α) (k : T α → Bool) : Bool := match t.get i with
 | some _ => k (t.upd i x)
 | none => false
def empty : T α := .b (Q16.all (Q16.all (Q16.all (Q16.all (Q16.all none)))))
def add (t : T α) (i : Nat) (x : α) (k : T α → Bool) : Bool := match t with
 | .e => (match i with | 0 => k (empty.upd 0 x) | _ + 1 => false)
 | t => (match Nat.blt i t.room with | true => k (t.upd i x) | false => false)
theorem blt_t {a n : Nat} (h : Nat.blt a n = true) : a < n := Nat.le_of_ble_eq_true h
theorem blt_of {a n : Nat} (h : a < n) : Nat.blt a n = true := Nat.ble_eq_true_of_le h
theorem get_upd {t : T α} {i j : Nat} {x : α} (h : i < t.room) : (t.upd i x).get j = if j = i then some x else t.get j := by
 obtain ⟨a1, a2, a3, a4, a5⟩ := D_lt i
 obtain ⟨b1, b2, b3, b4, b5⟩ := D_lt j
 cases t with
 | e => simp [room] at h
 | s t =>
  replace h : i < 256 := h
  show (match Nat.blt j 256 with | true => ((t.set (D2 i) ((t.get (D2 i)).set (D1 i) (some x))).get (D2 j)).get (D1 j) | false => none) = if j = i then some x else (match Nat.blt j 256 with | true => (t.get (D2 j)).get (D1 j) | false => none)
  cases hj : Nat.blt j 256 with
  | false =>
   have : ¬ j < 256 := fun hc => by rw [blt_of hc] at hj; cases hj
   rw [if_neg (by omega)]
  | true =>
   have hj' := blt_t hj
   simp only
   rw [Q16.get_set a2 b2]
   by_cases h2 : D2 j = D2 i
   ·rw [if_pos h2, Q16.get_set a1 b1]
    by_cases h1 : D1 j = D1 i
    ·rw [if_pos h1, if_pos (D_inj2 hj' h h1 h2)]
    ·rw [if_neg h1, if_neg (fun hc => h1 (by rw [hc])), h2]
   ·rw [if_neg h2, if_neg (fun hc => h2 (by rw [hc]))]
 | b t =>
  replace h : i < 1048576 := h
  show (match Nat.blt j 1048576 with | true => (((((t.set (D5 i) ((t.get (D5 i)).set (D4 i) (((t.get (D5 i)).get (D4 i)).set (D3 i) ((((t.get (D5 i)).get (D4 i)).get (D3 i)).set (D2 i) (((((t.get (D5 i)).get (D4 i)).get (D3 i)).get (D2 i)).set (D1 i) (some x)))))).get (D5 j)).get (D4 j)).get (D3 j)).get (D2 j)).get (D1 j) | false => none) = if j = i then some x else (match Nat.blt j 1048576 with | true => ((((t.get (D5 j)).get (D4 j)).get (D3 j)).get (D2 j)).get (D1 j) | false => none)
  cases hj : Nat.blt j 1048576 with
  | false =>
   have : ¬ j < 1048576 := fun hc => by rw [blt_of hc] at hj; cases hj
   rw [if_neg (by omega)]
  | true =>
   have hj' := blt_t hj
   simp only
   rw [Q16.get_set a5 b5]
   by_cases h5 : D5 j = D5 i
   ·rw [if_pos h5, Q16.get_set a4 b4]
    by_cases h4 : D4 j = D4 i
    ·rw [if_pos h4, Q16.get_set a3 b3]
     by_cases h3 : D3 j = D3 i
     ·rw [if_pos h3, Q16.get_set a2 b2]
      by_cases h2 : D2 j = D2 i
      ·rw [if_pos h2, Q16.get_set a1 b1]
       by_cases h1 : D1 j = D1 i
       ·rw [if_pos h1, if_pos (D_inj hj' h h1 h2 h3 h4 h5)]
       ·rw [if_neg h1, if_neg (fun hc => h1 (by rw [hc])), h5, h4, h3, h2]
      ·rw [if_neg h2, if_neg (fun hc => h2 (by rw [hc])), h5, h4, h3]
     ·rw [if_neg h3, if_neg (fun hc => h3 (by rw [hc])), h5, h4]
    ·rw [if_neg h4, if_neg (fun hc => h4 (by rw [hc])), h5]
   ·rw [if_neg h5, if_neg (fun hc => h5 (by rw [hc]))]
theorem get_room {t : T α} {i : Nat} (h : (t.get i).isSome = true) : i < t.room := by
 cases t with
 | e => simp [get] at h
 | s t =>
  simp only [get] at h
  cases hj : Nat.blt i 256 with
  | true => exact blt_t hj
  | false => rw [hj] at h; simp at h
 | b t =>
  simp only [get] at h
  cases hj : Nat.blt i 1048576 with
  | true => exact blt_t hj
  | false => rw [hj] at h; simp at h
theorem empty_get {i : Nat} : (empty : T α).get i = none := by
 show (match Nat.blt i 1048576 with | true => (((((Q16.all (Q16.all (Q16.all (Q16.all (Q16.all (none : Option α)))))).get (D5 i)).get (D4 i)).get (D3 i)).get (D2 i)).get (D1 i) | false => none) = none
 cases Nat.blt i 1048576 with
 | false => rfl
 | true => simp only [Q16.all_get]
theorem put_ok {t : T α} {i : Nat} {x : α} {k : T α → Bool} (h : t.put i x k = true) : ∃ t', k t' = true ∧ (t.get i).isSome = true ∧ ∀ j, t'.get j = if j = i then some x else t.get j := by
 unfold put at h
 cases hg : t.get i with
 | none => rw [hg] at h; cases h
 | some v =>
  rw [hg] at h
  exact ⟨_, h, rfl, fun j => get_upd (get_room (by rw [hg]; rfl))⟩
theorem add_ok {t : T α} {i : Nat} {x : α} {k : T α → Bool} (h : t.add i x k = true) : ∃ t', k t' = true ∧ ∀ j, t'.get j = if j = i then some x else t.get j := by
 cases t with
 | e =>
  cases i with
  | succ i => simp [add] at h
  | zero =>
   refine ⟨_, h, fun j => ?_⟩
   rw [get_upd (by show 0 < 1048576; omega), empty_get]
   rfl
 | s t =>
  simp only [add] at h
  cases hb : Nat.blt i (T.room (.s t)) with
  | false => rw [hb] at h; cases h
  | true => rw [hb] at h; exact ⟨_, h, fun j => get_upd (blt_t hb)⟩
 | b t =>
  simp only [add] at h
  cases hb : Nat.blt i (T.room (.b t)) with
  | false => rw [hb] at h; cases h
  | true => rw [hb] at h; exact ⟨_, h, fun j => get_upd (blt_t hb)⟩
def For (t : T α) (l : List α) : Prop := ∀ i, t.get i = l[i]?
theorem For.put {t : T α} {l : List α} (H : t.For l) {i : Nat} {x : α} {k : T α → Bool} (h : t.put i x k = true) : ∃ t', k t' = true ∧ t'.For (l.set i x) := by
 obtain ⟨t', h1, h2, h3⟩ := put_ok h
 refine ⟨t', h1, fun j => ?_⟩
 rw [h3, List.getElem?_set]
 rw [H] at h2
 have hl : i < l.length := by
  rcases Nat.lt_or_ge i l.length with h' | h'
  ·exact h'
  ·simp [List.getElem?_eq_none h'] at h2
 by_cases hj : j = i
 ·subst hj; simp [hl]
 ·rw [if_neg hj, if_neg (Ne.symm hj), H]
theorem For.add {t : T α} {l : List α} (H : t.For l) {x : α} {k : T α → Bool} (h : t.add l.length x k = true) : ∃ t', k t' = true ∧ t'.For (l ++ [x]) := by
 obtain ⟨t', h1, h3⟩ := add_ok h
 refine ⟨t', h1, fun j => ?_⟩
 rw [h3, List.getElem?_append]
 by_cases hj : j = l.length
 ·subst hj; simp
 ·rw [if_neg hj, H]
  split
  ·rfl
  ·rename_i hge
   rw [List.getElem?_eq_none (by omega), List.getElem?_eq_none (by simp; omega)]
end T
end
def fN (n : Nat) (k : Nat → Bool) : Bool := match n with | 0 => k 0 | m + 1 => k (Nat.succ m)
theorem fN_eq (n : Nat) (k : Nat → Bool) : fN n k = k n := by cases n <;> rfl
def fI (n : Int) (k : Int → Bool) : Bool := match n with | .ofNat m => fN m fun m => k (.ofNat m) | .negSucc m => fN m fun m => k (.negSucc m)
theorem fI_eq (n : Int) (k : Int → Bool) : fI n k = k n := by cases n <;> simp only [fI, fN_eq]
def tk {α : Type} : List α → Nat → Nat → (List α → Bool) → Bool
 | [], o, n, k => match o with | 0 => (match n with | 0 => k [] | _ + 1 => false) | _ + 1 => false
 | x :: c, o, n, k => match o with
  | o + 1 => tk c o n k
  | 0 => match n with | 0 => k [] | n + 1 => tk c 0 n fun l => k (x :: l)
theorem tk_ok {α : Type} : ∀ {c : List α} {o n : Nat} {k : List α → Bool}, tk c o n k = true → o + n ≤ c.length ∧ k ((c.drop o).take n) = true
 | [], 0, 0, k, h => ⟨by simp, h⟩
 | [], 0, n + 1, k, h => by simp [tk] at h
 | [], o + 1, n, k, h => by simp [tk] at h
 | x :: c, o + 1, n, k, h => by
  obtain ⟨h1, h2⟩ := tk_ok (c := c) (o := o) (n := n) (k := k) h
  exact ⟨by simp; omega, by simpa using h2⟩
 | x :: c, 0, 0, k, h => ⟨by simp, h⟩
 | x :: c, 0, n + 1, k, h => by
  obtain ⟨h1, h2⟩ := tk_ok (c := c) (o := 0) (n := n) (k := fun l => k (x :: l)) h
  exact ⟨by simp; omega, by simpa using h2⟩
def at1 {α : Type} : List α → Nat → (α → Bool) → Bool
 | [], _, _ => false
 | x :: c, o, k => match o with | 0 => k x | o + 1 => at1 c o k
theorem at1_ok {α : Type} : ∀ {c : List α} {o : Nat} {k : α → Bool}, at1 c o k = true → ∃ x, c[o]? = some x ∧ k x = true
 | [], o, k, h => by simp [at1] at h
 | x :: c, 0, k, h => ⟨x, rfl, h⟩
 | x :: c, o + 1, k, h => at1_ok (c := c) h
def spl {α : Type} : List α → Nat → List α → (List α → Bool) → Bool
 | [], o, xs, k => match o, xs with | 0, [] => k [] | _, _ => false
 | x :: c, o, xs, k => match o with
  | o + 1 => spl c o xs fun l => k (x :: l)
  | 0 => match xs with | [] => k (x :: c) | y :: ys => spl c 0 ys fun l => k (y :: l)
theorem spl_ok {α : Type} : ∀ {c : List α} {o : Nat} {xs : List α} {k : List α → Bool}, spl c o xs k = true → o + xs.length ≤ c.length ∧ k (splice c o xs) = true
 | [], 0, [], k, h => ⟨by simp, h⟩
 | [], 0, y :: ys, k, h => by simp [spl] at h
 | [], o + 1, [], k, h => by simp [spl] at h
 | [], o + 1, y :: ys, k, h => by simp [spl] at h
 | x :: c, o + 1, xs, k, h => by
  obtain ⟨h1, h2⟩ := spl_ok (c := c) (o := o) (xs := xs) (k := fun l => k (x :: l)) h
  refine ⟨by simp; omega, ?_⟩
  have : splice (x :: c) (o + 1) xs = x :: splice c o xs := by simp [splice, Nat.add_right_comm]
  rw [this]; exact h2
 | x :: c, 0, [], k, h => ⟨by simp, by rw [splice_nil]; exact h⟩
 | x :: c, 0, y :: ys, k, h => by
  obtain ⟨h1, h2⟩ := spl_ok (c := c) (o := 0) (xs := ys) (k := fun l => k (y :: l)) h
  refine ⟨by simp at *; omega, ?_⟩
  have : splice (x :: c) 0 (y :: ys) = y :: splice c 0 ys := by simp [splice]
  rw [this]; exact h2
def ap {α : Type} : List α → List α → (List α → Bool) → Bool
 | [], l, k => k l
 | x :: c, l, k => ap c l fun r => k (x :: r)
theorem ap_eq {α : Type} : ∀ (c l : List α) (k : List α → Bool), ap c l k = k (c ++ l)
 | [], l, k => rfl
 | x :: c, l, k => by simp only [ap, ap_eq c l]; rfl
def fL {α : Type} : List α → (List α → Bool) → Bool
 | [], k => k []
 | x :: c, k => fL c fun l => k (x :: l)
theorem fL_eq {α : Type} : ∀ (c : List α) (k : List α → Bool), fL c k = k c
 | [], k => rfl
 | x :: c, k => by simp only [fL, fL_eq c]
end Go.Ab
