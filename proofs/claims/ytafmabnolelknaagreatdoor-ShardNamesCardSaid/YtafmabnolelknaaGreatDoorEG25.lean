import Derived.Test.YtafmabnolelknaaGreatDoorEG24
import Derived.RangeFuncSeq
namespace Go.Ab
set_option linter.unusedSimpArgs false
set_option linter.unusedVariables false
abbrev YH := List AV → Heap → (Heap → Prop) → Prop
def callY (P : Program) (b : Nat) (Y : YH) : CallH := fun g args h Q =>
 AC P g args h Q ∨ (g = 1000000000 ∧ ∃ rest, args = .func (.yield b) [] [] :: rest ∧ Y rest h fun h' => Q (.bool true) h')
section
variable {P : Program} {b : Nat} {Y : YH}
theorem callY_ne {g : FuncId} {args : List AV} {h : Heap} {Q : AV → Heap → Prop} (hg : Nat.beq g 1000000000 = false) (hk : callY P b Y g args h Q) : AC P g args h Q := by
 rcases hk with hk | ⟨rfl, _⟩
 ·exact hk
 ·simp at hg
theorem guard_to {g : FuncId} {args : List AV} {h : Heap} {Q : AV → Heap → Prop} (hk : match Nat.beq g 1000000000 with | true => False | false => callY P b Y g args h Q) : match Nat.beq g 1000000000 with | true => False | false => AC P g args h Q := by
 split at hk
 ·exact hk.elim
 ·rename_i hg
  exact callY_ne hg hk
theorem PLoad_mono {z : AV} {h : Heap} {p : PA} {A B : AV → Prop} (hm : ∀ v, A v → B v) (hk : PLoad z h p A) : PLoad z h p B := by
 exact exV_mono (fun l hl => ⟨hl.1, hm _ hl.2⟩) hk
theorem vInvoke_to {r : AV} {name : String} {args : List AV} {h : Heap} {Q : AV → Heap → Prop} (hk : vInvoke P (callY P b Y) r name args h Q) : vInvoke P (AC P) r name args h Q := by
 unfold vInvoke at hk ⊢
 split at hk
 ·split at hk
  ·exact guard_to hk
  ·split at hk
   ·split at hk
    ·split at hk
     ·exact PLoad_mono (fun v hv => guard_to hv) hk
     ·exact hk
    ·exact hk
   ·exact hk
 ·exact hk
theorem vCallF_to {f : AV} {args : List AV} {h : Heap} {Q : AV → Heap → Prop} (hk : vCallF P (callY P b Y) f args h Q) : vCallF P (AC P) f args h Q ∨ (f = .func (.yield b) [] [] ∧ Y args h fun h' => Q (.bool true) h') := by
 unfold vCallF at hk ⊢
 split at hk
 ·exact .inl (vInvoke_to hk)
 ·unfold vCallV at hk ⊢
  split at hk
  ·exact .inl (guard_to hk)
  ·rcases hk with hk | ⟨_, rest, he, hy⟩
   ·exact .inl hk
   ·simp only [List.cons.injEq, AV.func.injEq, Fn.yield.injEq] at he
    obtain ⟨⟨rfl, rfl, rfl⟩, rfl⟩ := he
    exact .inr ⟨rfl, hy⟩
  ·exact hk.elim
theorem vop_call {isLoc : Nat → Bool} {c1 c2 : CallH} {o : Oper} {ρ : List LV} {L : Locs} {h : Heap} {K : KO} (hc : ∀ c, o.op ≠ .call c) (hk : vop P isLoc c1 o ρ L h K) : vop P isLoc c2 o ρ L h K := by
 unfold vop at hk ⊢
 cases ho : o.op <;> rw [ho] at hk <;> first | exact hk | exact absurd ho (hc _)
def YieldOK (P : Program) (n b : Nat) (Y : YH) (μ0 : Ren) (h0 : Heap) (w0 : World) : Prop :=
 ∃ e0 : ME, μ0[b]? = some e0 ∧ ∀ (μ : Ren) (h : Heap) (w : World) (xs : List AV) (vs : List Value) (R : Heap → Prop), Evo μ0 h0 w0 μ h w → HRel μ h w → relL μ xs vs → Y xs h R →
  YieldAt Fence.wide n P e0.r vs.toArray w fun en w' => ∃ μ' h', en = .returned (.bool true) ∧ R h' ∧ Evo μ h w μ' h' w' ∧ HRel μ' h' w'
theorem inOK_Y {n : Nat} {μ0 : Ren} {h0 : Heap} {w0 : World} (hY : YieldOK P (n - 1) b Y μ0 h0 w0) : InOK P Fence.wide n (callY P b Y) μ0 h0 w0 := ⟨fun _ => trivial, by
 intro isLoc o ρ L h K μ lam a w next Q R E hk hn
 have plain : vop P isLoc (AC P) o ρ L h K → o.wpIn Fence.wide n P a w next Q := fun hk => inOK_wide.op R E hk hn
 by_cases hcall : ∃ c, o.op = .call c
 ·obtain ⟨c, ho⟩ := hcall
  unfold vop at hk
  rw [ho] at hk
  simp only at hk
  split at hk
  ·exact hk.elim
  ·rename_i args hargs
   have hvs := E.vals _ _ hargs
   split at hk
   ·rename_i f hcal
    split at hk
    ·rename_i g z hg hz
     rcases vCallF_to hk with hk | ⟨rfl, hy⟩
     ·refine plain ?_
      unfold vop
      rw [ho]
      simp only [hargs, hcal, hg, hz]
      exact hk
     ·obtain ⟨e, f', c', he, hv, hf, hc⟩ := E.val hg
      obtain ⟨e0, he0, hY⟩ := hY
      have := R.evo.le _ _ he0
      rw [he] at this
      cases this
      have hfe : f' = #[] := by apply Array.ext'; exact hf
      have hce : c' = #[] := by apply Array.ext'; exact hc
      subst hfe hce
      obtain ⟨fn, tmps, asg, body, hrun, hR⟩ := hY μ h w args (c.args.toList.map a.eval) _ R.evo R.heap hvs hy
      refine ⟨fun _ _ => trivial, ?_⟩
      rw [Oper.semAt_plain _ _ _ (by rw [ho]; intro d hd; cases hd)]
      have hex : (execOp a.eval o).run P w = (Instr.yield e.r (c.args.toList.map a.eval).toArray).run P w := by
       have : execOp a.eval o = execOp a.eval { o with op := .call c } := by rw [← ho]
       rw [this]
       show Sem.run P (do let d ← resolve a.eval c o.type; invoke d.target d.args) w = _
       have hres : (resolve a.eval c o.type).run P w = .ok { target := .fn (.yield e.r) #[], args := #[] ++ c.args.map a.eval } w := by
        unfold resolve
        simp [hcal, Deferred.ofValue, hv]
       rw [Sem.run_bind, hres]
       simp only [Result.andThen_ok, invoke]
       congr 2
       apply Array.ext'
       simp
      rw [hex, hrun]
      refine ⟨fun hd => (by cases hd), hR.mono ?_⟩
      rintro en w' ⟨μ', h', rfl, hq, hev, hh⟩
      obtain ⟨u, hu, hk⟩ := exV_ex hq
      subst hu
      exact hn _ _ _ _ _ _ _ hk (R.call hev hh) hev.le (lamLe.refl _) rfl
    ·exact hk.elim
   ·rename_i r name hcal
    split at hk
    ·rename_i g z hg hz
     refine plain ?_
     unfold vop
     rw [ho]
     simp only [hargs, hcal, hg, hz]
     exact vInvoke_to hk
    ·exact hk.elim
   ·rename_i bb hcal
    refine plain ?_
    unfold vop
    rw [ho]
    simp only [hargs, hcal]
    exact hk
 ·exact plain (vop_call (fun c hc => hcall ⟨c, hc⟩) hk)⟩
end
theorem iter_in {P : Program} {b n : Nat} {Y : YH} {H : Hints} {gf : FuncId} {fn : Func} {c : Code} {args : List AV} {vs : List Value} {h : Heap} {Q : AV → Heap → Prop} {μ : Ren} {w : World} (hf : P.funcs[gf]? = some fn) (hb : fn.body = some c) (hfl : In.flat c = true)
  (hk : vcode P H (callY P b Y) (vdraw P H.loc (callY P b Y)) c 1000000 ⟨args.map .val ++ List.replicate (fn.ntmps - args.length) .top, [], h⟩ fun e st => match e with
    | .normal => vret P fn st Q
    | .ret => vret P fn st Q
    | _ => False) (hY : YieldOK P (n - 1) b Y μ h w) (hh : HRel μ h w) (hv : relL μ args vs) : CallsIn Fence.wide n P gf vs.toArray w (CallPost μ h w Q) := by
 have R : Rel μ h w μ [] [] h w := ⟨Evo.refl μ h w, hh, ⟨rfl, by simp, by simp, by simp, by simp⟩⟩
 have hvl := hv.length
 have E : EnvRel μ [] (args.map .val ++ List.replicate (fn.ntmps - args.length) .top) (vs.toArray ++ Array.replicate (fn.ntmps - vs.toArray.size) undef) := by
  refine ⟨by simp [hvl], fun t lv ht => ?_⟩
  rw [List.getElem?_append] at ht
  split at ht
  ·rename_i hlt
   simp at hlt
   simp only [List.getElem?_map, Option.map_eq_some_iff] at ht
   obtain ⟨x, hx, rfl⟩ := ht
   obtain ⟨y, hy, hxy⟩ := hv.get hx
   have hyl := lt_of_get hy
   have : (vs.toArray ++ Array.replicate (fn.ntmps - vs.toArray.size) undef).getD t undef = y := by
    rw [Array.getD_eq_getD_getElem?, Array.getElem?_append_left (by simpa using hyl)]
    simp [hy]
   rw [this]; exact hxy
  ·rw [List.getElem?_replicate] at ht
   split at ht
   ·cases ht; trivial
   ·cases ht
 have C := inOK_Y (n := n) hY
 refine callsIn_of_wp hf hb trivial (wpIn_mono (In.vcode_wp C (In.vdraw_ok C) c 1000000 _ _ μ [] { tmps := vs.toArray ++ Array.replicate (fn.ntmps - vs.toArray.size) undef, defers := [] } w hk R E hfl) ?_)
 rintro e a' w' ⟨st, μ', lam', hq, p⟩
 have hd : a'.defers = [] := p.defers
 cases e with
 | normal =>
  obtain ⟨v, x, g1, g2, g3⟩ := run_results p.rel p.env hq
  exact ⟨hd, v, g1, v, x, st.h, μ', rfl, g2, p.rel.evo, p.rel.heap, g3⟩
 | ret =>
  obtain ⟨v, x, g1, g2, g3⟩ := run_results p.rel p.env hq
  exact ⟨hd, v, g1, v, x, st.h, μ', rfl, g2, p.rel.evo, p.rel.heap, g3⟩
 | _ => exact hq.elim
def Alien (w : World) (r : Nat) : Prop := ∃ o, w.heap[r]? = some o ∧ (∀ C t f, o ≠ .cells C t f) ∧ (∀ E c, o ≠ .map E c) ∧ ∀ m s e l, o ≠ .mapIter m s e l
theorem alien_loop {w : World} {r : Nat} {x : Loop} (h : w.heap[r]? = some (.loop x)) : Alien w r := ⟨_, h, by simp, by simp, by simp⟩
theorem alien_deferred {w : World} {r : Nat} {x : Option (List Deferred)} (h : w.heap[r]? = some (.deferred x)) : Alien w r := ⟨_, h, by simp, by simp, by simp⟩
theorem rw_live {B : Blk} (h : B.rw = true) : B.live = true := by cases B <;> first | rfl | cases h
section
variable {μ : Ren} {h : Heap} {w : World}
theorem alien_ne (H : HRel μ h w) {r : Nat} (hA : Alien w r) {b : Nat} {B : Blk} {e : ME} (hb : h[b]? = some B) (hl : B.live = true) (he : μ[b]? = some e) : e.r ≠ r := by
 intro hr
 obtain ⟨o, ho, h1, h2, h3⟩ := hA
 have hB := H.blk b B e hb he
 rw [← hr] at ho
 cases B with
 | dead => cases hl
 | gm g j => cases hl
 | cells c rw' => obtain ⟨C, t, fz, hc, _⟩ := hB; rw [ho] at hc; cases hc; exact h1 _ _ _ rfl
 | mp es cl => obtain ⟨ES, hc, _⟩ := hB; rw [ho] at hc; cases hc; exact h2 _ _ rfl
 | bx v => obtain ⟨_, y, t, hc, _⟩ := hB; rw [ho] at hc; cases hc; exact h1 _ _ _ rfl
 | it m s e2 l => obtain ⟨_, mm, hc, _⟩ := hB; rw [ho] at hc; cases hc; exact h3 _ _ _ _ rfl
theorem BlkRel.at {w' : World} {e : ME} {B : Blk} (hB : BlkRel μ w e B) (hw : B.live = true → w'.heap[e.r]? = w.heap[e.r]?) : BlkRel μ w' e B := by
 cases B with
 | dead => exact hB
 | gm g j => exact hB
 | cells c rw' => obtain ⟨C, t, fz, hc, rest⟩ := hB; exact ⟨C, t, fz, by rw [hw rfl]; exact hc, rest⟩
 | mp es cl => obtain ⟨ES, hc, rest⟩ := hB; exact ⟨ES, by rw [hw rfl]; exact hc, rest⟩
 | bx v => obtain ⟨a, y, t, hc, rest⟩ := hB; exact ⟨a, y, t, by rw [hw rfl]; exact hc, rest⟩
 | it m s e2 l => obtain ⟨a, mm, hc, rest⟩ := hB; exact ⟨a, mm, by rw [hw rfl]; exact hc, rest⟩
theorem HRel.putA (H : HRel μ h w) {r : Nat} (hA : Alien w r) (o : Obj) : HRel μ h (w.putObj r o) where
 len := H.len
 blk b B e hb he := (H.blk b B e hb he).at fun hl => World.putObj_heap_other (alien_ne H hA hb hl he)
 sep := H.sep
 bnd b e he := by rw [World.putObj_size]; exact H.bnd b e he
theorem Evo.alien {μ' : Ren} {h' : Heap} {w' : World} (ev : Evo μ h w μ' h' w') (H : HRel μ h w) {r : Nat} (hA : Alien w r) : w'.heap[r]? = w.heap[r]? := by
 obtain ⟨o, ho, _⟩ := id hA
 exact ev.frame r (heap_lt ho) fun b B e hb hr he => alien_ne H hA hb (rw_live hr) he
theorem evo_round {μ2 μ3 : Ren} {h2 h3 : Heap} {w2 w3 : World} {l : Nat} {o0 o1 : Obj} (a1 : Evo μ h w μ2 h2 w2) (a2 : Evo μ2 h2 (w2.putObj l o1) μ3 h3 w3) (h0 : w.heap[l]? = some o0) : Evo μ h w μ3 h3 (w3.putObj l o0) where
 le := a1.le.trans a2.le
 hlen := Nat.le_trans a1.hlen a2.hlen
 size := by rw [World.putObj_size]; exact Nat.le_trans a1.size (by have := a2.size; rwa [World.putObj_size] at this)
 frame r hr hn := by
  have hs1 := a1.size
  have hs2 := a2.size
  rw [World.putObj_size] at hs2
  by_cases hrl : r = l
  ·subst hrl
   rw [h0, World.putObj_heap_same (by omega)]
  ·rw [World.putObj_heap_other hrl, a2.frame r (by rw [World.putObj_size]; omega) ?_, World.putObj_heap_other hrl, a1.frame r hr hn]
   intro k B e hk hB he
   rcases a1.own k B e hk hB he with h1 | ⟨b0, B0, e0, h1, h2, h3, h4⟩
   ·omega
   ·rw [← h4]; exact hn _ _ _ h1 h2 h3
 own k B e hk hB he := by
  rcases a2.own k B e hk hB he with h1 | ⟨b0, B0, e0, h1, h2, h3, h4⟩
  ·rw [World.putObj_size] at h1; exact .inl (Nat.le_trans a1.size h1)
  ·rcases a1.own b0 B0 e0 h1 h2 h3 with h5 | ⟨b1, B1, e1, g1, g2, g3, g4⟩
   ·exact .inl (by omega)
   ·exact .inr ⟨b1, B1, e1, g1, g2, g3, by omega⟩
 liv k B e hk hB he := by
  rcases a2.liv k B e hk hB he with h1 | ⟨b0, B0, e0, h1, h2, h3, h4⟩
  ·rw [World.putObj_size] at h1; exact .inl (Nat.le_trans a1.size h1)
  ·rcases a1.liv b0 B0 e0 h1 h2 h3 with h5 | ⟨b1, B1, e1, g1, g2, g3, g4⟩
   ·exact .inl (by omega)
   ·exact .inr ⟨b1, B1, e1, g1, g2, g3, by omega⟩
 os := (show w3.os = w.os from a2.os.trans a1.os)
 tape := (show w3.tape = w.tape from a2.tape.trans a1.tape)
 output := (show w3.output = w.output from a2.output.trans a1.output)
theorem start_below {w' : World} (H : HRel μ h w) (B : Go.RowKit.Below w.heap.size w w') : Rel μ h w μ [] [] h w' where
 evo := { Evo.refl μ h w with
  size := B.size
  frame := fun r hr hn => B.block r hr
  own := fun b X e hb hr he => .inr ⟨b, X, e, hb, hr, he, rfl⟩
  liv := fun b X e hb hr he => .inr ⟨b, X, e, hb, hr, he, rfl⟩
  os := B.os, tape := B.tape, output := B.output }
 heap := ⟨H.len, fun b B' e hb he => (H.blk b B' e hb he).world (B.block _ (H.bnd b e he)), H.sep, fun b e he => Nat.lt_of_lt_of_le (H.bnd b e he) B.size⟩
 locs := ⟨rfl, by simp, by simp, by simp, by simp⟩
theorem rel_start (H : HRel μ h w) : Rel μ h w μ [] [] h w := ⟨Evo.refl μ h w, H, ⟨rfl, by simp, by simp, by simp, by simp⟩⟩
theorem env_set : ∀ {ps : List Nat} {xs : List AV} {vs : List Value} {ρ : List LV} {tmps : Array Value}, EnvRel μ [] ρ tmps → relL μ xs vs → xs.length = ps.length →
  EnvRel μ [] (setSlots ρ ps xs) ((ps.zip vs).foldl (fun t (p, v) => t.setIfInBounds p v) tmps)
 | [], [], vs, ρ, tmps, E, hv, hl => by
  simp only [relL] at hv
  subst hv
  exact E
 | [], x :: xs, vs, ρ, tmps, E, hv, hl => by simp at hl
 | p :: ps, [], vs, ρ, tmps, E, hv, hl => by simp at hl
 | p :: ps, x :: xs, _, ρ, tmps, E, ⟨y, ys, rfl, hx, hxs⟩, hl => by
  have E1 := E.put (d := some p) (lv := .val x) (v := y) (a := { tmps := tmps, defers := [] }) hx
  exact env_set (ps := ps) (xs := xs) (vs := ys) (ρ := ρ.set p (.val x)) (tmps := tmps.setIfInBounds p y) E1 hxs (by simpa using hl)
end
section
variable {P : Program}
def YOf (P : Program) (H : Hints) (ρ : List LV) (ps : Array Tmp) (assign body : Code) : YH := fun xs h R =>
 xs.length = ps.size ∧ vcode P H (AC P) (vdraw P H.loc (AC P)) assign 1000000 ⟨setSlots ρ ps.toList xs, [], h⟩ fun e st => e = .normal ∧ st.L = [] ∧
  vcode P H (AC P) (vdraw P H.loc (AC P)) body 1000000 st fun e st' => e = .normal ∧ R st'.h
theorem yield_ok {n : Nat} {H : Hints} {ρ : List LV} {ps : Array Tmp} {assign body : Code} {μ : Ren} {h : Heap} {w : World} {fn : FuncId} {a : Act} (hh : HRel μ h w) (E : EnvRel μ [] ρ a.tmps) (hfa : In.flat assign = true) (hfb : In.flat body = true) {W1 : World} {rec : Loop}
  (hrec : rec = { state := .ready, pending := none, fn := fn, tmps := a.tmps, params := ps, assign := assign, body := body, defers := w.heap.size }) (hl1 : W1.heap[w.heap.size + 1]? = some (.loop rec)) :
  YieldOK P n h.length (YOf P H ρ ps assign body) (μ ++ [⟨w.heap.size + 1, 0, 0⟩]) (h ++ [.dead]) W1 := by
 refine ⟨⟨w.heap.size + 1, 0, 0⟩, by rw [← hh.len]; simp, fun μ1 h1 w1 xs vs R hev hh1 hv ⟨hlen, hk⟩ => ?_⟩
 have hrl : w1.heap[w.heap.size + 1]? = some (.loop rec) := by
  rw [hev.frame _ (heap_lt hl1) ?_, hl1]
  intro b B e hb hr he
  rw [List.getElem?_append] at hb he
  split at hb
  ·rename_i hlt
   rw [if_pos (by rw [hh.len]; exact hlt)] at he
   have := hh.bnd b e he
   omega
  ·have : B = .dead := by
    rw [List.getElem?_singleton] at hb
    split at hb
    ·cases hb; rfl
    ·cases hb
   subst this; cases hr
 have hvl : vs.length = ps.size := by rw [hv.length, hlen]
 have hy := run_yield (P := P) (args := vs.toArray) hrl (by rw [hrec]; simpa using hvl)
 rw [hrec] at hy
 refine ⟨fn, _, assign, body, hy, roundIn_of_wpIn trivial ?_⟩
 have hle : Ren.le μ μ1 := (Ren.le_append _ _).trans hev.le
 have E1 : EnvRel μ1 [] (setSlots ρ ps.toList xs) ((ps.zip vs.toArray).foldl (fun t (p, v) => t.setIfInBounds p v) a.tmps) := by
  have := env_set (E.mono hle (lamLe.refl _)) hv (ps := ps.toList) (by simpa using hlen)
  rw [← Array.foldl_toList, Array.toList_zip]
  exact this
 refine wpIn_mono (In.vcode_wp (n0 := n) (inOK_round (l := w.heap.size + 1)) (In.vdraw_ok inOK_round) assign 1000000 _ _ μ1 [] { tmps := (ps.zip vs.toArray).foldl (fun t (p, v) => t.setIfInBounds p v) a.tmps, defers := [] } w1 hk (rel_start hh1) E1 hfa) ?_
 rintro e a2 w2 ⟨⟨ρ2, L2, h2⟩, μ2, lam2, ⟨rfl, hL, hk2⟩, p⟩
 simp only at hL
 subst hL
 have hlam : lam2 = [] := List.eq_nil_of_length_eq_zero p.rel.locs.len
 subst hlam
 have hl2 : w2.heap[w.heap.size + 1]? = some (.loop rec) := by rw [p.rel.evo.alien hh1 (alien_loop hrl), hrl]
 refine ⟨_, run_beginRound hl2 (by rw [hrec]), ?_⟩
 have hh2 := p.rel.heap.putA (alien_loop hl2) (.loop { rec with state := .busy })
 have hlb : (w2.putObj (w.heap.size + 1) (.loop { rec with state := .busy })).heap[w.heap.size + 1]? = some (.loop { rec with state := .busy }) := World.putObj_heap_same (heap_lt hl2)
 refine wpIn_mono (In.vcode_wp (n0 := n) (inOK_round (l := w.heap.size + 1)) (In.vdraw_ok inOK_round) body 1000000 _ _ μ2 [] a2 _ hk2 (rel_start hh2) p.env hfb) ?_
 rintro e a3 w3 ⟨st3, μ3, lam3, ⟨rfl, hR⟩, p3⟩
 have hl3 : w3.heap[w.heap.size + 1]? = some (.loop { rec with state := .busy }) := by rw [p3.rel.evo.alien hh2 (alien_loop hlb), hlb]
 have he := run_endRound (P := P) none hl3
 have hsame : ({ { rec with state := .busy } with state := if (none : Option Code).isNone = true then .ready else .done, pending := none } : Loop) = rec := by rw [hrec]; rfl
 rw [hsame] at he
 exact ⟨_, _, he, μ3, st3.h, rfl, hR, evo_round p.rel.evo p3.rel.evo hrl, p3.rel.heap.putA (alien_loop hl3) _⟩
theorem range_wp {n : Nat} {H HI : Hints} {ρ : List LV} {g : Operand} {ps : Array Tmp} {assign body : Code} {μ : Ren} {h : Heap} {w : World} {a : Act} {Q : Exit → Act → World → Prop} (hh : HRel μ h w) (E : EnvRel μ [] ρ a.tmps) (hfa : In.flat assign = true) (hfb : In.flat body = true)
  {gf : FuncId} {caps : List AV} (hg : ev ρ g = .val (.func (.func gf) [] caps)) {fg : Func} {cg : Code} (hf : P.funcs[gf]? = some fg) (hb : fg.body = some cg) (hfl : In.flat cg = true) (hc : callable P gf = true) {K : Heap → Prop}
  (hk : vcode P HI (callY P h.length (YOf P H ρ ps assign body)) (vdraw P HI.loc (callY P h.length (YOf P H ρ ps assign body))) cg 1000000 ⟨(.func (.yield h.length) [] [] :: caps).map .val ++ List.replicate (fg.ntmps - (AV.func (.yield h.length) [] [] :: caps).length) .top, [], h ++ [.dead]⟩ fun e st => match e with
    | .normal => vret P fg st fun _ h' => K h'
    | .ret => vret P fg st fun _ h' => K h'
    | _ => False)
  (hq : ∀ μ' h' w', K h' → Evo μ h w μ' h' w' → HRel μ' h' w' → w'.heap[w.heap.size]? = some (.deferred (some [])) → w.heap.size < w'.heap.size → Q .normal { a with defers := { target := .collected w.heap.size, args := #[] } :: a.defers } w') :
  (Code.rangeFunc g ps assign body).wpIn Fence.wide (n + 1) P Q a w := by
 refine wpIn_rangeFunc ?_
 intro fn hfn
 have hgv := E.val hg
 obtain ⟨f', c', hv, hf0, hcs⟩ := hgv
 have hfe : f' = #[] := by apply Array.ext'; exact hf0
 subst hfe
 obtain ⟨rec, hrec⟩ : ∃ rec : Loop, rec = { state := .ready, pending := none, fn := fn, tmps := a.tmps, params := ps, assign := assign, body := body, defers := w.heap.size } := ⟨_, rfl⟩
 obtain ⟨W1, hW1⟩ : ∃ W1, (w.alloc (.deferred (some []))).alloc (.loop rec) = W1 := ⟨_, rfl⟩
 have hL1 : W1.heap[w.heap.size + 1]? = some (.loop rec) := by
  rw [← hW1]; have := World.alloc_heap_new (w.alloc (.deferred (some []))) (.loop rec); rwa [World.size_alloc] at this
 have hK1 : W1.heap[w.heap.size]? = some (.deferred (some [])) := by
  rw [← hW1]; exact (Go.RowKit.Below.heap_alloc _ _ _ (by simp)).trans (World.alloc_heap_new w _)
 have hb1 : Go.RowKit.Below w.heap.size w W1 := by
  rw [← hW1]; exact ((Go.RowKit.Below.refl _ w).alloc (Nat.le_refl _) _).alloc (by simp) _
 have R1 := start_below hh hb1
 have hs1 : W1.heap.size = w.heap.size + 2 := by rw [← hW1]; simp
 have hhs : HRel (μ ++ [⟨w.heap.size + 1, 0, 0⟩]) (h ++ [.dead]) W1 := by
  refine ⟨by simp [hh.len], fun b B e hb he => ?_, fun b1 b2 B1 B2 e1 e2 hne g1 g2 r1 l2 m1 m2 => ?_, fun b e he => ?_⟩
  ·rw [List.getElem?_append] at hb he
   split at hb
   ·rename_i hlt
    rw [if_pos (by rw [hh.len]; exact hlt)] at he
    exact BlkRel.mono (Ren.le_append _ _) (R1.heap.blk b B e hb he)
   ·rw [List.getElem?_singleton] at hb
    split at hb
    ·cases hb; trivial
    ·cases hb
  ·have lv : ∀ {b : Nat} {B : Blk} {e : ME}, (h ++ [.dead])[b]? = some B → (B.rw = true ∨ B.live = true) → (μ ++ [(⟨w.heap.size + 1, 0, 0⟩ : ME)])[b]? = some e → h[b]? = some B ∧ μ[b]? = some e := by
    intro b B e hb hB he
    rw [List.getElem?_append] at hb he
    split at hb
    ·rename_i hlt
     rw [if_pos (by rw [hh.len]; exact hlt)] at he
     exact ⟨hb, he⟩
    ·rw [List.getElem?_singleton] at hb
     split at hb
     ·cases hb; rcases hB with hB | hB <;> cases hB
     ·cases hb
   obtain ⟨a1, a2⟩ := lv g1 (.inl r1) m1
   obtain ⟨c1, c2⟩ := lv g2 (.inr l2) m2
   exact hh.sep b1 b2 B1 B2 e1 e2 hne a1 c1 r1 l2 a2 c2
  ·rw [List.getElem?_append] at he
   split at he
   ·exact R1.heap.bnd b e he
   ·rw [List.getElem?_singleton] at he
    split at he
    ·cases he; simp only; omega
    ·cases he
 have hev1 : Evo μ h w (μ ++ [⟨w.heap.size + 1, 0, 0⟩]) (h ++ [.dead]) W1 := by
  have ne : ∀ {b : Nat} {B : Blk} {e : ME}, (h ++ [.dead])[b]? = some B → (B.rw = true ∨ B.live = true) → (μ ++ [(⟨w.heap.size + 1, 0, 0⟩ : ME)])[b]? = some e → h[b]? = some B ∧ μ[b]? = some e := by
   intro b B e hb hB he
   rw [List.getElem?_append] at hb he
   split at hb
   ·rename_i hlt
    rw [if_pos (by rw [hh.len]; exact hlt)] at he
    exact ⟨hb, he⟩
   ·rw [List.getElem?_singleton] at hb
    split at hb
    ·cases hb; rcases hB with hB | hB <;> cases hB
    ·cases hb
  refine ⟨Ren.le_append _ _, by simp, by omega, fun r hr hn => R1.evo.frame r hr hn, fun b B e hb hr he => ?_, fun b B e hb hr he => ?_, R1.evo.os, R1.evo.tape, R1.evo.output⟩
  ·obtain ⟨a1, a2⟩ := ne hb (.inl hr) he
   exact .inr ⟨b, B, e, a1, hr, a2, rfl⟩
  ·obtain ⟨a1, a2⟩ := ne hb (.inr hr) he
   exact .inr ⟨b, B, e, a1, hr, a2, rfl⟩
 refine ⟨w.heap.size + 1, [{ target := .collected w.heap.size, args := #[] }], W1, { target := .fn (.func gf) c', args := #[.func (.yield (w.heap.size + 1)) #[] #[]] }, W1, gf,
  #[.func (.yield (w.heap.size + 1)) #[] #[]] ++ c', W1, ?_, ?_, ?_, ?_, fun hd => (by cases hd), ?_⟩
 ·rw [← hW1, hrec]; exact run_enterLoop_outer _ _ _ _ _
 ·simp only [resolve, hv]
  simp [go_sem]
 ·intro f' hf'; trivial
 ·simp only [invoke]
  rw [run_callFunc hc]
 ·have hargs : #[Value.func (.yield (w.heap.size + 1)) #[] #[]] ++ c' = (Value.func (.yield (w.heap.size + 1)) #[] #[] :: c'.toList).toArray := by apply Array.ext'; simp
  rw [hargs]
  have hrel : relL (μ ++ [⟨w.heap.size + 1, 0, 0⟩]) (.func (.yield h.length) [] [] :: caps) (Value.func (.yield (w.heap.size + 1)) #[] #[] :: c'.toList) :=
   ⟨_, _, rfl, ⟨⟨w.heap.size + 1, 0, 0⟩, #[], #[], by rw [← hh.len]; simp, rfl, rfl, rfl⟩, relL.mono (Ren.le_append _ _) _ _ hcs⟩
  refine (iter_in (n := n) hf hb hfl hk (yield_ok hh E hfa hfb hrec hL1) hhs hrel).mono ?_
  rintro en w2 ⟨v, x, h2, μ2, rfl, hK, hev, hh2, _⟩
  have hl2 : w2.heap[w.heap.size + 1]? = some (.loop rec) := by rw [hev.alien hhs (alien_loop hL1), hL1]
  have hd2 : w2.heap[w.heap.size]? = some (.deferred (some [])) := by rw [hev.alien hhs (alien_deferred hK1), hK1]
  have hend := run_endLoop (P := P) hl2 (by rw [hrec]; simp)
  have hp : rec.pending = none := by rw [hrec]
  rw [hp] at hend
  refine ⟨none, _, hend, ?_⟩
  simp only [List.cons_append, List.nil_append]
  have e2 := hev1.trans hev
  refine hq μ2 h2 _ hK ⟨e2.le, e2.hlen, by rw [World.putObj_size]; exact e2.size, fun r hr hn => ?_, fun b B e hb hr he => ?_, fun b B e hb hr he => ?_, e2.os, e2.tape, e2.output⟩ (hh2.putA (alien_loop hl2) _) ?_ ?_
  ·rw [World.putObj_heap_other (by omega)]; exact e2.frame r hr hn
  ·exact e2.own b B e hb hr he
  ·exact e2.liv b B e hb hr he
  ·rw [World.putObj_heap_other (by omega)]; exact hd2
  ·rw [World.putObj_size]; exact heap_lt hd2
end
def hasRF : Code → Bool
 | .rangeFunc .. => true
 | .seq a b => hasRF a || hasRF b
 | .cond _ a b => hasRF a || hasRF b
 | .block _ a => hasRF a
 | .loop a => hasRF a
 | .scope a => hasRF a
 | _ => false
section
variable (P : Program) (H : Hints) (HI : FuncId → Hints)
def VRange (g : Operand) (ps : Array Tmp) (assign body : Code) (st : St) (K : Heap → Prop) : Prop :=
 st.L = [] ∧ (In.flat assign && In.flat body) = true ∧ match ev st.ρ g with
 | .val (.func (.func gf) [] caps) => (match P.funcs[gf]? with
  | some fg => (match fg.body with
   | some cg => (In.flat cg && callable P gf) = true ∧ vcode P (HI gf) (callY P st.h.length (YOf P H st.ρ ps assign body)) (vdraw P (HI gf).loc (callY P st.h.length (YOf P H st.ρ ps assign body))) cg 1000000
     ⟨(.func (.yield st.h.length) [] [] :: caps).map .val ++ List.replicate (fg.ntmps - (AV.func (.yield st.h.length) [] [] :: caps).length) .top, [], st.h ++ [.dead]⟩ fun e st' => match e with
      | .normal => vret P fg st' fun _ h' => K h'
      | .ret => vret P fg st' fun _ h' => K h'
      | _ => False
   | none => False)
  | none => False)
 | _ => False
def vsp : Code → Nat → St → (Exit → St → Prop) → Prop
 | .seq a b, cur, st, Q => match hasRF a with
  | true => In.flat b = true ∧ vsp a cur st fun e st' => match e with
   | .normal => st'.L = [] ∧ vcode P H (AC P) (vdraw P H.loc (AC P)) b cur st' Q
   | e => Q e st'
  | false => In.flat a = true ∧ vcode P H (AC P) (vdraw P H.loc (AC P)) a cur st fun e st' => match e with
   | .normal => vsp b cur st' Q
   | e => Q e st'
 | .block id c, _, st, Q => vsp c id st fun e st' => match e with
  | .exit i => (match i == id with | true => Q .normal st' | false => Q (.exit i) st')
  | e => Q e st'
 | .rangeFunc g ps assign body, _, st, Q => VRange P H HI g ps assign body st fun h' => Q .normal ⟨st.ρ, [], h'⟩
 | _, _, _, _ => False
end
section
variable {P : Program} {H : Hints} {HI : FuncId → Hints} {μ0 : Ren} {h0 : Heap} {w0 : World}
def Marks (w0 : World) (ds ds' : List Deferred) (w' : World) : Prop := ds' = ds ∨ ∃ D, ds' = { target := .collected D, args := #[] } :: ds ∧ w0.heap.size ≤ D ∧ w'.heap[D]? = some (.deferred (some []))
def MPost (μ0 : Ren) (h0 : Heap) (w0 : World) (μ : Ren) (a : Act) (Q : Exit → St → Prop) (e : Exit) (a' : Act) (w' : World) : Prop :=
 ∃ st μ' lam', Q e st ∧ Rel μ0 h0 w0 μ' lam' st.L st.h w' ∧ EnvRel μ' lam' st.ρ a'.tmps ∧ Ren.le μ μ' ∧ Marks w0 a.defers a'.defers w'
theorem Marks.later {w1 w' : World} {ds ds' : List Deferred} {μ1 μ' : Ren} {h1 h' : Heap} (M : Marks w0 ds ds' w1) (ev : Evo μ1 h1 w1 μ' h' w') (hh : HRel μ1 h1 w1) : Marks w0 ds ds' w' := by
 rcases M with rfl | ⟨D, rfl, h1, h2⟩
 ·exact .inl rfl
 ·exact .inr ⟨D, rfl, h1, by rw [ev.alien hh (alien_deferred h2), h2]⟩
theorem LRel.start {w1 w' : World} {μ : Ren} {h : Heap} {lam : List Nat} {L : Locs} (R : LRel w1 μ h lam L w') (hs : w0.heap.size ≤ w1.heap.size) : LRel w0 μ h lam L w' :=
 ⟨R.len, R.blk, R.inj, R.sep, fun k r hk => ⟨Nat.le_trans hs (R.new k r hk).1, (R.new k r hk).2⟩⟩
theorem vsp_wp {n : Nat} : ∀ (c : Code) (cur : Nat) (st : St) (Q : Exit → St → Prop) (μ : Ren) (lam : List Nat) (a : Act) (w : World), vsp P H HI c cur st Q → Rel μ0 h0 w0 μ lam st.L st.h w → EnvRel μ lam st.ρ a.tmps → c.wpIn Fence.wide (n + 1) P (MPost μ0 h0 w0 μ a Q) a w
 | .seq x y, cur, st, Q, μ, lam, a, w, hk, R, E => by
  unfold vsp at hk
  split at hk
  ·obtain ⟨hfl, hk⟩ := hk
   refine wpIn_seq (wpIn_mono (vsp_wp x cur st _ μ lam a w hk R E) fun e a' w' ⟨st', μ', lam', hq, R', E', hle, M⟩ => ?_)
   cases e with
   | normal =>
    obtain ⟨hL, hq⟩ := hq
    obtain ⟨ρ', L', h'⟩ := st'
    simp only at hL
    subst hL
    have hlam : lam' = [] := List.eq_nil_of_length_eq_zero R'.locs.len
    subst hlam
    refine wpIn_mono (In.vcode_wp (n0 := n + 1) inOK_wide (In.vdraw_ok inOK_wide) y cur _ Q μ' [] a' w' hq (rel_start R'.heap) E' hfl) fun e2 a2 w2 ⟨st2, μ2, lam2, hq2, p2⟩ => ?_
    refine ⟨st2, μ2, lam2, hq2, ⟨R'.evo.trans p2.rel.evo, p2.rel.heap, p2.rel.locs.start R'.evo.size⟩, p2.env, hle.trans p2.le, ?_⟩
    rw [p2.defers]
    exact M.later p2.rel.evo R'.heap
   | _ => exact ⟨st', μ', lam', hq, R', E', hle, M⟩
  ·obtain ⟨hfl, hk⟩ := hk
   refine wpIn_seq (wpIn_mono (In.vcode_wp (n0 := n + 1) inOK_wide (In.vdraw_ok inOK_wide) x cur st _ μ lam a w hk R E hfl) fun e a' w' ⟨st', μ', lam', hq, p⟩ => ?_)
   cases e with
   | normal =>
    refine wpIn_mono (vsp_wp y cur st' Q μ' lam' a' w' hq p.rel p.env) fun e2 a2 w2 ⟨st2, μ2, lam2, hq2, R2, E2, hle, M⟩ => ?_
    rw [p.defers] at M
    exact ⟨st2, μ2, lam2, hq2, R2, E2, p.le.trans hle, M⟩
   | _ => exact ⟨st', μ', lam', hq, p.rel, p.env, p.le, .inl p.defers⟩
 | .block id body, cur, st, Q, μ, lam, a, w, hk, R, E => by
  simp only [vsp] at hk
  refine wpIn_block (wpIn_mono (vsp_wp body id st _ μ lam a w hk R E) fun e a' w' ⟨st', μ', lam', hq, rest⟩ => ?_)
  cases e with
  | exit i =>
   simp only at hq
   show Exit.inBlock id _ (.exit i) a' w'
   simp only [Exit.inBlock]
   split at hq
   ·rename_i hi
    rw [if_pos (by simpa using hi)]
    exact ⟨st', μ', lam', hq, rest⟩
   ·rename_i hi
    rw [if_neg (by simpa using hi)]
    exact ⟨st', μ', lam', hq, rest⟩
  | _ => exact ⟨st', μ', lam', hq, rest⟩
 | .rangeFunc g ps assign body, cur, st, Q, μ, lam, a, w, hk, R, E => by
  obtain ⟨hL, hfl, hk⟩ := hk
  obtain ⟨ρ, L, h⟩ := st
  simp only at hL
  subst hL
  have hlam : lam = [] := List.eq_nil_of_length_eq_zero R.locs.len
  subst hlam
  rw [Bool.and_eq_true] at hfl
  simp only at hk R E
  split at hk
  ·rename_i gf caps hg
   split at hk
   ·rename_i fg hf
    split at hk
    ·rename_i cg hb
     obtain ⟨hfc, hk⟩ := hk
     rw [Bool.and_eq_true] at hfc
     refine range_wp R.heap E hfl.1 hfl.2 hg hf hb hfc.1 hfc.2 hk fun μ' h' w' hq ev hh hd hs => ?_
     have R2 : Rel μ0 h0 w0 μ' [] [] h' w' := R.call ev hh
     exact ⟨⟨ρ, [], h'⟩, μ', [], hq, R2, E.mono ev.le (lamLe.refl _), ev.le, .inr ⟨_, rfl, R.evo.size, hd⟩⟩
    ·exact hk.elim
   ·exact hk.elim
  ·exact hk.elim
 | .skip, cur, st, Q, μ, lam, a, w, hk, R, E => hk.elim
 | .region .., cur, st, Q, μ, lam, a, w, hk, R, E => hk.elim
 | .cond .., cur, st, Q, μ, lam, a, w, hk, R, E => hk.elim
 | .loop _, cur, st, Q, μ, lam, a, w, hk, R, E => hk.elim
 | .exit _, cur, st, Q, μ, lam, a, w, hk, R, E => hk.elim
 | .ret, cur, st, Q, μ, lam, a, w, hk, R, E => hk.elim
 | .scope _, cur, st, Q, μ, lam, a, w, hk, R, E => hk.elim
 | .label _, cur, st, Q, μ, lam, a, w, hk, R, E => hk.elim
 | .goto _, cur, st, Q, μ, lam, a, w, hk, R, E => hk.elim
 | .refuse _, cur, st, Q, μ, lam, a, w, hk, R, E => hk.elim
theorem evo_putA {μ : Ren} {h : Heap} {w : World} (ev : Evo μ0 h0 w0 μ h w) {D : Nat} (hD : w0.heap.size ≤ D) (o : Obj) : Evo μ0 h0 w0 μ h (w.putObj D o) :=
 ⟨ev.le, ev.hlen, by rw [World.putObj_size]; exact ev.size, fun r hr hn => by rw [World.putObj_heap_other (by omega)]; exact ev.frame r hr hn, ev.own, ev.liv, ev.os, ev.tape, ev.output⟩
theorem LRel.putA {w : World} {μ : Ren} {h : Heap} {lam : List Nat} {L : Locs} (R : LRel w0 μ h lam L w) {D : Nat} (hA : Alien w D) (o : Obj) : LRel w0 μ h lam L (w.putObj D o) := by
 refine ⟨R.len, fun k c r hc hr => ?_, R.inj, R.sep, fun k r hk => by rw [World.putObj_size]; exact R.new k r hk⟩
 obtain ⟨C, t, fz, h1, rest⟩ := R.blk k c r hc hr
 refine ⟨C, t, fz, ?_, rest⟩
 rw [World.putObj_heap_other, h1]
 rintro rfl
 obtain ⟨o', ho, hx, _⟩ := hA
 rw [h1] at ho
 cases ho
 exact hx _ _ _ rfl
theorem AC_of_vsp {f : FuncId} {fn : Func} {c : Code} {args : List AV} {h : Heap} {Q : AV → Heap → Prop} (hf : P.funcs[f]? = some fn) (hb : fn.body = some c) (hc : callable P f = true)
  (hk : vsp P H HI c 1000000 ⟨args.map .val ++ List.replicate (fn.ntmps - args.length) .top, [], h⟩ fun e st => match e with
    | .normal => vret P fn st Q
    | .ret => vret P fn st Q
    | _ => False) : AC P f args h Q := by
 refine ⟨hc, fun μ w vs hh hv => (callsIn_wide (n := 1)).1 ?_⟩
 have hvl := hv.length
 have E : EnvRel μ [] (args.map .val ++ List.replicate (fn.ntmps - args.length) .top) (vs.toArray ++ Array.replicate (fn.ntmps - vs.toArray.size) undef) := by
  refine ⟨by simp [hvl], fun t lv ht => ?_⟩
  rw [List.getElem?_append] at ht
  split at ht
  ·rename_i hlt
   simp at hlt
   simp only [List.getElem?_map, Option.map_eq_some_iff] at ht
   obtain ⟨x, hx, rfl⟩ := ht
   obtain ⟨y, hy, hxy⟩ := hv.get hx
   have hyl := lt_of_get hy
   have : (vs.toArray ++ Array.replicate (fn.ntmps - vs.toArray.size) undef).getD t undef = y := by
    rw [Array.getD_eq_getD_getElem?, Array.getElem?_append_left (by simpa using hyl)]
    simp [hy]
   rw [this]; exact hxy
  ·rw [List.getElem?_replicate] at ht
   split at ht
   ·cases ht; trivial
   ·cases ht
 refine callsIn_of_wp_marks hf hb trivial (wpIn_mono (vsp_wp (n := 0) c 1000000 _ _ μ [] { tmps := vs.toArray ++ Array.replicate (fn.ntmps - vs.toArray.size) undef, defers := [] } w hk (rel_start hh) E) ?_)
 rintro e a' w' ⟨st, μ', lam', hq, R, E', _, M⟩
 have fin : vret P fn st Q → LeavesInM Fence.wide (0 + 1) P fn a'.tmps (CallPost μ h w Q) a'.defers .returning w' := by
  intro hq
  rcases M with hd | ⟨D, hd, hD, hw⟩
  ·rw [hd]
   obtain ⟨v, x, g1, g2, g3⟩ := run_results R E' hq
   exact ⟨v, g1, v, x, st.h, μ', rfl, g2, R.evo, R.heap, g3⟩
  ·rw [hd]
   refine ⟨by simp, .inl ⟨D, _, rfl, run_takeDeferred hw, ?_⟩⟩
   have R2 : Rel μ h w μ' lam' st.L st.h (w'.putObj D (.deferred none)) := ⟨evo_putA R.evo hD _, R.heap.putA (alien_deferred hw) _, R.locs.putA (alien_deferred hw) _⟩
   obtain ⟨v, x, g1, g2, g3⟩ := run_results R2 E' hq
   exact ⟨v, g1, v, x, st.h, μ', rfl, g2, R2.evo, R2.heap, g3⟩
 cases e with
 | normal => exact fin hq
 | ret => exact fin hq
 | _ => exact hq.elim
end
end Go.Ab
