import Derived.Test.YtafmabnolelknaaGreatDoorEG8
import Derived.Defers
namespace Go.Ab
set_option linter.unusedSimpArgs false
set_option linter.unusedVariables false
def ACD (P : Program) (f : FuncId) (args : List AV) (h : Heap) (Q : AV → Heap → Prop) : Prop :=
 callable P f = true ∧ ∀ (μ : Ren) (w : World) (vs : List Value) (u : FrameMode), HRel μ h w → relL μ args vs → CallsD P f vs.toArray u w fun e u' w' => u' = u ∧ CallPost μ h w Q e w'
section
variable {P : Program}
theorem start_env {μ : Ren} {args : List AV} {vs : List Value} {n : Nat} (hv : relL μ args vs) :
  EnvRel μ [] (args.map .val ++ List.replicate (n - args.length) .top) (vs.toArray ++ Array.replicate (n - vs.toArray.size) undef) := by
 have hvl := hv.length
 refine ⟨by simp [hvl], fun t lv ht => ?_⟩
 rw [List.getElem?_append] at ht
 split at ht
 ·rename_i hlt
  simp at hlt
  simp only [List.getElem?_map, Option.map_eq_some_iff] at ht
  obtain ⟨x, hx, rfl⟩ := ht
  obtain ⟨y, hy, hxy⟩ := hv.get hx
  have : (vs.toArray ++ Array.replicate (n - vs.toArray.size) undef).getD t undef = y := by
   have hyl := lt_of_get hy
   rw [Array.getD_eq_getD_getElem?, Array.getElem?_append_left (by simpa using hyl)]
   simp [hy]
  rw [this]; exact hxy
 ·rw [List.getElem?_replicate] at ht
  split at ht
  ·cases ht; trivial
  ·cases ht
theorem ACD_of_code {H : Hints} {draw : DrawH} (hdraw : DrawOK P draw) {f : FuncId} {fn : Func} {c : Code} {args : List AV} {h : Heap} {Q : AV → Heap → Prop} (hf : P.funcs[f]? = some fn) (hb : fn.body = some c) (hn : (fn.name == "runtime.NumGoroutine") = false) (hy : Nat.beq f 1000000000 = false)
  (hk : vcode P H (AC P) draw c 1000000 ⟨args.map .val ++ List.replicate (fn.ntmps - args.length) .top, [], h⟩ fun e st => match e with
    | .normal => vret P fn st Q
    | .ret => vret P fn st Q
    | _ => False) : ACD P f args h Q := by
 refine ⟨by simp only [callable, hf, hb, hn, hy]; rfl, fun μ w vs u hh hv => ?_⟩
 have R : Rel μ h w μ [] [] h w := ⟨Evo.refl μ h w, hh, ⟨rfl, by simp, by simp, by simp, by simp⟩⟩
 have E := start_env (n := fn.ntmps) hv
 refine callsD_of_wp hf hb (wp_mono (vcode_wp (μ0 := μ) (h0 := h) (w0 := w) hdraw c 1000000 _ _ μ [] { tmps := vs.toArray ++ Array.replicate (fn.ntmps - vs.toArray.size) undef, defers := [] } w hk R E) ?_)
 rintro e a' w' ⟨st, μ', lam', hq, p⟩
 have hd : a'.defers = [] := p.defers
 cases e with
 | normal =>
  obtain ⟨v, x, g1, g2, g3⟩ := run_results p.rel p.env hq
  exact ⟨hd, v, g1, v, x, st.h, μ', rfl, g2, p.rel.evo, p.rel.heap, g3⟩
 | ret =>
  obtain ⟨v, x, g1, g2, g3⟩ := run_results p.rel p.env hq
  exact ⟨hd, v, g1, v, x, st.h, μ', rfl, g2, p.rel.evo, p.rel.heap, g3⟩
 | _ => exact hq.elim
theorem ACD_of_VC {H : Hints} {f : FuncId} {args : List AV} {h : Heap} {Q : AV → Heap → Prop} (hn : notCount P f = true) (hk : VC P H f args h Q) : ACD P f args h Q := by
 unfold VC vfun at hk
 unfold notCount at hn
 cases hf : P.funcs[f]? with
 | none => simp only [hf] at hk
 | some fn =>
  simp only [hf] at hk hn
  cases hb : fn.body with
  | none => simp only [hb] at hk
  | some c =>
   simp only [hb] at hk
   have hn : (fn.name == "runtime.NumGoroutine") = false ∧ Nat.beq f 1000000000 = false := by simpa only [Bool.and_eq_true, Bool.not_eq_true'] using hn
   exact ACD_of_code vdraw_ok hf hb hn.1 hn.2 hk
def isDefer (ops : Array Oper) : Option (Nat × Nat × Nat) :=
 match ops.toList with
 | [⟨some d, .move (.tmp s), _, _, _, none⟩, ⟨none, .defer ⟨.value (.func g), as, _⟩, _, _, _, none⟩] => match as.toList with
  | [.tmp d'] => match d' == d with
   | true => some (d, s, g)
   | false => none
  | _ => none
 | _ => none
def vtail (P : Program) (H : Hints) (fn : Func) (Q : AV → Heap → Prop) (ops : Array Oper) (tail : Code) (st : St) : Prop :=
 match isDefer ops with
 | some (d, s, g) => match st.ρ[s]?, st.ρ[d]? with
  | some (.val v), some _ => vcode P H (AC P) (vdraw P H.loc (AC P)) tail 1000000 ⟨st.ρ.set d (.val v), st.L, st.h⟩ fun e st2 => match e with
   | .normal => ACD P g [v] st2.h fun _ h' => vret P fn ⟨st2.ρ, st2.L, h'⟩ Q
   | _ => False
  | _, _ => False
 | none => False
def vspine (P : Program) (H : Hints) (fn : Func) (Q : AV → Heap → Prop) : Nat → Code → St → Prop
 | 0, c, st => match c with
  | .seq (.region _ ops false) (.seq tail .ret) => vtail P H fn Q ops tail st
  | _ => False
 | n + 1, c, st => match c with
  | .seq x y => vcode P H (AC P) (vdraw P H.loc (AC P)) x 1000000 st fun e st' => match e with
   | .normal => vspine P H fn Q n y st'
   | .ret => vret P fn st' Q
   | _ => False
  | _ => False
section
variable {μ0 : Ren} {h0 : Heap} {w0 : World}
theorem wpOps_go {ops : Array Oper} {Q : Exit → Act → World → Prop} {i : Nat} {rest : List Nat} {a : Act} {w : World} {o : Oper} (ho : ops[i]? = some o) (hg : o.guard = none) (h : o.wp P a w (wpOps P ops Q rest) Q) : wpOps P ops Q (i :: rest) a w := by
 simp only [wpOps, ho]
 rw [if_pos (by unfold Region.wanted; rw [hg])]
 exact .inl h
theorem tail_wp {H : Hints} {fn : Func} {Q : AV → Heap → Prop} {id : Nat} {ops : Array Oper} {tail : Code} {st : St} {μ : Ren} {lam : List Nat} {a : Act} {w : World} (hk : vtail P H fn Q ops tail st)
  (R : Rel μ0 h0 w0 μ lam st.L st.h w) (E : EnvRel μ lam st.ρ a.tmps) (hd : a.defers = []) : (Code.seq (.region id ops false) (.seq tail .ret)).wp P (bodyPostD P fn (CallPost μ0 h0 w0 Q)) a w := by
 unfold vtail at hk
 split at hk
 ·rename_i d s g hi
  split at hk
  ·rename_i v z hv hx
   unfold isDefer at hi
   split at hi
   ·rename_i d1 s1 t1 p1 e1 g1 as t2 t3 p2 e2 hops
    split at hi
    ·rename_i d' has
     split at hi
     ·rename_i hdd
      cases hi
      have hdd : d' = d := by simpa using hdd
      subst hdd
      obtain ⟨ops⟩ := ops
      obtain ⟨as⟩ := as
      simp only at hops has
      subst hops has
      have hlt : s < a.tmps.size := by rw [← E.len]; exact lt_of_get hv
      have hrel : v.rel μ (a.tmps.getD s undef) := E.get s _ hv
      have E1 := E.put (d := some d') (a := a) (v := a.tmps.getD s undef) (lv := .val v) hrel
      have hdl : d' < a.tmps.size := by rw [← E.len]; exact lt_of_get hx
      refine wp_seq (wp_region ?_)
      refine wpOps_go (o := ⟨some d', .move (.tmp s), t1, p1, e1, none⟩) rfl rfl ?_
      show wpOps P (List.toArray [(⟨some d', .move (.tmp s), t1, p1, e1, none⟩ : Oper), ⟨none, .defer ⟨.value (.func g), ⟨[.tmp d']⟩, t2⟩, t3, p2, e2, none⟩]) _ [1] (a.put (some d') (a.eval (.tmp s))) w
      refine wpOps_go (o := ⟨none, .defer ⟨.value (.func g), ⟨[.tmp d']⟩, t2⟩, t3, p2, e2, none⟩) rfl rfl ?_
      have hval : (a.put (some d') (a.eval (.tmp s))).tmps.getD d' undef = a.tmps.getD s undef := by
       simp [Act.put, Act.eval, Array.getElem?_setIfInBounds, hdl]
      have hres : (resolve (a.put (some d') (a.eval (.tmp s))).eval ⟨.value (.func g), ⟨[.tmp d']⟩, t2⟩ t3).run P w = .ok ⟨.fn (.func g) #[], #[(a.put (some d') (a.eval (.tmp s))).tmps.getD d' undef]⟩ w := by
       unfold resolve
       simp [Deferred.ofValue, Act.eval]
      have hrun : (execOp (a.put (some d') (a.eval (.tmp s))).eval ⟨none, .defer ⟨.value (.func g), ⟨[.tmp d']⟩, t2⟩, t3, p2, e2, none⟩).run P w = .ok (.defer ⟨.fn (.func g) #[], #[(a.put (some d') (a.eval (.tmp s))).tmps.getD d' undef]⟩) w := by
       show Sem.run P (do let d ← resolve _ _ _; pure (Next.defer d)) w = _
       rw [Sem.run_bind, hres]
       rfl
      unfold Oper.wp
      rw [hrun, Oper.upon_defer, hval]
      refine wp_seq (wp_mono (vcode_wp (μ0 := μ0) (h0 := h0) (w0 := w0) vdraw_ok tail 1000000 _ _ μ lam _ w hk R E1) ?_)
      rintro e a' w' ⟨st2, μ2, lam2, hq, p⟩
      cases e with
      | normal =>
       refine wp_ret ?_
       have hds : a'.defers = [⟨.fn (.func g) #[], #[a.tmps.getD s undef]⟩] := by rw [p.defers]; show _ :: a.defers = _; rw [hd]
       show Leaves P fn a'.tmps _ a'.defers .returning w'
       rw [hds]
       refine leaves_cons (f := g) (args := [a.tmps.getD s undef].toArray) (by simp) ?_ ((hq.2 μ2 w' [a.tmps.getD s undef] .returning p.rel.heap ⟨_, _, rfl, hrel.mono p.le, rfl⟩).mono ?_)
       ·show (callFunc g (#[] ++ #[a.tmps.getD s undef])).run P w' = _
        rw [run_callFunc hq.1]; rfl
       ·rintro e u' w2 ⟨rfl, v2, x2, h2, μ3, rfl, hv2, hev, hh, hr2⟩
        have R3 := p.rel.call hev hh
        have E3 := p.env.mono hev.le (lamLe.refl _)
        obtain ⟨v3, x3, g1, g2, g3⟩ := run_results (st := ⟨st2.ρ, st2.L, h2⟩) R3 E3 hv2
        exact ⟨v3, g1, v3, x3, h2, μ3, rfl, g2, R3.evo, R3.heap, g3⟩
      | _ => exact hq.elim
     ·cases hi
    ·cases hi
   ·cases hi
  ·exact hk.elim
 ·exact hk.elim
theorem spine_wp {H : Hints} {fn : Func} {Q : AV → Heap → Prop} : ∀ (n : Nat) (c : Code) (st : St) (μ : Ren) (lam : List Nat) (a : Act) (w : World), vspine P H fn Q n c st →
  Rel μ0 h0 w0 μ lam st.L st.h w → EnvRel μ lam st.ρ a.tmps → a.defers = [] → c.wp P (bodyPostD P fn (CallPost μ0 h0 w0 Q)) a w
 | 0, c, st, μ, lam, a, w, hk, R, E, hd => by
  unfold vspine at hk
  split at hk
  ·exact tail_wp hk R E hd
  ·exact hk.elim
 | n + 1, c, st, μ, lam, a, w, hk, R, E, hd => by
  unfold vspine at hk
  split at hk
  ·refine wp_seq (wp_mono (vcode_wp (μ0 := μ0) (h0 := h0) (w0 := w0) vdraw_ok _ 1000000 _ _ μ lam a w hk R E) ?_)
   rintro e a' w' ⟨st2, μ2, lam2, hq, p⟩
   have hds : a'.defers = [] := by rw [p.defers, hd]
   cases e with
   | normal => exact spine_wp n _ st2 μ2 lam2 a' w' hq p.rel p.env hds
   | ret =>
    obtain ⟨v, x, g1, g2, g3⟩ := run_results p.rel p.env hq
    show Leaves P fn a'.tmps _ a'.defers .returning w'
    rw [hds]
    exact ⟨v, g1, v, x, st2.h, μ2, rfl, g2, p.rel.evo, p.rel.heap, g3⟩
   | _ => exact hq.elim
  ·exact hk.elim
end
def VCD (P : Program) (H : Hints) (n : Nat) (f : FuncId) (args : List AV) (h : Heap) (Q : AV → Heap → Prop) : Prop :=
 match P.funcs[f]? with
 | none => False
 | some fn => match fn.body with
  | none => False
  | some c => vspine P H fn Q n c ⟨args.map .val ++ List.replicate (fn.ntmps - args.length) .top, [], h⟩
theorem AC_of_VCD {H : Hints} {n : Nat} {f : FuncId} {args : List AV} {h : Heap} {Q : AV → Heap → Prop} (hn : notCount P f = true) (hk : VCD P H n f args h Q) : AC P f args h Q := by
 unfold VCD at hk
 unfold notCount at hn
 cases hf : P.funcs[f]? with
 | none => simp only [hf] at hk
 | some fn =>
  simp only [hf] at hk hn
  cases hb : fn.body with
  | none => simp only [hb] at hk
  | some c =>
   simp only [hb] at hk
   have hn : (fn.name == "runtime.NumGoroutine") = false ∧ Nat.beq f 1000000000 = false := by simpa only [Bool.and_eq_true, Bool.not_eq_true'] using hn
   obtain ⟨hn, hy⟩ := hn
   refine ⟨by simp only [callable, hf, hb, hn, hy]; rfl, fun μ w vs hh hv => ?_⟩
   have R : Rel μ h w μ [] [] h w := ⟨Evo.refl μ h w, hh, ⟨rfl, by simp, by simp, by simp, by simp⟩⟩
   exact calls_of_wp_defers hf hb (spine_wp n c _ μ [] _ w hk R (start_env (n := fn.ntmps) hv) rfl)
theorem AC_byD {H : Hints} {n : Nat} {f : FuncId} {args : List AV} {h : Heap} {Q : AV → Heap → Prop} {A : Prop} (hn : notCount P f = true) (e : A = VCD P H n f args h Q) (hk : A) : AC P f args h Q :=
 AC_of_VCD hn (e ▸ hk)
end
end Go.Ab
