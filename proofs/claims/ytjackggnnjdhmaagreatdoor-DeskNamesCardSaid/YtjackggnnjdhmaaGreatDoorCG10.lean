import Derived.Test.YtjackggnnjdhmaaGreatDoorCG5
import Derived.Test.YtjackggnnjdhmaaGreatDoorCG7
import Derived.Test.YtjackggnnjdhmaaGreatDoorCG8
import Derived.Test.YtjackggnnjdhmaaGreatDoorCG9
import Derived.OpenShut
import Derived.LaidLaws
import Derived.FnData
import Derived.SevenTiedAt
import Derived.KernelRfl
import Derived.JoinedOf
namespace Go.Ab
set_option linter.unusedSimpArgs false
set_option linter.unusedVariables false
noncomputable def mrg (l : List Blk) : Nat → Sp → List Blk := List.rec (motive := fun _ => Nat → Sp → List Blk) (fun _ _ => []) (fun B _ ih n C => List.rec (motive := fun _ => List Blk) (B :: ih (Nat.succ n) []) (fun p C' _ => Bool.rec (motive := fun _ => List Blk) (B :: ih (Nat.succ n) (p :: C')) (p.2 :: ih (Nat.succ n) C') (Nat.beq p.1 n)) C) l
noncomputable def ascB (C : Sp) : Nat → Bool := List.rec (motive := fun _ => Nat → Bool) (fun _ => true) (fun p _ ih n => ifB (Nat.ble n p.1) (ih (Nat.succ p.1)) false) C
def Asc : Sp → Nat → Prop
 | [], _ => True
 | p :: C, n => n ≤ p.1 ∧ Asc C (p.1 + 1)
theorem ascB_ok : ∀ {C : Sp} {n : Nat}, ascB C n = true → Asc C n
 | [], _, _ => trivial
 | p :: C, n, h => by
  obtain ⟨h1, h2⟩ := and_tt (show ifB (Nat.ble n p.1) (ascB C (Nat.succ p.1)) false = true from h)
  exact ⟨Nat.le_of_ble_eq_true h1, ascB_ok h2⟩
theorem Asc.ge : ∀ {C : Sp} {n : Nat}, Asc C n → ∀ p ∈ C, n ≤ p.1
 | [], _, _, p, hp => by cases hp
 | q :: C, n, h, p, hp => by
  rcases List.mem_cons.1 hp with e | hp
  ·rw [e]; exact h.1
  ·have := Asc.ge h.2 p hp; have := h.1; omega
theorem shift_cons : ∀ {C : Sp} {n : Nat} {B : Blk} {l : List Blk}, (∀ p ∈ C, n + 1 ≤ p.1) → C.foldl (fun h p => h.set (p.1 - n) p.2) (B :: l) = B :: C.foldl (fun h p => h.set (p.1 - (n + 1)) p.2) l
 | [], n, B, l, _ => rfl
 | p :: C, n, B, l, h => by
  have hp := h p List.mem_cons_self
  rw [List.foldl_cons, List.foldl_cons]
  have : (B :: l).set (p.1 - n) p.2 = B :: l.set (p.1 - (n + 1)) p.2 := by
   rw [show p.1 - n = (p.1 - (n + 1)) + 1 by omega, List.set_cons_succ]
  rw [this]
  exact shift_cons fun q hq => h q (List.mem_cons_of_mem _ hq)
theorem mrg_eq : ∀ {l : List Blk} {n : Nat} {C : Sp}, Asc C n → mrg l n C = C.foldl (fun h p => h.set (p.1 - n) p.2) l
 | [], n, C, h => by
  show ([] : List Blk) = _
  have : ∀ C : Sp, C.foldl (fun h p => h.set (p.1 - n) p.2) ([] : List Blk) = [] := fun C => by
   induction C with
   | nil => rfl
   | cons p C ih => rw [List.foldl_cons]; exact ih
  exact (this C).symm
 | B :: l, n, [], h => by
  show B :: mrg l (n + 1) [] = _
  rw [mrg_eq (l := l) (C := []) trivial]; rfl
 | B :: l, n, p :: C, h => by
  have h' : mrg (B :: l) n (p :: C) = Bool.rec (motive := fun _ => List Blk) (B :: mrg l (n + 1) (p :: C)) (p.2 :: mrg l (n + 1) C) (Nat.beq p.1 n) := rfl
  rw [h']
  cases hb : Nat.beq p.1 n with
  | true =>
   have e := Nat.eq_of_beq_eq_true hb
   show p.2 :: mrg l (n + 1) C = _
   rw [mrg_eq (l := l) (n := n + 1) (C := C) (by rw [← e]; exact h.2), List.foldl_cons, e, Nat.sub_self, List.set_cons_zero]
   refine (shift_cons fun q hq => ?_).symm
   have := Asc.ge h.2 q hq
   omega
  | false =>
   have hne := Nat.ne_of_beq_eq_false hb
   have h1 : n + 1 ≤ p.1 := by have := h.1; omega
   show B :: mrg l (n + 1) (p :: C) = _
   rw [mrg_eq (l := l) (n := n + 1) (C := p :: C) ⟨h1, h.2⟩]
   refine (shift_cons fun q hq => ?_).symm
   rcases List.mem_cons.1 hq with e | hq
   ·rw [e]; exact h1
   ·have := Asc.ge h.2 q hq; omega
noncomputable def appL (l m : List Blk) : List Blk := List.rec (motive := fun _ => List Blk) m (fun B _ ih => B :: ih) l
theorem appL_eq : ∀ (l m : List Blk), appL l m = l ++ m
 | [], m => rfl
 | B :: l, m => by show B :: appL l m = _; rw [appL_eq l m]; rfl
noncomputable def EntM.h2 (x : EntM) : List Blk := appL (mrg x.H 0 x.C) x.N
theorem EntM.h2_eq {x : EntM} (h : ascB x.C 0 = true) : x.h2 = x.H2 := by
 unfold EntM.h2 EntM.H2
 rw [appL_eq, mrg_eq (ascB_ok h)]; rfl
theorem EntM.H2_length (x : EntM) : x.H2.length = x.H.length + x.N.length := by
 unfold EntM.H2; rw [List.length_append, foldl_set_length]
noncomputable def endM (x : EntM) (v : AV) (e : EH) : Bool := ifB (ascB x.C 0) (fN x.H.length fun n => fN (Nat.add n x.N.length) fun n2 => bld x.h2 ⟨.e, 0⟩ fun e2 => chk n n2 [x.v] (enumD x.h2 0) e2.t [v] e fun _ => true) false
theorem endM_ok {x : EntM} {v : AV} {e : EH} {h : Heap} (H : HFor e h) (hk : endM x v e = true) : ∃ g, Emb x.H.length g x.v x.H2 v h := by
 obtain ⟨h1, hk⟩ := and_tt hk
 rw [fN_eq, fN_eq] at hk
 obtain ⟨e2, _, hk⟩ := bld_ok HFor_nil hk
 obtain ⟨G, g1, S, g3, g4, g5, _⟩ := chk_ok H hk
 have hl : Nat.add x.H.length x.N.length = x.H2.length := x.H2_length.symm
 rw [hl, EntM.h2_eq h1, enumD_eq] at S
 rw [hl] at g4
 refine ⟨G, ⟨g1, by rw [x.H2_length]; omega, by have := S.len; exact S, ?_, ?_⟩⟩
 ·simpa [lowL] using g4
 ·simp only [renL, List.cons.injEq, and_true] at g3
  exact g3
noncomputable def entMR (run : RunT) (x : EntM) : Bool := bld x.H ⟨.e, 0⟩ fun e0 => run x.a e0 fun v e1 => endM x v e1
theorem entMR_ok {P : Program} {f : FuncId} {run : RunT} (R : RunOK P f run) {x : EntM} (h : entMR run x = true) : EntMOK P f x := by
 obtain ⟨e0, E0, hk⟩ := bld_ok HFor_nil h
 rw [List.nil_append] at E0
 refine AC_embed (R x.a e0 x.H _ _ E0 (fun v e1 h1 H1 hk1 => ?_) hk)
 obtain ⟨g, E⟩ := endM_ok H1 hk1
 exact ⟨g, x.v, x.H2, E, rfl, rfl⟩
theorem entM_of {P : Program} {f : FuncId} {x : EntM} {vL : AV} {n : Nat} {S : Sp} (A : AC P f x.a x.H fun v h' => v = vL ∧ h' = spH n S) (h : (bldS n S fun e => endM x vL e) = true) : EntMOK P f x := by
 obtain ⟨e, E, hk⟩ := bldS_ok h
 obtain ⟨g, M⟩ := endM_ok E hk
 exact AC_embed (A.mono fun v h' ⟨h1, h2⟩ => ⟨g, x.v, x.H2, by rw [h1, h2]; exact M, rfl, rfl⟩)
def Picks (P : Program) (f : FuncId) (x : AV) : Nat → Int → Heap → (Heap → Prop) → Prop
 | 0, _, h, R => R h
 | n + 1, i, h, R => AC P f [x, .int .i64 i] h fun v h' => v = .bool true ∧ Picks P f x n (i + 1) h' R
theorem Picks.mono {P : Program} {f : FuncId} {x : AV} : ∀ {n : Nat} {i : Int} {h : Heap} {R R' : Heap → Prop}, Picks P f x n i h R → (∀ h, R h → R' h) → Picks P f x n i h R'
 | 0, _, h, _, _, H, hr => hr h H
 | n + 1, i, h, R, R', H, hr => AC.mono H fun v h' ⟨h1, h2⟩ => ⟨h1, h2.mono hr⟩
theorem Picks.add {P : Program} {f : FuncId} {x : AV} {m : Nat} {R : Heap → Prop} : ∀ {n : Nat} {i : Int} {h : Heap}, Picks P f x n i h (fun h' => Picks P f x m (i + n) h' R) → Picks P f x (n + m) i h R
 | 0, i, h, H => by simpa [Picks] using H
 | n + 1, i, h, H => by
  rw [show n + 1 + m = (n + m) + 1 by omega]
  refine AC.mono H fun v h' ⟨h1, h2⟩ => ⟨h1, Picks.add (h2.mono fun h'' h3 => ?_)⟩
  rw [show i + 1 + (n : Int) = i + ((n + 1 : Nat) : Int) by omega]
  exact h3
theorem Picks.join {P : Program} {f : FuncId} {x : AV} {n m : Nat} {i j : Int} {h h1 : Heap} {R : Heap → Prop} (A : Picks P f x n i h fun h' => h' = h1) (B : Picks P f x m j h1 R) (hj : j = i + n) : Picks P f x (n + m) i h R :=
 Picks.add (A.mono fun h' e => by rw [e, ← hj]; exact B)
noncomputable def isB (b : Bool) (v : AV) : Bool := AV.mbool v (fun c => blEq b c) false
theorem isB_ok {b : Bool} {v : AV} (h : isB b v = true) : v = .bool b := by
 cases v <;> first | (rw [blEq_ok (show blEq b _ = true from h)]; done) | cases h
noncomputable def picksR (run : RunT) (x : AV) (n : Nat) : Int → EH → (Int → EH → Bool) → Bool := Nat.rec (motive := fun _ => Int → EH → (Int → EH → Bool) → Bool) (fun i e κ => κ i e) (fun _ ih i e κ => run [x, .int .i64 i] e fun v e' => ifB (isB true v) (fI (i + 1) fun j => ih j e' κ) false) n
theorem picksR_ok {P : Program} {f : FuncId} {run : RunT} (R : RunOK P f run) {x : AV} : ∀ {n : Nat} {i : Int} {e : EH} {h : Heap} {κ : Int → EH → Bool} {Q : Heap → Prop}, HFor e h → (∀ e' h', HFor e' h' → κ (i + n) e' = true → Q h') → picksR run x n i e κ = true → Picks P f x n i h Q
 | 0, i, e, h, κ, Q, H, hQ, hk => hQ e h H (by have h2 : κ i e = true := hk; simpa using h2)
 | n + 1, i, e, h, κ, Q, H, hQ, hk => by
  refine R [x, .int .i64 i] e h _ _ H (fun v e1 h1 H1 hk1 => ?_) (show run [x, .int .i64 i] e (fun v e' => ifB (isB true v) (fI (i + 1) fun j => picksR run x n j e' κ) false) = true from hk)
  obtain ⟨c1, hk1⟩ := and_tt hk1
  rw [fI_eq] at hk1
  refine ⟨isB_ok c1, picksR_ok R H1 (fun e' h' H' hk' => hQ e' h' H' ?_) hk1⟩
  rw [show i + ((n + 1 : Nat) : Int) = i + 1 + (n : Int) by omega]
  exact hk'
noncomputable def endS (n : Nat) (S : Sp) (m : Nat) (e : EH) : Bool := ifB (Nat.ble m n) (bldS n S fun eH => chk m n [] S eH.t [] e fun _ => true) false
theorem endS_ok {n m : Nat} {S : Sp} {e : EH} {h : Heap} (H : HFor e h) (hk : endS n S m e = true) (b : Bool) : ∃ g, Emb m g (.bool b) (spH n S) (.bool b) h := by
 obtain ⟨h1, hk⟩ := and_tt hk
 obtain ⟨eH, _, hk⟩ := bldS_ok hk
 obtain ⟨G, g1, S', _, _, _, _⟩ := chk_ok H hk
 have hl : (spH n S).length = n := spH_length n S
 exact ⟨G, ⟨g1, by rw [hl]; exact Nat.le_of_ble_eq_true h1, by rw [hl]; exact S', rfl, rfl⟩⟩
noncomputable def partR (run : RunT) (x : AV) (b : Bool) (n : Nat) (i : Int) (n1 : Nat) (S1 : Sp) (n2 : Nat) (S2 : Sp) : Bool :=
 bldS n1 S1 fun e0 => picksR run x n i e0 fun j e1 => run [x, .int .i64 j] e1 fun v e2 => ifB (isB b v) (endS n2 S2 e1.n e2) false
theorem partR_ok {P : Program} {f : FuncId} {run : RunT} (R : RunOK P f run) {x : AV} {b : Bool} {n : Nat} {i : Int} {n1 n2 : Nat} {S1 S2 : Sp} (h : partR run x b n i n1 S1 n2 S2 = true) :
  Picks P f x n i (spH n1 S1) fun h => AC P f [x, .int .i64 (i + n)] h fun v h' => v = .bool b ∧ h' = spH n2 S2 := by
 obtain ⟨e0, E0, hk⟩ := bldS_ok h
 refine picksR_ok R E0 (fun e1 h1 H1 hk1 => ?_) hk
 refine AC_embed (R _ e1 h1 _ _ H1 (fun v e2 h2 H2 hk2 => ?_) hk1)
 obtain ⟨c1, hk2⟩ := and_tt hk2
 obtain ⟨g, E⟩ := endS_ok H2 hk2 b
 rw [isB_ok c1]
 exact ⟨g, .bool b, spH n2 S2, by rw [← H1.2]; exact E, rfl, rfl⟩
theorem partR_t {P : Program} {f : FuncId} {run : RunT} (R : RunOK P f run) {x : AV} {n : Nat} {i : Int} {n1 n2 : Nat} {S1 S2 : Sp} (h : partR run x true n i n1 S1 n2 S2 = true) : Picks P f x (n + 1) i (spH n1 S1) fun h => h = spH n2 S2 :=
 Picks.add (m := 1) ((partR_ok R h).mono fun h1 A => AC.mono A fun v h' ⟨e1, e2⟩ => ⟨e1, e2⟩)
def hasRF : Code → Bool
 | .rangeFunc .. => true
 | .seq a b => hasRF a || hasRF b
 | .cond _ a b => hasRF a || hasRF b
 | .block _ a => hasRF a
 | .loop a => hasRF a
 | .scope a => hasRF a
 | _ => false
section
variable (P : Program) (H : Hints) (HI : FuncId → Hints)
def VRange (g : Operand) (ps : Array Tmp) (assign body : Code) (st : St) (K : Heap → Prop) : Prop :=
 st.L = [] ∧ (In.flat assign && In.flat body) = true ∧ match ev st.ρ g with
 | .val (.func (.func gf) [] caps) => (match P.funcs[gf]? with
  | some fg => (match fg.body with
   | some cg => (In.flat cg && callable P gf) = true ∧ vcode P (HI gf) (callY P st.h.length (YOf P H st.ρ ps assign body)) (vdraw P (HI gf).loc (callY P st.h.length (YOf P H st.ρ ps assign body))) cg 1000000
     ⟨(.func (.yield st.h.length) [] [] :: caps).map .val ++ List.replicate (fg.ntmps - (AV.func (.yield st.h.length) [] [] :: caps).length) .top, [], st.h ++ [.dead]⟩ fun e st' => match e with
      | .normal => vret P fg st' fun _ h' => K h'
      | .ret => vret P fg st' fun _ h' => K h'
      | _ => False
   | none => False)
  | none => False)
 | _ => False
def vsp : Code → Nat → St → (Exit → St → Prop) → Prop
 | .seq a b, cur, st, Q => match hasRF a with
  | true => In.flat b = true ∧ vsp a cur st fun e st' => match e with
   | .normal => st'.L = [] ∧ vcode P H (AC P) (vdraw P H.loc (AC P)) b cur st' Q
   | e => Q e st'
  | false => In.flat a = true ∧ vcode P H (AC P) (vdraw P H.loc (AC P)) a cur st fun e st' => match e with
   | .normal => vsp b cur st' Q
   | e => Q e st'
 | .block id c, _, st, Q => vsp c id st fun e st' => match e with
  | .exit i => (match i == id with | true => Q .normal st' | false => Q (.exit i) st')
  | e => Q e st'
 | .rangeFunc g ps assign body, _, st, Q => VRange P H HI g ps assign body st fun h' => Q .normal ⟨st.ρ, [], h'⟩
 | _, _, _, _ => False
end
section
variable {P : Program} {H : Hints} {HI : FuncId → Hints} {μ0 : Ren} {h0 : Heap} {w0 : World}
def Marks (w0 : World) (ds ds' : List Deferred) (w' : World) : Prop := ds' = ds ∨ ∃ D, ds' = { target := .collected D, args := #[] } :: ds ∧ w0.heap.size ≤ D ∧ w'.heap[D]? = some (.deferred (some []))
def MPost (μ0 : Ren) (h0 : Heap) (w0 : World) (μ : Ren) (a : Act) (Q : Exit → St → Prop) (e : Exit) (a' : Act) (w' : World) : Prop :=
 ∃ st μ' lam', Q e st ∧ Rel μ0 h0 w0 μ' lam' st.L st.h w' ∧ EnvRel μ' lam' st.ρ a'.tmps ∧ Ren.le μ μ' ∧ Marks w0 a.defers a'.defers w'
theorem Marks.later {w1 w' : World} {ds ds' : List Deferred} {μ1 μ' : Ren} {h1 h' : Heap} (M : Marks w0 ds ds' w1) (ev : Evo μ1 h1 w1 μ' h' w') (hh : HRel μ1 h1 w1) : Marks w0 ds ds' w' := by
 rcases M with rfl | ⟨D, rfl, h1, h2⟩
 ·exact .inl rfl
 ·exact .inr ⟨D, rfl, h1, by rw [ev.alien hh (alien_deferred h2), h2]⟩
theorem LRel.start {w1 w' : World} {μ : Ren} {h : Heap} {lam : List Nat} {L : Locs} (R : LRel w1 μ h lam L w') (hs : w0.heap.size ≤ w1.heap.size) : LRel w0 μ h lam L w' :=
 ⟨R.len, R.blk, R.inj, R.sep, fun k r hk => ⟨Nat.le_trans hs (R.new k r hk).1, (R.new k r hk).2⟩⟩
theorem vsp_wp {n : Nat} : ∀ (c : Code) (cur : Nat) (st : St) (Q : Exit → St → Prop) (μ : Ren) (lam : List Nat) (a : Act) (w : World), vsp P H HI c cur st Q → Rel μ0 h0 w0 μ lam st.L st.h w → EnvRel μ lam st.ρ a.tmps → c.wpIn Fence.wide (n + 1) P (MPost μ0 h0 w0 μ a Q) a w
 | .seq x y, cur, st, Q, μ, lam, a, w, hk, R, E => by
  unfold vsp at hk
  split at hk
  ·obtain ⟨hfl, hk⟩ := hk
   refine wpIn_seq (wpIn_mono (vsp_wp x cur st _ μ lam a w hk R E) fun e a' w' ⟨st', μ', lam', hq, R', E', hle, M⟩ => ?_)
   cases e with
   | normal =>
    obtain ⟨hL, hq⟩ := hq
    obtain ⟨ρ', L', h'⟩ := st'
    simp only at hL
    subst hL
    have hlam : lam' = [] := List.eq_nil_of_length_eq_zero R'.locs.len
    subst hlam
    refine wpIn_mono (In.vcode_wp (n0 := n + 1) inOK_wide (In.vdraw_ok inOK_wide) y cur _ Q μ' [] a' w' hq (rel_start R'.heap) E' hfl) fun e2 a2 w2 ⟨st2, μ2, lam2, hq2, p2⟩ => ?_
    refine ⟨st2, μ2, lam2, hq2, ⟨R'.evo.trans p2.rel.evo, p2.rel.heap, p2.rel.locs.start R'.evo.size⟩, p2.env, hle.trans p2.le, ?_⟩
    rw [p2.defers]
    exact M.later p2.rel.evo R'.heap
   | _ => exact ⟨st', μ', lam', hq, R', E', hle, M⟩
  ·obtain ⟨hfl, hk⟩ := hk
   refine wpIn_seq (wpIn_mono (In.vcode_wp (n0 := n + 1) inOK_wide (In.vdraw_ok inOK_wide) x cur st _ μ lam a w hk R E hfl) fun e a' w' ⟨st', μ', lam', hq, p⟩ => ?_)
   cases e with
   | normal =>
    refine wpIn_mono (vsp_wp y cur st' Q μ' lam' a' w' hq p.rel p.env) fun e2 a2 w2 ⟨st2, μ2, lam2, hq2, R2, E2, hle, M⟩ => ?_
    rw [p.defers] at M
    exact ⟨st2, μ2, lam2, hq2, R2, E2, p.le.trans hle, M⟩
   | _ => exact ⟨st', μ', lam', hq, p.rel, p.env, p.le, .inl p.defers⟩
 | .block id body, cur, st, Q, μ, lam, a, w, hk, R, E => by
  simp only [vsp] at hk
  refine wpIn_block (wpIn_mono (vsp_wp body id st _ μ lam a w hk R E) fun e a' w' ⟨st', μ', lam', hq, rest⟩ => ?_)
  cases e with
  | exit i =>
   simp only at hq
   show Exit.inBlock id _ (.exit i) a' w'
   simp only [Exit.inBlock]
   split at hq
   ·rename_i hi
    rw [if_pos (by simpa using hi)]
    exact ⟨st', μ', lam', hq, rest⟩
   ·rename_i hi
    rw [if_neg (by simpa using hi)]
    exact ⟨st', μ', lam', hq, rest⟩
  | _ => exact ⟨st', μ', lam', hq, rest⟩
 | .rangeFunc g ps assign body, cur, st, Q, μ, lam, a, w, hk, R, E => by
  obtain ⟨hL, hfl, hk⟩ := hk
  obtain ⟨ρ, L, h⟩ := st
  simp only at hL
  subst hL
  have hlam : lam = [] := List.eq_nil_of_length_eq_zero R.locs.len
  subst hlam
  rw [Bool.and_eq_true] at hfl
  simp only at hk R E
  split at hk
  ·rename_i gf caps hg
   split at hk
   ·rename_i fg hf
    split at hk
    ·rename_i cg hb
     obtain ⟨hfc, hk⟩ := hk
     rw [Bool.and_eq_true] at hfc
     refine range_wp R.heap E hfl.1 hfl.2 hg hf hb hfc.1 hfc.2 hk fun μ' h' w' hq ev hh hd hs => ?_
     have R2 : Rel μ0 h0 w0 μ' [] [] h' w' := R.call ev hh
     exact ⟨⟨ρ, [], h'⟩, μ', [], hq, R2, E.mono ev.le (lamLe.refl _), ev.le, .inr ⟨_, rfl, R.evo.size, hd⟩⟩
    ·exact hk.elim
   ·exact hk.elim
  ·exact hk.elim
 | .skip, cur, st, Q, μ, lam, a, w, hk, R, E => hk.elim
 | .region .., cur, st, Q, μ, lam, a, w, hk, R, E => hk.elim
 | .cond .., cur, st, Q, μ, lam, a, w, hk, R, E => hk.elim
 | .loop _, cur, st, Q, μ, lam, a, w, hk, R, E => hk.elim
 | .exit _, cur, st, Q, μ, lam, a, w, hk, R, E => hk.elim
 | .ret, cur, st, Q, μ, lam, a, w, hk, R, E => hk.elim
 | .scope _, cur, st, Q, μ, lam, a, w, hk, R, E => hk.elim
 | .label _, cur, st, Q, μ, lam, a, w, hk, R, E => hk.elim
 | .goto _, cur, st, Q, μ, lam, a, w, hk, R, E => hk.elim
 | .refuse _, cur, st, Q, μ, lam, a, w, hk, R, E => hk.elim
theorem evo_putA {μ : Ren} {h : Heap} {w : World} (ev : Evo μ0 h0 w0 μ h w) {D : Nat} (hD : w0.heap.size ≤ D) (o : Obj) : Evo μ0 h0 w0 μ h (w.putObj D o) :=
 ⟨ev.le, ev.hlen, by rw [World.putObj_size]; exact ev.size, fun r hr hn => by rw [World.putObj_heap_other (by omega)]; exact ev.frame r hr hn, ev.own, ev.liv, ev.os, ev.tape, ev.output⟩
theorem LRel.putA {w : World} {μ : Ren} {h : Heap} {lam : List Nat} {L : Locs} (R : LRel w0 μ h lam L w) {D : Nat} (hA : Alien w D) (o : Obj) : LRel w0 μ h lam L (w.putObj D o) := by
 refine ⟨R.len, fun k c r hc hr => ?_, R.inj, R.sep, fun k r hk => by rw [World.putObj_size]; exact R.new k r hk⟩
 obtain ⟨C, t, fz, h1, rest⟩ := R.blk k c r hc hr
 refine ⟨C, t, fz, ?_, rest⟩
 rw [World.putObj_heap_other, h1]
 rintro rfl
 obtain ⟨o', ho, hx, _⟩ := hA
 rw [h1] at ho
 cases ho
 exact hx _ _ _ rfl
theorem AC_of_vsp {f : FuncId} {fn : Func} {c : Code} {args : List AV} {h : Heap} {Q : AV → Heap → Prop} (hf : P.funcs[f]? = some fn) (hb : fn.body = some c) (hc : callable P f = true)
  (hk : vsp P H HI c 1000000 ⟨args.map .val ++ List.replicate (fn.ntmps - args.length) .top, [], h⟩ fun e st => match e with
    | .normal => vret P fn st Q
    | .ret => vret P fn st Q
    | _ => False) : AC P f args h Q := by
 refine ⟨hc, fun μ w vs hh hv => (callsIn_wide (n := 1)).1 ?_⟩
 have hvl := hv.length
 have E : EnvRel μ [] (args.map .val ++ List.replicate (fn.ntmps - args.length) .top) (vs.toArray ++ Array.replicate (fn.ntmps - vs.toArray.size) undef) := by
  refine ⟨by simp [hvl], fun t lv ht => ?_⟩
  rw [List.getElem?_append] at ht
  split at ht
  ·rename_i hlt
   simp at hlt
   simp only [List.getElem?_map, Option.map_eq_some_iff] at ht
   obtain ⟨x, hx, rfl⟩ := ht
   obtain ⟨y, hy, hxy⟩ := hv.get hx
   have hyl := lt_of_get hy
   have : (vs.toArray ++ Array.replicate (fn.ntmps - vs.toArray.size) undef).getD t undef = y := by
    rw [Array.getD_eq_getD_getElem?, Array.getElem?_append_left (by simpa using hyl)]
    simp [hy]
   rw [this]; exact hxy
  ·rw [List.getElem?_replicate] at ht
   split at ht
   ·cases ht; trivial
   ·cases ht
 refine callsIn_of_wp_marks hf hb trivial (wpIn_mono (vsp_wp (n := 0) c 1000000 _ _ μ [] { tmps := vs.toArray ++ Array.replicate (fn.ntmps - vs.toArray.size) undef, defers := [] } w hk (rel_start hh) E) ?_)
 rintro e a' w' ⟨st, μ', lam', hq, R, E', _, M⟩
 have fin : vret P fn st Q → LeavesInM Fence.wide (0 + 1) P fn a'.tmps (CallPost μ h w Q) a'.defers .returning w' := by
  intro hq
  rcases M with hd | ⟨D, hd, hD, hw⟩
  ·rw [hd]
   obtain ⟨v, x, g1, g2, g3⟩ := run_results R E' hq
   exact ⟨v, g1, v, x, st.h, μ', rfl, g2, R.evo, R.heap, g3⟩
  ·rw [hd]
   refine ⟨by simp, .inl ⟨D, _, rfl, run_takeDeferred hw, ?_⟩⟩
   have R2 : Rel μ h w μ' lam' st.L st.h (w'.putObj D (.deferred none)) := ⟨evo_putA R.evo hD _, R.heap.putA (alien_deferred hw) _, R.locs.putA (alien_deferred hw) _⟩
   obtain ⟨v, x, g1, g2, g3⟩ := run_results R2 E' hq
   exact ⟨v, g1, v, x, st.h, μ', rfl, g2, R2.evo, R2.heap, g3⟩
 cases e with
 | normal => exact fin hq
 | ret => exact fin hq
 | _ => exact hq.elim
end
end Go.Ab
namespace Go.Ab
open Go.Maps Go.MapKept
set_option linter.unusedSimpArgs false
set_option linter.unusedVariables false
theorem pwB_ok : ∀ {l : List (List UInt8)}, pwB l = true → l.Pairwise (fun a b => leB a b = true)
 | [], h => .nil
 | x :: l, h => by
  simp only [pwB, Bool.and_eq_true, List.all_eq_true] at h
  exact .cons h.1 (pwB_ok h.2)
theorem sortStr_ok : ∀ {l : List (List UInt8)} {k : List (List UInt8) → Bool}, sortStr l k = true → ∃ l', k l' = true
 | [], k, h => ⟨_, h⟩
 | s :: l, k, h => by
  unfold sortStr at h
  obtain ⟨r, hr⟩ := sortStr_ok (k := fun r => insStr s r k) (l := l) h
  have : ∀ {r : List (List UInt8)} {k : List (List UInt8) → Bool}, insStr s r k = true → ∃ l', k l' = true := by
   intro r
   induction r with
   | nil => intro k h; exact ⟨_, h⟩
   | cons t r ih =>
    intro k h
    unfold insStr at h
    split at h
    ·obtain ⟨l', h'⟩ := ih h; exact ⟨_, h'⟩
    ·exact ⟨_, h⟩
  exact this hr
theorem strAVs_eq : ∀ (l : List (List UInt8)) (k : List AV → Bool), strAVs l k = k (l.map .str)
 | [], k => rfl
 | s :: l, k => by simp only [strAVs, strAVs_eq l]; rfl
structure KSOk (P : Program) (keys : List (FuncId × FuncId)) (sorted : FuncId) (kt : TypeId) : Prop where
 str : P.underlying kt = some .string
 callS : callable P sorted = true
 callK : ∀ x ∈ keys, callable P x.1 = true
 laws : ∀ x ∈ keys, KeysLaw P x.1 x.2
 sort : ∀ x ∈ keys, SortedLaw P sorted x.2 kt
theorem ovKS_ok {P : Program} {keys : List (FuncId × FuncId)} {sorted : FuncId} {kt : TypeId} (O : KSOk P keys sorted kt) : OvrOK P (ovKS keys sorted) := by
 intro f g hg args e h k Q H hQ hk
 unfold ovKS at hg
 split at hg
 ·rename_i hf
  cases hg
  have hf' : f = sorted := by simpa using hf
  subst hf'
  unfold eSorted at hk
  split at hk
  ·rename_i f' p
   rw [Bool.and_eq_true, Bool.and_eq_true] at hk
   obtain ⟨⟨h1, h2⟩, hk⟩ := hk
   have ho : p.o = 0 := Nat.eq_of_beq_eq_true h2
   obtain ⟨x, hx, rfl⟩ : ∃ x ∈ keys, x.2 = f' := by
    have : f' ∈ keys.map (·.2) := by simpa using h1
    exact List.mem_map.1 this
   rw [H.1 p.b] at hk
   split at hk
   ·rename_i m hb
    rw [H.1 m] at hk
    split at hk
    ·rename_i es cl hm
     split at hk
     ·rename_i ss hss
      obtain ⟨ss', hk⟩ := sortStr_ok hk
      rw [Bool.and_eq_true] at hk
      obtain ⟨hc, hk⟩ := hk
      simp only [Bool.and_eq_true, decide_eq_true_eq, List.all_eq_true] at hc
      obtain ⟨⟨⟨⟨⟨⟨c1, c2⟩, c3⟩, c4⟩, c5⟩, c6⟩, c7⟩ := hc
      have hp : p = ⟨p.b, 0⟩ := by cases p; simp_all
      rw [hp]
      refine sorted_ac O.callS O.str (O.sort x hx) hb hm hss (List.isPerm_iff.1 c1) (pwB_ok c2) c3 c4 (fun e he => by have := c5 e he; simpa [Nat.blt_eq] using this) (Nat.le_of_ble_eq_true c6) (fun s hs => Nat.le_of_ble_eq_true (c7 s hs)) ?_
      split at hk
      ·exact hQ _ _ _ H hk
      ·rw [strAVs_eq] at hk
       obtain ⟨e', H', h3⟩ := eNew_ok H hk
       rw [fN_eq] at h3
       exact hQ _ _ _ H' h3
     ·simp at hk
    ·simp at hk
   ·simp at hk
  ·simp at hk
 ·split at hg
  ·rename_i f' g' hfind
   cases hg
   have hmem := List.mem_of_find?_eq_some hfind
   have hf' := List.find?_some hfind
   have : f' = f := by simpa using hf'
   subst this
   unfold eKeys at hk
   split at hk
   ·rename_i m
    obtain ⟨e', H', h1⟩ := eNewB_ok H hk
    exact keys_ac (O.callK _ hmem) (O.laws _ hmem) (hQ _ _ _ H' h1)
   ·simp at hk
  ·cases hg
end Go.Ab



namespace Go.Ab
set_option linter.unusedSimpArgs false
set_option linter.unusedVariables false
def laidHs : Nat → List (Nat × List AV) → Heap
 | _, [] => []
 | j, (g, c) :: gs => .gm g (j + 1) :: .cells c false :: laidHs (j + 2) gs
theorem laidHs_ro : ∀ (gs : List (Nat × List AV)) (j b : Nat) (B : Blk), (laidHs j gs)[b]? = some B → B.rw = false
 | [], j, b, B, h => by simp [laidHs] at h
 | (g, c) :: gs, j, b, B, h => by
  match b with
  | 0 => cases h; rfl
  | 1 => cases h; rfl
  | b + 2 => exact laidHs_ro gs (j + 2) b B h
def wlaidE : Nat → List (Nat × List AV) → EH → (EH → Bool) → Bool
 | _, [], h, k => k h
 | j, (g, c) :: gs, h, k => eNewB (.gm g (j + 1)) h fun _ h1 => eNewB (.cells c false) h1 fun _ h2 => wlaidE (j + 2) gs h2 k
theorem wlaidE_ok : ∀ (gs : List (Nat × List AV)) (j : Nat) (e : EH) (h : Heap) (k : EH → Bool), HFor e h → wlaidE j gs e k = true → ∃ e', HFor e' (h ++ laidHs j gs) ∧ k e' = true
 | [], j, e, h, k, H, hk => ⟨e, by simpa [laidHs] using H, hk⟩
 | (g, c) :: gs, j, e, h, k, H, hk => by
  obtain ⟨e1, h1, h2⟩ := eNewB_ok H hk
  obtain ⟨e2, h3, h4⟩ := eNewB_ok h1 h2
  obtain ⟨e', H', h5⟩ := wlaidE_ok gs (j + 2) _ _ k h3 h4
  exact ⟨e', by simpa [laidHs] using H', h5⟩
theorem HRel.pre {μ : Ren} {h : Heap} {w : World} (hh : HRel μ h w) {gs : List (Nat × List AV)} (hp : ∀ i, i < (laidHs 0 gs).length → h[i]? = (laidHs 0 gs)[i]?) (hl : (laidHs 0 gs).length ≤ h.length)
  (hg : ∀ (i g j : Nat), (laidHs 0 gs)[i]? = some (.gm g j) → j < (laidHs 0 gs).length)
  (hc : ∀ (i : Nat) (c : List AV) (rw : Bool), (laidHs 0 gs)[i]? = some (.cells c rw) → ∀ x ∈ c, ∀ (μ μ' : Ren) (y : Value), x.rel μ y → x.rel μ' y)
  (ho : ∀ (i : Nat) (B : Blk), (laidHs 0 gs)[i]? = some B → (∃ g j, B = .gm g j) ∨ ∃ c r, B = .cells c r) : HRel (μ.take (laidHs 0 gs).length) (laidHs 0 gs) w := by
 have tk : ∀ i, i < (laidHs 0 gs).length → (μ.take (laidHs 0 gs).length)[i]? = μ[i]? := fun i hi => by rw [List.getElem?_take, if_pos hi]
 refine ⟨by rw [List.length_take, hh.len]; omega, ?_, ?_, ?_⟩
 ·intro b B e hb he
  have hi := lt_of_get hb
  rw [tk b hi] at he
  have h1 := hh.blk b B e (by rw [hp b hi]; exact hb) he
  rcases ho b B hb with ⟨g, j, rfl⟩ | ⟨c, r, rfl⟩
  ·obtain ⟨m, k1, k2, k3⟩ := h1
   exact ⟨m, by rw [tk j (hg b g j hb)]; exact k1, k2, k3⟩
  ·obtain ⟨C, t, fz, k1, k2, k3, k4, k5, k6⟩ := h1
   exact ⟨C, t, fz, k1, k2, k3, k4, fun i x hx => let ⟨y, hy, hr⟩ := k5 i x hx; ⟨y, hy, hc b c r hb x (List.mem_of_getElem? hx) _ _ _ hr⟩, k6⟩
 ·intro b1 b2 B1 B2 e1 e2 hne hb1 hb2 hr
  rw [laidHs_ro gs 0 b1 B1 hb1] at hr; cases hr
 ·intro b e he
  have hi : b < (laidHs 0 gs).length := by
   have := lt_of_get he
   rw [List.length_take] at this; omega
  rw [tk b hi] at he
  exact hh.bnd b e he
theorem AC_frame_gs {P : Program} {f : FuncId} {args : List AV} {gs : List (Nat × List AV)} {h : Heap} {v : AV} {Q : AV → Heap → Prop} (H : AC P f args (laidHs 0 gs) fun x _ => x = v) (ha : ∀ (μ μ' : Ren) (vs : List Value), relL μ args vs → relL μ' args vs) (hv : ∀ (μ μ' : Ren) (x : Value), v.rel μ x → v.rel μ' x)
  (hp : ∀ (μ : Ren) (w : World), HRel μ h w → ∃ μ1, HRel μ1 (laidHs 0 gs) w) (hq : Q v h) : AC P f args h Q := by
 refine ⟨H.1, fun μ w vs hh hx => ?_⟩
 obtain ⟨μ1, hh1⟩ := hp μ w hh
 have := H.2 μ1 w vs hh1 (ha μ μ1 vs hx)
 refine this.mono fun e w' ⟨x, y, h', μ', he, hy, ev, _, hr⟩ => ?_
 subst hy
 have hB : ∀ k, k < w.heap.size → w'.heap[k]? = w.heap[k]? := fun k hk => ev.frame k hk (fun b B e hb hrw _ => by rw [laidHs_ro gs 0 b B hb] at hrw; cases hrw)
 refine ⟨x, y, h, μ, he, hq, ⟨.refl _, Nat.le_refl _, ev.size, fun k hk _ => hB k hk, fun b B e hb hrw he => .inr ⟨b, B, e, hb, hrw, he, rfl⟩, fun b B e hb hrw he => .inr ⟨b, B, e, hb, hrw, he, rfl⟩, ev.os, ev.tape, ev.output⟩, ?_, hv _ _ _ hr⟩
 exact ⟨hh.len, fun b B e hb he => (hh.blk b B e hb he).world (hB _ (hh.bnd b e he)), hh.sep, fun b e he => Nat.lt_of_lt_of_le (hh.bnd b e he) ev.size⟩
theorem HRel.lay {μ : Ren} {h : Heap} {W : World} (hh : HRel μ h W) (hro : ∀ (b : Nat) (B : Blk), h[b]? = some B → B.rw = false) {g : Nat} {c : List AV} {C : Array Value} {t : TypeId} {fz : Nat × Nat} (hb : W.heap[g]? = some (.cells C t fz)) (hl : C.size = c.length) (ho : oneAll c = true)
  (hc : ∀ (μ : Ren) (i : Nat) (x : AV), c[i]? = some x → ∃ y, C[i]? = some y ∧ x.rel μ y) (hm : ∀ (b g j : Nat), h[b]? = some (.gm g j) → j < h.length)
  (hs : ∀ (b : Nat) (c : List AV) (r : Bool), h[b]? = some (.cells c r) → ∀ x ∈ c, ∀ (μ μ' : Ren) (y : Value), x.rel μ y → x.rel μ' y) (hk : ∀ (i : Nat) (B : Blk), h[i]? = some B → (∃ g j, B = .gm g j) ∨ ∃ c r, B = .cells c r) :
  HRel (μ ++ [⟨g, 0, 0⟩, ⟨g, 0, C.size⟩]) (h ++ [.gm g (h.length + 1), .cells c false]) W := by
 have hsz : g < W.heap.size := by
  rcases Nat.lt_or_ge g W.heap.size with h | h
  ·exact h
  ·simp [Array.getElem?_eq_none h] at hb
 have hlen := hh.len
 have old : ∀ i, i < h.length → (μ ++ [(⟨g, 0, 0⟩ : ME), ⟨g, 0, C.size⟩])[i]? = μ[i]? := fun i hi => List.getElem?_append_left (by omega)
 have n0 : (μ ++ [(⟨g, 0, 0⟩ : ME), ⟨g, 0, C.size⟩])[h.length]? = some ⟨g, 0, 0⟩ := by rw [List.getElem?_append_right (by omega), show h.length - μ.length = 0 by omega]; rfl
 have n1 : (μ ++ [(⟨g, 0, 0⟩ : ME), ⟨g, 0, C.size⟩])[h.length + 1]? = some ⟨g, 0, C.size⟩ := by rw [List.getElem?_append_right (by omega), show h.length + 1 - μ.length = 1 by omega]; rfl
 refine ⟨by simp [hlen], ?_, ?_, ?_⟩
 ·intro b B e hB he
  by_cases hi : b < h.length
  ·rw [List.getElem?_append_left hi] at hB
   rw [old b hi] at he
   have h1 := hh.blk b B e hB he
   rcases hk b B hB with ⟨g, j, rfl⟩ | ⟨c, r, rfl⟩
   ·obtain ⟨m, k1, k2, k3⟩ := h1
    exact ⟨m, by rw [old j (hm b g j hB)]; exact k1, k2, k3⟩
   ·obtain ⟨C, t, fz, k1, k2, k3, k4, k5, k6⟩ := h1
    exact ⟨C, t, fz, k1, k2, k3, k4, fun i x hx => let ⟨y, hy, hr⟩ := k5 i x hx; ⟨y, hy, hs b c r hB x (List.mem_of_getElem? hx) _ _ _ hr⟩, k6⟩
  ·have hb2 := lt_of_get hB
   simp at hb2
   rcases Nat.lt_or_ge b (h.length + 1) with h2 | h2
   ·obtain rfl : b = h.length := by omega
    rw [n0] at he; cases he
    rw [List.getElem?_append_right (by omega), Nat.sub_self] at hB; cases hB
    exact ⟨_, n1, rfl, rfl⟩
   ·obtain rfl : b = h.length + 1 := by omega
    rw [n1] at he; cases he
    rw [List.getElem?_append_right (by omega), show h.length + 1 - h.length = 1 by omega] at hB; cases hB
    exact ⟨C, t, fz, hb, by simp, by rw [hl]; exact Nat.le_refl _, ho, fun i x hx => let ⟨y, hy, hr⟩ := hc _ i x hx; ⟨y, by rw [Nat.zero_add]; exact hy, hr⟩, fun h => by cases h⟩
 ·intro b1 b2 B1 B2 e1 e2 hne hb1 hb2 hr
  exfalso
  by_cases hi : b1 < h.length
  ·rw [List.getElem?_append_left hi] at hb1
   rw [hro b1 B1 hb1] at hr; cases hr
  ·have hb3 := lt_of_get hb1
   simp at hb3
   rcases Nat.lt_or_ge b1 (h.length + 1) with h2 | h2
   ·obtain rfl : b1 = h.length := by omega
    rw [List.getElem?_append_right (by omega), Nat.sub_self] at hb1; cases hb1; cases hr
   ·obtain rfl : b1 = h.length + 1 := by omega
    rw [List.getElem?_append_right (by omega), show h.length + 1 - h.length = 1 by omega] at hb1; cases hb1; cases hr
 ·intro b e he
  by_cases hi : b < h.length
  ·rw [old b hi] at he
   exact hh.bnd b e he
  ·have hb3 := lt_of_get he
   simp at hb3
   rcases Nat.lt_or_ge b (h.length + 1) with h2 | h2
   ·obtain rfl : b = h.length := by omega
    rw [n0] at he; cases he; exact hsz
   ·obtain rfl : b = h.length + 1 := by omega
    rw [n1] at he; cases he; exact hsz
theorem HRel_nil (W : World) : HRel [] [] W := ⟨rfl, fun b B e h => by simp at h, fun b1 b2 B1 B2 e1 e2 _ h => by simp at h, fun b e h => by simp at h⟩
end Go.Ab
namespace Go.Proofs.YtjackggnnjdhmaaGreatDoor
open Go.Ab
set_option linter.unusedVariables false
set_option linter.unusedSimpArgs false
def tab0 : List AV := [.int .u64 1, .int .u64 10, .int .u64 100, .int .u64 1000, .int .u64 10000, .int .u64 100000, .int .u64 1000000, .int .u64 10000000, .int .u64 100000000, .int .u64 1000000000, .int .u64 10000000000, .int .u64 100000000000, .int .u64 1000000000000, .int .u64 10000000000000, .int .u64 100000000000000, .int .u64 1000000000000000, .int .u64 10000000000000000, .int .u64 100000000000000000, .int .u64 1000000000000000000, .int .u64 10000000000000000000]
def tab1 : List AV := [.int .u32 0, .int .u32 498536548, .int .u32 997073096, .int .u32 651767980, .int .u32 1994146192, .int .u32 1802195444, .int .u32 1303535960, .int .u32 1342533948, .int .u32 3988292384, .int .u32 4027552580, .int .u32 3604390888, .int .u32 3412177804, .int .u32 2607071920, .int .u32 2262029012, .int .u32 2685067896, .int .u32 3183342108]
def tab2 : List AV := [.int .u8 0, .int .u8 1, .int .u8 56, .int .u8 2, .int .u8 57, .int .u8 49, .int .u8 28, .int .u8 3, .int .u8 61, .int .u8 58, .int .u8 42, .int .u8 50, .int .u8 38, .int .u8 29, .int .u8 17, .int .u8 4, .int .u8 62, .int .u8 47, .int .u8 59, .int .u8 36, .int .u8 45, .int .u8 43, .int .u8 51, .int .u8 22, .int .u8 53, .int .u8 39, .int .u8 33, .int .u8 30, .int .u8 24, .int .u8 18, .int .u8 12, .int .u8 5, .int .u8 63, .int .u8 55, .int .u8 48, .int .u8 27, .int .u8 60, .int .u8 41, .int .u8 37, .int .u8 16, .int .u8 46, .int .u8 35, .int .u8 44, .int .u8 21, .int .u8 52, .int .u8 32, .int .u8 23, .int .u8 11, .int .u8 54, .int .u8 26, .int .u8 40, .int .u8 15, .int .u8 34, .int .u8 20, .int .u8 31, .int .u8 10, .int .u8 25, .int .u8 14, .int .u8 19, .int .u8 9, .int .u8 13, .int .u8 8, .int .u8 7, .int .u8 6]
def tab3 : List AV := [.int .u8 0, .int .u8 1, .int .u8 28, .int .u8 2, .int .u8 29, .int .u8 14, .int .u8 24, .int .u8 3, .int .u8 30, .int .u8 22, .int .u8 20, .int .u8 15, .int .u8 25, .int .u8 17, .int .u8 4, .int .u8 8, .int .u8 31, .int .u8 27, .int .u8 13, .int .u8 23, .int .u8 21, .int .u8 19, .int .u8 16, .int .u8 7, .int .u8 26, .int .u8 12, .int .u8 18, .int .u8 6, .int .u8 11, .int .u8 5, .int .u8 10, .int .u8 9]
def gsAV : List (Nat × List AV) := [(0, tab0), (6, tab1), (5, tab2), (4, tab3)]
def OverL (h : Heap) : Prop := ∀ (μ : Ren) (w : World), HRel μ h w → ∃ μ1, HRel μ1 (laidHs 0 gsAV) w
def isInt : AV → Bool
 | .int _ _ => true
 | _ => false
theorem isInt_plain {x : AV} (h : isInt x = true) : ∀ (μ μ' : Ren) (y : Value), x.rel μ y → x.rel μ' y := by
 cases x <;> simp [isInt] at h
 intro μ μ' y h; exact h
theorem tabs_int : ∀ x ∈ tab0 ++ tab1 ++ tab2 ++ tab3, isInt x = true := by
 have : (tab0 ++ tab1 ++ tab2 ++ tab3).all isInt = true := by kernel_rfl
 exact List.all_eq_true.1 this
theorem laid_forms : ∀ (i : Nat) (B : Blk), (laidHs 0 gsAV)[i]? = some B → (∃ g j, B = .gm g j ∧ j < 8) ∨ ∃ c, B = .cells c false ∧ ∀ x ∈ c, isInt x = true := by
 intro i B h
 match i with
 | 0 => cases h; exact .inl ⟨_, _, rfl, by omega⟩
 | 1 => cases h; exact .inr ⟨_, rfl, fun x hx => tabs_int x (by simp [hx])⟩
 | 2 => cases h; exact .inl ⟨_, _, rfl, by omega⟩
 | 3 => cases h; exact .inr ⟨_, rfl, fun x hx => tabs_int x (by simp [hx])⟩
 | 4 => cases h; exact .inl ⟨_, _, rfl, by omega⟩
 | 5 => cases h; exact .inr ⟨_, rfl, fun x hx => tabs_int x (by simp [hx])⟩
 | 6 => cases h; exact .inl ⟨_, _, rfl, by omega⟩
 | 7 => cases h; exact .inr ⟨_, rfl, fun x hx => tabs_int x (by simp [hx])⟩
 | i + 8 => simp [laidHs, gsAV] at h
theorem overL_app (t : Heap) : OverL (laidHs 0 gsAV ++ t) := by
 intro μ w hh
 have hlen : (laidHs 0 gsAV).length = 8 := rfl
 refine ⟨_, hh.pre (gs := gsAV) (fun i hi => List.getElem?_append_left hi) (by rw [List.length_append]; omega) ?_ ?_ ?_⟩
 ·intro i g j h
  rcases laid_forms i _ h with ⟨g', j', e, hj⟩ | ⟨c, e, _⟩
  ·cases e; rw [hlen]; exact hj
  ·cases e
 ·intro i c rw h x hx
  rcases laid_forms i _ h with ⟨g', j', e, hj⟩ | ⟨c', e, hc⟩
  ·cases e
  ·cases e; exact isInt_plain (hc x hx)
 ·intro i B h
  rcases laid_forms i B h with ⟨g', j', e, _⟩ | ⟨c', e, _⟩
  ·exact .inl ⟨_, _, e⟩
  ·exact .inr ⟨_, _, e⟩
end Go.Proofs.YtjackggnnjdhmaaGreatDoor
namespace Go.Ab
open Go.ChangeShapes Go.WideShapes Go.ChangeAt Go.RowKit
set_option linter.unusedSimpArgs false
set_option linter.unusedVariables false
section
variable {P : Program} {W : World} {H : Type} {enc : TypeId × Value → H} {α δ : Type}
theorem cell_slice_max {u e : TypeId} {a : Addr} {len cap : Nat} {r : Reach} {base : Nat} (hu : P.underlying u = some (.slice e)) (h : Cell.okWide P W r base u (.slice (some a) len cap)) : (cap : Int) ≤ 9223372036854775807 ∧ ∃ C tt fz, W.heap[a.block]? = some (.cells C tt fz) := by
 unfold Cell.okWide at h
 rw [hu] at h
 simp only [Cell.ok, hu] at h
 obtain ⟨_, h1, _, _, row, cells, h3, _⟩ := h
 refine ⟨h1, ?_⟩
 unfold World.shape? at h3
 split at h3
 ·rename_i C tt fz hb; exact ⟨C, tt, fz, hb⟩
 ·cases h3
end
section
variable {P : Program} {W : World} {H : Type} {enc : TypeId × Value → H} {α δ : Type}
theorem sizeOf_slice {l m : List (DataW H)} {d : DataW H} (h : d ∈ l) : SizeOf.sizeOf d < SizeOf.sizeOf (DataW.slice l m) := by
 have := List.sizeOf_lt_of_mem h
 simp only [DataW.slice.sizeOf_spec]
 omega
theorem sizeOf_agg {l : List (DataW H)} {d : DataW H} (h : d ∈ l) : SizeOf.sizeOf d < SizeOf.sizeOf (DataW.agg l) := by
 have := List.sizeOf_lt_of_mem h
 simp only [DataW.agg.sizeOf_spec]
 omega
set_option maxRecDepth 100000 in
theorem nested_in0 [Inhabited α] [Inhabited δ] (E : Enc α) (R : Heap → α → δ → Prop) (hR : ∀ {h h' : Heap} {a : α} {d : δ}, Ext h h' → R h a d → R h' a d)
  {t e : TypeId} {v : Value} {fuel : Nat} {x : DataW H × List MemPlace} (ht : P.underlying t = some (.slice e)) (hC : P.cellsOf e = E.sz)
  (hel : ∀ (n : Nat) (cs' : List Value) (y : DataW H × List MemPlace), SizeOf.sizeOf y.1 < SizeOf.sizeOf x.1 → DataW.trod enc P W 0 (fun _ => true) true n e cs' = some y → cs'.length = E.sz → ∀ (μ : Ren) (hp : Heap), HRel μ hp W → ReadOnly hp → ∀ (b0 : Nat) (c0 : List AV) (rw0 : Bool), hp[b0]? = some (.cells c0 rw0) →
   ∃ (l1 : Ren) (bs : Heap) (a : α) (d : δ), HRel (μ ++ l1) (hp ++ bs) W ∧ ReadOnly (hp ++ bs) ∧ relL (μ ++ l1) (E.f a) cs' ∧ R (hp ++ bs) a d)
  (hf : DataW.trod enc P W 0 (fun _ => true) true fuel t [v] = some x) {μ0 : Ren} {hp0 : Heap} (HH : HRel μ0 hp0 W) (ro : ReadOnly hp0) {b0 : Nat} {c0 : List AV} {rw0 : Bool} (hb0 : hp0[b0]? = some (.cells c0 rw0)) :
  ∃ (l1 : Ren) (bs : Heap) (q : Option SL) (L : List α) (l : List δ), HRel (μ0 ++ l1) (hp0 ++ bs) W ∧ ReadOnly (hp0 ++ bs) ∧ AV.rel (μ0 ++ l1) (.sl q) v ∧ HasL E (hp0 ++ bs) q L ∧ L.length = l.length ∧
   ∀ (j : Nat) (a : α) (d : δ), L[j]? = some a → l[j]? = some d → R (hp0 ++ bs) a d := by
 have hsz := E.pos
 rcases Deep.open_slice ht hf with ⟨hcs, _⟩ | ⟨a, len0, cap, m, n, D, Pl, hcs, _, hlc, hm, hmm, hxe, hx⟩
 ·simp at hcs
  subst hcs
  exact ⟨[], [], none, [], [], by simpa using HH, by simpa using ro, rfl, rfl, rfl, by simp⟩
 ·simp at hcs
  subst hcs
  simp only [if_true] at hmm
  subst hmm
  by_cases hcap : m = 0
  ·have hl0 : len0 = 0 := by omega
   subst hcap hl0
   refine ⟨[], [], some ⟨b0, 0, 0, 0, 0⟩, [], [], by simpa using HH, by simpa using ro, ⟨⟨0, 0, 0⟩, 0, _, .inr rfl, rfl, Nat.le_refl _, .inl rfl, fun _ => rfl, fun hn => absurd rfl hn⟩, ⟨rfl, Nat.le_refl _, .inl rfl, ?_⟩, rfl, by simp⟩
   simp [cellsAt, hb0, Enc.all]
  ·have h1 := hlc
   have hsp : ∃ (ab ao : Nat) (C : Array Value) (tt : TypeId) (fz : Nat × Nat), a = ⟨ab, ao, none⟩ ∧ W.heap[ab]? = some (.cells C tt fz) ∧ ao ≤ C.size := by
    obtain ⟨cs', hcl, htr⟩ := hx 0 (by omega)
    rw [hC] at hcl
    obtain ⟨_, hlen, hcell⟩ := World.cells?_some hcl
    have h0 := hcell 0 E.pos
    have hpos := E.pos
    have hget : cs'[0]? = some (cs'[0]'(by omega)) := List.getElem?_eq_getElem _
    rw [hget] at h0
    obtain ⟨ab, ao, sp⟩ := a
    have e0 : Addr.add (Addr.add ⟨ab, ao, sp⟩ (0 * E.sz)) 0 = ⟨ab, ao, sp⟩ := by simp [Addr.add]
    rw [e0] at h0
    unfold World.cell? at h0
    split at h0
    ·rename_i C tt fz hb
     cases sp with
     | none =>
      refine ⟨ab, ao, C, tt, fz, rfl, hb, ?_⟩
      exact Nat.le_of_lt (Array.getElem?_eq_some_iff.1 h0).1
     | some sp => simp at h0
    ·cases h0
   obtain ⟨ab, ao, C, tt, fz, rfl, hb, haoC⟩ := hsp
   have hbl := heap_lt hb
   have inner : ∀ k, k ≤ len0 → ∃ (l1 : Ren) (bs : Heap) (L : List α) (l : List δ), HRel (μ0 ++ l1) (hp0 ++ bs) W ∧ ReadOnly (hp0 ++ bs) ∧ L.length = k ∧ l.length = k ∧
     (∀ (j : Nat) (e : α), L[j]? = some e → ∀ (t : Nat) (x : AV), (E.f e)[t]? = some x → ∃ y, C[ao + j * E.sz + t]? = some y ∧ x.rel (μ0 ++ l1) y) ∧ (∀ (j : Nat) (e : α) (d : δ), L[j]? = some e → l[j]? = some d → R (hp0 ++ bs) e d) := by
    intro k
    induction k with
    | zero => intro _; exact ⟨[], [], [], [], by simpa using HH, by simpa using ro, rfl, rfl, by simp, by simp⟩
    | succ k ih =>
     intro hk
     obtain ⟨l1, bs, L, l, i1, i2, i4, i5, i6, i7⟩ := ih (by omega)
     have i3 : (hp0 ++ bs)[b0]? = some (.cells c0 rw0) := by rw [List.getElem?_append_left (lt_of_get hb0)]; exact hb0
     obtain ⟨cs', hcl, htr⟩ := hx k (by omega)
     rw [hC] at hcl
     obtain ⟨_, hlen, hcell⟩ := World.cells?_some hcl
     have hsd : SizeOf.sizeOf (D k, Pl k).1 < SizeOf.sizeOf x.1 := by
      rw [hxe]
      exact sizeOf_slice (List.mem_map.2 ⟨k, List.mem_range.2 (by omega), rfl⟩)
     obtain ⟨l2, bs2, e, d, k1, k2, k3, k4⟩ := hel n cs' _ hsd htr hlen _ _ i1 i2 _ _ _ i3
     rw [List.append_assoc, List.append_assoc] at k1
     rw [List.append_assoc] at k2 k3 k4
     refine ⟨l1 ++ l2, bs ++ bs2, L ++ [e], l ++ [d], k1, k2, by simp [i4], by simp [i5], ?_, ?_⟩
     ·intro j x hj t z hz
      rw [List.getElem?_append] at hj
      split at hj
      ·obtain ⟨y, g1, g2⟩ := i6 j x hj t z hz
       exact ⟨y, g1, AV.rel.mono (by rw [← List.append_assoc]; exact Ren.le_append _ _) _ _ g2⟩
      ·have hj0 : j - L.length = 0 := by have := lt_of_get hj; simp at this; omega
       rw [hj0] at hj
       simp at hj
       subst hj
       have hjk : j = k := by omega
       subst hjk
       obtain ⟨y, g1, g2⟩ := k3.get hz
       have ht : t < E.sz := by have := lt_of_get hz; rw [E.len] at this; exact this
       refine ⟨y, ?_, g2⟩
       have := hcell t ht
       rw [add_addr, add_addr] at this
       unfold World.cell? at this
       simp only [hb] at this
       rw [← g1, ← this]
       simp
     ·intro j x z hj hz
      rw [List.getElem?_append] at hj hz
      split at hj
      ·rw [if_pos (by omega)] at hz
       exact hR (by rw [← List.append_assoc]; exact Ext.app _ _) (i7 j x z hj hz)
      ·rw [if_neg (by omega)] at hz
       have hj0 : j - L.length = 0 := by have := lt_of_get hj; simp at this; omega
       have hz0 : j - l.length = 0 := by omega
       rw [hj0] at hj
       rw [hz0] at hz
       simp at hj hz
       subst hj hz
       exact k4
   obtain ⟨l1, bs, L, l, i1, i2, i4, i5, i6, i7⟩ := inner len0 (Nat.le_refl _)
   have hμ := i1.len
   have lastc : ∀ i, i < len0 → ao + i * E.sz + E.sz ≤ C.size := by
    intro i hi
    have hLi : L[i]? = some (L[i]'(by omega)) := List.getElem?_eq_getElem _
    have hlast : (E.f (L[i]'(by omega)))[E.sz - 1]? = some ((E.f (L[i]'(by omega)))[E.sz - 1]'(by rw [E.len]; omega)) := List.getElem?_eq_getElem _
    obtain ⟨y, g1, _⟩ := i6 i _ hLi (E.sz - 1) _ hlast
    have := (Array.getElem?_eq_some_iff.1 g1).1
    omega
   have hlenC : len0 * E.sz ≤ C.size - ao := by
    rcases Nat.eq_zero_or_pos len0 with hz | hz
    ·subst hz; simp
    ·have := lastc (len0 - 1) (by omega)
     have e1 : (len0 - 1) * E.sz + E.sz = len0 * E.sz := by
      rw [← Nat.succ_mul]; congr 1; omega
     omega
   have HB : HRel (μ0 ++ l1 ++ [⟨ab, ao, C.size - ao⟩]) (hp0 ++ bs ++ [.cells (E.all L) false]) W := by
    refine i1.addRO (e := ⟨ab, ao, C.size - ao⟩) (B := .cells (E.all L) false) i2 rfl hbl ⟨C, tt, fz, hb, ?_, ?_, ?_, ?_, ?_⟩
    ·show C.size = ao + (C.size - ao); omega
    ·rw [Enc.all_length, i4]; exact hlenC
    ·simp only [oneAll, List.all_eq_true]
     intro x hx'
     simp only [Enc.all, List.mem_flatten, List.mem_map] at hx'
     obtain ⟨l0, ⟨a, _, rfl⟩, h⟩ := hx'
     have := E.one a
     simp only [oneAll, List.all_eq_true] at this
     exact this x h
    ·intro j x hj
     have hjl := lt_of_get hj
     rw [Enc.all_length, i4] at hjl
     have hi : j / E.sz < len0 := Nat.div_lt_of_lt_mul (by rw [Nat.mul_comm]; exact hjl)
     have hLi : L[j / E.sz]? = some (L[j / E.sz]'(by omega)) := List.getElem?_eq_getElem _
     have hat := Enc.all_at (E := E) hLi
     have hdm : j / E.sz * E.sz + j % E.sz = j := by rw [Nat.mul_comm]; exact Nat.div_add_mod _ _
     have hml : j % E.sz < E.sz := Nat.mod_lt _ hsz
     have : (E.f (L[j / E.sz]'(by omega)))[j % E.sz]? = some x := by
      rw [← hat, List.getElem?_take, if_pos hml, List.getElem?_drop, hdm, hj]
     obtain ⟨y, g1, g2⟩ := i6 _ _ hLi _ _ this
     refine ⟨y, ?_, AV.rel.mono (Ren.le_append _ _) _ _ g2⟩
     rw [← g1]
     simp only
     congr 1
     omega
    ·intro hrw; cases hrw
   have ea : μ0 ++ l1 ++ [(⟨ab, ao, C.size - ao⟩ : ME)] = μ0 ++ (l1 ++ [⟨ab, ao, C.size - ao⟩]) := List.append_assoc _ _ _
   have eb : hp0 ++ bs ++ [Blk.cells (E.all L) false] = hp0 ++ (bs ++ [.cells (E.all L) false]) := List.append_assoc _ _ _
   refine ⟨l1 ++ [⟨ab, ao, C.size - ao⟩], bs ++ [.cells (E.all L) false], some ⟨(hp0 ++ bs).length, 0, len0, m, 0⟩, L, l, ?_, ?_, ?_, ?_, by omega, ?_⟩
   ·rw [← ea, ← eb]; exact HB
   ·rw [← eb]; exact i2.add rfl
   ·rw [← ea]
    exact ⟨⟨ab, ao, C.size - ao⟩, m, _, .inl (by rw [← hμ]; simp), rfl, h1, .inr rfl, fun _ => rfl, fun hn => absurd rfl hn⟩
   ·rw [← eb]
    refine ⟨i4.symm, h1, .inl rfl, ?_⟩
    rw [cellsAt_mk (C := E.all L) (rw' := false) (by simp) (by simp [Enc.all_length])]
    simp [← Enc.all_length]
   ·intro j e d hj hd
    rw [← eb]
    exact hR (Ext.app _ _) (i7 j e d hj hd)
end
end Go.Ab
namespace Go.Ab
open Go
theorem joined_of {P : Program} {f : FuncId} {fn : Func} {s : ChangeSpec} {c : OpenClaim}
  (a1 : c.wf (OpenSpec.ofChange s) = true) (a2 : laidOutB P = true) (a3 : mapsRowed P = true) (a4 : fn.params.all (P.readableRec ·) = true) (a5 : namedTie P c.named s.vars = true)
  (a6 : (c.stops == []) = true) (a7 : (P.stops == []) = true) (a8 : (c.knobs == []) = true) (a9 : (P.stopKnobs == []) = true)
  (a10 : (c.inPlace == P.inPlace f) = true) (a11 : (c.unfollowed == P.unfollowed f) = true) (a12 : (c.recurses == P.recurses f) = true) (a13 : (c.named == P.varsNamed f) = true)
  (a14 : (c.maps == (fn.params.toList ++ s.plain.varTypes P).any (P.mapsRec ·)) = true) (a15 : (c.ifaces == (fn.params.toList ++ s.plain.varTypes P).any (P.ifacesRec ·)) = true) (a16 : (c.mapsOut == P.mapsAmong fn.resultTypes.toList) = true)
  (a17 : (c.loops == (fn.params.toList ++ s.plain.varTypes P).any (P.loopsFrom ·)) = true) (a18 : (c.wideKeys == (fn.params.toList ++ s.plain.varTypes P ++ fn.resultTypes.toList).any (P.wideKeysFrom ·)) = true)
  (a19 : s.vars.all (P.varReadable ·) = true) (a20 : fn.resultTypes.all (fun t => P.readableRec t && decide (t < P.types.size)) = true) (a21 : (c.ifacesOut == fn.resultTypes.toList.any (P.ifacesRec ·)) = true) (a22 : (c.loopsOut == fn.resultTypes.toList.any (P.loopsFrom ·)) = true)
  (a23 : (c.plainKeys == P.plainKeys) = true) (a24 : c.shortTexts.isNone = true) (a25 : P.stopsHeard = true) (a26 : P.mayEnter = true) (a27 : (c.lifted == P.liftsFinal) = true) (a28 : (P.make == some c.make) = true)
  (a29 : (c.kinds == (if c.domain.isEmpty then [] else fn.params.toList.map fun t => match P.underlying t with | some (.int k) => some k | _ => none)) = true) (a30 : (c.pinned == c.pinnedBy) = true)
  (a31 : (c.veiled == (fn.params.toList ++ s.plain.varTypes P ++ fn.resultTypes.toList).any (P.veiledRec ·)) = true) (a32 : c.veiledFits P fn.params.toList (fn.params.toList ++ s.plain.varTypes P ++ fn.resultTypes.toList) = true) : joinedFacts P f fn s c = true := by
 unfold joinedFacts
 simp only [Bool.and_eq_true]
 exact ⟨⟨⟨⟨⟨⟨⟨⟨⟨⟨⟨⟨⟨⟨⟨⟨⟨⟨⟨⟨⟨⟨⟨⟨⟨⟨⟨⟨⟨⟨⟨a1, a2⟩, a3⟩, a4⟩, a5⟩, a6⟩, a7⟩, a8⟩, a9⟩, a10⟩, a11⟩, a12⟩, a13⟩, a14⟩, a15⟩, a16⟩, a17⟩, a18⟩, a19⟩, a20⟩, a21⟩, a22⟩, a23⟩, a24⟩, a25⟩, a26⟩, a27⟩, a28⟩, a29⟩, a30⟩, a31⟩, a32⟩
end Go.Ab
