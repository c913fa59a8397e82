import Derived.Test.YtjackggnnjdhmaaGreatDoorAG5
import Derived.Test.YtjackggnnjdhmaaGreatDoorAG7
import Derived.Test.YtjackggnnjdhmaaGreatDoorAG9
import Derived.OpenShut
import Derived.LaidLaws
import Derived.FnData
import Derived.SevenTiedAt
import Derived.KernelRfl
import Derived.JoinedOf
namespace Go.Ab
set_option linter.unusedSimpArgs false
set_option linter.unusedVariables false
section
variable (P : Program)
def ecallY (call : ECall) (b : Nat) (Y : List AV → EH → (EH → Bool) → Bool) : ECall := fun g args h k => match Nat.beq g 1000000000 with
 | true => (match args with | .func (.yield b') [] [] :: rest => Nat.beq b' b && Y rest h fun h' => k (.bool true) h' | _ => false)
 | false => call g args h k
def ePs : List Nat → List AV → T LV → (T LV → Bool) → Bool
 | s :: ss, v :: vs, ρ, k => ρ.put s (.val v) fun ρ' => ePs ss vs ρ' k
 | [], [], ρ, k => k ρ
 | _, _, _, _ => false
def eYOf (slots : Nat → List Nat) (call : ECall) (ρ : T LV) (ps : Array Tmp) (assign body : Code) : List AV → EH → (EH → Bool) → Bool := fun xs h k =>
 ePs ps.toList xs ρ fun ρ1 => ecode P false slots call assign 1000000 ρ1 h fun e ρ2 h2 => match e with
  | .normal => ecode P false slots call body 1000000 ρ2 h2 fun e _ h3 => (match e with | .normal => k h3 | _ => false)
  | _ => false
def eRange (slots : Nat → List Nat) (slotsI : FuncId → Nat → List Nat) (call : ECall) (g : Operand) (ps : Array Tmp) (assign body : Code) (ρ : T LV) (h : EH) (k : EH → Bool) : Bool :=
 (In.flat assign && In.flat body) && match eev ρ g with
 | .val (.func (.func gf) [] caps) => (match P.funcs[gf]? with
  | some fg => (match fg.body with
   | some cg => ((In.flat cg && callable P gf) && Nat.blt fg.ntmps 65536) && h.t.add h.n .dead fun t' => fN (Nat.succ h.n) fun n' => eArgs (topT 17 fg.ntmps) 0 (.func (.yield h.n) [] [] :: caps) fun ρI =>
     ecode P false (slotsI gf) (ecallY call h.n (eYOf P slots call ρ ps assign body)) cg 1000000 ρI ⟨t', n'⟩ fun e ρ' h' => match e with
      | .normal => eresults P ρ' h' fg.results.toList fun _ => k h'
      | .ret => eresults P ρ' h' fg.results.toList fun _ => k h'
      | _ => false
   | none => false)
  | none => false)
 | _ => false
def esp (slots : Nat → List Nat) (slotsI : FuncId → Nat → List Nat) (call : ECall) : Code → Nat → T LV → EH → (Exit → T LV → EH → Bool) → Bool
 | .seq a b, cur, ρ, h, k => match hasRF a with
  | true => In.flat b && esp slots slotsI call a cur ρ h fun e ρ' h' => match e with
   | .normal => ecode P false slots call b cur ρ' h' k
   | e => k e ρ' h'
  | false => In.flat a && ecode P false slots call a cur ρ h fun e ρ' h' => match e with
   | .normal => esp slots slotsI call b cur ρ' h' k
   | e => k e ρ' h'
 | .block id c, _, ρ, h, k => esp slots slotsI call c id ρ h fun e ρ' h' => match e with
  | .exit i => (match i == id with | true => k .normal ρ' h' | false => k (.exit i) ρ' h')
  | e => k e ρ' h'
 | .rangeFunc g ps assign body, _, ρ, h, k => eRange P slots slotsI call g ps assign body ρ h fun h' => k .normal ρ h'
 | _, _, _, _, _ => false
def espfun (slots : FuncId → Nat → List Nat) (call : ECall) (f : FuncId) (args : List AV) (h : EH) (k : AV → EH → Bool) : Bool :=
 match P.funcs[f]? with
 | none => false
 | some fn => match fn.body with
  | none => false
  | some c => (callable P f && Nat.blt fn.ntmps 65536) && eArgs (topT 17 fn.ntmps) 0 args fun ρ => esp P (slots f) slots call c 1000000 ρ h fun e ρ' h' => match e with
   | .normal => eresults P ρ' h' fn.results.toList fun l => (match l with | [v] => k v h' | l => k (.tup l) h')
   | .ret => eresults P ρ' h' fn.results.toList fun l => (match l with | [v] => k v h' | l => k (.tup l) h')
   | _ => false
end
section
variable {P : Program} {call : ECall}
theorem ePs_ok : ∀ {ss : List Nat} {vs : List AV} {t : T LV} {ρ : List LV} (R : t.For ρ) {k : T LV → Bool}, ePs ss vs t k = true → vs.length = ss.length ∧ ∃ t', t'.For (setSlots ρ ss vs) ∧ k t' = true
 | [], [], t, ρ, R, k, h => ⟨rfl, t, R, h⟩
 | [], v :: vs, t, ρ, R, k, h => by simp [ePs] at h
 | s :: ss, [], t, ρ, R, k, h => by simp [ePs] at h
 | s :: ss, v :: vs, t, ρ, R, k, h => by
  unfold ePs at h
  obtain ⟨t', h1, h2, h3⟩ := T.put_ok h
  rw [R] at h2
  have hs : s < ρ.length := by
   rcases Nat.lt_or_ge s ρ.length with h4 | h4
   ·exact h4
   ·rw [List.getElem?_eq_none h4] at h2; cases h2
  have R' : t'.For (ρ.set s (.val v)) := by
   intro j
   rw [h3, R, List.getElem?_set]
   by_cases hj : j = s
   ·subst hj; rw [if_pos rfl, if_pos rfl, if_pos hs]
   ·rw [if_neg hj, if_neg (Ne.symm hj)]
  obtain ⟨g1, g2⟩ := ePs_ok R' h1
  exact ⟨by simp [g1], g2⟩
theorem ecallY_ok (C : CallOK P call) {b : Nat} {YE : List AV → EH → (EH → Bool) → Bool} {Y : YH} (hY : ∀ (xs : List AV) (e : EH) (h : Heap) (k : EH → Bool) (R : Heap → Prop), HFor e h → (∀ e' h', HFor e' h' → k e' = true → R h') → YE xs e k = true → Y xs h R) :
  CallOKH (callY P b Y) (ecallY call b YE) := by
 intro f args e h k Q H hQ hk
 unfold ecallY at hk
 split at hk
 ·rename_i hf
  have hf : f = 1000000000 := Nat.eq_of_beq_eq_true hf
  split at hk
  ·rename_i b' rest
   rw [Bool.and_eq_true] at hk
   have hb := Nat.eq_of_beq_eq_true hk.1
   subst hb
   exact .inr ⟨hf, rest, rfl, hY rest e h _ _ H (fun e' h' H' hk' => hQ _ _ _ H' hk') hk.2⟩
  ·simp at hk
 ·exact .inl (C f args e h k Q H hQ hk)
theorem eYOf_ok (C : CallOK P call) {slots : Nat → List Nat} {t : T LV} {ρ : List LV} (R : t.For ρ) {ps : Array Tmp} {assign body : Code} (xs : List AV) (e : EH) (h : Heap) (k : EH → Bool) (K : Heap → Prop) (H : HFor e h) (hK : ∀ e' h', HFor e' h' → k e' = true → K h')
  (hk : eYOf P slots call t ps assign body xs e k = true) : YOf P (ehints slots) ρ ps assign body xs h K := by
 unfold eYOf at hk
 obtain ⟨hl, t1, R1, hk⟩ := ePs_ok R hk
 refine ⟨by simpa using hl, ?_⟩
 refine ecode_ok C slots assign _ R1 H (fun x t2 ρ2 e2 h2 R2 H2 hk2 => ?_) hk
 cases x with
 | normal =>
  refine ⟨rfl, rfl, ecode_ok C slots body _ R2 H2 (fun x t3 ρ3 e3 h3 R3 H3 hk3 => ?_) hk2⟩
  cases x with
  | normal => exact ⟨rfl, hK _ _ H3 hk3⟩
  | _ => simp at hk3
 | _ => simp at hk2
theorem HFor.dead {e : EH} {h : Heap} (H : HFor e h) {k : T Blk → Bool} (hk : e.t.add e.n .dead k = true) : e.n = h.length ∧ ∃ t', k t' = true ∧ HFor ⟨t', e.n + 1⟩ (h ++ [.dead]) := by
 obtain ⟨t', h1, h2⟩ := T.add_ok hk
 refine ⟨H.2, t', h1, fun j => ?_, by simp [H.2]⟩
 rw [h2, H.1]
 rw [List.getElem?_append]
 by_cases hj : j = e.n
 ·subst hj
  rw [if_pos rfl, H.2, if_neg (by omega)]
  simp
 ·rw [if_neg hj]
  split
  ·rfl
  ·rename_i hlt
   have := H.2
   rw [List.getElem?_eq_none (by omega), List.getElem?_singleton, if_neg (by omega)]
theorem eRange_ok (C : CallOK P call) {slots : Nat → List Nat} {slotsI : FuncId → Nat → List Nat} {g : Operand} {ps : Array Tmp} {assign body : Code} {t : T LV} {ρ : List LV} (R : t.For ρ) {e : EH} {h : Heap} (H : HFor e h) {k : EH → Bool} {K : Heap → Prop} (hK : ∀ e' h', HFor e' h' → k e' = true → K h')
  (hk : eRange P slots slotsI call g ps assign body t e k = true) : VRange P (ehints slots) (fun f => ehints (slotsI f)) g ps assign body ⟨ρ, [], h⟩ K := by
 unfold eRange at hk
 rw [Bool.and_eq_true] at hk
 obtain ⟨hfl, hk⟩ := hk
 refine ⟨rfl, hfl, ?_⟩
 rw [eev_eq R] at hk
 split at hk
 ·rename_i gf caps hg
  simp only [hg]
  split at hk
  ·rename_i fg hf
   simp only [hf]
   split at hk
   ·rename_i cg hb
    simp only [hb]
    rw [Bool.and_eq_true, Bool.and_eq_true] at hk
    obtain ⟨⟨hfc, hsz⟩, hk⟩ := hk
    have hsz' : fg.ntmps < 65536 := by simpa [Nat.blt_eq] using hsz
    obtain ⟨hn, t', hk, H1⟩ := H.dead hk
    rw [fN_eq] at hk
    have R0 := topT_ok 17 fg.ntmps (by omega)
    obtain ⟨hle, t1, R1, hk⟩ := eArgs_ok (pre := []) (by simpa using R0) hk
    refine ⟨hfc, ?_⟩
    rw [hn] at hk R1 H1
    have e1 : (AV.func (.yield h.length) [] [] :: caps).map LV.val ++ List.replicate (fg.ntmps - (AV.func (.yield h.length) [] [] :: caps).length) LV.top = [] ++ (AV.func (.yield h.length) [] [] :: caps).map LV.val ++ (List.replicate fg.ntmps LV.top).drop (AV.func (.yield h.length) [] [] :: caps).length := by simp
    rw [e1]
    refine ecode_ok (ecallY_ok C fun xs e h k R H hR hk => eYOf_ok C (slots := slots) (ps := ps) (assign := assign) (body := body) ‹T.For t ρ› xs e h k R H hR hk) (slotsI gf) cg _ R1 H1 (fun x t2 ρ2 e2 h2 R2 H2 hk2 => ?_) hk
    have fin : eresults P t2 e2 fg.results.toList (fun _ => k e2) = true → vret P fg ⟨ρ2, [], h2⟩ fun _ h' => K h' := by
     intro hr
     refine eresults_ok R2 H2 (fun l hl => ?_) hr
     split
     ·exact hK _ _ H2 hl
     ·exact hK _ _ H2 hl
    cases x with
    | normal => exact fin hk2
    | ret => exact fin hk2
    | _ => simp at hk2
   ·simp at hk
  ·simp at hk
 ·simp at hk
theorem esp_ok (C : CallOK P call) {slots : Nat → List Nat} {slotsI : FuncId → Nat → List Nat} : ∀ (c : Code) (cur : Nat) {t : T LV} {ρ : List LV} (R : t.For ρ) {e : EH} {h : Heap} (H : HFor e h) {k : Exit → T LV → EH → Bool} {Q : Exit → St → Prop} (hQ : QK Q k)
  (hk : esp P slots slotsI call c cur t e k = true), vsp P (ehints slots) (fun f => ehints (slotsI f)) c cur ⟨ρ, [], h⟩ Q := by
 intro c
 induction c with
 | seq a b iha ihb =>
  intro cur t ρ R e h H k Q hQ hk
  unfold esp at hk
  unfold vsp
  split at hk
  ·rename_i hrf
   simp only [hrf]
   rw [Bool.and_eq_true] at hk
   refine ⟨hk.1, iha cur R H (fun x t2 ρ2 e2 h2 R2 H2 hk2 => ?_) hk.2⟩
   cases x with
   | normal => exact ⟨rfl, ecode_ok C slots b cur R2 H2 hQ hk2⟩
   | _ => exact hQ _ _ _ _ _ R2 H2 hk2
  ·rename_i hrf
   simp only [hrf]
   rw [Bool.and_eq_true] at hk
   refine ⟨hk.1, ecode_ok C slots a cur R H (fun x t2 ρ2 e2 h2 R2 H2 hk2 => ?_) hk.2⟩
   cases x with
   | normal => exact ihb cur R2 H2 hQ hk2
   | _ => exact hQ _ _ _ _ _ R2 H2 hk2
 | block id c ih =>
  intro cur t ρ R e h H k Q hQ hk
  unfold esp at hk
  unfold vsp
  refine ih id R H (fun x t2 ρ2 e2 h2 R2 H2 hk2 => ?_) hk
  cases x with
  | exit i =>
   simp only at hk2 ⊢
   split at hk2
   ·rename_i hi; simp only [hi]; exact hQ _ _ _ _ _ R2 H2 hk2
   ·rename_i hi; simp only [hi]; exact hQ _ _ _ _ _ R2 H2 hk2
  | _ => exact hQ _ _ _ _ _ R2 H2 hk2
 | rangeFunc g ps assign body _ _ =>
  intro cur t ρ R e h H k Q hQ hk
  unfold esp at hk
  unfold vsp
  exact eRange_ok C R H (fun e' h' H' hk' => hQ _ _ _ _ _ R H' hk') hk
 | _ => intro cur t ρ R e h H k Q hQ hk; simp [esp] at hk
theorem espfun_ok (C : CallOK P call) (slots : FuncId → Nat → List Nat) : CallOK P (espfun P slots call) := by
 intro f args e h k Q H hQ hk
 unfold espfun at hk
 split at hk
 ·simp at hk
 ·rename_i fn hf
  split at hk
  ·simp at hk
  ·rename_i c hb
   rw [Bool.and_eq_true, Bool.and_eq_true] at hk
   obtain ⟨⟨hn, hsz⟩, hk⟩ := hk
   have hsz' : fn.ntmps < 65536 := by simpa [Nat.blt_eq] using hsz
   have R0 := topT_ok 17 fn.ntmps (by omega)
   obtain ⟨hle, t', R1, hk⟩ := eArgs_ok (pre := []) (by simpa using R0) hk
   refine AC_of_vsp (H := ehints (slots f)) (HI := fun f => ehints (slots f)) hf hb hn ?_
   have e1 : args.map LV.val ++ List.replicate (fn.ntmps - args.length) LV.top = [] ++ args.map LV.val ++ (List.replicate fn.ntmps LV.top).drop args.length := by simp
   rw [e1]
   refine esp_ok C c _ R1 H (fun x t2 ρ2 e2 h2 R2 H2 hk2 => ?_) hk
   have fin : eresults P t2 e2 fn.results.toList (fun l => match l with | [v] => k v e2 | l => k (.tup l) e2) = true → vret P fn ⟨ρ2, [], h2⟩ Q := by
    intro hr
    refine eresults_ok R2 H2 (fun l hl => ?_) hr
    split at hl
    ·exact hQ _ _ _ H2 hl
    ·rename_i l hne
     split
     ·rename_i v; exact (hne v rfl).elim
     ·exact hQ _ _ _ H2 hl
   cases x with
   | normal => exact fin hk2
   | ret => exact fin hk2
   | _ => simp at hk2
end
end Go.Ab



namespace Go.Ab
set_option linter.unusedSimpArgs false
set_option linter.unusedVariables false
def laidHs : Nat → List (Nat × List AV) → Heap
 | _, [] => []
 | j, (g, c) :: gs => .gm g (j + 1) :: .cells c false :: laidHs (j + 2) gs
theorem laidHs_ro : ∀ (gs : List (Nat × List AV)) (j b : Nat) (B : Blk), (laidHs j gs)[b]? = some B → B.rw = false
 | [], j, b, B, h => by simp [laidHs] at h
 | (g, c) :: gs, j, b, B, h => by
  match b with
  | 0 => cases h; rfl
  | 1 => cases h; rfl
  | b + 2 => exact laidHs_ro gs (j + 2) b B h
def wlaidE : Nat → List (Nat × List AV) → EH → (EH → Bool) → Bool
 | _, [], h, k => k h
 | j, (g, c) :: gs, h, k => eNewB (.gm g (j + 1)) h fun _ h1 => eNewB (.cells c false) h1 fun _ h2 => wlaidE (j + 2) gs h2 k
theorem wlaidE_ok : ∀ (gs : List (Nat × List AV)) (j : Nat) (e : EH) (h : Heap) (k : EH → Bool), HFor e h → wlaidE j gs e k = true → ∃ e', HFor e' (h ++ laidHs j gs) ∧ k e' = true
 | [], j, e, h, k, H, hk => ⟨e, by simpa [laidHs] using H, hk⟩
 | (g, c) :: gs, j, e, h, k, H, hk => by
  obtain ⟨e1, h1, h2⟩ := eNewB_ok H hk
  obtain ⟨e2, h3, h4⟩ := eNewB_ok h1 h2
  obtain ⟨e', H', h5⟩ := wlaidE_ok gs (j + 2) _ _ k h3 h4
  exact ⟨e', by simpa [laidHs] using H', h5⟩
theorem HRel.pre {μ : Ren} {h : Heap} {w : World} (hh : HRel μ h w) {gs : List (Nat × List AV)} (hp : ∀ i, i < (laidHs 0 gs).length → h[i]? = (laidHs 0 gs)[i]?) (hl : (laidHs 0 gs).length ≤ h.length)
  (hg : ∀ (i g j : Nat), (laidHs 0 gs)[i]? = some (.gm g j) → j < (laidHs 0 gs).length)
  (hc : ∀ (i : Nat) (c : List AV) (rw : Bool), (laidHs 0 gs)[i]? = some (.cells c rw) → ∀ x ∈ c, ∀ (μ μ' : Ren) (y : Value), x.rel μ y → x.rel μ' y)
  (ho : ∀ (i : Nat) (B : Blk), (laidHs 0 gs)[i]? = some B → (∃ g j, B = .gm g j) ∨ ∃ c r, B = .cells c r) : HRel (μ.take (laidHs 0 gs).length) (laidHs 0 gs) w := by
 have tk : ∀ i, i < (laidHs 0 gs).length → (μ.take (laidHs 0 gs).length)[i]? = μ[i]? := fun i hi => by rw [List.getElem?_take, if_pos hi]
 refine ⟨by rw [List.length_take, hh.len]; omega, ?_, ?_, ?_⟩
 ·intro b B e hb he
  have hi := lt_of_get hb
  rw [tk b hi] at he
  have h1 := hh.blk b B e (by rw [hp b hi]; exact hb) he
  rcases ho b B hb with ⟨g, j, rfl⟩ | ⟨c, r, rfl⟩
  ·obtain ⟨m, k1, k2, k3⟩ := h1
   exact ⟨m, by rw [tk j (hg b g j hb)]; exact k1, k2, k3⟩
  ·obtain ⟨C, t, fz, k1, k2, k3, k4, k5, k6⟩ := h1
   exact ⟨C, t, fz, k1, k2, k3, k4, fun i x hx => let ⟨y, hy, hr⟩ := k5 i x hx; ⟨y, hy, hc b c r hb x (List.mem_of_getElem? hx) _ _ _ hr⟩, k6⟩
 ·intro b1 b2 B1 B2 e1 e2 hne hb1 hb2 hr
  rw [laidHs_ro gs 0 b1 B1 hb1] at hr; cases hr
 ·intro b e he
  have hi : b < (laidHs 0 gs).length := by
   have := lt_of_get he
   rw [List.length_take] at this; omega
  rw [tk b hi] at he
  exact hh.bnd b e he
theorem AC_frame_gs {P : Program} {f : FuncId} {args : List AV} {gs : List (Nat × List AV)} {h : Heap} {v : AV} {Q : AV → Heap → Prop} (H : AC P f args (laidHs 0 gs) fun x _ => x = v) (ha : ∀ (μ μ' : Ren) (vs : List Value), relL μ args vs → relL μ' args vs) (hv : ∀ (μ μ' : Ren) (x : Value), v.rel μ x → v.rel μ' x)
  (hp : ∀ (μ : Ren) (w : World), HRel μ h w → ∃ μ1, HRel μ1 (laidHs 0 gs) w) (hq : Q v h) : AC P f args h Q := by
 refine ⟨H.1, fun μ w vs hh hx => ?_⟩
 obtain ⟨μ1, hh1⟩ := hp μ w hh
 have := H.2 μ1 w vs hh1 (ha μ μ1 vs hx)
 refine this.mono fun e w' ⟨x, y, h', μ', he, hy, ev, _, hr⟩ => ?_
 subst hy
 have hB : ∀ k, k < w.heap.size → w'.heap[k]? = w.heap[k]? := fun k hk => ev.frame k hk (fun b B e hb hrw _ => by rw [laidHs_ro gs 0 b B hb] at hrw; cases hrw)
 refine ⟨x, y, h, μ, he, hq, ⟨.refl _, Nat.le_refl _, ev.size, fun k hk _ => hB k hk, fun b B e hb hrw he => .inr ⟨b, B, e, hb, hrw, he, rfl⟩, fun b B e hb hrw he => .inr ⟨b, B, e, hb, hrw, he, rfl⟩, ev.os, ev.tape, ev.output⟩, ?_, hv _ _ _ hr⟩
 exact ⟨hh.len, fun b B e hb he => (hh.blk b B e hb he).world (hB _ (hh.bnd b e he)), hh.sep, fun b e he => Nat.lt_of_lt_of_le (hh.bnd b e he) ev.size⟩
theorem HRel.lay {μ : Ren} {h : Heap} {W : World} (hh : HRel μ h W) (hro : ∀ (b : Nat) (B : Blk), h[b]? = some B → B.rw = false) {g : Nat} {c : List AV} {C : Array Value} {t : TypeId} {fz : Nat × Nat} (hb : W.heap[g]? = some (.cells C t fz)) (hl : C.size = c.length) (ho : oneAll c = true)
  (hc : ∀ (μ : Ren) (i : Nat) (x : AV), c[i]? = some x → ∃ y, C[i]? = some y ∧ x.rel μ y) (hm : ∀ (b g j : Nat), h[b]? = some (.gm g j) → j < h.length)
  (hs : ∀ (b : Nat) (c : List AV) (r : Bool), h[b]? = some (.cells c r) → ∀ x ∈ c, ∀ (μ μ' : Ren) (y : Value), x.rel μ y → x.rel μ' y) (hk : ∀ (i : Nat) (B : Blk), h[i]? = some B → (∃ g j, B = .gm g j) ∨ ∃ c r, B = .cells c r) :
  HRel (μ ++ [⟨g, 0, 0⟩, ⟨g, 0, C.size⟩]) (h ++ [.gm g (h.length + 1), .cells c false]) W := by
 have hsz : g < W.heap.size := by
  rcases Nat.lt_or_ge g W.heap.size with h | h
  ·exact h
  ·simp [Array.getElem?_eq_none h] at hb
 have hlen := hh.len
 have old : ∀ i, i < h.length → (μ ++ [(⟨g, 0, 0⟩ : ME), ⟨g, 0, C.size⟩])[i]? = μ[i]? := fun i hi => List.getElem?_append_left (by omega)
 have n0 : (μ ++ [(⟨g, 0, 0⟩ : ME), ⟨g, 0, C.size⟩])[h.length]? = some ⟨g, 0, 0⟩ := by rw [List.getElem?_append_right (by omega), show h.length - μ.length = 0 by omega]; rfl
 have n1 : (μ ++ [(⟨g, 0, 0⟩ : ME), ⟨g, 0, C.size⟩])[h.length + 1]? = some ⟨g, 0, C.size⟩ := by rw [List.getElem?_append_right (by omega), show h.length + 1 - μ.length = 1 by omega]; rfl
 refine ⟨by simp [hlen], ?_, ?_, ?_⟩
 ·intro b B e hB he
  by_cases hi : b < h.length
  ·rw [List.getElem?_append_left hi] at hB
   rw [old b hi] at he
   have h1 := hh.blk b B e hB he
   rcases hk b B hB with ⟨g, j, rfl⟩ | ⟨c, r, rfl⟩
   ·obtain ⟨m, k1, k2, k3⟩ := h1
    exact ⟨m, by rw [old j (hm b g j hB)]; exact k1, k2, k3⟩
   ·obtain ⟨C, t, fz, k1, k2, k3, k4, k5, k6⟩ := h1
    exact ⟨C, t, fz, k1, k2, k3, k4, fun i x hx => let ⟨y, hy, hr⟩ := k5 i x hx; ⟨y, hy, hs b c r hB x (List.mem_of_getElem? hx) _ _ _ hr⟩, k6⟩
  ·have hb2 := lt_of_get hB
   simp at hb2
   rcases Nat.lt_or_ge b (h.length + 1) with h2 | h2
   ·obtain rfl : b = h.length := by omega
    rw [n0] at he; cases he
    rw [List.getElem?_append_right (by omega), Nat.sub_self] at hB; cases hB
    exact ⟨_, n1, rfl, rfl⟩
   ·obtain rfl : b = h.length + 1 := by omega
    rw [n1] at he; cases he
    rw [List.getElem?_append_right (by omega), show h.length + 1 - h.length = 1 by omega] at hB; cases hB
    exact ⟨C, t, fz, hb, by simp, by rw [hl]; exact Nat.le_refl _, ho, fun i x hx => let ⟨y, hy, hr⟩ := hc _ i x hx; ⟨y, by rw [Nat.zero_add]; exact hy, hr⟩, fun h => by cases h⟩
 ·intro b1 b2 B1 B2 e1 e2 hne hb1 hb2 hr
  exfalso
  by_cases hi : b1 < h.length
  ·rw [List.getElem?_append_left hi] at hb1
   rw [hro b1 B1 hb1] at hr; cases hr
  ·have hb3 := lt_of_get hb1
   simp at hb3
   rcases Nat.lt_or_ge b1 (h.length + 1) with h2 | h2
   ·obtain rfl : b1 = h.length := by omega
    rw [List.getElem?_append_right (by omega), Nat.sub_self] at hb1; cases hb1; cases hr
   ·obtain rfl : b1 = h.length + 1 := by omega
    rw [List.getElem?_append_right (by omega), show h.length + 1 - h.length = 1 by omega] at hb1; cases hb1; cases hr
 ·intro b e he
  by_cases hi : b < h.length
  ·rw [old b hi] at he
   exact hh.bnd b e he
  ·have hb3 := lt_of_get he
   simp at hb3
   rcases Nat.lt_or_ge b (h.length + 1) with h2 | h2
   ·obtain rfl : b = h.length := by omega
    rw [n0] at he; cases he; exact hsz
   ·obtain rfl : b = h.length + 1 := by omega
    rw [n1] at he; cases he; exact hsz
theorem HRel_nil (W : World) : HRel [] [] W := ⟨rfl, fun b B e h => by simp at h, fun b1 b2 B1 B2 e1 e2 _ h => by simp at h, fun b e h => by simp at h⟩
end Go.Ab
namespace Go.Proofs.YtjackggnnjdhmaaGreatDoor
open Go.Ab
set_option linter.unusedVariables false
set_option linter.unusedSimpArgs false
def tab0 : List AV := [.int .u64 1, .int .u64 10, .int .u64 100, .int .u64 1000, .int .u64 10000, .int .u64 100000, .int .u64 1000000, .int .u64 10000000, .int .u64 100000000, .int .u64 1000000000, .int .u64 10000000000, .int .u64 100000000000, .int .u64 1000000000000, .int .u64 10000000000000, .int .u64 100000000000000, .int .u64 1000000000000000, .int .u64 10000000000000000, .int .u64 100000000000000000, .int .u64 1000000000000000000, .int .u64 10000000000000000000]
def tab1 : List AV := [.int .u32 0, .int .u32 498536548, .int .u32 997073096, .int .u32 651767980, .int .u32 1994146192, .int .u32 1802195444, .int .u32 1303535960, .int .u32 1342533948, .int .u32 3988292384, .int .u32 4027552580, .int .u32 3604390888, .int .u32 3412177804, .int .u32 2607071920, .int .u32 2262029012, .int .u32 2685067896, .int .u32 3183342108]
def tab2 : List AV := [.int .u8 0, .int .u8 1, .int .u8 56, .int .u8 2, .int .u8 57, .int .u8 49, .int .u8 28, .int .u8 3, .int .u8 61, .int .u8 58, .int .u8 42, .int .u8 50, .int .u8 38, .int .u8 29, .int .u8 17, .int .u8 4, .int .u8 62, .int .u8 47, .int .u8 59, .int .u8 36, .int .u8 45, .int .u8 43, .int .u8 51, .int .u8 22, .int .u8 53, .int .u8 39, .int .u8 33, .int .u8 30, .int .u8 24, .int .u8 18, .int .u8 12, .int .u8 5, .int .u8 63, .int .u8 55, .int .u8 48, .int .u8 27, .int .u8 60, .int .u8 41, .int .u8 37, .int .u8 16, .int .u8 46, .int .u8 35, .int .u8 44, .int .u8 21, .int .u8 52, .int .u8 32, .int .u8 23, .int .u8 11, .int .u8 54, .int .u8 26, .int .u8 40, .int .u8 15, .int .u8 34, .int .u8 20, .int .u8 31, .int .u8 10, .int .u8 25, .int .u8 14, .int .u8 19, .int .u8 9, .int .u8 13, .int .u8 8, .int .u8 7, .int .u8 6]
def tab3 : List AV := [.int .u8 0, .int .u8 1, .int .u8 28, .int .u8 2, .int .u8 29, .int .u8 14, .int .u8 24, .int .u8 3, .int .u8 30, .int .u8 22, .int .u8 20, .int .u8 15, .int .u8 25, .int .u8 17, .int .u8 4, .int .u8 8, .int .u8 31, .int .u8 27, .int .u8 13, .int .u8 23, .int .u8 21, .int .u8 19, .int .u8 16, .int .u8 7, .int .u8 26, .int .u8 12, .int .u8 18, .int .u8 6, .int .u8 11, .int .u8 5, .int .u8 10, .int .u8 9]
def gsAV : List (Nat × List AV) := [(0, tab0), (6, tab1), (5, tab2), (4, tab3)]
def OverL (h : Heap) : Prop := ∀ (μ : Ren) (w : World), HRel μ h w → ∃ μ1, HRel μ1 (laidHs 0 gsAV) w
def isInt : AV → Bool
 | .int _ _ => true
 | _ => false
theorem isInt_plain {x : AV} (h : isInt x = true) : ∀ (μ μ' : Ren) (y : Value), x.rel μ y → x.rel μ' y := by
 cases x <;> simp [isInt] at h
 intro μ μ' y h; exact h
theorem tabs_int : ∀ x ∈ tab0 ++ tab1 ++ tab2 ++ tab3, isInt x = true := by
 have : (tab0 ++ tab1 ++ tab2 ++ tab3).all isInt = true := by kernel_rfl
 exact List.all_eq_true.1 this
theorem laid_forms : ∀ (i : Nat) (B : Blk), (laidHs 0 gsAV)[i]? = some B → (∃ g j, B = .gm g j ∧ j < 8) ∨ ∃ c, B = .cells c false ∧ ∀ x ∈ c, isInt x = true := by
 intro i B h
 match i with
 | 0 => cases h; exact .inl ⟨_, _, rfl, by omega⟩
 | 1 => cases h; exact .inr ⟨_, rfl, fun x hx => tabs_int x (by simp [hx])⟩
 | 2 => cases h; exact .inl ⟨_, _, rfl, by omega⟩
 | 3 => cases h; exact .inr ⟨_, rfl, fun x hx => tabs_int x (by simp [hx])⟩
 | 4 => cases h; exact .inl ⟨_, _, rfl, by omega⟩
 | 5 => cases h; exact .inr ⟨_, rfl, fun x hx => tabs_int x (by simp [hx])⟩
 | 6 => cases h; exact .inl ⟨_, _, rfl, by omega⟩
 | 7 => cases h; exact .inr ⟨_, rfl, fun x hx => tabs_int x (by simp [hx])⟩
 | i + 8 => simp [laidHs, gsAV] at h
theorem overL_app (t : Heap) : OverL (laidHs 0 gsAV ++ t) := by
 intro μ w hh
 have hlen : (laidHs 0 gsAV).length = 8 := rfl
 refine ⟨_, hh.pre (gs := gsAV) (fun i hi => List.getElem?_append_left hi) (by rw [List.length_append]; omega) ?_ ?_ ?_⟩
 ·intro i g j h
  rcases laid_forms i _ h with ⟨g', j', e, hj⟩ | ⟨c, e, _⟩
  ·cases e; rw [hlen]; exact hj
  ·cases e
 ·intro i c rw h x hx
  rcases laid_forms i _ h with ⟨g', j', e, hj⟩ | ⟨c', e, hc⟩
  ·cases e
  ·cases e; exact isInt_plain (hc x hx)
 ·intro i B h
  rcases laid_forms i B h with ⟨g', j', e, _⟩ | ⟨c', e, _⟩
  ·exact .inl ⟨_, _, e⟩
  ·exact .inr ⟨_, _, e⟩
end Go.Proofs.YtjackggnnjdhmaaGreatDoor
namespace Go.Ab
open Go
theorem joined_of {P : Program} {f : FuncId} {fn : Func} {s : ChangeSpec} {c : OpenClaim}
  (a1 : c.wf (OpenSpec.ofChange s) = true) (a2 : laidOutB P = true) (a3 : mapsRowed P = true) (a4 : fn.params.all (P.readableRec ·) = true) (a5 : namedTie P c.named s.vars = true)
  (a6 : (c.stops == []) = true) (a7 : (P.stops == []) = true) (a8 : (c.knobs == []) = true) (a9 : (P.stopKnobs == []) = true)
  (a10 : (c.inPlace == P.inPlace f) = true) (a11 : (c.unfollowed == P.unfollowed f) = true) (a12 : (c.recurses == P.recurses f) = true) (a13 : (c.named == P.varsNamed f) = true)
  (a14 : (c.maps == (fn.params.toList ++ s.plain.varTypes P).any (P.mapsRec ·)) = true) (a15 : (c.ifaces == (fn.params.toList ++ s.plain.varTypes P).any (P.ifacesRec ·)) = true) (a16 : (c.mapsOut == P.mapsAmong fn.resultTypes.toList) = true)
  (a17 : (c.loops == (fn.params.toList ++ s.plain.varTypes P).any (P.loopsFrom ·)) = true) (a18 : (c.wideKeys == (fn.params.toList ++ s.plain.varTypes P ++ fn.resultTypes.toList).any (P.wideKeysFrom ·)) = true)
  (a19 : s.vars.all (P.varReadable ·) = true) (a20 : fn.resultTypes.all (fun t => P.readableRec t && decide (t < P.types.size)) = true) (a21 : (c.ifacesOut == fn.resultTypes.toList.any (P.ifacesRec ·)) = true) (a22 : (c.loopsOut == fn.resultTypes.toList.any (P.loopsFrom ·)) = true)
  (a23 : (c.plainKeys == P.plainKeys) = true) (a24 : c.shortTexts.isNone = true) (a25 : P.stopsHeard = true) (a26 : P.mayEnter = true) (a27 : (c.lifted == P.liftsFinal) = true) (a28 : (P.make == some c.make) = true)
  (a29 : (c.kinds == (if c.domain.isEmpty then [] else fn.params.toList.map fun t => match P.underlying t with | some (.int k) => some k | _ => none)) = true) (a30 : (c.pinned == c.pinnedBy) = true)
  (a31 : (c.veiled == (fn.params.toList ++ s.plain.varTypes P ++ fn.resultTypes.toList).any (P.veiledRec ·)) = true) (a32 : c.veiledFits P fn.params.toList (fn.params.toList ++ s.plain.varTypes P ++ fn.resultTypes.toList) = true) : joinedFacts P f fn s c = true := by
 unfold joinedFacts
 simp only [Bool.and_eq_true]
 exact ⟨⟨⟨⟨⟨⟨⟨⟨⟨⟨⟨⟨⟨⟨⟨⟨⟨⟨⟨⟨⟨⟨⟨⟨⟨⟨⟨⟨⟨⟨⟨a1, a2⟩, a3⟩, a4⟩, a5⟩, a6⟩, a7⟩, a8⟩, a9⟩, a10⟩, a11⟩, a12⟩, a13⟩, a14⟩, a15⟩, a16⟩, a17⟩, a18⟩, a19⟩, a20⟩, a21⟩, a22⟩, a23⟩, a24⟩, a25⟩, a26⟩, a27⟩, a28⟩, a29⟩, a30⟩, a31⟩, a32⟩
end Go.Ab
