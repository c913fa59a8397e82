import Derived.Test.YtjackggnnjdhmaaGreatDoorCG7
import Derived.Test.YtjackggnnjdhmaaGreatDoorCG10
namespace Go.Ab
set_option linter.unusedSimpArgs false
set_option linter.unusedVariables false
section
variable (P : Program)
def ecallY (call : ECall) (b : Nat) (Y : List AV → EH → (EH → Bool) → Bool) : ECall := fun g args h k => match Nat.beq g 1000000000 with
 | true => (match args with | .func (.yield b') [] [] :: rest => Nat.beq b' b && Y rest h fun h' => k (.bool true) h' | _ => false)
 | false => call g args h k
def ePs : List Nat → List AV → T LV → (T LV → Bool) → Bool
 | s :: ss, v :: vs, ρ, k => ρ.put s (.val v) fun ρ' => ePs ss vs ρ' k
 | [], [], ρ, k => k ρ
 | _, _, _, _ => false
def eYOf (slots : Nat → List Nat) (call : ECall) (ρ : T LV) (ps : Array Tmp) (assign body : Code) : List AV → EH → (EH → Bool) → Bool := fun xs h k =>
 ePs ps.toList xs ρ fun ρ1 => ecode P false slots call assign 1000000 ρ1 h fun e ρ2 h2 => match e with
  | .normal => ecode P false slots call body 1000000 ρ2 h2 fun e _ h3 => (match e with | .normal => k h3 | _ => false)
  | _ => false
def eRange (slots : Nat → List Nat) (slotsI : FuncId → Nat → List Nat) (call : ECall) (g : Operand) (ps : Array Tmp) (assign body : Code) (ρ : T LV) (h : EH) (k : EH → Bool) : Bool :=
 (In.flat assign && In.flat body) && match eev ρ g with
 | .val (.func (.func gf) [] caps) => (match P.funcs[gf]? with
  | some fg => (match fg.body with
   | some cg => ((In.flat cg && callable P gf) && Nat.blt fg.ntmps 65536) && h.t.add h.n .dead fun t' => fN (Nat.succ h.n) fun n' => eArgs (topT 17 fg.ntmps) 0 (.func (.yield h.n) [] [] :: caps) fun ρI =>
     ecode P false (slotsI gf) (ecallY call h.n (eYOf P slots call ρ ps assign body)) cg 1000000 ρI ⟨t', n'⟩ fun e ρ' h' => match e with
      | .normal => eresults P ρ' h' fg.results.toList fun _ => k h'
      | .ret => eresults P ρ' h' fg.results.toList fun _ => k h'
      | _ => false
   | none => false)
  | none => false)
 | _ => false
def esp (slots : Nat → List Nat) (slotsI : FuncId → Nat → List Nat) (call : ECall) : Code → Nat → T LV → EH → (Exit → T LV → EH → Bool) → Bool
 | .seq a b, cur, ρ, h, k => match hasRF a with
  | true => In.flat b && esp slots slotsI call a cur ρ h fun e ρ' h' => match e with
   | .normal => ecode P false slots call b cur ρ' h' k
   | e => k e ρ' h'
  | false => In.flat a && ecode P false slots call a cur ρ h fun e ρ' h' => match e with
   | .normal => esp slots slotsI call b cur ρ' h' k
   | e => k e ρ' h'
 | .block id c, _, ρ, h, k => esp slots slotsI call c id ρ h fun e ρ' h' => match e with
  | .exit i => (match i == id with | true => k .normal ρ' h' | false => k (.exit i) ρ' h')
  | e => k e ρ' h'
 | .rangeFunc g ps assign body, _, ρ, h, k => eRange P slots slotsI call g ps assign body ρ h fun h' => k .normal ρ h'
 | _, _, _, _, _ => false
def espfun (slots : FuncId → Nat → List Nat) (call : ECall) (f : FuncId) (args : List AV) (h : EH) (k : AV → EH → Bool) : Bool :=
 match P.funcs[f]? with
 | none => false
 | some fn => match fn.body with
  | none => false
  | some c => (callable P f && Nat.blt fn.ntmps 65536) && eArgs (topT 17 fn.ntmps) 0 args fun ρ => esp P (slots f) slots call c 1000000 ρ h fun e ρ' h' => match e with
   | .normal => eresults P ρ' h' fn.results.toList fun l => (match l with | [v] => k v h' | l => k (.tup l) h')
   | .ret => eresults P ρ' h' fn.results.toList fun l => (match l with | [v] => k v h' | l => k (.tup l) h')
   | _ => false
end
section
variable {P : Program} {call : ECall}
theorem ePs_ok : ∀ {ss : List Nat} {vs : List AV} {t : T LV} {ρ : List LV} (R : t.For ρ) {k : T LV → Bool}, ePs ss vs t k = true → vs.length = ss.length ∧ ∃ t', t'.For (setSlots ρ ss vs) ∧ k t' = true
 | [], [], t, ρ, R, k, h => ⟨rfl, t, R, h⟩
 | [], v :: vs, t, ρ, R, k, h => by simp [ePs] at h
 | s :: ss, [], t, ρ, R, k, h => by simp [ePs] at h
 | s :: ss, v :: vs, t, ρ, R, k, h => by
  unfold ePs at h
  obtain ⟨t', h1, h2, h3⟩ := T.put_ok h
  rw [R] at h2
  have hs : s < ρ.length := by
   rcases Nat.lt_or_ge s ρ.length with h4 | h4
   ·exact h4
   ·rw [List.getElem?_eq_none h4] at h2; cases h2
  have R' : t'.For (ρ.set s (.val v)) := by
   intro j
   rw [h3, R, List.getElem?_set]
   by_cases hj : j = s
   ·subst hj; rw [if_pos rfl, if_pos rfl, if_pos hs]
   ·rw [if_neg hj, if_neg (Ne.symm hj)]
  obtain ⟨g1, g2⟩ := ePs_ok R' h1
  exact ⟨by simp [g1], g2⟩
theorem ecallY_ok (C : CallOK P call) {b : Nat} {YE : List AV → EH → (EH → Bool) → Bool} {Y : YH} (hY : ∀ (xs : List AV) (e : EH) (h : Heap) (k : EH → Bool) (R : Heap → Prop), HFor e h → (∀ e' h', HFor e' h' → k e' = true → R h') → YE xs e k = true → Y xs h R) :
  CallOKH (callY P b Y) (ecallY call b YE) := by
 intro f args e h k Q H hQ hk
 unfold ecallY at hk
 split at hk
 ·rename_i hf
  have hf : f = 1000000000 := Nat.eq_of_beq_eq_true hf
  split at hk
  ·rename_i b' rest
   rw [Bool.and_eq_true] at hk
   have hb := Nat.eq_of_beq_eq_true hk.1
   subst hb
   exact .inr ⟨hf, rest, rfl, hY rest e h _ _ H (fun e' h' H' hk' => hQ _ _ _ H' hk') hk.2⟩
  ·simp at hk
 ·exact .inl (C f args e h k Q H hQ hk)
theorem eYOf_ok (C : CallOK P call) {slots : Nat → List Nat} {t : T LV} {ρ : List LV} (R : t.For ρ) {ps : Array Tmp} {assign body : Code} (xs : List AV) (e : EH) (h : Heap) (k : EH → Bool) (K : Heap → Prop) (H : HFor e h) (hK : ∀ e' h', HFor e' h' → k e' = true → K h')
  (hk : eYOf P slots call t ps assign body xs e k = true) : YOf P (ehints slots) ρ ps assign body xs h K := by
 unfold eYOf at hk
 obtain ⟨hl, t1, R1, hk⟩ := ePs_ok R hk
 refine ⟨by simpa using hl, ?_⟩
 refine ecode_ok C slots assign _ R1 H (fun x t2 ρ2 e2 h2 R2 H2 hk2 => ?_) hk
 cases x with
 | normal =>
  refine ⟨rfl, rfl, ecode_ok C slots body _ R2 H2 (fun x t3 ρ3 e3 h3 R3 H3 hk3 => ?_) hk2⟩
  cases x with
  | normal => exact ⟨rfl, hK _ _ H3 hk3⟩
  | _ => simp at hk3
 | _ => simp at hk2
theorem HFor.dead {e : EH} {h : Heap} (H : HFor e h) {k : T Blk → Bool} (hk : e.t.add e.n .dead k = true) : e.n = h.length ∧ ∃ t', k t' = true ∧ HFor ⟨t', e.n + 1⟩ (h ++ [.dead]) := by
 obtain ⟨t', h1, h2⟩ := T.add_ok hk
 refine ⟨H.2, t', h1, fun j => ?_, by simp [H.2]⟩
 rw [h2, H.1]
 rw [List.getElem?_append]
 by_cases hj : j = e.n
 ·subst hj
  rw [if_pos rfl, H.2, if_neg (by omega)]
  simp
 ·rw [if_neg hj]
  split
  ·rfl
  ·rename_i hlt
   have := H.2
   rw [List.getElem?_eq_none (by omega), List.getElem?_singleton, if_neg (by omega)]
theorem eRange_ok (C : CallOK P call) {slots : Nat → List Nat} {slotsI : FuncId → Nat → List Nat} {g : Operand} {ps : Array Tmp} {assign body : Code} {t : T LV} {ρ : List LV} (R : t.For ρ) {e : EH} {h : Heap} (H : HFor e h) {k : EH → Bool} {K : Heap → Prop} (hK : ∀ e' h', HFor e' h' → k e' = true → K h')
  (hk : eRange P slots slotsI call g ps assign body t e k = true) : VRange P (ehints slots) (fun f => ehints (slotsI f)) g ps assign body ⟨ρ, [], h⟩ K := by
 unfold eRange at hk
 rw [Bool.and_eq_true] at hk
 obtain ⟨hfl, hk⟩ := hk
 refine ⟨rfl, hfl, ?_⟩
 rw [eev_eq R] at hk
 split at hk
 ·rename_i gf caps hg
  simp only [hg]
  split at hk
  ·rename_i fg hf
   simp only [hf]
   split at hk
   ·rename_i cg hb
    simp only [hb]
    rw [Bool.and_eq_true, Bool.and_eq_true] at hk
    obtain ⟨⟨hfc, hsz⟩, hk⟩ := hk
    have hsz' : fg.ntmps < 65536 := by simpa [Nat.blt_eq] using hsz
    obtain ⟨hn, t', hk, H1⟩ := H.dead hk
    rw [fN_eq] at hk
    have R0 := topT_ok 17 fg.ntmps (by omega)
    obtain ⟨hle, t1, R1, hk⟩ := eArgs_ok (pre := []) (by simpa using R0) hk
    refine ⟨hfc, ?_⟩
    rw [hn] at hk R1 H1
    have e1 : (AV.func (.yield h.length) [] [] :: caps).map LV.val ++ List.replicate (fg.ntmps - (AV.func (.yield h.length) [] [] :: caps).length) LV.top = [] ++ (AV.func (.yield h.length) [] [] :: caps).map LV.val ++ (List.replicate fg.ntmps LV.top).drop (AV.func (.yield h.length) [] [] :: caps).length := by simp
    rw [e1]
    refine ecode_ok (ecallY_ok C fun xs e h k R H hR hk => eYOf_ok C (slots := slots) (ps := ps) (assign := assign) (body := body) ‹T.For t ρ› xs e h k R H hR hk) (slotsI gf) cg _ R1 H1 (fun x t2 ρ2 e2 h2 R2 H2 hk2 => ?_) hk
    have fin : eresults P t2 e2 fg.results.toList (fun _ => k e2) = true → vret P fg ⟨ρ2, [], h2⟩ fun _ h' => K h' := by
     intro hr
     refine eresults_ok R2 H2 (fun l hl => ?_) hr
     split
     ·exact hK _ _ H2 hl
     ·exact hK _ _ H2 hl
    cases x with
    | normal => exact fin hk2
    | ret => exact fin hk2
    | _ => simp at hk2
   ·simp at hk
  ·simp at hk
 ·simp at hk
theorem esp_ok (C : CallOK P call) {slots : Nat → List Nat} {slotsI : FuncId → Nat → List Nat} : ∀ (c : Code) (cur : Nat) {t : T LV} {ρ : List LV} (R : t.For ρ) {e : EH} {h : Heap} (H : HFor e h) {k : Exit → T LV → EH → Bool} {Q : Exit → St → Prop} (hQ : QK Q k)
  (hk : esp P slots slotsI call c cur t e k = true), vsp P (ehints slots) (fun f => ehints (slotsI f)) c cur ⟨ρ, [], h⟩ Q := by
 intro c
 induction c with
 | seq a b iha ihb =>
  intro cur t ρ R e h H k Q hQ hk
  unfold esp at hk
  unfold vsp
  split at hk
  ·rename_i hrf
   simp only [hrf]
   rw [Bool.and_eq_true] at hk
   refine ⟨hk.1, iha cur R H (fun x t2 ρ2 e2 h2 R2 H2 hk2 => ?_) hk.2⟩
   cases x with
   | normal => exact ⟨rfl, ecode_ok C slots b cur R2 H2 hQ hk2⟩
   | _ => exact hQ _ _ _ _ _ R2 H2 hk2
  ·rename_i hrf
   simp only [hrf]
   rw [Bool.and_eq_true] at hk
   refine ⟨hk.1, ecode_ok C slots a cur R H (fun x t2 ρ2 e2 h2 R2 H2 hk2 => ?_) hk.2⟩
   cases x with
   | normal => exact ihb cur R2 H2 hQ hk2
   | _ => exact hQ _ _ _ _ _ R2 H2 hk2
 | block id c ih =>
  intro cur t ρ R e h H k Q hQ hk
  unfold esp at hk
  unfold vsp
  refine ih id R H (fun x t2 ρ2 e2 h2 R2 H2 hk2 => ?_) hk
  cases x with
  | exit i =>
   simp only at hk2 ⊢
   split at hk2
   ·rename_i hi; simp only [hi]; exact hQ _ _ _ _ _ R2 H2 hk2
   ·rename_i hi; simp only [hi]; exact hQ _ _ _ _ _ R2 H2 hk2
  | _ => exact hQ _ _ _ _ _ R2 H2 hk2
 | rangeFunc g ps assign body _ _ =>
  intro cur t ρ R e h H k Q hQ hk
  unfold esp at hk
  unfold vsp
  exact eRange_ok C R H (fun e' h' H' hk' => hQ _ _ _ _ _ R H' hk') hk
 | _ => intro cur t ρ R e h H k Q hQ hk; simp [esp] at hk
theorem espfun_ok (C : CallOK P call) (slots : FuncId → Nat → List Nat) : CallOK P (espfun P slots call) := by
 intro f args e h k Q H hQ hk
 unfold espfun at hk
 split at hk
 ·simp at hk
 ·rename_i fn hf
  split at hk
  ·simp at hk
  ·rename_i c hb
   rw [Bool.and_eq_true, Bool.and_eq_true] at hk
   obtain ⟨⟨hn, hsz⟩, hk⟩ := hk
   have hsz' : fn.ntmps < 65536 := by simpa [Nat.blt_eq] using hsz
   have R0 := topT_ok 17 fn.ntmps (by omega)
   obtain ⟨hle, t', R1, hk⟩ := eArgs_ok (pre := []) (by simpa using R0) hk
   refine AC_of_vsp (H := ehints (slots f)) (HI := fun f => ehints (slots f)) hf hb hn ?_
   have e1 : args.map LV.val ++ List.replicate (fn.ntmps - args.length) LV.top = [] ++ args.map LV.val ++ (List.replicate fn.ntmps LV.top).drop args.length := by simp
   rw [e1]
   refine esp_ok C c _ R1 H (fun x t2 ρ2 e2 h2 R2 H2 hk2 => ?_) hk
   have fin : eresults P t2 e2 fn.results.toList (fun l => match l with | [v] => k v e2 | l => k (.tup l) e2) = true → vret P fn ⟨ρ2, [], h2⟩ Q := by
    intro hr
    refine eresults_ok R2 H2 (fun l hl => ?_) hr
    split at hl
    ·exact hQ _ _ _ H2 hl
    ·rename_i l hne
     split
     ·rename_i v; exact (hne v rfl).elim
     ·exact hQ _ _ _ H2 hl
   cases x with
   | normal => exact fin hk2
   | ret => exact fin hk2
   | _ => simp at hk2
end
end Go.Ab
