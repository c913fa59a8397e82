/- Running the abstract machine by the kernel: what it answers holds. Code, loops, functions. -/
import Derived.Test.YtceplmmmlindnaaCEv4
namespace Go.Ab
set_option linter.unusedSimpArgs false
set_option linter.unusedVariables false

section
variable {P : Program} {call : ECall}
abbrev noLoc : Nat → Bool := fun _ => false

theorem eput_ok {t : T LV} {ρ : List LV} (R : t.For ρ) {d : Option Nat} {v : LV} {e : EH} {k : EC} (h : eput d v t e k = true) (L : Locs) (hh : Heap) : ∃ t', t'.For (St.put ⟨ρ, L, hh⟩ d v L hh).ρ ∧ k t' e = true := by
  cases d with
  | none => exact ⟨t, R, h⟩
  | some d => obtain ⟨t', h1, h2⟩ := R.put h; exact ⟨t', h2, h1⟩

theorem eGuardVal_eq {t : T LV} {ρ : List LV} (R : t.For ρ) (ops : Array Oper) (j : Nat) : eGuardVal ops t j = guardVal ops ρ j := by
  unfold eGuardVal guardVal
  cases (ops[j]?).bind (·.dst) with
  | none => rfl
  | some d => simp only [R d]; rcases ρ[d]? with _ | lv; rfl; cases lv with
    | val v => cases v <;> rfl
    | loc _ _ => rfl
    | top => rfl
theorem eGuardOff_eq {t : T LV} {ρ : List LV} (R : t.For ρ) (ops : Array Oper) (j : Nat) : eGuardOff ops t j = guardOff ops ρ j := by
  unfold eGuardOff guardOff
  cases (ops[j]?).bind (·.dst) with
  | none => rfl
  | some d => simp only [R d]; rcases ρ[d]? with _ | lv; rfl; cases lv with
    | val v => cases v with
      | tup l => cases l <;> rfl
      | _ => rfl
    | loc _ _ => rfl
    | top => rfl

/-- What the frame's state stands for. -/
abbrev SK (K : St → Prop) (k : EC) : Prop := ∀ t ρ e h, T.For t ρ → HFor e h → k t e = true → K ⟨ρ, [], h⟩

theorem eside_ok (C : CallOK P call) {o : Oper} {act : Bool} {t : T LV} {ρ : List LV} (R : t.For ρ) {e : EH} {h : Heap} (H : HFor e h) {k : EC} {K : St → Prop} (hK : SK K k) (hk : eside P call o act t e k = true) :
    vside P noLoc (AC P) o act ⟨ρ, [], h⟩ K := by
  cases act with
  | true =>
    simp only [eside] at hk
    simp only [vside]
    refine eop_ok C R H (fun v e' h' H' hv => ?_) hk
    obtain ⟨t', h1, h2⟩ := eput_ok R hv [] h'
    cases hd : o.dst with
    | none => rw [hd] at h1; exact hK _ _ _ _ h1 H' h2
    | some d => rw [hd] at h1; exact hK _ _ _ _ h1 H' h2
  | false =>
    simp only [eside] at hk
    simp only [vside]
    obtain ⟨t', h1, h2⟩ := eput_ok R hk [] h
    exact hK _ _ _ _ h1 H h2

theorem eguarded_ok (C : CallOK P call) {ops : Array Oper} {o : Oper} {t : T LV} {ρ : List LV} (R : t.For ρ) {e : EH} {h : Heap} (H : HFor e h) {k : EC} {K : St → Prop} (hK : SK K k) (hk : eguarded P call ops o t e k = true) :
    vguarded P noLoc (AC P) ops o ⟨ρ, [], h⟩ K := by
  unfold eguarded at hk
  unfold vguarded
  split at hk
  · rename_i hg
    simp only [hg]
    exact eside_ok C R H hK (act := true) hk
  · rename_i j want hg
    simp only [hg]
    rw [eGuardOff_eq R] at hk
    split at hk
    · rename_i ho
      simp only [ho]
      obtain ⟨t', h1, h2⟩ := eput_ok R hk [] h
      exact hK _ _ _ _ h1 H h2
    · rename_i ho
      simp only [ho]
      rw [eGuardVal_eq R] at hk
      split at hk
      · simp at hk
      · rename_i hv
        simp only [hv, vif]
        rw [setG_same hv]
        exact eside_ok C R H hK hk
      · rename_i hv
        simp only [hv, vif]
        rw [setG_same hv]
        exact eside_ok C R H hK hk

theorem eops_ok (C : CallOK P call) {ops : Array Oper} : ∀ {is : List Nat} {t : T LV} {ρ : List LV} (R : t.For ρ) {e : EH} {h : Heap} (H : HFor e h) {k : EC} {K : St → Prop} (hK : SK K k) (hk : eops P call ops is t e k = true),
    vops P noLoc (AC P) ops is ⟨ρ, [], h⟩ K
  | [], t, ρ, R, e, h, H, k, K, hK, hk => hK _ _ _ _ R H hk
  | i :: is, t, ρ, R, e, h, H, k, K, hK, hk => by
    unfold eops at hk
    unfold vops
    split at hk
    · simp at hk
    · rename_i o ho
      simp only [ho]
      exact eguarded_ok C R H (fun t' ρ' e' h' R' H' hk' => eops_ok C R' H' hK hk') hk

theorem eall_ok {f : Nat → Bool} {F : Nat → Prop} (hF : ∀ j, f j = true → F j) : ∀ {l : List Nat}, eall l f = true → vall l F
  | [], h => trivial
  | [j], h => hF _ h
  | j :: j' :: js, h => by
    simp only [eall, Bool.and_eq_true] at h
    exact ⟨hF _ h.1, eall_ok hF h.2⟩

theorem erechk1_ok (C : CallOK P call) {ops : Array Oper} {i : Nat} {t : T LV} {ρ : List LV} (R : t.For ρ) {e : EH} {h : Heap} (H : HFor e h) (hk : erechk1 P call ops i t e = true) : rechk1 P noLoc (AC P) ops i ⟨ρ, [], h⟩ := by
  unfold erechk1 at hk
  unfold rechk1
  split at hk
  · rename_i o ho
    simp only [ho]
    have hKK : ∀ (lv : LV) (e' : EH), eSameK o t lv e' = true → (match o.dst with | some d => lv = ρ.getD d .top | none => True) := by
      intro lv e' hl
      unfold eSameK at hl
      cases hd : o.dst with
      | none => trivial
      | some d =>
        rw [hd] at hl
        simp only [R d] at hl
        simp only [List.getD]
        rcases hr : ρ[d]? with _ | v
        · rw [hr] at hl; simp at hl
        · rw [hr] at hl; simp only [Option.getD_some]; exact lvEq_ok hl
    unfold vg actsAt
    split at hk
    · rename_i hg
      simp only [hg, vif]
      exact eop_ok C R H (fun v e' h' H' hv => hKK _ _ hv) hk
    · rename_i j want hg
      simp only [hg]
      rw [eGuardOff_eq R] at hk
      split at hk
      · rename_i hgo; simp only [hgo, vif]; exact hKK _ _ hk
      · rename_i hgo
        rw [eGuardVal_eq R] at hk
        split at hk
        · simp at hk
        · rename_i b hv
          simp only [hgo, hv, Option.map_some]
          split at hk
          · rename_i hb; simp only [hb, vif]; exact eop_ok C R H (fun v e' h' H' hv => hKK _ _ hv) hk
          · rename_i hb; simp only [hb, vif]; exact hKK _ _ hk
  · simp at hk

theorem erechks_ok (C : CallOK P call) {ops : Array Oper} {t : T LV} {ρ : List LV} (R : t.For ρ) {e : EH} {h : Heap} (H : HFor e h) {a : Bool} {A : Prop} (hA : a = true → A) : ∀ {l : List Nat}, erechks P call ops t e a l = true → rechks P noLoc (AC P) ops ⟨ρ, [], h⟩ A l
  | [], hk => hA hk
  | i :: is, hk => by
    simp only [erechks, Bool.and_eq_true] at hk
    exact ⟨erechk1_ok C R H hk.1, erechks_ok C R H hA hk.2⟩

theorem eany_ok (C : CallOK P call) {ops : Array Oper} {rows : List Nat} {m : Nat} : ∀ {n : Nat} {listed : List Nat} {t : T LV} {ρ : List LV} (R : t.For ρ) {e : EH} {h : Heap} (H : HFor e h) {k : EC} {K : St → Prop} (hK : SK K k)
    (hk : eany P call ops rows m n listed t e k = true), vany P noLoc (AC P) ops rows m n listed ⟨ρ, [], h⟩ K
  | 0, listed, t, ρ, R, e, h, H, k, K, hK, hk => by simp [eany] at hk
  | n + 1, listed, t, ρ, R, e, h, H, k, K, hK, hk => by
    unfold eany at hk
    unfold vany
    split at hk
    · rename_i i hi
      simp only [hi]
      split at hk
      · rename_i o ho
        simp only [ho]
        exact eguarded_ok C R H (fun t' ρ' e' h' R' H' hk' => eany_ok C R' H' hK hk') hk
      · simp at hk
    · rename_i hi
      simp only [hi]
      split at hk
      · rename_i hr
        simp only [hr]
        rw [Bool.and_eq_true] at hk
        exact need_mk hk.1 (hK _ _ _ _ R H hk.2)
      · rename_i j js hr
        simp only [hr]
        refine eall_ok (fun j hj => ?_) hk
        split at hj
        · rename_i o ho
          simp only [ho]
          exact eguarded_ok C R H (fun t' ρ' e' h' R' H' hk' => erechks_ok C R' H' (fun hk2 => eany_ok C R' H' hK hk2) hk') hj
        · simp at hj

theorem edraw_ok (C : CallOK P call) {ops : Array Oper} {id : Nat} {t : T LV} {ρ : List LV} (R : t.For ρ) {e : EH} {h : Heap} (H : HFor e h) {k : EC} {K : St → Prop} (hK : SK K k) (hk : edraw P call ops t e k = true) :
    vdraw P noLoc (AC P) id ops ⟨ρ, [], h⟩ K := by
  unfold edraw at hk
  rw [Bool.and_eq_true] at hk
  unfold vdraw
  rw [bfRows_pair]
  exact need_mk hk.1 (eany_ok C R H hK hk.2)

theorem eSlots_ok {t : T LV} {ρ : List LV} (R : t.For ρ) : ∀ {ss : List Nat} {k : List AV → Bool}, eSlots t ss k = true → ∃ vs, slotVals ρ ss = some vs ∧ k vs = true
  | [], k, h => ⟨[], rfl, h⟩
  | s :: ss, k, h => by
    unfold eSlots at h
    rw [R s] at h
    split at h
    · rename_i v hv
      obtain ⟨vs, h1, h2⟩ := eSlots_ok R h
      exact ⟨v :: vs, by simp only [slotVals, hv, h1], h2⟩
    · simp at h

theorem eTop_ok : ∀ {ts : List Nat} {t : T LV} {ρ : List LV} (R : t.For ρ) {k : T LV → Bool}, eTop t ts k = true → ∃ t', t'.For (setTop ρ ts) ∧ k t' = true
  | [], t, ρ, R, k, h => ⟨t, R, h⟩
  | s :: ss, t, ρ, R, k, h => by
    unfold eTop at h
    obtain ⟨t', h1, h2⟩ := R.put h
    exact eTop_ok h2 h1

theorem ePutSlots_ok : ∀ {ss : List Nat} {vs : List AV} {t : T LV} {ρ : List LV} (R : t.For ρ) {k : T LV → Bool}, ePutSlots t ss vs k = true → vs.length = ss.length ∧ ∃ t', t'.For (setSlots ρ ss vs) ∧ k t' = true
  | [], [], t, ρ, R, k, h => ⟨rfl, t, R, h⟩
  | [], v :: vs, t, ρ, R, k, h => by simp [ePutSlots] at h
  | s :: ss, [], t, ρ, R, k, h => by simp [ePutSlots] at h
  | s :: ss, v :: vs, t, ρ, R, k, h => by
    unfold ePutSlots at h
    obtain ⟨t', h1, h2⟩ := R.put h
    obtain ⟨h3, h4⟩ := ePutSlots_ok h2 h1
    exact ⟨by simp [h3], h4⟩

theorem allL_mk : ∀ {zs : List AV} {F : List AV → Prop}, (∀ xs, F xs) → allL zs F
  | [], F, h => h _
  | z :: zs, F, h => by
    cases z <;> simp only [allL]
    case int k n => exact fun n => allL_mk fun xs => h _
    case bool b => exact fun b => allL_mk fun xs => h _
    case str s => exact fun s => allL_mk fun xs => h _
    case ptr p => exact fun p => allL_mk fun xs => h _
    case sl s => exact fun s => allL_mk fun xs => h _
    case map m => exact fun m => allL_mk fun xs => h _
    all_goals exact fun v _ => allL_mk fun xs => h _

theorem least {p : Nat → Prop} : (∃ n, p n) → ∃ n, p n ∧ ∀ m, p m → n ≤ m := by
  intro ⟨n, hn⟩
  induction n using Nat.strongRecOn with
  | ind n ih =>
    by_cases h : ∃ m, m < n ∧ p m
    · obtain ⟨m, h1, h2⟩ := h
      exact ih m h1 h2
    · exact ⟨n, hn, fun m hm => by
        rcases Nat.lt_or_ge m n with h1 | h1
        · exact (h ⟨m, h1, hm⟩).elim
        · exact h1⟩

def ehints (slots : Nat → List Nat) : Hints := ⟨noLoc, fun c => ⟨slots c, []⟩, fun _ => []⟩

abbrev QK (Q : Exit → St → Prop) (k : Exit → T LV → EH → Bool) : Prop := ∀ x t ρ e h, T.For t ρ → HFor e h → k x t e = true → Q x ⟨ρ, [], h⟩

theorem ecode_ok (C : CallOK P call) (slots : Nat → List Nat) : ∀ (c : Code) (cur : Nat) {t : T LV} {ρ : List LV} (R : t.For ρ) {e : EH} {h : Heap} (H : HFor e h) {k : Exit → T LV → EH → Bool} {Q : Exit → St → Prop} (hQ : QK Q k)
    (hk : ecode P slots call c cur t e k = true), vcode P (ehints slots) (AC P) (vdraw P noLoc (AC P)) c cur ⟨ρ, [], h⟩ Q := by
  intro c
  induction c with
  | skip => intro cur t ρ R e h H k Q hQ hk; exact hQ _ _ _ _ _ R H hk
  | region id ops d =>
    intro cur t ρ R e h H k Q hQ hk
    cases d with
    | false =>
      simp only [ecode] at hk
      simp only [vcode]
      exact eops_ok C R H (fun t ρ e h R H hk => hQ _ _ _ _ _ R H hk) hk
    | true =>
      simp only [ecode] at hk
      simp only [vcode]
      exact edraw_ok C R H (fun t ρ e h R H hk => hQ _ _ _ _ _ R H hk) hk
  | seq a b iha ihb =>
    intro cur t ρ R e h H k Q hQ hk
    simp only [ecode] at hk
    simp only [vcode]
    refine iha cur R H (fun x t' ρ' e' h' R' H' hk' => ?_) hk
    cases x with
    | normal => exact ihb cur R' H' hQ hk'
    | _ => exact hQ _ _ _ _ _ R' H' hk'
  | cond c a b iha ihb =>
    intro cur t ρ R e h H k Q hQ hk
    simp only [ecode, eev_eq R] at hk
    simp only [vcode]
    split at hk
    · rename_i hc
      simp only [hc, vif]
      rw [setC_same (st := ⟨ρ, [], h⟩) hc]
      exact iha cur R H hQ hk
    · rename_i hc
      simp only [hc, vif]
      rw [setC_same (st := ⟨ρ, [], h⟩) hc]
      exact ihb cur R H hQ hk
    · simp at hk
  | block id body ih =>
    intro cur t ρ R e h H k Q hQ hk
    simp only [ecode] at hk
    simp only [vcode]
    refine ih id R H (fun x t' ρ' e' h' R' H' hk' => ?_) hk
    cases x with
    | exit i =>
      cases hi : i == id with
      | true => simp only [hi] at hk' ⊢; exact hQ _ _ _ _ _ R' H' hk'
      | false => simp only [hi] at hk' ⊢; exact hQ _ _ _ _ _ R' H' hk'
    | _ => exact hQ _ _ _ _ _ R' H' hk'
  | loop body ih =>
    intro cur t ρ R e h H k Q hQ hk
    simp only [ecode] at hk
    obtain ⟨xs0, h1, hk⟩ := eSlots_ok R hk
    rw [Bool.and_eq_true] at hk
    obtain ⟨h2, hk⟩ := hk
    obtain ⟨t0, R0, hk⟩ := eTop_ok R hk
    have hcar : ∀ {ρ' : List LV} {h' : Heap} {xs : List AV}, slotVals ρ' (slots cur) = some xs → carry ((ehints slots).loops cur) ⟨ρ', [], h'⟩ = some xs := by
      intro ρ' h' xs hx
      simp only [carry, ehints, hx, locVals, List.append_nil]
    simp only [vcode, hcar h1]
    refine need_mk h2 ?_
    let p : List AV → Heap → Nat → Prop := fun xs hh n => ∃ eh, HFor eh hh ∧ eloop (fun ρ h k => ecode P slots call body cur ρ h k) (slots cur) t0 xs0 k n xs eh = true
    have hm : ∀ xs hh, (∃ n, p xs hh n) → ∃ n, p xs hh n ∧ ∀ m, p xs hh m → n ≤ m := fun xs hh => least
    refine ⟨fun xs hh => ∃ n, p xs hh n, fun xs hh => open Classical in if hx : ∃ n, p xs hh n then Classical.choose (hm xs hh hx) else 0, ⟨_, e, H, hk⟩, allL_mk fun xs hh hI => ?_⟩
    have hmv := Classical.choose_spec (hm xs hh hI)
    simp only [dif_pos hI]
    generalize Classical.choose (hm xs hh hI) = n at hmv
    obtain ⟨⟨eh, He, hrun⟩, hmin⟩ := hmv
    cases n with
    | zero => simp [eloop] at hrun
    | succ n =>
      simp only [eloop] at hrun
      obtain ⟨hlen, t1, R1, hrun⟩ := ePutSlots_ok R0 hrun
      have hhead : headSt ((ehints slots).loops cur) (writes body) ⟨ρ, [], h⟩ xs hh = ⟨setSlots (setTop ρ (writes body)) (slots cur) xs, [], hh⟩ := by
        simp only [headSt, ehints, setLocs, ← hlen, List.take_length]
      rw [hhead]
      refine ih cur R1 He (fun x t' ρ' e' h' R' H' hk' => ?_) hrun
      cases x with
      | normal =>
        simp only at hk'
        obtain ⟨xs', g1, g2⟩ := eSlots_ok R' hk'
        rw [Bool.and_eq_true] at g2
        simp only [hcar g1]
        refine need_mk g2.1 ⟨trivial, ⟨n, e', H', g2.2⟩, ?_⟩
        have hex : ∃ n, p xs' h' n := ⟨n, e', H', g2.2⟩
        rw [dif_pos hex]
        have := (Classical.choose_spec (hm xs' h' hex)).2 n ⟨e', H', g2.2⟩
        omega
      | _ => exact hQ _ _ _ _ _ R' H' hk'
  | exit id => intro cur t ρ R e h H k Q hQ hk; exact hQ _ _ _ _ _ R H hk
  | ret => intro cur t ρ R e h H k Q hQ hk; exact hQ _ _ _ _ _ R H hk
  | _ => intro cur t ρ R e h H k Q hQ hk; simp [ecode] at hk

theorem eresults_ok {t : T LV} {ρ : List LV} (R : t.For ρ) {e : EH} {h : Heap} (H : HFor e h) : ∀ {rs : List ResultVar} {k : List AV → Bool} {K : List AV → Prop}, (∀ l, k l = true → K l) → eresults P t e rs k = true → vresults P ⟨ρ, [], h⟩ rs K
  | [], k, K, hK, hk => hK _ hk
  | .tmp s :: rs, k, K, hK, hk => by
    unfold eresults at hk
    rw [R s] at hk
    unfold vresults vresult
    split at hk
    · rename_i v hv
      simp only [hv]
      exact eresults_ok R H (fun l hl => hK _ hl) hk
    · simp at hk
  | .cell a ty :: rs, k, K, hK, hk => by
    unfold eresults at hk
    rw [R a] at hk
    unfold vresults vresult
    split at hk
    · rename_i z p hz hv
      rw [Bool.and_eq_true] at hk
      have : ρ.getD a .top = .val (.ptr (some p)) := by simp only [List.getD, hv, Option.getD_some]
      simp only [vLoad, hz, hk.1, this, vPtr]
      exact eLoad_ok H hk.2 fun v hv => eresults_ok R H (fun l hl => hK _ hl) hv
    · simp at hk

theorem topT_ok : ∀ (f n : Nat), n < 2 ^ f → (topT f n).For (List.replicate n .top)
  | 0, n, h => by
    have : n = 0 := by simp at h; exact h
    subst this
    intro i; simp [topT, T.get]
  | f + 1, 0, h => by intro i; simp [topT, T.get]
  | f + 1, n + 1, h => by
    intro i
    simp only [topT]
    cases i with
    | zero => simp [T.get, List.replicate_succ]
    | succ i =>
      have h1 := topT_ok f ((n + 1) / 2) (by rw [Nat.pow_succ] at h; omega)
      have h2 := topT_ok f (n / 2) (by rw [Nat.pow_succ] at h; omega)
      simp only [T.get]
      rw [List.getElem?_replicate]
      cases hb : Nat.beq (i % 2) 0 with
      | true =>
        have := T.beq_true hb
        simp only
        rw [h1, List.getElem?_replicate]
        by_cases hi : i / 2 < (n + 1) / 2
        · rw [if_pos hi, if_pos (by omega)]
        · rw [if_neg hi, if_neg (by omega)]
      | false =>
        have := T.beq_false hb
        simp only
        rw [h2, List.getElem?_replicate]
        by_cases hi : i / 2 < n / 2
        · rw [if_pos hi, if_pos (by omega)]
        · rw [if_neg hi, if_neg (by omega)]

theorem eArgs_ok : ∀ {as : List AV} {t : T LV} {pre rest : List LV} (R : t.For (pre ++ rest)) {k : T LV → Bool}, eArgs t pre.length as k = true →
    as.length ≤ rest.length ∧ ∃ t', t'.For (pre ++ as.map .val ++ rest.drop as.length) ∧ k t' = true
  | [], t, pre, rest, R, k, h => ⟨by simp, t, by simpa using R, h⟩
  | a :: as, t, pre, rest, R, k, h => by
    unfold eArgs at h
    obtain ⟨t', ⟨h1, h2, h3⟩⟩ := T.put_ok h
    rw [fN_eq] at h1
    rw [R] at h2
    have hr : rest ≠ [] := by
      intro hr
      subst hr
      simp at h2
    obtain ⟨r, rest', rfl⟩ := List.exists_cons_of_ne_nil hr
    have R' : t'.For ((pre ++ [.val a]) ++ rest') := by
      intro j
      rw [h3, R]
      by_cases hj : j = pre.length
      · subst hj; simp
      · rw [if_neg hj]
        rw [List.getElem?_append, List.getElem?_append]
        by_cases hj2 : j < pre.length
        · rw [if_pos hj2, if_pos (by simp; omega), List.getElem?_append_left hj2]
        · rw [if_neg hj2, if_neg (by simp; omega)]
          obtain ⟨m, hm⟩ : ∃ m, j - pre.length = m + 1 := ⟨j - pre.length - 1, by omega⟩
          rw [hm, show j - (pre ++ [LV.val a]).length = m by simp; omega]
          simp
    have hl : (pre ++ [LV.val a]).length = pre.length.succ := by simp
    rw [← hl] at h1
    obtain ⟨g1, t2, g2, g3⟩ := eArgs_ok R' h1
    exact ⟨by simp; omega, t2, by simpa using g2, g3⟩

theorem efun_ok (C : CallOK P call) (slots : Nat → List Nat) : CallOK P (efun P slots call) := by
  intro f args e h k Q H hQ hk
  unfold efun at hk
  split at hk
  · simp at hk
  · rename_i fn hf
    split at hk
    · simp at hk
    · rename_i c hb
      rw [Bool.and_eq_true, Bool.and_eq_true] at hk
      obtain ⟨⟨hn, hsz⟩, hk⟩ := hk
      have hsz' : fn.ntmps < 65536 := by simpa [Nat.blt_eq] using hsz
      have R0 := topT_ok 17 fn.ntmps (by omega)
      obtain ⟨hle, t', R1, hk⟩ := eArgs_ok (pre := []) (by simpa using R0) hk
      refine AC_of_VC (H := ehints slots) hn ?_
      unfold VC vfun
      simp only [hf, hb]
      have e1 : args.map LV.val ++ List.replicate (fn.ntmps - args.length) LV.top = [] ++ args.map LV.val ++ (List.replicate fn.ntmps LV.top).drop args.length := by simp
      rw [e1]
      refine ecode_ok C slots c _ R1 H (fun x t2 ρ2 e2 h2 R2 H2 hk2 => ?_) hk
      have fin : eresults P t2 e2 fn.results.toList (fun l => match l with | [v] => k v e2 | l => k (.tup l) e2) = true → vret P fn ⟨ρ2, [], h2⟩ Q := by
        intro hr
        refine eresults_ok R2 H2 (fun l hl => ?_) hr
        split at hl
        · exact hQ _ _ _ H2 hl
        · rename_i l hne
          split
          · rename_i v; exact (hne v rfl).elim
          · exact hQ _ _ _ H2 hl
      cases x with
      | normal => exact fin hk2
      | ret => exact fin hk2
      | _ => simp at hk2

def OvrOK (P : Program) (ov : Ovr) : Prop := ∀ f g, ov f = some g → ∀ (args : List AV) (e : EH) (h : Heap) (k : AV → EH → Bool) (Q : AV → Heap → Prop), HFor e h →
  (∀ v e' h', HFor e' h' → k v e' = true → Q v h') → g args e k = true → AC P f args h Q

theorem erun_ok {slots : FuncId → Nat → List Nat} {ov : Ovr} (O : OvrOK P ov) : ∀ n, CallOK P (erun P slots ov n)
  | 0 => by intro f args e h k Q H hQ hk; simp [erun] at hk
  | n + 1 => by
    intro f args e h k Q H hQ hk
    unfold erun at hk
    split at hk
    · rename_i g hg; exact O f g hg args e h k Q H hQ hk
    · exact efun_ok (erun_ok O n) (slots f) f args e h k Q H hQ hk

/-- From nothing: a run that answers 'yes' from an empty heap. -/
theorem HFor_nil : HFor ⟨.e, 0⟩ [] := ⟨fun i => by simp [T.get], rfl⟩
end
end Go.Ab
