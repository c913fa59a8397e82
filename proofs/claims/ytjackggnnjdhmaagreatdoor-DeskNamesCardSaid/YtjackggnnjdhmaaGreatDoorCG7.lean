import Derived.Test.YtjackggnnjdhmaaGreatDoorCG5
import Derived.Test.YtjackggnnjdhmaaGreatDoorCG6
import Derived.Maps.Own
import Derived.Maps.Views
import Derived.Sort.KeysCollected
import Derived.Laws.AppendOwn
import Derived.CallsIn
import Derived.Defers
namespace Go.Ab
set_option linter.unusedSimpArgs false
set_option linter.unusedVariables false
section
variable {P : Program} {call : ECall}
theorem eput_ok {t : T LV} {ρ : List LV} (R : t.For ρ) {d : Option Nat} {v : LV} {e : EH} {k : EC} (h : eput d v t e k = true) (L : Locs) (hh : Heap) : ∃ t', t'.For (St.put ⟨ρ, L, hh⟩ d v L hh).ρ ∧ k t' e = true := by
 cases d with
 | none => exact ⟨t, R, h⟩
 | some d => obtain ⟨t', h1, h2⟩ := T.For.put R (k := fun t' => k t' e) h; exact ⟨t', h2, h1⟩
theorem eGuardVal_eq {t : T LV} {ρ : List LV} (R : t.For ρ) (ops : Array Oper) (j : Nat) : eGuardVal ops t j = guardVal ops ρ j := by
 unfold eGuardVal guardVal
 cases (ops[j]?).bind (·.dst) with
 | none => rfl
 | some d => simp only [R d]; rcases ρ[d]? with _ | lv; rfl; cases lv with
  | val v => cases v <;> rfl
  | loc _ _ => rfl
  | top => rfl
theorem eGuardOff_eq {t : T LV} {ρ : List LV} (R : t.For ρ) (ops : Array Oper) (j : Nat) : eGuardOff ops t j = guardOff ops ρ j := by
 unfold eGuardOff guardOff
 cases (ops[j]?).bind (·.dst) with
 | none => rfl
 | some d => simp only [R d]; rcases ρ[d]? with _ | lv; rfl; cases lv with
  | val v => cases v with
   | tup l => cases l <;> rfl
   | _ => rfl
  | loc _ _ => rfl
  | top => rfl
abbrev SK (K : St → Prop) (k : EC) : Prop := ∀ t ρ e h, T.For t ρ → HFor e h → k t e = true → K ⟨ρ, [], h⟩
theorem eside_ok {CH : CallH} (C : CallOKH CH call) {o : Oper} {act : Bool} {t : T LV} {ρ : List LV} (R : t.For ρ) {e : EH} {h : Heap} (H : HFor e h) {k : EC} {K : St → Prop} (hK : SK K k) (hk : eside P call o act t e k = true) :
  vside P noLoc CH o act ⟨ρ, [], h⟩ K := by
 cases act with
 | true =>
  simp only [eside] at hk
  simp only [vside]
  refine eop_ok C R H (fun v e' h' H' hv => ?_) hk
  obtain ⟨t', h1, h2⟩ := eput_ok R hv [] h'
  cases hd : o.dst with
  | none => rw [hd] at h1; exact hK _ _ _ _ h1 H' h2
  | some d => rw [hd] at h1; exact hK _ _ _ _ h1 H' h2
 | false =>
  simp only [eside] at hk
  simp only [vside]
  obtain ⟨t', h1, h2⟩ := eput_ok R hk [] h
  exact hK _ _ _ _ h1 H h2
theorem eguarded_ok {CH : CallH} (C : CallOKH CH call) {ops : Array Oper} {o : Oper} {t : T LV} {ρ : List LV} (R : t.For ρ) {e : EH} {h : Heap} (H : HFor e h) {k : EC} {K : St → Prop} (hK : SK K k) (hk : eguarded P call ops o t e k = true) :
  vguarded P noLoc CH ops o ⟨ρ, [], h⟩ K := by
 unfold eguarded at hk
 unfold vguarded
 split at hk
 ·rename_i hg
  simp only [hg]
  exact eside_ok C R H hK (act := true) hk
 ·rename_i j want hg
  simp only [hg]
  rw [eGuardOff_eq R] at hk
  split at hk
  ·rename_i ho
   simp only [ho]
   obtain ⟨t', h1, h2⟩ := eput_ok R hk [] h
   exact hK _ _ _ _ h1 H h2
  ·rename_i ho
   simp only [ho]
   rw [eGuardVal_eq R] at hk
   split at hk
   ·simp at hk
   ·rename_i hv
    simp only [hv, vif]
    rw [setG_same hv]
    exact eside_ok C R H hK hk
   ·rename_i hv
    simp only [hv, vif]
    rw [setG_same hv]
    exact eside_ok C R H hK hk
theorem eops_ok {CH : CallH} (C : CallOKH CH call) {ops : Array Oper} : ∀ {is : List Nat} {t : T LV} {ρ : List LV} (R : t.For ρ) {e : EH} {h : Heap} (H : HFor e h) {k : EC} {K : St → Prop} (hK : SK K k) (hk : eops P call ops is t e k = true),
  vops P noLoc CH ops is ⟨ρ, [], h⟩ K
 | [], t, ρ, R, e, h, H, k, K, hK, hk => hK _ _ _ _ R H hk
 | i :: is, t, ρ, R, e, h, H, k, K, hK, hk => by
  unfold eops at hk
  unfold vops
  split at hk
  ·simp at hk
  ·rename_i o ho
   simp only [ho]
   exact eguarded_ok C R H (fun t' ρ' e' h' R' H' hk' => eops_ok C R' H' hK hk') hk
theorem eall_ok {f : Nat → Bool} {F : Nat → Prop} (hF : ∀ j, f j = true → F j) : ∀ {l : List Nat}, eall l f = true → vall l F
 | [], h => trivial
 | [j], h => hF _ h
 | j :: j' :: js, h => by
  simp only [eall, Bool.and_eq_true] at h
  exact ⟨hF _ h.1, eall_ok hF h.2⟩
theorem erechk1_ok {CH : CallH} (C : CallOKH CH call) {ops : Array Oper} {i : Nat} {t : T LV} {ρ : List LV} (R : t.For ρ) {e : EH} {h : Heap} (H : HFor e h) (hk : erechk1 P call ops i t e = true) : rechk1 P noLoc CH ops i ⟨ρ, [], h⟩ := by
 unfold erechk1 at hk
 unfold rechk1
 split at hk
 ·rename_i o ho
  simp only [ho]
  have hKK : ∀ (lv : LV) (e' : EH), eSameK o t lv e' = true → (match o.dst with | some d => lv = ρ.getD d .top | none => True) := by
   intro lv e' hl
   unfold eSameK at hl
   cases hd : o.dst with
   | none => trivial
   | some d =>
    rw [hd] at hl
    simp only [R d] at hl
    simp only [List.getD]
    rcases hr : ρ[d]? with _ | v
    ·rw [hr] at hl; simp at hl
    ·rw [hr] at hl; simp only [Option.getD_some]; exact lvEq_ok hl
  unfold vg actsAt
  split at hk
  ·rename_i hg
   simp only [hg, vif]
   exact eop_ok C R H (fun v e' h' H' hv => hKK _ _ hv) hk
  ·rename_i j want hg
   simp only [hg]
   rw [eGuardOff_eq R] at hk
   split at hk
   ·rename_i hgo; simp only [hgo, vif]; exact hKK _ _ hk
   ·rename_i hgo
    rw [eGuardVal_eq R] at hk
    split at hk
    ·simp at hk
    ·rename_i b hv
     simp only [hgo, hv, Option.map_some]
     split at hk
     ·rename_i hb; simp only [hb, vif]; exact eop_ok C R H (fun v e' h' H' hv => hKK _ _ hv) hk
     ·rename_i hb; simp only [hb, vif]; exact hKK _ _ hk
 ·simp at hk
theorem erechks_ok {CH : CallH} (C : CallOKH CH call) {ops : Array Oper} {t : T LV} {ρ : List LV} (R : t.For ρ) {e : EH} {h : Heap} (H : HFor e h) {a : Bool} {A : Prop} (hA : a = true → A) : ∀ {l : List Nat}, erechks P call ops t e a l = true → rechks P noLoc CH ops ⟨ρ, [], h⟩ A l
 | [], hk => hA hk
 | i :: is, hk => by
  simp only [erechks, Bool.and_eq_true] at hk
  exact ⟨erechk1_ok C R H hk.1, erechks_ok C R H hA hk.2⟩
theorem eany_ok {CH : CallH} (C : CallOKH CH call) {ops : Array Oper} {rows : List Nat} {m : Nat} : ∀ {n : Nat} {listed : List Nat} {t : T LV} {ρ : List LV} (R : t.For ρ) {e : EH} {h : Heap} (H : HFor e h) {k : EC} {K : St → Prop} (hK : SK K k)
  (hk : eany P call ops rows m none n listed t e k = true), vany P noLoc CH ops rows m n listed ⟨ρ, [], h⟩ K
 | 0, listed, t, ρ, R, e, h, H, k, K, hK, hk => by simp [eany] at hk
 | n + 1, listed, t, ρ, R, e, h, H, k, K, hK, hk => by
  unfold eany at hk
  try simp only [readyZ] at hk
  unfold vany
  split at hk
  ·rename_i i hi
   simp only [hi]
   split at hk
   ·rename_i o ho
    simp only [ho]
    exact eguarded_ok C R H (fun t' ρ' e' h' R' H' hk' => eany_ok C R' H' hK hk') hk
   ·simp at hk
  ·rename_i hi
   simp only [hi]
   split at hk
   ·rename_i hr
    simp only [hr]
    rw [Bool.and_eq_true] at hk
    exact need_mk hk.1 (hK _ _ _ _ R H hk.2)
   ·rename_i j js hr
    simp only [hr]
    refine eall_ok (fun j hj => ?_) hk
    split at hj
    ·rename_i o ho
     simp only [ho]
     exact eguarded_ok C R H (fun t' ρ' e' h' R' H' hk' => erechks_ok C R' H' (fun hk2 => eany_ok C R' H' hK hk2) hk') hj
    ·simp at hj
theorem eanyL_ok {CH : CallH} (C : CallOKH CH call) {ops : Array Oper} {rows : List Nat} {m : Nat} {lt : List Nat} : ∀ {n : Nat} {listed : List Nat} {t : T LV} {ρ : List LV} (R : t.For ρ) {e : EH} {h : Heap} (H : HFor e h) {k : EC} {K : St → Prop} (hK : SK K k)
  (hk : eany P call ops rows m (some lt) n listed t e k = true), vanyL P CH ops rows m lt n listed ⟨ρ, [], h⟩ K
 | 0, listed, t, ρ, R, e, h, H, k, K, hK, hk => by simp [eany] at hk
 | n + 1, listed, t, ρ, R, e, h, H, k, K, hK, hk => by
  unfold eany at hk
  try simp only [readyZ] at hk
  unfold vanyL
  split at hk
  ·rename_i i hi
   try simp only [hi]
   split at hk
   ·rename_i o ho
    try simp only [ho]
    exact eguarded_ok C R H (fun t' ρ' e' h' R' H' hk' => eanyL_ok C R' H' hK hk') hk
   ·simp at hk
  ·rename_i hi
   try simp only [hi]
   split at hk
   ·rename_i hr
    try simp only [hr]
    rw [Bool.and_eq_true] at hk
    exact need_mk hk.1 (hK _ _ _ _ R H hk.2)
   ·rename_i j js hr
    try simp only [hr]
    refine eall_ok (fun j hj => ?_) hk
    split at hj
    ·rename_i o ho
     try simp only [ho]
     exact eguarded_ok C R H (fun t' ρ' e' h' R' H' hk' => need_mk rfl (erechks_ok C R' H' (fun hk2 => eanyL_ok C R' H' hK hk2) hk')) hj
    ·simp at hj
theorem edraw_ok {CH : CallH} (C : CallOKH CH call) {lz : Bool} {ops : Array Oper} {id : Nat} {t : T LV} {ρ : List LV} (R : t.For ρ) {e : EH} {h : Heap} (H : HFor e h) {k : EC} {K : St → Prop} (hK : SK K k) (hk : edraw P lz call ops t e k = true) :
  vdrawZ P lz CH id ops ⟨ρ, [], h⟩ K := by
 unfold edraw at hk
 rw [Bool.and_eq_true] at hk
 cases lz with
 | true =>
  show vdrawL P CH id ops ⟨ρ, [], h⟩ K
  unfold vdrawL
  rw [bfRows_pair]
  exact need_mk hk.1 (need_mk rfl (eanyL_ok C R H hK hk.2))
 | false =>
  show vdraw P noLoc CH id ops ⟨ρ, [], h⟩ K
  unfold vdraw
  rw [bfRows_pair]
  exact need_mk hk.1 (eany_ok C R H hK hk.2)
theorem eSlots_ok {t : T LV} {ρ : List LV} (R : t.For ρ) : ∀ {ss : List Nat} {k : List AV → Bool}, eSlots t ss k = true → ∃ vs, slotVals ρ ss = some vs ∧ k vs = true
 | [], k, h => ⟨[], rfl, h⟩
 | s :: ss, k, h => by
  unfold eSlots at h
  rw [R s] at h
  split at h
  ·rename_i v hv
   obtain ⟨vs, h1, h2⟩ := eSlots_ok R h
   exact ⟨v :: vs, by simp only [slotVals, hv, h1], h2⟩
  ·simp at h
theorem eTop_ok : ∀ {ts : List Nat} {t : T LV} {ρ : List LV} (R : t.For ρ) {k : T LV → Bool}, eTop t ts k = true → ∃ t', t'.For (setTop ρ ts) ∧ k t' = true
 | [], t, ρ, R, k, h => ⟨t, R, h⟩
 | s :: ss, t, ρ, R, k, h => by
  unfold eTop at h
  obtain ⟨t', h1, h2⟩ := R.put h
  exact eTop_ok h2 h1
theorem ePutSlots_ok : ∀ {ss : List Nat} {vs : List AV} {t : T LV} {ρ : List LV} (R : t.For ρ) {k : T LV → Bool}, ePutSlots t ss vs k = true → vs.length = ss.length ∧ ∃ t', t'.For (setSlots ρ ss vs) ∧ k t' = true
 | [], [], t, ρ, R, k, h => ⟨rfl, t, R, h⟩
 | [], v :: vs, t, ρ, R, k, h => by simp [ePutSlots] at h
 | s :: ss, [], t, ρ, R, k, h => by simp [ePutSlots] at h
 | s :: ss, v :: vs, t, ρ, R, k, h => by
  unfold ePutSlots at h
  obtain ⟨t', h1, h2⟩ := R.put h
  obtain ⟨h3, h4⟩ := ePutSlots_ok h2 h1
  exact ⟨by simp [h3], h4⟩
theorem allL_mk : ∀ {zs : List AV} {F : List AV → Prop}, (∀ xs, F xs) → allL zs F
 | [], F, h => h _
 | z :: zs, F, h => by
  cases z <;> simp only [allL]
  case int k n => exact fun n => allL_mk fun xs => h _
  case bool b => exact fun b => allL_mk fun xs => h _
  case str s => exact fun s => allL_mk fun xs => h _
  case ptr p => exact fun p => allL_mk fun xs => h _
  case sl s => exact fun s => allL_mk fun xs => h _
  case map m => exact fun m => allL_mk fun xs => h _
  all_goals exact fun v _ => allL_mk fun xs => h _
theorem least {p : Nat → Prop} : (∃ n, p n) → ∃ n, p n ∧ ∀ m, p m → n ≤ m := by
 intro ⟨n, hn⟩
 induction n using Nat.strongRecOn with
 | ind n ih =>
  by_cases h : ∃ m, m < n ∧ p m
  ·obtain ⟨m, h1, h2⟩ := h
   exact ih m h1 h2
  ·exact ⟨n, hn, fun m hm => by
    rcases Nat.lt_or_ge m n with h1 | h1
    ·exact (h ⟨m, h1, hm⟩).elim
    ·exact h1⟩
def ehints (slots : Nat → List Nat) : Hints := ⟨noLoc, fun c => ⟨slots c, []⟩, fun _ => [], fun _ => none⟩
abbrev QK (Q : Exit → St → Prop) (k : Exit → T LV → EH → Bool) : Prop := ∀ x t ρ e h, T.For t ρ → HFor e h → k x t e = true → Q x ⟨ρ, [], h⟩
theorem ecode_ok {CH : CallH} (C : CallOKH CH call) {lz : Bool} (slots : Nat → List Nat) : ∀ (c : Code) (cur : Nat) {t : T LV} {ρ : List LV} (R : t.For ρ) {e : EH} {h : Heap} (H : HFor e h) {k : Exit → T LV → EH → Bool} {Q : Exit → St → Prop} (hQ : QK Q k)
  (hk : ecode P lz slots call c cur t e k = true), vcode P (ehints slots) CH (vdrawZ P lz CH) c cur ⟨ρ, [], h⟩ Q := by
 intro c
 induction c with
 | skip => intro cur t ρ R e h H k Q hQ hk; exact hQ _ _ _ _ _ R H hk
 | region id ops d =>
  intro cur t ρ R e h H k Q hQ hk
  cases d with
  | false =>
   simp only [ecode] at hk
   simp only [vcode]
   exact eops_ok C R H (fun t ρ e h R H hk => hQ _ _ _ _ _ R H hk) hk
  | true =>
   simp only [ecode] at hk
   simp only [vcode]
   exact edraw_ok C R H (fun t ρ e h R H hk => hQ _ _ _ _ _ R H hk) hk
 | seq a b iha ihb =>
  intro cur t ρ R e h H k Q hQ hk
  simp only [ecode] at hk
  simp only [vcode]
  refine iha cur R H (fun x t' ρ' e' h' R' H' hk' => ?_) hk
  cases x with
  | normal => exact ihb cur R' H' hQ hk'
  | _ => exact hQ _ _ _ _ _ R' H' hk'
 | cond c a b iha ihb =>
  intro cur t ρ R e h H k Q hQ hk
  simp only [ecode, eev_eq R] at hk
  simp only [vcode]
  split at hk
  ·rename_i hc
   simp only [hc, vif]
   rw [setC_same (st := ⟨ρ, [], h⟩) hc]
   exact iha cur R H hQ hk
  ·rename_i hc
   simp only [hc, vif]
   rw [setC_same (st := ⟨ρ, [], h⟩) hc]
   exact ihb cur R H hQ hk
  ·simp at hk
 | block id body ih =>
  intro cur t ρ R e h H k Q hQ hk
  simp only [ecode] at hk
  simp only [vcode, ehints]
  refine ih id R H (fun x t' ρ' e' h' R' H' hk' => ?_) hk
  cases x with
  | exit i =>
   cases hi : i == id with
   | true => simp only [hi] at hk' ⊢; exact hQ _ _ _ _ _ R' H' hk'
   | false => simp only [hi] at hk' ⊢; exact hQ _ _ _ _ _ R' H' hk'
  | _ => exact hQ _ _ _ _ _ R' H' hk'
 | loop body ih =>
  intro cur t ρ R e h H k Q hQ hk
  simp only [ecode] at hk
  obtain ⟨xs0, h1, hk⟩ := eSlots_ok R hk
  rw [Bool.and_eq_true] at hk
  obtain ⟨h2, hk⟩ := hk
  obtain ⟨t0, R0, hk⟩ := eTop_ok R hk
  have hcar : ∀ {ρ' : List LV} {h' : Heap} {xs : List AV}, slotVals ρ' (slots cur) = some xs → carry ((ehints slots).loops cur) ⟨ρ', [], h'⟩ = some xs := by
   intro ρ' h' xs hx
   simp only [carry, ehints, hx, locVals, List.append_nil]
  simp only [vcode, hcar h1]
  refine need_mk h2 ?_
  let p : List AV → Heap → Nat → Prop := fun xs hh n => ∃ eh, HFor eh hh ∧ eloop (fun ρ h k => ecode P lz slots call body cur ρ h k) (slots cur) t0 xs0 k n xs eh = true
  have hm : ∀ xs hh, (∃ n, p xs hh n) → ∃ n, p xs hh n ∧ ∀ m, p xs hh m → n ≤ m := fun xs hh => least
  refine ⟨fun xs hh => ∃ n, p xs hh n, fun xs hh => open Classical in if hx : ∃ n, p xs hh n then Classical.choose (hm xs hh hx) else 0, ⟨_, e, H, hk⟩, allL_mk fun xs hh hI => ?_⟩
  have hmv := Classical.choose_spec (hm xs hh hI)
  simp only [dif_pos hI]
  generalize Classical.choose (hm xs hh hI) = n at hmv
  obtain ⟨⟨eh, He, hrun⟩, hmin⟩ := hmv
  cases n with
  | zero => simp [eloop] at hrun
  | succ n =>
   simp only [eloop] at hrun
   obtain ⟨hlen, t1, R1, hrun⟩ := ePutSlots_ok R0 hrun
   have hhead : headSt ((ehints slots).loops cur) (writes body) ⟨ρ, [], h⟩ xs hh = ⟨setSlots (setTop ρ (writes body)) (slots cur) xs, [], hh⟩ := by
    simp only [headSt, ehints, setLocs, ← hlen, List.take_length]
   rw [hhead]
   refine ih cur R1 He (fun x t' ρ' e' h' R' H' hk' => ?_) hrun
   cases x with
   | normal =>
    simp only at hk'
    obtain ⟨xs', g1, g2⟩ := eSlots_ok R' hk'
    rw [Bool.and_eq_true] at g2
    simp only [hcar g1]
    refine need_mk g2.1 ⟨trivial, ⟨n, e', H', g2.2⟩, ?_⟩
    have hex : ∃ n, p xs' h' n := ⟨n, e', H', g2.2⟩
    rw [dif_pos hex]
    have := (Classical.choose_spec (hm xs' h' hex)).2 n ⟨e', H', g2.2⟩
    omega
   | _ => exact hQ _ _ _ _ _ R' H' hk'
 | exit id => intro cur t ρ R e h H k Q hQ hk; exact hQ _ _ _ _ _ R H hk
 | ret => intro cur t ρ R e h H k Q hQ hk; exact hQ _ _ _ _ _ R H hk
 | scope body ih =>
  intro cur t ρ R e h H k Q hQ hk
  simp only [ecode] at hk
  simp only [vcode]
  refine ih cur R H (fun x t' ρ' e' h' R' H' hk' => ?_) hk
  cases x with
  | goto l => simp at hk'
  | _ => exact hQ _ _ _ _ _ R' H' hk'
 | label l => intro cur t ρ R e h H k Q hQ hk; exact hQ _ _ _ _ _ R H hk
 | _ => intro cur t ρ R e h H k Q hQ hk; simp [ecode] at hk
theorem eresults_ok {t : T LV} {ρ : List LV} (R : t.For ρ) {e : EH} {h : Heap} (H : HFor e h) : ∀ {rs : List ResultVar} {k : List AV → Bool} {K : List AV → Prop}, (∀ l, k l = true → K l) → eresults P t e rs k = true → vresults P ⟨ρ, [], h⟩ rs K
 | [], k, K, hK, hk => hK _ hk
 | .tmp s :: rs, k, K, hK, hk => by
  unfold eresults at hk
  rw [R s] at hk
  unfold vresults vresult
  split at hk
  ·rename_i v hv
   simp only [hv]
   exact eresults_ok R H (fun l hl => hK _ hl) hk
  ·simp at hk
 | .cell a ty :: rs, k, K, hK, hk => by
  unfold eresults at hk
  rw [R a] at hk
  unfold vresults vresult
  split at hk
  ·rename_i z p hz hv
   rw [Bool.and_eq_true] at hk
   have : ρ.getD a .top = .val (.ptr (some p)) := by simp only [List.getD, hv, Option.getD_some]
   simp only [vLoad, hz, hk.1, this, vPtr]
   exact eLoad_ok H hk.2 fun v hv => eresults_ok R H (fun l hl => hK _ hl) hv
  ·simp at hk
theorem q1T_get {n a d : Nat} (h : d < 16) : (q1T n a).get d = cellT n (a + d) := by
 rcases lt16 h with rfl | rfl | rfl | rfl | rfl | rfl | rfl | rfl | rfl | rfl | rfl | rfl | rfl | rfl | rfl | rfl <;> rfl
theorem q2T_get {n a d : Nat} (h : d < 16) : (q2T n a).get d = q1T n (a + 16 * d) := by
 rcases lt16 h with rfl | rfl | rfl | rfl | rfl | rfl | rfl | rfl | rfl | rfl | rfl | rfl | rfl | rfl | rfl | rfl <;> rfl
theorem q3T_get {n a d : Nat} (h : d < 16) : (q3T n a).get d = q2T n (a + 256 * d) := by
 rcases lt16 h with rfl | rfl | rfl | rfl | rfl | rfl | rfl | rfl | rfl | rfl | rfl | rfl | rfl | rfl | rfl | rfl <;> rfl
theorem q4T_get {n a d : Nat} (h : d < 16) : (q4T n a).get d = q3T n (a + 4096 * d) := by
 rcases lt16 h with rfl | rfl | rfl | rfl | rfl | rfl | rfl | rfl | rfl | rfl | rfl | rfl | rfl | rfl | rfl | rfl <;> rfl
theorem q5T_get {n a d : Nat} (h : d < 16) : (q5T n a).get d = q4T n (a + 65536 * d) := by
 rcases lt16 h with rfl | rfl | rfl | rfl | rfl | rfl | rfl | rfl | rfl | rfl | rfl | rfl | rfl | rfl | rfl | rfl <;> rfl
theorem cellT_eq (n i : Nat) : cellT n i = (List.replicate n LV.top)[i]? := by
 unfold cellT
 rw [List.getElem?_replicate]
 cases h : Nat.blt i n with
 | true => rw [if_pos (T.blt_t h)]
 | false => rw [if_neg (fun hc => by rw [T.blt_of hc] at h; cases h)]
theorem topT_ok (f n : Nat) (h : n < 65536) : (topT f n).For (List.replicate n .top) := by
 intro i
 obtain ⟨d1, d2, d3, d4, d5⟩ := D_lt i
 unfold topT
 have e1 : D1 i = i % 16 := rfl
 have e2 : D2 i = i / 16 % 16 := rfl
 have e3 : D3 i = i / 256 % 16 := rfl
 have e4 : D4 i = i / 4096 % 16 := rfl
 have e5 : D5 i = i / 65536 % 16 := rfl
 cases hn : Nat.ble n 256 with
 | true =>
  have hn' : n ≤ 256 := Nat.le_of_ble_eq_true hn
  show (match Nat.blt i 256 with | true => ((q2T n 0).get (D2 i)).get (D1 i) | false => none) = _
  cases hi : Nat.blt i 256 with
  | true =>
   have hi' := T.blt_t hi
   simp only
   rw [q2T_get d2, q1T_get d1, ← cellT_eq]
   congr 1; omega
  | false =>
   have : ¬ i < 256 := fun hc => by rw [T.blt_of hc] at hi; cases hi
   rw [List.getElem?_eq_none (by rw [List.length_replicate]; omega)]
 | false =>
  show (match Nat.blt i 1048576 with | true => (((((q5T n 0).get (D5 i)).get (D4 i)).get (D3 i)).get (D2 i)).get (D1 i) | false => none) = _
  cases hi : Nat.blt i 1048576 with
  | true =>
   have hi' := T.blt_t hi
   simp only
   rw [q5T_get d5, q4T_get d4, q3T_get d3, q2T_get d2, q1T_get d1, ← cellT_eq]
   congr 1; omega
  | false =>
   have : ¬ i < 1048576 := fun hc => by rw [T.blt_of hc] at hi; cases hi
   rw [List.getElem?_eq_none (by rw [List.length_replicate]; omega)]
theorem eArgs_ok : ∀ {as : List AV} {t : T LV} {pre rest : List LV} (R : t.For (pre ++ rest)) {k : T LV → Bool}, eArgs t pre.length as k = true →
  as.length ≤ rest.length ∧ ∃ t', t'.For (pre ++ as.map .val ++ rest.drop as.length) ∧ k t' = true
 | [], t, pre, rest, R, k, h => ⟨by simp, t, by simpa using R, h⟩
 | a :: as, t, pre, rest, R, k, h => by
  unfold eArgs at h
  obtain ⟨t', ⟨h1, h2, h3⟩⟩ := T.put_ok h
  rw [fN_eq] at h1
  rw [R] at h2
  have hr : rest ≠ [] := by
   intro hr
   subst hr
   simp at h2
  obtain ⟨r, rest', rfl⟩ := List.exists_cons_of_ne_nil hr
  have R' : t'.For ((pre ++ [.val a]) ++ rest') := by
   intro j
   rw [h3, R]
   by_cases hj : j = pre.length
   ·subst hj; simp
   ·rw [if_neg hj]
    rw [List.getElem?_append, List.getElem?_append]
    by_cases hj2 : j < pre.length
    ·rw [if_pos hj2, if_pos (by simp; omega), List.getElem?_append_left hj2]
    ·rw [if_neg hj2, if_neg (by simp; omega)]
     obtain ⟨m, hm⟩ : ∃ m, j - pre.length = m + 1 := ⟨j - pre.length - 1, by omega⟩
     rw [hm, show j - (pre ++ [LV.val a]).length = m by simp; omega]
     simp
  have hl : (pre ++ [LV.val a]).length = pre.length.succ := by simp
  rw [← hl] at h1
  obtain ⟨g1, t2, g2, g3⟩ := eArgs_ok R' h1
  exact ⟨by simp; omega, t2, by simpa using g2, g3⟩
theorem efun_ok (C : CallOK P call) (slots : Nat → List Nat) : CallOK P (efun P slots call) := by
 intro f args e h k Q H hQ hk
 unfold efun at hk
 split at hk
 ·simp at hk
 ·rename_i fn hf
  split at hk
  ·simp at hk
  ·rename_i c hb
   rw [Bool.and_eq_true, Bool.and_eq_true] at hk
   obtain ⟨⟨hn, hsz⟩, hk⟩ := hk
   have hsz' : fn.ntmps < 65536 := by simpa [Nat.blt_eq] using hsz
   have R0 := topT_ok 17 fn.ntmps (by omega)
   obtain ⟨hle, t', R1, hk⟩ := eArgs_ok (pre := []) (by simpa using R0) hk
   refine AC_of_vfun (H := ehints slots) (vdrawL_ok) hn ?_
   unfold vfun
   simp only [hf, hb]
   have e1 : args.map LV.val ++ List.replicate (fn.ntmps - args.length) LV.top = [] ++ args.map LV.val ++ (List.replicate fn.ntmps LV.top).drop args.length := by simp
   rw [e1]
   refine ecode_ok C slots c _ R1 H (fun x t2 ρ2 e2 h2 R2 H2 hk2 => ?_) hk
   have fin : eresults P t2 e2 fn.results.toList (fun l => match l with | [v] => k v e2 | l => k (.tup l) e2) = true → vret P fn ⟨ρ2, [], h2⟩ Q := by
    intro hr
    refine eresults_ok R2 H2 (fun l hl => ?_) hr
    split at hl
    ·exact hQ _ _ _ H2 hl
    ·rename_i l hne
     split
     ·rename_i v; exact (hne v rfl).elim
     ·exact hQ _ _ _ H2 hl
   cases x with
   | normal => exact fin hk2
   | ret => exact fin hk2
   | _ => simp at hk2
def OvrOK (P : Program) (ov : Ovr) : Prop := ∀ f g, ov f = some g → ∀ (args : List AV) (e : EH) (h : Heap) (k : AV → EH → Bool) (Q : AV → Heap → Prop), HFor e h →
 (∀ v e' h', HFor e' h' → k v e' = true → Q v h') → g args e k = true → AC P f args h Q
theorem erun_ok {slots : FuncId → Nat → List Nat} {ov : Ovr} (O : OvrOK P ov) : ∀ n, CallOK P (erun P slots ov n)
 | 0 => by intro f args e h k Q H hQ hk; simp [erun] at hk
 | n + 1 => by
  intro f args e h k Q H hQ hk
  unfold erun at hk
  split at hk
  ·rename_i g hg; exact O f g hg args e h k Q H hQ hk
  ·exact efun_ok (erun_ok O n) (slots f) f args e h k Q H hQ hk
theorem HFor_nil : HFor ⟨.e, 0⟩ [] := ⟨fun i => by simp [T.get], rfl⟩
end
end Go.Ab
namespace Go.Ab
def keyStrs : List (AV × AV × Nat) → Option (List (List UInt8))
 | [] => some []
 | (.str s, _, _) :: es => (match keyStrs es with | some l => some (s :: l) | none => none)
 | _ => none
def insStr (s : List UInt8) : List (List UInt8) → (List (List UInt8) → Bool) → Bool
 | [], k => k [s]
 | t :: l, k => match bytesLess t s with
  | true => insStr s l fun r => k (t :: r)
  | false => k (s :: t :: l)
def sortStr : List (List UInt8) → (List (List UInt8) → Bool) → Bool
 | [], k => k []
 | s :: l, k => sortStr l fun r => insStr s r k
def strAVs : List (List UInt8) → (List AV → Bool) → Bool
 | [], k => k []
 | s :: l, k => strAVs l fun r => k (.str s :: r)
def eKeys (g : FuncId) (args : List AV) (h : EH) (k : AV → EH → Bool) : Bool :=
 match args with
 | [.map m] => eNewB (.bx (.map m)) h fun b h' => k (.func (.func g) [] [.ptr (some ⟨b, 0⟩)]) h'
 | _ => false
def leS (a b : List UInt8) : Bool := decide (a ≤ b)
def pwB : List (List UInt8) → Bool
 | [] => true
 | x :: l => l.all (leS x) && pwB l
def eSorted (gs : List FuncId) (args : List AV) (h : EH) (k : AV → EH → Bool) : Bool :=
 match args with
 | [.func (.func f) [] [.ptr (some p)]] => (gs.contains f && Nat.beq p.o 0) && (match h.t.get p.b with
  | some (.bx (.map (some m))) => (match h.t.get m with
   | some (.mp es cl) => (match keyStrs es with
    | some ss => sortStr ss fun ss' => (ss'.isPerm ss && pwB ss' && decide ss.Nodup && decide (es.map (·.2.2)).Nodup && (es.all fun e => Nat.blt e.2.2 cl) && Nat.ble ss.length 1000000 && ss.all fun s => Nat.ble s.length 1000000) && (match ss' with
     | [] => k (.sl none) h
     | s :: l => strAVs (s :: l) fun c => eNew c true h fun b h' => fN (s :: l).length fun n => k (.sl (some ⟨b, 0, n, n, 1⟩)) h')
    | none => false)
   | _ => false)
  | _ => false)
 | _ => false
def ovKS (keys : List (FuncId × FuncId)) (sorted : FuncId) : Ovr := fun f =>
 match f == sorted with
 | true => some (eSorted (keys.map (·.2)))
 | false => match keys.find? (fun x => x.1 == f) with | some (_, g) => some (eKeys g) | none => none
end Go.Ab
namespace Go.Ab
open Go.Maps Go.MapKept
open Go.Proofs (encStr)
set_option linter.unusedSimpArgs false
set_option linter.unusedVariables false
abbrev blindR : Value → Option (DataW Unit × List MemPlace) := fun _ => some (.nil, [])
def SortedLaw (P : Program) (f g : FuncId) (kt : TypeId) : Prop :=
 ∀ (Bm b nn : Nat) (D0 : DataW Unit) (w : World), Bm < w.heap.size → w.cell? ⟨Bm, 0, none⟩ = some (.map (some b)) → w.ownsMap P kt blindR b nn D0 → Maps.size D0 ≤ maxLen → Maps.size D0 * 16 ≤ 140737488355328 →
  Calls P f #[.func (.func g) #[] #[.pointer (some ⟨Bm, 0, none⟩)]] w fun e w' => ∃ (v : Value) (ss : List (List UInt8)), e = .returned v ∧ ss.Perm (strKeys D0) ∧
   w'.ownsRow w.heap.size kt 1 v ss.length ((ss.mergeSort leB).map encStr) ∧ (v = .slice none 0 0 ↔ ss = []) ∧ Go.RowKit.Below w.heap.size w w'
def KeysLaw (P : Program) (f g : FuncId) : Prop :=
 ∃ t : TypeId, ∀ (mb : Option Nat) (w : World), Calls P f #[.map mb] w fun e w' => e = .returned (.func (.func g) #[] #[.pointer (some ⟨w.heap.size, 0, none⟩)]) ∧ w' = w.alloc (.cells #[.map mb] t)
theorem rel_self {μ : Ren} {h : Heap} {w : World} (H : HRel μ h w) : Rel μ h w μ [] [] h w :=
 ⟨Evo.refl _ _ _, H, ⟨rfl, by simp, by simp, by simp, by simp⟩⟩
theorem Rel.below {μ0 : Ren} {h0 : Heap} {w0 : World} {μ : Ren} {h : Heap} {w w' : World} (R : Rel μ0 h0 w0 μ [] [] h w) (B : Go.RowKit.Below w.heap.size w w') : Rel μ0 h0 w0 μ [] [] h w' where
 evo := { R.evo with
  size := Nat.le_trans R.evo.size B.size
  frame := fun r hr hn => by rw [B.block r (Nat.lt_of_lt_of_le hr R.evo.size)]; exact R.evo.frame r hr hn
  os := B.os.trans R.evo.os, tape := B.tape.trans R.evo.tape, output := B.output.trans R.evo.output }
 heap := ⟨R.heap.len, fun b B' e hb he => (R.heap.blk b B' e hb he).world (B.block _ (R.heap.bnd b e he)), R.heap.sep, fun b e he => Nat.lt_of_lt_of_le (R.heap.bnd b e he) B.size⟩
 locs := ⟨rfl, by simp, by simp, by simp, by simp⟩
theorem keys_ac {P : Program} {f g : FuncId} (hc : callable P f = true) (L : KeysLaw P f g) {m : Option Nat} {h : Heap} {Q : AV → Heap → Prop} (hq : Q (.func (.func g) [] [.ptr (some ⟨h.length, 0⟩)]) (h ++ [.bx (.map m)])) : AC P f [.map m] h Q := by
 refine ⟨hc, fun μ w vs H hv => ?_⟩
 obtain ⟨v, rfl, hm⟩ := relL_one hv
 obtain ⟨t, L⟩ := L
 obtain ⟨mb, rfl⟩ : ∃ mb, v = .map mb := by
  cases m with
  | none => exact ⟨none, hm⟩
  | some b => obtain ⟨e, _, hv⟩ := hm; exact ⟨_, hv⟩
 refine (L mb w).mono fun e w' ⟨he, hw⟩ => ?_
 subst hw
 have R := (rel_self H).allocB (.bx (.map m)) (.cells #[.map mb] t) 1 ⟨rfl, #[.map mb], t, heap_push_new _ _, .inl ⟨rfl, .map mb, rfl, AV.rel.mono (Ren.le_append _ _) _ _ hm⟩⟩
 refine ⟨_, _, _, _, he, hq, R.evo, R.heap, ?_⟩
 refine ⟨#[], #[.pointer (some ⟨w.heap.size, 0, none⟩)], rfl, rfl, _, _, rfl, ⟨⟨w.heap.size, 0, 1⟩, ?_, rfl⟩, rfl⟩
 rw [← H.len]; simp
theorem relM_keys {μ : Ren} : ∀ {es : List (AV × AV × Nat)} {l : List MapEntry} {ss : List (List UInt8)}, relM μ es l → keyStrs es = some ss → l.map (·.key) = ss.map encStr ∧ l.map (·.born) = es.map (·.2.2)
 | [], l, ss, r, h => by
  obtain rfl : l = [] := r
  simp only [keyStrs, Option.some.injEq] at h
  subst h; exact ⟨rfl, rfl⟩
 | (k, v, n) :: es, l, ss, ⟨E, Es, h1, h2, h3, h4, h5⟩, h => by
  subst h1
  unfold keyStrs at h
  split at h
  ·rename_i heq; cases heq
  ·rename_i s _ _ es' heq
   cases heq
   split at h
   ·rename_i l' hl
    cases h
    obtain ⟨g1, g2⟩ := relM_keys h5 hl
    have hk : E.key = encStr s := h2
    simp [g1, g2, hk, h4]
   ·cases h
  ·cases h
def sortedV (n : Nat) : List (List UInt8) → AV
 | [] => .sl none
 | s :: l => .sl (some ⟨n, 0, (s :: l).length, (s :: l).length, 1⟩)
def sortedH (h : Heap) : List (List UInt8) → Heap
 | [] => h
 | s :: l => h ++ [.cells ((s :: l).map .str) true]
theorem sorted_ac {P : Program} {f g : FuncId} {kt : TypeId} (hc : callable P f = true) (hkt : P.underlying kt = some .string) (L : SortedLaw P f g kt) {p m cl : Nat} {es : List (AV × AV × Nat)} {ss ss' : List (List UInt8)} {h : Heap} {Q : AV → Heap → Prop}
  (hp : h[p]? = some (.bx (.map (some m)))) (hm : h[m]? = some (.mp es cl)) (hss : keyStrs es = some ss) (hperm : ss'.Perm ss) (hsort : ss'.Pairwise (fun a b => leB a b = true)) (hnd : ss.Nodup) (hbn : (es.map (·.2.2)).Nodup) (hbl : ∀ e ∈ es, e.2.2 < cl)
  (hlen : ss.length ≤ 1000000) (hl : ∀ s ∈ ss, s.length ≤ 1000000)
  (hq : Q (sortedV h.length ss') (sortedH h ss')) :
  AC P f [.func (.func g) [] [.ptr (some ⟨p, 0⟩)]] h Q := by
 refine ⟨hc, fun μ w vs H hv => ?_⟩
 obtain ⟨v, rfl, f', c', rfl, hf, hcc⟩ := relL_one hv
 obtain ⟨y, hc1, hy⟩ := relL_one hcc
 have hfe : f' = #[] := by apply Array.ext'; exact hf
 have hce : c' = #[y] := by apply Array.ext'; exact hc1
 subst hfe hce
 obtain ⟨e, he, rfl⟩ := hy
 obtain ⟨hs0, C0, t, hb1, hbx⟩ := H.blk p _ e hp he
 obtain ⟨y, rfl, hb2⟩ : ∃ y, C0 = #[y] ∧ AV.rel μ (.map (some m)) y := hbx.elim (fun h => h.2) (fun ⟨_, h⟩ => by rcases h with ⟨h, _⟩ | ⟨h, _⟩ <;> cases h)
 obtain ⟨em, hem, rfl⟩ := hb2
 obtain ⟨ES, hE1, hE2⟩ := H.blk m _ em hm hem
 obtain ⟨hk1, hk2⟩ := relM_keys hE2 hss
 have hsz := hE2.length
 have hss_len : ss.length = es.length := by
  have := congrArg List.length hk1
  simp at this hsz
  omega
 have hESs : ES.size = es.length := by simpa using hsz
 have hkey : ∀ x ∈ ES.toList, ∃ s ∈ ss, x.key = encStr s := by
  intro x hx
  have : x.key ∈ ss.map encStr := by rw [← hk1]; exact List.mem_map_of_mem hx
  obtain ⟨s, hs, hs2⟩ := List.mem_map.1 this
  exact ⟨s, hs, hs2.symm⟩
 have hread : ∀ x ∈ ES.toList, ∃ s ∈ ss, WideElems.rd P kt blindR x = some (.string s, .nil) := by
  intro x hx
  obtain ⟨s, hs, hs2⟩ := hkey x hx
  refine ⟨s, hs, ?_⟩
  have := hl s hs
  have hk : keyOf P kt (encStr s) = some (.string s) := WideMaps.keyOf_string_mk hkt (s := ⟨s.toArray⟩) (by simp [ByteArray.size, maxLen]; omega)
  simp [WideElems.rd, hs2, hk]
 let D0 : DataW Unit := .map ((ES.toList.map (WideElems.rg P kt blindR)).foldr DataW.insert [])
 have hown : w.ownsMap P kt blindR em.r ES.size D0 := by
  refine ⟨ES, cl, hE1, ⟨by rw [hESs, ← hss_len]; simp [maxLen]; omega, ⟨?_, ?_, ?_⟩, ?_⟩, Nat.le_refl _, rfl⟩
  ·intro x hx
   have : x.born ∈ ES.toList.map (·.born) := List.mem_map_of_mem hx
   rw [hk2] at this
   obtain ⟨e1, he1, he2⟩ := List.mem_map.1 this
   rw [← he2]; exact hbl _ he1
  ·rw [hk2]; exact hbn
  ·rw [hk1]
   exact List.pairwise_map.2 (hnd.imp fun hne heq => hne (by simpa [encStr] using heq))
  ·intro x hx
   obtain ⟨s, _, hs⟩ := hread x hx
   exact ⟨_, hs⟩
 have hfold : ∀ (l : List (Lit × DataW Unit)), (l.foldr DataW.insert []).Perm l := by
  intro l
  induction l with
  | nil => exact .refl _
  | cons x l ih => exact (WideShapes.insert_perm x _).trans (ih.cons x)
 have hkeys : (strKeys D0).Perm ss := by
  have h1 : (strKeys D0) = ((ES.toList.map (WideElems.rg P kt blindR)).foldr DataW.insert []).map (fun p => strOf p.1) := rfl
  rw [h1]
  refine ((hfold _).map _).trans ?_
  rw [List.map_map]
  have : ES.toList.map ((fun p : Lit × DataW Unit => strOf p.1) ∘ WideElems.rg P kt blindR) = ss := by
   have hinj : (ES.toList.map ((fun p : Lit × DataW Unit => strOf p.1) ∘ WideElems.rg P kt blindR)).map encStr = ES.toList.map (·.key) := by
    rw [List.map_map]
    apply List.map_congr_left
    intro x hx
    obtain ⟨s, hs, hs2⟩ := hread x hx
    obtain ⟨s2, hs3, hs4⟩ := hkey x hx
    have hk : keyOf P kt (encStr s2) = some (.string s2) := WideMaps.keyOf_string_mk hkt (s := ⟨s2.toArray⟩) (by have := hl s2 hs3; simp [ByteArray.size, maxLen]; omega)
    simp [WideElems.rg, WideElems.rd, hs4, hk, strOf]
   rw [hk1] at hinj
   have inj : ∀ {a b : List (List UInt8)}, a.map encStr = b.map encStr → a = b := by
    intro a
    induction a with
    | nil => intro b hb; cases b <;> simp at hb ⊢
    | cons x a ih => intro b hb; cases b with
     | nil => simp at hb
     | cons y b => simp only [List.map_cons, List.cons.injEq] at hb; rw [ih hb.2, show x = y by simpa [encStr] using hb.1]
   exact inj hinj
  rw [this]
 have hD : Maps.size D0 = ss.length := by
  have := hkeys.length_eq
  simpa [strKeys, D0, Maps.size] using this
 have hcell : w.cell? ⟨e.r, 0, none⟩ = some (.map (some em.r)) := by simp [World.cell?, hb1]
 have hptr : (⟨e.r, e.s + 0, none⟩ : Addr) = ⟨e.r, 0, none⟩ := by rw [hs0]
 show Calls P f #[.func (.func g) #[] #[.pointer (some ⟨e.r, e.s + 0, none⟩)]] w _
 rw [hptr]
 refine (L e.r em.r ES.size D0 w (heap_lt hb1) hcell hown (by rw [hD]; simp [maxLen]; omega) (by rw [hD]; omega)).mono fun en w' hh => ?_
 obtain ⟨v, ss2, he2, hp2, hrow, hnil, hbelow⟩ := hh
 have hsorted : ss2.mergeSort leB = ss' := by
  have e1 : ss2.mergeSort leB = ss'.mergeSort leB := mergeSort_of_perm (hp2.trans (hkeys.trans hperm.symm))
  rw [e1]
  exact List.mergeSort_of_pairwise hsort
 have hl2 : ss2.length = ss'.length := (hp2.trans (hkeys.trans hperm.symm)).length_eq
 have R := (rel_self H).below hbelow
 cases hss' : ss' with
 | nil =>
  subst hss'
  have : ss2 = [] := List.eq_nil_of_length_eq_zero hl2
  exact ⟨_, _, _, _, he2, hq, R.evo, R.heap, hnil.2 this⟩
 | cons s0 l0 =>
  rw [hss'] at hq
  have hne : ss2 ≠ [] := by intro h0; rw [h0, hss'] at hl2; simp at hl2
  obtain ⟨hr0, hrow⟩ := hrow
  rcases hrow with ⟨hv, _⟩ | ⟨gb, cap, cur, rfl, hge, hgb, hcap, hmax, hcur, htake⟩
  ·exact (hne (hnil.1 hv)).elim
  ·have hcs : cur.size = cap := by omega
   have hlen2 : ss2.length = (s0 :: l0).length := by rw [hl2, hss']
   have R2 := R.adopt ⟨gb, 0, cap⟩ (.cells ((s0 :: l0).map .str) true) (.inl hge) (heap_lt hgb) ?_ ?_ (by simp)
   ·refine ⟨_, .sl (some ⟨h.length, 0, (s0 :: l0).length, (s0 :: l0).length, 1⟩), _, _, he2, hq, R2.evo, R2.heap, ⟨gb, 0, cap⟩, cap, ⟨gb, 0, none⟩, ?_, ?_, Nat.le_refl _, .inr rfl, by simp, ?_⟩
    ·rw [← H.len]; simp
    ·rw [hlen2]
    ·intro _
     simp only
     exact ⟨by omega, by omega⟩
   ·refine ⟨cur, kt, (0, 0), hgb, by simp [hcs], by simp only [List.length_map]; omega, ?_, ?_, fun _ => rfl⟩
    ·simp [oneAll, AV.one]
    ·intro i x hx
     have hi := lt_of_get hx
     simp only [List.length_map] at hi
     rw [hsorted, hss'] at htake
     have h1 : (cur.toList.take (ss2.length * 1))[i]? = ((s0 :: l0).map encStr)[i]? := by rw [htake]
     rw [List.getElem?_take, if_pos (by omega)] at h1
     rw [List.getElem?_map] at h1 hx
     rcases hs : (s0 :: l0)[i]? with _ | s
     ·rw [hs] at hx; cases hx
     ·rw [hs] at h1 hx
      simp only [Option.map_some, Option.some.injEq] at h1 hx
      subst hx
      refine ⟨encStr s, ?_, rfl⟩
      rw [Nat.zero_add]
      simpa using h1
   ·intro b B e' hb hlv he'
    have := (rel_self H).heap.bnd b e' he'
    simp only; omega
end Go.Ab
namespace Go.Ab
set_option linter.unusedSimpArgs false
set_option linter.unusedVariables false
section
variable {α : Type}
structure G (β : Type) where
 f : β
noncomputable def selC {γ : Type} (d : Nat) (k : (Q16 α → α) → γ) : γ := Bool.rec (motive := fun _ => γ) (Bool.rec (motive := fun _ => γ) (Bool.rec (motive := fun _ => γ) (Bool.rec (motive := fun _ => γ) (k fun e => e.x0) (k fun e => e.x1) (Nat.ble 1 d)) (Bool.rec (motive := fun _ => γ) (k fun e => e.x2) (k fun e => e.x3) (Nat.ble 3 d)) (Nat.ble 2 d)) (Bool.rec (motive := fun _ => γ) (Bool.rec (motive := fun _ => γ) (k fun e => e.x4) (k fun e => e.x5) (Nat.ble 5 d)) (Bool.rec (motive := fun _ => γ) (k fun e => e.x6) (k fun e => e.x7) (Nat.ble 7 d)) (Nat.ble 6 d)) (Nat.ble 4 d)) (Bool.rec (motive := fun _ => γ) (Bool.rec (motive := fun _ => γ) (Bool.rec (motive := fun _ => γ) (k fun e => e.x8) (k fun e => e.x9) (Nat.ble 9 d)) (Bool.rec (motive := fun _ => γ) (k fun e => e.x10) (k fun e => e.x11) (Nat.ble 11 d)) (Nat.ble 10 d)) (Bool.rec (motive := fun _ => γ) (Bool.rec (motive := fun _ => γ) (k fun e => e.x12) (k fun e => e.x13) (Nat.ble 13 d)) (Bool.rec (motive := fun _ => γ) (k fun e => e.x14) (k fun e => e.x15) (Nat.ble 15 d)) (Nat.ble 14 d)) (Nat.ble 12 d)) (Nat.ble 8 d)
theorem selC_eq {γ : Type} : ∀ (d : Nat) (k : (Q16 α → α) → γ), selC d k = k fun e => e.get d
 | 0, _ => rfl
 | 1, _ => rfl
 | 2, _ => rfl
 | 3, _ => rfl
 | 4, _ => rfl
 | 5, _ => rfl
 | 6, _ => rfl
 | 7, _ => rfl
 | 8, _ => rfl
 | 9, _ => rfl
 | 10, _ => rfl
 | 11, _ => rfl
 | 12, _ => rfl
 | 13, _ => rfl
 | 14, _ => rfl
 | _ + 15, _ => rfl
abbrev U16 (α : Type) := Q16 α → (α → (α → Bool) → Bool) → (Q16 α → Bool) → Bool
noncomputable def updC {γ : Type} (d : Nat) (k : U16 α → γ) : γ := Bool.rec (motive := fun _ => γ) (Bool.rec (motive := fun _ => γ) (Bool.rec (motive := fun _ => γ) (Bool.rec (motive := fun _ => γ) (k fun e g κ => Q16.rec (motive := fun _ => (α → (α → Bool) → Bool) → (Q16 α → Bool) → Bool) (fun x0 x1 x2 x3 x4 x5 x6 x7 x8 x9 x10 x11 x12 x13 x14 x15 g κ => g x0 fun y => κ ⟨y, x1, x2, x3, x4, x5, x6, x7, x8, x9, x10, x11, x12, x13, x14, x15⟩) e g κ) (k fun e g κ => Q16.rec (motive := fun _ => (α → (α → Bool) → Bool) → (Q16 α → Bool) → Bool) (fun x0 x1 x2 x3 x4 x5 x6 x7 x8 x9 x10 x11 x12 x13 x14 x15 g κ => g x1 fun y => κ ⟨x0, y, x2, x3, x4, x5, x6, x7, x8, x9, x10, x11, x12, x13, x14, x15⟩) e g κ) (Nat.ble 1 d)) (Bool.rec (motive := fun _ => γ) (k fun e g κ => Q16.rec (motive := fun _ => (α → (α → Bool) → Bool) → (Q16 α → Bool) → Bool) (fun x0 x1 x2 x3 x4 x5 x6 x7 x8 x9 x10 x11 x12 x13 x14 x15 g κ => g x2 fun y => κ ⟨x0, x1, y, x3, x4, x5, x6, x7, x8, x9, x10, x11, x12, x13, x14, x15⟩) e g κ) (k fun e g κ => Q16.rec (motive := fun _ => (α → (α → Bool) → Bool) → (Q16 α → Bool) → Bool) (fun x0 x1 x2 x3 x4 x5 x6 x7 x8 x9 x10 x11 x12 x13 x14 x15 g κ => g x3 fun y => κ ⟨x0, x1, x2, y, x4, x5, x6, x7, x8, x9, x10, x11, x12, x13, x14, x15⟩) e g κ) (Nat.ble 3 d)) (Nat.ble 2 d)) (Bool.rec (motive := fun _ => γ) (Bool.rec (motive := fun _ => γ) (k fun e g κ => Q16.rec (motive := fun _ => (α → (α → Bool) → Bool) → (Q16 α → Bool) → Bool) (fun x0 x1 x2 x3 x4 x5 x6 x7 x8 x9 x10 x11 x12 x13 x14 x15 g κ => g x4 fun y => κ ⟨x0, x1, x2, x3, y, x5, x6, x7, x8, x9, x10, x11, x12, x13, x14, x15⟩) e g κ) (k fun e g κ => Q16.rec (motive := fun _ => (α → (α → Bool) → Bool) → (Q16 α → Bool) → Bool) (fun x0 x1 x2 x3 x4 x5 x6 x7 x8 x9 x10 x11 x12 x13 x14 x15 g κ => g x5 fun y => κ ⟨x0, x1, x2, x3, x4, y, x6, x7, x8, x9, x10, x11, x12, x13, x14, x15⟩) e g κ) (Nat.ble 5 d)) (Bool.rec (motive := fun _ => γ) (k fun e g κ => Q16.rec (motive := fun _ => (α → (α → Bool) → Bool) → (Q16 α → Bool) → Bool) (fun x0 x1 x2 x3 x4 x5 x6 x7 x8 x9 x10 x11 x12 x13 x14 x15 g κ => g x6 fun y => κ ⟨x0, x1, x2, x3, x4, x5, y, x7, x8, x9, x10, x11, x12, x13, x14, x15⟩) e g κ) (k fun e g κ => Q16.rec (motive := fun _ => (α → (α → Bool) → Bool) → (Q16 α → Bool) → Bool) (fun x0 x1 x2 x3 x4 x5 x6 x7 x8 x9 x10 x11 x12 x13 x14 x15 g κ => g x7 fun y => κ ⟨x0, x1, x2, x3, x4, x5, x6, y, x8, x9, x10, x11, x12, x13, x14, x15⟩) e g κ) (Nat.ble 7 d)) (Nat.ble 6 d)) (Nat.ble 4 d)) (Bool.rec (motive := fun _ => γ) (Bool.rec (motive := fun _ => γ) (Bool.rec (motive := fun _ => γ) (k fun e g κ => Q16.rec (motive := fun _ => (α → (α → Bool) → Bool) → (Q16 α → Bool) → Bool) (fun x0 x1 x2 x3 x4 x5 x6 x7 x8 x9 x10 x11 x12 x13 x14 x15 g κ => g x8 fun y => κ ⟨x0, x1, x2, x3, x4, x5, x6, x7, y, x9, x10, x11, x12, x13, x14, x15⟩) e g κ) (k fun e g κ => Q16.rec (motive := fun _ => (α → (α → Bool) → Bool) → (Q16 α → Bool) → Bool) (fun x0 x1 x2 x3 x4 x5 x6 x7 x8 x9 x10 x11 x12 x13 x14 x15 g κ => g x9 fun y => κ ⟨x0, x1, x2, x3, x4, x5, x6, x7, x8, y, x10, x11, x12, x13, x14, x15⟩) e g κ) (Nat.ble 9 d)) (Bool.rec (motive := fun _ => γ) (k fun e g κ => Q16.rec (motive := fun _ => (α → (α → Bool) → Bool) → (Q16 α → Bool) → Bool) (fun x0 x1 x2 x3 x4 x5 x6 x7 x8 x9 x10 x11 x12 x13 x14 x15 g κ => g x10 fun y => κ ⟨x0, x1, x2, x3, x4, x5, x6, x7, x8, x9, y, x11, x12, x13, x14, x15⟩) e g κ) (k fun e g κ => Q16.rec (motive := fun _ => (α → (α → Bool) → Bool) → (Q16 α → Bool) → Bool) (fun x0 x1 x2 x3 x4 x5 x6 x7 x8 x9 x10 x11 x12 x13 x14 x15 g κ => g x11 fun y => κ ⟨x0, x1, x2, x3, x4, x5, x6, x7, x8, x9, x10, y, x12, x13, x14, x15⟩) e g κ) (Nat.ble 11 d)) (Nat.ble 10 d)) (Bool.rec (motive := fun _ => γ) (Bool.rec (motive := fun _ => γ) (k fun e g κ => Q16.rec (motive := fun _ => (α → (α → Bool) → Bool) → (Q16 α → Bool) → Bool) (fun x0 x1 x2 x3 x4 x5 x6 x7 x8 x9 x10 x11 x12 x13 x14 x15 g κ => g x12 fun y => κ ⟨x0, x1, x2, x3, x4, x5, x6, x7, x8, x9, x10, x11, y, x13, x14, x15⟩) e g κ) (k fun e g κ => Q16.rec (motive := fun _ => (α → (α → Bool) → Bool) → (Q16 α → Bool) → Bool) (fun x0 x1 x2 x3 x4 x5 x6 x7 x8 x9 x10 x11 x12 x13 x14 x15 g κ => g x13 fun y => κ ⟨x0, x1, x2, x3, x4, x5, x6, x7, x8, x9, x10, x11, x12, y, x14, x15⟩) e g κ) (Nat.ble 13 d)) (Bool.rec (motive := fun _ => γ) (k fun e g κ => Q16.rec (motive := fun _ => (α → (α → Bool) → Bool) → (Q16 α → Bool) → Bool) (fun x0 x1 x2 x3 x4 x5 x6 x7 x8 x9 x10 x11 x12 x13 x14 x15 g κ => g x14 fun y => κ ⟨x0, x1, x2, x3, x4, x5, x6, x7, x8, x9, x10, x11, x12, x13, y, x15⟩) e g κ) (k fun e g κ => Q16.rec (motive := fun _ => (α → (α → Bool) → Bool) → (Q16 α → Bool) → Bool) (fun x0 x1 x2 x3 x4 x5 x6 x7 x8 x9 x10 x11 x12 x13 x14 x15 g κ => g x15 fun y => κ ⟨x0, x1, x2, x3, x4, x5, x6, x7, x8, x9, x10, x11, x12, x13, x14, y⟩) e g κ) (Nat.ble 15 d)) (Nat.ble 14 d)) (Nat.ble 12 d)) (Nat.ble 8 d)
theorem updC_eq {γ : Type} : ∀ (d : Nat) (k : U16 α → γ), updC d k = k fun e g κ => g (e.get d) fun y => κ (e.set d y)
 | 0, k => congrArg k (by funext e g κ; cases e; rfl)
 | 1, k => congrArg k (by funext e g κ; cases e; rfl)
 | 2, k => congrArg k (by funext e g κ; cases e; rfl)
 | 3, k => congrArg k (by funext e g κ; cases e; rfl)
 | 4, k => congrArg k (by funext e g κ; cases e; rfl)
 | 5, k => congrArg k (by funext e g κ; cases e; rfl)
 | 6, k => congrArg k (by funext e g κ; cases e; rfl)
 | 7, k => congrArg k (by funext e g κ; cases e; rfl)
 | 8, k => congrArg k (by funext e g κ; cases e; rfl)
 | 9, k => congrArg k (by funext e g κ; cases e; rfl)
 | 10, k => congrArg k (by funext e g κ; cases e; rfl)
 | 11, k => congrArg k (by funext e g κ; cases e; rfl)
 | 12, k => congrArg k (by funext e g κ; cases e; rfl)
 | 13, k => congrArg k (by funext e g κ; cases e; rfl)
 | 14, k => congrArg k (by funext e g κ; cases e; rfl)
 | _ + 15, k => congrArg k (by funext e g κ; cases e; rfl)
noncomputable def accG (i : Nat) : G (T α → Option α) :=
 selC (D1 i) fun g1 => selC (D2 i) fun g2 => selC (D3 i) fun g3 => selC (D4 i) fun g4 => selC (D5 i) fun g5 => match Nat.blt i 256 with
  | true => ⟨fun t => T.rec (motive := fun _ => Option α) none (fun t => g1 (g2 t)) (fun t => g1 (g2 (g3 (g4 (g5 t))))) t⟩
  | false => match Nat.blt i 1048576 with
   | true => ⟨fun t => T.rec (motive := fun _ => Option α) none (fun _ => none) (fun t => g1 (g2 (g3 (g4 (g5 t))))) t⟩
   | false => ⟨fun _ => none⟩
noncomputable def T.wget (t : T α) (i : Nat) : Option α := (accG i).f t
theorem accG_eq (i : Nat) : (accG i : G (T α → Option α)).f = fun t => t.get i := by
 unfold accG
 simp only [selC_eq]
 funext t
 cases h1 : Nat.blt i 256 with
 | true =>
  have h2 : Nat.blt i 1048576 = true := T.blt_of (by have := T.blt_t h1; omega)
  cases t with
  | e => rfl
  | s t => simp only [T.get, h1]
  | b t => simp only [T.get, h2]
 | false =>
  cases h2 : Nat.blt i 1048576 with
  | true => cases t with
   | e => rfl
   | s t => simp only [T.get, h1]
   | b t => simp only [T.get, h2]
  | false => cases t with
   | e => rfl
   | s t => simp only [T.get, h1]
   | b t => simp only [T.get, h2]
theorem T.wget_eq (t : T α) (i : Nat) : t.wget i = t.get i := by
 unfold T.wget; rw [accG_eq]
abbrev PK (α : Type) := T α → α → (T α → Bool) → Bool
noncomputable def wput1 (x : α) (o : Option α) : (Option α → Bool) → Bool := Option.rec (motive := fun _ => α → (Option α → Bool) → Bool) (fun _ _ => false) (fun _ x κ => κ (some x)) o x
noncomputable def putG (i : Nat) : G (PK α) :=
 updC (D1 i) fun u1 => updC (D2 i) fun u2 => updC (D3 i) fun u3 => updC (D4 i) fun u4 => updC (D5 i) fun u5 => match Nat.blt i 256 with
  | true => ⟨fun t x k => T.rec (motive := fun _ => α → (T α → Bool) → Bool) (fun _ _ => false) (fun t x k => u2 t (fun r κ => u1 r (wput1 x) κ) fun t' => k (.s t')) (fun t x k => u5 t (fun r κ => u4 r (fun r κ => u3 r (fun r κ => u2 r (fun r κ => u1 r (wput1 x) κ) κ) κ) κ) fun t' => k (.b t')) t x k⟩
  | false => match Nat.blt i 1048576 with
   | true => ⟨fun t x k => T.rec (motive := fun _ => α → (T α → Bool) → Bool) (fun _ _ => false) (fun _ _ _ => false) (fun t x k => u5 t (fun r κ => u4 r (fun r κ => u3 r (fun r κ => u2 r (fun r κ => u1 r (wput1 x) κ) κ) κ) κ) fun t' => k (.b t')) t x k⟩
   | false => ⟨fun _ _ _ => false⟩
noncomputable def T.wput (t : T α) (i : Nat) (x : α) (k : T α → Bool) : Bool := (putG i).f t x k
theorem putG_eq (i : Nat) : (putG i : G (PK α)).f = fun t x k => t.put i x k := by
 unfold putG
 simp only [updC_eq]
 funext t x k
 have key : ∀ (o : Option α) (A : Option α → Bool), wput1 x o A = match o with | some _ => A (some x) | none => false := fun o A => by cases o <;> rfl
 cases h1 : Nat.blt i 256 with
 | true =>
  have h2 : Nat.blt i 1048576 = true := T.blt_of (by have := T.blt_t h1; omega)
  cases t with
  | e => rfl
  | s t => simp only [T.put, T.get, h1, key]; rfl
  | b t => simp only [T.put, T.get, h2, key]; rfl
 | false =>
  cases h2 : Nat.blt i 1048576 with
  | true => cases t with
   | e => rfl
   | s t => simp only [T.put, T.get, h1]
   | b t => simp only [T.put, T.get, h2, key]; rfl
  | false => cases t with
   | e => rfl
   | s t => simp only [T.put, T.get, h1]
   | b t => simp only [T.put, T.get, h2]
theorem T.wput_eq (t : T α) (i : Nat) (x : α) (k : T α → Bool) : t.wput i x k = t.put i x k := by
 unfold T.wput; rw [putG_eq]
noncomputable def addG (i : Nat) : G (PK α) :=
 updC (D1 i) fun u1 => updC (D2 i) fun u2 => updC (D3 i) fun u3 => updC (D4 i) fun u4 => updC (D5 i) fun u5 =>
  ⟨fun t x k => T.rec (motive := fun _ => α → (T α → Bool) → Bool)
   (fun x k => Nat.rec (motive := fun _ => α → (T α → Bool) → Bool) (fun x k => u5 (Q16.all (Q16.all (Q16.all (Q16.all (Q16.all none))))) (fun r κ => u4 r (fun r κ => u3 r (fun r κ => u2 r (fun r κ => u1 r (fun _ κ => κ (some x)) κ) κ) κ) κ) fun t' => k (.b t')) (fun _ _ _ _ => false) i x k)
   (fun t x k => Bool.rec (motive := fun _ => T α → α → (T α → Bool) → Bool) (fun _ _ _ => false) (fun t x k => t.add i x k) (Nat.blt i 256) (.s t) x k)
   (fun t x k => Bool.rec (motive := fun _ => Q16 (Q16 (Q16 (Q16 (Q16 (Option α))))) → α → (T α → Bool) → Bool) (fun _ _ _ => false) (fun t x k => u5 t (fun r κ => u4 r (fun r κ => u3 r (fun r κ => u2 r (fun r κ => u1 r (fun _ κ => κ (some x)) κ) κ) κ) κ) fun t' => k (.b t')) (Nat.blt i 1048576) t x k) t x k⟩
noncomputable def T.wadd (t : T α) (i : Nat) (x : α) (k : T α → Bool) : Bool := (addG i).f t x k
theorem addG_eq (i : Nat) : (addG i : G (PK α)).f = fun t x k => t.add i x k := by
 unfold addG
 simp only [updC_eq]
 funext t x k
 cases t with
 | e => cases i <;> rfl
 | s t =>
  show Bool.rec (motive := fun _ => T α → α → (T α → Bool) → Bool) _ _ (Nat.blt i 256) (.s t) x k = (match Nat.blt i 256 with | true => k (T.upd (.s t) i x) | false => false)
  cases h : Nat.blt i 256 with
  | true => show T.add (.s t) i x k = _; simp only [T.add, T.room, h]
  | false => rfl
 | b t =>
  show Bool.rec (motive := fun _ => Q16 (Q16 (Q16 (Q16 (Q16 (Option α))))) → α → (T α → Bool) → Bool) _ _ (Nat.blt i 1048576) t x k = (match Nat.blt i 1048576 with | true => k (T.upd (.b t) i x) | false => false)
  cases h : Nat.blt i 1048576 with
  | true => rfl
  | false => rfl
theorem T.wadd_eq (t : T α) (i : Nat) (x : α) (k : T α → Bool) : t.wadd i x k = t.add i x k := by
 unfold T.wadd; rw [addG_eq]
noncomputable def wat1 (c : List α) : Nat → (α → Bool) → Bool :=
 List.rec (motive := fun _ => Nat → (α → Bool) → Bool) (fun _ _ => false) (fun x _ ih o k => Nat.rec (motive := fun _ => Bool) (k x) (fun o _ => ih o k) o) c
theorem wat1_eq (c : List α) : ∀ o k, wat1 c o k = at1 c o k := by
 induction c with
 | nil => intro o k; try rfl
 | cons x c ih => intro o k; cases o with
  | zero => rfl
  | succ o => exact ih o k
noncomputable def wtk (c : List α) : Nat → Nat → (List α → Bool) → Bool :=
 List.rec (motive := fun _ => Nat → Nat → (List α → Bool) → Bool)
  (fun o n k => Nat.rec (motive := fun _ => Bool) (Nat.rec (motive := fun _ => Bool) (k []) (fun _ _ => false) n) (fun _ _ => false) o)
  (fun x _ ih o n k => Nat.rec (motive := fun _ => Bool) (Nat.rec (motive := fun _ => Bool) (k []) (fun n _ => ih 0 n fun l => k (x :: l)) n) (fun o _ => ih o n k) o) c
theorem wtk_eq (c : List α) : ∀ o n k, wtk c o n k = tk c o n k := by
 induction c with
 | nil => intro o n k; cases o <;> cases n <;> rfl
 | cons x c ih => intro o n k; cases o with
  | zero => cases n with
   | zero => rfl
   | succ n => exact ih 0 n _
  | succ o => exact ih o n k
noncomputable def wspl (c : List α) : Nat → List α → (List α → Bool) → Bool :=
 List.rec (motive := fun _ => Nat → List α → (List α → Bool) → Bool)
  (fun o xs k => Nat.rec (motive := fun _ => Bool) (List.rec (motive := fun _ => Bool) (k []) (fun _ _ _ => false) xs) (fun _ _ => false) o)
  (fun x c ih o xs k => Nat.rec (motive := fun _ => Bool) (List.rec (motive := fun _ => Bool) (k (x :: c)) (fun y ys _ => ih 0 ys fun l => k (y :: l)) xs) (fun o _ => ih o xs fun l => k (x :: l)) o) c
theorem wspl_eq (c : List α) : ∀ o xs k, wspl c o xs k = spl c o xs k := by
 induction c with
 | nil => intro o xs k; cases o <;> cases xs <;> rfl
 | cons x c ih => intro o xs k; cases o with
  | zero => cases xs with
   | nil => rfl
   | cons y ys => exact ih 0 ys _
  | succ o => exact ih o xs _
noncomputable def wap (c : List α) : List α → (List α → Bool) → Bool :=
 List.rec (motive := fun _ => List α → (List α → Bool) → Bool) (fun l k => k l) (fun x _ ih l k => ih l fun r => k (x :: r)) c
theorem wap_eq (c : List α) : ∀ l k, wap c l k = ap c l k := by
 induction c with
 | nil => intro l k; try rfl
 | cons x c ih => intro l k; exact ih l _
noncomputable def wfL (c : List α) : (List α → Bool) → Bool :=
 List.rec (motive := fun _ => (List α → Bool) → Bool) (fun k => k []) (fun x _ ih k => ih fun r => k (x :: r)) c
theorem wfL_eq (c : List α) : ∀ k, wfL c k = fL c k := by
 induction c with
 | nil => intro k; try rfl
 | cons x c ih => intro k; exact ih _
end
noncomputable def wsames (a : List AV) : List AV → Bool :=
 List.rec (motive := fun _ => List AV → Bool) (fun b => List.rec (motive := fun _ => Bool) true (fun _ _ _ => false) b) (fun x _ ih b => List.rec (motive := fun _ => Bool) false (fun y bs _ => sameShape x y && ih bs) b) a
theorem wsames_eq (a : List AV) : ∀ b, wsames a b = sameShapes a b := by
 induction a with
 | nil => intro b; cases b <;> rfl
 | cons x a ih => intro b; cases b with
  | nil => rfl
  | cons y b =>
   show (sameShape x y && wsames a b) = _
   rw [ih]; try rfl
noncomputable def wev (ρ : T LV) (x : Operand) : LV :=
 match x with
 | .tmp t => (match ρ.wget t with | some v => v | none => .top)
 | .const v => (match ofV 4 v with | some x => .val x | none => .top)
 | .global _ => .top
 | .func f => .val (.func (.func f) [] [])
theorem wev_eq (ρ : T LV) (x : Operand) : wev ρ x = eev ρ x := by
 cases x <;> simp only [wev, eev, T.wget_eq] <;> rfl
def fV (x : LV) (k : LV → Bool) : Bool := match x with | .val v => k (.val v) | .loc a b => k (.loc a b) | .top => k .top
theorem fV_eq (x : LV) (k : LV → Bool) : fV x k = k x := by cases x <;> rfl
noncomputable def wvals (ρ : T LV) (os : List Operand) : (List AV → Bool) → Bool :=
 List.rec (motive := fun _ => (List AV → Bool) → Bool) (fun k => k []) (fun o _ ih k => match wev ρ o with | .val x => ih fun l => k (x :: l) | _ => false) os
theorem wvals_eq (ρ : T LV) (os : List Operand) : ∀ k, wvals ρ os k = fVals ρ os k := by
 induction os with
 | nil => intro k; try rfl
 | cons o os ih =>
  intro k
  show (match wev ρ o with | .val x => wvals ρ os fun l => k (x :: l) | _ => false) = _
  rw [wev_eq, fVals]
  cases eev ρ o <;> simp only [ih]
noncomputable def wNew (c : List AV) (rw : Bool) (h : EH) (k : Nat → EH → Bool) : Bool := h.t.wadd h.n (.cells c rw) fun t' => fN (Nat.succ h.n) fun n' => k h.n ⟨t', n'⟩
theorem wNew_eq (c : List AV) (rw : Bool) (h : EH) (k : Nat → EH → Bool) : wNew c rw h k = eNew c rw h k := by unfold wNew eNew; rw [T.wadd_eq]
noncomputable def wCells (h : EH) (b o n : Nat) (k : List AV → Bool) : Bool := match h.t.wget b with | some (.cells c _) => wtk c o n k | _ => false
theorem wCells_eq (h : EH) (b o n : Nat) (k : List AV → Bool) : wCells h b o n k = eCells h b o n k := by
 unfold wCells eCells
 rw [T.wget_eq]
 rcases h.t.get b with _ | B
 ·rfl
 ·cases B <;> simp only [wtk_eq]
noncomputable def wPart (z : AV) (c : List AV) (o : Nat) (k : AV → Bool) : Bool :=
 match z with
 | .agg zs => wtk c o zs.length fun l => k (.agg l)
 | .tup _ => false
 | _ => wat1 c o k
theorem wPart_eq (z : AV) (c : List AV) (o : Nat) (k : AV → Bool) : wPart z c o k = ePart z c o k := by
 cases z <;> simp only [wPart, ePart, wtk_eq, wat1_eq]
noncomputable def wLoadC (z : AV) (c : List AV) (o : Nat) (k : AV → Bool) : Bool :=
 match z with
 | .agg zs => wtk c o zs.length fun l => wsames zs l && k (.agg l)
 | .tup _ => false
 | z => wat1 c o fun v => sameShape z v && k v
noncomputable def wLoad (z : AV) (h : EH) (b o : Nat) (k : AV → Bool) : Bool := match h.t.wget b with | some (.cells c _) => wLoadC z c o k | _ => false
theorem wLoad_eq (z : AV) (h : EH) (b o : Nat) (k : AV → Bool) : wLoad z h b o k = eLoad z h b o k := by
 unfold wLoad eLoad
 rw [T.wget_eq]
 rcases h.t.get b with _ | B
 ·rfl
 ·cases B
  case cells c rw =>
   cases z <;> simp only [wLoadC, wtk_eq, wat1_eq, wsames_eq]
  all_goals try rfl
noncomputable def wStore (h : EH) (b o : Nat) (xs : List AV) (k : EH → Bool) : Bool :=
 match h.t.wget b with
 | some (.cells c true) => wspl c o xs fun c' => h.t.wput b (.cells c' true) fun t' => k ⟨t', h.n⟩
 | _ => false
theorem wStore_eq (h : EH) (b o : Nat) (xs : List AV) (k : EH → Bool) : wStore h b o xs k = eStore h b o xs k := by
 unfold wStore eStore
 simp only [T.wget_eq, wspl_eq, T.wput_eq]
 try rfl
noncomputable def wslCells (h : EH) (s : Option SL) (n : Nat) (k : List AV → Bool) : Bool :=
 match s with
 | some s => wCells h s.b s.o n k
 | none => match n with | 0 => k [] | _ + 1 => false
theorem wslCells_eq (h : EH) (s : Option SL) (n : Nat) (k : List AV → Bool) : wslCells h s n k = eslCells h s n k := by
 unfold wslCells eslCells
 cases s
 ·rfl
 ·simp only [wCells_eq]
noncomputable def wAppendN (sz bytes : Nat) (n : Nat) (xs : List AV) (h : EH) (k : Option SL → EH → Bool) : Bool :=
 match n with
 | 0 => k none h
 | n + 1 => (decide ((n + 1) * bytes ≤ 140737488355328) && decide (0 < sz)) && wNew xs true h fun b h' => eRow b 0 (n + 1) (n + 1) sz fun s' => k s' h'
noncomputable def wAppendI (sz : Nat) (s : SL) (n : Nat) (xs : List AV) (h : EH) (k : Option SL → EH → Bool) : Bool :=
 match h.t.wget s.b with
 | some (.cells c true) => wspl c (s.o + s.len * sz) xs fun c' => h.t.wput s.b (.cells c' true) fun t' => eRow s.b s.o (s.len + n) s.cap s.opn fun s' => k s' ⟨t', h.n⟩
 | _ => match n with | 0 => k (some s) h | _ + 1 => false
noncomputable def wAppendG (sz bytes : Nat) (s : SL) (n : Nat) (xs : List AV) (h : EH) (k : Option SL → EH → Bool) : Bool :=
 (decide ((s.len + n) * bytes ≤ 140737488355328) && decide (0 < sz)) &&
   match h.t.wget s.b with
   | some (.cells c rw) => wtk c s.o (s.len * sz) fun old =>
    (match s.opn with
    | 0 => wap old xs fun c' => wNew c' true h fun b h' => eRow b 0 (s.len + n) (s.len + n) sz fun s' => k s' h'
    | _ + 1 => (rw && s.opn == sz) && h.t.wput s.b .dead fun t' => wap old xs fun c' => wNew c' true ⟨t', h.n⟩ fun b h' => eRow b 0 (s.len + n) (s.len + n) sz fun s' => k s' h')
   | _ => false
noncomputable def wAppend (sz bytes : Nat) (s : Option SL) (n : Nat) (xs : List AV) (h : EH) (k : Option SL → EH → Bool) : Bool :=
 (xs.length == n * sz) &&
 match s with
 | none => wAppendN sz bytes n xs h k
 | some s => match Nat.ble (s.len + n) s.cap with
  | true => wAppendI sz s n xs h k
  | false => wAppendG sz bytes s n xs h k
theorem wAppend_eq (sz bytes : Nat) (s : Option SL) (n : Nat) (xs : List AV) (h : EH) (k : Option SL → EH → Bool) : wAppend sz bytes s n xs h k = eAppend sz bytes s n xs h k := by
 unfold wAppend eAppend
 congr 1
 cases s with
 | none => cases n <;> simp only [wAppendN, wNew_eq]
 | some s =>
  simp only
  cases Nat.ble (s.len + n) s.cap
  ·simp only [wAppendG, T.wget_eq, wtk_eq, T.wput_eq, wap_eq, wNew_eq]
   congr 1
  ·simp only [wAppendI, T.wget_eq, wspl_eq, T.wput_eq]
   rcases h.t.get s.b with _ | B
   ·rfl
   ·cases B with
    | cells c rw => cases rw <;> rfl
    | _ => rfl
noncomputable def wCopy (sz : Nat) (s : Option SL) (n : Nat) (xs : List AV) (h : EH) (k : EH → Bool) : Bool :=
 (xs.length == n * sz) &&
 match s with
 | none => (match n with | 0 => k h | _ + 1 => false)
 | some s => Nat.ble n s.len && wStore h s.b s.o xs k
theorem wCopy_eq (sz : Nat) (s : Option SL) (n : Nat) (xs : List AV) (h : EH) (k : EH → Bool) : wCopy sz s n xs h k = eCopy sz s n xs h k := by
 unfold wCopy eCopy
 cases s
 ·rfl
 ·simp only [wStore_eq]
noncomputable def wMake (zs : List AV) (bytes : Nat) (l c : Int) (h : EH) (k : Option SL → EH → Bool) : Bool :=
 (decide (0 ≤ l) && decide (l ≤ c) && decide (c * bytes ≤ 281474976710656) && decide (c ≤ maxI)) &&
  wfL (List.replicate c.toNat zs).flatten fun cs => wNew cs true h fun b h' => eRow b 0 l.toNat c.toNat 0 fun s => k s h'
theorem wMake_eq (zs : List AV) (bytes : Nat) (l c : Int) (h : EH) (k : Option SL → EH → Bool) : wMake zs bytes l c h k = eMake zs bytes l c h k := by
 unfold wMake eMake
 simp only [wfL_eq, wNew_eq]
noncomputable def wCallV (call : ECall) (f : AV) (args : List AV) (h : EH) (k : AV → EH → Bool) : Bool :=
 match f with
 | .func (.func g) first cap => !Nat.beq g 1000000000 && wap args cap fun a => wap first a fun a => call g a h k
 | .func (.yield l) first cap => call 1000000000 (.func (.yield l) first cap :: args) h k
 | _ => false
noncomputable def wInvoke (P : Program) (call : ECall) (r : AV) (name : String) (args : List AV) (h : EH) (k : AV → EH → Bool) : Bool :=
 match r with
 | .iface t v => (match methodOf P t name with
  | some g => !Nat.beq g 1000000000 && call g (v :: args) h k
  | none => match methodAt P t name, v with
   | some (g, e), .ptr (some p) => (match tz P e with
    | some z => (!Nat.beq g 1000000000 && okTy P e z) && wLoad z h p.b p.o fun v => call g (v :: args) h k
    | none => false)
   | _, _ => false)
 | _ => false
noncomputable def wCallF (P : Program) (call : ECall) (f : AV) (args : List AV) (h : EH) (k : AV → EH → Bool) : Bool :=
 match f with
 | .func (.method name) [r] _ => wInvoke P call r name args h k
 | f => wCallV call f args h k
theorem wCallV_eq (call : ECall) (f : AV) (args : List AV) (h : EH) (k : AV → EH → Bool) : wCallV call f args h k = eCallV call f args h k := by
 unfold wCallV eCallV
 simp only [wap_eq]
 try rfl
theorem wInvoke_eq (P : Program) (call : ECall) (r : AV) (name : String) (args : List AV) (h : EH) (k : AV → EH → Bool) : wInvoke P call r name args h k = eInvoke P call r name args h k := by
 unfold wInvoke eInvoke
 simp only [wLoad_eq]
 try rfl
theorem wCallF_eq (P : Program) (call : ECall) (f : AV) (args : List AV) (h : EH) (k : AV → EH → Bool) : wCallF P call f args h k = eCallF P call f args h k := by
 unfold wCallF eCallF
 simp only [wInvoke_eq, wCallV_eq]
 try rfl
noncomputable def wfillA (place : Nat → Option (Nat × Nat)) (parts : List (Nat × AV)) : List AV → (List AV → Bool) → Bool :=
 List.rec (motive := fun _ => List AV → (List AV → Bool) → Bool) (fun cells k => k cells) (fun p _ ih cells k => match place p.1 with
  | none => false
  | some (off, size) => (p.2.cells.length == size) && wspl cells off p.2.cells fun c => ih c k) parts
theorem wfillA_eq (place : Nat → Option (Nat × Nat)) (parts : List (Nat × AV)) : ∀ cells k, wfillA place parts cells k = efillA place cells parts k := by
 induction parts with
 | nil => intro cells k; try rfl
 | cons p ps ih =>
  intro cells k
  obtain ⟨i, v⟩ := p
  show (match place i with | none => false | some (off, size) => (v.cells.length == size) && wspl cells off v.cells fun c => wfillA place ps c k) = _
  rw [efillA]
  simp only [wspl_eq, ih]
  try rfl
noncomputable def wpartsA (ρ : T LV) (ps : Array (Nat × Operand)) (k : List (Nat × AV) → Bool) : Bool :=
 wvals ρ (ps.toList.map (·.2)) fun l => k ((ps.toList.map (·.1)).zip l)
theorem wpartsA_eq (ρ : T LV) (ps : Array (Nat × Operand)) (k : List (Nat × AV) → Bool) : wpartsA ρ ps k = epartsA ρ ps k := by
 unfold wpartsA epartsA
 rw [wvals_eq]
noncomputable def wevI (ρ : T LV) (x : Operand) : Option Int := match wev ρ x with | .val (.int _ n) => some n | _ => none
theorem wevI_eq (ρ : T LV) (x : Operand) : wevI ρ x = eevI ρ x := by unfold wevI eevI; rw [wev_eq]; try rfl
section
variable (P : Program) (call : ECall) (o : Oper) (ρ : T LV) (h : EH) (k : EK)
noncomputable def wAllocB (b : Bool) (t : TypeId) (zs : List AV) (h : EH) (k : EK) : Bool := match b with
  | true => eNewT t zs h fun b h' => k (.val (.ptr (some ⟨b, 0⟩))) h'
  | false => wNew zs true h fun b h' => k (.val (.ptr (some ⟨b, 0⟩))) h'
theorem wAllocB_eq (b : Bool) (t : TypeId) (zs : List AV) (h : EH) (k : EK) : wAllocB b t zs h k = eAlloc b t zs h k := by
  cases b with
  | true => rfl
  | false => exact wNew_eq zs true h (fun b h' => k (.val (.ptr (some ⟨b, 0⟩))) h')
noncomputable def wAlloc (t : TypeId) : Bool := match zcells P t, o.dst with | some zs, some _ => oneAll zs && wAllocB (bldT P t) t zs h k | _, _ => false
noncomputable def wBox (x : Operand) : Bool := match wev ρ x, o.dst with | .val v, some _ => !isTup v && oneAll v.cells && wNew v.cells true h fun b h' => k (.val (.ptr (some ⟨b, 0⟩))) h' | _, _ => false
noncomputable def wLoadO (t : TypeId) (x : Operand) : Bool := match tz P t, wev ρ x with
    | some z, .val (.ptr (some p)) => okTy P t z && wLoad z h p.b p.o fun v => k (.val v) h
    | _, _ => false
noncomputable def wStoreO (t : TypeId) (a x : Operand) : Bool := match wev ρ x, wev ρ a with
    | .val v, .val (.ptr (some p)) => ((P.info? t).isSome && v.cells.length == tsz P t && oneAll v.cells) && wStore h p.b p.o v.cells fun h' => k .top h'
    | _, _ => false
noncomputable def wNilCheck (x : Operand) : Bool := match wev ρ x with
    | .val (.ptr (some p)) => k (.val (.ptr (some p))) h
    | .val (.func (.func f) a c) => k (.val (.func (.func f) a c)) h
    | .val (.iface t v) => k (.val (.iface t v)) h
    | _ => false
noncomputable def wBinO (op : BinOp) (t : TypeId) (x y : Operand) : Bool := match wev ρ x, wev ρ y with
    | .val a, .val b => eBin P op t h a b fun v => k (.val v) h
    | _, _ => false
noncomputable def wUnO (op : UnOp) (x : Operand) : Bool := match wev ρ x with | .val a => eUn op a fun v => k (.val v) h | _ => false
noncomputable def wConvert (src dst : TypeId) (x : Operand) : Bool := match P.underlying src, P.underlying dst, wev ρ x with
    | some _, some (.int q), .val (.int _ n) => eint q n fun v => k (.val v) h
    | some .string, some .string, .val (.str s) => k (.val (.str s)) h
    | some (.int _), some .string, .val (.int _ n) => (decide (0 ≤ n) && decide (n < 128)) && fN n.toNat fun m => k (.val (.str [UInt8.ofNat m])) h
    | some (.slice e), some .string, .val (.sl s) => isU8 P e && wslCells h s (slLen s) fun l => eBytes l fun bs => k (.val (.str bs)) h
    | some .string, some (.slice e), .val (.str s) => (isU8 P e && decide (s.length ≤ 4611686018427387904)) && fBytes s fun l => wNew l false h fun b h' => fN s.length fun n => k (.val (.sl (some ⟨b, 0, n, n, 1⟩))) h'
    | _, _, _ => false
noncomputable def wFieldAddr (s : TypeId) (x : Operand) (f : Nat) : Bool := match fieldOff P s f, wev ρ x with
    | some (off, ft), .val (.ptr (some p)) => decide (0 < tsz P ft) && fN (p.o + off) fun o => k (.val (.ptr (some ⟨p.b, o⟩))) h
    | _, _ => false
noncomputable def wField (s : TypeId) (x : Operand) (f : Nat) : Bool := match fieldOff P s f, wev ρ x with
    | some (off, ft), .val (.agg cs) => (match tz P ft with
      | some z => okTy P ft z && wPart z cs off fun v => k (.val v) h
      | none => false)
    | _, _ => false
noncomputable def wIndexAddr (t : TypeId) (x ix : Operand) : Bool := match wevI ρ ix, P.underlying t, wev ρ x, x with
    | some i, some (.slice e), .val (.sl (some s)), _ => ((P.info? e).isSome && decide (0 ≤ i) && decide (i < s.len)) && fN (s.o + i.toNat * tsz P e) fun o => k (.val (.ptr (some ⟨s.b, o⟩))) h
    | some i, some (.array n e), .val (.ptr (some p)), _ => ((P.info? e).isSome && (decide (0 ≤ i) && decide (i < n))) && fN (p.o + i.toNat * tsz P e) fun o => k (.val (.ptr (some ⟨p.b, o⟩))) h
    | some i, some (.array n e), .top, .global g => (match eMark h g 8 0 with
      | some j => ((P.info? e).isSome && (decide (0 ≤ i) && decide (i < n))) && fN (i.toNat * tsz P e) fun o => k (.val (.ptr (some ⟨j, o⟩))) h
      | none => false)
    | _, _, _, _ => false
noncomputable def wIndex (t : TypeId) (x ix : Operand) : Bool := match wevI ρ ix, P.underlying t, wev ρ x with
    | some i, some .string, .val (.str s) => decide (0 ≤ i) && wat1 s i.toNat fun b => fN b.toNat fun n => k (.val (.int .u8 (.ofNat n))) h
    | _, _, _ => false
noncomputable def wBuild (t : TypeId) (ps : Array (Nat × Operand)) : Bool := match tz P t, P.underlying t with
    | some (.agg zs), some (.struct fs) => wpartsA ρ ps fun parts => (noTups parts && fs.toList.all fun f => (P.info? f.type).isSome) &&
      wfillA (fun i => (fs[i]?).map fun f => (f.offset, tsz P f.type)) parts zs fun cells => k (.val (.agg cells)) h
    | some (.agg zs), some (.array _ e) => wpartsA ρ ps fun parts => (noTups parts && (P.info? e).isSome) &&
      wfillA (fun i => some (i * tsz P e, tsz P e)) parts zs fun cells => k (.val (.agg cells)) h
    | _, _ => false
noncomputable def wBuildSlice (t : TypeId) (n : Nat) (ps : Array (Nat × Operand)) : Bool := match telem P t with
    | none => false
    | some e => match zcells P e with
      | some zs => wpartsA ρ ps fun parts => (decide (n * tsz P e ≤ 16777216) && noTups parts) && wfL (List.replicate n zs).flatten fun zc =>
        wfillA (fun i => some (i * tsz P e, tsz P e)) parts zc fun cells => oneAll cells && wNew cells true h fun b h' => k (.val (.sl (some ⟨b, 0, n, n, 0⟩))) h'
      | none => false
noncomputable def woptI : Option Operand → Option (Option Int)
  | none => some none
  | some x => (wevI ρ x).map some
noncomputable def wSlice (t : TypeId) (x : Operand) (lo hi mx : Option Operand) : Bool := match P.underlying t, wev ρ x, woptI ρ lo, woptI ρ hi, woptI ρ mx with
    | some (.slice e), .val (.sl s), some l, some hh, some m => ((P.info? e).isSome && (m.isNone || hh.isSome)) && eSlice (tsz P e) s (l.getD 0) hh m fun s' => k (.val (.sl s')) h
    | some .string, .val (.str s), some l, some hh, some none => estrSlice s (l.getD 0) hh fun s' => k (.val (.str s')) h
    | some (.array n e), .val (.ptr (some p)), some l, some hh, some m => ((P.info? e).isSome && (m.isNone || hh.isSome)) && eSlice (tsz P e) (some ⟨p.b, p.o, n, n, 0⟩) (l.getD 0) hh m fun s' => k (.val (.sl s')) h
    | _, _, _, _, _ => false
noncomputable def wMakeSlice (t : TypeId) (l c : Operand) : Bool := match telem P t with
    | none => false
    | some e => match zcells P e, wevI ρ l, wevI ρ c with
      | some zs, some n, some m => oneAll zs && wMake zs (tbytes P e) n m h fun s' h' => k (.val (.sl s')) h'
      | _, _, _ => false
noncomputable def wExtract (x : Operand) (i : Nat) : Bool := match wev ρ x with | .val (.tup vs) => wat1 vs i fun v => k (.val v) h | _ => false
noncomputable def wMakeIface (t : TypeId) (x : Operand) : Bool := match P.underlying t, wev ρ x with | some (.interface _), _ => false | some _, .val v => k (.val (.iface t v)) h | _, _ => false
noncomputable def wLen (t : TypeId) (v : AV) : Bool := match v with
  | .sl s => (match P.underlying t with | some (.slice _) => k (.val (.int .i64 (.ofNat (slLen s)))) h | _ => false)
  | .str s => (match P.underlying t with | some .string => fN s.length fun n => k (.val (.int .i64 (.ofNat n))) h | _ => false)
  | .map m => (match P.underlying t, emapEs h m with | some (.map _ _), some es => fN es.length fun n => k (.val (.int .i64 (.ofNat n))) h | _, _ => false)
  | _ => false
noncomputable def wAppO (t u : TypeId) (s : Option SL) (x : AV) : Bool := match telem P t with
    | none => false
    | some e =>
      match zcells P e with
      | none => false
      | some zs =>
        decide (0 < tbytes P e) &&
        match isIntT P u, x with
        | true, .int _ n => (oneAll zs && decide (0 ≤ n) && decide (n ≤ maxI) && decide (n * tbytes P e ≤ 140737488355328)) && fN n.toNat fun n => wfL (List.replicate n zs).flatten fun xs => wAppend (tsz P e) (tbytes P e) s n xs h fun s' h' => k (.val (.sl s')) h'
        | false, .sl src => (telem P u).isSome && wslCells h src (slLen src * tsz P e) fun xs => wAppend (tsz P e) (tbytes P e) s (slLen src) xs h fun s' h' => k (.val (.sl s')) h'
        | false, .str src => (isStrT P u && tsz P e == 1) && fN src.length fun n => fBytes src fun xs => wAppend 1 (tbytes P e) s n xs h fun s' h' => k (.val (.sl s')) h'
        | _, _ => false
noncomputable def wCopyO (t : TypeId) (s src : Option SL) : Bool := match telem P t with
    | none => false
    | some e => (P.info? e).isSome && fN (min (slLen src) (slLen s)) fun n => wslCells h src (n * tsz P e) fun xs => wCopy (tsz P e) s n xs h fun h' => k (.val (.int .i64 (.ofNat n))) h'
noncomputable def wBuiltin (b : Builtin) (argT : List TypeId) (args : List AV) : Bool :=
  match b, argT, args with
  | .len, [t], [v] => wLen P h k t v
  | .append, [t, u], [.sl s, x] => wAppO P h k t u s x
  | .copy, [t, _], [.sl s, .sl src] => wCopyO P h k t s src
  | b, argT, args => eBuiltin P b argT args h k
theorem wBuiltin_eq (b : Builtin) (argT : List TypeId) (args : List AV) : wBuiltin P h k b argT args = eBuiltin P b argT args h k := by
  unfold wBuiltin
  split
  · rename_i t v
    cases v <;> first | rfl | simp only [wLen, eBuiltin]
    all_goals try rfl
  · simp only [wAppO, eBuiltin, wfL_eq, wAppend_eq, wslCells_eq]
    try rfl
  · simp only [wCopyO, eBuiltin, wslCells_eq, wCopy_eq]
    try rfl
  · rfl
noncomputable def wCallO (c : Call) : Bool := wvals ρ c.args.toList fun args => (match c.callee with
      | .value f => (match wev ρ f, tz P o.type with
        | .val g, some z => wCallF P call g args h fun v h' => shV z v && k (.val v) h'
        | _, _ => false)
      | .invoke r name => (match wev ρ r, tz P o.type with
        | .val g, some z => wInvoke P call g name args h fun v h' => shV z v && k (.val v) h'
        | _, _ => false)
      | .builtin b => wBuiltin P h k b c.argTypes.toList args)
noncomputable def wop : Bool :=
  match o.op with
  | .move x => fV (wev ρ x) fun v => k v h
  | .assign x => fV (wev ρ x) fun v => k v h
  | .pick c a b => (match wev ρ c with | .val (.bool true) => fV (wev ρ a) fun v => k v h | .val (.bool false) => fV (wev ρ b) fun v => k v h | _ => false)
  | .alloc t => wAlloc P o h k t
  | .box t x => wBox o ρ h k x
  | .load t x => wLoadO P ρ h k t x
  | .store t a x => wStoreO P ρ h k t a x
  | .nilCheck x => wNilCheck ρ h k x
  | .binOp op t x y _ => wBinO P ρ h k op t x y
  | .unOp op _ x => wUnO ρ h k op x
  | .convert src dst x => wConvert P ρ h k src dst x
  | .fieldAddr s x f => wFieldAddr P ρ h k s x f
  | .field s x f => wField P ρ h k s x f
  | .indexAddr t x ix => wIndexAddr P ρ h k t x ix
  | .index t x ix => wIndex P ρ h k t x ix
  | .build t ps => wBuild P ρ h k t ps
  | .buildSlice t n ps => wBuildSlice P ρ h k t n ps
  | .slice t x lo hi mx => wSlice P ρ h k t x lo hi mx
  | .makeSlice t l c => wMakeSlice P ρ h k t l c
  | .extract x i => wExtract ρ h k x i
  | .makeFunc fn f c => !fnY fn && wvals ρ f.toList fun a => wvals ρ c.toList fun b => k (.val (.func fn a b)) h
  | .makeInterface t x => wMakeIface P ρ h k t x
  | .call c => wCallO P call o ρ h k c
  | _ => eop P call o ρ h k
end
theorem wop_eq (P : Program) (call : ECall) (o : Oper) (ρ : T LV) (h : EH) (k : EK) : wop P call o ρ h k = eop P call o ρ h k := by
  have eoI : ∀ x, woptI ρ x = eoptI ρ x := fun x => by
    cases x
    · rfl
    · simp only [woptI, eoptI, wevI_eq]
  unfold wop eop
  cases ho : o.op
  all_goals first
    | rfl
    | (simp only [wAlloc, wBox, wLoadO, wStoreO, wNilCheck, wBinO, wUnO, wConvert, wFieldAddr, wField, wIndexAddr, wIndex, wBuild, wBuildSlice, wSlice, wMakeSlice, wExtract, wMakeIface, wCallO, wev_eq, wevI_eq, wNew_eq, wAllocB_eq, wLoad_eq, wStore_eq, wslCells_eq, wPart_eq, wat1_eq, wpartsA_eq, wfillA_eq, wfL_eq, wMake_eq, wvals_eq, wCallF_eq, wInvoke_eq, wBuiltin_eq, eoI, fV_eq]; done)
    | (simp only [wAlloc, wBox, wLoadO, wStoreO, wNilCheck, wBinO, wUnO, wConvert, wFieldAddr, wField, wIndexAddr, wIndex, wBuild, wBuildSlice, wSlice, wMakeSlice, wExtract, wMakeIface, wCallO, wev_eq, wevI_eq, wNew_eq, wAllocB_eq, wLoad_eq, wStore_eq, wslCells_eq, wPart_eq, wat1_eq, wpartsA_eq, wfillA_eq, wfL_eq, wMake_eq, wvals_eq, wCallF_eq, wInvoke_eq, wBuiltin_eq, eoI, fV_eq]; try rfl)
noncomputable def wput (d : Option Nat) (v : LV) (ρ : T LV) (h : EH) (k : EC) : Bool := match d with | some d => ρ.wput d v fun ρ' => k ρ' h | none => k ρ h
theorem wput_eq (d : Option Nat) (v : LV) (ρ : T LV) (h : EH) (k : EC) : wput d v ρ h k = eput d v ρ h k := by
  cases d <;> simp only [wput, eput, T.wput_eq]
noncomputable def wGuardVal (ops : Array Oper) (ρ : T LV) (j : Nat) : Option Bool :=
  match (ops[j]?).bind (·.dst) with
  | some d => match ρ.wget d with | some (.val (.bool b)) => some b | _ => none
  | none => none
noncomputable def wGuardOff (ops : Array Oper) (ρ : T LV) (j : Nat) : Bool :=
  match (ops[j]?).bind (·.dst) with
  | some d => match ρ.wget d with | some (.val (.tup [])) => true | _ => false
  | none => false
theorem wGuardVal_eq (ops : Array Oper) (ρ : T LV) (j : Nat) : wGuardVal ops ρ j = eGuardVal ops ρ j := by
  unfold wGuardVal eGuardVal
  simp only [T.wget_eq]
  try rfl
theorem wGuardOff_eq (ops : Array Oper) (ρ : T LV) (j : Nat) : wGuardOff ops ρ j = eGuardOff ops ρ j := by
  unfold wGuardOff eGuardOff
  simp only [T.wget_eq]
  try rfl
section
variable (P : Program) (call : ECall)
noncomputable def wside (o : Oper) (act : Bool) (ρ : T LV) (h : EH) (k : EC) : Bool :=
  match act with
  | true => wop P call o ρ h fun v h' => wput o.dst v ρ h' k
  | false => wput o.dst .und ρ h k
noncomputable def wguarded (ops : Array Oper) (o : Oper) (ρ : T LV) (h : EH) (k : EC) : Bool :=
  match o.guard with
  | none => wop P call o ρ h fun v h' => wput o.dst v ρ h' k
  | some (j, want) =>
    match wGuardOff ops ρ j with
    | true => wput o.dst .und ρ h k
    | false => match wGuardVal ops ρ j with
      | none => false
      | some true => wside P call o want ρ h k
      | some false => wside P call o (!want) ρ h k
theorem wside_eq (o : Oper) (act : Bool) (ρ : T LV) (h : EH) (k : EC) : wside P call o act ρ h k = eside P call o act ρ h k := by
  cases act <;> simp only [wside, eside, wop_eq, wput_eq]
theorem wguarded_eq (ops : Array Oper) (o : Oper) (ρ : T LV) (h : EH) (k : EC) : wguarded P call ops o ρ h k = eguarded P call ops o ρ h k := by
  unfold wguarded eguarded
  simp only [wop_eq, wput_eq, wGuardOff_eq, wGuardVal_eq, wside_eq]
  try rfl
noncomputable def wops (ops : Array Oper) (l : List Oper) : T LV → EH → EC → Bool :=
  List.rec (motive := fun _ => T LV → EH → EC → Bool) (fun ρ h k => k ρ h) (fun o _ ih ρ h k => wguarded P call ops o ρ h fun ρ' h' => ih ρ' h' k) l
theorem wops_eq (ops : Array Oper) (l : List Oper) : ∀ (is : List Nat) ρ h k, is.map (fun i => ops[i]?) = l.map some → wops P call ops l ρ h k = eops P call ops is ρ h k := by
  induction l with
  | nil =>
    intro is ρ h k hi
    cases is with
    | nil => rfl
    | cons i is => simp at hi
  | cons o l ih =>
    intro is ρ h k hi
    cases is with
    | nil => simp at hi
    | cons i is =>
      simp only [List.map_cons, List.cons.injEq] at hi
      show (wguarded P call ops o ρ h fun ρ' h' => wops P call ops l ρ' h' k) = _
      rw [wguarded_eq, eops]
      simp only [hi.1]
      congr 1
      funext ρ' h'
      exact ih is ρ' h' k hi.2
theorem wops_all (ops : Array Oper) (ρ : T LV) (h : EH) (k : EC) : wops P call ops ops.toList ρ h k = eops P call ops (List.range ops.size) ρ h k := by
  refine wops_eq P call ops ops.toList _ ρ h k ?_
  apply List.ext_getElem?
  intro i
  rw [List.getElem?_map, List.getElem?_map]
  by_cases hi : i < ops.size
  · rw [List.getElem?_range hi]
    simp [Array.getElem?_eq_getElem hi, List.getElem?_eq_getElem (show i < ops.toList.length from hi)]
  · rw [List.getElem?_eq_none (by simp; omega), List.getElem?_eq_none (by simp; omega)]
    try rfl
noncomputable def wSameK (o : Oper) (ρ : T LV) : EK := fun lv _ => match o.dst with | some d => (match ρ.wget d with | some v => lvEq lv v | none => false) | none => true
theorem wSameK_eq (o : Oper) (ρ : T LV) : wSameK o ρ = eSameK o ρ := by
  funext lv h
  unfold wSameK eSameK
  simp only [T.wget_eq]
  try rfl
noncomputable def wrechk1 (ops : Array Oper) (i : Nat) (ρ : T LV) (h : EH) : Bool :=
  match ops[i]? with
  | some o =>
    (match o.guard with
    | none => wop P call o ρ h (wSameK o ρ)
    | some (j, want) =>
      match wGuardOff ops ρ j with
      | true => wSameK o ρ .und h
      | false => match wGuardVal ops ρ j with
        | none => false
        | some b => match b == want with | true => wop P call o ρ h (wSameK o ρ) | false => wSameK o ρ .und h)
  | none => false
theorem wrechk1_eq (ops : Array Oper) (i : Nat) (ρ : T LV) (h : EH) : wrechk1 P call ops i ρ h = erechk1 P call ops i ρ h := by
  unfold wrechk1 erechk1
  simp only [wop_eq, wSameK_eq, wGuardOff_eq, wGuardVal_eq]
  try rfl
noncomputable def wrechks (ops : Array Oper) (ρ : T LV) (h : EH) (a : Bool) (l : List Nat) : Bool :=
  List.rec (motive := fun _ => Bool) a (fun i _ ih => wrechk1 P call ops i ρ h && ih) l
theorem wrechks_eq (ops : Array Oper) (ρ : T LV) (h : EH) (a : Bool) (l : List Nat) : wrechks P call ops ρ h a l = erechks P call ops ρ h a l := by
  induction l with
  | nil => rfl
  | cons i l ih =>
    show (wrechk1 P call ops i ρ h && wrechks P call ops ρ h a l) = _
    rw [ih, wrechk1_eq]; try rfl
noncomputable def wany (ops : Array Oper) (rows : List Nat) (m : Nat) (lt : Option (List Nat)) (n : Nat) : List Nat → T LV → EH → EC → Bool :=
  Nat.rec (motive := fun _ => List Nat → T LV → EH → EC → Bool) (fun _ _ _ _ => false) (fun _ ih listed ρ h k =>
    match readyRO P ops listed with
    | some i => (match ops[i]? with
      | some o => wguarded P call ops o ρ h fun ρ' h' => ih (i :: listed) ρ' h' k
      | none => false)
    | none => match readyZ ops lt listed with
      | [] => (List.range ops.size).all listed.contains && k ρ h
      | j :: js => eall (j :: js) fun j => match ops[j]? with
        | some o => wguarded P call ops o ρ h fun ρ' h' => wrechks P call ops ρ' h' (ih (j :: listed) ρ' h' k) (toCheck P ops rows m listed j)
        | none => false) n
theorem wany_eq (ops : Array Oper) (rows : List Nat) (m : Nat) (lt : Option (List Nat)) (n : Nat) : ∀ listed ρ h k, wany P call ops rows m lt n listed ρ h k = eany P call ops rows m lt n listed ρ h k := by
  induction n with
  | zero => intro listed ρ h k; try rfl
  | succ n ih =>
    intro listed ρ h k
    have e : ∀ i, wany P call ops rows m lt n (i :: listed) = eany P call ops rows m lt n (i :: listed) := fun i => by funext ρ h k; exact ih (i :: listed) ρ h k
    show (match readyRO P ops listed with
    | some i => (match ops[i]? with
      | some o => wguarded P call ops o ρ h fun ρ' h' => wany P call ops rows m lt n (i :: listed) ρ' h' k
      | none => false)
    | none => match readyZ ops lt listed with
      | [] => (List.range ops.size).all listed.contains && k ρ h
      | j :: js => eall (j :: js) fun j => match ops[j]? with
        | some o => wguarded P call ops o ρ h fun ρ' h' => wrechks P call ops ρ' h' (wany P call ops rows m lt n (j :: listed) ρ' h' k) (toCheck P ops rows m listed j)
        | none => false) = _
    rw [eany]
    simp only [wguarded_eq, wrechks_eq, e]
    try rfl
noncomputable def wdraw (ops : Array Oper) (ρ : T LV) (h : EH) (k : EC) : Bool :=
  okDraw P ops (rowsOf ops).1 (rowsOf ops).2 && wany P call ops (rowsOf ops).1 (rowsOf ops).2 (lateAt P true ops) (ops.size + 1) [] ρ h k
noncomputable def wRegion (ops : Array Oper) (d : Bool) (ρ : T LV) (h : EH) (k : Exit → T LV → EH → Bool) : Bool :=
  match d with
  | false => wops P call ops ops.toList ρ h (k .normal)
  | true => wdraw P call ops ρ h (k .normal)
end
noncomputable def wSlots (ρ : T LV) (l : List Nat) : (List AV → Bool) → Bool :=
  List.rec (motive := fun _ => (List AV → Bool) → Bool) (fun k => k []) (fun s _ ih k => match ρ.wget s with | some (.val v) => ih fun l => k (v :: l) | _ => false) l
theorem wSlots_eq (ρ : T LV) (l : List Nat) : ∀ k, wSlots ρ l k = eSlots ρ l k := by
  induction l with
  | nil => intro k; try rfl
  | cons s l ih =>
    intro k
    show (match ρ.wget s with | some (.val v) => wSlots ρ l fun l => k (v :: l) | _ => false) = _
    rw [eSlots]
    simp only [T.wget_eq, ih]
    try rfl
noncomputable def wTop (l : List Nat) : T LV → (T LV → Bool) → Bool :=
  List.rec (motive := fun _ => T LV → (T LV → Bool) → Bool) (fun ρ k => k ρ) (fun t _ ih ρ k => ρ.wput t .top fun ρ' => ih ρ' k) l
theorem wTop_eq (l : List Nat) : ∀ ρ k, wTop l ρ k = eTop ρ l k := by
  induction l with
  | nil => intro ρ k; try rfl
  | cons t l ih =>
    intro ρ k
    show (ρ.wput t .top fun ρ' => wTop l ρ' k) = _
    rw [eTop, T.wput_eq]
    simp only [ih]
noncomputable def wPutSlots (l : List Nat) : T LV → List AV → (T LV → Bool) → Bool :=
  List.rec (motive := fun _ => T LV → List AV → (T LV → Bool) → Bool) (fun ρ vs k => match vs with | [] => k ρ | _ :: _ => false) (fun s _ ih ρ vs k => match vs with | v :: vs => ρ.wput s (.val v) fun ρ' => ih ρ' vs k | [] => false) l
theorem wPutSlots_eq (l : List Nat) : ∀ ρ vs k, wPutSlots l ρ vs k = ePutSlots ρ l vs k := by
  induction l with
  | nil => intro ρ vs k; cases vs <;> rfl
  | cons s l ih =>
    intro ρ vs k
    cases vs with
    | nil => rfl
    | cons v vs =>
      show (ρ.wput s (.val v) fun ρ' => wPutSlots l ρ' vs k) = _
      rw [ePutSlots, T.wput_eq]
      simp only [ih]
noncomputable def wloop (body : T LV → EH → (Exit → T LV → EH → Bool) → Bool) (slots : List Nat) (ρ0 : T LV) (xs0 : List AV) (k : Exit → T LV → EH → Bool) (n : Nat) : List AV → EH → Bool :=
  Nat.rec (motive := fun _ => List AV → EH → Bool) (fun _ _ => false) (fun _ ih xs h => wPutSlots slots ρ0 xs fun ρ => body ρ h fun e ρ' h' => match e with
    | .normal => wSlots ρ' slots fun xs' => wsames xs0 xs' && ih xs' h'
    | e => k e ρ' h') n
theorem wloop_eq (body : T LV → EH → (Exit → T LV → EH → Bool) → Bool) (slots : List Nat) (ρ0 : T LV) (xs0 : List AV) (k : Exit → T LV → EH → Bool) (n : Nat) : ∀ xs h, wloop body slots ρ0 xs0 k n xs h = eloop body slots ρ0 xs0 k n xs h := by
  induction n with
  | zero => intro xs h; try rfl
  | succ n ih =>
    intro xs h
    show (wPutSlots slots ρ0 xs fun ρ => body ρ h fun e ρ' h' => match e with
    | .normal => wSlots ρ' slots fun xs' => wsames xs0 xs' && wloop body slots ρ0 xs0 k n xs' h'
    | e => k e ρ' h') = _
    rw [eloop, wPutSlots_eq]
    simp only [wSlots_eq, wsames_eq, ih]
    try rfl
section
variable (P : Program) (slots : Nat → List Nat) (call : ECall)
abbrev XK := Exit → T LV → EH → Bool
abbrev CK := Nat → T LV → EH → XK → Bool
noncomputable def wSeqK (b : CK) (cur : Nat) (k : XK) : XK := fun e ρ h => match e with | .normal => b cur ρ h k | e => k e ρ h
noncomputable def wCondK (c : Operand) (a b : CK) : CK := fun cur ρ h k => match wev ρ c with
    | .val (.bool true) => a cur ρ h k
    | .val (.bool false) => b cur ρ h k
    | _ => false
noncomputable def wBlockK (id : Nat) (k : XK) : XK := fun e ρ' h' => match e with
    | .exit i => (match i == id with | true => k .normal ρ' h' | false => k (.exit i) ρ' h')
    | e => k e ρ' h'
noncomputable def wScopeK (k : XK) : XK := fun e ρ' h' => match e with
    | .goto _ => false
    | e => k e ρ' h'
noncomputable def wLoopK (wr : List Nat) (b : CK) : CK := fun cur ρ h k =>
    wSlots ρ (slots cur) fun xs0 => wsames xs0 xs0 && wTop wr ρ fun ρ0 => wloop (fun ρ h k => b cur ρ h k) (slots cur) ρ0 xs0 k 1000000 xs0 h
noncomputable def wcode (c : Code) : CK :=
  Code.rec (motive := fun _ => CK)
    (fun _ ρ h k => k .normal ρ h)
    (fun _ ops d _ ρ h k => wRegion P call ops d ρ h k)
    (fun _ _ a b cur ρ h k => a cur ρ h (wSeqK b cur k))
    (fun c _ _ a b => wCondK c a b)
    (fun id _ b _ ρ h k => b id ρ h (wBlockK id k))
    (fun body b => wLoopK slots (writes body) b)
    (fun _ _ _ _ _ _ _ _ _ _ => false)
    (fun id _ ρ h k => k (.exit id) ρ h)
    (fun _ b cur ρ h k => b cur ρ h (wScopeK k))
    (fun _ _ ρ h k => k .normal ρ h)
    (fun _ _ _ _ _ => false)
    (fun _ ρ h k => k .ret ρ h)
    (fun _ _ _ _ _ => false) c
theorem wcode_eq (c : Code) : ∀ cur ρ h k, wcode P slots call c cur ρ h k = ecode P true slots call c cur ρ h k := by
  induction c with
  | skip => intro cur ρ h k; try rfl
  | region id ops d =>
    intro cur ρ h k
    show wRegion P call ops d ρ h k = _
    cases d with
    | false => simp only [wRegion, ecode]; exact wops_all P call ops ρ h _
    | true => simp only [wRegion, ecode, wdraw, edraw, wany_eq]
  | seq a b iha ihb =>
    intro cur ρ h k
    show wcode P slots call a cur ρ h (wSeqK (wcode P slots call b) cur k) = _
    rw [iha, ecode]
    congr 1
    funext e ρ' h'
    cases e <;> simp only [wSeqK, ihb]
  | cond c a b iha ihb =>
    intro cur ρ h k
    show wCondK c (wcode P slots call a) (wcode P slots call b) cur ρ h k = _
    unfold wCondK
    rw [ecode, wev_eq]
    simp only [iha, ihb]
    try rfl
  | block id b ih =>
    intro cur ρ h k
    show wcode P slots call b id ρ h (wBlockK id k) = _
    rw [ih, ecode]
    try rfl
  | loop b ih =>
    intro cur ρ h k
    show wLoopK slots (writes b) (wcode P slots call b) cur ρ h k = _
    unfold wLoopK
    rw [ecode, wSlots_eq]
    simp only [wsames_eq, wTop_eq, wloop_eq, ih]
  | rangeFunc f ps a b iha ihb => intro cur ρ h k; try rfl
  | exit id => intro cur ρ h k; try rfl
  | scope b ih =>
    intro cur ρ h k
    show wcode P slots call b cur ρ h (wScopeK k) = _
    rw [ih, ecode]
    try rfl
  | label l => intro cur ρ h k; try rfl
  | goto l => intro cur ρ h k; try rfl
  | ret => intro cur ρ h k; try rfl
  | refuse s => intro cur ρ h k; try rfl
noncomputable def wresults (ρ : T LV) (h : EH) (l : List ResultVar) : (List AV → Bool) → Bool :=
  List.rec (motive := fun _ => (List AV → Bool) → Bool) (fun k => k []) (fun r _ ih k => match r with
    | .tmp t => (match ρ.wget t with | some (.val v) => ih fun l => k (v :: l) | _ => false)
    | .cell a t => (match tz P t, ρ.wget a with
      | some z, some (.val (.ptr (some p))) => okTy P t z && wLoad z h p.b p.o fun v => ih fun l => k (v :: l)
      | _, _ => false)) l
theorem wresults_eq (ρ : T LV) (h : EH) (l : List ResultVar) : ∀ k, wresults P ρ h l k = eresults P ρ h l k := by
  induction l with
  | nil => intro k; try rfl
  | cons r l ih =>
    intro k
    cases r with
    | tmp t =>
      show (match ρ.wget t with | some (.val v) => wresults P ρ h l fun l => k (v :: l) | _ => false) = _
      rw [eresults]; simp only [T.wget_eq, ih]; try rfl
    | cell a t =>
      show (match tz P t, ρ.wget a with
      | some z, some (.val (.ptr (some p))) => okTy P t z && wLoad z h p.b p.o fun v => wresults P ρ h l fun l => k (v :: l)
      | _, _ => false) = _
      rw [eresults]; simp only [T.wget_eq, wLoad_eq, ih]; try rfl
noncomputable def wArgs (l : List AV) : T LV → Nat → (T LV → Bool) → Bool :=
  List.rec (motive := fun _ => T LV → Nat → (T LV → Bool) → Bool) (fun t _ k => k t) (fun a _ ih t i k => t.wput i (.val a) fun t' => fN (Nat.succ i) fun j => ih t' j k) l
theorem wArgs_eq (l : List AV) : ∀ t i k, wArgs l t i k = eArgs t i l k := by
  induction l with
  | nil => intro t i k; try rfl
  | cons a l ih =>
    intro t i k
    show (t.wput i (.val a) fun t' => fN (Nat.succ i) fun j => wArgs l t' j k) = _
    rw [eArgs, T.wput_eq]
    simp only [ih]
noncomputable def wRetK (P : Program) (rs : List ResultVar) (k : AV → EH → Bool) : XK := fun e ρ' h' => match e with
      | .normal => wresults P ρ' h' rs fun l => (match l with | [v] => k v h' | l => k (.tup l) h')
      | .ret => wresults P ρ' h' rs fun l => (match l with | [v] => k v h' | l => k (.tup l) h')
      | _ => false
noncomputable def wfun (f : FuncId) (args : List AV) (h : EH) (k : AV → EH → Bool) : Bool :=
  match P.funcs[f]? with
  | none => false
  | some fn => match fn.body with
    | none => false
    | some c => (notCount P f && Nat.blt fn.ntmps 65536) && wArgs args (topT 17 fn.ntmps) 0 fun ρ => wcode P slots call c 1000000 ρ h (wRetK P fn.results.toList k)
theorem wfun_eq (f : FuncId) (args : List AV) (h : EH) (k : AV → EH → Bool) : wfun P slots call f args h k = efun P slots call f args h k := by
  unfold wfun efun
  cases P.funcs[f]? with
  | none => rfl
  | some fn =>
    simp only
    cases fn.body with
    | none => rfl
    | some c =>
      simp only [wArgs_eq, wcode_eq]
      congr 3
      funext ρ
      congr 1
      funext e ρ' h'
      cases e <;> simp only [wRetK, wresults_eq] <;> rfl
end
noncomputable def wrun (P : Program) (slots : FuncId → Nat → List Nat) (ov : Ovr) (n : Nat) : ECall :=
  Nat.rec (motive := fun _ => ECall) (fun _ _ _ _ => false) (fun _ ih f args h k => match ov f with
    | some g => g args h k
    | none => wfun P (slots f) ih f args h k) n
theorem wrun_eq (P : Program) (slots : FuncId → Nat → List Nat) (ov : Ovr) (n : Nat) : wrun P slots ov n = erun P slots ov n := by
  induction n with
  | zero => rfl
  | succ n ih =>
    funext f args h k
    show (match ov f with
    | some g => g args h k
    | none => wfun P (slots f) (wrun P slots ov n) f args h k) = _
    rw [ih, erun]
    simp only [wfun_eq]
    try rfl
theorem erun_of {P : Program} {slots : FuncId → Nat → List Nat} {ov : Ovr} {n : Nat} {f : FuncId} {args : List AV} {h : EH} {k : AV → EH → Bool} (hw : wrun P slots ov n f args h k = true) : erun P slots ov n f args h k = true := by
  rw [← wrun_eq]; exact hw
abbrev OF := Oper → Program → ECall → T LV → EH → EK → Bool
noncomputable def fOld : OF := fun o P call ρ h k => wop P call o ρ h k
noncomputable def lvL (x : LV) : (LV → Bool) → Bool := LV.rec (motive := fun _ => (LV → Bool) → Bool) (fun v k => k (.val v)) (fun a b k => k (.loc a b)) (fun k => k .top) x
noncomputable def olL (x : Option LV) : (LV → Bool) → Bool := Option.rec (motive := fun _ => (LV → Bool) → Bool) (fun k => k .top) lvL x
noncomputable def oaL (x : Option AV) : (LV → Bool) → Bool := Option.rec (motive := fun _ => (LV → Bool) → Bool) (fun k => k .top) (fun v k => k (.val v)) x
noncomputable def evL (x : Operand) : T LV → (LV → Bool) → Bool := Operand.rec (motive := fun _ => T LV → (LV → Bool) → Bool) (fun t ρ k => olL (ρ.wget t) k) (fun v _ k => oaL (ofV 4 v) k) (fun _ _ k => k .top) (fun f _ k => k (.val (.func (.func f) [] []))) x
theorem evL_eq (x : Operand) (ρ : T LV) (k : LV → Bool) : evL x ρ k = k (wev ρ x) := by
 cases x with
 | tmp t =>
  show olL (ρ.wget t) k = k (match ρ.wget t with | some v => v | none => .top)
  cases ρ.wget t with
  | none => rfl
  | some v => cases v <;> rfl
 | const v =>
  show oaL (ofV 4 v) k = k (match ofV 4 v with | some x => .val x | none => .top)
  cases ofV 4 v <;> rfl
 | global g => rfl
 | func f => rfl
noncomputable def fMove (x : Operand) : OF := fun _ _ _ ρ h k => evL x ρ fun v => k v h
noncomputable def fAlloc (t : TypeId) : OF := fun o P _ _ h k => wAlloc P o h k t
noncomputable def fBox (t : TypeId) (x : Operand) : OF := fun o _ _ ρ h k => wBox o ρ h k x
noncomputable def fLoad (t : TypeId) (x : Operand) : OF := fun _ P _ ρ h k => wLoadO P ρ h k t x
noncomputable def fStore (t : TypeId) (a x : Operand) : OF := fun _ P _ ρ h k => wStoreO P ρ h k t a x
noncomputable def fNil (x : Operand) : OF := fun _ _ _ ρ h k => wNilCheck ρ h k x
noncomputable def fBin (op : BinOp) (t : TypeId) (x y : Operand) : OF := fun _ P _ ρ h k => wBinO P ρ h k op t x y
noncomputable def fUn (op : UnOp) (x : Operand) : OF := fun _ _ _ ρ h k => wUnO ρ h k op x
noncomputable def fConv (a b : TypeId) (x : Operand) : OF := fun _ P _ ρ h k => wConvert P ρ h k a b x
noncomputable def fFA (s : TypeId) (x : Operand) (f : Nat) : OF := fun _ P _ ρ h k => wFieldAddr P ρ h k s x f
noncomputable def fField (s : TypeId) (x : Operand) (f : Nat) : OF := fun _ P _ ρ h k => wField P ρ h k s x f
noncomputable def fIA (t : TypeId) (x ix : Operand) : OF := fun _ P _ ρ h k => wIndexAddr P ρ h k t x ix
noncomputable def fIdx (t : TypeId) (x ix : Operand) : OF := fun _ P _ ρ h k => wIndex P ρ h k t x ix
noncomputable def fBuild (t : TypeId) (ps : Array (Nat × Operand)) : OF := fun _ P _ ρ h k => wBuild P ρ h k t ps
noncomputable def fBuildS (t : TypeId) (n : Nat) (ps : Array (Nat × Operand)) : OF := fun _ P _ ρ h k => wBuildSlice P ρ h k t n ps
noncomputable def fSlice (t : TypeId) (x : Operand) (a b c : Option Operand) : OF := fun _ P _ ρ h k => wSlice P ρ h k t x a b c
noncomputable def fMake (t : TypeId) (a b : Operand) : OF := fun _ P _ ρ h k => wMakeSlice P ρ h k t a b
noncomputable def fExtr (x : Operand) (i : Nat) : OF := fun _ _ _ ρ h k => wExtract ρ h k x i
noncomputable def fIface (t : TypeId) (x : Operand) : OF := fun _ P _ ρ h k => wMakeIface P ρ h k t x
noncomputable def fCall (c : Call) : OF := fun o P call ρ h k => wCallO P call o ρ h k c
noncomputable def opF (op : Op) : OF := Op.rec (motive := fun _ => OF)
 fMove fMove (fun _ _ _ => fOld) fAlloc fBox fBuild fBuildS (fun _ _ _ _ => fOld) fLoad fStore (fun _ => fOld) (fun _ => fOld) fNil (fun op t x y _ => fBin op t x y) (fun op _ x => fUn op x) fConv (fun _ _ => fOld) fIface (fun _ _ _ => fOld) (fun _ _ => fOld) (fun _ _ => fOld) fMake fSlice fFA fField fIA fIdx
 (fun _ _ _ _ => fOld) (fun _ _ _ _ => fOld) (fun _ _ _ => fOld) (fun _ _ _ _ => fOld) (fun _ _ => fOld) (fun _ _ => fOld) (fun _ => fOld) (fun _ _ _ _ => fOld) fExtr fCall (fun _ => fOld) (fun _ => fOld) (fun _ => fOld) (fun _ _ => fOld) (fun _ _ _ => fOld) (fun _ _ => fOld) op
theorem opF_eq (P : Program) (call : ECall) (o : Oper) (ρ : T LV) (h : EH) (k : EK) : opF o.op o P call ρ h k = wop P call o ρ h k := by
 unfold wop
 cases ho : o.op <;> first
  | rfl
  | (show evL _ ρ (fun v => k v h) = fV (wev ρ _) (fun v => k v h); rw [evL_eq, fV_eq])
  | (show wop P call o ρ h k = _; unfold wop; rw [ho])
noncomputable def fPut (d : Option Nat) : LV → T LV → EH → EC → Bool := Option.rec (motive := fun _ => LV → T LV → EH → EC → Bool) (fun _ ρ h k => k ρ h) (fun d v ρ h k => ρ.wput d v fun ρ' => k ρ' h) d
theorem fPut_eq (d : Option Nat) (v : LV) (ρ : T LV) (h : EH) (k : EC) : fPut d v ρ h k = wput d v ρ h k := by cases d <;> rfl
abbrev GF := Array Oper → Oper → Program → ECall → T LV → EH → EC → Bool
noncomputable def fPlain : GF := fun _ o P call ρ h k => opF o.op o P call ρ h fun v h' => fPut o.dst v ρ h' k
noncomputable def fGuard (g : Nat × Bool) : GF := fun ops o P call ρ h k => wguarded P call ops o ρ h k
noncomputable def guF (g : Option (Nat × Bool)) : GF := Option.rec (motive := fun _ => GF) fPlain fGuard g
theorem guF_eq (P : Program) (call : ECall) (ops : Array Oper) (o : Oper) (ρ : T LV) (h : EH) (k : EC) : guF o.guard ops o P call ρ h k = wguarded P call ops o ρ h k := by
 cases hg : o.guard with
 | none =>
  show (opF o.op o P call ρ h fun v h' => fPut o.dst v ρ h' k) = _
  rw [opF_eq]
  unfold wguarded
  rw [hg]
  simp only [fPut_eq]
 | some g => rfl
section
variable (P : Program) (call : ECall)
noncomputable def fops (ops : Array Oper) (l : List Oper) : T LV → EH → EC → Bool :=
 List.rec (motive := fun _ => T LV → EH → EC → Bool) (fun ρ h k => k ρ h) (fun o _ ih ρ h k => guF o.guard ops o P call ρ h fun ρ' h' => ih ρ' h' k) l
theorem fops_eq (ops : Array Oper) (l : List Oper) : ∀ ρ h k, fops P call ops l ρ h k = wops P call ops l ρ h k := by
 induction l with
 | nil => intro ρ h k; rfl
 | cons o l ih =>
  intro ρ h k
  show (guF o.guard ops o P call ρ h fun ρ' h' => fops P call ops l ρ' h' k) = wguarded P call ops o ρ h fun ρ' h' => wops P call ops l ρ' h' k
  rw [guF_eq]
  simp only [ih]
noncomputable def fRegion (ops : Array Oper) (d : Bool) : T LV → EH → (Exit → T LV → EH → Bool) → Bool :=
 Bool.rec (motive := fun _ => T LV → EH → (Exit → T LV → EH → Bool) → Bool) (fun ρ h k => fops P call ops ops.toList ρ h (k .normal)) (fun ρ h k => wdraw P call ops ρ h (k .normal)) d
theorem fRegion_eq (ops : Array Oper) (d : Bool) (ρ : T LV) (h : EH) (k : Exit → T LV → EH → Bool) : fRegion P call ops d ρ h k = wRegion P call ops d ρ h k := by
 cases d with
 | false => exact fops_eq P call ops ops.toList ρ h _
 | true => rfl
variable (slots : Nat → List Nat)
noncomputable def fcode (c : Code) : CK :=
 Code.rec (motive := fun _ => CK)
  (fun _ ρ h k => k .normal ρ h)
  (fun _ ops d _ ρ h k => fRegion P call ops d ρ h k)
  (fun _ _ a b cur ρ h k => a cur ρ h (wSeqK b cur k))
  (fun c _ _ a b => wCondK c a b)
  (fun id _ b _ ρ h k => b id ρ h (wBlockK id k))
  (fun body b => wLoopK slots (writes body) b)
  (fun _ _ _ _ _ _ _ _ _ _ => false)
  (fun id _ ρ h k => k (.exit id) ρ h)
  (fun _ b cur ρ h k => b cur ρ h (wScopeK k))
  (fun _ _ ρ h k => k .normal ρ h)
  (fun _ _ _ _ _ => false)
  (fun _ ρ h k => k .ret ρ h)
  (fun _ _ _ _ _ => false) c
theorem fcode_eq (c : Code) : fcode P call slots c = wcode P slots call c := by
 have key : ∀ c, fcode P call slots c = wcode P slots call c := by
  intro c
  induction c with
  | region id ops d =>
   funext cur ρ h k
   show fRegion P call ops d ρ h k = wRegion P call ops d ρ h k
   exact fRegion_eq P call ops d ρ h k
  | seq a b iha ihb =>
   show (fun cur ρ h k => fcode P call slots a cur ρ h (wSeqK (fcode P call slots b) cur k)) = fun cur ρ h k => wcode P slots call a cur ρ h (wSeqK (wcode P slots call b) cur k)
   rw [iha, ihb]
  | cond c a b iha ihb =>
   show wCondK c (fcode P call slots a) (fcode P call slots b) = wCondK c (wcode P slots call a) (wcode P slots call b)
   rw [iha, ihb]
  | block id b ih =>
   show (fun _ ρ h k => fcode P call slots b id ρ h (wBlockK id k)) = fun _ ρ h k => wcode P slots call b id ρ h (wBlockK id k)
   rw [ih]
  | loop b ih =>
   show wLoopK slots (writes b) (fcode P call slots b) = wLoopK slots (writes b) (wcode P slots call b)
   rw [ih]
  | scope b ih =>
   show (fun cur ρ h k => fcode P call slots b cur ρ h (wScopeK k)) = fun cur ρ h k => wcode P slots call b cur ρ h (wScopeK k)
   rw [ih]
  | _ => rfl
 exact key c
end
noncomputable def codeOf (P : Program) (f : FuncId) : Option (Nat × List ResultVar × Code) := match P.funcs[f]? with
 | none => none
 | some fn => match fn.body with
  | none => none
  | some c => match notCount P f && Nat.blt fn.ntmps 65536 with
   | true => some (fn.ntmps, fn.results.toList, c)
   | false => none
noncomputable def fBody (P : Program) (x : Nat × List ResultVar × Code) : (Nat → List Nat) → ECall → List AV → EH → (AV → EH → Bool) → Bool := fun slots call args h k =>
 wArgs args (topT 17 x.1) 0 fun ρ => fcode P call slots x.2.2 1000000 ρ h (wRetK P x.2.1 k)
noncomputable def oBody (P : Program) (x : Option (Nat × List ResultVar × Code)) : (Nat → List Nat) → ECall → List AV → EH → (AV → EH → Bool) → Bool :=
 Option.rec (motive := fun _ => (Nat → List Nat) → ECall → List AV → EH → (AV → EH → Bool) → Bool) (fun _ _ _ _ _ => false) (fBody P) x
theorem oBody_eq (P : Program) (slots : Nat → List Nat) (call : ECall) (f : FuncId) (args : List AV) (h : EH) (k : AV → EH → Bool) : oBody P (codeOf P f) slots call args h k = wfun P slots call f args h k := by
 unfold wfun codeOf
 cases P.funcs[f]? with
 | none => rfl
 | some fn =>
  simp only
  cases fn.body with
  | none => rfl
  | some c =>
   simp only
   cases hb : notCount P f && Nat.blt fn.ntmps 65536 with
   | false => simp only [Bool.false_and]; rfl
   | true =>
    simp only [Bool.true_and]
    show (wArgs args (topT 17 fn.ntmps) 0 fun ρ => fcode P call slots c 1000000 ρ h (wRetK P fn.results.toList k)) = _
    rw [fcode_eq]
abbrev OvT := List AV → EH → (AV → EH → Bool) → Bool
noncomputable def frun (P : Program) (slots : FuncId → Nat → List Nat) (ov : Ovr) (n : Nat) : ECall :=
 Nat.rec (motive := fun _ => ECall) (fun _ _ _ _ => false) (fun _ ih f => Option.rec (motive := fun _ => OvT) (fun args h k => oBody P (codeOf P f) (slots f) ih args h k) (fun g => g) (ov f)) n
theorem frun_eq (P : Program) (slots : FuncId → Nat → List Nat) (ov : Ovr) (n : Nat) : frun P slots ov n = wrun P slots ov n := by
 induction n with
 | zero => rfl
 | succ n ih =>
  funext f args h k
  show Option.rec (motive := fun _ => OvT) (fun args h k => oBody P (codeOf P f) (slots f) (frun P slots ov n) args h k) (fun g => g) (ov f) args h k = (match ov f with
  | some g => g args h k
  | none => wfun P (slots f) (wrun P slots ov n) f args h k)
  cases ov f with
  | none => simp only [ih]; exact oBody_eq P (slots f) _ f args h k
  | some g => rfl
def ACD (P : Program) (f : FuncId) (args : List AV) (h : Heap) (Q : AV → Heap → Prop) : Prop :=
 callable P f = true ∧ ∀ (μ : Ren) (w : World) (vs : List Value) (u : FrameMode), HRel μ h w → relL μ args vs → CallsD P f vs.toArray u w fun e u' w' => u' = u ∧ CallPost μ h w Q e w'
section
variable {P : Program}
theorem start_env {μ : Ren} {args : List AV} {vs : List Value} {n : Nat} (hv : relL μ args vs) :
  EnvRel μ [] (args.map .val ++ List.replicate (n - args.length) .top) (vs.toArray ++ Array.replicate (n - vs.toArray.size) undef) := by
 have hvl := hv.length
 refine ⟨by simp [hvl], fun t lv ht => ?_⟩
 rw [List.getElem?_append] at ht
 split at ht
 ·rename_i hlt
  simp at hlt
  simp only [List.getElem?_map, Option.map_eq_some_iff] at ht
  obtain ⟨x, hx, rfl⟩ := ht
  obtain ⟨y, hy, hxy⟩ := hv.get hx
  have : (vs.toArray ++ Array.replicate (n - vs.toArray.size) undef).getD t undef = y := by
   have hyl := lt_of_get hy
   rw [Array.getD_eq_getD_getElem?, Array.getElem?_append_left (by simpa using hyl)]
   simp [hy]
  rw [this]; exact hxy
 ·rw [List.getElem?_replicate] at ht
  split at ht
  ·cases ht; trivial
  ·cases ht
theorem ACD_of_code {H : Hints} {draw : DrawH} (hdraw : DrawOK P draw) {f : FuncId} {fn : Func} {c : Code} {args : List AV} {h : Heap} {Q : AV → Heap → Prop} (hf : P.funcs[f]? = some fn) (hb : fn.body = some c) (hn : (fn.name == "runtime.NumGoroutine") = false) (hy : Nat.beq f 1000000000 = false)
  (hk : vcode P H (AC P) draw c 1000000 ⟨args.map .val ++ List.replicate (fn.ntmps - args.length) .top, [], h⟩ fun e st => match e with
    | .normal => vret P fn st Q
    | .ret => vret P fn st Q
    | _ => False) : ACD P f args h Q := by
 refine ⟨by simp only [callable, hf, hb, hn, hy]; rfl, fun μ w vs u hh hv => ?_⟩
 have R : Rel μ h w μ [] [] h w := ⟨Evo.refl μ h w, hh, ⟨rfl, by simp, by simp, by simp, by simp⟩⟩
 have E := start_env (n := fn.ntmps) hv
 refine callsD_of_wp hf hb (wp_mono (vcode_wp (μ0 := μ) (h0 := h) (w0 := w) hdraw c 1000000 _ _ μ [] { tmps := vs.toArray ++ Array.replicate (fn.ntmps - vs.toArray.size) undef, defers := [] } w hk R E) ?_)
 rintro e a' w' ⟨st, μ', lam', hq, p⟩
 have hd : a'.defers = [] := p.defers
 cases e with
 | normal =>
  obtain ⟨v, x, g1, g2, g3⟩ := run_results p.rel p.env hq
  exact ⟨hd, v, g1, v, x, st.h, μ', rfl, g2, p.rel.evo, p.rel.heap, g3⟩
 | ret =>
  obtain ⟨v, x, g1, g2, g3⟩ := run_results p.rel p.env hq
  exact ⟨hd, v, g1, v, x, st.h, μ', rfl, g2, p.rel.evo, p.rel.heap, g3⟩
 | _ => exact hq.elim
def isDefer (ops : Array Oper) : Option (Nat × Nat × Nat) :=
 match ops.toList with
 | [⟨some d, .move (.tmp s), _, _, _, none⟩, ⟨none, .defer ⟨.value (.func g), as, _⟩, _, _, _, none⟩] => match as.toList with
  | [.tmp d'] => match d' == d with
   | true => some (d, s, g)
   | false => none
  | _ => none
 | _ => none
def vtail (P : Program) (H : Hints) (fn : Func) (Q : AV → Heap → Prop) (ops : Array Oper) (tail : Code) (st : St) : Prop :=
 match isDefer ops with
 | some (d, s, g) => match st.ρ[s]?, st.ρ[d]? with
  | some (.val v), some _ => vcode P H (AC P) (vdraw P H.loc (AC P)) tail 1000000 ⟨st.ρ.set d (.val v), st.L, st.h⟩ fun e st2 => match e with
   | .normal => ACD P g [v] st2.h fun _ h' => vret P fn ⟨st2.ρ, st2.L, h'⟩ Q
   | _ => False
  | _, _ => False
 | none => False
def vspine (P : Program) (H : Hints) (fn : Func) (Q : AV → Heap → Prop) : Nat → Code → St → Prop
 | 0, c, st => match c with
  | .seq (.region _ ops false) (.seq tail .ret) => vtail P H fn Q ops tail st
  | _ => False
 | n + 1, c, st => match c with
  | .seq x y => vcode P H (AC P) (vdraw P H.loc (AC P)) x 1000000 st fun e st' => match e with
   | .normal => vspine P H fn Q n y st'
   | .ret => vret P fn st' Q
   | _ => False
  | _ => False
section
variable {μ0 : Ren} {h0 : Heap} {w0 : World}
theorem wpOps_go {ops : Array Oper} {Q : Exit → Act → World → Prop} {i : Nat} {rest : List Nat} {a : Act} {w : World} {o : Oper} (ho : ops[i]? = some o) (hg : o.guard = none) (h : o.wp P a w (wpOps P ops Q rest) Q) : wpOps P ops Q (i :: rest) a w := by
 simp only [wpOps, ho]
 rw [if_pos (by unfold Region.wanted; rw [hg])]
 exact .inl h
theorem tail_wp {H : Hints} {fn : Func} {Q : AV → Heap → Prop} {id : Nat} {ops : Array Oper} {tail : Code} {st : St} {μ : Ren} {lam : List Nat} {a : Act} {w : World} (hk : vtail P H fn Q ops tail st)
  (R : Rel μ0 h0 w0 μ lam st.L st.h w) (E : EnvRel μ lam st.ρ a.tmps) (hd : a.defers = []) : (Code.seq (.region id ops false) (.seq tail .ret)).wp P (bodyPostD P fn (CallPost μ0 h0 w0 Q)) a w := by
 unfold vtail at hk
 split at hk
 ·rename_i d s g hi
  split at hk
  ·rename_i v z hv hx
   unfold isDefer at hi
   split at hi
   ·rename_i d1 s1 t1 p1 e1 g1 as t2 t3 p2 e2 hops
    split at hi
    ·rename_i d' has
     split at hi
     ·rename_i hdd
      cases hi
      have hdd : d' = d := by simpa using hdd
      subst hdd
      obtain ⟨ops⟩ := ops
      obtain ⟨as⟩ := as
      simp only at hops has
      subst hops has
      have hlt : s < a.tmps.size := by rw [← E.len]; exact lt_of_get hv
      have hrel : v.rel μ (a.tmps.getD s undef) := E.get s _ hv
      have E1 := E.put (d := some d') (a := a) (v := a.tmps.getD s undef) (lv := .val v) hrel
      have hdl : d' < a.tmps.size := by rw [← E.len]; exact lt_of_get hx
      refine wp_seq (wp_region ?_)
      refine wpOps_go (o := ⟨some d', .move (.tmp s), t1, p1, e1, none⟩) rfl rfl ?_
      show wpOps P (List.toArray [(⟨some d', .move (.tmp s), t1, p1, e1, none⟩ : Oper), ⟨none, .defer ⟨.value (.func g), ⟨[.tmp d']⟩, t2⟩, t3, p2, e2, none⟩]) _ [1] (a.put (some d') (a.eval (.tmp s))) w
      refine wpOps_go (o := ⟨none, .defer ⟨.value (.func g), ⟨[.tmp d']⟩, t2⟩, t3, p2, e2, none⟩) rfl rfl ?_
      have hval : (a.put (some d') (a.eval (.tmp s))).tmps.getD d' undef = a.tmps.getD s undef := by
       simp [Act.put, Act.eval, Array.getElem?_setIfInBounds, hdl]
      have hres : (resolve (a.put (some d') (a.eval (.tmp s))).eval ⟨.value (.func g), ⟨[.tmp d']⟩, t2⟩ t3).run P w = .ok ⟨.fn (.func g) #[], #[(a.put (some d') (a.eval (.tmp s))).tmps.getD d' undef]⟩ w := by
       unfold resolve
       simp [Deferred.ofValue, Act.eval]
      have hrun : (execOp (a.put (some d') (a.eval (.tmp s))).eval ⟨none, .defer ⟨.value (.func g), ⟨[.tmp d']⟩, t2⟩, t3, p2, e2, none⟩).run P w = .ok (.defer ⟨.fn (.func g) #[], #[(a.put (some d') (a.eval (.tmp s))).tmps.getD d' undef]⟩) w := by
       show Sem.run P (do let d ← resolve _ _ _; pure (Next.defer d)) w = _
       rw [Sem.run_bind, hres]
       rfl
      unfold Oper.wp
      rw [hrun, Oper.upon_defer, hval]
      refine wp_seq (wp_mono (vcode_wp (μ0 := μ0) (h0 := h0) (w0 := w0) vdraw_ok tail 1000000 _ _ μ lam _ w hk R E1) ?_)
      rintro e a' w' ⟨st2, μ2, lam2, hq, p⟩
      cases e with
      | normal =>
       refine wp_ret ?_
       have hds : a'.defers = [⟨.fn (.func g) #[], #[a.tmps.getD s undef]⟩] := by rw [p.defers]; show _ :: a.defers = _; rw [hd]
       show Leaves P fn a'.tmps _ a'.defers .returning w'
       rw [hds]
       refine leaves_cons (f := g) (args := [a.tmps.getD s undef].toArray) (by simp) ?_ ((hq.2 μ2 w' [a.tmps.getD s undef] .returning p.rel.heap ⟨_, _, rfl, hrel.mono p.le, rfl⟩).mono ?_)
       ·show (callFunc g (#[] ++ #[a.tmps.getD s undef])).run P w' = _
        rw [run_callFunc hq.1]; rfl
       ·rintro e u' w2 ⟨rfl, v2, x2, h2, μ3, rfl, hv2, hev, hh, hr2⟩
        have R3 := p.rel.call hev hh
        have E3 := p.env.mono hev.le (lamLe.refl _)
        obtain ⟨v3, x3, g1, g2, g3⟩ := run_results (st := ⟨st2.ρ, st2.L, h2⟩) R3 E3 hv2
        exact ⟨v3, g1, v3, x3, h2, μ3, rfl, g2, R3.evo, R3.heap, g3⟩
      | _ => exact hq.elim
     ·cases hi
    ·cases hi
   ·cases hi
  ·exact hk.elim
 ·exact hk.elim
theorem spine_wp {H : Hints} {fn : Func} {Q : AV → Heap → Prop} : ∀ (n : Nat) (c : Code) (st : St) (μ : Ren) (lam : List Nat) (a : Act) (w : World), vspine P H fn Q n c st →
  Rel μ0 h0 w0 μ lam st.L st.h w → EnvRel μ lam st.ρ a.tmps → a.defers = [] → c.wp P (bodyPostD P fn (CallPost μ0 h0 w0 Q)) a w
 | 0, c, st, μ, lam, a, w, hk, R, E, hd => by
  unfold vspine at hk
  split at hk
  ·exact tail_wp hk R E hd
  ·exact hk.elim
 | n + 1, c, st, μ, lam, a, w, hk, R, E, hd => by
  unfold vspine at hk
  split at hk
  ·refine wp_seq (wp_mono (vcode_wp (μ0 := μ0) (h0 := h0) (w0 := w0) vdraw_ok _ 1000000 _ _ μ lam a w hk R E) ?_)
   rintro e a' w' ⟨st2, μ2, lam2, hq, p⟩
   have hds : a'.defers = [] := by rw [p.defers, hd]
   cases e with
   | normal => exact spine_wp n _ st2 μ2 lam2 a' w' hq p.rel p.env hds
   | ret =>
    obtain ⟨v, x, g1, g2, g3⟩ := run_results p.rel p.env hq
    show Leaves P fn a'.tmps _ a'.defers .returning w'
    rw [hds]
    exact ⟨v, g1, v, x, st2.h, μ2, rfl, g2, p.rel.evo, p.rel.heap, g3⟩
   | _ => exact hq.elim
  ·exact hk.elim
end
def VCD (P : Program) (H : Hints) (n : Nat) (f : FuncId) (args : List AV) (h : Heap) (Q : AV → Heap → Prop) : Prop :=
 match P.funcs[f]? with
 | none => False
 | some fn => match fn.body with
  | none => False
  | some c => vspine P H fn Q n c ⟨args.map .val ++ List.replicate (fn.ntmps - args.length) .top, [], h⟩
theorem AC_of_VCD {H : Hints} {n : Nat} {f : FuncId} {args : List AV} {h : Heap} {Q : AV → Heap → Prop} (hn : notCount P f = true) (hk : VCD P H n f args h Q) : AC P f args h Q := by
 unfold VCD at hk
 unfold notCount at hn
 cases hf : P.funcs[f]? with
 | none => simp only [hf] at hk
 | some fn =>
  simp only [hf] at hk hn
  cases hb : fn.body with
  | none => simp only [hb] at hk
  | some c =>
   simp only [hb] at hk
   have hn : (fn.name == "runtime.NumGoroutine") = false ∧ Nat.beq f 1000000000 = false := by simpa only [Bool.and_eq_true, Bool.not_eq_true'] using hn
   obtain ⟨hn, hy⟩ := hn
   refine ⟨by simp only [callable, hf, hb, hn, hy]; rfl, fun μ w vs hh hv => ?_⟩
   have R : Rel μ h w μ [] [] h w := ⟨Evo.refl μ h w, hh, ⟨rfl, by simp, by simp, by simp, by simp⟩⟩
   exact calls_of_wp_defers hf hb (spine_wp n c _ μ [] _ w hk R (start_env (n := fn.ntmps) hv) rfl)
theorem AC_byD {H : Hints} {n : Nat} {f : FuncId} {args : List AV} {h : Heap} {Q : AV → Heap → Prop} {A : Prop} (hn : notCount P f = true) (e : A = VCD P H n f args h Q) (hk : A) : AC P f args h Q :=
 AC_of_VCD hn (e ▸ hk)
end
theorem ACD_of_vfun {P : Program} {H : Hints} {draw : DrawH} (hdraw : DrawOK P draw) {f : FuncId} {args : List AV} {h : Heap} {Q : AV → Heap → Prop} (hn : notCount P f = true) (hk : vfun P H (AC P) draw f args h Q) : ACD P f args h Q := by
 unfold vfun at hk
 unfold notCount at hn
 cases hf : P.funcs[f]? with
 | none => simp only [hf] at hk
 | some fn =>
  simp only [hf] at hk hn
  cases hb : fn.body with
  | none => simp only [hb] at hk
  | some c =>
   simp only [hb] at hk
   have hn : (fn.name == "runtime.NumGoroutine") = false ∧ Nat.beq f 1000000000 = false := by simpa only [Bool.and_eq_true, Bool.not_eq_true'] using hn
   exact ACD_of_code hdraw hf hb hn.1 hn.2 hk
theorem efun_okD {P : Program} {call : ECall} (C : CallOK P call) {slots : Nat → List Nat} {f : FuncId} {args : List AV} {e : EH} {h : Heap} {k : AV → EH → Bool} {Q : AV → Heap → Prop} (H : HFor e h) (hQ : ∀ v e' h', HFor e' h' → k v e' = true → Q v h') (hk : efun P slots call f args e k = true) : ACD P f args h Q := by
 unfold efun at hk
 split at hk
 ·simp at hk
 ·rename_i fn hf
  split at hk
  ·simp at hk
  ·rename_i c hb
   rw [Bool.and_eq_true, Bool.and_eq_true] at hk
   obtain ⟨⟨hn, hsz⟩, hk⟩ := hk
   have hsz' : fn.ntmps < 65536 := by simpa [Nat.blt_eq] using hsz
   have R0 := topT_ok 17 fn.ntmps (by omega)
   obtain ⟨hle, t', R1, hk⟩ := eArgs_ok (pre := []) (by simpa using R0) hk
   refine ACD_of_vfun (H := ehints slots) vdrawL_ok hn ?_
   unfold vfun
   simp only [hf, hb]
   have e1 : args.map LV.val ++ List.replicate (fn.ntmps - args.length) LV.top = [] ++ args.map LV.val ++ (List.replicate fn.ntmps LV.top).drop args.length := by simp
   rw [e1]
   refine ecode_ok C slots c _ R1 H (fun x t2 ρ2 e2 h2 R2 H2 hk2 => ?_) hk
   have fin : eresults P t2 e2 fn.results.toList (fun l => match l with | [v] => k v e2 | l => k (.tup l) e2) = true → vret P fn ⟨ρ2, [], h2⟩ Q := by
    intro hr
    refine eresults_ok R2 H2 (fun l hl => ?_) hr
    split at hl
    ·exact hQ _ _ _ H2 hl
    ·rename_i l hne
     split
     ·rename_i v; exact (hne v rfl).elim
     ·exact hQ _ _ _ H2 hl
   cases x with
   | normal => exact fin hk2
   | ret => exact fin hk2
   | _ => simp at hk2
theorem wrun_okD {P : Program} {slots : FuncId → Nat → List Nat} {ov : Ovr} (O : OvrOK P ov) {n : Nat} {f : FuncId} (hov : ov f = none) {args : List AV} {e : EH} {h : Heap} {k : AV → EH → Bool} {Q : AV → Heap → Prop} (H : HFor e h) (hQ : ∀ v e' h', HFor e' h' → k v e' = true → Q v h')
  (hk : wrun P slots ov (n + 1) f args e k = true) : ACD P f args h Q := by
 rw [wrun_eq] at hk
 unfold erun at hk
 rw [hov] at hk
 exact efun_okD (erun_ok O n) H hQ hk
theorem wrun_ok {P : Program} {slots : FuncId → Nat → List Nat} {ov : Ovr} (O : OvrOK P ov) {n : Nat} {f : FuncId} {args : List AV} {e : EH} {h : Heap} {k : AV → EH → Bool} {Q : AV → Heap → Prop} (H : HFor e h) (hQ : ∀ v e' h', HFor e' h' → k v e' = true → Q v h')
  (hk : wrun P slots ov n f args e k = true) : AC P f args h Q := erun_ok O n f args e h k Q H hQ (erun_of hk)
end Go.Ab
namespace Go.Ab
theorem frun_okD {P : Program} {slots : FuncId → Nat → List Nat} {ov : Ovr} (O : OvrOK P ov) {n : Nat} {f : FuncId} (hov : ov f = none) {args : List AV} {e : EH} {h : Heap} {k : AV → EH → Bool} {Q : AV → Heap → Prop} (H : HFor e h) (hQ : ∀ v e' h', HFor e' h' → k v e' = true → Q v h')
  (hk : frun P slots ov (n + 1) f args e k = true) : ACD P f args h Q := by
 rw [frun_eq] at hk
 exact wrun_okD O hov H hQ hk
theorem frun_ok {P : Program} {slots : FuncId → Nat → List Nat} {ov : Ovr} (O : OvrOK P ov) {n : Nat} {f : FuncId} {args : List AV} {e : EH} {h : Heap} {k : AV → EH → Bool} {Q : AV → Heap → Prop} (H : HFor e h) (hQ : ∀ v e' h', HFor e' h' → k v e' = true → Q v h')
  (hk : frun P slots ov n f args e k = true) : AC P f args h Q := by
 rw [frun_eq] at hk
 exact wrun_ok O H hQ hk
end Go.Ab
namespace Go.Ab
set_option linter.unusedSimpArgs false
set_option linter.unusedVariables false
noncomputable def AV.mint (x : AV) : (IntKind → Int → Bool) → Bool → Bool := AV.rec (motive_1 := fun _ => (IntKind → Int → Bool) → Bool → Bool) (motive_2 := fun _ => Unit) (fun a0 a1 f _ => f a0 a1) (fun _ _ d => d) (fun _ _ d => d) (fun _ _ d => d) (fun _ _ d => d) (fun _ _ d => d) (fun _ _ _ _ _ _ d => d) (fun _ d => d) (fun _ _ _ _ d => d) (fun _ d => d) (fun _ _ _ d => d) (fun _ _ _ d => d) () (fun _ _ _ _ => ()) x
noncomputable def AV.mbool (x : AV) : (Bool → Bool) → Bool → Bool := AV.rec (motive_1 := fun _ => (Bool → Bool) → Bool → Bool) (motive_2 := fun _ => Unit) (fun _ _ _ d => d) (fun a0 f _ => f a0) (fun _ _ d => d) (fun _ _ d => d) (fun _ _ d => d) (fun _ _ d => d) (fun _ _ _ _ _ _ d => d) (fun _ d => d) (fun _ _ _ _ d => d) (fun _ d => d) (fun _ _ _ d => d) (fun _ _ _ d => d) () (fun _ _ _ _ => ()) x
noncomputable def AV.mstr (x : AV) : (List UInt8 → Bool) → Bool → Bool := AV.rec (motive_1 := fun _ => (List UInt8 → Bool) → Bool → Bool) (motive_2 := fun _ => Unit) (fun _ _ _ d => d) (fun _ _ d => d) (fun a0 f _ => f a0) (fun _ _ d => d) (fun _ _ d => d) (fun _ _ d => d) (fun _ _ _ _ _ _ d => d) (fun _ d => d) (fun _ _ _ _ d => d) (fun _ d => d) (fun _ _ _ d => d) (fun _ _ _ d => d) () (fun _ _ _ _ => ()) x
noncomputable def AV.mptr (x : AV) : (Option PA → Bool) → Bool → Bool := AV.rec (motive_1 := fun _ => (Option PA → Bool) → Bool → Bool) (motive_2 := fun _ => Unit) (fun _ _ _ d => d) (fun _ _ d => d) (fun _ _ d => d) (fun a0 f _ => f a0) (fun _ _ d => d) (fun _ _ d => d) (fun _ _ _ _ _ _ d => d) (fun _ d => d) (fun _ _ _ _ d => d) (fun _ d => d) (fun _ _ _ d => d) (fun _ _ _ d => d) () (fun _ _ _ _ => ()) x
noncomputable def AV.msl (x : AV) : (Option SL → Bool) → Bool → Bool := AV.rec (motive_1 := fun _ => (Option SL → Bool) → Bool → Bool) (motive_2 := fun _ => Unit) (fun _ _ _ d => d) (fun _ _ d => d) (fun _ _ d => d) (fun _ _ d => d) (fun a0 f _ => f a0) (fun _ _ d => d) (fun _ _ _ _ _ _ d => d) (fun _ d => d) (fun _ _ _ _ d => d) (fun _ d => d) (fun _ _ _ d => d) (fun _ _ _ d => d) () (fun _ _ _ _ => ()) x
noncomputable def AV.mmap (x : AV) : (Option Nat → Bool) → Bool → Bool := AV.rec (motive_1 := fun _ => (Option Nat → Bool) → Bool → Bool) (motive_2 := fun _ => Unit) (fun _ _ _ d => d) (fun _ _ d => d) (fun _ _ d => d) (fun _ _ d => d) (fun _ _ d => d) (fun a0 f _ => f a0) (fun _ _ _ _ _ _ d => d) (fun _ d => d) (fun _ _ _ _ d => d) (fun _ d => d) (fun _ _ _ d => d) (fun _ _ _ d => d) () (fun _ _ _ _ => ()) x
noncomputable def AV.mfunc (x : AV) : (Fn → List AV → List AV → Bool) → Bool → Bool := AV.rec (motive_1 := fun _ => (Fn → List AV → List AV → Bool) → Bool → Bool) (motive_2 := fun _ => Unit) (fun _ _ _ d => d) (fun _ _ d => d) (fun _ _ d => d) (fun _ _ d => d) (fun _ _ d => d) (fun _ _ d => d) (fun a0 a1 a2 _ _ f _ => f a0 a1 a2) (fun _ d => d) (fun _ _ _ _ d => d) (fun _ d => d) (fun _ _ _ d => d) (fun _ _ _ d => d) () (fun _ _ _ _ => ()) x
noncomputable def AV.miface (x : AV) : (TypeId → AV → Bool) → Bool → Bool := AV.rec (motive_1 := fun _ => (TypeId → AV → Bool) → Bool → Bool) (motive_2 := fun _ => Unit) (fun _ _ _ d => d) (fun _ _ d => d) (fun _ _ d => d) (fun _ _ d => d) (fun _ _ d => d) (fun _ _ d => d) (fun _ _ _ _ _ _ d => d) (fun _ d => d) (fun a0 a1 _ f _ => f a0 a1) (fun _ d => d) (fun _ _ _ d => d) (fun _ _ _ d => d) () (fun _ _ _ _ => ()) x
noncomputable def AV.magg (x : AV) : (List AV → Bool) → Bool → Bool := AV.rec (motive_1 := fun _ => (List AV → Bool) → Bool → Bool) (motive_2 := fun _ => Unit) (fun _ _ _ d => d) (fun _ _ d => d) (fun _ _ d => d) (fun _ _ d => d) (fun _ _ d => d) (fun _ _ d => d) (fun _ _ _ _ _ _ d => d) (fun _ d => d) (fun _ _ _ _ d => d) (fun _ d => d) (fun a0 _ f _ => f a0) (fun _ _ _ d => d) () (fun _ _ _ _ => ()) x
noncomputable def AV.mtup (x : AV) : (List AV → Bool) → Bool → Bool := AV.rec (motive_1 := fun _ => (List AV → Bool) → Bool → Bool) (motive_2 := fun _ => Unit) (fun _ _ _ d => d) (fun _ _ d => d) (fun _ _ d => d) (fun _ _ d => d) (fun _ _ d => d) (fun _ _ d => d) (fun _ _ _ _ _ _ d => d) (fun _ d => d) (fun _ _ _ _ d => d) (fun _ d => d) (fun _ _ _ d => d) (fun a0 _ f _ => f a0) () (fun _ _ _ _ => ()) x
noncomputable def exN (e : Exit) : Bool → Bool → Bool := Exit.rec (motive := fun _ => Bool → Bool → Bool) (fun a _ => a) (fun _ _ d => d) (fun _ _ d => d) (fun _ d => d) (fun _ _ d => d) (fun _ d => d) e
noncomputable def exX (e : Exit) : (Nat → Bool) → Bool → Bool := Exit.rec (motive := fun _ => (Nat → Bool) → Bool → Bool) (fun _ d => d) (fun i f _ => f i) (fun _ _ d => d) (fun _ d => d) (fun _ _ d => d) (fun _ d => d) e
noncomputable def exG (e : Exit) : Bool → Bool := Exit.rec (motive := fun _ => Bool → Bool) (fun d => d) (fun _ d => d) (fun _ _ => false) (fun d => d) (fun _ d => d) (fun d => d) e
noncomputable def onPA (p : Option PA) : (PA → Bool) → Bool := Option.rec (motive := fun _ => (PA → Bool) → Bool) (fun _ => false) (fun p f => f p) p
noncomputable def onV (o : Option LV) : (AV → Bool) → Bool := Option.rec (motive := fun _ => (AV → Bool) → Bool) (fun _ => false) (fun lv => LV.rec (motive := fun _ => (AV → Bool) → Bool) (fun v f => f v) (fun _ _ _ => false) (fun _ => false) lv) o
noncomputable def mvO (o : Option LV) : EK → EH → Bool := Option.rec (motive := fun _ => EK → EH → Bool) (fun k h => k .top h) (fun v k h => k v h) o
noncomputable def nilB (l : List AV) : Bool → Bool := List.rec (motive := fun _ => Bool → Bool) (fun d => d) (fun _ _ _ _ => false) l
noncomputable def ifB (b : Bool) : Bool → Bool → Bool := Bool.rec (motive := fun _ => Bool → Bool → Bool) (fun _ d => d) (fun a _ => a) b
noncomputable def onC (o : Option Blk) : (List AV → Bool → Bool) → Bool := Option.rec (motive := fun _ => (List AV → Bool → Bool) → Bool) (fun _ => false) (fun B => Blk.rec (motive := fun _ => (List AV → Bool → Bool) → Bool) (fun c rw f => f c rw) (fun _ _ _ => false) (fun _ _ _ _ _ => false) (fun _ _ => false) (fun _ _ _ => false) (fun _ => false) B) o
abbrev CFc := ECall → T LV → EH → EC → Bool
abbrev COc := ECall → T LV → EH → EK → Bool
abbrev CX := ECall → T LV → EH → XK → Bool
def topO (o : Option LV) : LV := match o with | some v => v | none => .top
noncomputable def rd (x : Operand) (ρ : T LV) : Option LV := match x with | .tmp t => ρ.wget t | .const v => (match ofV 4 v with | some a => some (.val a) | none => none) | .global _ => none | .func f => some (.val (.func (.func f) [] []))
theorem rd_eq (x : Operand) (ρ : T LV) : wev ρ x = topO (rd x ρ) := by
 cases x with
 | tmp t => rfl
 | const v => simp only [wev, rd]; cases ofV 4 v <;> rfl
 | global g => rfl
 | func f => rfl
theorem onV_eq (x : Operand) (ρ : T LV) (f : AV → Bool) : onV (rd x ρ) f = match wev ρ x with | .val v => f v | _ => false := by
 rw [rd_eq]
 cases rd x ρ with
 | none => rfl
 | some lv => cases lv <;> rfl
theorem mvO_eq (x : Operand) (ρ : T LV) (h : EH) (k : EK) : mvO (rd x ρ) k h = k (wev ρ x) h := by
 rw [rd_eq]; cases rd x ρ <;> rfl
section
variable {γ : Type}
noncomputable def cAcc (i : Nat) (κ : (T LV → Option LV) → γ) : γ := G.rec (motive := fun _ => γ) (fun f => κ f) (accG i)
theorem cAcc_eq (i : Nat) (κ : (T LV → Option LV) → γ) : cAcc i κ = κ fun ρ => ρ.wget i := rfl
noncomputable def cPutR (i : Nat) (κ : PK LV → γ) : γ := G.rec (motive := fun _ => γ) (fun f => κ f) (putG i)
theorem cPutR_eq (i : Nat) (κ : PK LV → γ) : cPutR i κ = κ fun ρ v k => ρ.wput i v k := rfl
noncomputable def cRd (x : Operand) (κ : (T LV → Option LV) → γ) : γ := match x with
 | .tmp t => cAcc t κ
 | .const v => (match ofV 4 v with | some a => κ fun _ => some (.val a) | none => κ fun _ => none)
 | .global _ => κ fun _ => none
 | .func f => κ fun _ => some (.val (.func (.func f) [] []))
theorem cRd_eq (x : Operand) (κ : (T LV → Option LV) → γ) : cRd x κ = κ (rd x) := by
 cases x with
 | tmp t => rfl
 | const v =>
  have : rd (.const v) = fun _ => (match ofV 4 v with | some a => some (.val a) | none => none) := rfl
  rw [this]
  simp only [cRd]
  cases ofV 4 v <;> rfl
 | global g => rfl
 | func f => rfl
noncomputable def cPut (d : Option Nat) (κ : (LV → T LV → EH → EC → Bool) → γ) : γ := match d with
 | none => κ fun _ ρ h k => k ρ h
 | some i => cPutR i fun f => κ fun v ρ h k => f ρ v fun ρ' => k ρ' h
theorem cPut_eq (d : Option Nat) (κ : (LV → T LV → EH → EC → Bool) → γ) : cPut d κ = κ fun v ρ h k => wput d v ρ h k := by
 cases d <;> rfl
end
end Go.Ab
