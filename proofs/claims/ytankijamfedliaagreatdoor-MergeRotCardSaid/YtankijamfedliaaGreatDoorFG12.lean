import Derived.Test.YtankijamfedliaaGreatDoorFG11
namespace Go.Ab
set_option linter.unusedSimpArgs false
set_option linter.unusedVariables false
abbrev EC := T LV → EH → Bool
mutual
def avEq : AV → AV → Bool
 | .int k a, .int k' b => decide (k = k') && a == b
 | .bool a, .bool b => a == b
 | .str a, .str b => a == b
 | .ptr none, .ptr none => true
 | .ptr (some p), .ptr (some q) => p.b == q.b && p.o == q.o
 | .sl none, .sl none => true
 | .sl (some s), .sl (some t) => s.b == t.b && s.o == t.o && s.len == t.len && s.cap == t.cap && s.opn == t.opn
 | .map none, .map none => true
 | .map (some a), .map (some b) => a == b
 | .nilfunc, .nilfunc => true
 | .niliface, .niliface => true
 | .iface t v, .iface u w => t == u && avEq v w
 | .agg a, .agg b => avEqL a b
 | .tup a, .tup b => avEqL a b
 | _, _ => false
def avEqL : List AV → List AV → Bool
 | [], [] => true
 | x :: xs, y :: ys => avEq x y && avEqL xs ys
 | _, _ => false
end
mutual
theorem avEq_ok : ∀ (a b : AV), avEq a b = true → a = b
 | .int k a, b, h => by cases b <;> simp [avEq] at h; obtain ⟨h1, h2⟩ := h; subst h1; subst h2; rfl
 | .bool a, b, h => by cases b <;> simp [avEq] at h; subst h; rfl
 | .str a, b, h => by cases b <;> simp [avEq] at h; subst h; rfl
 | .ptr none, b, h => by
  cases b
  case ptr p => cases p with
   | none => rfl
   | some p => simp [avEq] at h
  all_goals simp [avEq] at h
 | .ptr (some p), b, h => by
  cases b
  case ptr q => cases q with
   | none => simp [avEq] at h
   | some q => cases p; cases q; simp [avEq] at h; simp_all
  all_goals simp [avEq] at h
 | .sl none, b, h => by
  cases b
  case sl p => cases p with
   | none => rfl
   | some p => simp [avEq] at h
  all_goals simp [avEq] at h
 | .sl (some p), b, h => by
  cases b
  case sl q => cases q with
   | none => simp [avEq] at h
   | some q => cases p; cases q; simp [avEq] at h; simp_all
  all_goals simp [avEq] at h
 | .map none, b, h => by
  cases b
  case map p => cases p with
   | none => rfl
   | some p => simp [avEq] at h
  all_goals simp [avEq] at h
 | .map (some p), b, h => by
  cases b
  case map q => cases q with
   | none => simp [avEq] at h
   | some q => simp [avEq] at h; subst h; rfl
  all_goals simp [avEq] at h
 | .func _ _ _, b, h => by cases b <;> simp [avEq] at h
 | .nilfunc, b, h => by cases b <;> simp [avEq] at h; rfl
 | .niliface, b, h => by cases b <;> simp [avEq] at h; rfl
 | .iface t v, b, h => by
  cases b <;> simp [avEq] at h
  obtain ⟨h1, h2⟩ := h
  rw [h1, avEq_ok _ _ h2]
 | .agg a, b, h => by
  cases b <;> simp [avEq] at h
  rw [avEqL_ok _ _ h]
 | .tup a, b, h => by
  cases b <;> simp [avEq] at h
  rw [avEqL_ok _ _ h]
theorem avEqL_ok : ∀ (a b : List AV), avEqL a b = true → a = b
 | [], b, h => by cases b <;> simp [avEqL] at h; rfl
 | x :: xs, b, h => by
  cases b <;> simp [avEqL] at h
  rw [avEq_ok _ _ h.1, avEqL_ok _ _ h.2]
end
def lvEq : LV → LV → Bool
 | .val a, .val b => avEq a b
 | .top, .top => true
 | _, _ => false
theorem lvEq_ok {a b : LV} (h : lvEq a b = true) : a = b := by
 cases a <;> cases b <;> simp [lvEq] at h
 ·rw [avEq_ok _ _ h]
 ·rfl
def eput (d : Option Nat) (v : LV) (ρ : T LV) (h : EH) (k : EC) : Bool := match d with | some d => ρ.put d v fun ρ' => k ρ' h | none => k ρ h
def eGuardVal (ops : Array Oper) (ρ : T LV) (j : Nat) : Option Bool :=
 match (ops[j]?).bind (·.dst) with
 | some d => match ρ.get d with | some (.val (.bool b)) => some b | _ => none
 | none => none
def eGuardOff (ops : Array Oper) (ρ : T LV) (j : Nat) : Bool :=
 match (ops[j]?).bind (·.dst) with
 | some d => match ρ.get d with | some (.val (.tup [])) => true | _ => false
 | none => false
section
variable (P : Program) (call : ECall)
def eside (o : Oper) (act : Bool) (ρ : T LV) (h : EH) (k : EC) : Bool :=
 match act with
 | true => eop P call o ρ h fun v h' => eput o.dst v ρ h' k
 | false => eput o.dst .und ρ h k
def eguarded (ops : Array Oper) (o : Oper) (ρ : T LV) (h : EH) (k : EC) : Bool :=
 match o.guard with
 | none => eop P call o ρ h fun v h' => eput o.dst v ρ h' k
 | some (j, want) =>
  match eGuardOff ops ρ j with
  | true => eput o.dst .und ρ h k
  | false => match eGuardVal ops ρ j with
   | none => false
   | some true => eside P call o want ρ h k
   | some false => eside P call o (!want) ρ h k
def eops (ops : Array Oper) : List Nat → T LV → EH → EC → Bool
 | [], ρ, h, k => k ρ h
 | i :: is, ρ, h, k => match ops[i]? with
  | none => false
  | some o => eguarded P call ops o ρ h fun ρ' h' => eops ops is ρ' h' k
def eall : List Nat → (Nat → Bool) → Bool
 | [], _ => true
 | [j], f => f j
 | j :: js, f => f j && eall js f
def eSameK (o : Oper) (ρ : T LV) : EK := fun lv _ => match o.dst with | some d => (match ρ.get d with | some v => lvEq lv v | none => false) | none => true
def erechk1 (ops : Array Oper) (i : Nat) (ρ : T LV) (h : EH) : Bool :=
 match ops[i]? with
 | some o =>
  (match o.guard with
  | none => eop P call o ρ h (eSameK o ρ)
  | some (j, want) =>
   match eGuardOff ops ρ j with
   | true => eSameK o ρ .und h
   | false => match eGuardVal ops ρ j with
    | none => false
    | some b => match b == want with | true => eop P call o ρ h (eSameK o ρ) | false => eSameK o ρ .und h)
 | none => false
def erechks (ops : Array Oper) (ρ : T LV) (h : EH) (a : Bool) : List Nat → Bool
 | [] => a
 | i :: is => erechk1 P call ops i ρ h && erechks ops ρ h a is
def eany (ops : Array Oper) (rows : List Nat) (m : Nat) : Nat → List Nat → T LV → EH → EC → Bool
 | 0, _, _, _, _ => false
 | n + 1, listed, ρ, h, k =>
  match readyRO P ops listed with
  | some i => (match ops[i]? with
   | some o => eguarded P call ops o ρ h fun ρ' h' => eany ops rows m n (i :: listed) ρ' h' k
   | none => false)
  | none => match readyE ops listed with
   | [] => (List.range ops.size).all listed.contains && k ρ h
   | j :: js => eall (j :: js) fun j => match ops[j]? with
    | some o => eguarded P call ops o ρ h fun ρ' h' => erechks P call ops ρ' h' (eany ops rows m n (j :: listed) ρ' h' k) (toCheck P ops rows m listed j)
    | none => false
end
def rowsOf (ops : Array Oper) : List Nat × Nat := bfRows ops.toList 0 [] Prod.mk
theorem bfRows_pair {α : Type} (k : List Nat → Nat → α) : ∀ (os : List Oper) (n : Nat) (rows : List Nat), bfRows os n rows k = (fun p => k p.1 p.2) (bfRows os n rows Prod.mk)
 | [], n, rows => rfl
 | o :: os, n, rows => by simp only [bfRows, forceN_eq, bfRows_pair k os]
def edraw (P : Program) (call : ECall) (ops : Array Oper) (ρ : T LV) (h : EH) (k : EC) : Bool :=
 okDraw P ops (rowsOf ops).1 (rowsOf ops).2 && eany P call ops (rowsOf ops).1 (rowsOf ops).2 (ops.size + 1) [] ρ h k
def eSlots (ρ : T LV) : List Nat → (List AV → Bool) → Bool
 | [], k => k []
 | s :: ss, k => match ρ.get s with | some (.val v) => eSlots ρ ss fun l => k (v :: l) | _ => false
def eTop : T LV → List Nat → (T LV → Bool) → Bool
 | ρ, [], k => k ρ
 | ρ, t :: ts, k => ρ.put t .top fun ρ' => eTop ρ' ts k
def ePutSlots : T LV → List Nat → List AV → (T LV → Bool) → Bool
 | ρ, s :: ss, v :: vs, k => ρ.put s (.val v) fun ρ' => ePutSlots ρ' ss vs k
 | ρ, [], [], k => k ρ
 | _, _, _, _ => false
def eloop (body : T LV → EH → (Exit → T LV → EH → Bool) → Bool) (slots : List Nat) (ρ0 : T LV) (xs0 : List AV) (k : Exit → T LV → EH → Bool) : Nat → List AV → EH → Bool
 | 0, _, _ => false
 | n + 1, xs, h => ePutSlots ρ0 slots xs fun ρ => body ρ h fun e ρ' h' => match e with
  | .normal => eSlots ρ' slots fun xs' => sameShapes xs0 xs' && eloop body slots ρ0 xs0 k n xs' h'
  | e => k e ρ' h'
def ecode (P : Program) (slots : Nat → List Nat) (call : ECall) : Code → Nat → T LV → EH → (Exit → T LV → EH → Bool) → Bool
 | .skip, _, ρ, h, k => k .normal ρ h
 | .region _ ops d, _, ρ, h, k => match d with
  | false => eops P call ops (List.range ops.size) ρ h (k .normal)
  | true => edraw P call ops ρ h (k .normal)
 | .seq a b, cur, ρ, h, k => ecode P slots call a cur ρ h fun e ρ' h' => match e with
  | .normal => ecode P slots call b cur ρ' h' k
  | e => k e ρ' h'
 | .cond c a b, cur, ρ, h, k => match eev ρ c with
  | .val (.bool true) => ecode P slots call a cur ρ h k
  | .val (.bool false) => ecode P slots call b cur ρ h k
  | _ => false
 | .block id body, _, ρ, h, k => ecode P slots call body id ρ h fun e ρ' h' => match e with
  | .exit i => (match i == id with | true => k .normal ρ' h' | false => k (.exit i) ρ' h')
  | e => k e ρ' h'
 | .loop body, cur, ρ, h, k =>
  eSlots ρ (slots cur) fun xs0 => sameShapes xs0 xs0 && eTop ρ (writes body) fun ρ0 =>
   eloop (fun ρ h k => ecode P slots call body cur ρ h k) (slots cur) ρ0 xs0 k 1000000 xs0 h
 | .exit id, _, ρ, h, k => k (.exit id) ρ h
 | .ret, _, ρ, h, k => k .ret ρ h
 | .scope body, cur, ρ, h, k => ecode P slots call body cur ρ h fun e ρ' h' => match e with
  | .goto _ => false
  | e => k e ρ' h'
 | .label _, _, ρ, h, k => k .normal ρ h
 | _, _, _, _, _ => false
def eresults (P : Program) (ρ : T LV) (h : EH) : List ResultVar → (List AV → Bool) → Bool
 | [], k => k []
 | .tmp t :: rs, k => (match ρ.get t with | some (.val v) => eresults P ρ h rs fun l => k (v :: l) | _ => false)
 | .cell a t :: rs, k => (match tz P t, ρ.get a with
  | some z, some (.val (.ptr (some p))) => okTy P t z && eLoad z h p.b p.o fun v => eresults P ρ h rs fun l => k (v :: l)
  | _, _ => false)
def topT : Nat → Nat → T LV
 | 0, _ => .e
 | f + 1, n => match n with
  | 0 => .e
  | n + 1 => .n .top (topT f ((n + 1) / 2)) (topT f (n / 2))
def eArgs : T LV → Nat → List AV → (T LV → Bool) → Bool
 | t, _, [], k => k t
 | t, i, a :: as, k => t.put i (.val a) fun t' => fN (Nat.succ i) fun j => eArgs t' j as k
def efun (P : Program) (slots : Nat → List Nat) (call : ECall) (f : FuncId) (args : List AV) (h : EH) (k : AV → EH → Bool) : Bool :=
 match P.funcs[f]? with
 | none => false
 | some fn => match fn.body with
  | none => false
  | some c => (notCount P f && Nat.blt fn.ntmps 65536) && eArgs (topT 17 fn.ntmps) 0 args fun ρ => ecode P slots call c 1000000 ρ h fun e ρ' h' => match e with
   | .normal => eresults P ρ' h' fn.results.toList fun l => (match l with | [v] => k v h' | l => k (.tup l) h')
   | .ret => eresults P ρ' h' fn.results.toList fun l => (match l with | [v] => k v h' | l => k (.tup l) h')
   | _ => false
abbrev Ovr := FuncId → Option (List AV → EH → (AV → EH → Bool) → Bool)
def erun (P : Program) (slots : FuncId → Nat → List Nat) (ov : Ovr) : Nat → ECall
 | 0, _, _, _, _ => false
 | n + 1, f, args, h, k => match ov f with
  | some g => g args h k
  | none => efun P (slots f) (erun P slots ov n) f args h k
section
variable {P : Program} {call : ECall}
abbrev noLoc : Nat → Bool := fun _ => false
theorem eput_ok {t : T LV} {ρ : List LV} (R : t.For ρ) {d : Option Nat} {v : LV} {e : EH} {k : EC} (h : eput d v t e k = true) (L : Locs) (hh : Heap) : ∃ t', t'.For (St.put ⟨ρ, L, hh⟩ d v L hh).ρ ∧ k t' e = true := by
 cases d with
 | none => exact ⟨t, R, h⟩
 | some d => obtain ⟨t', h1, h2⟩ := R.put h; exact ⟨t', h2, h1⟩
theorem eGuardVal_eq {t : T LV} {ρ : List LV} (R : t.For ρ) (ops : Array Oper) (j : Nat) : eGuardVal ops t j = guardVal ops ρ j := by
 unfold eGuardVal guardVal
 cases (ops[j]?).bind (·.dst) with
 | none => rfl
 | some d => simp only [R d]; rcases ρ[d]? with _ | lv; rfl; cases lv with
  | val v => cases v <;> rfl
  | loc _ _ => rfl
  | top => rfl
theorem eGuardOff_eq {t : T LV} {ρ : List LV} (R : t.For ρ) (ops : Array Oper) (j : Nat) : eGuardOff ops t j = guardOff ops ρ j := by
 unfold eGuardOff guardOff
 cases (ops[j]?).bind (·.dst) with
 | none => rfl
 | some d => simp only [R d]; rcases ρ[d]? with _ | lv; rfl; cases lv with
  | val v => cases v with
   | tup l => cases l <;> rfl
   | _ => rfl
  | loc _ _ => rfl
  | top => rfl
abbrev SK (K : St → Prop) (k : EC) : Prop := ∀ t ρ e h, T.For t ρ → HFor e h → k t e = true → K ⟨ρ, [], h⟩
theorem eside_ok (C : CallOK P call) {o : Oper} {act : Bool} {t : T LV} {ρ : List LV} (R : t.For ρ) {e : EH} {h : Heap} (H : HFor e h) {k : EC} {K : St → Prop} (hK : SK K k) (hk : eside P call o act t e k = true) :
  vside P noLoc (AC P) o act ⟨ρ, [], h⟩ K := by
 cases act with
 | true =>
  simp only [eside] at hk
  simp only [vside]
  refine eop_ok C R H (fun v e' h' H' hv => ?_) hk
  obtain ⟨t', h1, h2⟩ := eput_ok R hv [] h'
  cases hd : o.dst with
  | none => rw [hd] at h1; exact hK _ _ _ _ h1 H' h2
  | some d => rw [hd] at h1; exact hK _ _ _ _ h1 H' h2
 | false =>
  simp only [eside] at hk
  simp only [vside]
  obtain ⟨t', h1, h2⟩ := eput_ok R hk [] h
  exact hK _ _ _ _ h1 H h2
theorem eguarded_ok (C : CallOK P call) {ops : Array Oper} {o : Oper} {t : T LV} {ρ : List LV} (R : t.For ρ) {e : EH} {h : Heap} (H : HFor e h) {k : EC} {K : St → Prop} (hK : SK K k) (hk : eguarded P call ops o t e k = true) :
  vguarded P noLoc (AC P) ops o ⟨ρ, [], h⟩ K := by
 unfold eguarded at hk
 unfold vguarded
 split at hk
 ·rename_i hg
  simp only [hg]
  exact eside_ok C R H hK (act := true) hk
 ·rename_i j want hg
  simp only [hg]
  rw [eGuardOff_eq R] at hk
  split at hk
  ·rename_i ho
   simp only [ho]
   obtain ⟨t', h1, h2⟩ := eput_ok R hk [] h
   exact hK _ _ _ _ h1 H h2
  ·rename_i ho
   simp only [ho]
   rw [eGuardVal_eq R] at hk
   split at hk
   ·simp at hk
   ·rename_i hv
    simp only [hv, vif]
    rw [setG_same hv]
    exact eside_ok C R H hK hk
   ·rename_i hv
    simp only [hv, vif]
    rw [setG_same hv]
    exact eside_ok C R H hK hk
theorem eops_ok (C : CallOK P call) {ops : Array Oper} : ∀ {is : List Nat} {t : T LV} {ρ : List LV} (R : t.For ρ) {e : EH} {h : Heap} (H : HFor e h) {k : EC} {K : St → Prop} (hK : SK K k) (hk : eops P call ops is t e k = true),
  vops P noLoc (AC P) ops is ⟨ρ, [], h⟩ K
 | [], t, ρ, R, e, h, H, k, K, hK, hk => hK _ _ _ _ R H hk
 | i :: is, t, ρ, R, e, h, H, k, K, hK, hk => by
  unfold eops at hk
  unfold vops
  split at hk
  ·simp at hk
  ·rename_i o ho
   simp only [ho]
   exact eguarded_ok C R H (fun t' ρ' e' h' R' H' hk' => eops_ok C R' H' hK hk') hk
theorem eall_ok {f : Nat → Bool} {F : Nat → Prop} (hF : ∀ j, f j = true → F j) : ∀ {l : List Nat}, eall l f = true → vall l F
 | [], h => trivial
 | [j], h => hF _ h
 | j :: j' :: js, h => by
  simp only [eall, Bool.and_eq_true] at h
  exact ⟨hF _ h.1, eall_ok hF h.2⟩
theorem erechk1_ok (C : CallOK P call) {ops : Array Oper} {i : Nat} {t : T LV} {ρ : List LV} (R : t.For ρ) {e : EH} {h : Heap} (H : HFor e h) (hk : erechk1 P call ops i t e = true) : rechk1 P noLoc (AC P) ops i ⟨ρ, [], h⟩ := by
 unfold erechk1 at hk
 unfold rechk1
 split at hk
 ·rename_i o ho
  simp only [ho]
  have hKK : ∀ (lv : LV) (e' : EH), eSameK o t lv e' = true → (match o.dst with | some d => lv = ρ.getD d .top | none => True) := by
   intro lv e' hl
   unfold eSameK at hl
   cases hd : o.dst with
   | none => trivial
   | some d =>
    rw [hd] at hl
    simp only [R d] at hl
    simp only [List.getD]
    rcases hr : ρ[d]? with _ | v
    ·rw [hr] at hl; simp at hl
    ·rw [hr] at hl; simp only [Option.getD_some]; exact lvEq_ok hl
  unfold vg actsAt
  split at hk
  ·rename_i hg
   simp only [hg, vif]
   exact eop_ok C R H (fun v e' h' H' hv => hKK _ _ hv) hk
  ·rename_i j want hg
   simp only [hg]
   rw [eGuardOff_eq R] at hk
   split at hk
   ·rename_i hgo; simp only [hgo, vif]; exact hKK _ _ hk
   ·rename_i hgo
    rw [eGuardVal_eq R] at hk
    split at hk
    ·simp at hk
    ·rename_i b hv
     simp only [hgo, hv, Option.map_some]
     split at hk
     ·rename_i hb; simp only [hb, vif]; exact eop_ok C R H (fun v e' h' H' hv => hKK _ _ hv) hk
     ·rename_i hb; simp only [hb, vif]; exact hKK _ _ hk
 ·simp at hk
theorem erechks_ok (C : CallOK P call) {ops : Array Oper} {t : T LV} {ρ : List LV} (R : t.For ρ) {e : EH} {h : Heap} (H : HFor e h) {a : Bool} {A : Prop} (hA : a = true → A) : ∀ {l : List Nat}, erechks P call ops t e a l = true → rechks P noLoc (AC P) ops ⟨ρ, [], h⟩ A l
 | [], hk => hA hk
 | i :: is, hk => by
  simp only [erechks, Bool.and_eq_true] at hk
  exact ⟨erechk1_ok C R H hk.1, erechks_ok C R H hA hk.2⟩
theorem eany_ok (C : CallOK P call) {ops : Array Oper} {rows : List Nat} {m : Nat} : ∀ {n : Nat} {listed : List Nat} {t : T LV} {ρ : List LV} (R : t.For ρ) {e : EH} {h : Heap} (H : HFor e h) {k : EC} {K : St → Prop} (hK : SK K k)
  (hk : eany P call ops rows m n listed t e k = true), vany P noLoc (AC P) ops rows m n listed ⟨ρ, [], h⟩ K
 | 0, listed, t, ρ, R, e, h, H, k, K, hK, hk => by simp [eany] at hk
 | n + 1, listed, t, ρ, R, e, h, H, k, K, hK, hk => by
  unfold eany at hk
  unfold vany
  split at hk
  ·rename_i i hi
   simp only [hi]
   split at hk
   ·rename_i o ho
    simp only [ho]
    exact eguarded_ok C R H (fun t' ρ' e' h' R' H' hk' => eany_ok C R' H' hK hk') hk
   ·simp at hk
  ·rename_i hi
   simp only [hi]
   split at hk
   ·rename_i hr
    simp only [hr]
    rw [Bool.and_eq_true] at hk
    exact need_mk hk.1 (hK _ _ _ _ R H hk.2)
   ·rename_i j js hr
    simp only [hr]
    refine eall_ok (fun j hj => ?_) hk
    split at hj
    ·rename_i o ho
     simp only [ho]
     exact eguarded_ok C R H (fun t' ρ' e' h' R' H' hk' => erechks_ok C R' H' (fun hk2 => eany_ok C R' H' hK hk2) hk') hj
    ·simp at hj
theorem edraw_ok (C : CallOK P call) {ops : Array Oper} {id : Nat} {t : T LV} {ρ : List LV} (R : t.For ρ) {e : EH} {h : Heap} (H : HFor e h) {k : EC} {K : St → Prop} (hK : SK K k) (hk : edraw P call ops t e k = true) :
  vdraw P noLoc (AC P) id ops ⟨ρ, [], h⟩ K := by
 unfold edraw at hk
 rw [Bool.and_eq_true] at hk
 unfold vdraw
 rw [bfRows_pair]
 exact need_mk hk.1 (eany_ok C R H hK hk.2)
theorem eSlots_ok {t : T LV} {ρ : List LV} (R : t.For ρ) : ∀ {ss : List Nat} {k : List AV → Bool}, eSlots t ss k = true → ∃ vs, slotVals ρ ss = some vs ∧ k vs = true
 | [], k, h => ⟨[], rfl, h⟩
 | s :: ss, k, h => by
  unfold eSlots at h
  rw [R s] at h
  split at h
  ·rename_i v hv
   obtain ⟨vs, h1, h2⟩ := eSlots_ok R h
   exact ⟨v :: vs, by simp only [slotVals, hv, h1], h2⟩
  ·simp at h
theorem eTop_ok : ∀ {ts : List Nat} {t : T LV} {ρ : List LV} (R : t.For ρ) {k : T LV → Bool}, eTop t ts k = true → ∃ t', t'.For (setTop ρ ts) ∧ k t' = true
 | [], t, ρ, R, k, h => ⟨t, R, h⟩
 | s :: ss, t, ρ, R, k, h => by
  unfold eTop at h
  obtain ⟨t', h1, h2⟩ := R.put h
  exact eTop_ok h2 h1
theorem ePutSlots_ok : ∀ {ss : List Nat} {vs : List AV} {t : T LV} {ρ : List LV} (R : t.For ρ) {k : T LV → Bool}, ePutSlots t ss vs k = true → vs.length = ss.length ∧ ∃ t', t'.For (setSlots ρ ss vs) ∧ k t' = true
 | [], [], t, ρ, R, k, h => ⟨rfl, t, R, h⟩
 | [], v :: vs, t, ρ, R, k, h => by simp [ePutSlots] at h
 | s :: ss, [], t, ρ, R, k, h => by simp [ePutSlots] at h
 | s :: ss, v :: vs, t, ρ, R, k, h => by
  unfold ePutSlots at h
  obtain ⟨t', h1, h2⟩ := R.put h
  obtain ⟨h3, h4⟩ := ePutSlots_ok h2 h1
  exact ⟨by simp [h3], h4⟩
theorem allL_mk : ∀ {zs : List AV} {F : List AV → Prop}, (∀ xs, F xs) → allL zs F
 | [], F, h => h _
 | z :: zs, F, h => by
  cases z <;> simp only [allL]
  case int k n => exact fun n => allL_mk fun xs => h _
  case bool b => exact fun b => allL_mk fun xs => h _
  case str s => exact fun s => allL_mk fun xs => h _
  case ptr p => exact fun p => allL_mk fun xs => h _
  case sl s => exact fun s => allL_mk fun xs => h _
  case map m => exact fun m => allL_mk fun xs => h _
  all_goals exact fun v _ => allL_mk fun xs => h _
theorem least {p : Nat → Prop} : (∃ n, p n) → ∃ n, p n ∧ ∀ m, p m → n ≤ m := by
 intro ⟨n, hn⟩
 induction n using Nat.strongRecOn with
 | ind n ih =>
  by_cases h : ∃ m, m < n ∧ p m
  ·obtain ⟨m, h1, h2⟩ := h
   exact ih m h1 h2
  ·exact ⟨n, hn, fun m hm => by
    rcases Nat.lt_or_ge m n with h1 | h1
    ·exact (h ⟨m, h1, hm⟩).elim
    ·exact h1⟩
def ehints (slots : Nat → List Nat) : Hints := ⟨noLoc, fun c => ⟨slots c, []⟩, fun _ => [], fun _ => none⟩
abbrev QK (Q : Exit → St → Prop) (k : Exit → T LV → EH → Bool) : Prop := ∀ x t ρ e h, T.For t ρ → HFor e h → k x t e = true → Q x ⟨ρ, [], h⟩
theorem ecode_ok (C : CallOK P call) (slots : Nat → List Nat) : ∀ (c : Code) (cur : Nat) {t : T LV} {ρ : List LV} (R : t.For ρ) {e : EH} {h : Heap} (H : HFor e h) {k : Exit → T LV → EH → Bool} {Q : Exit → St → Prop} (hQ : QK Q k)
  (hk : ecode P slots call c cur t e k = true), vcode P (ehints slots) (AC P) (vdraw P noLoc (AC P)) c cur ⟨ρ, [], h⟩ Q := by
 intro c
 induction c with
 | skip => intro cur t ρ R e h H k Q hQ hk; exact hQ _ _ _ _ _ R H hk
 | region id ops d =>
  intro cur t ρ R e h H k Q hQ hk
  cases d with
  | false =>
   simp only [ecode] at hk
   simp only [vcode]
   exact eops_ok C R H (fun t ρ e h R H hk => hQ _ _ _ _ _ R H hk) hk
  | true =>
   simp only [ecode] at hk
   simp only [vcode]
   exact edraw_ok C R H (fun t ρ e h R H hk => hQ _ _ _ _ _ R H hk) hk
 | seq a b iha ihb =>
  intro cur t ρ R e h H k Q hQ hk
  simp only [ecode] at hk
  simp only [vcode]
  refine iha cur R H (fun x t' ρ' e' h' R' H' hk' => ?_) hk
  cases x with
  | normal => exact ihb cur R' H' hQ hk'
  | _ => exact hQ _ _ _ _ _ R' H' hk'
 | cond c a b iha ihb =>
  intro cur t ρ R e h H k Q hQ hk
  simp only [ecode, eev_eq R] at hk
  simp only [vcode]
  split at hk
  ·rename_i hc
   simp only [hc, vif]
   rw [setC_same (st := ⟨ρ, [], h⟩) hc]
   exact iha cur R H hQ hk
  ·rename_i hc
   simp only [hc, vif]
   rw [setC_same (st := ⟨ρ, [], h⟩) hc]
   exact ihb cur R H hQ hk
  ·simp at hk
 | block id body ih =>
  intro cur t ρ R e h H k Q hQ hk
  simp only [ecode] at hk
  simp only [vcode, ehints]
  refine ih id R H (fun x t' ρ' e' h' R' H' hk' => ?_) hk
  cases x with
  | exit i =>
   cases hi : i == id with
   | true => simp only [hi] at hk' ⊢; exact hQ _ _ _ _ _ R' H' hk'
   | false => simp only [hi] at hk' ⊢; exact hQ _ _ _ _ _ R' H' hk'
  | _ => exact hQ _ _ _ _ _ R' H' hk'
 | loop body ih =>
  intro cur t ρ R e h H k Q hQ hk
  simp only [ecode] at hk
  obtain ⟨xs0, h1, hk⟩ := eSlots_ok R hk
  rw [Bool.and_eq_true] at hk
  obtain ⟨h2, hk⟩ := hk
  obtain ⟨t0, R0, hk⟩ := eTop_ok R hk
  have hcar : ∀ {ρ' : List LV} {h' : Heap} {xs : List AV}, slotVals ρ' (slots cur) = some xs → carry ((ehints slots).loops cur) ⟨ρ', [], h'⟩ = some xs := by
   intro ρ' h' xs hx
   simp only [carry, ehints, hx, locVals, List.append_nil]
  simp only [vcode, hcar h1]
  refine need_mk h2 ?_
  let p : List AV → Heap → Nat → Prop := fun xs hh n => ∃ eh, HFor eh hh ∧ eloop (fun ρ h k => ecode P slots call body cur ρ h k) (slots cur) t0 xs0 k n xs eh = true
  have hm : ∀ xs hh, (∃ n, p xs hh n) → ∃ n, p xs hh n ∧ ∀ m, p xs hh m → n ≤ m := fun xs hh => least
  refine ⟨fun xs hh => ∃ n, p xs hh n, fun xs hh => open Classical in if hx : ∃ n, p xs hh n then Classical.choose (hm xs hh hx) else 0, ⟨_, e, H, hk⟩, allL_mk fun xs hh hI => ?_⟩
  have hmv := Classical.choose_spec (hm xs hh hI)
  simp only [dif_pos hI]
  generalize Classical.choose (hm xs hh hI) = n at hmv
  obtain ⟨⟨eh, He, hrun⟩, hmin⟩ := hmv
  cases n with
  | zero => simp [eloop] at hrun
  | succ n =>
   simp only [eloop] at hrun
   obtain ⟨hlen, t1, R1, hrun⟩ := ePutSlots_ok R0 hrun
   have hhead : headSt ((ehints slots).loops cur) (writes body) ⟨ρ, [], h⟩ xs hh = ⟨setSlots (setTop ρ (writes body)) (slots cur) xs, [], hh⟩ := by
    simp only [headSt, ehints, setLocs, ← hlen, List.take_length]
   rw [hhead]
   refine ih cur R1 He (fun x t' ρ' e' h' R' H' hk' => ?_) hrun
   cases x with
   | normal =>
    simp only at hk'
    obtain ⟨xs', g1, g2⟩ := eSlots_ok R' hk'
    rw [Bool.and_eq_true] at g2
    simp only [hcar g1]
    refine need_mk g2.1 ⟨trivial, ⟨n, e', H', g2.2⟩, ?_⟩
    have hex : ∃ n, p xs' h' n := ⟨n, e', H', g2.2⟩
    rw [dif_pos hex]
    have := (Classical.choose_spec (hm xs' h' hex)).2 n ⟨e', H', g2.2⟩
    omega
   | _ => exact hQ _ _ _ _ _ R' H' hk'
 | exit id => intro cur t ρ R e h H k Q hQ hk; exact hQ _ _ _ _ _ R H hk
 | ret => intro cur t ρ R e h H k Q hQ hk; exact hQ _ _ _ _ _ R H hk
 | scope body ih =>
  intro cur t ρ R e h H k Q hQ hk
  simp only [ecode] at hk
  simp only [vcode]
  refine ih cur R H (fun x t' ρ' e' h' R' H' hk' => ?_) hk
  cases x with
  | goto l => simp at hk'
  | _ => exact hQ _ _ _ _ _ R' H' hk'
 | label l => intro cur t ρ R e h H k Q hQ hk; exact hQ _ _ _ _ _ R H hk
 | _ => intro cur t ρ R e h H k Q hQ hk; simp [ecode] at hk
theorem eresults_ok {t : T LV} {ρ : List LV} (R : t.For ρ) {e : EH} {h : Heap} (H : HFor e h) : ∀ {rs : List ResultVar} {k : List AV → Bool} {K : List AV → Prop}, (∀ l, k l = true → K l) → eresults P t e rs k = true → vresults P ⟨ρ, [], h⟩ rs K
 | [], k, K, hK, hk => hK _ hk
 | .tmp s :: rs, k, K, hK, hk => by
  unfold eresults at hk
  rw [R s] at hk
  unfold vresults vresult
  split at hk
  ·rename_i v hv
   simp only [hv]
   exact eresults_ok R H (fun l hl => hK _ hl) hk
  ·simp at hk
 | .cell a ty :: rs, k, K, hK, hk => by
  unfold eresults at hk
  rw [R a] at hk
  unfold vresults vresult
  split at hk
  ·rename_i z p hz hv
   rw [Bool.and_eq_true] at hk
   have : ρ.getD a .top = .val (.ptr (some p)) := by simp only [List.getD, hv, Option.getD_some]
   simp only [vLoad, hz, hk.1, this, vPtr]
   exact eLoad_ok H hk.2 fun v hv => eresults_ok R H (fun l hl => hK _ hl) hv
  ·simp at hk
theorem topT_ok : ∀ (f n : Nat), n < 2 ^ f → (topT f n).For (List.replicate n .top)
 | 0, n, h => by
  have : n = 0 := by simp at h; exact h
  subst this
  intro i; simp [topT, T.get]
 | f + 1, 0, h => by intro i; simp [topT, T.get]
 | f + 1, n + 1, h => by
  intro i
  simp only [topT]
  cases i with
  | zero => simp [T.get, List.replicate_succ]
  | succ i =>
   have h1 := topT_ok f ((n + 1) / 2) (by rw [Nat.pow_succ] at h; omega)
   have h2 := topT_ok f (n / 2) (by rw [Nat.pow_succ] at h; omega)
   simp only [T.get]
   rw [List.getElem?_replicate]
   cases hb : Nat.beq (i % 2) 0 with
   | true =>
    have := T.beq_true hb
    simp only
    rw [h1, List.getElem?_replicate]
    by_cases hi : i / 2 < (n + 1) / 2
    ·rw [if_pos hi, if_pos (by omega)]
    ·rw [if_neg hi, if_neg (by omega)]
   | false =>
    have := T.beq_false hb
    simp only
    rw [h2, List.getElem?_replicate]
    by_cases hi : i / 2 < n / 2
    ·rw [if_pos hi, if_pos (by omega)]
    ·rw [if_neg hi, if_neg (by omega)]
theorem eArgs_ok : ∀ {as : List AV} {t : T LV} {pre rest : List LV} (R : t.For (pre ++ rest)) {k : T LV → Bool}, eArgs t pre.length as k = true →
  as.length ≤ rest.length ∧ ∃ t', t'.For (pre ++ as.map .val ++ rest.drop as.length) ∧ k t' = true
 | [], t, pre, rest, R, k, h => ⟨by simp, t, by simpa using R, h⟩
 | a :: as, t, pre, rest, R, k, h => by
  unfold eArgs at h
  obtain ⟨t', ⟨h1, h2, h3⟩⟩ := T.put_ok h
  rw [fN_eq] at h1
  rw [R] at h2
  have hr : rest ≠ [] := by
   intro hr
   subst hr
   simp at h2
  obtain ⟨r, rest', rfl⟩ := List.exists_cons_of_ne_nil hr
  have R' : t'.For ((pre ++ [.val a]) ++ rest') := by
   intro j
   rw [h3, R]
   by_cases hj : j = pre.length
   ·subst hj; simp
   ·rw [if_neg hj]
    rw [List.getElem?_append, List.getElem?_append]
    by_cases hj2 : j < pre.length
    ·rw [if_pos hj2, if_pos (by simp; omega), List.getElem?_append_left hj2]
    ·rw [if_neg hj2, if_neg (by simp; omega)]
     obtain ⟨m, hm⟩ : ∃ m, j - pre.length = m + 1 := ⟨j - pre.length - 1, by omega⟩
     rw [hm, show j - (pre ++ [LV.val a]).length = m by simp; omega]
     simp
  have hl : (pre ++ [LV.val a]).length = pre.length.succ := by simp
  rw [← hl] at h1
  obtain ⟨g1, t2, g2, g3⟩ := eArgs_ok R' h1
  exact ⟨by simp; omega, t2, by simpa using g2, g3⟩
theorem efun_ok (C : CallOK P call) (slots : Nat → List Nat) : CallOK P (efun P slots call) := by
 intro f args e h k Q H hQ hk
 unfold efun at hk
 split at hk
 ·simp at hk
 ·rename_i fn hf
  split at hk
  ·simp at hk
  ·rename_i c hb
   rw [Bool.and_eq_true, Bool.and_eq_true] at hk
   obtain ⟨⟨hn, hsz⟩, hk⟩ := hk
   have hsz' : fn.ntmps < 65536 := by simpa [Nat.blt_eq] using hsz
   have R0 := topT_ok 17 fn.ntmps (by omega)
   obtain ⟨hle, t', R1, hk⟩ := eArgs_ok (pre := []) (by simpa using R0) hk
   refine AC_of_VC (H := ehints slots) hn ?_
   unfold VC vfun
   simp only [hf, hb]
   have e1 : args.map LV.val ++ List.replicate (fn.ntmps - args.length) LV.top = [] ++ args.map LV.val ++ (List.replicate fn.ntmps LV.top).drop args.length := by simp
   rw [e1]
   refine ecode_ok C slots c _ R1 H (fun x t2 ρ2 e2 h2 R2 H2 hk2 => ?_) hk
   have fin : eresults P t2 e2 fn.results.toList (fun l => match l with | [v] => k v e2 | l => k (.tup l) e2) = true → vret P fn ⟨ρ2, [], h2⟩ Q := by
    intro hr
    refine eresults_ok R2 H2 (fun l hl => ?_) hr
    split at hl
    ·exact hQ _ _ _ H2 hl
    ·rename_i l hne
     split
     ·rename_i v; exact (hne v rfl).elim
     ·exact hQ _ _ _ H2 hl
   cases x with
   | normal => exact fin hk2
   | ret => exact fin hk2
   | _ => simp at hk2
def OvrOK (P : Program) (ov : Ovr) : Prop := ∀ f g, ov f = some g → ∀ (args : List AV) (e : EH) (h : Heap) (k : AV → EH → Bool) (Q : AV → Heap → Prop), HFor e h →
 (∀ v e' h', HFor e' h' → k v e' = true → Q v h') → g args e k = true → AC P f args h Q
theorem erun_ok {slots : FuncId → Nat → List Nat} {ov : Ovr} (O : OvrOK P ov) : ∀ n, CallOK P (erun P slots ov n)
 | 0 => by intro f args e h k Q H hQ hk; simp [erun] at hk
 | n + 1 => by
  intro f args e h k Q H hQ hk
  unfold erun at hk
  split at hk
  ·rename_i g hg; exact O f g hg args e h k Q H hQ hk
  ·exact efun_ok (erun_ok O n) (slots f) f args e h k Q H hQ hk
theorem HFor_nil : HFor ⟨.e, 0⟩ [] := ⟨fun i => by simp [T.get], rfl⟩
end
end Go.Ab
namespace Go.Ab
def keyStrs : List (AV × AV × Nat) → Option (List (List UInt8))
 | [] => some []
 | (.str s, _, _) :: es => (match keyStrs es with | some l => some (s :: l) | none => none)
 | _ => none
end Go.Ab
namespace Go.Ab
set_option linter.unusedVariables false
def eNewX (B : Blk) (h : EH) (k : EH → Bool) : Bool := h.t.add h.n B fun t' => fN (Nat.succ h.n) fun n' => k ⟨t', n'⟩
theorem eNewX_ok {e : EH} {h : Heap} (H : HFor e h) {B : Blk} {k : EH → Bool} (hk : eNewX B e k = true) : ∃ e', HFor e' (h ++ [B]) ∧ k e' = true := by
 unfold eNewX at hk
 rw [H.2] at hk
 obtain ⟨t', h1, h2⟩ := H.1.add hk
 rw [fN_eq] at h1
 exact ⟨_, ⟨h2, by simp⟩, h1⟩
def elaid (P : Program) (slots : FuncId → Nat → List Nat) (ov : Ovr) (n : Nat) (g : Nat) (c : List AV) (f : FuncId) (args : List AV) (k : AV → EH → Bool) : Bool :=
 eNewX (.gm g 1) ⟨.e, 0⟩ fun h1 => eNewX (.cells c false) h1 fun h2 => erun P slots ov n f args h2 k
theorem elaid_run {P : Program} {slots : FuncId → Nat → List Nat} {ov : Ovr} {n g : Nat} {c : List AV} {f : FuncId} {args : List AV} {k : AV → EH → Bool} (hk : elaid P slots ov n g c f args k = true) : ∃ e, HFor e (laidH g c) ∧ erun P slots ov n f args e k = true := by
 obtain ⟨e1, h1, h2⟩ := eNewX_ok HFor_nil hk
 obtain ⟨e2, h3, h4⟩ := eNewX_ok h1 h2
 exact ⟨e2, h3, h4⟩
theorem AC_elaid {P : Program} {slots : FuncId → Nat → List Nat} {ov : Ovr} (O : OvrOK P ov) {n g a j : Nat} {c : List AV} {f : FuncId} {h : Heap} {Q : AV → Heap → Prop} {k : AV → EH → Bool} (hy : ∀ (v : AV) (e : EH), k v e = true → v = .bool true) (hk : elaid P slots ov n g c f [] k = true)
  (hg : h[a]? = some (.gm g j)) (hj : h[j]? = some (.cells c false)) (hc : ∀ x ∈ c, ∀ (μ μ' : Ren) (y : Value), x.rel μ y → x.rel μ' y) (hQ : Q (.bool true) h) : AC P f [] h Q := by
 obtain ⟨e, H, hr⟩ := elaid_run hk
 exact AC_frame_g (v := .bool true) (erun_ok O n f _ _ _ _ _ H (fun v e' h' _ hv => hy v e' hv) hr) (fun _ _ _ h => h) (fun _ _ _ h => h) hg hj hc hQ
end Go.Ab
