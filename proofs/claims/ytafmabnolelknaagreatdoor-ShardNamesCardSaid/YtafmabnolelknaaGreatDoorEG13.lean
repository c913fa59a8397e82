import Derived.Test.YtafmabnolelknaaGreatDoorEG12
namespace Go.Ab
set_option linter.unusedSimpArgs false
set_option linter.unusedVariables false
abbrev EC := T LV → EH → Bool
mutual
def avEq : AV → AV → Bool
 | .int k a, .int k' b => decide (k = k') && a == b
 | .bool a, .bool b => a == b
 | .str a, .str b => a == b
 | .ptr none, .ptr none => true
 | .ptr (some p), .ptr (some q) => p.b == q.b && p.o == q.o
 | .sl none, .sl none => true
 | .sl (some s), .sl (some t) => s.b == t.b && s.o == t.o && s.len == t.len && s.cap == t.cap && s.opn == t.opn
 | .map none, .map none => true
 | .map (some a), .map (some b) => a == b
 | .nilfunc, .nilfunc => true
 | .niliface, .niliface => true
 | .iface t v, .iface u w => t == u && avEq v w
 | .agg a, .agg b => avEqL a b
 | .tup a, .tup b => avEqL a b
 | _, _ => false
def avEqL : List AV → List AV → Bool
 | [], [] => true
 | x :: xs, y :: ys => avEq x y && avEqL xs ys
 | _, _ => false
end
mutual
theorem avEq_ok : ∀ (a b : AV), avEq a b = true → a = b
 | .int k a, b, h => by cases b <;> simp [avEq] at h; obtain ⟨h1, h2⟩ := h; subst h1; subst h2; rfl
 | .bool a, b, h => by cases b <;> simp [avEq] at h; subst h; rfl
 | .str a, b, h => by cases b <;> simp [avEq] at h; subst h; rfl
 | .ptr none, b, h => by
  cases b
  case ptr p => cases p with
   | none => rfl
   | some p => simp [avEq] at h
  all_goals simp [avEq] at h
 | .ptr (some p), b, h => by
  cases b
  case ptr q => cases q with
   | none => simp [avEq] at h
   | some q => cases p; cases q; simp [avEq] at h; simp_all
  all_goals simp [avEq] at h
 | .sl none, b, h => by
  cases b
  case sl p => cases p with
   | none => rfl
   | some p => simp [avEq] at h
  all_goals simp [avEq] at h
 | .sl (some p), b, h => by
  cases b
  case sl q => cases q with
   | none => simp [avEq] at h
   | some q => cases p; cases q; simp [avEq] at h; simp_all
  all_goals simp [avEq] at h
 | .map none, b, h => by
  cases b
  case map p => cases p with
   | none => rfl
   | some p => simp [avEq] at h
  all_goals simp [avEq] at h
 | .map (some p), b, h => by
  cases b
  case map q => cases q with
   | none => simp [avEq] at h
   | some q => simp [avEq] at h; subst h; rfl
  all_goals simp [avEq] at h
 | .func _ _ _, b, h => by cases b <;> simp [avEq] at h
 | .nilfunc, b, h => by cases b <;> simp [avEq] at h; rfl
 | .niliface, b, h => by cases b <;> simp [avEq] at h; rfl
 | .iface t v, b, h => by
  cases b <;> simp [avEq] at h
  obtain ⟨h1, h2⟩ := h
  rw [h1, avEq_ok _ _ h2]
 | .agg a, b, h => by
  cases b <;> simp [avEq] at h
  rw [avEqL_ok _ _ h]
 | .tup a, b, h => by
  cases b <;> simp [avEq] at h
  rw [avEqL_ok _ _ h]
theorem avEqL_ok : ∀ (a b : List AV), avEqL a b = true → a = b
 | [], b, h => by cases b <;> simp [avEqL] at h; rfl
 | x :: xs, b, h => by
  cases b <;> simp [avEqL] at h
  rw [avEq_ok _ _ h.1, avEqL_ok _ _ h.2]
end
def lvEq : LV → LV → Bool
 | .val a, .val b => avEq a b
 | .top, .top => true
 | _, _ => false
theorem lvEq_ok {a b : LV} (h : lvEq a b = true) : a = b := by
 cases a <;> cases b <;> simp [lvEq] at h
 ·rw [avEq_ok _ _ h]
 ·rfl
def eput (d : Option Nat) (v : LV) (ρ : T LV) (h : EH) (k : EC) : Bool := match d with | some d => ρ.put d v fun ρ' => k ρ' h | none => k ρ h
def eGuardVal (ops : Array Oper) (ρ : T LV) (j : Nat) : Option Bool :=
 match (ops[j]?).bind (·.dst) with
 | some d => match ρ.get d with | some (.val (.bool b)) => some b | _ => none
 | none => none
def eGuardOff (ops : Array Oper) (ρ : T LV) (j : Nat) : Bool :=
 match (ops[j]?).bind (·.dst) with
 | some d => match ρ.get d with | some (.val (.tup [])) => true | _ => false
 | none => false
section
variable (P : Program) (call : ECall)
def eside (o : Oper) (act : Bool) (ρ : T LV) (h : EH) (k : EC) : Bool :=
 match act with
 | true => eop P call o ρ h fun v h' => eput o.dst v ρ h' k
 | false => eput o.dst .und ρ h k
def eguarded (ops : Array Oper) (o : Oper) (ρ : T LV) (h : EH) (k : EC) : Bool :=
 match o.guard with
 | none => eop P call o ρ h fun v h' => eput o.dst v ρ h' k
 | some (j, want) =>
  match eGuardOff ops ρ j with
  | true => eput o.dst .und ρ h k
  | false => match eGuardVal ops ρ j with
   | none => false
   | some true => eside P call o want ρ h k
   | some false => eside P call o (!want) ρ h k
def eops (ops : Array Oper) : List Nat → T LV → EH → EC → Bool
 | [], ρ, h, k => k ρ h
 | i :: is, ρ, h, k => match ops[i]? with
  | none => false
  | some o => eguarded P call ops o ρ h fun ρ' h' => eops ops is ρ' h' k
def eall : List Nat → (Nat → Bool) → Bool
 | [], _ => true
 | [j], f => f j
 | j :: js, f => f j && eall js f
def eSameK (o : Oper) (ρ : T LV) : EK := fun lv _ => match o.dst with | some d => (match ρ.get d with | some v => lvEq lv v | none => false) | none => true
def erechk1 (ops : Array Oper) (i : Nat) (ρ : T LV) (h : EH) : Bool :=
 match ops[i]? with
 | some o =>
  (match o.guard with
  | none => eop P call o ρ h (eSameK o ρ)
  | some (j, want) =>
   match eGuardOff ops ρ j with
   | true => eSameK o ρ .und h
   | false => match eGuardVal ops ρ j with
    | none => false
    | some b => match b == want with | true => eop P call o ρ h (eSameK o ρ) | false => eSameK o ρ .und h)
 | none => false
def erechks (ops : Array Oper) (ρ : T LV) (h : EH) (a : Bool) : List Nat → Bool
 | [] => a
 | i :: is => erechk1 P call ops i ρ h && erechks ops ρ h a is
def eany (ops : Array Oper) (rows : List Nat) (m : Nat) : Nat → List Nat → T LV → EH → EC → Bool
 | 0, _, _, _, _ => false
 | n + 1, listed, ρ, h, k =>
  match readyRO P ops listed with
  | some i => (match ops[i]? with
   | some o => eguarded P call ops o ρ h fun ρ' h' => eany ops rows m n (i :: listed) ρ' h' k
   | none => false)
  | none => match readyE ops listed with
   | [] => (List.range ops.size).all listed.contains && k ρ h
   | j :: js => eall (j :: js) fun j => match ops[j]? with
    | some o => eguarded P call ops o ρ h fun ρ' h' => erechks P call ops ρ' h' (eany ops rows m n (j :: listed) ρ' h' k) (toCheck P ops rows m listed j)
    | none => false
end
def rowsOf (ops : Array Oper) : List Nat × Nat := bfRows ops.toList 0 [] Prod.mk
theorem bfRows_pair {α : Type} (k : List Nat → Nat → α) : ∀ (os : List Oper) (n : Nat) (rows : List Nat), bfRows os n rows k = (fun p => k p.1 p.2) (bfRows os n rows Prod.mk)
 | [], n, rows => rfl
 | o :: os, n, rows => by simp only [bfRows, forceN_eq, bfRows_pair k os]
def edraw (P : Program) (call : ECall) (ops : Array Oper) (ρ : T LV) (h : EH) (k : EC) : Bool :=
 okDraw P ops (rowsOf ops).1 (rowsOf ops).2 && eany P call ops (rowsOf ops).1 (rowsOf ops).2 (ops.size + 1) [] ρ h k
def eSlots (ρ : T LV) : List Nat → (List AV → Bool) → Bool
 | [], k => k []
 | s :: ss, k => match ρ.get s with | some (.val v) => eSlots ρ ss fun l => k (v :: l) | _ => false
def eTop : T LV → List Nat → (T LV → Bool) → Bool
 | ρ, [], k => k ρ
 | ρ, t :: ts, k => ρ.put t .top fun ρ' => eTop ρ' ts k
def ePutSlots : T LV → List Nat → List AV → (T LV → Bool) → Bool
 | ρ, s :: ss, v :: vs, k => ρ.put s (.val v) fun ρ' => ePutSlots ρ' ss vs k
 | ρ, [], [], k => k ρ
 | _, _, _, _ => false
def eloop (body : T LV → EH → (Exit → T LV → EH → Bool) → Bool) (slots : List Nat) (ρ0 : T LV) (xs0 : List AV) (k : Exit → T LV → EH → Bool) : Nat → List AV → EH → Bool
 | 0, _, _ => false
 | n + 1, xs, h => ePutSlots ρ0 slots xs fun ρ => body ρ h fun e ρ' h' => match e with
  | .normal => eSlots ρ' slots fun xs' => sameShapes xs0 xs' && eloop body slots ρ0 xs0 k n xs' h'
  | e => k e ρ' h'
def ecode (P : Program) (slots : Nat → List Nat) (call : ECall) : Code → Nat → T LV → EH → (Exit → T LV → EH → Bool) → Bool
 | .skip, _, ρ, h, k => k .normal ρ h
 | .region _ ops d, _, ρ, h, k => match d with
  | false => eops P call ops (List.range ops.size) ρ h (k .normal)
  | true => edraw P call ops ρ h (k .normal)
 | .seq a b, cur, ρ, h, k => ecode P slots call a cur ρ h fun e ρ' h' => match e with
  | .normal => ecode P slots call b cur ρ' h' k
  | e => k e ρ' h'
 | .cond c a b, cur, ρ, h, k => match eev ρ c with
  | .val (.bool true) => ecode P slots call a cur ρ h k
  | .val (.bool false) => ecode P slots call b cur ρ h k
  | _ => false
 | .block id body, _, ρ, h, k => ecode P slots call body id ρ h fun e ρ' h' => match e with
  | .exit i => (match i == id with | true => k .normal ρ' h' | false => k (.exit i) ρ' h')
  | e => k e ρ' h'
 | .loop body, cur, ρ, h, k =>
  eSlots ρ (slots cur) fun xs0 => sameShapes xs0 xs0 && eTop ρ (writes body) fun ρ0 =>
   eloop (fun ρ h k => ecode P slots call body cur ρ h k) (slots cur) ρ0 xs0 k 1000000 xs0 h
 | .exit id, _, ρ, h, k => k (.exit id) ρ h
 | .ret, _, ρ, h, k => k .ret ρ h
 | .scope body, cur, ρ, h, k => ecode P slots call body cur ρ h fun e ρ' h' => match e with
  | .goto _ => false
  | e => k e ρ' h'
 | .label _, _, ρ, h, k => k .normal ρ h
 | _, _, _, _, _ => false
def eresults (P : Program) (ρ : T LV) (h : EH) : List ResultVar → (List AV → Bool) → Bool
 | [], k => k []
 | .tmp t :: rs, k => (match ρ.get t with | some (.val v) => eresults P ρ h rs fun l => k (v :: l) | _ => false)
 | .cell a t :: rs, k => (match tz P t, ρ.get a with
  | some z, some (.val (.ptr (some p))) => okTy P t z && eLoad z h p.b p.o fun v => eresults P ρ h rs fun l => k (v :: l)
  | _, _ => false)
def topT : Nat → Nat → T LV
 | 0, _ => .e
 | f + 1, n => match n with
  | 0 => .e
  | n + 1 => .n .top (topT f ((n + 1) / 2)) (topT f (n / 2))
def eArgs : T LV → Nat → List AV → (T LV → Bool) → Bool
 | t, _, [], k => k t
 | t, i, a :: as, k => t.put i (.val a) fun t' => fN (Nat.succ i) fun j => eArgs t' j as k
def efun (P : Program) (slots : Nat → List Nat) (call : ECall) (f : FuncId) (args : List AV) (h : EH) (k : AV → EH → Bool) : Bool :=
 match P.funcs[f]? with
 | none => false
 | some fn => match fn.body with
  | none => false
  | some c => (notCount P f && Nat.blt fn.ntmps 65536) && eArgs (topT 17 fn.ntmps) 0 args fun ρ => ecode P slots call c 1000000 ρ h fun e ρ' h' => match e with
   | .normal => eresults P ρ' h' fn.results.toList fun l => (match l with | [v] => k v h' | l => k (.tup l) h')
   | .ret => eresults P ρ' h' fn.results.toList fun l => (match l with | [v] => k v h' | l => k (.tup l) h')
   | _ => false
abbrev Ovr := FuncId → Option (List AV → EH → (AV → EH → Bool) → Bool)
def erun (P : Program) (slots : FuncId → Nat → List Nat) (ov : Ovr) : Nat → ECall
 | 0, _, _, _, _ => false
 | n + 1, f, args, h, k => match ov f with
  | some g => g args h k
  | none => efun P (slots f) (erun P slots ov n) f args h k
section
variable {P : Program} {call : ECall}
abbrev noLoc : Nat → Bool := fun _ => false
theorem eput_ok {t : T LV} {ρ : List LV} (R : t.For ρ) {d : Option Nat} {v : LV} {e : EH} {k : EC} (h : eput d v t e k = true) (L : Locs) (hh : Heap) : ∃ t', t'.For (St.put ⟨ρ, L, hh⟩ d v L hh).ρ ∧ k t' e = true := by
 cases d with
 | none => exact ⟨t, R, h⟩
 | some d => obtain ⟨t', h1, h2⟩ := R.put h; exact ⟨t', h2, h1⟩
theorem eGuardVal_eq {t : T LV} {ρ : List LV} (R : t.For ρ) (ops : Array Oper) (j : Nat) : eGuardVal ops t j = guardVal ops ρ j := by
 unfold eGuardVal guardVal
 cases (ops[j]?).bind (·.dst) with
 | none => rfl
 | some d => simp only [R d]; rcases ρ[d]? with _ | lv; rfl; cases lv with
  | val v => cases v <;> rfl
  | loc _ _ => rfl
  | top => rfl
theorem eGuardOff_eq {t : T LV} {ρ : List LV} (R : t.For ρ) (ops : Array Oper) (j : Nat) : eGuardOff ops t j = guardOff ops ρ j := by
 unfold eGuardOff guardOff
 cases (ops[j]?).bind (·.dst) with
 | none => rfl
 | some d => simp only [R d]; rcases ρ[d]? with _ | lv; rfl; cases lv with
  | val v => cases v with
   | tup l => cases l <;> rfl
   | _ => rfl
  | loc _ _ => rfl
  | top => rfl
abbrev SK (K : St → Prop) (k : EC) : Prop := ∀ t ρ e h, T.For t ρ → HFor e h → k t e = true → K ⟨ρ, [], h⟩
theorem eside_ok {CH : CallH} (C : CallOKH CH call) {o : Oper} {act : Bool} {t : T LV} {ρ : List LV} (R : t.For ρ) {e : EH} {h : Heap} (H : HFor e h) {k : EC} {K : St → Prop} (hK : SK K k) (hk : eside P call o act t e k = true) :
  vside P noLoc CH o act ⟨ρ, [], h⟩ K := by
 cases act with
 | true =>
  simp only [eside] at hk
  simp only [vside]
  refine eop_ok C R H (fun v e' h' H' hv => ?_) hk
  obtain ⟨t', h1, h2⟩ := eput_ok R hv [] h'
  cases hd : o.dst with
  | none => rw [hd] at h1; exact hK _ _ _ _ h1 H' h2
  | some d => rw [hd] at h1; exact hK _ _ _ _ h1 H' h2
 | false =>
  simp only [eside] at hk
  simp only [vside]
  obtain ⟨t', h1, h2⟩ := eput_ok R hk [] h
  exact hK _ _ _ _ h1 H h2
theorem eguarded_ok {CH : CallH} (C : CallOKH CH call) {ops : Array Oper} {o : Oper} {t : T LV} {ρ : List LV} (R : t.For ρ) {e : EH} {h : Heap} (H : HFor e h) {k : EC} {K : St → Prop} (hK : SK K k) (hk : eguarded P call ops o t e k = true) :
  vguarded P noLoc CH ops o ⟨ρ, [], h⟩ K := by
 unfold eguarded at hk
 unfold vguarded
 split at hk
 ·rename_i hg
  simp only [hg]
  exact eside_ok C R H hK (act := true) hk
 ·rename_i j want hg
  simp only [hg]
  rw [eGuardOff_eq R] at hk
  split at hk
  ·rename_i ho
   simp only [ho]
   obtain ⟨t', h1, h2⟩ := eput_ok R hk [] h
   exact hK _ _ _ _ h1 H h2
  ·rename_i ho
   simp only [ho]
   rw [eGuardVal_eq R] at hk
   split at hk
   ·simp at hk
   ·rename_i hv
    simp only [hv, vif]
    rw [setG_same hv]
    exact eside_ok C R H hK hk
   ·rename_i hv
    simp only [hv, vif]
    rw [setG_same hv]
    exact eside_ok C R H hK hk
theorem eops_ok {CH : CallH} (C : CallOKH CH call) {ops : Array Oper} : ∀ {is : List Nat} {t : T LV} {ρ : List LV} (R : t.For ρ) {e : EH} {h : Heap} (H : HFor e h) {k : EC} {K : St → Prop} (hK : SK K k) (hk : eops P call ops is t e k = true),
  vops P noLoc CH ops is ⟨ρ, [], h⟩ K
 | [], t, ρ, R, e, h, H, k, K, hK, hk => hK _ _ _ _ R H hk
 | i :: is, t, ρ, R, e, h, H, k, K, hK, hk => by
  unfold eops at hk
  unfold vops
  split at hk
  ·simp at hk
  ·rename_i o ho
   simp only [ho]
   exact eguarded_ok C R H (fun t' ρ' e' h' R' H' hk' => eops_ok C R' H' hK hk') hk
theorem eall_ok {f : Nat → Bool} {F : Nat → Prop} (hF : ∀ j, f j = true → F j) : ∀ {l : List Nat}, eall l f = true → vall l F
 | [], h => trivial
 | [j], h => hF _ h
 | j :: j' :: js, h => by
  simp only [eall, Bool.and_eq_true] at h
  exact ⟨hF _ h.1, eall_ok hF h.2⟩
theorem erechk1_ok {CH : CallH} (C : CallOKH CH call) {ops : Array Oper} {i : Nat} {t : T LV} {ρ : List LV} (R : t.For ρ) {e : EH} {h : Heap} (H : HFor e h) (hk : erechk1 P call ops i t e = true) : rechk1 P noLoc CH ops i ⟨ρ, [], h⟩ := by
 unfold erechk1 at hk
 unfold rechk1
 split at hk
 ·rename_i o ho
  simp only [ho]
  have hKK : ∀ (lv : LV) (e' : EH), eSameK o t lv e' = true → (match o.dst with | some d => lv = ρ.getD d .top | none => True) := by
   intro lv e' hl
   unfold eSameK at hl
   cases hd : o.dst with
   | none => trivial
   | some d =>
    rw [hd] at hl
    simp only [R d] at hl
    simp only [List.getD]
    rcases hr : ρ[d]? with _ | v
    ·rw [hr] at hl; simp at hl
    ·rw [hr] at hl; simp only [Option.getD_some]; exact lvEq_ok hl
  unfold vg actsAt
  split at hk
  ·rename_i hg
   simp only [hg, vif]
   exact eop_ok C R H (fun v e' h' H' hv => hKK _ _ hv) hk
  ·rename_i j want hg
   simp only [hg]
   rw [eGuardOff_eq R] at hk
   split at hk
   ·rename_i hgo; simp only [hgo, vif]; exact hKK _ _ hk
   ·rename_i hgo
    rw [eGuardVal_eq R] at hk
    split at hk
    ·simp at hk
    ·rename_i b hv
     simp only [hgo, hv, Option.map_some]
     split at hk
     ·rename_i hb; simp only [hb, vif]; exact eop_ok C R H (fun v e' h' H' hv => hKK _ _ hv) hk
     ·rename_i hb; simp only [hb, vif]; exact hKK _ _ hk
 ·simp at hk
theorem erechks_ok {CH : CallH} (C : CallOKH CH call) {ops : Array Oper} {t : T LV} {ρ : List LV} (R : t.For ρ) {e : EH} {h : Heap} (H : HFor e h) {a : Bool} {A : Prop} (hA : a = true → A) : ∀ {l : List Nat}, erechks P call ops t e a l = true → rechks P noLoc CH ops ⟨ρ, [], h⟩ A l
 | [], hk => hA hk
 | i :: is, hk => by
  simp only [erechks, Bool.and_eq_true] at hk
  exact ⟨erechk1_ok C R H hk.1, erechks_ok C R H hA hk.2⟩
theorem eany_ok {CH : CallH} (C : CallOKH CH call) {ops : Array Oper} {rows : List Nat} {m : Nat} : ∀ {n : Nat} {listed : List Nat} {t : T LV} {ρ : List LV} (R : t.For ρ) {e : EH} {h : Heap} (H : HFor e h) {k : EC} {K : St → Prop} (hK : SK K k)
  (hk : eany P call ops rows m n listed t e k = true), vany P noLoc CH ops rows m n listed ⟨ρ, [], h⟩ K
 | 0, listed, t, ρ, R, e, h, H, k, K, hK, hk => by simp [eany] at hk
 | n + 1, listed, t, ρ, R, e, h, H, k, K, hK, hk => by
  unfold eany at hk
  unfold vany
  split at hk
  ·rename_i i hi
   simp only [hi]
   split at hk
   ·rename_i o ho
    simp only [ho]
    exact eguarded_ok C R H (fun t' ρ' e' h' R' H' hk' => eany_ok C R' H' hK hk') hk
   ·simp at hk
  ·rename_i hi
   simp only [hi]
   split at hk
   ·rename_i hr
    simp only [hr]
    rw [Bool.and_eq_true] at hk
    exact need_mk hk.1 (hK _ _ _ _ R H hk.2)
   ·rename_i j js hr
    simp only [hr]
    refine eall_ok (fun j hj => ?_) hk
    split at hj
    ·rename_i o ho
     simp only [ho]
     exact eguarded_ok C R H (fun t' ρ' e' h' R' H' hk' => erechks_ok C R' H' (fun hk2 => eany_ok C R' H' hK hk2) hk') hj
    ·simp at hj
theorem edraw_ok {CH : CallH} (C : CallOKH CH call) {ops : Array Oper} {id : Nat} {t : T LV} {ρ : List LV} (R : t.For ρ) {e : EH} {h : Heap} (H : HFor e h) {k : EC} {K : St → Prop} (hK : SK K k) (hk : edraw P call ops t e k = true) :
  vdraw P noLoc CH id ops ⟨ρ, [], h⟩ K := by
 unfold edraw at hk
 rw [Bool.and_eq_true] at hk
 unfold vdraw
 rw [bfRows_pair]
 exact need_mk hk.1 (eany_ok C R H hK hk.2)
theorem eSlots_ok {t : T LV} {ρ : List LV} (R : t.For ρ) : ∀ {ss : List Nat} {k : List AV → Bool}, eSlots t ss k = true → ∃ vs, slotVals ρ ss = some vs ∧ k vs = true
 | [], k, h => ⟨[], rfl, h⟩
 | s :: ss, k, h => by
  unfold eSlots at h
  rw [R s] at h
  split at h
  ·rename_i v hv
   obtain ⟨vs, h1, h2⟩ := eSlots_ok R h
   exact ⟨v :: vs, by simp only [slotVals, hv, h1], h2⟩
  ·simp at h
theorem eTop_ok : ∀ {ts : List Nat} {t : T LV} {ρ : List LV} (R : t.For ρ) {k : T LV → Bool}, eTop t ts k = true → ∃ t', t'.For (setTop ρ ts) ∧ k t' = true
 | [], t, ρ, R, k, h => ⟨t, R, h⟩
 | s :: ss, t, ρ, R, k, h => by
  unfold eTop at h
  obtain ⟨t', h1, h2⟩ := R.put h
  exact eTop_ok h2 h1
theorem ePutSlots_ok : ∀ {ss : List Nat} {vs : List AV} {t : T LV} {ρ : List LV} (R : t.For ρ) {k : T LV → Bool}, ePutSlots t ss vs k = true → vs.length = ss.length ∧ ∃ t', t'.For (setSlots ρ ss vs) ∧ k t' = true
 | [], [], t, ρ, R, k, h => ⟨rfl, t, R, h⟩
 | [], v :: vs, t, ρ, R, k, h => by simp [ePutSlots] at h
 | s :: ss, [], t, ρ, R, k, h => by simp [ePutSlots] at h
 | s :: ss, v :: vs, t, ρ, R, k, h => by
  unfold ePutSlots at h
  obtain ⟨t', h1, h2⟩ := R.put h
  obtain ⟨h3, h4⟩ := ePutSlots_ok h2 h1
  exact ⟨by simp [h3], h4⟩
theorem allL_mk : ∀ {zs : List AV} {F : List AV → Prop}, (∀ xs, F xs) → allL zs F
 | [], F, h => h _
 | z :: zs, F, h => by
  cases z <;> simp only [allL]
  case int k n => exact fun n => allL_mk fun xs => h _
  case bool b => exact fun b => allL_mk fun xs => h _
  case str s => exact fun s => allL_mk fun xs => h _
  case ptr p => exact fun p => allL_mk fun xs => h _
  case sl s => exact fun s => allL_mk fun xs => h _
  case map m => exact fun m => allL_mk fun xs => h _
  all_goals exact fun v _ => allL_mk fun xs => h _
theorem least {p : Nat → Prop} : (∃ n, p n) → ∃ n, p n ∧ ∀ m, p m → n ≤ m := by
 intro ⟨n, hn⟩
 induction n using Nat.strongRecOn with
 | ind n ih =>
  by_cases h : ∃ m, m < n ∧ p m
  ·obtain ⟨m, h1, h2⟩ := h
   exact ih m h1 h2
  ·exact ⟨n, hn, fun m hm => by
    rcases Nat.lt_or_ge m n with h1 | h1
    ·exact (h ⟨m, h1, hm⟩).elim
    ·exact h1⟩
def ehints (slots : Nat → List Nat) : Hints := ⟨noLoc, fun c => ⟨slots c, []⟩, fun _ => [], fun _ => none⟩
abbrev QK (Q : Exit → St → Prop) (k : Exit → T LV → EH → Bool) : Prop := ∀ x t ρ e h, T.For t ρ → HFor e h → k x t e = true → Q x ⟨ρ, [], h⟩
theorem ecode_ok {CH : CallH} (C : CallOKH CH call) (slots : Nat → List Nat) : ∀ (c : Code) (cur : Nat) {t : T LV} {ρ : List LV} (R : t.For ρ) {e : EH} {h : Heap} (H : HFor e h) {k : Exit → T LV → EH → Bool} {Q : Exit → St → Prop} (hQ : QK Q k)
  (hk : ecode P slots call c cur t e k = true), vcode P (ehints slots) CH (vdraw P noLoc CH) c cur ⟨ρ, [], h⟩ Q := by
 intro c
 induction c with
 | skip => intro cur t ρ R e h H k Q hQ hk; exact hQ _ _ _ _ _ R H hk
 | region id ops d =>
  intro cur t ρ R e h H k Q hQ hk
  cases d with
  | false =>
   simp only [ecode] at hk
   simp only [vcode]
   exact eops_ok C R H (fun t ρ e h R H hk => hQ _ _ _ _ _ R H hk) hk
  | true =>
   simp only [ecode] at hk
   simp only [vcode]
   exact edraw_ok C R H (fun t ρ e h R H hk => hQ _ _ _ _ _ R H hk) hk
 | seq a b iha ihb =>
  intro cur t ρ R e h H k Q hQ hk
  simp only [ecode] at hk
  simp only [vcode]
  refine iha cur R H (fun x t' ρ' e' h' R' H' hk' => ?_) hk
  cases x with
  | normal => exact ihb cur R' H' hQ hk'
  | _ => exact hQ _ _ _ _ _ R' H' hk'
 | cond c a b iha ihb =>
  intro cur t ρ R e h H k Q hQ hk
  simp only [ecode, eev_eq R] at hk
  simp only [vcode]
  split at hk
  ·rename_i hc
   simp only [hc, vif]
   rw [setC_same (st := ⟨ρ, [], h⟩) hc]
   exact iha cur R H hQ hk
  ·rename_i hc
   simp only [hc, vif]
   rw [setC_same (st := ⟨ρ, [], h⟩) hc]
   exact ihb cur R H hQ hk
  ·simp at hk
 | block id body ih =>
  intro cur t ρ R e h H k Q hQ hk
  simp only [ecode] at hk
  simp only [vcode, ehints]
  refine ih id R H (fun x t' ρ' e' h' R' H' hk' => ?_) hk
  cases x with
  | exit i =>
   cases hi : i == id with
   | true => simp only [hi] at hk' ⊢; exact hQ _ _ _ _ _ R' H' hk'
   | false => simp only [hi] at hk' ⊢; exact hQ _ _ _ _ _ R' H' hk'
  | _ => exact hQ _ _ _ _ _ R' H' hk'
 | loop body ih =>
  intro cur t ρ R e h H k Q hQ hk
  simp only [ecode] at hk
  obtain ⟨xs0, h1, hk⟩ := eSlots_ok R hk
  rw [Bool.and_eq_true] at hk
  obtain ⟨h2, hk⟩ := hk
  obtain ⟨t0, R0, hk⟩ := eTop_ok R hk
  have hcar : ∀ {ρ' : List LV} {h' : Heap} {xs : List AV}, slotVals ρ' (slots cur) = some xs → carry ((ehints slots).loops cur) ⟨ρ', [], h'⟩ = some xs := by
   intro ρ' h' xs hx
   simp only [carry, ehints, hx, locVals, List.append_nil]
  simp only [vcode, hcar h1]
  refine need_mk h2 ?_
  let p : List AV → Heap → Nat → Prop := fun xs hh n => ∃ eh, HFor eh hh ∧ eloop (fun ρ h k => ecode P slots call body cur ρ h k) (slots cur) t0 xs0 k n xs eh = true
  have hm : ∀ xs hh, (∃ n, p xs hh n) → ∃ n, p xs hh n ∧ ∀ m, p xs hh m → n ≤ m := fun xs hh => least
  refine ⟨fun xs hh => ∃ n, p xs hh n, fun xs hh => open Classical in if hx : ∃ n, p xs hh n then Classical.choose (hm xs hh hx) else 0, ⟨_, e, H, hk⟩, allL_mk fun xs hh hI => ?_⟩
  have hmv := Classical.choose_spec (hm xs hh hI)
  simp only [dif_pos hI]
  generalize Classical.choose (hm xs hh hI) = n at hmv
  obtain ⟨⟨eh, He, hrun⟩, hmin⟩ := hmv
  cases n with
  | zero => simp [eloop] at hrun
  | succ n =>
   simp only [eloop] at hrun
   obtain ⟨hlen, t1, R1, hrun⟩ := ePutSlots_ok R0 hrun
   have hhead : headSt ((ehints slots).loops cur) (writes body) ⟨ρ, [], h⟩ xs hh = ⟨setSlots (setTop ρ (writes body)) (slots cur) xs, [], hh⟩ := by
    simp only [headSt, ehints, setLocs, ← hlen, List.take_length]
   rw [hhead]
   refine ih cur R1 He (fun x t' ρ' e' h' R' H' hk' => ?_) hrun
   cases x with
   | normal =>
    simp only at hk'
    obtain ⟨xs', g1, g2⟩ := eSlots_ok R' hk'
    rw [Bool.and_eq_true] at g2
    simp only [hcar g1]
    refine need_mk g2.1 ⟨trivial, ⟨n, e', H', g2.2⟩, ?_⟩
    have hex : ∃ n, p xs' h' n := ⟨n, e', H', g2.2⟩
    rw [dif_pos hex]
    have := (Classical.choose_spec (hm xs' h' hex)).2 n ⟨e', H', g2.2⟩
    omega
   | _ => exact hQ _ _ _ _ _ R' H' hk'
 | exit id => intro cur t ρ R e h H k Q hQ hk; exact hQ _ _ _ _ _ R H hk
 | ret => intro cur t ρ R e h H k Q hQ hk; exact hQ _ _ _ _ _ R H hk
 | scope body ih =>
  intro cur t ρ R e h H k Q hQ hk
  simp only [ecode] at hk
  simp only [vcode]
  refine ih cur R H (fun x t' ρ' e' h' R' H' hk' => ?_) hk
  cases x with
  | goto l => simp at hk'
  | _ => exact hQ _ _ _ _ _ R' H' hk'
 | label l => intro cur t ρ R e h H k Q hQ hk; exact hQ _ _ _ _ _ R H hk
 | _ => intro cur t ρ R e h H k Q hQ hk; simp [ecode] at hk
theorem eresults_ok {t : T LV} {ρ : List LV} (R : t.For ρ) {e : EH} {h : Heap} (H : HFor e h) : ∀ {rs : List ResultVar} {k : List AV → Bool} {K : List AV → Prop}, (∀ l, k l = true → K l) → eresults P t e rs k = true → vresults P ⟨ρ, [], h⟩ rs K
 | [], k, K, hK, hk => hK _ hk
 | .tmp s :: rs, k, K, hK, hk => by
  unfold eresults at hk
  rw [R s] at hk
  unfold vresults vresult
  split at hk
  ·rename_i v hv
   simp only [hv]
   exact eresults_ok R H (fun l hl => hK _ hl) hk
  ·simp at hk
 | .cell a ty :: rs, k, K, hK, hk => by
  unfold eresults at hk
  rw [R a] at hk
  unfold vresults vresult
  split at hk
  ·rename_i z p hz hv
   rw [Bool.and_eq_true] at hk
   have : ρ.getD a .top = .val (.ptr (some p)) := by simp only [List.getD, hv, Option.getD_some]
   simp only [vLoad, hz, hk.1, this, vPtr]
   exact eLoad_ok H hk.2 fun v hv => eresults_ok R H (fun l hl => hK _ hl) hv
  ·simp at hk
theorem topT_ok : ∀ (f n : Nat), n < 2 ^ f → (topT f n).For (List.replicate n .top)
 | 0, n, h => by
  have : n = 0 := by simp at h; exact h
  subst this
  intro i; simp [topT, T.get]
 | f + 1, 0, h => by intro i; simp [topT, T.get]
 | f + 1, n + 1, h => by
  intro i
  simp only [topT]
  cases i with
  | zero => simp [T.get, List.replicate_succ]
  | succ i =>
   have h1 := topT_ok f ((n + 1) / 2) (by rw [Nat.pow_succ] at h; omega)
   have h2 := topT_ok f (n / 2) (by rw [Nat.pow_succ] at h; omega)
   simp only [T.get]
   rw [List.getElem?_replicate]
   cases hb : Nat.beq (i % 2) 0 with
   | true =>
    have := T.beq_true hb
    simp only
    rw [h1, List.getElem?_replicate]
    by_cases hi : i / 2 < (n + 1) / 2
    ·rw [if_pos hi, if_pos (by omega)]
    ·rw [if_neg hi, if_neg (by omega)]
   | false =>
    have := T.beq_false hb
    simp only
    rw [h2, List.getElem?_replicate]
    by_cases hi : i / 2 < n / 2
    ·rw [if_pos hi, if_pos (by omega)]
    ·rw [if_neg hi, if_neg (by omega)]
theorem eArgs_ok : ∀ {as : List AV} {t : T LV} {pre rest : List LV} (R : t.For (pre ++ rest)) {k : T LV → Bool}, eArgs t pre.length as k = true →
  as.length ≤ rest.length ∧ ∃ t', t'.For (pre ++ as.map .val ++ rest.drop as.length) ∧ k t' = true
 | [], t, pre, rest, R, k, h => ⟨by simp, t, by simpa using R, h⟩
 | a :: as, t, pre, rest, R, k, h => by
  unfold eArgs at h
  obtain ⟨t', ⟨h1, h2, h3⟩⟩ := T.put_ok h
  rw [fN_eq] at h1
  rw [R] at h2
  have hr : rest ≠ [] := by
   intro hr
   subst hr
   simp at h2
  obtain ⟨r, rest', rfl⟩ := List.exists_cons_of_ne_nil hr
  have R' : t'.For ((pre ++ [.val a]) ++ rest') := by
   intro j
   rw [h3, R]
   by_cases hj : j = pre.length
   ·subst hj; simp
   ·rw [if_neg hj]
    rw [List.getElem?_append, List.getElem?_append]
    by_cases hj2 : j < pre.length
    ·rw [if_pos hj2, if_pos (by simp; omega), List.getElem?_append_left hj2]
    ·rw [if_neg hj2, if_neg (by simp; omega)]
     obtain ⟨m, hm⟩ : ∃ m, j - pre.length = m + 1 := ⟨j - pre.length - 1, by omega⟩
     rw [hm, show j - (pre ++ [LV.val a]).length = m by simp; omega]
     simp
  have hl : (pre ++ [LV.val a]).length = pre.length.succ := by simp
  rw [← hl] at h1
  obtain ⟨g1, t2, g2, g3⟩ := eArgs_ok R' h1
  exact ⟨by simp; omega, t2, by simpa using g2, g3⟩
theorem efun_ok (C : CallOK P call) (slots : Nat → List Nat) : CallOK P (efun P slots call) := by
 intro f args e h k Q H hQ hk
 unfold efun at hk
 split at hk
 ·simp at hk
 ·rename_i fn hf
  split at hk
  ·simp at hk
  ·rename_i c hb
   rw [Bool.and_eq_true, Bool.and_eq_true] at hk
   obtain ⟨⟨hn, hsz⟩, hk⟩ := hk
   have hsz' : fn.ntmps < 65536 := by simpa [Nat.blt_eq] using hsz
   have R0 := topT_ok 17 fn.ntmps (by omega)
   obtain ⟨hle, t', R1, hk⟩ := eArgs_ok (pre := []) (by simpa using R0) hk
   refine AC_of_VC (H := ehints slots) hn ?_
   unfold VC vfun
   simp only [hf, hb]
   have e1 : args.map LV.val ++ List.replicate (fn.ntmps - args.length) LV.top = [] ++ args.map LV.val ++ (List.replicate fn.ntmps LV.top).drop args.length := by simp
   rw [e1]
   refine ecode_ok C slots c _ R1 H (fun x t2 ρ2 e2 h2 R2 H2 hk2 => ?_) hk
   have fin : eresults P t2 e2 fn.results.toList (fun l => match l with | [v] => k v e2 | l => k (.tup l) e2) = true → vret P fn ⟨ρ2, [], h2⟩ Q := by
    intro hr
    refine eresults_ok R2 H2 (fun l hl => ?_) hr
    split at hl
    ·exact hQ _ _ _ H2 hl
    ·rename_i l hne
     split
     ·rename_i v; exact (hne v rfl).elim
     ·exact hQ _ _ _ H2 hl
   cases x with
   | normal => exact fin hk2
   | ret => exact fin hk2
   | _ => simp at hk2
def OvrOK (P : Program) (ov : Ovr) : Prop := ∀ f g, ov f = some g → ∀ (args : List AV) (e : EH) (h : Heap) (k : AV → EH → Bool) (Q : AV → Heap → Prop), HFor e h →
 (∀ v e' h', HFor e' h' → k v e' = true → Q v h') → g args e k = true → AC P f args h Q
theorem erun_ok {slots : FuncId → Nat → List Nat} {ov : Ovr} (O : OvrOK P ov) : ∀ n, CallOK P (erun P slots ov n)
 | 0 => by intro f args e h k Q H hQ hk; simp [erun] at hk
 | n + 1 => by
  intro f args e h k Q H hQ hk
  unfold erun at hk
  split at hk
  ·rename_i g hg; exact O f g hg args e h k Q H hQ hk
  ·exact efun_ok (erun_ok O n) (slots f) f args e h k Q H hQ hk
theorem HFor_nil : HFor ⟨.e, 0⟩ [] := ⟨fun i => by simp [T.get], rfl⟩
end
end Go.Ab
namespace Go.Ab
def keyStrs : List (AV × AV × Nat) → Option (List (List UInt8))
 | [] => some []
 | (.str s, _, _) :: es => (match keyStrs es with | some l => some (s :: l) | none => none)
 | _ => none
def insStr (s : List UInt8) : List (List UInt8) → (List (List UInt8) → Bool) → Bool
 | [], k => k [s]
 | t :: l, k => match bytesLess t s with
  | true => insStr s l fun r => k (t :: r)
  | false => k (s :: t :: l)
def sortStr : List (List UInt8) → (List (List UInt8) → Bool) → Bool
 | [], k => k []
 | s :: l, k => sortStr l fun r => insStr s r k
def strAVs : List (List UInt8) → (List AV → Bool) → Bool
 | [], k => k []
 | s :: l, k => strAVs l fun r => k (.str s :: r)
def eKeys (g : FuncId) (args : List AV) (h : EH) (k : AV → EH → Bool) : Bool :=
 match args with
 | [.map m] => eNewB (.bx (.map m)) h fun b h' => k (.func (.func g) [] [.ptr (some ⟨b, 0⟩)]) h'
 | _ => false
def leS (a b : List UInt8) : Bool := decide (a ≤ b)
def pwB : List (List UInt8) → Bool
 | [] => true
 | x :: l => l.all (leS x) && pwB l
def eSorted (gs : List FuncId) (args : List AV) (h : EH) (k : AV → EH → Bool) : Bool :=
 match args with
 | [.func (.func f) [] [.ptr (some p)]] => (gs.contains f && Nat.beq p.o 0) && (match h.t.get p.b with
  | some (.bx (.map (some m))) => (match h.t.get m with
   | some (.mp es cl) => (match keyStrs es with
    | some ss => sortStr ss fun ss' => (ss'.isPerm ss && pwB ss' && decide ss.Nodup && decide (es.map (·.2.2)).Nodup && (es.all fun e => Nat.blt e.2.2 cl) && Nat.ble ss.length 1000000 && ss.all fun s => Nat.ble s.length 1000000) && (match ss' with
     | [] => k (.sl none) h
     | s :: l => strAVs (s :: l) fun c => eNew c true h fun b h' => fN (s :: l).length fun n => k (.sl (some ⟨b, 0, n, n, 1⟩)) h')
    | none => false)
   | _ => false)
  | _ => false)
 | _ => false
def ovKS (keys : List (FuncId × FuncId)) (sorted : FuncId) : Ovr := fun f =>
 match f == sorted with
 | true => some (eSorted (keys.map (·.2)))
 | false => match keys.find? (fun x => x.1 == f) with | some (_, g) => some (eKeys g) | none => none
end Go.Ab
namespace Go.Ab
set_option linter.unusedSimpArgs false
set_option linter.unusedVariables false
section
variable {α : Type}
noncomputable def T.wget (t : T α) : Nat → Option α :=
 T.rec (motive := fun _ => Nat → Option α) (fun _ => none) (fun v _ _ gl gr i => Nat.rec (motive := fun _ => Option α) (some v) (fun i _ => Bool.rec (motive := fun _ => Option α) (gr (i / 2)) (gl (i / 2)) (Nat.beq (i % 2) 0)) i) t
theorem T.wget_eq (t : T α) : ∀ i, t.wget i = t.get i := by
 induction t with
 | e => intro i; try rfl
 | n v l r hl hr =>
  intro i
  cases i with
  | zero => rfl
  | succ i =>
   show Bool.rec (motive := fun _ => Option α) (r.wget (i / 2)) (l.wget (i / 2)) (Nat.beq (i % 2) 0) = _
   rw [hl, hr, T.get]
   cases Nat.beq (i % 2) 0 <;> rfl
noncomputable def T.wput (t : T α) : Nat → α → (T α → Bool) → Bool :=
 T.rec (motive := fun _ => Nat → α → (T α → Bool) → Bool) (fun _ _ _ => false) (fun v l r pl pr i x k => Nat.rec (motive := fun _ => Bool) (k (.n x l r)) (fun i _ => Bool.rec (motive := fun _ => Bool) (pr (i / 2) x fun r' => k (.n v l r')) (pl (i / 2) x fun l' => k (.n v l' r)) (Nat.beq (i % 2) 0)) i) t
theorem T.wput_eq (t : T α) : ∀ i x k, t.wput i x k = t.put i x k := by
 induction t with
 | e => intro i x k; try rfl
 | n v l r hl hr =>
  intro i x k
  cases i with
  | zero => rfl
  | succ i =>
   show Bool.rec (motive := fun _ => Bool) (r.wput (i / 2) x _) (l.wput (i / 2) x _) (Nat.beq (i % 2) 0) = _
   rw [hl, hr, T.put]
   cases Nat.beq (i % 2) 0 <;> rfl
noncomputable def T.wadd (t : T α) : Nat → α → (T α → Bool) → Bool :=
 T.rec (motive := fun _ => Nat → α → (T α → Bool) → Bool) (fun i x k => Nat.rec (motive := fun _ => Bool) (k (.n x .e .e)) (fun _ _ => false) i) (fun v l r pl pr i x k => Nat.rec (motive := fun _ => Bool) false (fun i _ => Bool.rec (motive := fun _ => Bool) (pr (i / 2) x fun r' => k (.n v l r')) (pl (i / 2) x fun l' => k (.n v l' r)) (Nat.beq (i % 2) 0)) i) t
theorem T.wadd_eq (t : T α) : ∀ i x k, t.wadd i x k = t.add i x k := by
 induction t with
 | e => intro i x k; cases i <;> rfl
 | n v l r hl hr =>
  intro i x k
  cases i with
  | zero => rfl
  | succ i =>
   show Bool.rec (motive := fun _ => Bool) (r.wadd (i / 2) x _) (l.wadd (i / 2) x _) (Nat.beq (i % 2) 0) = _
   rw [hl, hr, T.add]
   cases Nat.beq (i % 2) 0 <;> rfl
noncomputable def wat1 (c : List α) : Nat → (α → Bool) → Bool :=
 List.rec (motive := fun _ => Nat → (α → Bool) → Bool) (fun _ _ => false) (fun x _ ih o k => Nat.rec (motive := fun _ => Bool) (k x) (fun o _ => ih o k) o) c
theorem wat1_eq (c : List α) : ∀ o k, wat1 c o k = at1 c o k := by
 induction c with
 | nil => intro o k; try rfl
 | cons x c ih => intro o k; cases o with
  | zero => rfl
  | succ o => exact ih o k
noncomputable def wtk (c : List α) : Nat → Nat → (List α → Bool) → Bool :=
 List.rec (motive := fun _ => Nat → Nat → (List α → Bool) → Bool)
  (fun o n k => Nat.rec (motive := fun _ => Bool) (Nat.rec (motive := fun _ => Bool) (k []) (fun _ _ => false) n) (fun _ _ => false) o)
  (fun x _ ih o n k => Nat.rec (motive := fun _ => Bool) (Nat.rec (motive := fun _ => Bool) (k []) (fun n _ => ih 0 n fun l => k (x :: l)) n) (fun o _ => ih o n k) o) c
theorem wtk_eq (c : List α) : ∀ o n k, wtk c o n k = tk c o n k := by
 induction c with
 | nil => intro o n k; cases o <;> cases n <;> rfl
 | cons x c ih => intro o n k; cases o with
  | zero => cases n with
   | zero => rfl
   | succ n => exact ih 0 n _
  | succ o => exact ih o n k
noncomputable def wspl (c : List α) : Nat → List α → (List α → Bool) → Bool :=
 List.rec (motive := fun _ => Nat → List α → (List α → Bool) → Bool)
  (fun o xs k => Nat.rec (motive := fun _ => Bool) (List.rec (motive := fun _ => Bool) (k []) (fun _ _ _ => false) xs) (fun _ _ => false) o)
  (fun x c ih o xs k => Nat.rec (motive := fun _ => Bool) (List.rec (motive := fun _ => Bool) (k (x :: c)) (fun y ys _ => ih 0 ys fun l => k (y :: l)) xs) (fun o _ => ih o xs fun l => k (x :: l)) o) c
theorem wspl_eq (c : List α) : ∀ o xs k, wspl c o xs k = spl c o xs k := by
 induction c with
 | nil => intro o xs k; cases o <;> cases xs <;> rfl
 | cons x c ih => intro o xs k; cases o with
  | zero => cases xs with
   | nil => rfl
   | cons y ys => exact ih 0 ys _
  | succ o => exact ih o xs _
noncomputable def wap (c : List α) : List α → (List α → Bool) → Bool :=
 List.rec (motive := fun _ => List α → (List α → Bool) → Bool) (fun l k => k l) (fun x _ ih l k => ih l fun r => k (x :: r)) c
theorem wap_eq (c : List α) : ∀ l k, wap c l k = ap c l k := by
 induction c with
 | nil => intro l k; try rfl
 | cons x c ih => intro l k; exact ih l _
noncomputable def wfL (c : List α) : (List α → Bool) → Bool :=
 List.rec (motive := fun _ => (List α → Bool) → Bool) (fun k => k []) (fun x _ ih k => ih fun r => k (x :: r)) c
theorem wfL_eq (c : List α) : ∀ k, wfL c k = fL c k := by
 induction c with
 | nil => intro k; try rfl
 | cons x c ih => intro k; exact ih _
end
noncomputable def wsames (a : List AV) : List AV → Bool :=
 List.rec (motive := fun _ => List AV → Bool) (fun b => List.rec (motive := fun _ => Bool) true (fun _ _ _ => false) b) (fun x _ ih b => List.rec (motive := fun _ => Bool) false (fun y bs _ => sameShape x y && ih bs) b) a
theorem wsames_eq (a : List AV) : ∀ b, wsames a b = sameShapes a b := by
 induction a with
 | nil => intro b; cases b <;> rfl
 | cons x a ih => intro b; cases b with
  | nil => rfl
  | cons y b =>
   show (sameShape x y && wsames a b) = _
   rw [ih]; try rfl
noncomputable def wev (ρ : T LV) (x : Operand) : LV :=
 match x with
 | .tmp t => (match ρ.wget t with | some v => v | none => .top)
 | .const v => (match ofV 4 v with | some x => .val x | none => .top)
 | .global _ => .top
 | .func f => .val (.func (.func f) [] [])
theorem wev_eq (ρ : T LV) (x : Operand) : wev ρ x = eev ρ x := by
 cases x <;> simp only [wev, eev, T.wget_eq] <;> rfl
def fV (x : LV) (k : LV → Bool) : Bool := match x with | .val v => k (.val v) | .loc a b => k (.loc a b) | .top => k .top
theorem fV_eq (x : LV) (k : LV → Bool) : fV x k = k x := by cases x <;> rfl
noncomputable def wvals (ρ : T LV) (os : List Operand) : (List AV → Bool) → Bool :=
 List.rec (motive := fun _ => (List AV → Bool) → Bool) (fun k => k []) (fun o _ ih k => match wev ρ o with | .val x => ih fun l => k (x :: l) | _ => false) os
theorem wvals_eq (ρ : T LV) (os : List Operand) : ∀ k, wvals ρ os k = fVals ρ os k := by
 induction os with
 | nil => intro k; try rfl
 | cons o os ih =>
  intro k
  show (match wev ρ o with | .val x => wvals ρ os fun l => k (x :: l) | _ => false) = _
  rw [wev_eq, fVals]
  cases eev ρ o <;> simp only [ih]
noncomputable def wNew (c : List AV) (rw : Bool) (h : EH) (k : Nat → EH → Bool) : Bool := h.t.wadd h.n (.cells c rw) fun t' => fN (Nat.succ h.n) fun n' => k h.n ⟨t', n'⟩
theorem wNew_eq (c : List AV) (rw : Bool) (h : EH) (k : Nat → EH → Bool) : wNew c rw h k = eNew c rw h k := by unfold wNew eNew; rw [T.wadd_eq]
noncomputable def wCells (h : EH) (b o n : Nat) (k : List AV → Bool) : Bool := match h.t.wget b with | some (.cells c _) => wtk c o n k | _ => false
theorem wCells_eq (h : EH) (b o n : Nat) (k : List AV → Bool) : wCells h b o n k = eCells h b o n k := by
 unfold wCells eCells
 rw [T.wget_eq]
 rcases h.t.get b with _ | B
 ·rfl
 ·cases B <;> simp only [wtk_eq]
noncomputable def wPart (z : AV) (c : List AV) (o : Nat) (k : AV → Bool) : Bool :=
 match z with
 | .agg zs => wtk c o zs.length fun l => k (.agg l)
 | .tup _ => false
 | _ => wat1 c o k
theorem wPart_eq (z : AV) (c : List AV) (o : Nat) (k : AV → Bool) : wPart z c o k = ePart z c o k := by
 cases z <;> simp only [wPart, ePart, wtk_eq, wat1_eq]
noncomputable def wLoadC (z : AV) (c : List AV) (o : Nat) (k : AV → Bool) : Bool :=
 match z with
 | .agg zs => wtk c o zs.length fun l => wsames zs l && k (.agg l)
 | .tup _ => false
 | z => wat1 c o fun v => sameShape z v && k v
noncomputable def wLoad (z : AV) (h : EH) (b o : Nat) (k : AV → Bool) : Bool := match h.t.wget b with | some (.cells c _) => wLoadC z c o k | _ => false
theorem wLoad_eq (z : AV) (h : EH) (b o : Nat) (k : AV → Bool) : wLoad z h b o k = eLoad z h b o k := by
 unfold wLoad eLoad
 rw [T.wget_eq]
 rcases h.t.get b with _ | B
 ·rfl
 ·cases B
  case cells c rw =>
   cases z <;> simp only [wLoadC, wtk_eq, wat1_eq, wsames_eq]
  all_goals try rfl
noncomputable def wStore (h : EH) (b o : Nat) (xs : List AV) (k : EH → Bool) : Bool :=
 match h.t.wget b with
 | some (.cells c true) => wspl c o xs fun c' => h.t.wput b (.cells c' true) fun t' => k ⟨t', h.n⟩
 | _ => false
theorem wStore_eq (h : EH) (b o : Nat) (xs : List AV) (k : EH → Bool) : wStore h b o xs k = eStore h b o xs k := by
 unfold wStore eStore
 simp only [T.wget_eq, wspl_eq, T.wput_eq]
 try rfl
noncomputable def wslCells (h : EH) (s : Option SL) (n : Nat) (k : List AV → Bool) : Bool :=
 match s with
 | some s => wCells h s.b s.o n k
 | none => match n with | 0 => k [] | _ + 1 => false
theorem wslCells_eq (h : EH) (s : Option SL) (n : Nat) (k : List AV → Bool) : wslCells h s n k = eslCells h s n k := by
 unfold wslCells eslCells
 cases s
 ·rfl
 ·simp only [wCells_eq]
noncomputable def wAppendN (sz bytes : Nat) (n : Nat) (xs : List AV) (h : EH) (k : Option SL → EH → Bool) : Bool :=
 match n with
 | 0 => k none h
 | n + 1 => (decide ((n + 1) * bytes ≤ 140737488355328) && decide (0 < sz)) && wNew xs true h fun b h' => eRow b 0 (n + 1) (n + 1) sz fun s' => k s' h'
noncomputable def wAppendI (sz : Nat) (s : SL) (n : Nat) (xs : List AV) (h : EH) (k : Option SL → EH → Bool) : Bool :=
 match h.t.wget s.b with
 | some (.cells c true) => wspl c (s.o + s.len * sz) xs fun c' => h.t.wput s.b (.cells c' true) fun t' => eRow s.b s.o (s.len + n) s.cap s.opn fun s' => k s' ⟨t', h.n⟩
 | _ => match n with | 0 => k (some s) h | _ + 1 => false
noncomputable def wAppendG (sz bytes : Nat) (s : SL) (n : Nat) (xs : List AV) (h : EH) (k : Option SL → EH → Bool) : Bool :=
 (decide ((s.len + n) * bytes ≤ 140737488355328) && decide (0 < sz)) &&
   match h.t.wget s.b with
   | some (.cells c rw) => wtk c s.o (s.len * sz) fun old =>
    (match s.opn with
    | 0 => wap old xs fun c' => wNew c' true h fun b h' => eRow b 0 (s.len + n) (s.len + n) sz fun s' => k s' h'
    | _ + 1 => (rw && s.opn == sz) && h.t.wput s.b .dead fun t' => wap old xs fun c' => wNew c' true ⟨t', h.n⟩ fun b h' => eRow b 0 (s.len + n) (s.len + n) sz fun s' => k s' h')
   | _ => false
noncomputable def wAppend (sz bytes : Nat) (s : Option SL) (n : Nat) (xs : List AV) (h : EH) (k : Option SL → EH → Bool) : Bool :=
 (xs.length == n * sz) &&
 match s with
 | none => wAppendN sz bytes n xs h k
 | some s => match Nat.ble (s.len + n) s.cap with
  | true => wAppendI sz s n xs h k
  | false => wAppendG sz bytes s n xs h k
theorem wAppend_eq (sz bytes : Nat) (s : Option SL) (n : Nat) (xs : List AV) (h : EH) (k : Option SL → EH → Bool) : wAppend sz bytes s n xs h k = eAppend sz bytes s n xs h k := by
 unfold wAppend eAppend
 congr 1
 cases s with
 | none => cases n <;> simp only [wAppendN, wNew_eq]
 | some s =>
  simp only
  cases Nat.ble (s.len + n) s.cap
  ·simp only [wAppendG, T.wget_eq, wtk_eq, T.wput_eq, wap_eq, wNew_eq]
   congr 1
  ·simp only [wAppendI, T.wget_eq, wspl_eq, T.wput_eq]
   rcases h.t.get s.b with _ | B
   ·rfl
   ·cases B with
    | cells c rw => cases rw <;> rfl
    | _ => rfl
noncomputable def wCopy (sz : Nat) (s : Option SL) (n : Nat) (xs : List AV) (h : EH) (k : EH → Bool) : Bool :=
 (xs.length == n * sz) &&
 match s with
 | none => (match n with | 0 => k h | _ + 1 => false)
 | some s => Nat.ble n s.len && wStore h s.b s.o xs k
theorem wCopy_eq (sz : Nat) (s : Option SL) (n : Nat) (xs : List AV) (h : EH) (k : EH → Bool) : wCopy sz s n xs h k = eCopy sz s n xs h k := by
 unfold wCopy eCopy
 cases s
 ·rfl
 ·simp only [wStore_eq]
noncomputable def wMake (zs : List AV) (bytes : Nat) (l c : Int) (h : EH) (k : Option SL → EH → Bool) : Bool :=
 (decide (0 ≤ l) && decide (l ≤ c) && decide (c * bytes ≤ 281474976710656) && decide (c ≤ maxI)) &&
  wfL (List.replicate c.toNat zs).flatten fun cs => wNew cs true h fun b h' => eRow b 0 l.toNat c.toNat 0 fun s => k s h'
theorem wMake_eq (zs : List AV) (bytes : Nat) (l c : Int) (h : EH) (k : Option SL → EH → Bool) : wMake zs bytes l c h k = eMake zs bytes l c h k := by
 unfold wMake eMake
 simp only [wfL_eq, wNew_eq]
noncomputable def wCallV (call : ECall) (f : AV) (args : List AV) (h : EH) (k : AV → EH → Bool) : Bool :=
 match f with
 | .func (.func g) first cap => !Nat.beq g 1000000000 && wap args cap fun a => wap first a fun a => call g a h k
 | .func (.yield l) first cap => call 1000000000 (.func (.yield l) first cap :: args) h k
 | _ => false
noncomputable def wInvoke (P : Program) (call : ECall) (r : AV) (name : String) (args : List AV) (h : EH) (k : AV → EH → Bool) : Bool :=
 match r with
 | .iface t v => (match methodOf P t name with
  | some g => !Nat.beq g 1000000000 && call g (v :: args) h k
  | none => match methodAt P t name, v with
   | some (g, e), .ptr (some p) => (match tz P e with
    | some z => (!Nat.beq g 1000000000 && okTy P e z) && wLoad z h p.b p.o fun v => call g (v :: args) h k
    | none => false)
   | _, _ => false)
 | _ => false
noncomputable def wCallF (P : Program) (call : ECall) (f : AV) (args : List AV) (h : EH) (k : AV → EH → Bool) : Bool :=
 match f with
 | .func (.method name) [r] _ => wInvoke P call r name args h k
 | f => wCallV call f args h k
theorem wCallV_eq (call : ECall) (f : AV) (args : List AV) (h : EH) (k : AV → EH → Bool) : wCallV call f args h k = eCallV call f args h k := by
 unfold wCallV eCallV
 simp only [wap_eq]
 try rfl
theorem wInvoke_eq (P : Program) (call : ECall) (r : AV) (name : String) (args : List AV) (h : EH) (k : AV → EH → Bool) : wInvoke P call r name args h k = eInvoke P call r name args h k := by
 unfold wInvoke eInvoke
 simp only [wLoad_eq]
 try rfl
theorem wCallF_eq (P : Program) (call : ECall) (f : AV) (args : List AV) (h : EH) (k : AV → EH → Bool) : wCallF P call f args h k = eCallF P call f args h k := by
 unfold wCallF eCallF
 simp only [wInvoke_eq, wCallV_eq]
 try rfl
noncomputable def wfillA (place : Nat → Option (Nat × Nat)) (parts : List (Nat × AV)) : List AV → (List AV → Bool) → Bool :=
 List.rec (motive := fun _ => List AV → (List AV → Bool) → Bool) (fun cells k => k cells) (fun p _ ih cells k => match place p.1 with
  | none => false
  | some (off, size) => (p.2.cells.length == size) && wspl cells off p.2.cells fun c => ih c k) parts
theorem wfillA_eq (place : Nat → Option (Nat × Nat)) (parts : List (Nat × AV)) : ∀ cells k, wfillA place parts cells k = efillA place cells parts k := by
 induction parts with
 | nil => intro cells k; try rfl
 | cons p ps ih =>
  intro cells k
  obtain ⟨i, v⟩ := p
  show (match place i with | none => false | some (off, size) => (v.cells.length == size) && wspl cells off v.cells fun c => wfillA place ps c k) = _
  rw [efillA]
  simp only [wspl_eq, ih]
  try rfl
noncomputable def wpartsA (ρ : T LV) (ps : Array (Nat × Operand)) (k : List (Nat × AV) → Bool) : Bool :=
 wvals ρ (ps.toList.map (·.2)) fun l => k ((ps.toList.map (·.1)).zip l)
theorem wpartsA_eq (ρ : T LV) (ps : Array (Nat × Operand)) (k : List (Nat × AV) → Bool) : wpartsA ρ ps k = epartsA ρ ps k := by
 unfold wpartsA epartsA
 rw [wvals_eq]
noncomputable def wevI (ρ : T LV) (x : Operand) : Option Int := match wev ρ x with | .val (.int _ n) => some n | _ => none
theorem wevI_eq (ρ : T LV) (x : Operand) : wevI ρ x = eevI ρ x := by unfold wevI eevI; rw [wev_eq]; try rfl
section
variable (P : Program) (call : ECall) (o : Oper) (ρ : T LV) (h : EH) (k : EK)
noncomputable def wAlloc (t : TypeId) : Bool := match zcells P t, o.dst with | some zs, some _ => oneAll zs && wNew zs true h fun b h' => k (.val (.ptr (some ⟨b, 0⟩))) h' | _, _ => false
noncomputable def wBox (x : Operand) : Bool := match wev ρ x, o.dst with | .val v, some _ => !isTup v && oneAll v.cells && wNew v.cells true h fun b h' => k (.val (.ptr (some ⟨b, 0⟩))) h' | _, _ => false
noncomputable def wLoadO (t : TypeId) (x : Operand) : Bool := match tz P t, wev ρ x with
    | some z, .val (.ptr (some p)) => okTy P t z && wLoad z h p.b p.o fun v => k (.val v) h
    | _, _ => false
noncomputable def wStoreO (t : TypeId) (a x : Operand) : Bool := match wev ρ x, wev ρ a with
    | .val v, .val (.ptr (some p)) => ((P.info? t).isSome && v.cells.length == tsz P t && oneAll v.cells) && wStore h p.b p.o v.cells fun h' => k .top h'
    | _, _ => false
noncomputable def wNilCheck (x : Operand) : Bool := match wev ρ x with
    | .val (.ptr (some p)) => k (.val (.ptr (some p))) h
    | .val (.func (.func f) a c) => k (.val (.func (.func f) a c)) h
    | .val (.iface t v) => k (.val (.iface t v)) h
    | _ => false
noncomputable def wBinO (op : BinOp) (t : TypeId) (x y : Operand) : Bool := match wev ρ x, wev ρ y with
    | .val a, .val b => eBin P op t h a b fun v => k (.val v) h
    | _, _ => false
noncomputable def wUnO (op : UnOp) (x : Operand) : Bool := match wev ρ x with | .val a => eUn op a fun v => k (.val v) h | _ => false
noncomputable def wConvert (src dst : TypeId) (x : Operand) : Bool := match P.underlying src, P.underlying dst, wev ρ x with
    | some _, some (.int q), .val (.int _ n) => eint q n fun v => k (.val v) h
    | some .string, some .string, .val (.str s) => k (.val (.str s)) h
    | some (.slice e), some .string, .val (.sl s) => isU8 P e && wslCells h s (slLen s) fun l => eBytes l fun bs => k (.val (.str bs)) h
    | some .string, some (.slice e), .val (.str s) => (isU8 P e && decide (s.length ≤ 4611686018427387904)) && fBytes s fun l => wNew l false h fun b h' => fN s.length fun n => k (.val (.sl (some ⟨b, 0, n, n, 1⟩))) h'
    | _, _, _ => false
noncomputable def wFieldAddr (s : TypeId) (x : Operand) (f : Nat) : Bool := match fieldOff P s f, wev ρ x with
    | some (off, ft), .val (.ptr (some p)) => decide (0 < tsz P ft) && fN (p.o + off) fun o => k (.val (.ptr (some ⟨p.b, o⟩))) h
    | _, _ => false
noncomputable def wField (s : TypeId) (x : Operand) (f : Nat) : Bool := match fieldOff P s f, wev ρ x with
    | some (off, ft), .val (.agg cs) => (match tz P ft with
      | some z => okTy P ft z && wPart z cs off fun v => k (.val v) h
      | none => false)
    | _, _ => false
noncomputable def wIndexAddr (t : TypeId) (x ix : Operand) : Bool := match wevI ρ ix, P.underlying t, wev ρ x, x with
    | some i, some (.slice e), .val (.sl (some s)), _ => ((P.info? e).isSome && decide (0 ≤ i) && decide (i < s.len)) && fN (s.o + i.toNat * tsz P e) fun o => k (.val (.ptr (some ⟨s.b, o⟩))) h
    | some i, some (.array n e), .val (.ptr (some p)), _ => ((P.info? e).isSome && (decide (0 ≤ i) && decide (i < n))) && fN (p.o + i.toNat * tsz P e) fun o => k (.val (.ptr (some ⟨p.b, o⟩))) h
    | some i, some (.array n e), .top, .global g => (match eMark h g 8 0 with
      | some j => ((P.info? e).isSome && (decide (0 ≤ i) && decide (i < n))) && fN (i.toNat * tsz P e) fun o => k (.val (.ptr (some ⟨j, o⟩))) h
      | none => false)
    | _, _, _, _ => false
noncomputable def wIndex (t : TypeId) (x ix : Operand) : Bool := match wevI ρ ix, P.underlying t, wev ρ x with
    | some i, some .string, .val (.str s) => decide (0 ≤ i) && wat1 s i.toNat fun b => fN b.toNat fun n => k (.val (.int .u8 (.ofNat n))) h
    | _, _, _ => false
noncomputable def wBuild (t : TypeId) (ps : Array (Nat × Operand)) : Bool := match tz P t, P.underlying t with
    | some (.agg zs), some (.struct fs) => wpartsA ρ ps fun parts => (noTups parts && fs.toList.all fun f => (P.info? f.type).isSome) &&
      wfillA (fun i => (fs[i]?).map fun f => (f.offset, tsz P f.type)) parts zs fun cells => k (.val (.agg cells)) h
    | some (.agg zs), some (.array _ e) => wpartsA ρ ps fun parts => (noTups parts && (P.info? e).isSome) &&
      wfillA (fun i => some (i * tsz P e, tsz P e)) parts zs fun cells => k (.val (.agg cells)) h
    | _, _ => false
noncomputable def wBuildSlice (t : TypeId) (n : Nat) (ps : Array (Nat × Operand)) : Bool := match telem P t with
    | none => false
    | some e => match zcells P e with
      | some zs => wpartsA ρ ps fun parts => (decide (n * tsz P e ≤ 16777216) && noTups parts) && wfL (List.replicate n zs).flatten fun zc =>
        wfillA (fun i => some (i * tsz P e, tsz P e)) parts zc fun cells => oneAll cells && wNew cells true h fun b h' => k (.val (.sl (some ⟨b, 0, n, n, 0⟩))) h'
      | none => false
noncomputable def woptI : Option Operand → Option (Option Int)
  | none => some none
  | some x => (wevI ρ x).map some
noncomputable def wSlice (t : TypeId) (x : Operand) (lo hi mx : Option Operand) : Bool := match P.underlying t, wev ρ x, woptI ρ lo, woptI ρ hi, woptI ρ mx with
    | some (.slice e), .val (.sl s), some l, some hh, some m => ((P.info? e).isSome && (m.isNone || hh.isSome)) && eSlice (tsz P e) s (l.getD 0) hh m fun s' => k (.val (.sl s')) h
    | some .string, .val (.str s), some l, some hh, some none => estrSlice s (l.getD 0) hh fun s' => k (.val (.str s')) h
    | some (.array n e), .val (.ptr (some p)), some l, some hh, some m => ((P.info? e).isSome && (m.isNone || hh.isSome)) && eSlice (tsz P e) (some ⟨p.b, p.o, n, n, 0⟩) (l.getD 0) hh m fun s' => k (.val (.sl s')) h
    | _, _, _, _, _ => false
noncomputable def wMakeSlice (t : TypeId) (l c : Operand) : Bool := match telem P t with
    | none => false
    | some e => match zcells P e, wevI ρ l, wevI ρ c with
      | some zs, some n, some m => oneAll zs && wMake zs (tbytes P e) n m h fun s' h' => k (.val (.sl s')) h'
      | _, _, _ => false
noncomputable def wExtract (x : Operand) (i : Nat) : Bool := match wev ρ x with | .val (.tup vs) => wat1 vs i fun v => k (.val v) h | _ => false
noncomputable def wMakeIface (t : TypeId) (x : Operand) : Bool := match P.underlying t, wev ρ x with | some (.interface _), _ => false | some _, .val v => k (.val (.iface t v)) h | _, _ => false
noncomputable def wLen (t : TypeId) (v : AV) : Bool := match v with
  | .sl s => (match P.underlying t with | some (.slice _) => k (.val (.int .i64 (.ofNat (slLen s)))) h | _ => false)
  | .str s => (match P.underlying t with | some .string => fN s.length fun n => k (.val (.int .i64 (.ofNat n))) h | _ => false)
  | .map m => (match P.underlying t, emapEs h m with | some (.map _ _), some es => fN es.length fun n => k (.val (.int .i64 (.ofNat n))) h | _, _ => false)
  | _ => false
noncomputable def wAppO (t u : TypeId) (s : Option SL) (x : AV) : Bool := match telem P t with
    | none => false
    | some e =>
      match zcells P e with
      | none => false
      | some zs =>
        decide (0 < tbytes P e) &&
        match isIntT P u, x with
        | true, .int _ n => (oneAll zs && decide (0 ≤ n) && decide (n ≤ maxI) && decide (n * tbytes P e ≤ 140737488355328)) && fN n.toNat fun n => wfL (List.replicate n zs).flatten fun xs => wAppend (tsz P e) (tbytes P e) s n xs h fun s' h' => k (.val (.sl s')) h'
        | false, .sl src => (telem P u).isSome && wslCells h src (slLen src * tsz P e) fun xs => wAppend (tsz P e) (tbytes P e) s (slLen src) xs h fun s' h' => k (.val (.sl s')) h'
        | false, .str src => (isStrT P u && tsz P e == 1) && fN src.length fun n => fBytes src fun xs => wAppend 1 (tbytes P e) s n xs h fun s' h' => k (.val (.sl s')) h'
        | _, _ => false
noncomputable def wCopyO (t : TypeId) (s src : Option SL) : Bool := match telem P t with
    | none => false
    | some e => (P.info? e).isSome && fN (min (slLen src) (slLen s)) fun n => wslCells h src (n * tsz P e) fun xs => wCopy (tsz P e) s n xs h fun h' => k (.val (.int .i64 (.ofNat n))) h'
noncomputable def wBuiltin (b : Builtin) (argT : List TypeId) (args : List AV) : Bool :=
  match b, argT, args with
  | .len, [t], [v] => wLen P h k t v
  | .append, [t, u], [.sl s, x] => wAppO P h k t u s x
  | .copy, [t, _], [.sl s, .sl src] => wCopyO P h k t s src
  | b, argT, args => eBuiltin P b argT args h k
theorem wBuiltin_eq (b : Builtin) (argT : List TypeId) (args : List AV) : wBuiltin P h k b argT args = eBuiltin P b argT args h k := by
  unfold wBuiltin
  split
  · rename_i t v
    cases v <;> first | rfl | simp only [wLen, eBuiltin]
    all_goals try rfl
  · simp only [wAppO, eBuiltin, wfL_eq, wAppend_eq, wslCells_eq]
    try rfl
  · simp only [wCopyO, eBuiltin, wslCells_eq, wCopy_eq]
    try rfl
  · rfl
noncomputable def wCallO (c : Call) : Bool := wvals ρ c.args.toList fun args => (match c.callee with
      | .value f => (match wev ρ f, tz P o.type with
        | .val g, some z => wCallF P call g args h fun v h' => shV z v && k (.val v) h'
        | _, _ => false)
      | .invoke r name => (match wev ρ r, tz P o.type with
        | .val g, some z => wInvoke P call g name args h fun v h' => shV z v && k (.val v) h'
        | _, _ => false)
      | .builtin b => wBuiltin P h k b c.argTypes.toList args)
noncomputable def wop : Bool :=
  match o.op with
  | .move x => fV (wev ρ x) fun v => k v h
  | .assign x => fV (wev ρ x) fun v => k v h
  | .pick c a b => (match wev ρ c with | .val (.bool true) => fV (wev ρ a) fun v => k v h | .val (.bool false) => fV (wev ρ b) fun v => k v h | _ => false)
  | .alloc t => wAlloc P o h k t
  | .box t x => wBox o ρ h k x
  | .load t x => wLoadO P ρ h k t x
  | .store t a x => wStoreO P ρ h k t a x
  | .nilCheck x => wNilCheck ρ h k x
  | .binOp op t x y _ => wBinO P ρ h k op t x y
  | .unOp op _ x => wUnO ρ h k op x
  | .convert src dst x => wConvert P ρ h k src dst x
  | .fieldAddr s x f => wFieldAddr P ρ h k s x f
  | .field s x f => wField P ρ h k s x f
  | .indexAddr t x ix => wIndexAddr P ρ h k t x ix
  | .index t x ix => wIndex P ρ h k t x ix
  | .build t ps => wBuild P ρ h k t ps
  | .buildSlice t n ps => wBuildSlice P ρ h k t n ps
  | .slice t x lo hi mx => wSlice P ρ h k t x lo hi mx
  | .makeSlice t l c => wMakeSlice P ρ h k t l c
  | .extract x i => wExtract ρ h k x i
  | .makeFunc fn f c => !fnY fn && wvals ρ f.toList fun a => wvals ρ c.toList fun b => k (.val (.func fn a b)) h
  | .makeInterface t x => wMakeIface P ρ h k t x
  | .call c => wCallO P call o ρ h k c
  | _ => eop P call o ρ h k
end
theorem wop_eq (P : Program) (call : ECall) (o : Oper) (ρ : T LV) (h : EH) (k : EK) : wop P call o ρ h k = eop P call o ρ h k := by
  have eoI : ∀ x, woptI ρ x = eoptI ρ x := fun x => by
    cases x
    · rfl
    · simp only [woptI, eoptI, wevI_eq]
  unfold wop eop
  cases ho : o.op
  all_goals first
    | rfl
    | (simp only [wAlloc, wBox, wLoadO, wStoreO, wNilCheck, wBinO, wUnO, wConvert, wFieldAddr, wField, wIndexAddr, wIndex, wBuild, wBuildSlice, wSlice, wMakeSlice, wExtract, wMakeIface, wCallO, wev_eq, wevI_eq, wNew_eq, wLoad_eq, wStore_eq, wslCells_eq, wPart_eq, wat1_eq, wpartsA_eq, wfillA_eq, wfL_eq, wMake_eq, wvals_eq, wCallF_eq, wInvoke_eq, wBuiltin_eq, eoI, fV_eq]; done)
    | (simp only [wAlloc, wBox, wLoadO, wStoreO, wNilCheck, wBinO, wUnO, wConvert, wFieldAddr, wField, wIndexAddr, wIndex, wBuild, wBuildSlice, wSlice, wMakeSlice, wExtract, wMakeIface, wCallO, wev_eq, wevI_eq, wNew_eq, wLoad_eq, wStore_eq, wslCells_eq, wPart_eq, wat1_eq, wpartsA_eq, wfillA_eq, wfL_eq, wMake_eq, wvals_eq, wCallF_eq, wInvoke_eq, wBuiltin_eq, eoI, fV_eq]; try rfl)
noncomputable def wput (d : Option Nat) (v : LV) (ρ : T LV) (h : EH) (k : EC) : Bool := match d with | some d => ρ.wput d v fun ρ' => k ρ' h | none => k ρ h
theorem wput_eq (d : Option Nat) (v : LV) (ρ : T LV) (h : EH) (k : EC) : wput d v ρ h k = eput d v ρ h k := by
  cases d <;> simp only [wput, eput, T.wput_eq]
noncomputable def wGuardVal (ops : Array Oper) (ρ : T LV) (j : Nat) : Option Bool :=
  match (ops[j]?).bind (·.dst) with
  | some d => match ρ.wget d with | some (.val (.bool b)) => some b | _ => none
  | none => none
noncomputable def wGuardOff (ops : Array Oper) (ρ : T LV) (j : Nat) : Bool :=
  match (ops[j]?).bind (·.dst) with
  | some d => match ρ.wget d with | some (.val (.tup [])) => true | _ => false
  | none => false
theorem wGuardVal_eq (ops : Array Oper) (ρ : T LV) (j : Nat) : wGuardVal ops ρ j = eGuardVal ops ρ j := by
  unfold wGuardVal eGuardVal
  simp only [T.wget_eq]
  try rfl
theorem wGuardOff_eq (ops : Array Oper) (ρ : T LV) (j : Nat) : wGuardOff ops ρ j = eGuardOff ops ρ j := by
  unfold wGuardOff eGuardOff
  simp only [T.wget_eq]
  try rfl
section
variable (P : Program) (call : ECall)
noncomputable def wside (o : Oper) (act : Bool) (ρ : T LV) (h : EH) (k : EC) : Bool :=
  match act with
  | true => wop P call o ρ h fun v h' => wput o.dst v ρ h' k
  | false => wput o.dst .und ρ h k
noncomputable def wguarded (ops : Array Oper) (o : Oper) (ρ : T LV) (h : EH) (k : EC) : Bool :=
  match o.guard with
  | none => wop P call o ρ h fun v h' => wput o.dst v ρ h' k
  | some (j, want) =>
    match wGuardOff ops ρ j with
    | true => wput o.dst .und ρ h k
    | false => match wGuardVal ops ρ j with
      | none => false
      | some true => wside P call o want ρ h k
      | some false => wside P call o (!want) ρ h k
theorem wside_eq (o : Oper) (act : Bool) (ρ : T LV) (h : EH) (k : EC) : wside P call o act ρ h k = eside P call o act ρ h k := by
  cases act <;> simp only [wside, eside, wop_eq, wput_eq]
theorem wguarded_eq (ops : Array Oper) (o : Oper) (ρ : T LV) (h : EH) (k : EC) : wguarded P call ops o ρ h k = eguarded P call ops o ρ h k := by
  unfold wguarded eguarded
  simp only [wop_eq, wput_eq, wGuardOff_eq, wGuardVal_eq, wside_eq]
  try rfl
noncomputable def wops (ops : Array Oper) (l : List Oper) : T LV → EH → EC → Bool :=
  List.rec (motive := fun _ => T LV → EH → EC → Bool) (fun ρ h k => k ρ h) (fun o _ ih ρ h k => wguarded P call ops o ρ h fun ρ' h' => ih ρ' h' k) l
theorem wops_eq (ops : Array Oper) (l : List Oper) : ∀ (is : List Nat) ρ h k, is.map (fun i => ops[i]?) = l.map some → wops P call ops l ρ h k = eops P call ops is ρ h k := by
  induction l with
  | nil =>
    intro is ρ h k hi
    cases is with
    | nil => rfl
    | cons i is => simp at hi
  | cons o l ih =>
    intro is ρ h k hi
    cases is with
    | nil => simp at hi
    | cons i is =>
      simp only [List.map_cons, List.cons.injEq] at hi
      show (wguarded P call ops o ρ h fun ρ' h' => wops P call ops l ρ' h' k) = _
      rw [wguarded_eq, eops]
      simp only [hi.1]
      congr 1
      funext ρ' h'
      exact ih is ρ' h' k hi.2
theorem wops_all (ops : Array Oper) (ρ : T LV) (h : EH) (k : EC) : wops P call ops ops.toList ρ h k = eops P call ops (List.range ops.size) ρ h k := by
  refine wops_eq P call ops ops.toList _ ρ h k ?_
  apply List.ext_getElem?
  intro i
  rw [List.getElem?_map, List.getElem?_map]
  by_cases hi : i < ops.size
  · rw [List.getElem?_range hi]
    simp [Array.getElem?_eq_getElem hi, List.getElem?_eq_getElem (show i < ops.toList.length from hi)]
  · rw [List.getElem?_eq_none (by simp; omega), List.getElem?_eq_none (by simp; omega)]
    try rfl
noncomputable def wSameK (o : Oper) (ρ : T LV) : EK := fun lv _ => match o.dst with | some d => (match ρ.wget d with | some v => lvEq lv v | none => false) | none => true
theorem wSameK_eq (o : Oper) (ρ : T LV) : wSameK o ρ = eSameK o ρ := by
  funext lv h
  unfold wSameK eSameK
  simp only [T.wget_eq]
  try rfl
noncomputable def wrechk1 (ops : Array Oper) (i : Nat) (ρ : T LV) (h : EH) : Bool :=
  match ops[i]? with
  | some o =>
    (match o.guard with
    | none => wop P call o ρ h (wSameK o ρ)
    | some (j, want) =>
      match wGuardOff ops ρ j with
      | true => wSameK o ρ .und h
      | false => match wGuardVal ops ρ j with
        | none => false
        | some b => match b == want with | true => wop P call o ρ h (wSameK o ρ) | false => wSameK o ρ .und h)
  | none => false
theorem wrechk1_eq (ops : Array Oper) (i : Nat) (ρ : T LV) (h : EH) : wrechk1 P call ops i ρ h = erechk1 P call ops i ρ h := by
  unfold wrechk1 erechk1
  simp only [wop_eq, wSameK_eq, wGuardOff_eq, wGuardVal_eq]
  try rfl
noncomputable def wrechks (ops : Array Oper) (ρ : T LV) (h : EH) (a : Bool) (l : List Nat) : Bool :=
  List.rec (motive := fun _ => Bool) a (fun i _ ih => wrechk1 P call ops i ρ h && ih) l
theorem wrechks_eq (ops : Array Oper) (ρ : T LV) (h : EH) (a : Bool) (l : List Nat) : wrechks P call ops ρ h a l = erechks P call ops ρ h a l := by
  induction l with
  | nil => rfl
  | cons i l ih =>
    show (wrechk1 P call ops i ρ h && wrechks P call ops ρ h a l) = _
    rw [ih, wrechk1_eq]; try rfl
noncomputable def wany (ops : Array Oper) (rows : List Nat) (m : Nat) (n : Nat) : List Nat → T LV → EH → EC → Bool :=
  Nat.rec (motive := fun _ => List Nat → T LV → EH → EC → Bool) (fun _ _ _ _ => false) (fun _ ih listed ρ h k =>
    match readyRO P ops listed with
    | some i => (match ops[i]? with
      | some o => wguarded P call ops o ρ h fun ρ' h' => ih (i :: listed) ρ' h' k
      | none => false)
    | none => match readyE ops listed with
      | [] => (List.range ops.size).all listed.contains && k ρ h
      | j :: js => eall (j :: js) fun j => match ops[j]? with
        | some o => wguarded P call ops o ρ h fun ρ' h' => wrechks P call ops ρ' h' (ih (j :: listed) ρ' h' k) (toCheck P ops rows m listed j)
        | none => false) n
theorem wany_eq (ops : Array Oper) (rows : List Nat) (m : Nat) (n : Nat) : ∀ listed ρ h k, wany P call ops rows m n listed ρ h k = eany P call ops rows m n listed ρ h k := by
  induction n with
  | zero => intro listed ρ h k; try rfl
  | succ n ih =>
    intro listed ρ h k
    have e : ∀ i, wany P call ops rows m n (i :: listed) = eany P call ops rows m n (i :: listed) := fun i => by funext ρ h k; exact ih (i :: listed) ρ h k
    show (match readyRO P ops listed with
    | some i => (match ops[i]? with
      | some o => wguarded P call ops o ρ h fun ρ' h' => wany P call ops rows m n (i :: listed) ρ' h' k
      | none => false)
    | none => match readyE ops listed with
      | [] => (List.range ops.size).all listed.contains && k ρ h
      | j :: js => eall (j :: js) fun j => match ops[j]? with
        | some o => wguarded P call ops o ρ h fun ρ' h' => wrechks P call ops ρ' h' (wany P call ops rows m n (j :: listed) ρ' h' k) (toCheck P ops rows m listed j)
        | none => false) = _
    rw [eany]
    simp only [wguarded_eq, wrechks_eq, e]
    try rfl
noncomputable def wdraw (ops : Array Oper) (ρ : T LV) (h : EH) (k : EC) : Bool :=
  okDraw P ops (rowsOf ops).1 (rowsOf ops).2 && wany P call ops (rowsOf ops).1 (rowsOf ops).2 (ops.size + 1) [] ρ h k
noncomputable def wRegion (ops : Array Oper) (d : Bool) (ρ : T LV) (h : EH) (k : Exit → T LV → EH → Bool) : Bool :=
  match d with
  | false => wops P call ops ops.toList ρ h (k .normal)
  | true => wdraw P call ops ρ h (k .normal)
end
noncomputable def wSlots (ρ : T LV) (l : List Nat) : (List AV → Bool) → Bool :=
  List.rec (motive := fun _ => (List AV → Bool) → Bool) (fun k => k []) (fun s _ ih k => match ρ.wget s with | some (.val v) => ih fun l => k (v :: l) | _ => false) l
theorem wSlots_eq (ρ : T LV) (l : List Nat) : ∀ k, wSlots ρ l k = eSlots ρ l k := by
  induction l with
  | nil => intro k; try rfl
  | cons s l ih =>
    intro k
    show (match ρ.wget s with | some (.val v) => wSlots ρ l fun l => k (v :: l) | _ => false) = _
    rw [eSlots]
    simp only [T.wget_eq, ih]
    try rfl
noncomputable def wTop (l : List Nat) : T LV → (T LV → Bool) → Bool :=
  List.rec (motive := fun _ => T LV → (T LV → Bool) → Bool) (fun ρ k => k ρ) (fun t _ ih ρ k => ρ.wput t .top fun ρ' => ih ρ' k) l
theorem wTop_eq (l : List Nat) : ∀ ρ k, wTop l ρ k = eTop ρ l k := by
  induction l with
  | nil => intro ρ k; try rfl
  | cons t l ih =>
    intro ρ k
    show (ρ.wput t .top fun ρ' => wTop l ρ' k) = _
    rw [eTop, T.wput_eq]
    simp only [ih]
noncomputable def wPutSlots (l : List Nat) : T LV → List AV → (T LV → Bool) → Bool :=
  List.rec (motive := fun _ => T LV → List AV → (T LV → Bool) → Bool) (fun ρ vs k => match vs with | [] => k ρ | _ :: _ => false) (fun s _ ih ρ vs k => match vs with | v :: vs => ρ.wput s (.val v) fun ρ' => ih ρ' vs k | [] => false) l
theorem wPutSlots_eq (l : List Nat) : ∀ ρ vs k, wPutSlots l ρ vs k = ePutSlots ρ l vs k := by
  induction l with
  | nil => intro ρ vs k; cases vs <;> rfl
  | cons s l ih =>
    intro ρ vs k
    cases vs with
    | nil => rfl
    | cons v vs =>
      show (ρ.wput s (.val v) fun ρ' => wPutSlots l ρ' vs k) = _
      rw [ePutSlots, T.wput_eq]
      simp only [ih]
noncomputable def wloop (body : T LV → EH → (Exit → T LV → EH → Bool) → Bool) (slots : List Nat) (ρ0 : T LV) (xs0 : List AV) (k : Exit → T LV → EH → Bool) (n : Nat) : List AV → EH → Bool :=
  Nat.rec (motive := fun _ => List AV → EH → Bool) (fun _ _ => false) (fun _ ih xs h => wPutSlots slots ρ0 xs fun ρ => body ρ h fun e ρ' h' => match e with
    | .normal => wSlots ρ' slots fun xs' => wsames xs0 xs' && ih xs' h'
    | e => k e ρ' h') n
theorem wloop_eq (body : T LV → EH → (Exit → T LV → EH → Bool) → Bool) (slots : List Nat) (ρ0 : T LV) (xs0 : List AV) (k : Exit → T LV → EH → Bool) (n : Nat) : ∀ xs h, wloop body slots ρ0 xs0 k n xs h = eloop body slots ρ0 xs0 k n xs h := by
  induction n with
  | zero => intro xs h; try rfl
  | succ n ih =>
    intro xs h
    show (wPutSlots slots ρ0 xs fun ρ => body ρ h fun e ρ' h' => match e with
    | .normal => wSlots ρ' slots fun xs' => wsames xs0 xs' && wloop body slots ρ0 xs0 k n xs' h'
    | e => k e ρ' h') = _
    rw [eloop, wPutSlots_eq]
    simp only [wSlots_eq, wsames_eq, ih]
    try rfl
section
variable (P : Program) (slots : Nat → List Nat) (call : ECall)
abbrev XK := Exit → T LV → EH → Bool
abbrev CK := Nat → T LV → EH → XK → Bool
noncomputable def wSeqK (b : CK) (cur : Nat) (k : XK) : XK := fun e ρ h => match e with | .normal => b cur ρ h k | e => k e ρ h
noncomputable def wCondK (c : Operand) (a b : CK) : CK := fun cur ρ h k => match wev ρ c with
    | .val (.bool true) => a cur ρ h k
    | .val (.bool false) => b cur ρ h k
    | _ => false
noncomputable def wBlockK (id : Nat) (k : XK) : XK := fun e ρ' h' => match e with
    | .exit i => (match i == id with | true => k .normal ρ' h' | false => k (.exit i) ρ' h')
    | e => k e ρ' h'
noncomputable def wScopeK (k : XK) : XK := fun e ρ' h' => match e with
    | .goto _ => false
    | e => k e ρ' h'
noncomputable def wLoopK (wr : List Nat) (b : CK) : CK := fun cur ρ h k =>
    wSlots ρ (slots cur) fun xs0 => wsames xs0 xs0 && wTop wr ρ fun ρ0 => wloop (fun ρ h k => b cur ρ h k) (slots cur) ρ0 xs0 k 1000000 xs0 h
noncomputable def wcode (c : Code) : CK :=
  Code.rec (motive := fun _ => CK)
    (fun _ ρ h k => k .normal ρ h)
    (fun _ ops d _ ρ h k => wRegion P call ops d ρ h k)
    (fun _ _ a b cur ρ h k => a cur ρ h (wSeqK b cur k))
    (fun c _ _ a b => wCondK c a b)
    (fun id _ b _ ρ h k => b id ρ h (wBlockK id k))
    (fun body b => wLoopK slots (writes body) b)
    (fun _ _ _ _ _ _ _ _ _ _ => false)
    (fun id _ ρ h k => k (.exit id) ρ h)
    (fun _ b cur ρ h k => b cur ρ h (wScopeK k))
    (fun _ _ ρ h k => k .normal ρ h)
    (fun _ _ _ _ _ => false)
    (fun _ ρ h k => k .ret ρ h)
    (fun _ _ _ _ _ => false) c
theorem wcode_eq (c : Code) : ∀ cur ρ h k, wcode P slots call c cur ρ h k = ecode P slots call c cur ρ h k := by
  induction c with
  | skip => intro cur ρ h k; try rfl
  | region id ops d =>
    intro cur ρ h k
    show wRegion P call ops d ρ h k = _
    cases d with
    | false => simp only [wRegion, ecode]; exact wops_all P call ops ρ h _
    | true => simp only [wRegion, ecode, wdraw, edraw, wany_eq]
  | seq a b iha ihb =>
    intro cur ρ h k
    show wcode P slots call a cur ρ h (wSeqK (wcode P slots call b) cur k) = _
    rw [iha, ecode]
    congr 1
    funext e ρ' h'
    cases e <;> simp only [wSeqK, ihb]
  | cond c a b iha ihb =>
    intro cur ρ h k
    show wCondK c (wcode P slots call a) (wcode P slots call b) cur ρ h k = _
    unfold wCondK
    rw [ecode, wev_eq]
    simp only [iha, ihb]
    try rfl
  | block id b ih =>
    intro cur ρ h k
    show wcode P slots call b id ρ h (wBlockK id k) = _
    rw [ih, ecode]
    try rfl
  | loop b ih =>
    intro cur ρ h k
    show wLoopK slots (writes b) (wcode P slots call b) cur ρ h k = _
    unfold wLoopK
    rw [ecode, wSlots_eq]
    simp only [wsames_eq, wTop_eq, wloop_eq, ih]
  | rangeFunc f ps a b iha ihb => intro cur ρ h k; try rfl
  | exit id => intro cur ρ h k; try rfl
  | scope b ih =>
    intro cur ρ h k
    show wcode P slots call b cur ρ h (wScopeK k) = _
    rw [ih, ecode]
    try rfl
  | label l => intro cur ρ h k; try rfl
  | goto l => intro cur ρ h k; try rfl
  | ret => intro cur ρ h k; try rfl
  | refuse s => intro cur ρ h k; try rfl
noncomputable def wresults (ρ : T LV) (h : EH) (l : List ResultVar) : (List AV → Bool) → Bool :=
  List.rec (motive := fun _ => (List AV → Bool) → Bool) (fun k => k []) (fun r _ ih k => match r with
    | .tmp t => (match ρ.wget t with | some (.val v) => ih fun l => k (v :: l) | _ => false)
    | .cell a t => (match tz P t, ρ.wget a with
      | some z, some (.val (.ptr (some p))) => okTy P t z && wLoad z h p.b p.o fun v => ih fun l => k (v :: l)
      | _, _ => false)) l
theorem wresults_eq (ρ : T LV) (h : EH) (l : List ResultVar) : ∀ k, wresults P ρ h l k = eresults P ρ h l k := by
  induction l with
  | nil => intro k; try rfl
  | cons r l ih =>
    intro k
    cases r with
    | tmp t =>
      show (match ρ.wget t with | some (.val v) => wresults P ρ h l fun l => k (v :: l) | _ => false) = _
      rw [eresults]; simp only [T.wget_eq, ih]; try rfl
    | cell a t =>
      show (match tz P t, ρ.wget a with
      | some z, some (.val (.ptr (some p))) => okTy P t z && wLoad z h p.b p.o fun v => wresults P ρ h l fun l => k (v :: l)
      | _, _ => false) = _
      rw [eresults]; simp only [T.wget_eq, wLoad_eq, ih]; try rfl
noncomputable def wArgs (l : List AV) : T LV → Nat → (T LV → Bool) → Bool :=
  List.rec (motive := fun _ => T LV → Nat → (T LV → Bool) → Bool) (fun t _ k => k t) (fun a _ ih t i k => t.wput i (.val a) fun t' => fN (Nat.succ i) fun j => ih t' j k) l
theorem wArgs_eq (l : List AV) : ∀ t i k, wArgs l t i k = eArgs t i l k := by
  induction l with
  | nil => intro t i k; try rfl
  | cons a l ih =>
    intro t i k
    show (t.wput i (.val a) fun t' => fN (Nat.succ i) fun j => wArgs l t' j k) = _
    rw [eArgs, T.wput_eq]
    simp only [ih]
noncomputable def wRetK (P : Program) (rs : List ResultVar) (k : AV → EH → Bool) : XK := fun e ρ' h' => match e with
      | .normal => wresults P ρ' h' rs fun l => (match l with | [v] => k v h' | l => k (.tup l) h')
      | .ret => wresults P ρ' h' rs fun l => (match l with | [v] => k v h' | l => k (.tup l) h')
      | _ => false
noncomputable def wfun (f : FuncId) (args : List AV) (h : EH) (k : AV → EH → Bool) : Bool :=
  match P.funcs[f]? with
  | none => false
  | some fn => match fn.body with
    | none => false
    | some c => (notCount P f && Nat.blt fn.ntmps 65536) && wArgs args (topT 17 fn.ntmps) 0 fun ρ => wcode P slots call c 1000000 ρ h (wRetK P fn.results.toList k)
theorem wfun_eq (f : FuncId) (args : List AV) (h : EH) (k : AV → EH → Bool) : wfun P slots call f args h k = efun P slots call f args h k := by
  unfold wfun efun
  cases P.funcs[f]? with
  | none => rfl
  | some fn =>
    simp only
    cases fn.body with
    | none => rfl
    | some c =>
      simp only [wArgs_eq, wcode_eq]
      congr 3
      funext ρ
      congr 1
      funext e ρ' h'
      cases e <;> simp only [wRetK, wresults_eq] <;> rfl
end
noncomputable def wrun (P : Program) (slots : FuncId → Nat → List Nat) (ov : Ovr) (n : Nat) : ECall :=
  Nat.rec (motive := fun _ => ECall) (fun _ _ _ _ => false) (fun _ ih f args h k => match ov f with
    | some g => g args h k
    | none => wfun P (slots f) ih f args h k) n
theorem wrun_eq (P : Program) (slots : FuncId → Nat → List Nat) (ov : Ovr) (n : Nat) : wrun P slots ov n = erun P slots ov n := by
  induction n with
  | zero => rfl
  | succ n ih =>
    funext f args h k
    show (match ov f with
    | some g => g args h k
    | none => wfun P (slots f) (wrun P slots ov n) f args h k) = _
    rw [ih, erun]
    simp only [wfun_eq]
    try rfl
theorem erun_of {P : Program} {slots : FuncId → Nat → List Nat} {ov : Ovr} {n : Nat} {f : FuncId} {args : List AV} {h : EH} {k : AV → EH → Bool} (hw : wrun P slots ov n f args h k = true) : erun P slots ov n f args h k = true := by
  rw [← wrun_eq]; exact hw
end Go.Ab
namespace Go.Ab
open Go.ChangeShapes Go.WideShapes Go.ChangeAt Go.RowKit
set_option linter.unusedSimpArgs false
set_option linter.unusedVariables false
section
variable {P : Program} {W : World} {r : Reach} {base : Nat}
theorem row_cells {t : TypeId} {v : Value} {ts : List TypeId} {d : TypeDesc} (hu : P.underlying t = some d) (hs : (∃ fs, d = .struct fs) ∨ ∃ n e, d = .array n e) (hv : Value.okWide P W r base t v) (hts : P.cellTypes P.depth t = some ts) (hsz : P.cellsOf t = ts.length) :
  ∃ cs : List Value, v = .agg ⟨cs⟩ ∧ cs.length = ts.length ∧ ∀ (i : Nat) (u : TypeId), ts[i]? = some u → ∃ x, cs[i]? = some x ∧ Cell.okWide P W r base u x := by
 have hv' : ∃ cs : Array Value, v = .agg cs ∧ cs.size = P.cellsOf t ∧ Row.okWide P W r base t cs := by
  unfold Value.okWide at hv
  rw [hu] at hv
  rcases hs with ⟨fs, rfl⟩ | ⟨n, e, rfl⟩ <;> exact hv
 obtain ⟨cs, rfl, h1, ts', h2, h3, h4⟩ := hv'
 rw [hts] at h2; cases h2
 refine ⟨cs.toList, rfl, by simpa using h1.trans hsz, fun i u hi => ?_⟩
 have hlt := lt_of_get hi
 have hx : cs[i]? = some cs[i] := by simp
 obtain ⟨u', h5, h6⟩ := h4 i _ hx
 rw [Nat.mod_eq_of_lt hlt, hi] at h5
 cases h5
 exact ⟨_, by simp, h6⟩
theorem cell_int {u : TypeId} {k : IntKind} {x : Value} (hu : P.underlying u = some (.int k)) (h : Cell.okWide P W r base u x) : ∃ n, x = .int k n := by
 unfold Cell.okWide at h
 rw [hu] at h
 simp only [Cell.ok, hu] at h
 cases x <;> simp at h
 exact ⟨_, by rw [h.1]⟩
theorem cell_slice {u e : TypeId} {x : Value} (hu : P.underlying u = some (.slice e)) (h : Cell.okWide P W r base u x) : x = .slice none 0 0 ∨ ∃ b o len cap, x = .slice (some ⟨b, o, none⟩) len cap ∧ len ≤ cap ∧ b < W.heap.size := by
 unfold Cell.okWide at h
 rw [hu] at h
 cases x
 case slice a len cap =>
  simp only [Cell.ok, hu] at h
  cases a with
  | none =>
   left
   split at h <;> simp_all
  | some a =>
   right
   simp only at h
   obtain ⟨h1, _, _, h2, row, cells, h3, _⟩ := h
   obtain ⟨b, o, sp⟩ := a
   simp only at h2 h3
   subst h2
   refine ⟨b, o, len, cap, rfl, h1, ?_⟩
   unfold World.shape? at h3
   split at h3
   ·rename_i hb; exact heap_lt hb
   ·cases h3
 all_goals simp [Cell.ok, hu] at h
end
end Go.Ab

