/- Running the abstract machine by the kernel: code, loops, functions. -/
import Derived.Test.YtceplmmmlindnaaCEv3
namespace Go.Ab
set_option linter.unusedSimpArgs false
set_option linter.unusedVariables false

abbrev EC := T LV → EH → Bool

mutual
def avEq : AV → AV → Bool
  | .int k a, .int k' b => decide (k = k') && a == b
  | .bool a, .bool b => a == b
  | .str a, .str b => a == b
  | .ptr none, .ptr none => true
  | .ptr (some p), .ptr (some q) => p.b == q.b && p.o == q.o
  | .sl none, .sl none => true
  | .sl (some s), .sl (some t) => s.b == t.b && s.o == t.o && s.len == t.len && s.cap == t.cap && s.opn == t.opn
  | .map none, .map none => true
  | .map (some a), .map (some b) => a == b
  | .nilfunc, .nilfunc => true
  | .niliface, .niliface => true
  | .iface t v, .iface u w => t == u && avEq v w
  | .agg a, .agg b => avEqL a b
  | .tup a, .tup b => avEqL a b
  | _, _ => false
def avEqL : List AV → List AV → Bool
  | [], [] => true
  | x :: xs, y :: ys => avEq x y && avEqL xs ys
  | _, _ => false
end
mutual
theorem avEq_ok : ∀ (a b : AV), avEq a b = true → a = b
  | .int k a, b, h => by cases b <;> simp [avEq] at h; obtain ⟨h1, h2⟩ := h; subst h1; subst h2; rfl
  | .bool a, b, h => by cases b <;> simp [avEq] at h; subst h; rfl
  | .str a, b, h => by cases b <;> simp [avEq] at h; subst h; rfl
  | .ptr none, b, h => by
    cases b
    case ptr p => cases p with
      | none => rfl
      | some p => simp [avEq] at h
    all_goals simp [avEq] at h
  | .ptr (some p), b, h => by
    cases b
    case ptr q => cases q with
      | none => simp [avEq] at h
      | some q => cases p; cases q; simp [avEq] at h; simp_all
    all_goals simp [avEq] at h
  | .sl none, b, h => by
    cases b
    case sl p => cases p with
      | none => rfl
      | some p => simp [avEq] at h
    all_goals simp [avEq] at h
  | .sl (some p), b, h => by
    cases b
    case sl q => cases q with
      | none => simp [avEq] at h
      | some q => cases p; cases q; simp [avEq] at h; simp_all
    all_goals simp [avEq] at h
  | .map none, b, h => by
    cases b
    case map p => cases p with
      | none => rfl
      | some p => simp [avEq] at h
    all_goals simp [avEq] at h
  | .map (some p), b, h => by
    cases b
    case map q => cases q with
      | none => simp [avEq] at h
      | some q => simp [avEq] at h; subst h; rfl
    all_goals simp [avEq] at h
  | .func _ _ _, b, h => by cases b <;> simp [avEq] at h
  | .nilfunc, b, h => by cases b <;> simp [avEq] at h; rfl
  | .niliface, b, h => by cases b <;> simp [avEq] at h; rfl
  | .iface t v, b, h => by
    cases b <;> simp [avEq] at h
    obtain ⟨h1, h2⟩ := h
    rw [h1, avEq_ok _ _ h2]
  | .agg a, b, h => by
    cases b <;> simp [avEq] at h
    rw [avEqL_ok _ _ h]
  | .tup a, b, h => by
    cases b <;> simp [avEq] at h
    rw [avEqL_ok _ _ h]
theorem avEqL_ok : ∀ (a b : List AV), avEqL a b = true → a = b
  | [], b, h => by cases b <;> simp [avEqL] at h; rfl
  | x :: xs, b, h => by
    cases b <;> simp [avEqL] at h
    rw [avEq_ok _ _ h.1, avEqL_ok _ _ h.2]
end
def lvEq : LV → LV → Bool
  | .val a, .val b => avEq a b
  | .top, .top => true
  | _, _ => false
theorem lvEq_ok {a b : LV} (h : lvEq a b = true) : a = b := by
  cases a <;> cases b <;> simp [lvEq] at h
  · rw [avEq_ok _ _ h]
  · rfl

def eput (d : Option Nat) (v : LV) (ρ : T LV) (h : EH) (k : EC) : Bool := match d with | some d => ρ.put d v fun ρ' => k ρ' h | none => k ρ h

def eGuardVal (ops : Array Oper) (ρ : T LV) (j : Nat) : Option Bool :=
  match (ops[j]?).bind (·.dst) with
  | some d => match ρ.get d with | some (.val (.bool b)) => some b | _ => none
  | none => none
def eGuardOff (ops : Array Oper) (ρ : T LV) (j : Nat) : Bool :=
  match (ops[j]?).bind (·.dst) with
  | some d => match ρ.get d with | some (.val (.tup [])) => true | _ => false
  | none => false

section
variable (P : Program) (call : ECall)
def eside (o : Oper) (act : Bool) (ρ : T LV) (h : EH) (k : EC) : Bool :=
  match act with
  | true => eop P call o ρ h fun v h' => eput o.dst v ρ h' k
  | false => eput o.dst .und ρ h k
def eguarded (ops : Array Oper) (o : Oper) (ρ : T LV) (h : EH) (k : EC) : Bool :=
  match o.guard with
  | none => eop P call o ρ h fun v h' => eput o.dst v ρ h' k
  | some (j, want) =>
    match eGuardOff ops ρ j with
    | true => eput o.dst .und ρ h k
    | false => match eGuardVal ops ρ j with
      | none => false
      | some true => eside P call o want ρ h k
      | some false => eside P call o (!want) ρ h k
def eops (ops : Array Oper) : List Nat → T LV → EH → EC → Bool
  | [], ρ, h, k => k ρ h
  | i :: is, ρ, h, k => match ops[i]? with
    | none => false
    | some o => eguarded P call ops o ρ h fun ρ' h' => eops ops is ρ' h' k
def eall : List Nat → (Nat → Bool) → Bool
  | [], _ => true
  | [j], f => f j
  | j :: js, f => f j && eall js f
def eSameK (o : Oper) (ρ : T LV) : EK := fun lv _ => match o.dst with | some d => (match ρ.get d with | some v => lvEq lv v | none => false) | none => true
def erechk1 (ops : Array Oper) (i : Nat) (ρ : T LV) (h : EH) : Bool :=
  match ops[i]? with
  | some o =>
    (match o.guard with
    | none => eop P call o ρ h (eSameK o ρ)
    | some (j, want) =>
      match eGuardOff ops ρ j with
      | true => eSameK o ρ .und h
      | false => match eGuardVal ops ρ j with
        | none => false
        | some b => match b == want with | true => eop P call o ρ h (eSameK o ρ) | false => eSameK o ρ .und h)
  | none => false
def erechks (ops : Array Oper) (ρ : T LV) (h : EH) (a : Bool) : List Nat → Bool
  | [] => a
  | i :: is => erechk1 P call ops i ρ h && erechks ops ρ h a is
def eany (ops : Array Oper) (rows : List Nat) (m : Nat) : Nat → List Nat → T LV → EH → EC → Bool
  | 0, _, _, _, _ => false
  | n + 1, listed, ρ, h, k =>
    match readyRO P ops listed with
    | some i => (match ops[i]? with
      | some o => eguarded P call ops o ρ h fun ρ' h' => eany ops rows m n (i :: listed) ρ' h' k
      | none => false)
    | none => match readyE ops listed with
      | [] => (List.range ops.size).all listed.contains && k ρ h
      | j :: js => eall (j :: js) fun j => match ops[j]? with
        | some o => eguarded P call ops o ρ h fun ρ' h' => erechks P call ops ρ' h' (eany ops rows m n (j :: listed) ρ' h' k) (toCheck P ops rows m listed j)
        | none => false
end

def rowsOf (ops : Array Oper) : List Nat × Nat := bfRows ops.toList 0 [] Prod.mk
theorem bfRows_pair {α : Type} (k : List Nat → Nat → α) : ∀ (os : List Oper) (n : Nat) (rows : List Nat), bfRows os n rows k = (fun p => k p.1 p.2) (bfRows os n rows Prod.mk)
  | [], n, rows => rfl
  | o :: os, n, rows => by simp only [bfRows, forceN_eq, bfRows_pair k os]

def edraw (P : Program) (call : ECall) (ops : Array Oper) (ρ : T LV) (h : EH) (k : EC) : Bool :=
  okDraw P ops (rowsOf ops).1 (rowsOf ops).2 && eany P call ops (rowsOf ops).1 (rowsOf ops).2 (ops.size + 1) [] ρ h k

def eSlots (ρ : T LV) : List Nat → (List AV → Bool) → Bool
  | [], k => k []
  | s :: ss, k => match ρ.get s with | some (.val v) => eSlots ρ ss fun l => k (v :: l) | _ => false
def eTop : T LV → List Nat → (T LV → Bool) → Bool
  | ρ, [], k => k ρ
  | ρ, t :: ts, k => ρ.put t .top fun ρ' => eTop ρ' ts k
def ePutSlots : T LV → List Nat → List AV → (T LV → Bool) → Bool
  | ρ, s :: ss, v :: vs, k => ρ.put s (.val v) fun ρ' => ePutSlots ρ' ss vs k
  | ρ, [], [], k => k ρ
  | _, _, _, _ => false

def eloop (body : T LV → EH → (Exit → T LV → EH → Bool) → Bool) (slots : List Nat) (ρ0 : T LV) (xs0 : List AV) (k : Exit → T LV → EH → Bool) : Nat → List AV → EH → Bool
  | 0, _, _ => false
  | n + 1, xs, h => ePutSlots ρ0 slots xs fun ρ => body ρ h fun e ρ' h' => match e with
    | .normal => eSlots ρ' slots fun xs' => sameShapes xs0 xs' && eloop body slots ρ0 xs0 k n xs' h'
    | e => k e ρ' h'

def ecode (P : Program) (slots : Nat → List Nat) (call : ECall) : Code → Nat → T LV → EH → (Exit → T LV → EH → Bool) → Bool
  | .skip, _, ρ, h, k => k .normal ρ h
  | .region _ ops d, _, ρ, h, k => match d with
    | false => eops P call ops (List.range ops.size) ρ h (k .normal)
    | true => edraw P call ops ρ h (k .normal)
  | .seq a b, cur, ρ, h, k => ecode P slots call a cur ρ h fun e ρ' h' => match e with
    | .normal => ecode P slots call b cur ρ' h' k
    | e => k e ρ' h'
  | .cond c a b, cur, ρ, h, k => match eev ρ c with
    | .val (.bool true) => ecode P slots call a cur ρ h k
    | .val (.bool false) => ecode P slots call b cur ρ h k
    | _ => false
  | .block id body, _, ρ, h, k => ecode P slots call body id ρ h fun e ρ' h' => match e with
    | .exit i => (match i == id with | true => k .normal ρ' h' | false => k (.exit i) ρ' h')
    | e => k e ρ' h'
  | .loop body, cur, ρ, h, k =>
    eSlots ρ (slots cur) fun xs0 => sameShapes xs0 xs0 && eTop ρ (writes body) fun ρ0 =>
      eloop (fun ρ h k => ecode P slots call body cur ρ h k) (slots cur) ρ0 xs0 k 1000000 xs0 h
  | .exit id, _, ρ, h, k => k (.exit id) ρ h
  | .ret, _, ρ, h, k => k .ret ρ h
  | _, _, _, _, _ => false

def eresults (P : Program) (ρ : T LV) (h : EH) : List ResultVar → (List AV → Bool) → Bool
  | [], k => k []
  | .tmp t :: rs, k => (match ρ.get t with | some (.val v) => eresults P ρ h rs fun l => k (v :: l) | _ => false)
  | .cell a t :: rs, k => (match tz P t, ρ.get a with
    | some z, some (.val (.ptr (some p))) => okTy P t z && eLoad z h p.b p.o fun v => eresults P ρ h rs fun l => k (v :: l)
    | _, _ => false)

/-- n that are open. -/
def topT : Nat → Nat → T LV
  | 0, _ => .e
  | f + 1, n => match n with
    | 0 => .e
    | n + 1 => .n .top (topT f ((n + 1) / 2)) (topT f (n / 2))
def eArgs : T LV → Nat → List AV → (T LV → Bool) → Bool
  | t, _, [], k => k t
  | t, i, a :: as, k => t.put i (.val a) fun t' => fN (Nat.succ i) fun j => eArgs t' j as k

def efun (P : Program) (slots : Nat → List Nat) (call : ECall) (f : FuncId) (args : List AV) (h : EH) (k : AV → EH → Bool) : Bool :=
  match P.funcs[f]? with
  | none => false
  | some fn => match fn.body with
    | none => false
    | some c => (notCount P f && Nat.blt fn.ntmps 65536) && eArgs (topT 17 fn.ntmps) 0 args fun ρ => ecode P slots call c 1000000 ρ h fun e ρ' h' => match e with
      | .normal => eresults P ρ' h' fn.results.toList fun l => (match l with | [v] => k v h' | l => k (.tup l) h')
      | .ret => eresults P ρ' h' fn.results.toList fun l => (match l with | [v] => k v h' | l => k (.tup l) h')
      | _ => false

/-- What is run otherwise than by its code. -/
abbrev Ovr := FuncId → Option (List AV → EH → (AV → EH → Bool) → Bool)
def erun (P : Program) (slots : FuncId → Nat → List Nat) (ov : Ovr) : Nat → ECall
  | 0, _, _, _, _ => false
  | n + 1, f, args, h, k => match ov f with
    | some g => g args h k
    | none => efun P (slots f) (erun P slots ov n) f args h k
end Go.Ab
