import Derived.Test.YtafmabnolelknaaGreatDoorEG13
namespace Go.Ab
set_option linter.unusedSimpArgs false
set_option linter.unusedVariables false
abbrev OF := Oper → Program → ECall → T LV → EH → EK → Bool
noncomputable def fOld : OF := fun o P call ρ h k => wop P call o ρ h k
noncomputable def lvL (x : LV) : (LV → Bool) → Bool := LV.rec (motive := fun _ => (LV → Bool) → Bool) (fun v k => k (.val v)) (fun a b k => k (.loc a b)) (fun k => k .top) x
noncomputable def olL (x : Option LV) : (LV → Bool) → Bool := Option.rec (motive := fun _ => (LV → Bool) → Bool) (fun k => k .top) lvL x
noncomputable def oaL (x : Option AV) : (LV → Bool) → Bool := Option.rec (motive := fun _ => (LV → Bool) → Bool) (fun k => k .top) (fun v k => k (.val v)) x
noncomputable def evL (x : Operand) : T LV → (LV → Bool) → Bool := Operand.rec (motive := fun _ => T LV → (LV → Bool) → Bool) (fun t ρ k => olL (ρ.wget t) k) (fun v _ k => oaL (ofV 4 v) k) (fun _ _ k => k .top) (fun f _ k => k (.val (.func (.func f) [] []))) x
theorem evL_eq (x : Operand) (ρ : T LV) (k : LV → Bool) : evL x ρ k = k (wev ρ x) := by
 cases x with
 | tmp t =>
  show olL (ρ.wget t) k = k (match ρ.wget t with | some v => v | none => .top)
  cases ρ.wget t with
  | none => rfl
  | some v => cases v <;> rfl
 | const v =>
  show oaL (ofV 4 v) k = k (match ofV 4 v with | some x => .val x | none => .top)
  cases ofV 4 v <;> rfl
 | global g => rfl
 | func f => rfl
noncomputable def fMove (x : Operand) : OF := fun _ _ _ ρ h k => evL x ρ fun v => k v h
noncomputable def fAlloc (t : TypeId) : OF := fun o P _ _ h k => wAlloc P o h k t
noncomputable def fBox (t : TypeId) (x : Operand) : OF := fun o _ _ ρ h k => wBox o ρ h k x
noncomputable def fLoad (t : TypeId) (x : Operand) : OF := fun _ P _ ρ h k => wLoadO P ρ h k t x
noncomputable def fStore (t : TypeId) (a x : Operand) : OF := fun _ P _ ρ h k => wStoreO P ρ h k t a x
noncomputable def fNil (x : Operand) : OF := fun _ _ _ ρ h k => wNilCheck ρ h k x
noncomputable def fBin (op : BinOp) (t : TypeId) (x y : Operand) : OF := fun _ P _ ρ h k => wBinO P ρ h k op t x y
noncomputable def fUn (op : UnOp) (x : Operand) : OF := fun _ _ _ ρ h k => wUnO ρ h k op x
noncomputable def fConv (a b : TypeId) (x : Operand) : OF := fun _ P _ ρ h k => wConvert P ρ h k a b x
noncomputable def fFA (s : TypeId) (x : Operand) (f : Nat) : OF := fun _ P _ ρ h k => wFieldAddr P ρ h k s x f
noncomputable def fField (s : TypeId) (x : Operand) (f : Nat) : OF := fun _ P _ ρ h k => wField P ρ h k s x f
noncomputable def fIA (t : TypeId) (x ix : Operand) : OF := fun _ P _ ρ h k => wIndexAddr P ρ h k t x ix
noncomputable def fIdx (t : TypeId) (x ix : Operand) : OF := fun _ P _ ρ h k => wIndex P ρ h k t x ix
noncomputable def fBuild (t : TypeId) (ps : Array (Nat × Operand)) : OF := fun _ P _ ρ h k => wBuild P ρ h k t ps
noncomputable def fBuildS (t : TypeId) (n : Nat) (ps : Array (Nat × Operand)) : OF := fun _ P _ ρ h k => wBuildSlice P ρ h k t n ps
noncomputable def fSlice (t : TypeId) (x : Operand) (a b c : Option Operand) : OF := fun _ P _ ρ h k => wSlice P ρ h k t x a b c
noncomputable def fMake (t : TypeId) (a b : Operand) : OF := fun _ P _ ρ h k => wMakeSlice P ρ h k t a b
noncomputable def fExtr (x : Operand) (i : Nat) : OF := fun _ _ _ ρ h k => wExtract ρ h k x i
noncomputable def fIface (t : TypeId) (x : Operand) : OF := fun _ P _ ρ h k => wMakeIface P ρ h k t x
noncomputable def fCall (c : Call) : OF := fun o P call ρ h k => wCallO P call o ρ h k c
noncomputable def opF (op : Op) : OF := Op.rec (motive := fun _ => OF)
 fMove fMove (fun _ _ _ => fOld) fAlloc fBox fBuild fBuildS (fun _ _ _ _ => fOld) fLoad fStore (fun _ => fOld) (fun _ => fOld) fNil (fun op t x y _ => fBin op t x y) (fun op _ x => fUn op x) fConv (fun _ _ => fOld) fIface (fun _ _ _ => fOld) (fun _ _ => fOld) (fun _ _ => fOld) fMake fSlice fFA fField fIA fIdx
 (fun _ _ _ _ => fOld) (fun _ _ _ _ => fOld) (fun _ _ _ => fOld) (fun _ _ _ _ => fOld) (fun _ _ => fOld) (fun _ _ => fOld) (fun _ => fOld) (fun _ _ _ _ => fOld) fExtr fCall (fun _ => fOld) (fun _ => fOld) (fun _ => fOld) (fun _ _ => fOld) (fun _ _ _ => fOld) (fun _ _ => fOld) op
theorem opF_eq (P : Program) (call : ECall) (o : Oper) (ρ : T LV) (h : EH) (k : EK) : opF o.op o P call ρ h k = wop P call o ρ h k := by
 unfold wop
 cases ho : o.op <;> first
  | rfl
  | (show evL _ ρ (fun v => k v h) = fV (wev ρ _) (fun v => k v h); rw [evL_eq, fV_eq])
  | (show wop P call o ρ h k = _; unfold wop; rw [ho])
noncomputable def fPut (d : Option Nat) : LV → T LV → EH → EC → Bool := Option.rec (motive := fun _ => LV → T LV → EH → EC → Bool) (fun _ ρ h k => k ρ h) (fun d v ρ h k => ρ.wput d v fun ρ' => k ρ' h) d
theorem fPut_eq (d : Option Nat) (v : LV) (ρ : T LV) (h : EH) (k : EC) : fPut d v ρ h k = wput d v ρ h k := by cases d <;> rfl
abbrev GF := Array Oper → Oper → Program → ECall → T LV → EH → EC → Bool
noncomputable def fPlain : GF := fun _ o P call ρ h k => opF o.op o P call ρ h fun v h' => fPut o.dst v ρ h' k
noncomputable def fGuard (g : Nat × Bool) : GF := fun ops o P call ρ h k => wguarded P call ops o ρ h k
noncomputable def guF (g : Option (Nat × Bool)) : GF := Option.rec (motive := fun _ => GF) fPlain fGuard g
theorem guF_eq (P : Program) (call : ECall) (ops : Array Oper) (o : Oper) (ρ : T LV) (h : EH) (k : EC) : guF o.guard ops o P call ρ h k = wguarded P call ops o ρ h k := by
 cases hg : o.guard with
 | none =>
  show (opF o.op o P call ρ h fun v h' => fPut o.dst v ρ h' k) = _
  rw [opF_eq]
  unfold wguarded
  rw [hg]
  simp only [fPut_eq]
 | some g => rfl
section
variable (P : Program) (call : ECall)
noncomputable def fops (ops : Array Oper) (l : List Oper) : T LV → EH → EC → Bool :=
 List.rec (motive := fun _ => T LV → EH → EC → Bool) (fun ρ h k => k ρ h) (fun o _ ih ρ h k => guF o.guard ops o P call ρ h fun ρ' h' => ih ρ' h' k) l
theorem fops_eq (ops : Array Oper) (l : List Oper) : ∀ ρ h k, fops P call ops l ρ h k = wops P call ops l ρ h k := by
 induction l with
 | nil => intro ρ h k; rfl
 | cons o l ih =>
  intro ρ h k
  show (guF o.guard ops o P call ρ h fun ρ' h' => fops P call ops l ρ' h' k) = wguarded P call ops o ρ h fun ρ' h' => wops P call ops l ρ' h' k
  rw [guF_eq]
  simp only [ih]
noncomputable def fRegion (ops : Array Oper) (d : Bool) : T LV → EH → (Exit → T LV → EH → Bool) → Bool :=
 Bool.rec (motive := fun _ => T LV → EH → (Exit → T LV → EH → Bool) → Bool) (fun ρ h k => fops P call ops ops.toList ρ h (k .normal)) (fun ρ h k => wdraw P call ops ρ h (k .normal)) d
theorem fRegion_eq (ops : Array Oper) (d : Bool) (ρ : T LV) (h : EH) (k : Exit → T LV → EH → Bool) : fRegion P call ops d ρ h k = wRegion P call ops d ρ h k := by
 cases d with
 | false => exact fops_eq P call ops ops.toList ρ h _
 | true => rfl
variable (slots : Nat → List Nat)
noncomputable def fcode (c : Code) : CK :=
 Code.rec (motive := fun _ => CK)
  (fun _ ρ h k => k .normal ρ h)
  (fun _ ops d _ ρ h k => fRegion P call ops d ρ h k)
  (fun _ _ a b cur ρ h k => a cur ρ h (wSeqK b cur k))
  (fun c _ _ a b => wCondK c a b)
  (fun id _ b _ ρ h k => b id ρ h (wBlockK id k))
  (fun body b => wLoopK slots (writes body) b)
  (fun _ _ _ _ _ _ _ _ _ _ => false)
  (fun id _ ρ h k => k (.exit id) ρ h)
  (fun _ b cur ρ h k => b cur ρ h (wScopeK k))
  (fun _ _ ρ h k => k .normal ρ h)
  (fun _ _ _ _ _ => false)
  (fun _ ρ h k => k .ret ρ h)
  (fun _ _ _ _ _ => false) c
theorem fcode_eq (c : Code) : fcode P call slots c = wcode P slots call c := by
 have key : ∀ c, fcode P call slots c = wcode P slots call c := by
  intro c
  induction c with
  | region id ops d =>
   funext cur ρ h k
   show fRegion P call ops d ρ h k = wRegion P call ops d ρ h k
   exact fRegion_eq P call ops d ρ h k
  | seq a b iha ihb =>
   show (fun cur ρ h k => fcode P call slots a cur ρ h (wSeqK (fcode P call slots b) cur k)) = fun cur ρ h k => wcode P slots call a cur ρ h (wSeqK (wcode P slots call b) cur k)
   rw [iha, ihb]
  | cond c a b iha ihb =>
   show wCondK c (fcode P call slots a) (fcode P call slots b) = wCondK c (wcode P slots call a) (wcode P slots call b)
   rw [iha, ihb]
  | block id b ih =>
   show (fun _ ρ h k => fcode P call slots b id ρ h (wBlockK id k)) = fun _ ρ h k => wcode P slots call b id ρ h (wBlockK id k)
   rw [ih]
  | loop b ih =>
   show wLoopK slots (writes b) (fcode P call slots b) = wLoopK slots (writes b) (wcode P slots call b)
   rw [ih]
  | scope b ih =>
   show (fun cur ρ h k => fcode P call slots b cur ρ h (wScopeK k)) = fun cur ρ h k => wcode P slots call b cur ρ h (wScopeK k)
   rw [ih]
  | _ => rfl
 exact key c
end
noncomputable def codeOf (P : Program) (f : FuncId) : Option (Nat × List ResultVar × Code) := match P.funcs[f]? with
 | none => none
 | some fn => match fn.body with
  | none => none
  | some c => match notCount P f && Nat.blt fn.ntmps 65536 with
   | true => some (fn.ntmps, fn.results.toList, c)
   | false => none
noncomputable def fBody (P : Program) (x : Nat × List ResultVar × Code) : (Nat → List Nat) → ECall → List AV → EH → (AV → EH → Bool) → Bool := fun slots call args h k =>
 wArgs args (topT 17 x.1) 0 fun ρ => fcode P call slots x.2.2 1000000 ρ h (wRetK P x.2.1 k)
noncomputable def oBody (P : Program) (x : Option (Nat × List ResultVar × Code)) : (Nat → List Nat) → ECall → List AV → EH → (AV → EH → Bool) → Bool :=
 Option.rec (motive := fun _ => (Nat → List Nat) → ECall → List AV → EH → (AV → EH → Bool) → Bool) (fun _ _ _ _ _ => false) (fBody P) x
theorem oBody_eq (P : Program) (slots : Nat → List Nat) (call : ECall) (f : FuncId) (args : List AV) (h : EH) (k : AV → EH → Bool) : oBody P (codeOf P f) slots call args h k = wfun P slots call f args h k := by
 unfold wfun codeOf
 cases P.funcs[f]? with
 | none => rfl
 | some fn =>
  simp only
  cases fn.body with
  | none => rfl
  | some c =>
   simp only
   cases hb : notCount P f && Nat.blt fn.ntmps 65536 with
   | false => simp only [Bool.false_and]; rfl
   | true =>
    simp only [Bool.true_and]
    show (wArgs args (topT 17 fn.ntmps) 0 fun ρ => fcode P call slots c 1000000 ρ h (wRetK P fn.results.toList k)) = _
    rw [fcode_eq]
abbrev OvT := List AV → EH → (AV → EH → Bool) → Bool
noncomputable def frun (P : Program) (slots : FuncId → Nat → List Nat) (ov : Ovr) (n : Nat) : ECall :=
 Nat.rec (motive := fun _ => ECall) (fun _ _ _ _ => false) (fun _ ih f => Option.rec (motive := fun _ => OvT) (fun args h k => oBody P (codeOf P f) (slots f) ih args h k) (fun g => g) (ov f)) n
theorem frun_eq (P : Program) (slots : FuncId → Nat → List Nat) (ov : Ovr) (n : Nat) : frun P slots ov n = wrun P slots ov n := by
 induction n with
 | zero => rfl
 | succ n ih =>
  funext f args h k
  show Option.rec (motive := fun _ => OvT) (fun args h k => oBody P (codeOf P f) (slots f) (frun P slots ov n) args h k) (fun g => g) (ov f) args h k = (match ov f with
  | some g => g args h k
  | none => wfun P (slots f) (wrun P slots ov n) f args h k)
  cases ov f with
  | none => simp only [ih]; exact oBody_eq P (slots f) _ f args h k
  | some g => rfl
end Go.Ab
