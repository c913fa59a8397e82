import Derived.Test.YtjackggnnjdhmaaGreatDoorCG5
import Derived.Test.YtjackggnnjdhmaaGreatDoorCG7
namespace Go.Ab
set_option linter.unusedSimpArgs false
set_option linter.unusedVariables false
noncomputable def kEq (a : IntKind) : IntKind → Bool := IntKind.rec (motive := fun _ => IntKind → Bool) (fun b => IntKind.rec (motive := fun _ => Bool) true false false false false false false false b) (fun b => IntKind.rec (motive := fun _ => Bool) false true false false false false false false b) (fun b => IntKind.rec (motive := fun _ => Bool) false false true false false false false false b) (fun b => IntKind.rec (motive := fun _ => Bool) false false false true false false false false b) (fun b => IntKind.rec (motive := fun _ => Bool) false false false false true false false false b) (fun b => IntKind.rec (motive := fun _ => Bool) false false false false false true false false b) (fun b => IntKind.rec (motive := fun _ => Bool) false false false false false false true false b) (fun b => IntKind.rec (motive := fun _ => Bool) false false false false false false false true b) a
theorem kEq_eq (a b : IntKind) : kEq a b = decide (a = b) := by cases a <;> cases b <;> rfl
noncomputable def lim (k : IntKind) : Nat := IntKind.rec (motive := fun _ => Nat) 128 32768 2147483648 9223372036854775808 256 65536 4294967296 18446744073709551616 k
theorem lim_ok {k : IntKind} {s : Nat} (h : s < lim k) : wrapK k (.ofNat s) = .ofNat s := by
 show wrapK k (s : Int) = (s : Int)
 cases k
 all_goals (simp only [lim] at h; unfold wrapK IntKind.wrap; simp [IntKind.bits, IntKind.signed]; omega)
noncomputable def onN (a : Int) : (Nat → Bool) → Bool → Bool := Int.rec (motive := fun _ => (Nat → Bool) → Bool → Bool) (fun m f _ => f m) (fun _ _ d => d) a
noncomputable def gB (b : Bool) : (AV → Bool) → Bool := Bool.rec (motive := fun _ => (AV → Bool) → Bool) (fun K => K (.bool false)) (fun K => K (.bool true)) b
noncomputable def gNB (b : Bool) : (AV → Bool) → Bool := Bool.rec (motive := fun _ => (AV → Bool) → Bool) (fun K => K (.bool true)) (fun K => K (.bool false)) b
theorem gB_eq (b : Bool) (K : AV → Bool) : gB b K = ebool b K := by cases b <;> rfl
theorem gNB_eq (b : Bool) (K : AV → Bool) : gNB b K = ebool (!b) K := by cases b <;> rfl
abbrev IB := IntKind → Int → IntKind → Int → (AV → Bool) → Bool
noncomputable def nn (ka : IntKind) (a : Int) (kb : IntKind) (b : Int) (slow : Bool) (f : Nat → Nat → Bool) : Bool := ifB (kEq ka kb) (onN a (fun m => onN b (fun n => f m n) slow) slow) false
theorem nn_eq {ka kb : IntKind} {a b : Int} {slow : Bool} {f : Nat → Nat → Bool} (h : ∀ m n : Nat, a = .ofNat m → b = .ofNat n → f m n = slow) : nn ka a kb b slow f = (decide (ka = kb) && slow) := by
 unfold nn
 rw [kEq_eq]
 cases decide (ka = kb) with
 | false => rfl
 | true =>
  show onN a (fun m => onN b (fun n => f m n) slow) slow = (true && slow)
  rw [Bool.true_and]
  cases a with
  | negSucc m => rfl
  | ofNat m =>
   show onN b (fun n => f m n) slow = slow
   cases b with
   | negSucc n => rfl
   | ofNat n => exact h m n rfl rfl
noncomputable def fitN (k : IntKind) (s : Nat) (K : AV → Bool) (slow : Bool) : Bool := ifB (Nat.blt s (lim k)) (K (.int k (.ofNat s))) slow
theorem fitN_eq {k : IntKind} {s : Nat} {K : AV → Bool} : fitN k s K (eint k (.ofNat s) K) = eint k (.ofNat s) K := by
 unfold fitN
 cases h : Nat.blt s (lim k) with
 | false => rfl
 | true =>
  show K (.int k (.ofNat s)) = eint k (.ofNat s) K
  unfold eint
  rw [lim_ok (T.blt_t h), fI_eq]
noncomputable def gAdd : IB := fun ka a kb b K => nn ka a kb b (eint ka (a + b) K) fun m n => fN (Nat.add m n) fun s => fitN ka s K (eint ka (a + b) K)
noncomputable def gMul : IB := fun ka a kb b K => nn ka a kb b (eint ka (a * b) K) fun m n => fN (Nat.mul m n) fun s => fitN ka s K (eint ka (a * b) K)
noncomputable def gSub : IB := fun ka a kb b K => nn ka a kb b (eint ka (a - b) K) fun m n => ifB (Nat.ble n m) (fN (Nat.sub m n) fun s => fitN ka s K (eint ka (a - b) K)) (eint ka (a - b) K)
noncomputable def gLss : IB := fun ka a kb b K => nn ka a kb b (ebool (decide (a < b)) K) fun m n => gB (Nat.blt m n) K
noncomputable def gLeq : IB := fun ka a kb b K => nn ka a kb b (ebool (decide (a ≤ b)) K) fun m n => gB (Nat.ble m n) K
noncomputable def gGtr : IB := fun ka a kb b K => nn ka a kb b (ebool (decide (a > b)) K) fun m n => gB (Nat.blt n m) K
noncomputable def gGeq : IB := fun ka a kb b K => nn ka a kb b (ebool (decide (a ≥ b)) K) fun m n => gB (Nat.ble n m) K
noncomputable def gEql : IB := fun ka a kb b K => nn ka a kb b (ebool (a == b) K) fun m n => gB (Nat.beq m n) K
noncomputable def gNeq : IB := fun ka a kb b K => nn ka a kb b (ebool (a != b) K) fun m n => gNB (Nat.beq m n) K
theorem blt_dec (m n : Nat) : Nat.blt m n = decide ((Int.ofNat m) < Int.ofNat n) := by
 have e : (Int.ofNat m < Int.ofNat n) ↔ m < n := by
  show ((m : Int) < (n : Int)) ↔ _
  omega
 cases h : Nat.blt m n with
 | true => exact (decide_eq_true (e.2 (T.blt_t h))).symm
 | false => exact (decide_eq_false (fun hc => by rw [T.blt_of (e.1 hc)] at h; cases h)).symm
theorem ble_dec (m n : Nat) : Nat.ble m n = decide ((Int.ofNat m) ≤ Int.ofNat n) := by
 have e : (Int.ofNat m ≤ Int.ofNat n) ↔ m ≤ n := by
  show ((m : Int) ≤ (n : Int)) ↔ _
  omega
 cases h : Nat.ble m n with
 | true => exact (decide_eq_true (e.2 (Nat.le_of_ble_eq_true h))).symm
 | false => exact (decide_eq_false (fun hc => by rw [Nat.ble_eq_true_of_le (e.1 hc)] at h; cases h)).symm
theorem beq_dec (m n : Nat) : Nat.beq m n = (Int.ofNat m == Int.ofNat n) := by
 cases h : Nat.beq m n with
 | true => rw [Nat.eq_of_beq_eq_true h]; simp
 | false =>
  have := Nat.ne_of_beq_eq_false h
  symm
  rw [beq_eq_false_iff_ne]
  intro hc; exact this (Int.ofNat.inj hc)
theorem gAdd_eq (ka a kb b K) : gAdd ka a kb b K = eIntS .add ka a kb b K := by
 show _ = (decide (ka = kb) && eint ka (a + b) K)
 exact nn_eq fun m n ha hb => by subst ha hb; rw [fN_eq]; exact fitN_eq (s := m + n)
theorem gMul_eq (ka a kb b K) : gMul ka a kb b K = eIntS .mul ka a kb b K := by
 show _ = (decide (ka = kb) && eint ka (a * b) K)
 exact nn_eq fun m n ha hb => by subst ha hb; rw [fN_eq]; exact fitN_eq (s := m * n)
theorem gSub_eq (ka a kb b K) : gSub ka a kb b K = eIntS .sub ka a kb b K := by
 show _ = (decide (ka = kb) && eint ka (a - b) K)
 refine nn_eq fun m n ha hb => ?_
 subst ha hb
 cases h : Nat.ble n m with
 | false => rfl
 | true =>
  have hle := Nat.le_of_ble_eq_true h
  show (fN (Nat.sub m n) fun s => fitN ka s K (eint ka (Int.ofNat m - Int.ofNat n) K)) = eint ka (Int.ofNat m - Int.ofNat n) K
  rw [fN_eq]
  have e : (Int.ofNat m - Int.ofNat n) = Int.ofNat (m - n) := by
   show (m : Int) - (n : Int) = ((m - n : Nat) : Int)
   omega
  rw [e]; exact fitN_eq
theorem gLss_eq (ka a kb b K) : gLss ka a kb b K = eIntS .lss ka a kb b K := by
 show _ = (decide (ka = kb) && ebool (decide (a < b)) K)
 exact nn_eq fun m n ha hb => by subst ha hb; rw [gB_eq, blt_dec]
theorem gLeq_eq (ka a kb b K) : gLeq ka a kb b K = eIntS .leq ka a kb b K := by
 show _ = (decide (ka = kb) && ebool (decide (a ≤ b)) K)
 exact nn_eq fun m n ha hb => by subst ha hb; rw [gB_eq, ble_dec]
theorem gGtr_eq (ka a kb b K) : gGtr ka a kb b K = eIntS .gtr ka a kb b K := by
 show _ = (decide (ka = kb) && ebool (decide (a > b)) K)
 exact nn_eq fun m n ha hb => by subst ha hb; rw [gB_eq, blt_dec]
theorem gGeq_eq (ka a kb b K) : gGeq ka a kb b K = eIntS .geq ka a kb b K := by
 show _ = (decide (ka = kb) && ebool (decide (a ≥ b)) K)
 exact nn_eq fun m n ha hb => by subst ha hb; rw [gB_eq, ble_dec]
theorem gEql_eq (ka a kb b K) : gEql ka a kb b K = eIntS .eql ka a kb b K := by
 show _ = (decide (ka = kb) && ebool (a == b) K)
 exact nn_eq fun m n ha hb => by subst ha hb; rw [gB_eq, beq_dec]
theorem gNeq_eq (ka a kb b K) : gNeq ka a kb b K = eIntS .neq ka a kb b K := by
 show _ = (decide (ka = kb) && ebool (a != b) K)
 exact nn_eq fun m n ha hb => by subst ha hb; rw [gNB_eq, beq_dec]; rfl
noncomputable def quick (op : BinOp) : Option IB := match op with
 | .add => some gAdd | .sub => some gSub | .mul => some gMul | .lss => some gLss | .leq => some gLeq | .gtr => some gGtr | .geq => some gGeq | .eql => some gEql | .neq => some gNeq | _ => none
theorem quick_eq {op : BinOp} {g : IB} (h : quick op = some g) (ka a kb b K) : g ka a kb b K = eIntS op ka a kb b K := by
 cases op <;> cases h
 all_goals first | exact gAdd_eq .. | exact gSub_eq .. | exact gMul_eq .. | exact gLss_eq .. | exact gLeq_eq .. | exact gGtr_eq .. | exact gGeq_eq .. | exact gEql_eq .. | exact gNeq_eq ..
noncomputable def gConv (q : IntKind) (n : Int) (K : AV → Bool) : Bool := onN n (fun m => fitN q m K (eint q n K)) (eint q n K)
theorem gConv_eq (q n K) : gConv q n K = eint q n K := by
 cases n with
 | ofNat m => exact fitN_eq
 | negSucc m => rfl
section
variable {γ : Type} (P : Program)
noncomputable def cLoadZ (z : AV) (κ : (T Blk → Nat → Nat → (AV → Bool) → Bool) → γ) : γ := match z with
 | .agg zs => κ fun t b o f => onC (t.wget b) fun c _ => wtk c o zs.length fun l => ifB (wsames zs l) (f (.agg l)) false
 | .tup _ => κ fun _ _ _ _ => false
 | z => κ fun t b o f => onC (t.wget b) fun c _ => wat1 c o fun v => ifB (sameShape z v) (f v) false
theorem onC_eq (o : Option Blk) (f : List AV → Bool → Bool) : onC o f = match o with | some (.cells c rw) => f c rw | _ => false := by
 cases o with
 | none => rfl
 | some B => cases B <;> rfl
theorem ifB_eq (b a : Bool) : ifB b a false = (b && a) := by cases b <;> rfl
theorem cLoadZ_eq (z : AV) (κ : (T Blk → Nat → Nat → (AV → Bool) → Bool) → γ) : cLoadZ z κ = κ fun t b o f => (match t.wget b with | some (.cells c _) => wLoadC z c o f | _ => false) := by
 have h : ∀ (t : T Blk) b (F : List AV → Bool → Bool), onC (t.wget b) F = match t.wget b with | some (.cells c rw) => F c rw | _ => false := fun t b F => onC_eq _ _
 cases z
 case tup => simp only [cLoadZ, wLoadC]; congr 1; funext t b o f; split <;> rfl
 all_goals simp only [cLoadZ, h, ifB_eq, wLoadC]
noncomputable def AV.mone (v : AV) : Bool → Bool → Bool := AV.rec (motive_1 := fun _ => Bool → Bool → Bool) (motive_2 := fun _ => Unit) (fun _ _ a _ => a) (fun _ a _ => a) (fun _ a _ => a) (fun _ a _ => a) (fun _ a _ => a) (fun _ a _ => a) (fun _ _ _ _ _ a _ => a) (fun a _ => a) (fun _ _ _ a _ => a) (fun a _ => a) (fun _ _ _ d => d) (fun _ _ _ d => d) () (fun _ _ _ _ => ()) v
theorem mone_eq (v : AV) (a d : Bool) : AV.mone v a d = match v.one with | true => a | false => d := by cases v <;> rfl
theorem one_cells {v : AV} (h : v.one = true) : v.cells = [v] ∧ isTup v = false := by cases v <;> first | exact ⟨rfl, rfl⟩ | (simp [AV.one] at h)
noncomputable def onSL (s : Option SL) : (SL → Bool) → Bool := Option.rec (motive := fun _ => (SL → Bool) → Bool) (fun _ => false) (fun s f => f s) s
noncomputable def cVals (os : List Operand) : ((T LV → (List AV → Bool) → Bool) → γ) → γ :=
 List.rec (motive := fun _ => ((T LV → (List AV → Bool) → Bool) → γ) → γ) (fun κ => κ fun _ k => k []) (fun o _ ih κ => cRd o fun a => ih fun r => κ fun ρ k => onV (a ρ) fun x => r ρ fun l => k (x :: l)) os
theorem cVals_eq (os : List Operand) : ∀ κ : (T LV → (List AV → Bool) → Bool) → γ, cVals os κ = κ fun ρ k => wvals ρ os k := by
 induction os with
 | nil => intro κ; rfl
 | cons o os ih =>
  intro κ
  show (cRd o fun a => cVals os fun r => κ fun ρ k => onV (a ρ) fun x => r ρ fun l => k (x :: l)) = _
  rw [cRd_eq, ih]
  congr 1; funext ρ k
  rw [onV_eq]; rfl
noncomputable def cSh1 (z : AV) (κ : (AV → Bool) → γ) : γ := match z with
 | .int k _ => κ fun v => AV.mint v (fun k' _ => kEq k k') false
 | .bool _ => κ fun v => AV.mbool v (fun _ => true) false
 | .str _ => κ fun v => AV.mstr v (fun _ => true) false
 | .ptr _ => κ fun v => AV.mptr v (fun _ => true) false
 | .sl _ => κ fun v => AV.msl v (fun _ => true) false
 | .map _ => κ fun v => AV.mmap v (fun _ => true) false
 | z => κ fun v => sameShape z v
theorem cSh1_eq (z : AV) (κ : (AV → Bool) → γ) : cSh1 z κ = κ fun v => sameShape z v := by
 cases z
 all_goals (simp only [cSh1])
 all_goals first
  | rfl
  | (congr 1; funext v; cases v <;> first | rfl | (show kEq _ _ = decide _; rw [kEq_eq]))
noncomputable def cShV (z : AV) (κ : (AV → Bool) → γ) : γ := match z with
 | .agg zs => κ fun v => shV (.agg zs) v
 | .tup zs => κ fun v => shV (.tup zs) v
 | z => cSh1 z κ
theorem cShV_eq (z : AV) (κ : (AV → Bool) → γ) : cShV z κ = κ fun v => shV z v := by
 cases z
 case agg => rfl
 case tup => rfl
 all_goals (simp only [cShV]; rw [cSh1_eq]; congr 1; funext v; simp only [shV, sameShapes, Bool.and_true])
noncomputable def cN (n : Nat) (f : Nat → γ) : γ := match n with | 0 => f 0 | m + 1 => f (Nat.succ m)
theorem cN_eq (n : Nat) (f : Nat → γ) : cN n f = f n := by cases n <;> rfl
noncomputable def cOpc (o : Oper) (κ : COc → γ) : γ := match o.op with
 | .move x => cRd x fun a => κ fun _ ρ h k => mvO (a ρ) k h
 | .assign x => cRd x fun a => κ fun _ ρ h k => mvO (a ρ) k h
 | .pick c a b => κ fun _ ρ h k => (match wev ρ c with | .val (.bool true) => fV (wev ρ a) fun v => k v h | .val (.bool false) => fV (wev ρ b) fun v => k v h | _ => false)
 | .load t x => cRd x fun a => (match tz P t with
  | some z => (match okTy P t z with
   | true => cLoadZ z fun ld => κ fun _ ρ h k => onV (a ρ) fun v => AV.mptr v (fun p => onPA p fun p => ld h.t p.b p.o fun v => k (.val v) h) false
   | false => κ fun _ _ _ _ => false)
  | none => κ fun _ _ _ _ => false)
 | .fieldAddr s x f => cRd x fun a => (match fieldOff P s f with
  | some (off, ft) => (match decide (0 < tsz P ft) with
   | true => κ fun _ ρ h k => onV (a ρ) fun v => AV.mptr v (fun p => onPA p fun p => fN (Nat.add p.o off) fun o => k (.val (.ptr (some ⟨p.b, o⟩))) h) false
   | false => κ fun _ _ _ _ => false)
  | none => κ fun _ _ _ _ => false)
 | .nilCheck x => cRd x fun a => κ fun _ ρ h k => onV (a ρ) fun v => AV.mptr v (fun p => onPA p fun _ => k (.val v) h) (wNilCheck ρ h k x)
 | .binOp op t x y _ => cRd x fun a => cRd y fun b => (match quick op with
  | some g => κ fun _ ρ h k => onV (a ρ) fun va => onV (b ρ) fun vb => AV.mint va (fun ka na => AV.mint vb (fun kb nb => g ka na kb nb fun v => k (.val v) h) (eBin P op t h va vb fun v => k (.val v) h)) (eBin P op t h va vb fun v => k (.val v) h)
  | none => κ fun _ ρ h k => onV (a ρ) fun va => onV (b ρ) fun vb => eBin P op t h va vb fun v => k (.val v) h)
 | .alloc t => (match zcells P t, o.dst with
  | some zs, some _ => (match oneAll zs with
   | true => (match bldT P t with
    | true => κ fun _ _ h k => eNewT t zs h fun b h' => k (.val (.ptr (some ⟨b, 0⟩))) h'
    | false => κ fun _ _ h k => wNew zs true h fun b h' => k (.val (.ptr (some ⟨b, 0⟩))) h')
   | false => κ fun _ _ _ _ => false)
  | _, _ => κ fun _ _ _ _ => false)
 | .box t x => (match o.dst with
  | some _ => cRd x fun a => κ fun _ ρ h k => onV (a ρ) fun v => AV.mone v (wNew [v] true h fun b h' => k (.val (.ptr (some ⟨b, 0⟩))) h') (wBox o ρ h k x)
  | none => κ fun _ _ _ _ => false)
 | .store t a x => (match (P.info? t).isSome && tsz P t == 1 with
  | true => cRd x fun rx => cRd a fun ra => κ fun _ ρ h k => onV (rx ρ) fun v => AV.mone v (onV (ra ρ) fun w => AV.mptr w (fun p => onPA p fun p => wStore h p.b p.o [v] fun h' => k .top h') false) (wStoreO P ρ h k t a x)
  | false => κ fun _ ρ h k => wStoreO P ρ h k t a x)
 | .unOp op _ x => κ fun _ ρ h k => wUnO ρ h k op x
 | .convert src dst x => (match P.underlying src, P.underlying dst with
  | some _, some (.int q) => cRd x fun a => κ fun _ ρ h k => onV (a ρ) fun v => AV.mint v (fun _ n => gConv q n fun v => k (.val v) h) (wConvert P ρ h k src dst x)
  | _, _ => κ fun _ ρ h k => wConvert P ρ h k src dst x)
 | .field s x f => κ fun _ ρ h k => wField P ρ h k s x f
 | .indexAddr t x ix => (match P.underlying t with
  | some (.slice e) => (match (P.info? e).isSome with
   | true => cN (tsz P e) fun sz => cRd x fun a => cRd ix fun b => κ fun _ ρ h k => onV (b ρ) fun vi => AV.mint vi (fun _ i => onV (a ρ) fun vx => AV.msl vx (fun s => onSL s fun s => onN i (fun m => ifB (Nat.blt m s.len) (fN (Nat.add s.o (Nat.mul m sz)) fun o => k (.val (.ptr (some ⟨s.b, o⟩))) h) false) false) false) false
   | false => κ fun _ ρ h k => wIndexAddr P ρ h k t x ix)
  | _ => κ fun _ ρ h k => wIndexAddr P ρ h k t x ix)
 | .index t x ix => κ fun _ ρ h k => wIndex P ρ h k t x ix
 | .build t ps => κ fun _ ρ h k => wBuild P ρ h k t ps
 | .buildSlice t n ps => κ fun _ ρ h k => wBuildSlice P ρ h k t n ps
 | .slice t x lo hi mx => κ fun _ ρ h k => wSlice P ρ h k t x lo hi mx
 | .makeSlice t l c => κ fun _ ρ h k => wMakeSlice P ρ h k t l c
 | .extract x i => cRd x fun a => κ fun _ ρ h k => onV (a ρ) fun v => AV.mtup v (fun vs => wat1 vs i fun v => k (.val v) h) false
 | .makeFunc fn f c => κ fun _ ρ h k => !fnY fn && wvals ρ f.toList fun a => wvals ρ c.toList fun b => k (.val (.func fn a b)) h
 | .makeInterface t x => κ fun _ ρ h k => wMakeIface P ρ h k t x
 | .call c => (match c.callee with
  | .value (.func f) => (match tz P o.type, Nat.beq f 1000000000 with
   | some z, false => cVals c.args.toList fun vs => cShV z fun sh => κ fun call ρ h k => vs ρ fun args => call f args h fun v h' => ifB (sh v) (k (.val v) h') false
   | _, _ => κ fun call ρ h k => wCallO P call o ρ h k c)
  | _ => κ fun call ρ h k => wCallO P call o ρ h k c)
 | _ => κ fun call ρ h k => eop P call o ρ h k
theorem cOpc_eq (o : Oper) (κ : COc → γ) : cOpc P o κ = κ fun call ρ h k => wop P call o ρ h k := by
 unfold cOpc
 cases ho : o.op <;> simp only []
 case move x =>
  rw [cRd_eq]; congr 1; funext call ρ h k; unfold wop; rw [ho, mvO_eq]; simp only [fV_eq]
 case assign x =>
  rw [cRd_eq]; congr 1; funext call ρ h k; unfold wop; rw [ho, mvO_eq]; simp only [fV_eq]
 case load t x =>
  rw [cRd_eq]
  have key : ∀ call ρ h k, wop P call o ρ h k = wLoadO P ρ h k t x := fun call ρ h k => by unfold wop; rw [ho]
  simp only [key]
  unfold wLoadO
  cases tz P t with
  | none => simp only []
  | some z =>
   cases hz : okTy P t z with
   | false =>
    simp only [hz]
    congr 1; funext call ρ h k
    rcases wev ρ x with v | ⟨a, b⟩ | _
    ·cases v with
     | ptr p => cases p with
      | none => rfl
      | some p => simp only [hz, Bool.false_and]
     | _ => rfl
    all_goals rfl
   | true =>
    simp only [hz, cLoadZ_eq, onV_eq]
    congr 1; funext call ρ h k
    rcases wev ρ x with v | ⟨a, b⟩ | _
    ·cases v with
     | ptr p => cases p with
      | none => rfl
      | some p => simp only [hz, Bool.true_and]; rfl
     | _ => rfl
    all_goals rfl
 case fieldAddr s x f =>
  rw [cRd_eq]
  have key : ∀ call ρ h k, wop P call o ρ h k = wFieldAddr P ρ h k s x f := fun call ρ h k => by unfold wop; rw [ho]
  simp only [key]
  unfold wFieldAddr
  cases fieldOff P s f with
  | none => simp only []
  | some y =>
   obtain ⟨off, ft⟩ := y
   simp only []
   cases hz : decide (0 < tsz P ft) with
   | false =>
    simp only [hz]
    congr 1; funext call ρ h k
    rcases wev ρ x with v | ⟨a, b⟩ | _
    ·cases v with
     | ptr p => cases p with
      | none => rfl
      | some p => simp only [hz, Bool.false_and]
     | _ => rfl
    all_goals rfl
   | true =>
    simp only [hz, onV_eq]
    congr 1; funext call ρ h k
    rcases wev ρ x with v | ⟨a, b⟩ | _
    ·cases v with
     | ptr p => cases p with
      | none => rfl
      | some p => simp only [hz, Bool.true_and]; rfl
     | _ => rfl
    all_goals rfl
 case binOp op t x y _ =>
  rw [cRd_eq, cRd_eq]
  have key : ∀ call ρ h k, wop P call o ρ h k = wBinO P ρ h k op t x y := fun call ρ h k => by unfold wop; rw [ho]
  simp only [key]
  unfold wBinO
  cases hq : quick op with
  | none =>
   simp only []
   congr 1; funext call ρ h k
   simp only [onV_eq]
   rcases wev ρ x with v | ⟨a, b⟩ | _
   ·rcases wev ρ y with v | ⟨a, b⟩ | _ <;> rfl
   all_goals rfl
  | some g =>
   simp only []
   congr 1; funext call ρ h k
   simp only [onV_eq]
   rcases wev ρ x with va | ⟨a, b⟩ | _
   ·rcases wev ρ y with vb | ⟨a, b⟩ | _
    ·cases va <;> cases vb <;> first | rfl | (show g _ _ _ _ _ = eBin P op t h _ _ _; rw [quick_eq hq]; rfl)
    all_goals rfl
   all_goals rfl
 case nilCheck x =>
  rw [cRd_eq]
  have key : ∀ call ρ h k, wop P call o ρ h k = wNilCheck ρ h k x := fun call ρ h k => by unfold wop; rw [ho]
  simp only [key]
  congr 1; funext call ρ h k
  rw [onV_eq]
  unfold wNilCheck
  rcases wev ρ x with v | ⟨a, b⟩ | _
  ·cases v with
   | ptr p => cases p <;> rfl
   | _ => rfl
  all_goals rfl
 case alloc t =>
  have key : ∀ call ρ h k, wop P call o ρ h k = wAlloc P o h k t := fun call ρ h k => by unfold wop; rw [ho]
  simp only [key]
  unfold wAlloc
  cases zcells P t with
  | none => rfl
  | some zs => cases o.dst with
   | none => rfl
   | some d =>
    simp only []
    cases hz : oneAll zs with
    | true =>
     simp only [Bool.true_and]
     cases bldT P t with
     | true => rfl
     | false => rfl
    | false => simp only [Bool.false_and]
 case box t x =>
  have key : ∀ call ρ h k, wop P call o ρ h k = wBox o ρ h k x := fun call ρ h k => by unfold wop; rw [ho]
  simp only [key]
  cases hd : o.dst with
  | none =>
   simp only []
   congr 1; funext call ρ h k
   unfold wBox; rw [hd]
   rcases wev ρ x with v | ⟨a, b⟩ | _ <;> rfl
  | some d =>
   simp only []
   rw [cRd_eq]
   congr 1; funext call ρ h k
   rw [onV_eq]
   have hw : wBox o ρ h k x = match wev ρ x with | .val v => (!isTup v && oneAll v.cells && wNew v.cells true h fun b h' => k (.val (.ptr (some ⟨b, 0⟩))) h') | _ => false := by
    unfold wBox; rw [hd]
    rcases wev ρ x with v | ⟨a, b⟩ | _ <;> rfl
   rw [hw]
   rcases wev ρ x with v | ⟨a, b⟩ | _
   ·simp only []
    rw [mone_eq]
    cases h1 : v.one with
    | false => rfl
    | true =>
     simp only []
     obtain ⟨c1, c2⟩ := one_cells h1
     rw [c1, c2]
     simp only [oneAll, List.all_cons, List.all_nil, h1, Bool.not_false, Bool.true_and, Bool.and_true]
   all_goals rfl
 case store t a x =>
  have key : ∀ call ρ h k, wop P call o ρ h k = wStoreO P ρ h k t a x := fun call ρ h k => by unfold wop; rw [ho]
  simp only [key]
  cases hs : (P.info? t).isSome && tsz P t == 1 with
  | false => rfl
  | true =>
   simp only []
   rw [cRd_eq, cRd_eq]
   congr 1; funext call ρ h k
   simp only [onV_eq]
   rw [Bool.and_eq_true, beq_iff_eq] at hs
   have hw : wStoreO P ρ h k t a x = match wev ρ x, wev ρ a with
     | .val v, .val (.ptr (some p)) => (v.cells.length == 1 && oneAll v.cells) && wStore h p.b p.o v.cells fun h' => k .top h'
     | _, _ => false := by
    unfold wStoreO
    rw [hs.1, hs.2]
    simp only [Bool.true_and]
    rfl
   rw [hw]
   rcases wev ρ x with v | ⟨a1, b1⟩ | _
   ·simp only []
    rw [mone_eq]
    cases h1 : v.one with
    | false => rfl
    | true =>
     simp only []
     rcases wev ρ a with w | ⟨a2, b2⟩ | _
     ·cases w with
      | ptr p => cases p with
       | none => rfl
       | some p =>
        obtain ⟨c1, c2⟩ := one_cells h1
        simp only [c1]
        simp only [oneAll, List.all_cons, List.all_nil, h1, List.length_cons, List.length_nil, Bool.and_true]
        rfl
      | _ => rfl
     all_goals rfl
   all_goals (rcases wev ρ a with w | ⟨a2, b2⟩ | _ <;> rfl)
 case convert src dst x =>
  have key : ∀ call ρ h k, wop P call o ρ h k = wConvert P ρ h k src dst x := fun call ρ h k => by unfold wop; rw [ho]
  simp only [key]
  split
  ·rename_i y q h1 h2
   rw [cRd_eq]
   congr 1; funext call ρ h k
   rw [onV_eq]
   unfold wConvert
   rw [h1, h2]
   rcases wev ρ x with v | ⟨a2, b2⟩ | _
   ·cases v with
    | int k' n => show gConv q n _ = eint q n _; exact gConv_eq ..
    | _ => rfl
   all_goals (cases y <;> rfl)
  ·rfl
 case indexAddr t x ix =>
  have key : ∀ call ρ h k, wop P call o ρ h k = wIndexAddr P ρ h k t x ix := fun call ρ h k => by unfold wop; rw [ho]
  simp only [key]
  split
  ·rename_i e h1
   cases h2 : (P.info? e).isSome with
   | false => rfl
   | true =>
    simp only [cN_eq]
    rw [cRd_eq, cRd_eq]
    congr 1; funext call ρ h k
    simp only [onV_eq]
    unfold wIndexAddr wevI
    rw [h1]
    rcases wev ρ ix with vi | ⟨a2, b2⟩ | _
    ·cases vi with
     | int k' i =>
      simp only []
      rcases wev ρ x with vx | ⟨a2, b2⟩ | _
      ·cases vx with
       | sl s => cases s with
        | none => rfl
        | some s =>
         simp only [h2, Bool.true_and]
         show onN i (fun m => ifB (Nat.blt m s.len) (fN (Nat.add s.o (Nat.mul m (tsz P e))) fun o => k (.val (.ptr (some ⟨s.b, o⟩))) h) false) false = _
         cases i with
         | negSucc m => rfl
         | ofNat m =>
          show ifB (Nat.blt m s.len) _ false = _
          rw [ifB_eq]
          have e1 : decide ((0 : Int) ≤ Int.ofNat m) = true := rfl
          have e2 : decide (Int.ofNat m < (s.len : Int)) = Nat.blt m s.len := (blt_dec m s.len).symm
          rw [e1, e2, Bool.true_and]
          rfl
       | _ => rfl
      all_goals rfl
     | _ => rfl
    all_goals rfl
  ·rfl
 case call c =>
  have key : ∀ call ρ h k, wop P call o ρ h k = wCallO P call o ρ h k c := fun call ρ h k => by unfold wop; rw [ho]
  simp only [key]
  split
  ·rename_i f hc
   split
   ·rename_i z hz hb
    rw [cVals_eq, cShV_eq]
    congr 1; funext call ρ h k
    unfold wCallO
    congr 1; funext args
    rw [hc]
    simp only [hz]
    show _ = wCallF P call (.func (.func f) [] []) args h fun v h' => shV z v && k (.val v) h'
    show _ = (!Nat.beq f 1000000000 && wap args [] fun a => wap [] a fun a => call f a h fun v h' => shV z v && k (.val v) h')
    rw [hb, wap_eq, ap_eq]
    show _ = (true && call f (args ++ []) h fun v h' => shV z v && k (.val v) h')
    rw [List.append_nil, Bool.true_and]
    simp only [ifB_eq]
   ·rfl
  ·rfl
 case extract x i =>
  rw [cRd_eq]
  have key : ∀ call ρ h k, wop P call o ρ h k = wExtract ρ h k x i := fun call ρ h k => by unfold wop; rw [ho]
  simp only [key]
  unfold wExtract
  congr 1; funext call ρ h k
  simp only [onV_eq]
  rcases wev ρ x with v | ⟨a, b⟩ | _
  ·cases v <;> rfl
  all_goals rfl
 case pick c a b =>
  congr 1; funext call ρ h k; unfold wop; rw [ho]; rfl
 all_goals (congr 1; funext call ρ h k; unfold wop; rw [ho])
end
section
variable {γ : Type} (P : Program)
noncomputable def grT (v : AV) (on off : Bool) : Bool := AV.mbool v (fun b => ifB b on off) (AV.mtup v (fun l => nilB l off) false)
noncomputable def grF (v : AV) (on off : Bool) : Bool := AV.mbool v (fun b => ifB b off on) (AV.mtup v (fun l => nilB l off) false)
noncomputable def cGuard (ops : Array Oper) (o : Oper) (κ : CFc → γ) : γ := match o.guard with
 | none => cOpc P o fun f => cPut o.dst fun p => κ fun call ρ h k => f call ρ h fun v h' => p v ρ h' k
 | some (j, want) => (match (ops[j]?).bind (·.dst) with
  | none => κ fun _ _ _ _ => false
  | some d => cAcc d fun a => cOpc P o fun f => cPut o.dst fun p => (match want with
   | true => κ fun call ρ h k => onV (a ρ) fun v => grT v (f call ρ h fun v h' => p v ρ h' k) (p .und ρ h k)
   | false => κ fun call ρ h k => onV (a ρ) fun v => grF v (f call ρ h fun v h' => p v ρ h' k) (p .und ρ h k)))
theorem onV_get (o : Option LV) (f : AV → Bool) : onV o f = match o with | some (.val v) => f v | _ => false := by
 cases o with
 | none => rfl
 | some lv => cases lv <;> rfl
theorem cGuard_eq (ops : Array Oper) (o : Oper) (κ : CFc → γ) : cGuard P ops o κ = κ fun call ρ h k => wguarded P call ops o ρ h k := by
 unfold cGuard
 cases hg : o.guard with
 | none =>
  simp only [cOpc_eq, cPut_eq]
  congr 1; funext call ρ h k
  unfold wguarded; rw [hg]
 | some g =>
  obtain ⟨j, want⟩ := g
  simp only []
  cases hd : (ops[j]?).bind (·.dst) with
  | none =>
   simp only []
   congr 1; funext call ρ h k
   unfold wguarded wGuardOff wGuardVal; rw [hg]; simp only [hd]
  | some d =>
   simp only [cAcc_eq, cOpc_eq, cPut_eq]
   have key : ∀ call ρ h k, wguarded P call ops o ρ h k = (match ρ.wget d with
     | some (.val (.tup [])) => wput o.dst .und ρ h k
     | some (.val (.bool true)) => wside P call o want ρ h k
     | some (.val (.bool false)) => wside P call o (!want) ρ h k
     | _ => false) := fun call ρ h k => by
    unfold wguarded wGuardOff wGuardVal; rw [hg]; simp only [hd]
    rcases ρ.wget d with _ | v
    ·rfl
    ·cases v with
     | val v => cases v with
      | bool b => cases b <;> rfl
      | tup l => cases l <;> rfl
      | _ => rfl
     | _ => rfl
   cases want with
   | true =>
    simp only []
    congr 1; funext call ρ h k
    rw [key, onV_get]
    rcases ρ.wget d with _ | v
    ·rfl
    ·cases v with
     | val v => cases v with
      | bool b => cases b <;> rfl
      | tup l => cases l <;> rfl
      | _ => rfl
     | _ => rfl
   | false =>
    simp only []
    congr 1; funext call ρ h k
    rw [key, onV_get]
    rcases ρ.wget d with _ | v
    ·rfl
    ·cases v with
     | val v => cases v with
      | bool b => cases b <;> rfl
      | tup l => cases l <;> rfl
      | _ => rfl
     | _ => rfl
noncomputable def cOps (ops : Array Oper) (l : List Oper) : (CFc → γ) → γ :=
 List.rec (motive := fun _ => (CFc → γ) → γ) (fun κ => κ fun _ ρ h k => k ρ h) (fun o _ ih κ => cGuard P ops o fun f => ih fun rest => κ fun call ρ h k => f call ρ h fun ρ' h' => rest call ρ' h' k) l
theorem cOps_eq (ops : Array Oper) (l : List Oper) : ∀ κ : CFc → γ, cOps P ops l κ = κ fun call ρ h k => wops P call ops l ρ h k := by
 induction l with
 | nil => intro κ; rfl
 | cons o l ih =>
  intro κ
  show (cGuard P ops o fun f => cOps P ops l fun rest => κ fun call ρ h k => f call ρ h fun ρ' h' => rest call ρ' h' k) = _
  rw [cGuard_eq, ih]
  rfl
noncomputable def smB (lv : LV) (o : Option LV) : Bool := Option.rec (motive := fun _ => LV → Bool) (fun _ => false) (fun v lv => lvEq lv v) o lv
noncomputable def cSame (o : Oper) (κ : (T LV → LV → Bool) → γ) : γ := match o.dst with
 | some d => cAcc d fun a => κ fun ρ lv => smB lv (a ρ)
 | none => κ fun _ _ => true
theorem cSame_eq (o : Oper) (κ : (T LV → LV → Bool) → γ) : cSame o κ = κ fun ρ lv => wSameK o ρ lv ⟨.e, 0⟩ := by
 unfold cSame wSameK
 cases o.dst with
 | none => rfl
 | some d =>
  simp only [cAcc_eq]
  congr 1; funext ρ lv
  cases ρ.wget d <;> rfl
abbrev CBc := ECall → T LV → EH → Bool
noncomputable def cChk1 (ops : Array Oper) (i : Nat) (κ : CBc → γ) : γ := match ops[i]? with
 | none => κ fun _ _ _ => false
 | some o => (match o.guard with
  | none => cOpc P o fun f => cSame o fun s => κ fun call ρ h => f call ρ h fun lv _ => s ρ lv
  | some (j, want) => (match (ops[j]?).bind (·.dst) with
   | none => κ fun _ _ _ => false
   | some d => cAcc d fun a => cOpc P o fun f => cSame o fun s => (match want with
    | true => κ fun call ρ h => onV (a ρ) fun v => grT v (f call ρ h fun lv _ => s ρ lv) (s ρ .und)
    | false => κ fun call ρ h => onV (a ρ) fun v => grF v (f call ρ h fun lv _ => s ρ lv) (s ρ .und))))
theorem cChk1_eq (ops : Array Oper) (i : Nat) (κ : CBc → γ) : cChk1 P ops i κ = κ fun call ρ h => wrechk1 P call ops i ρ h := by
 unfold cChk1 wrechk1
 cases ho : ops[i]? with
 | none => rfl
 | some o =>
  simp only []
  cases hg : o.guard with
  | none =>
   simp only [cOpc_eq, cSame_eq]
   congr 1
  | some g =>
   obtain ⟨j, want⟩ := g
   simp only []
   cases hd : (ops[j]?).bind (·.dst) with
   | none =>
    simp only []
    congr 1; funext call ρ h
    unfold wGuardOff wGuardVal; simp only [hd]
   | some d =>
    simp only [cAcc_eq, cOpc_eq, cSame_eq]
    cases want with
    | true =>
     simp only []
     congr 1; funext call ρ h
     unfold wGuardOff wGuardVal; simp only [hd]
     rw [onV_get]
     rcases ρ.wget d with _ | v
     ·rfl
     ·cases v with
      | val v => cases v with
       | bool b => cases b <;> rfl
       | tup l => cases l <;> rfl
       | _ => rfl
      | _ => rfl
    | false =>
     simp only []
     congr 1; funext call ρ h
     unfold wGuardOff wGuardVal; simp only [hd]
     rw [onV_get]
     rcases ρ.wget d with _ | v
     ·rfl
     ·cases v with
      | val v => cases v with
       | bool b => cases b <;> rfl
       | tup l => cases l <;> rfl
       | _ => rfl
      | _ => rfl
abbrev CKc := ECall → T LV → EH → Bool → Bool
noncomputable def cChks (ops : Array Oper) (l : List Nat) : (CKc → γ) → γ :=
 List.rec (motive := fun _ => (CKc → γ) → γ) (fun κ => κ fun _ _ _ a => a) (fun i _ ih κ => cChk1 P ops i fun c => ih fun r => κ fun call ρ h a => ifB (c call ρ h) (r call ρ h a) false) l
theorem cChks_eq (ops : Array Oper) (l : List Nat) : ∀ κ : CKc → γ, cChks P ops l κ = κ fun call ρ h a => wrechks P call ops ρ h a l := by
 induction l with
 | nil => intro κ; rfl
 | cons i l ih =>
  intro κ
  show (cChk1 P ops i fun c => cChks P ops l fun r => κ fun call ρ h a => ifB (c call ρ h) (r call ρ h a) false) = _
  rw [cChk1_eq, ih]
  congr 1; funext call ρ h a
  show ifB _ _ false = (wrechk1 P call ops i ρ h && wrechks P call ops ρ h a l)
  rw [ifB_eq]
noncomputable def cAll (g : Nat → (CFc → γ) → γ) (l : List Nat) : (CFc → γ) → γ :=
 List.rec (motive := fun _ => (CFc → γ) → γ) (fun κ => κ fun _ _ _ _ => true) (fun j js ih κ => match js with
  | [] => g j κ
  | _ :: _ => g j fun a => ih fun b => κ fun call ρ h k => ifB (a call ρ h k) (b call ρ h k) false) l
theorem cAll_eq {g : Nat → (CFc → γ) → γ} {d : Nat → CFc} (hg : ∀ j κ, g j κ = κ (d j)) (l : List Nat) : ∀ κ : CFc → γ, cAll g l κ = κ fun call ρ h k => eall l fun j => d j call ρ h k := by
 induction l with
 | nil => intro κ; rfl
 | cons j js ih =>
  intro κ
  cases js with
  | nil => show g j κ = _; rw [hg]; rfl
  | cons j2 js =>
   show (g j fun a => cAll g (j2 :: js) fun b => κ fun call ρ h k => ifB (a call ρ h k) (b call ρ h k) false) = _
   rw [hg, ih]
   congr 1; funext call ρ h k
   rw [ifB_eq]; rfl
noncomputable def cAny (ops : Array Oper) (rows : List Nat) (m : Nat) (lt : Option (List Nat)) (n : Nat) : List Nat → (CFc → γ) → γ :=
 Nat.rec (motive := fun _ => List Nat → (CFc → γ) → γ) (fun _ κ => κ fun _ _ _ _ => false) (fun _ ih listed κ => match readyRO P ops listed with
  | some i => (match ops[i]? with
   | some o => cGuard P ops o fun f => ih (i :: listed) fun r => κ fun call ρ h k => f call ρ h fun ρ' h' => r call ρ' h' k
   | none => κ fun _ _ _ _ => false)
  | none => match readyZ ops lt listed with
   | [] => (match (List.range ops.size).all listed.contains with | true => κ fun _ ρ h k => k ρ h | false => κ fun _ _ _ _ => false)
   | j :: js => cAll (fun j κ => match ops[j]? with
    | some o => cGuard P ops o fun f => cChks P ops (toCheck P ops rows m listed j) fun c => ih (j :: listed) fun r => κ fun call ρ h k => f call ρ h fun ρ' h' => c call ρ' h' (r call ρ' h' k)
    | none => κ fun _ _ _ _ => false) (j :: js) κ) n
theorem cAny_eq (ops : Array Oper) (rows : List Nat) (m : Nat) (lt : Option (List Nat)) (n : Nat) : ∀ listed (κ : CFc → γ), cAny P ops rows m lt n listed κ = κ fun call ρ h k => wany P call ops rows m lt n listed ρ h k := by
 induction n with
 | zero => intro listed κ; rfl
 | succ n ih =>
  intro listed κ
  show (match readyRO P ops listed with
   | some i => (match ops[i]? with
    | some o => cGuard P ops o fun f => cAny P ops rows m lt n (i :: listed) fun r => κ fun call ρ h k => f call ρ h fun ρ' h' => r call ρ' h' k
    | none => κ fun _ _ _ _ => false)
   | none => match readyZ ops lt listed with
    | [] => (match (List.range ops.size).all listed.contains with | true => κ fun _ ρ h k => k ρ h | false => κ fun _ _ _ _ => false)
    | j :: js => cAll (fun j κ => match ops[j]? with
     | some o => cGuard P ops o fun f => cChks P ops (toCheck P ops rows m listed j) fun c => cAny P ops rows m lt n (j :: listed) fun r => κ fun call ρ h k => f call ρ h fun ρ' h' => c call ρ' h' (r call ρ' h' k)
     | none => κ fun _ _ _ _ => false) (j :: js) κ) = κ fun call ρ h k => (match readyRO P ops listed with
   | some i => (match ops[i]? with
    | some o => wguarded P call ops o ρ h fun ρ' h' => wany P call ops rows m lt n (i :: listed) ρ' h' k
    | none => false)
   | none => match readyZ ops lt listed with
    | [] => (List.range ops.size).all listed.contains && k ρ h
    | j :: js => eall (j :: js) fun j => match ops[j]? with
     | some o => wguarded P call ops o ρ h fun ρ' h' => wrechks P call ops ρ' h' (wany P call ops rows m lt n (j :: listed) ρ' h' k) (toCheck P ops rows m listed j)
     | none => false)
  cases readyRO P ops listed with
  | some i =>
   simp only []
   cases ops[i]? with
   | none => rfl
   | some o => simp only [cGuard_eq, ih]
  | none =>
   simp only []
   cases readyZ ops lt listed with
   | nil =>
    simp only []
    cases (List.range ops.size).all listed.contains <;> rfl
   | cons j js =>
    simp only []
    refine cAll_eq (d := fun j call ρ h k => match ops[j]? with
     | some o => wguarded P call ops o ρ h fun ρ' h' => wrechks P call ops ρ' h' (wany P call ops rows m lt n (j :: listed) ρ' h' k) (toCheck P ops rows m listed j)
     | none => false) (fun j κ => ?_) (j :: js) κ
    cases ops[j]? with
    | none => rfl
    | some o => simp only [cGuard_eq, cChks_eq, ih]
noncomputable def cDraw (ops : Array Oper) (κ : CFc → γ) : γ := match okDraw P ops (rowsOf ops).1 (rowsOf ops).2 with
 | true => cAny P ops (rowsOf ops).1 (rowsOf ops).2 (lateAt P true ops) (ops.size + 1) [] κ
 | false => κ fun _ _ _ _ => false
theorem cDraw_eq (ops : Array Oper) (κ : CFc → γ) : cDraw P ops κ = κ fun call ρ h k => wdraw P call ops ρ h k := by
 unfold cDraw wdraw
 cases okDraw P ops (rowsOf ops).1 (rowsOf ops).2 with
 | false => rfl
 | true => simp only [cAny_eq, Bool.true_and]
noncomputable def onL (l : List AV) : Bool → (AV → List AV → Bool) → Bool := List.rec (motive := fun _ => Bool → (AV → List AV → Bool) → Bool) (fun a _ => a) (fun v l _ _ f => f v l) l
noncomputable def shD (x : AV) : AV → Bool := AV.rec (motive_1 := fun _ => AV → Bool) (motive_2 := fun _ => Unit) (fun k _ y => AV.mint y (fun k' _ => kEq k k') false) (fun _ y => AV.mbool y (fun _ => true) false) (fun _ y => AV.mstr y (fun _ => true) false) (fun _ y => AV.mptr y (fun _ => true) false) (fun _ y => AV.msl y (fun _ => true) false) (fun _ y => AV.mmap y (fun _ => true) false) (fun _ _ _ _ _ y => AV.mone y true false) (fun y => AV.mone y true false) (fun _ _ _ y => AV.mone y true false) (fun y => AV.mone y true false) (fun _ _ y => AV.mone y true false) (fun _ _ y => AV.mone y true false) () (fun _ _ _ _ => ()) x
theorem shD_eq (x y : AV) : shD x y = sameShape x y := by
 cases x
 case int k n => cases y <;> first | rfl | (show kEq _ _ = decide _; rw [kEq_eq])
 all_goals (cases y <;> rfl)
noncomputable def shDs (a : List AV) : List AV → Bool :=
 List.rec (motive := fun _ => List AV → Bool) (fun b => onL b true fun _ _ => false) (fun x _ ih b => onL b false fun y bs => ifB (shD x y) (ih bs) false) a
theorem shDs_eq (a : List AV) : ∀ b, shDs a b = wsames a b := by
 induction a with
 | nil => intro b; cases b <;> rfl
 | cons x a ih =>
  intro b
  cases b with
  | nil => rfl
  | cons y b =>
   show ifB (shD x y) (shDs a b) false = (sameShape x y && wsames a b)
   rw [ifB_eq, shD_eq, ih]
noncomputable def cSlots (l : List Nat) : ((T LV → (List AV → Bool) → Bool) → γ) → γ :=
 List.rec (motive := fun _ => ((T LV → (List AV → Bool) → Bool) → γ) → γ) (fun κ => κ fun _ k => k []) (fun s _ ih κ => cAcc s fun a => ih fun r => κ fun ρ k => onV (a ρ) fun v => r ρ fun l => k (v :: l)) l
theorem cSlots_eq (l : List Nat) : ∀ κ : (T LV → (List AV → Bool) → Bool) → γ, cSlots l κ = κ fun ρ k => wSlots ρ l k := by
 induction l with
 | nil => intro κ; rfl
 | cons s l ih =>
  intro κ
  show (cAcc s fun a => cSlots l fun r => κ fun ρ k => onV (a ρ) fun v => r ρ fun l => k (v :: l)) = _
  rw [cAcc_eq, ih]
  congr 1; funext ρ k
  rw [onV_get]; rfl
noncomputable def cTop (l : List Nat) : ((T LV → (T LV → Bool) → Bool) → γ) → γ :=
 List.rec (motive := fun _ => ((T LV → (T LV → Bool) → Bool) → γ) → γ) (fun κ => κ fun ρ k => k ρ) (fun s _ ih κ => cPutR s fun p => ih fun r => κ fun ρ k => p ρ .top fun ρ' => r ρ' k) l
theorem cTop_eq (l : List Nat) : ∀ κ : (T LV → (T LV → Bool) → Bool) → γ, cTop l κ = κ fun ρ k => wTop l ρ k := by
 induction l with
 | nil => intro κ; rfl
 | cons s l ih =>
  intro κ
  show (cPutR s fun p => cTop l fun r => κ fun ρ k => p ρ .top fun ρ' => r ρ' k) = _
  rw [cPutR_eq, ih]; rfl
abbrev PS := T LV → List AV → (T LV → Bool) → Bool
noncomputable def cPutS (l : List Nat) : (PS → γ) → γ :=
 List.rec (motive := fun _ => (PS → γ) → γ) (fun κ => κ fun ρ vs k => onL vs (k ρ) fun _ _ => false) (fun s _ ih κ => cPutR s fun p => ih fun r => κ fun ρ vs k => onL vs false fun v vs => p ρ (.val v) fun ρ' => r ρ' vs k) l
theorem cPutS_eq (l : List Nat) : ∀ κ : PS → γ, cPutS l κ = κ fun ρ vs k => wPutSlots l ρ vs k := by
 induction l with
 | nil => intro κ; show (κ fun ρ vs k => onL vs (k ρ) fun _ _ => false) = _; congr 1; funext ρ vs k; cases vs <;> rfl
 | cons s l ih =>
  intro κ
  show (cPutR s fun p => cPutS l fun r => κ fun ρ vs k => onL vs false fun v vs => p ρ (.val v) fun ρ' => r ρ' vs k) = _
  rw [cPutR_eq, ih]
  congr 1; funext ρ vs k
  cases vs <;> rfl
noncomputable def cArgs (n : Nat) : Nat → (PS → γ) → γ :=
 Nat.rec (motive := fun _ => Nat → (PS → γ) → γ) (fun i κ => κ fun t l k => wArgs l t i k) (fun _ ih i κ => cPutR i fun p => ih (Nat.succ i) fun r => κ fun t l k => onL l (k t) fun v l => p t (.val v) fun t' => r t' l k) n
theorem cArgs_eq (n : Nat) : ∀ (i : Nat) (κ : PS → γ), cArgs n i κ = κ fun t l k => wArgs l t i k := by
 induction n with
 | zero => intro i κ; rfl
 | succ n ih =>
  intro i κ
  show (cPutR i fun p => cArgs n (Nat.succ i) fun r => κ fun t l k => onL l (k t) fun v l => p t (.val v) fun t' => r t' l k) = _
  rw [cPutR_eq, ih]
  congr 1; funext t l k
  cases l with
  | nil => rfl
  | cons v l =>
   show (t.wput i (.val v) fun t' => wArgs l t' (Nat.succ i) k) = (t.wput i (.val v) fun t' => fN (Nat.succ i) fun j => wArgs l t' j k)
   simp only [fN_eq]
noncomputable def argG : G PS := cArgs 10 0 fun f => ⟨f⟩
theorem argG_eq : argG.f = fun t l k => wArgs l t 0 k := by
 unfold argG; rw [cArgs_eq]
noncomputable def exR (e : Exit) : Bool → Bool := Exit.rec (motive := fun _ => Bool → Bool) (fun a => a) (fun _ _ => false) (fun _ _ => false) (fun a => a) (fun _ _ => false) (fun _ => false) e
def tmps : List ResultVar → Option (List Nat)
 | [] => some []
 | .tmp t :: l => (match tmps l with | some r => some (t :: r) | none => none)
 | .cell _ _ :: _ => none
theorem tmps_eq (ρ : T LV) (h : EH) : ∀ {rs : List ResultVar} {l : List Nat}, tmps rs = some l → ∀ k, wresults P ρ h rs k = wSlots ρ l k
 | [], l, hl, k => by cases hl; rfl
 | .tmp t :: rs, l, hl, k => by
  simp only [tmps] at hl
  cases hr : tmps rs with
  | none => rw [hr] at hl; cases hl
  | some r =>
   rw [hr] at hl; cases hl
   show (match ρ.wget t with | some (.val v) => wresults P ρ h rs fun l => k (v :: l) | _ => false) = (match ρ.wget t with | some (.val v) => wSlots ρ r fun l => k (v :: l) | _ => false)
   simp only [tmps_eq ρ h hr]
 | .cell _ _ :: rs, l, hl, k => by cases hl
abbrev RF := (AV → EH → Bool) → XK
noncomputable def cRet (rs : List ResultVar) (κ : RF → γ) : γ := match tmps rs with
 | some [t] => cAcc t fun a => κ fun k e ρ h => exR e (onV (a ρ) fun v => k v h)
 | some l => cSlots l fun s => κ fun k e ρ h => exR e (s ρ fun l => (match l with | [v] => k v h | l => k (.tup l) h))
 | none => κ fun k => wRetK P rs k
theorem cRet_eq (rs : List ResultVar) (κ : RF → γ) : cRet P rs κ = κ fun k => wRetK P rs k := by
 unfold cRet
 have key : ∀ {l : List Nat}, tmps rs = some l → (fun k => wRetK P rs k) = fun (k : AV → EH → Bool) (e : Exit) (ρ : T LV) (h : EH) => exR e (wSlots ρ l fun l => (match l with | [v] => k v h | l => k (.tup l) h)) := fun {l} hl => by
  funext k e ρ h
  cases e <;> first | rfl | (show wresults P ρ h rs _ = wSlots ρ l _; rw [tmps_eq P ρ h hl]; rfl)
 split
 ·rename_i t ht
  rw [key ht, cAcc_eq]
  congr 1; funext k e ρ h
  cases e
  all_goals first
   | rfl
   | (show onV (ρ.wget t) (fun v => k v h) = (match ρ.wget t with | some (.val v) => k v h | _ => false); rw [onV_get])
 ·rename_i l _ ht
  rw [key ht, cSlots_eq]
 ·rfl
noncomputable def hloop (put : PS) (get : T LV → (List AV → Bool) → Bool) (body : T LV → EH → XK → Bool) (ρ0 : T LV) (xs0 : List AV) (k : XK) (n : Nat) : List AV → EH → Bool :=
 Nat.rec (motive := fun _ => List AV → EH → Bool) (fun _ _ => false) (fun _ ih xs h => put ρ0 xs fun ρ => body ρ h fun e ρ' h' => exN e (get ρ' fun xs' => ifB (shDs xs0 xs') (ih xs' h') false) (k e ρ' h')) n
theorem hloop_eq (slots : List Nat) (body : T LV → EH → XK → Bool) (ρ0 : T LV) (xs0 : List AV) (k : XK) (n : Nat) : ∀ xs h, hloop (fun ρ vs k => wPutSlots slots ρ vs k) (fun ρ k => wSlots ρ slots k) body ρ0 xs0 k n xs h = wloop body slots ρ0 xs0 k n xs h := by
 induction n with
 | zero => intro xs h; rfl
 | succ n ih =>
  intro xs h
  show (wPutSlots slots ρ0 xs fun ρ => body ρ h fun e ρ' h' => exN e (wSlots ρ' slots fun xs' => ifB (shDs xs0 xs') (hloop (fun ρ vs k => wPutSlots slots ρ vs k) (fun ρ k => wSlots ρ slots k) body ρ0 xs0 k n xs' h') false) (k e ρ' h')) = (wPutSlots slots ρ0 xs fun ρ => body ρ h fun e ρ' h' => match e with
   | .normal => wSlots ρ' slots fun xs' => wsames xs0 xs' && wloop body slots ρ0 xs0 k n xs' h'
   | e => k e ρ' h')
  simp only [ifB_eq, shDs_eq, ih]
  congr 1; funext ρ; congr 1; funext e ρ' h'
  cases e <;> rfl
variable (slots : Nat → List Nat)
theorem beqN (i id : Nat) : Nat.beq i id = (i == id) := by
 cases h : Nat.beq i id with
 | true => rw [Nat.eq_of_beq_eq_true h]; simp
 | false =>
  have := Nat.ne_of_beq_eq_false h
  simp [this]
noncomputable def cCode (c : Code) : Nat → (CX → γ) → γ :=
 Code.rec (motive := fun _ => Nat → (CX → γ) → γ)
  (fun _ κ => κ fun _ ρ h k => k .normal ρ h)
  (fun _ ops d _ κ => match d with
   | false => cOps P ops ops.toList fun f => κ fun call ρ h k => f call ρ h (k .normal)
   | true => cDraw P ops fun f => κ fun call ρ h k => f call ρ h (k .normal))
  (fun _ _ ca cb cur κ => ca cur fun fa => cb cur fun fb => κ fun call ρ h k => fa call ρ h fun e ρ' h' => exN e (fb call ρ' h' k) (k e ρ' h'))
  (fun c _ _ ca cb cur κ => cRd c fun r => ca cur fun fa => cb cur fun fb => κ fun call ρ h k => onV (r ρ) fun v => AV.mbool v (fun b => ifB b (fa call ρ h k) (fb call ρ h k)) false)
  (fun id _ cb _ κ => cb id fun fb => κ fun call ρ h k => fb call ρ h fun e ρ' h' => exX e (fun i => ifB (Nat.beq i id) (k .normal ρ' h') (k (.exit i) ρ' h')) (k e ρ' h'))
  (fun body cb cur κ => cSlots (slots cur) fun get => cPutS (slots cur) fun put => cTop (writes body) fun top => cb cur fun fb => κ fun call ρ h k => get ρ fun xs0 => ifB (shDs xs0 xs0) (top ρ fun ρ0 => hloop put get (fb call) ρ0 xs0 k 1000000 xs0 h) false)
  (fun _ _ _ _ _ _ _ κ => κ fun _ _ _ _ => false)
  (fun id _ κ => κ fun _ ρ h k => k (.exit id) ρ h)
  (fun _ cb cur κ => cb cur fun fb => κ fun call ρ h k => fb call ρ h fun e ρ' h' => exG e (k e ρ' h'))
  (fun _ _ κ => κ fun _ ρ h k => k .normal ρ h)
  (fun _ _ κ => κ fun _ _ _ _ => false)
  (fun _ κ => κ fun _ ρ h k => k .ret ρ h)
  (fun _ _ κ => κ fun _ _ _ _ => false) c
theorem cCode_eq (c : Code) : ∀ (cur : Nat) (κ : CX → γ), cCode P slots c cur κ = κ fun call ρ h k => wcode P slots call c cur ρ h k := by
 induction c with
 | skip => intro cur κ; rfl
 | region id ops d =>
  intro cur κ
  cases d with
  | false =>
   show (cOps P ops ops.toList fun f => κ fun call ρ h k => f call ρ h (k .normal)) = _
   rw [cOps_eq]; rfl
  | true =>
   show (cDraw P ops fun f => κ fun call ρ h k => f call ρ h (k .normal)) = _
   rw [cDraw_eq]; rfl
 | seq a b iha ihb =>
  intro cur κ
  show (cCode P slots a cur fun fa => cCode P slots b cur fun fb => κ fun call ρ h k => fa call ρ h fun e ρ' h' => exN e (fb call ρ' h' k) (k e ρ' h')) = _
  rw [iha, ihb]
  congr 1; funext call ρ h k
  show _ = wcode P slots call a cur ρ h (wSeqK (wcode P slots call b) cur k)
  congr 1; funext e ρ' h'
  cases e <;> rfl
 | cond c a b iha ihb =>
  intro cur κ
  show (cRd c fun r => cCode P slots a cur fun fa => cCode P slots b cur fun fb => κ fun call ρ h k => onV (r ρ) fun v => AV.mbool v (fun b => ifB b (fa call ρ h k) (fb call ρ h k)) false) = _
  rw [cRd_eq, iha, ihb]
  congr 1; funext call ρ h k
  rw [onV_eq]
  show _ = wCondK c (wcode P slots call a) (wcode P slots call b) cur ρ h k
  unfold wCondK
  rcases wev ρ c with v | ⟨x, y⟩ | _
  ·cases v with
   | bool b => cases b <;> rfl
   | _ => rfl
  all_goals rfl
 | block id b ih =>
  intro cur κ
  show (cCode P slots b id fun fb => κ fun call ρ h k => fb call ρ h fun e ρ' h' => exX e (fun i => ifB (Nat.beq i id) (k .normal ρ' h') (k (.exit i) ρ' h')) (k e ρ' h')) = _
  rw [ih]
  congr 1; funext call ρ h k
  show _ = wcode P slots call b id ρ h (wBlockK id k)
  congr 1; funext e ρ' h'
  cases e with
  | exit i =>
   show ifB (Nat.beq i id) _ _ = (match i == id with | true => k .normal ρ' h' | false => k (.exit i) ρ' h')
   rw [beqN]
   cases i == id <;> rfl
  | _ => rfl
 | loop b ih =>
  intro cur κ
  show (cSlots (slots cur) fun get => cPutS (slots cur) fun put => cTop (writes b) fun top => cCode P slots b cur fun fb => κ fun call ρ h k => get ρ fun xs0 => ifB (shDs xs0 xs0) (top ρ fun ρ0 => hloop put get (fb call) ρ0 xs0 k 1000000 xs0 h) false) = _
  rw [cSlots_eq, cPutS_eq, cTop_eq, ih]
  congr 1; funext call ρ h k
  show _ = wLoopK slots (writes b) (wcode P slots call b) cur ρ h k
  unfold wLoopK
  simp only [ifB_eq, hloop_eq, shDs_eq]
 | rangeFunc f ps a b iha ihb => intro cur κ; rfl
 | exit id => intro cur κ; rfl
 | scope b ih =>
  intro cur κ
  show (cCode P slots b cur fun fb => κ fun call ρ h k => fb call ρ h fun e ρ' h' => exG e (k e ρ' h')) = _
  rw [ih]
  congr 1; funext call ρ h k
  show _ = wcode P slots call b cur ρ h (wScopeK k)
  congr 1; funext e ρ' h'
  cases e <;> rfl
 | label l => intro cur κ; rfl
 | goto l => intro cur κ; rfl
 | ret => intro cur κ; rfl
 | refuse s => intro cur κ; rfl
end
abbrev CFn := ECall → List AV → EH → (AV → EH → Bool) → Bool
noncomputable def cFun (P : Program) (slots : FuncId → Nat → List Nat) (f : FuncId) : G CFn := match codeOf P f with
 | none => ⟨fun _ _ _ _ => false⟩
 | some x => cN x.1 fun n => cCode P (slots f) x.2.2 1000000 fun fc => cRet P x.2.1 fun ret => ⟨fun call args h k => argG.f (topT 17 n) args fun ρ => fc call ρ h (ret k)⟩
theorem cFun_eq (P : Program) (slots : FuncId → Nat → List Nat) (f : FuncId) (call : ECall) (args : List AV) (h : EH) (k : AV → EH → Bool) : (cFun P slots f).f call args h k = wfun P (slots f) call f args h k := by
 rw [← oBody_eq]
 unfold cFun
 cases codeOf P f with
 | none => rfl
 | some x =>
  simp only [cN_eq, cCode_eq, cRet_eq, argG_eq]
  show _ = fBody P x (slots f) call args h k
  unfold fBody
  rw [fcode_eq]
noncomputable def grun (P : Program) (slots : FuncId → Nat → List Nat) (ov : Ovr) (n : Nat) : ECall :=
 Nat.rec (motive := fun _ => ECall) (fun _ _ _ _ => false) (fun _ ih f => Option.rec (motive := fun _ => OvT) (fun args h k => (cFun P slots f).f ih args h k) (fun g => g) (ov f)) n
theorem grun_eq (P : Program) (slots : FuncId → Nat → List Nat) (ov : Ovr) (n : Nat) : grun P slots ov n = wrun P slots ov n := by
 induction n with
 | zero => rfl
 | succ n ih =>
  funext f args h k
  show Option.rec (motive := fun _ => OvT) (fun args h k => (cFun P slots f).f (grun P slots ov n) args h k) (fun g => g) (ov f) args h k = (match ov f with
  | some g => g args h k
  | none => wfun P (slots f) (wrun P slots ov n) f args h k)
  cases ov f with
  | none => simp only [ih]; exact cFun_eq P slots f _ args h k
  | some g => rfl
end Go.Ab
namespace Go.Ab
theorem grun_frun {P : Program} {slots : FuncId → Nat → List Nat} {ov : Ovr} {n : Nat} : grun P slots ov n = frun P slots ov n := by rw [grun_eq, frun_eq]
theorem grun_okD {P : Program} {slots : FuncId → Nat → List Nat} {ov : Ovr} (O : OvrOK P ov) {n : Nat} {f : FuncId} (hov : ov f = none) {args : List AV} {e : EH} {h : Heap} {k : AV → EH → Bool} {Q : AV → Heap → Prop} (H : HFor e h) (hQ : ∀ v e' h', HFor e' h' → k v e' = true → Q v h')
  (hk : grun P slots ov (n + 1) f args e k = true) : ACD P f args h Q := by
 rw [grun_frun] at hk
 exact frun_okD O hov H hQ hk
theorem grun_ok {P : Program} {slots : FuncId → Nat → List Nat} {ov : Ovr} (O : OvrOK P ov) {n : Nat} {f : FuncId} {args : List AV} {e : EH} {h : Heap} {k : AV → EH → Bool} {Q : AV → Heap → Prop} (H : HFor e h) (hQ : ∀ v e' h', HFor e' h' → k v e' = true → Q v h')
  (hk : grun P slots ov n f args e k = true) : AC P f args h Q := by
 rw [grun_frun] at hk
 exact frun_ok O H hQ hk
end Go.Ab
namespace Go.Ab
open Go.ChangeShapes Go.WideShapes Go.ChangeAt Go.RowKit
set_option linter.unusedSimpArgs false
set_option linter.unusedVariables false
section
variable {P : Program} {W : World} {r : Reach} {base : Nat}
theorem row_cells {t : TypeId} {v : Value} {ts : List TypeId} {d : TypeDesc} (hu : P.underlying t = some d) (hs : (∃ fs, d = .struct fs) ∨ ∃ n e, d = .array n e) (hv : Value.okWide P W r base t v) (hts : P.cellTypes P.depth t = some ts) (hsz : P.cellsOf t = ts.length) :
  ∃ cs : List Value, v = .agg ⟨cs⟩ ∧ cs.length = ts.length ∧ ∀ (i : Nat) (u : TypeId), ts[i]? = some u → ∃ x, cs[i]? = some x ∧ Cell.okWide P W r base u x := by
 have hv' : ∃ cs : Array Value, v = .agg cs ∧ cs.size = P.cellsOf t ∧ Row.okWide P W r base t cs := by
  unfold Value.okWide at hv
  rw [hu] at hv
  rcases hs with ⟨fs, rfl⟩ | ⟨n, e, rfl⟩ <;> exact hv
 obtain ⟨cs, rfl, h1, ts', h2, h3, h4⟩ := hv'
 rw [hts] at h2; cases h2
 refine ⟨cs.toList, rfl, by simpa using h1.trans hsz, fun i u hi => ?_⟩
 have hlt := lt_of_get hi
 have hx : cs[i]? = some cs[i] := by simp
 obtain ⟨u', h5, h6⟩ := h4 i _ hx
 rw [Nat.mod_eq_of_lt hlt, hi] at h5
 cases h5
 exact ⟨_, by simp, h6⟩
theorem cell_int {u : TypeId} {k : IntKind} {x : Value} (hu : P.underlying u = some (.int k)) (h : Cell.okWide P W r base u x) : ∃ n, x = .int k n := by
 unfold Cell.okWide at h
 rw [hu] at h
 simp only [Cell.ok, hu] at h
 cases x <;> simp at h
 exact ⟨_, by rw [h.1]⟩
theorem cell_slice {u e : TypeId} {x : Value} (hu : P.underlying u = some (.slice e)) (h : Cell.okWide P W r base u x) : x = .slice none 0 0 ∨ ∃ b o len cap, x = .slice (some ⟨b, o, none⟩) len cap ∧ len ≤ cap ∧ b < W.heap.size := by
 unfold Cell.okWide at h
 rw [hu] at h
 cases x
 case slice a len cap =>
  simp only [Cell.ok, hu] at h
  cases a with
  | none =>
   left
   split at h <;> simp_all
  | some a =>
   right
   simp only at h
   obtain ⟨h1, _, _, h2, row, cells, h3, _⟩ := h
   obtain ⟨b, o, sp⟩ := a
   simp only at h2 h3
   subst h2
   refine ⟨b, o, len, cap, rfl, h1, ?_⟩
   unfold World.shape? at h3
   split at h3
   ·rename_i hb; exact heap_lt hb
   ·cases h3
 all_goals simp [Cell.ok, hu] at h
end
end Go.Ab
namespace Go.Ab
set_option linter.unusedSimpArgs false
set_option linter.unusedVariables false
mutual
def AV.ren (f : Nat → Nat) : AV → AV
 | .int k n => .int k n
 | .bool b => .bool b
 | .str s => .str s
 | .ptr none => .ptr none
 | .ptr (some p) => .ptr (some ⟨f p.b, p.o⟩)
 | .sl none => .sl none
 | .sl (some s) => .sl (some ⟨f s.b, s.o, s.len, s.cap, s.opn⟩)
 | .map none => .map none
 | .map (some b) => .map (some (f b))
 | .func fn x c => .func (match fn with | .yield b => .yield (f b) | g => g) (renL f x) (renL f c)
 | .nilfunc => .nilfunc
 | .iface t x => .iface t (AV.ren f x)
 | .niliface => .niliface
 | .agg cs => .agg (renL f cs)
 | .tup cs => .tup (renL f cs)
def renL (f : Nat → Nat) : List AV → List AV
 | [] => []
 | x :: xs => AV.ren f x :: renL f xs
end
mutual
def AV.low (n : Nat) : AV → Bool
 | .ptr (some p) => Nat.blt p.b n
 | .sl (some s) => Nat.blt s.b n
 | .map (some b) => Nat.blt b n
 | .func fn x c => (match fn with | .yield b => Nat.blt b n | _ => true) && lowL n x && lowL n c
 | .iface _ x => AV.low n x
 | .agg cs => lowL n cs
 | .tup cs => lowL n cs
 | _ => true
def lowL (n : Nat) : List AV → Bool
 | [] => true
 | x :: xs => AV.low n x && lowL n xs
end
theorem blt_lt {a n : Nat} (h : Nat.blt a n = true) : a < n := Nat.le_of_ble_eq_true h
theorem renL_map (f : Nat → Nat) : ∀ l, renL f l = l.map (AV.ren f)
 | [] => rfl
 | x :: l => by simp [renL, renL_map f l]
theorem lowL_all {n : Nat} : ∀ {l : List AV}, lowL n l = true → ∀ x ∈ l, x.low n = true
 | [], _, x, hx => by cases hx
 | y :: l, h, x, hx => by
  simp only [lowL, Bool.and_eq_true] at h
  rcases List.mem_cons.1 hx with rfl | hx
  ·exact h.1
  ·exact lowL_all h.2 x hx
section
variable {f : Nat → Nat} {μ0 μ : Ren}
mutual
theorem rel_ren (hm : ∀ (b : Nat) (e : ME), μ0[b]? = some e → μ[f b]? = some e) : ∀ (x : AV) (v : Value), x.rel μ0 v → (x.ren f).rel μ v
 | .int _ _, _, r => r
 | .bool _, _, r => r
 | .str _, _, r => r
 | .ptr (some _), _, ⟨e, he, r⟩ => ⟨e, hm _ _ he, r⟩
 | .ptr none, _, r => r
 | .sl (some _), _, ⟨e, c, q, he, r⟩ => ⟨e, c, q, he.imp (hm _ _) id, r⟩
 | .sl none, _, r => r
 | .map (some _), _, ⟨e, he, r⟩ => ⟨e, hm _ _ he, r⟩
 | .map none, _, r => r
 | .func (.yield _) x c, _, ⟨e, f', c', he, hv, hf, hc⟩ => ⟨e, f', c', hm _ _ he, hv, relL_ren hm x _ hf, relL_ren hm c _ hc⟩
 | .func (.func _) x c, _, ⟨f', c', hv, hf, hc⟩ => ⟨f', c', hv, relL_ren hm x _ hf, relL_ren hm c _ hc⟩
 | .func (.method _) x c, _, ⟨f', c', hv, hf, hc⟩ => ⟨f', c', hv, relL_ren hm x _ hf, relL_ren hm c _ hc⟩
 | .func (.methodOf _ _) x c, _, ⟨f', c', hv, hf, hc⟩ => ⟨f', c', hv, relL_ren hm x _ hf, relL_ren hm c _ hc⟩
 | .func (.via _ _ _ _) x c, _, ⟨f', c', hv, hf, hc⟩ => ⟨f', c', hv, relL_ren hm x _ hf, relL_ren hm c _ hc⟩
 | .nilfunc, _, r => r
 | .iface _ x, _, ⟨y, hv, hy⟩ => ⟨y, hv, rel_ren hm x y hy⟩
 | .niliface, _, r => r
 | .agg cs, _, ⟨c', hv, hc⟩ => ⟨c', hv, relL_ren hm cs _ hc⟩
 | .tup cs, _, ⟨c', hv, hc⟩ => ⟨c', hv, relL_ren hm cs _ hc⟩
theorem relL_ren (hm : ∀ (b : Nat) (e : ME), μ0[b]? = some e → μ[f b]? = some e) : ∀ (xs : List AV) (l : List Value), relL μ0 xs l → relL μ (renL f xs) l
 | [], _, r => r
 | x :: xs, _, ⟨y, ys, hl, hx, hxs⟩ => ⟨y, ys, hl, rel_ren hm x y hx, relL_ren hm xs ys hxs⟩
end
variable {n : Nat}
mutual
theorem rel_unren (hm : ∀ (b : Nat) (e : ME), b < n → μ[f b]? = some e → μ0[b]? = some e) : ∀ (x : AV) (v : Value), x.low n = true → (x.ren f).rel μ v → x.rel μ0 v
 | .int _ _, _, _, r => r
 | .bool _, _, _, r => r
 | .str _, _, _, r => r
 | .ptr (some _), _, hl, ⟨e, he, r⟩ => ⟨e, hm _ _ (blt_lt hl) he, r⟩
 | .ptr none, _, _, r => r
 | .sl (some _), _, hl, ⟨e, c, q, he, r⟩ => ⟨e, c, q, he.imp (hm _ _ (blt_lt hl)) id, r⟩
 | .sl none, _, _, r => r
 | .map (some _), _, hl, ⟨e, he, r⟩ => ⟨e, hm _ _ (blt_lt hl) he, r⟩
 | .map none, _, _, r => r
 | .func (.yield _) x c, _, hl, ⟨e, f', c', he, hv, hf, hc⟩ => by
  simp only [AV.low, Bool.and_eq_true] at hl
  exact ⟨e, f', c', hm _ _ (blt_lt hl.1.1) he, hv, relL_unren hm x _ hl.1.2 hf, relL_unren hm c _ hl.2 hc⟩
 | .func (.func _) x c, _, hl, ⟨f', c', hv, hf, hc⟩ => by
  simp only [AV.low, Bool.and_eq_true] at hl
  exact ⟨f', c', hv, relL_unren hm x _ hl.1.2 hf, relL_unren hm c _ hl.2 hc⟩
 | .func (.method _) x c, _, hl, ⟨f', c', hv, hf, hc⟩ => by
  simp only [AV.low, Bool.and_eq_true] at hl
  exact ⟨f', c', hv, relL_unren hm x _ hl.1.2 hf, relL_unren hm c _ hl.2 hc⟩
 | .func (.methodOf _ _) x c, _, hl, ⟨f', c', hv, hf, hc⟩ => by
  simp only [AV.low, Bool.and_eq_true] at hl
  exact ⟨f', c', hv, relL_unren hm x _ hl.1.2 hf, relL_unren hm c _ hl.2 hc⟩
 | .func (.via _ _ _ _) x c, _, hl, ⟨f', c', hv, hf, hc⟩ => by
  simp only [AV.low, Bool.and_eq_true] at hl
  exact ⟨f', c', hv, relL_unren hm x _ hl.1.2 hf, relL_unren hm c _ hl.2 hc⟩
 | .nilfunc, _, _, r => r
 | .iface _ x, _, hl, ⟨y, hv, hy⟩ => ⟨y, hv, rel_unren hm x y hl hy⟩
 | .niliface, _, _, r => r
 | .agg cs, _, hl, ⟨c', hv, hc⟩ => ⟨c', hv, relL_unren hm cs _ hl hc⟩
 | .tup cs, _, hl, ⟨c', hv, hc⟩ => ⟨c', hv, relL_unren hm cs _ hl hc⟩
theorem relL_unren (hm : ∀ (b : Nat) (e : ME), b < n → μ[f b]? = some e → μ0[b]? = some e) : ∀ (xs : List AV) (l : List Value), lowL n xs = true → relL μ (renL f xs) l → relL μ0 xs l
 | [], _, _, r => r
 | x :: xs, _, hl, ⟨y, ys, he, hx, hxs⟩ => by
  simp only [lowL, Bool.and_eq_true] at hl
  exact ⟨y, ys, he, rel_unren hm x y hl.1 hx, relL_unren hm xs ys hl.2 hxs⟩
end
end
def renM (f : Nat → Nat) (es : List (AV × AV × Nat)) : List (AV × AV × Nat) := es.map fun e => (e.1.ren f, e.2.1.ren f, e.2.2)
def Blk.ren (f : Nat → Nat) : Blk → Blk
 | .cells c rw => .cells (renL f c) rw
 | .mp es k => .mp (renM f es) k
 | .it m a b c => .it (m.map f) a b c
 | .bx v => .bx (v.ren f)
 | .gm g j => .gm g (f j)
 | .dead => .dead
def Blk.low (n : Nat) : Blk → Bool
 | .cells c _ => lowL n c
 | .mp es _ => es.all fun e => e.1.low n && e.2.1.low n
 | .it m _ _ _ => (match m with | some b => Nat.blt b n | none => true)
 | .bx v => v.low n
 | .gm _ j => Nat.blt j n
 | .dead => true
theorem one_ren (f : Nat → Nat) (x : AV) : (x.ren f).one = x.one := by
 cases x
 case ptr p => cases p <;> rfl
 case sl p => cases p <;> rfl
 case map p => cases p <;> rfl
 all_goals rfl
theorem isTC_ren (f : Nat → Nat) (x : AV) : isTC (x.ren f) = isTC x := by
 cases x
 case ptr p => cases p <;> rfl
 case sl p => cases p <;> rfl
 case map p => cases p <;> rfl
 case iface t v =>
  cases v
  case ptr p => cases p <;> rfl
  case sl p => cases p <;> rfl
  case map p => cases p <;> rfl
  all_goals rfl
 all_goals rfl
theorem ren_tc {f : Nat → Nat} {x : AV} {t : TypeId} {cs : List AV} (h : x.ren f = .iface t (.tup cs)) : ∃ cs0, x = .iface t (.tup cs0) ∧ cs = renL f cs0 := by
 cases x
 case ptr p => cases p <;> cases h
 case sl p => cases p <;> cases h
 case map p => cases p <;> cases h
 case iface u v =>
  cases v
  case ptr p => cases p <;> cases h
  case sl p => cases p <;> cases h
  case map p => cases p <;> cases h
  case tup l => cases h; exact ⟨l, rfl, rfl⟩
  all_goals cases h
 all_goals cases h
theorem ren_tg {f : Nat → Nat} {x : AV} {t : TypeId} {cs : List AV} (h : x.ren f = .iface t (.agg cs)) : ∃ cs0, x = .iface t (.agg cs0) ∧ cs = renL f cs0 := by
 cases x
 case ptr p => cases p <;> cases h
 case sl p => cases p <;> cases h
 case map p => cases p <;> cases h
 case iface u v =>
  cases v
  case ptr p => cases p <;> cases h
  case sl p => cases p <;> cases h
  case map p => cases p <;> cases h
  case agg l => cases h; exact ⟨l, rfl, rfl⟩
  all_goals cases h
 all_goals cases h
theorem oneAll_ren (f : Nat → Nat) (c : List AV) : oneAll (renL f c) = oneAll c := by
 rw [renL_map]
 unfold oneAll
 rw [List.all_map]
 congr 1
 funext x
 exact one_ren f x
section
variable {f : Nat → Nat} {μ0 μ : Ren} {n : Nat} {w : World} {e : ME}
theorem relM_ren (hm : ∀ (b : Nat) (e : ME), μ0[b]? = some e → μ[f b]? = some e) : ∀ (es : List (AV × AV × Nat)) (l : List MapEntry), relM μ0 es l → relM μ (renM f es) l
 | [], _, r => r
 | (k, v, j) :: es, _, ⟨E, Es, h1, h2, h3, h4, h5⟩ => ⟨E, Es, h1, rel_ren hm _ _ h2, rel_ren hm _ _ h3, h4, relM_ren hm es _ h5⟩
theorem relM_unren (hm : ∀ (b : Nat) (e : ME), b < n → μ[f b]? = some e → μ0[b]? = some e) : ∀ (es : List (AV × AV × Nat)) (l : List MapEntry), (es.all fun e => e.1.low n && e.2.1.low n) = true → relM μ (renM f es) l → relM μ0 es l
 | [], _, _, r => r
 | (k, v, j) :: es, _, hl, ⟨E, Es, h1, h2, h3, h4, h5⟩ => by
  simp only [List.all_cons, Bool.and_eq_true] at hl
  exact ⟨E, Es, h1, rel_unren hm _ _ hl.1.1 h2, rel_unren hm _ _ hl.1.2 h3, h4, relM_unren hm es _ (by simpa using hl.2) h5⟩
theorem BlkRel.ren (hm : ∀ (b : Nat) (e : ME), μ0[b]? = some e → μ[f b]? = some e) : ∀ {B : Blk}, BlkRel μ0 w e B → BlkRel μ w e (B.ren f)
 | .cells c rw, ⟨C, t, fz, h1, h2, h3, h4, h5, h6⟩ => ⟨C, t, fz, h1, h2, by rw [renL_map, List.length_map]; exact h3, by rw [oneAll_ren]; exact h4, fun i x hx => by
   rw [renL_map, List.getElem?_map] at hx
   obtain ⟨y, hy, rfl⟩ := Option.map_eq_some_iff.1 hx
   obtain ⟨z, hz, hr⟩ := h5 i y hy
   exact ⟨z, hz, rel_ren hm _ _ hr⟩, h6⟩
 | .mp es k, ⟨ES, h1, h2⟩ => ⟨ES, h1, relM_ren hm _ _ h2⟩
 | .it m a b c, ⟨h1, mm, h2, h3⟩ => ⟨h1, mm, h2, by
   cases m with
   | none => exact h3
   | some x => obtain ⟨e2, h4, h5⟩ := h3; exact ⟨e2, hm _ _ h4, h5⟩⟩
 | .bx v, ⟨h1, y, t, h2, h3⟩ => ⟨h1, y, t, h2, by
   rcases h3 with ⟨h0, z, h4, h5⟩ | ⟨cs, ⟨rfl, h4⟩ | ⟨rfl, h6, h4⟩⟩
   ·exact .inl ⟨by rw [isTC_ren]; exact h0, z, h4, rel_ren hm _ _ h5⟩
   ·exact .inr ⟨renL f cs, .inl ⟨rfl, relL_ren hm _ _ h4⟩⟩
   ·have hl : (renL f cs).length = cs.length := by rw [renL_map, List.length_map]
    exact .inr ⟨renL f cs, .inr ⟨rfl, by rw [hl]; exact h6, by rw [hl]; exact relL_ren hm _ _ h4⟩⟩⟩
 | .gm g j, ⟨m, h1, h2⟩ => ⟨m, hm _ _ h1, h2⟩
 | .dead, _ => trivial
theorem BlkRel.unren (hm : ∀ (b : Nat) (e : ME), b < n → μ[f b]? = some e → μ0[b]? = some e) : ∀ {B : Blk}, B.low n = true → BlkRel μ w e (B.ren f) → BlkRel μ0 w e B
 | .cells c rw, hl, ⟨C, t, fz, h1, h2, h3, h4, h5, h6⟩ => ⟨C, t, fz, h1, h2, by rw [renL_map, List.length_map] at h3; exact h3, by rw [oneAll_ren] at h4; exact h4, fun i x hx => by
   obtain ⟨z, hz, hr⟩ := h5 i (x.ren f) (by rw [renL_map, List.getElem?_map, hx]; rfl)
   exact ⟨z, hz, rel_unren hm _ _ (lowL_all hl x (List.mem_of_getElem? hx)) hr⟩, h6⟩
 | .mp es k, hl, ⟨ES, h1, h2⟩ => ⟨ES, h1, relM_unren hm _ _ hl h2⟩
 | .it m a b c, hl, ⟨h1, mm, h2, h3⟩ => ⟨h1, mm, h2, by
   cases m with
   | none => exact h3
   | some x => obtain ⟨e2, h4, h5⟩ := h3; exact ⟨e2, hm _ _ (blt_lt hl) h4, h5⟩⟩
 | .bx v, hl, ⟨h1, y, t, h2, h3⟩ => ⟨h1, y, t, h2, by
   rcases h3 with ⟨h0, z, h4, h5⟩ | ⟨cs, ⟨he, h4⟩ | ⟨he, h6, h4⟩⟩
   ·exact .inl ⟨by rw [isTC_ren] at h0; exact h0, z, h4, rel_unren hm _ _ hl h5⟩
   ·obtain ⟨cs0, rfl, rfl⟩ := ren_tc he
    exact .inr ⟨cs0, .inl ⟨rfl, relL_unren hm _ _ hl h4⟩⟩
   ·obtain ⟨cs0, rfl, rfl⟩ := ren_tg he
    have hl2 : (renL f cs0).length = cs0.length := by rw [renL_map, List.length_map]
    rw [hl2] at h6 h4
    exact .inr ⟨cs0, .inr ⟨rfl, h6, relL_unren hm _ _ hl h4⟩⟩⟩
 | .gm g j, hl, ⟨m, h1, h2⟩ => ⟨m, hm _ _ (blt_lt hl) h1, h2⟩
 | .dead, _, _ => trivial
end
theorem rw_ren (f : Nat → Nat) (B : Blk) : (B.ren f).rw = B.rw := by cases B <;> rfl
theorem live_ren (f : Nat → Nat) (B : Blk) : (B.ren f).live = B.live := by cases B <;> rfl
structure Sub (f : Nat → Nat) (n : Nat) (h0 h : Heap) : Prop where
 len : h0.length = n
 lt : ∀ b, b < n → f b < h.length
 blk : ∀ (b : Nat) (B : Blk), h0[b]? = some B → B ≠ .dead → h[f b]? = some (B.ren f)
 inj : ∀ (b1 b2 : Nat) (B1 B2 : Blk), b1 ≠ b2 → h0[b1]? = some B1 → h0[b2]? = some B2 → B1.rw = true → B2.live = true → f b1 ≠ f b2
 low : ∀ (b : Nat) (B : Blk), h0[b]? = some B → B.low n = true
def renB (f : Nat → Nat) (n l : Nat) (b : Nat) : Nat := match Nat.blt b n with | true => f b | false => l + (b - n)
theorem renB_lt {f : Nat → Nat} {n l b : Nat} (h : b < n) : renB f n l b = f b := by
 unfold renB
 have : Nat.blt b n = true := Nat.ble_eq_true_of_le h
 rw [this]
theorem renB_ge {f : Nat → Nat} {n l b : Nat} (h : n ≤ b) : renB f n l b = l + (b - n) := by
 unfold renB
 have : Nat.blt b n = false := by
  cases hc : Nat.blt b n with
  | false => rfl
  | true => have := blt_lt hc; omega
 rw [this]
structure Behind (f : Nat → Nat) (n : Nat) (h0 h h0' h' : Heap) : Prop where
 len : h'.length = h.length + (h0'.length - n)
 im : ∀ (b : Nat) (B : Blk), h0[b]? = some B → B.rw = true → h'[f b]? = (h0'[b]?).map (Blk.ren (renB f n h.length))
 out : ∀ c, c < h.length → (∀ (b : Nat) (B : Blk), h0[b]? = some B → B.rw = true → f b ≠ c) → h'[c]? = h[c]?
 new : ∀ b, n ≤ b → h'[h.length + (b - n)]? = (h0'[b]?).map (Blk.ren (renB f n h.length))
section
variable {P : Program} {f : Nat → Nat} {n : Nat} {h0 h : Heap}
theorem rw_live' {B : Blk} (h : B.rw = true) : B.live = true := by cases B <;> first | rfl | (cases h)
def imOf (f : Nat → Nat) (n : Nat) (h0 : Heap) (c : Nat) : Option Nat := (List.range n).find? fun b => (match h0[b]? with | some B => B.rw | none => false) && f b == c
theorem imOf_some {c b : Nat} (h : imOf f n h0 c = some b) : ∃ B, h0[b]? = some B ∧ B.rw = true ∧ f b = c := by
 have := List.find?_some h
 simp only [Bool.and_eq_true, beq_iff_eq] at this
 obtain ⟨h1, h2⟩ := this
 split at h1
 ·rename_i B hB
  exact ⟨B, hB, h1, h2⟩
 ·cases h1
theorem imOf_none {c : Nat} (hn : h0.length = n) (h : imOf f n h0 c = none) : ∀ (b : Nat) (B : Blk), h0[b]? = some B → B.rw = true → f b ≠ c := by
 intro b B hB hr hc
 have h1 := List.find?_eq_none.1 h b (List.mem_range.2 (by rw [← hn]; exact lt_of_get hB))
 apply h1
 rw [hB]
 simp [hr, hc]
def afterH (f : Nat → Nat) (n : Nat) (h0 h h0' : Heap) : Heap := (List.range (h.length + (h0'.length - n))).map fun c => match Nat.blt c h.length with
 | true => (match imOf f n h0 c with | some b => ((h0'[b]?).getD .dead).ren (renB f n h.length) | none => (h[c]?).getD .dead)
 | false => ((h0'[n + (c - h.length)]?).getD .dead).ren (renB f n h.length)
theorem behind_after (S : Sub f n h0 h) {h0' : Heap} (hl : n ≤ h0'.length) : Behind f n h0 h h0' (afterH f n h0 h h0') := by
 have get : ∀ c, c < h.length + (h0'.length - n) → (afterH f n h0 h h0')[c]? = some (match Nat.blt c h.length with
   | true => (match imOf f n h0 c with | some b => ((h0'[b]?).getD .dead).ren (renB f n h.length) | none => (h[c]?).getD .dead)
   | false => ((h0'[n + (c - h.length)]?).getD .dead).ren (renB f n h.length)) := fun c hc => by
  unfold afterH
  rw [List.getElem?_map, List.getElem?_range hc]
  rfl
 have bl : ∀ c, c < h.length → Nat.blt c h.length = true := fun c hc => Nat.ble_eq_true_of_le hc
 refine ⟨by simp [afterH], fun b B hB hr => ?_, fun c hc hn => ?_, fun b hb => ?_⟩
 ·have hbn : b < n := by rw [← S.len]; exact lt_of_get hB
  have hfb := S.lt b hbn
  rw [get _ (by omega), bl _ hfb]
  have hb0 : h0'[b]? = some (h0'[b]'(by omega)) := List.getElem?_eq_getElem _
  cases hi : imOf f n h0 (f b) with
  | none => exact absurd rfl (imOf_none S.len hi b B hB hr)
  | some b2 =>
   obtain ⟨B2, h2, r2, e2⟩ := imOf_some hi
   have : b2 = b := Classical.byContradiction fun hne => S.inj b2 b B2 B hne h2 hB r2 (rw_live' hr) e2
   subst this
   simp only [hb0, Option.getD_some, Option.map_some]
 ·rw [get _ (by omega), bl _ hc]
  cases hi : imOf f n h0 c with
  | none => simp only [List.getElem?_eq_getElem hc, Option.getD_some]
  | some b2 =>
   obtain ⟨B2, h2, r2, e2⟩ := imOf_some hi
   exact absurd e2 (hn b2 B2 h2 r2)
 ·rcases Nat.lt_or_ge b h0'.length with hlt | hge
  ·rw [get _ (by omega)]
   have : Nat.blt (h.length + (b - n)) h.length = false := by
    cases hc : Nat.blt (h.length + (b - n)) h.length with
    | false => rfl
    | true => have := blt_lt hc; omega
   rw [this]
   simp only
   rw [show n + (h.length + (b - n) - h.length) = b by omega, List.getElem?_eq_getElem hlt]
   rfl
  ·rw [List.getElem?_eq_none hge, List.getElem?_eq_none (by simp [afterH]; omega)]
   rfl
theorem AC_ren {g : FuncId} {args : List AV} {Q0 Q : AV → Heap → Prop} (H : AC P g args h0 Q0) (S : Sub f n h0 h) (ha : lowL n args = true)
  (hq : ∀ v h0' h', n ≤ h0'.length → Q0 v h0' → Behind f n h0 h h0' h' → Q (v.ren (renB f n h.length)) h') : AC P g (renL f args) h Q := by
 refine ⟨H.1, fun μ w vs hh hv => ?_⟩
 have hml := hh.len
 let μ0 : Ren := (List.range n).map fun b => (μ[f b]?).getD ⟨0, 0, 0⟩
 have m0 : ∀ b, b < n → μ0[b]? = μ[f b]? := fun b hb => by
  have := S.lt b hb
  show ((List.range n).map _)[b]? = _
  rw [List.getElem?_map, List.getElem?_range hb, Option.map_some, List.getElem?_eq_getElem (by omega), Option.getD_some]
 have l0 : μ0.length = n := by simp [μ0]
 have up : ∀ (b : Nat) (e : ME), μ0[b]? = some e → μ[f b]? = some e := fun b e he => by
  rw [← m0 b (by rw [← l0]; exact lt_of_get he)]; exact he
 have dn : ∀ (b : Nat) (e : ME), b < n → μ[f b]? = some e → μ0[b]? = some e := fun b e hb he => by rw [m0 b hb]; exact he
 have ndead : ∀ {B : Blk}, B.live = true → B ≠ .dead := fun h e => by subst e; cases h
 have hh0 : HRel μ0 h0 w := by
  refine ⟨by rw [l0, S.len], fun b B e hB he => ?_, fun b1 b2 B1 B2 e1 e2 hne g1 g2 r1 v2 k1 k2 => ?_, fun b e he => hh.bnd _ _ (up b e he)⟩
  ·by_cases hd : B = .dead
   ·subst hd; trivial
   ·exact (hh.blk _ _ _ (S.blk b B hB hd) (up b e he)).unren dn (S.low b B hB)
  ·exact hh.sep _ _ _ _ e1 e2 (S.inj b1 b2 B1 B2 hne g1 g2 r1 v2) (S.blk b1 B1 g1 (ndead (rw_live' r1))) (S.blk b2 B2 g2 (ndead v2)) (by rw [rw_ren]; exact r1) (by rw [live_ren]; exact v2) (up _ _ k1) (up _ _ k2)
 refine (H.2 μ0 w vs hh0 (relL_unren dn args vs ha hv)).mono fun e w' ⟨y, x, h0', μ0', he, hQ, ev, hr', hx⟩ => ?_
 have hl0 : n ≤ h0'.length := by rw [← S.len]; exact ev.hlen
 have B := behind_after S hl0
 generalize afterH f n h0 h h0' = h' at B
 let F := renB f n h.length
 have lm : μ0'.length = h0'.length := hr'.len
 have up' : ∀ (b : Nat) (e : ME), μ0'[b]? = some e → (μ ++ μ0'.drop n)[F b]? = some e := fun b e hb => by
  rcases Nat.lt_or_ge b n with hlt | hge
  ·show (μ ++ μ0'.drop n)[renB f n h.length b]? = some e
   rw [renB_lt hlt]
   have h1 := S.lt b hlt
   rw [List.getElem?_append_left (by omega)]
   have h2 : μ0[b]? = some (μ0[b]'(by omega)) := List.getElem?_eq_getElem _
   have h3 := ev.le _ _ h2
   rw [hb] at h3
   cases h3
   exact up b _ h2
  ·show (μ ++ μ0'.drop n)[renB f n h.length b]? = some e
   rw [renB_ge hge, List.getElem?_append_right (by omega), List.getElem?_drop, show n + (h.length + (b - n) - μ.length) = b by omega]
   exact hb
 have src : ∀ (c : Nat) (X : Blk) (e : ME), h'[c]? = some X → (μ ++ μ0'.drop n)[c]? = some e →
   (∃ b X0, h0'[b]? = some X0 ∧ X = X0.ren F ∧ μ0'[b]? = some e ∧ c = F b) ∨ (c < h.length ∧ h[c]? = some X ∧ μ[c]? = some e ∧ ∀ (b : Nat) (B : Blk), h0[b]? = some B → B.rw = true → f b ≠ c) := by
  intro c X e hX he
  have hc := lt_of_get hX
  rw [B.len] at hc
  rcases Nat.lt_or_ge c h.length with hlt | hge
  ·have he' : μ[c]? = some e := by rw [List.getElem?_append_left (by omega)] at he; exact he
   by_cases hi : ∃ (b : Nat) (B0 : Blk), h0[b]? = some B0 ∧ B0.rw = true ∧ f b = c
   ·obtain ⟨b, B0, g1, g2, rfl⟩ := hi
    have hbn : b < n := by rw [← S.len]; exact lt_of_get g1
    rw [B.im b B0 g1 g2] at hX
    obtain ⟨X0, g3, rfl⟩ := Option.map_eq_some_iff.1 hX
    exact .inl ⟨b, X0, g3, rfl, ev.le _ _ (dn b e hbn he'), (renB_lt hbn).symm⟩
   ·have hn : ∀ (b : Nat) (B : Blk), h0[b]? = some B → B.rw = true → f b ≠ c := fun b B0 g1 g2 g3 => hi ⟨b, B0, g1, g2, g3⟩
    rw [B.out c hlt hn] at hX
    exact .inr ⟨hlt, hX, he', hn⟩
  ·have hb : c = h.length + ((n + (c - h.length)) - n) := by omega
   rw [hb, B.new (n + (c - h.length)) (by omega)] at hX
   obtain ⟨X0, g3, rfl⟩ := Option.map_eq_some_iff.1 hX
   refine .inl ⟨n + (c - h.length), X0, g3, rfl, ?_, by show c = renB f n h.length _; rw [renB_ge (by omega)]; omega⟩
   rw [List.getElem?_append_right (by omega), List.getElem?_drop, hml] at he
   exact he
 have same : ∀ (c : Nat) (X : Blk) (e : ME), h[c]? = some X → X.live = true → μ[c]? = some e → (∀ (b : Nat) (B : Blk), h0[b]? = some B → B.rw = true → f b ≠ c) → w'.heap[e.r]? = w.heap[e.r]? := fun c X e hX hlv he hn =>
  ev.frame _ (hh.bnd _ _ he) fun b B0 e0 g1 g2 g3 => by
   exact hh.sep _ _ _ X e0 e (hn b B0 g1 g2) (S.blk b B0 g1 (ndead (rw_live' g2))) hX (by rw [rw_ren]; exact g2) hlv (up _ _ g3) he
 have lift0 : ∀ (b : Nat) (B0 : Blk) (e0 : ME), h0[b]? = some B0 → B0.live = true → μ0[b]? = some e0 → ∃ B', h[f b]? = some B' ∧ B'.live = true ∧ (B0.rw = true → B'.rw = true) ∧ μ[f b]? = some e0 := fun b B0 e0 g1 g2 g3 => by
  exact ⟨_, S.blk b B0 g1 (ndead g2), by rw [live_ren]; exact g2, fun h => by rw [rw_ren]; exact h, up _ _ g3⟩
 refine ⟨y, x.ren F, h', μ ++ μ0'.drop n, he, hq x h0' h' hl0 hQ B, ⟨Ren.le_append _ _, by rw [B.len]; omega, ev.size, fun r hr hn => ?_, fun c X e hX hrw he => ?_, fun c X e hX hlv he => ?_, ev.os, ev.tape, ev.output⟩, ⟨?_, fun c X e hX he => ?_, fun c1 c2 X1 X2 e1 e2 hne h1 h2 r1 v2 k1 k2 => ?_, fun c e he => ?_⟩, rel_ren up' _ _ hx⟩
 ·
  refine ev.frame r hr fun b B0 e0 g1 g2 g3 => ?_
  obtain ⟨B', a1, _, a3, a4⟩ := lift0 b B0 e0 g1 (rw_live' g2) g3
  exact hn _ B' e0 a1 (a3 g2) a4
 ·
  rcases src c X e hX he with ⟨b, X0, g1, rfl, g3, _⟩ | ⟨hlt, g1, g2, _⟩
  ·rw [rw_ren] at hrw
   rcases ev.own b X0 e g1 hrw g3 with h1 | ⟨b0, B0, e0, k1, k2, k3, k4⟩
   ·exact .inl h1
   ·obtain ⟨B', a1, _, a3, a4⟩ := lift0 b0 B0 e0 k1 (rw_live' k2) k3
    exact .inr ⟨_, B', e0, a1, a3 k2, a4, k4⟩
  ·exact .inr ⟨c, X, e, g1, hrw, g2, rfl⟩
 ·
  rcases src c X e hX he with ⟨b, X0, g1, rfl, g3, _⟩ | ⟨hlt, g1, g2, _⟩
  ·rw [live_ren] at hlv
   rcases ev.liv b X0 e g1 hlv g3 with h1 | ⟨b0, B0, e0, k1, k2, k3, k4⟩
   ·exact .inl h1
   ·obtain ⟨B', a1, a2, _, a4⟩ := lift0 b0 B0 e0 k1 k2 k3
    exact .inr ⟨_, B', e0, a1, a2, a4, k4⟩
  ·exact .inr ⟨c, X, e, g1, hlv, g2, rfl⟩
 ·
  rw [List.length_append, List.length_drop, B.len, lm, hml]
 ·
  rcases src c X e hX he with ⟨b, X0, g1, rfl, g3, _⟩ | ⟨hlt, g1, g2, hn⟩
  ·exact (hr'.blk b X0 e g1 g3).ren up'
  ·have r := (hh.blk c X e g1 g2).mono (Ren.le_append μ (μ0'.drop n))
   cases hlv : X.live with
   | false => exact BlkRel.still hlv r
   | true => exact r.world (same c X e g1 hlv g2 hn)
 ·
  rcases src c1 X1 e1 h1 k1 with ⟨b1, Y1, p1, rfl, p3, p4⟩ | ⟨q1, q2, q3, q4⟩
  ·rw [rw_ren] at r1
   rcases src c2 X2 e2 h2 k2 with ⟨b2, Y2, t1, rfl, t3, t4⟩ | ⟨t1, t2, t3, t4⟩
   ·rw [live_ren] at v2
    exact hr'.sep b1 b2 Y1 Y2 e1 e2 (fun hb => hne (by rw [p4, t4, hb])) p1 t1 r1 v2 p3 t3
   ·rcases ev.own b1 Y1 e1 p1 r1 p3 with h3 | ⟨b0, B0, e0, s1, s2, s3, s4⟩
    ·have := hh.bnd _ _ t3
     omega
    ·obtain ⟨B', a1, _, a3, a4⟩ := lift0 b0 B0 e0 s1 (rw_live' s2) s3
     have := hh.sep _ _ B' X2 e0 e2 (t4 b0 B0 s1 s2) a1 t2 (a3 s2) v2 a4 t3
     omega
  ·rcases src c2 X2 e2 h2 k2 with ⟨b2, Y2, t1, rfl, t3, t4⟩ | ⟨t1, t2, t3, t4⟩
   ·rw [live_ren] at v2
    rcases ev.liv b2 Y2 e2 t1 v2 t3 with h3 | ⟨b0, B0, e0, s1, s2, s3, s4⟩
    ·have := hh.bnd _ _ q3
     omega
    ·have a1 := S.blk b0 B0 s1 (ndead s2)
     have a4 := up _ _ s3
     by_cases hc : f b0 = c1
     ·subst hc
      rw [q2] at a1
      cases a1
      rw [rw_ren] at r1
      exact absurd rfl (q4 b0 B0 s1 r1)
     ·have := hh.sep c1 (f b0) X1 _ e1 e0 (fun h => hc h.symm) q2 a1 r1 (by rw [live_ren]; exact s2) q3 a4
      omega
   ·exact hh.sep c1 c2 X1 X2 e1 e2 hne q2 t2 r1 v2 q3 t3
 ·
  rw [List.getElem?_append] at he
  split at he
  ·exact Nat.lt_of_lt_of_le (hh.bnd c e he) ev.size
  ·rw [List.getElem?_drop] at he
   exact hr'.bnd _ _ he
end
mutual
theorem ren_id : ∀ x : AV, x.ren (fun b => b) = x
 | .int _ _ => rfl
 | .bool _ => rfl
 | .str _ => rfl
 | .ptr none => rfl
 | .ptr (some _) => rfl
 | .sl none => rfl
 | .sl (some _) => rfl
 | .map none => rfl
 | .map (some _) => rfl
 | .func fn x c => by
  simp only [AV.ren, renL_id x, renL_id c]
  cases fn <;> rfl
 | .nilfunc => rfl
 | .iface t x => by simp only [AV.ren, ren_id x]
 | .niliface => rfl
 | .agg cs => by simp only [AV.ren, renL_id cs]
 | .tup cs => by simp only [AV.ren, renL_id cs]
theorem renL_id : ∀ l : List AV, renL (fun b => b) l = l
 | [] => rfl
 | x :: l => by simp only [renL, ren_id x, renL_id l]
end
theorem blk_ren_id : ∀ B : Blk, B.ren (fun b => b) = B
 | .cells c rw => by simp only [Blk.ren, renL_id]
 | .mp es k => by
  simp only [Blk.ren, renM]
  congr 1
  conv => rhs; rw [← List.map_id es]
  refine List.map_congr_left fun e _ => ?_
  simp only [ren_id, id]
 | .it m a b c => by cases m <;> rfl
 | .bx v => by simp only [Blk.ren, ren_id]
 | .gm g j => rfl
 | .dead => rfl
structure Emb (n : Nat) (g : Nat → Nat) (v2 : AV) (h2 : Heap) (v : AV) (h' : Heap) : Prop where
 fix : ∀ b, b < n → g b = b
 len : n ≤ h2.length
 sub : Sub g h2.length h2 h'
 lv : v2.low h2.length = true
 val : v = v2.ren g
theorem AC_embed {P : Program} {f : FuncId} {args : List AV} {h : Heap} {Q : AV → Heap → Prop} (H : AC P f args h fun v h' => ∃ g v2 h2, Emb h.length g v2 h2 v h' ∧ Q v2 h2) : AC P f args h Q := by
 refine ⟨H.1, fun μ w vs hh hv => (H.2 μ w vs hh hv).mono fun e w' ⟨y, x, h', μ', he, ⟨g, v2, h2, E, hQ⟩, ev, hr, hx⟩ => ?_⟩
 have hl := hh.len
 have hl' := hr.len
 have l1 := E.len
 have S := E.sub
 let μ2 : Ren := (List.range h2.length).map fun b => (μ'[g b]?).getD ⟨0, 0, 0⟩
 have m0 : ∀ b, b < h2.length → μ2[b]? = μ'[g b]? := fun b hb => by
  have := S.lt b hb
  show ((List.range h2.length).map _)[b]? = _
  rw [List.getElem?_map, List.getElem?_range hb, Option.map_some, List.getElem?_eq_getElem (by omega), Option.getD_some]
 have l0 : μ2.length = h2.length := by simp [μ2]
 have up : ∀ (b : Nat) (e : ME), μ2[b]? = some e → μ'[g b]? = some e := fun b e he => by
  rw [← m0 b (by rw [← l0]; exact lt_of_get he)]; exact he
 have dn : ∀ (b : Nat) (e : ME), b < h2.length → μ'[g b]? = some e → μ2[b]? = some e := fun b e hb he => by rw [m0 b hb]; exact he
 have ndead : ∀ {B : Blk}, B.live = true → B ≠ .dead := fun h e => by subst e; cases h
 have lift : ∀ (b : Nat) (B : Blk), h2[b]? = some B → B.live = true → h'[g b]? = some (B.ren g) := fun b B hB hlv => S.blk b B hB (ndead hlv)
 refine ⟨y, v2, h2, μ2, he, hQ, ⟨fun b e hb => ?_, l1, ev.size, ev.frame, fun b B e hB hrw hb => ?_, fun b B e hB hlv hb => ?_, ev.os, ev.tape, ev.output⟩, ⟨l0, fun b B e hB hb => ?_, fun b1 b2 B1 B2 e1 e2 hne g1 g2 r1 v2' k1 k2 => ?_, fun b e hb => hr.bnd _ _ (up b e hb)⟩, ?_⟩
 ·have hbl : b < h.length := by have := lt_of_get hb; omega
  refine dn b e (by omega) ?_
  rw [E.fix b hbl]
  exact ev.le b e hb
 ·exact ev.own _ _ e (lift b B hB (rw_live' hrw)) (by rw [rw_ren]; exact hrw) (up b e hb)
 ·exact ev.liv _ _ e (lift b B hB hlv) (by rw [live_ren]; exact hlv) (up b e hb)
 ·by_cases hd : B = .dead
  ·subst hd; trivial
  ·exact (hr.blk _ _ _ (S.blk b B hB hd) (up b e hb)).unren dn (S.low b B hB)
 ·exact hr.sep _ _ _ _ e1 e2 (S.inj b1 b2 B1 B2 hne g1 g2 r1 v2') (lift b1 B1 g1 (rw_live' r1)) (lift b2 B2 g2 v2') (by rw [rw_ren]; exact r1) (by rw [live_ren]; exact v2') (up _ _ k1) (up _ _ k2)
 ·exact rel_unren dn v2 y E.lv (by rw [← E.val]; exact hx)
noncomputable def inEq (a : Int) : Int → Bool := Int.rec (motive := fun _ => Int → Bool) (fun m b => Int.rec (motive := fun _ => Bool) (fun n => Nat.beq m n) (fun _ => false) b) (fun m b => Int.rec (motive := fun _ => Bool) (fun _ => false) (fun n => Nat.beq m n) b) a
theorem inEq_ok {a b : Int} (h : inEq a b = true) : a = b := by
 cases a <;> cases b
 ·rw [Nat.eq_of_beq_eq_true h]
 ·cases h
 ·cases h
 ·rw [Nat.eq_of_beq_eq_true h]
noncomputable def bsEq (a : List UInt8) : List UInt8 → Bool := List.rec (motive := fun _ => List UInt8 → Bool) (fun b => List.rec (motive := fun _ => Bool) true (fun _ _ _ => false) b) (fun x _ ih b => List.rec (motive := fun _ => Bool) false (fun y bs _ => ifB (Nat.beq x.toNat y.toNat) (ih bs) false) b) a
theorem bsEq_ok : ∀ {a b : List UInt8}, bsEq a b = true → a = b
 | [], [], _ => rfl
 | [], _ :: _, h => by cases h
 | x :: a, [], h => by cases h
 | x :: a, y :: b, h => by
  have h2 : ifB (Nat.beq x.toNat y.toNat) (bsEq a b) false = true := h
  rw [ifB_eq, Bool.and_eq_true] at h2
  rw [bsEq_ok h2.2, UInt8.toNat_inj.1 (Nat.eq_of_beq_eq_true h2.1)]
noncomputable def blEq (a b : Bool) : Bool := Bool.rec (motive := fun _ => Bool → Bool) (fun b => Bool.rec (motive := fun _ => Bool) true false b) (fun b => b) a b
theorem blEq_ok {a b : Bool} (h : blEq a b = true) : a = b := by cases a <;> cases b <;> first | rfl | cases h
section
variable (g : Nat → Nat)
noncomputable def rlP (p q : Option PA) : Bool := Option.rec (motive := fun _ => Option PA → Bool) (fun q => Option.rec (motive := fun _ => Bool) true (fun _ => false) q) (fun p q => Option.rec (motive := fun _ => Bool) false (fun q => ifB (Nat.beq p.o q.o) (Nat.beq (g p.b) q.b) false) q) p q
noncomputable def rlS (p q : Option SL) : Bool := Option.rec (motive := fun _ => Option SL → Bool) (fun q => Option.rec (motive := fun _ => Bool) true (fun _ => false) q) (fun p q => Option.rec (motive := fun _ => Bool) false (fun q => ifB (Nat.beq p.o q.o) (ifB (Nat.beq p.len q.len) (ifB (Nat.beq p.cap q.cap) (ifB (Nat.beq p.opn q.opn) (Nat.beq (g p.b) q.b) false) false) false) false) q) p q
noncomputable def rlM (p q : Option Nat) : Bool := Option.rec (motive := fun _ => Option Nat → Bool) (fun q => Option.rec (motive := fun _ => Bool) true (fun _ => false) q) (fun p q => Option.rec (motive := fun _ => Bool) false (fun q => Nat.beq (g p) q) q) p q
noncomputable def fnEq (a b : Fn) : Bool := Fn.rec (motive := fun _ => Fn → Bool) (fun f b => Fn.rec (motive := fun _ => Bool) (fun f' => Nat.beq f f') (fun _ => false) (fun _ _ => false) (fun _ _ _ _ => false) (fun _ => false) b) (fun _ _ => false) (fun _ _ _ => false) (fun _ _ _ _ _ => false) (fun _ _ => false) a b
theorem fnEq_ok {a b : Fn} (h : fnEq a b = true) : ∃ f, a = .func f ∧ b = .func f := by
 cases a with
 | func f => cases b with
  | func f' => exact ⟨f, rfl, by rw [Nat.eq_of_beq_eq_true h]⟩
  | _ => cases h
 | _ => cases h
noncomputable def AV.isNF (v : AV) : Bool := AV.rec (motive_1 := fun _ => Bool) (motive_2 := fun _ => Unit) (fun _ _ => false) (fun _ => false) (fun _ => false) (fun _ => false) (fun _ => false) (fun _ => false) (fun _ _ _ _ _ => false) true (fun _ _ _ => false) false (fun _ _ => false) (fun _ _ => false) () (fun _ _ _ _ => ()) v
noncomputable def AV.isNI (v : AV) : Bool := AV.rec (motive_1 := fun _ => Bool) (motive_2 := fun _ => Unit) (fun _ _ => false) (fun _ => false) (fun _ => false) (fun _ => false) (fun _ => false) (fun _ => false) (fun _ _ _ _ _ => false) false (fun _ _ _ => false) true (fun _ _ => false) (fun _ _ => false) () (fun _ _ _ _ => ()) v
noncomputable def rl (x : AV) : AV → Bool := AV.rec (motive_1 := fun _ => AV → Bool) (motive_2 := fun _ => List AV → Bool)
 (fun k n y => AV.mint y (fun k' n' => ifB (kEq k k') (inEq n n') false) false)
 (fun b y => AV.mbool y (fun b' => blEq b b') false)
 (fun s y => AV.mstr y (fun s' => bsEq s s') false)
 (fun p y => AV.mptr y (fun q => rlP g p q) false)
 (fun p y => AV.msl y (fun q => rlS g p q) false)
 (fun p y => AV.mmap y (fun q => rlM g p q) false)
 (fun fn _ _ iha ihc y => AV.mfunc y (fun fn' a' c' => ifB (fnEq fn fn') (ifB (iha a') (ihc c') false) false) false)
 (fun y => AV.isNF y)
 (fun t _ ih y => AV.miface y (fun t' x' => ifB (Nat.beq t t') (ih x') false) false)
 (fun y => AV.isNI y)
 (fun _ ih y => AV.magg y ih false)
 (fun _ ih y => AV.mtup y ih false)
 (fun l => onL l true fun _ _ => false)
 (fun _ _ ihx ihxs l => onL l false fun y ys => ifB (ihx y) (ihxs ys) false) x
noncomputable def rlL (xs : List AV) : List AV → Bool := List.rec (motive := fun _ => List AV → Bool) (fun l => onL l true fun _ _ => false) (fun x _ ih l => onL l false fun y ys => ifB (rl g x y) (ih ys) false) xs
theorem and_tt {a b : Bool} (h : ifB a b false = true) : a = true ∧ b = true := by
 rw [ifB_eq, Bool.and_eq_true] at h; exact h
theorem rlP_ok {p q : Option PA} (h : rlP g p q = true) : (AV.ptr q) = (AV.ptr p).ren g := by
 cases p with
 | none => cases q with
  | none => rfl
  | some q => cases h
 | some p => cases q with
  | none => cases h
  | some q =>
   obtain ⟨h1, h2⟩ := and_tt h
   have e1 := Nat.eq_of_beq_eq_true h1
   have e2 := Nat.eq_of_beq_eq_true h2
   obtain ⟨qb, qo⟩ := q
   simp only at e1 e2
   subst e1 e2; rfl
theorem rlS_ok {p q : Option SL} (h : rlS g p q = true) : (AV.sl q) = (AV.sl p).ren g := by
 cases p with
 | none => cases q with
  | none => rfl
  | some q => cases h
 | some p => cases q with
  | none => cases h
  | some q =>
   obtain ⟨h1, h⟩ := and_tt h
   obtain ⟨h2, h⟩ := and_tt h
   obtain ⟨h3, h⟩ := and_tt h
   obtain ⟨h4, h5⟩ := and_tt h
   have e1 := Nat.eq_of_beq_eq_true h1
   have e2 := Nat.eq_of_beq_eq_true h2
   have e3 := Nat.eq_of_beq_eq_true h3
   have e4 := Nat.eq_of_beq_eq_true h4
   have e5 := Nat.eq_of_beq_eq_true h5
   obtain ⟨qb, qo, ql, qc, qn⟩ := q
   simp only at e1 e2 e3 e4 e5
   subst e1 e2 e3 e4 e5; rfl
theorem rlM_ok {p q : Option Nat} (h : rlM g p q = true) : (AV.map q) = (AV.map p).ren g := by
 cases p with
 | none => cases q with
  | none => rfl
  | some q => cases h
 | some p => cases q with
  | none => cases h
  | some q =>
   have e : g p = q := Nat.eq_of_beq_eq_true h
   subst e; rfl
mutual
theorem rl_ok : ∀ (x y : AV), rl g x y = true → y = x.ren g
 | .int k n, y, h => by
  cases y
  case int k' n' =>
   obtain ⟨h1, h2⟩ := and_tt (show ifB (kEq k k') (inEq n n') false = true from h)
   rw [kEq_eq] at h1
   rw [of_decide_eq_true h1, inEq_ok h2]; rfl
  all_goals cases h
 | .bool b, y, h => by
  cases y
  case bool b' => rw [blEq_ok (show blEq b b' = true from h)]; rfl
  all_goals cases h
 | .str s, y, h => by
  cases y
  case str s' => rw [bsEq_ok (show bsEq s s' = true from h)]; rfl
  all_goals cases h
 | .ptr p, y, h => by
  cases y
  case ptr q => exact rlP_ok g h
  all_goals cases h
 | .sl p, y, h => by
  cases y
  case sl q => exact rlS_ok g h
  all_goals cases h
 | .map p, y, h => by
  cases y
  case map q => exact rlM_ok g h
  all_goals cases h
 | .func fn a c, y, h => by
  cases y
  case func fn' a' c' =>
   obtain ⟨h1, h⟩ := and_tt (show ifB (fnEq fn fn') _ false = true from h)
   obtain ⟨h2, h3⟩ := and_tt h
   obtain ⟨f, rfl, rfl⟩ := fnEq_ok h1
   simp only [AV.ren]
   rw [rlL_ok a a' h2, rlL_ok c c' h3]
  all_goals cases h
 | .nilfunc, y, h => by
  cases y
  case nilfunc => rfl
  all_goals cases h
 | .iface t x, y, h => by
  cases y
  case iface t' x' =>
   obtain ⟨h1, h2⟩ := and_tt (show ifB (Nat.beq t t') _ false = true from h)
   rw [Nat.eq_of_beq_eq_true h1]
   simp only [AV.ren]
   rw [rl_ok x x' h2]
  all_goals cases h
 | .niliface, y, h => by
  cases y
  case niliface => rfl
  all_goals cases h
 | .agg cs, y, h => by
  cases y
  case agg cs' => simp only [AV.ren]; rw [rlL_ok cs cs' h]
  all_goals cases h
 | .tup cs, y, h => by
  cases y
  case tup cs' => simp only [AV.ren]; rw [rlL_ok cs cs' h]
  all_goals cases h
theorem rlL_ok : ∀ (xs ys : List AV), AV.rec_1 (motive_1 := fun _ => AV → Bool) (motive_2 := fun _ => List AV → Bool)
 (fun k n y => AV.mint y (fun k' n' => ifB (kEq k k') (inEq n n') false) false)
 (fun b y => AV.mbool y (fun b' => blEq b b') false)
 (fun s y => AV.mstr y (fun s' => bsEq s s') false)
 (fun p y => AV.mptr y (fun q => rlP g p q) false)
 (fun p y => AV.msl y (fun q => rlS g p q) false)
 (fun p y => AV.mmap y (fun q => rlM g p q) false)
 (fun fn _ _ iha ihc y => AV.mfunc y (fun fn' a' c' => ifB (fnEq fn fn') (ifB (iha a') (ihc c') false) false) false)
 (fun y => AV.isNF y)
 (fun t _ ih y => AV.miface y (fun t' x' => ifB (Nat.beq t t') (ih x') false) false)
 (fun y => AV.isNI y)
 (fun _ ih y => AV.magg y ih false)
 (fun _ ih y => AV.mtup y ih false)
 (fun l => onL l true fun _ _ => false)
 (fun _ _ ihx ihxs l => onL l false fun y ys => ifB (ihx y) (ihxs ys) false) xs ys = true → ys = renL g xs
 | [], ys, h => by
  cases ys with
  | nil => rfl
  | cons y ys => cases h
 | x :: xs, ys, h => by
  cases ys with
  | nil => cases h
  | cons y ys =>
   obtain ⟨h1, h2⟩ := and_tt (show ifB _ _ false = true from h)
   simp only [renL]
   rw [rl_ok x y h1, rlL_ok xs ys h2]
end
theorem rlL_okL : ∀ {xs ys : List AV}, rlL g xs ys = true → ys = renL g xs
 | [], [], _ => rfl
 | [], _ :: _, h => by cases h
 | x :: xs, [], h => by cases h
 | x :: xs, y :: ys, h => by
  obtain ⟨h1, h2⟩ := and_tt (show ifB (rl g x y) (rlL g xs ys) false = true from h)
  simp only [renL]
  rw [rl_ok g x y h1, rlL_okL h2]
noncomputable def rlE (xs : List (AV × AV × Nat)) : List (AV × AV × Nat) → Bool := List.rec (motive := fun _ => List (AV × AV × Nat) → Bool) (fun l => List.rec (motive := fun _ => Bool) true (fun _ _ _ => false) l) (fun x _ ih l => List.rec (motive := fun _ => Bool) false (fun y ys _ => ifB (rl g x.1 y.1) (ifB (rl g x.2.1 y.2.1) (ifB (Nat.beq x.2.2 y.2.2) (ih ys) false) false) false) l) xs
theorem rlE_ok : ∀ {xs ys : List (AV × AV × Nat)}, rlE g xs ys = true → ys = renM g xs
 | [], [], _ => rfl
 | [], _ :: _, h => by cases h
 | x :: xs, [], h => by cases h
 | x :: xs, (a, b, c) :: ys, h => by
  obtain ⟨h1, h⟩ := and_tt (show ifB (rl g x.1 a) _ false = true from h)
  obtain ⟨h2, h⟩ := and_tt h
  obtain ⟨h3, h4⟩ := and_tt h
  show _ = (x.1.ren g, x.2.1.ren g, x.2.2) :: renM g xs
  have e1 : a = x.1.ren g := rl_ok g _ _ h1
  have e2 : b = x.2.1.ren g := rl_ok g _ _ h2
  have e3 : x.2.2 = c := Nat.eq_of_beq_eq_true h3
  rw [e1, e2, ← e3, rlE_ok h4]
noncomputable def rlB (x : Blk) : Blk → Bool := Blk.rec (motive := fun _ => Blk → Bool)
 (fun c rw y => Blk.rec (motive := fun _ => Bool) (fun c' rw' => ifB (blEq rw rw') (rlL g c c') false) (fun _ _ => false) (fun _ _ _ _ => false) (fun _ => false) (fun _ _ => false) false y)
 (fun es k y => Blk.rec (motive := fun _ => Bool) (fun _ _ => false) (fun es' k' => ifB (Nat.beq k k') (rlE g es es') false) (fun _ _ _ _ => false) (fun _ => false) (fun _ _ => false) false y)
 (fun _ _ _ _ _ => false) (fun _ _ => false) (fun _ _ _ => false) (fun _ => false) x
theorem rlB_ok {x y : Blk} (h : rlB g x y = true) : y = x.ren g ∧ x ≠ .dead := by
 cases x with
 | cells c rw => cases y with
  | cells c' rw' =>
   obtain ⟨h1, h2⟩ := and_tt (show ifB (blEq rw rw') (rlL g c c') false = true from h)
   rw [blEq_ok h1, rlL_okL g h2]
   exact ⟨rfl, fun h => by cases h⟩
  | _ => cases h
 | mp es k => cases y with
  | mp es' k' =>
   obtain ⟨h1, h2⟩ := and_tt (show ifB (Nat.beq k k') (rlE g es es') false = true from h)
   rw [Nat.eq_of_beq_eq_true h1, rlE_ok g h2]
   exact ⟨rfl, fun h => by cases h⟩
  | _ => cases h
 | _ => cases h
end
structure Sch where
 as : List (Nat × Nat)
 nx : Nat
 pd : List Nat
noncomputable def asGet (b : Nat) (l : List (Nat × Nat)) : (Nat → Bool) → Bool → Bool := List.rec (motive := fun _ => (Nat → Bool) → Bool → Bool) (fun _ d => d) (fun p _ ih f d => ifB (Nat.beq p.1 b) (f p.2) (ih f d)) l
noncomputable def rid (n0 b : Nat) (s : Sch) (κ : Nat → Sch → Bool) : Bool := ifB (Nat.blt b n0) (κ b s) (asGet b s.as (fun c => κ c s) (fN s.nx fun x => fN (Nat.succ x) fun y => κ x ⟨(b, x) :: s.as, y, b :: s.pd⟩))
noncomputable def rvP (n0 : Nat) (p : Option PA) (s : Sch) (κ : AV → Sch → Bool) : Bool := Option.rec (motive := fun _ => Bool) (κ (.ptr none) s) (fun p => PA.rec (motive := fun _ => Bool) (fun b o => rid n0 b s fun c s => κ (.ptr (some ⟨c, o⟩)) s) p) p
noncomputable def rvS (n0 : Nat) (p : Option SL) (s : Sch) (κ : AV → Sch → Bool) : Bool := Option.rec (motive := fun _ => Bool) (κ (.sl none) s) (fun p => SL.rec (motive := fun _ => Bool) (fun b o l cp n => rid n0 b s fun c s => κ (.sl (some ⟨c, o, l, cp, n⟩)) s) p) p
noncomputable def rvM (n0 : Nat) (p : Option Nat) (s : Sch) (κ : AV → Sch → Bool) : Bool := Option.rec (motive := fun _ => Bool) (κ (.map none) s) (fun b => rid n0 b s fun c s => κ (.map (some c)) s) p
abbrev RV := Sch → (AV → Sch → Bool) → Bool
abbrev RL := Sch → (List AV → Sch → Bool) → Bool
noncomputable def rv (n0 : Nat) (x : AV) : RV := AV.rec (motive_1 := fun _ => RV) (motive_2 := fun _ => RL)
 (fun k n s κ => κ (.int k n) s) (fun b s κ => κ (.bool b) s) (fun l s κ => κ (.str l) s) (rvP n0) (rvS n0) (rvM n0)
 (fun fn _ _ ia ic s κ => ia s fun a s => ic s fun c s => κ (.func fn a c) s) (fun s κ => κ .nilfunc s) (fun t _ ih s κ => ih s fun x s => κ (.iface t x) s) (fun s κ => κ .niliface s)
 (fun _ ih s κ => ih s fun l s => κ (.agg l) s) (fun _ ih s κ => ih s fun l s => κ (.tup l) s)
 (fun s κ => κ [] s) (fun _ _ ix ixs s κ => ix s fun y s => ixs s fun ys s => κ (y :: ys) s) x
noncomputable def rvL (n0 : Nat) (l : List AV) : RL := List.rec (motive := fun _ => RL) (fun s κ => κ [] s) (fun x _ ih s κ => rv n0 x s fun y s => ih s fun ys s => κ (y :: ys) s) l
noncomputable def rvE (n0 : Nat) (l : List (AV × AV × Nat)) : Sch → (List (AV × AV × Nat) → Sch → Bool) → Bool := List.rec (motive := fun _ => Sch → (List (AV × AV × Nat) → Sch → Bool) → Bool) (fun s κ => κ [] s) (fun x _ ih s κ => rv n0 x.1 s fun a s => rv n0 x.2.1 s fun b s => ih s fun ys s => κ ((a, b, x.2.2) :: ys) s) l
noncomputable def rvB (n0 : Nat) (B : Blk) (s : Sch) (κ : Blk → Sch → Bool) : Bool := Blk.rec (motive := fun _ => Bool) (fun c rw => rvL n0 c s fun c s => κ (.cells c rw) s) (fun es k => rvE n0 es s fun es s => κ (.mp es k) s) (fun _ _ _ _ => false) (fun _ => false) (fun _ _ => false) false B
noncomputable def rev {α : Type} (l : List α) : List α → (List α → Bool) → Bool := List.rec (motive := fun _ => List α → (List α → Bool) → Bool) (fun a κ => κ a) (fun x _ ih a κ => ih (x :: a) κ) l
noncomputable def onB (o : Option Blk) : (Blk → Bool) → Bool := Option.rec (motive := fun _ => (Blk → Bool) → Bool) (fun _ => false) (fun B f => f B) o
noncomputable def prL (n0 : Nat) (t : T Blk) (l : List Nat) : Sch → List Blk → (Sch → List Blk → Bool) → Bool := List.rec (motive := fun _ => Sch → List Blk → (Sch → List Blk → Bool) → Bool) (fun s acc κ => κ s acc) (fun b _ ih s acc κ => onB (t.wget b) fun B => rvB n0 B s fun B s => ih s (B :: acc) κ) l
noncomputable def rounds (n0 : Nat) (t : T Blk) (f : Nat) : Sch → List Blk → (Sch → List Blk → Bool) → Bool := Nat.rec (motive := fun _ => Sch → List Blk → (Sch → List Blk → Bool) → Bool) (fun _ _ _ => false) (fun _ ih s acc κ => Sch.rec (motive := fun _ => Bool) (fun as nx pd => List.rec (motive := fun _ => Bool) (κ ⟨as, nx, []⟩ acc) (fun _ _ _ => rev pd [] fun p => prL n0 t p ⟨as, nx, []⟩ acc fun s acc => ih s acc κ) pd) s) f
noncomputable def lw (x : AV) : Nat → Bool := AV.rec (motive_1 := fun _ => Nat → Bool) (motive_2 := fun _ => Nat → Bool)
 (fun _ _ _ => true) (fun _ _ => true) (fun _ _ => true)
 (fun p n => Option.rec (motive := fun _ => Bool) true (fun p => Nat.blt p.b n) p) (fun p n => Option.rec (motive := fun _ => Bool) true (fun p => Nat.blt p.b n) p) (fun p n => Option.rec (motive := fun _ => Bool) true (fun b => Nat.blt b n) p)
 (fun fn _ _ ia ic n => Fn.rec (motive := fun _ => Bool) (fun _ => ifB (ia n) (ic n) false) (fun _ => false) (fun _ _ => false) (fun _ _ _ _ => false) (fun _ => false) fn) (fun _ => true) (fun _ _ ih n => ih n) (fun _ => true) (fun _ ih n => ih n) (fun _ ih n => ih n)
 (fun _ => true) (fun _ _ ix ixs n => ifB (ix n) (ixs n) false) x
noncomputable def lwL (l : List AV) : Nat → Bool := List.rec (motive := fun _ => Nat → Bool) (fun _ => true) (fun x _ ih n => ifB (lw x n) (ih n) false) l
mutual
theorem lw_ok {n : Nat} : ∀ x : AV, lw x n = true → x.low n = true
 | .int _ _, _ => rfl
 | .bool _, _ => rfl
 | .str _, _ => rfl
 | .ptr none, _ => rfl
 | .ptr (some _), h => h
 | .sl none, _ => rfl
 | .sl (some _), h => h
 | .map none, _ => rfl
 | .map (some _), h => h
 | .func fn a c, h => by
  cases fn with
  | func f =>
   obtain ⟨h1, h2⟩ := and_tt (show ifB _ _ false = true from h)
   simp only [AV.low, Bool.true_and, Bool.and_eq_true]
   exact ⟨lwL_ok a h1, lwL_ok c h2⟩
  | _ => cases h
 | .nilfunc, _ => rfl
 | .iface _ x, h => lw_ok x h
 | .niliface, _ => rfl
 | .agg cs, h => lwL_ok cs h
 | .tup cs, h => lwL_ok cs h
theorem lwL_ok {n : Nat} : ∀ l : List AV, AV.rec_1 (motive_1 := fun _ => Nat → Bool) (motive_2 := fun _ => Nat → Bool)
 (fun _ _ _ => true) (fun _ _ => true) (fun _ _ => true)
 (fun p n => Option.rec (motive := fun _ => Bool) true (fun p => Nat.blt p.b n) p) (fun p n => Option.rec (motive := fun _ => Bool) true (fun p => Nat.blt p.b n) p) (fun p n => Option.rec (motive := fun _ => Bool) true (fun b => Nat.blt b n) p)
 (fun fn _ _ ia ic n => Fn.rec (motive := fun _ => Bool) (fun _ => ifB (ia n) (ic n) false) (fun _ => false) (fun _ _ => false) (fun _ _ _ _ => false) (fun _ => false) fn) (fun _ => true) (fun _ _ ih n => ih n) (fun _ => true) (fun _ ih n => ih n) (fun _ ih n => ih n)
 (fun _ => true) (fun _ _ ix ixs n => ifB (ix n) (ixs n) false) l n = true → lowL n l = true
 | [], _ => rfl
 | x :: l, h => by
  obtain ⟨h1, h2⟩ := and_tt (show ifB _ _ false = true from h)
  simp only [lowL, Bool.and_eq_true]
  exact ⟨lw_ok x h1, lwL_ok l h2⟩
end
theorem lwL_okL {n : Nat} : ∀ {l : List AV}, lwL l n = true → lowL n l = true
 | [], _ => rfl
 | x :: l, h => by
  obtain ⟨h1, h2⟩ := and_tt (show ifB (lw x n) (lwL l n) false = true from h)
  simp only [lowL, Bool.and_eq_true]
  exact ⟨lw_ok x h1, lwL_okL h2⟩
noncomputable def lwE (l : List (AV × AV × Nat)) : Nat → Bool := List.rec (motive := fun _ => Nat → Bool) (fun _ => true) (fun x _ ih n => ifB (lw x.1 n) (ifB (lw x.2.1 n) (ih n) false) false) l
theorem lwE_ok {n : Nat} : ∀ {l : List (AV × AV × Nat)}, lwE l n = true → (l.all fun e => e.1.low n && e.2.1.low n) = true
 | [], _ => rfl
 | x :: l, h => by
  obtain ⟨h1, h⟩ := and_tt (show ifB (lw x.1 n) _ false = true from h)
  obtain ⟨h2, h3⟩ := and_tt h
  simp only [List.all_cons, Bool.and_eq_true]
  exact ⟨⟨lw_ok _ h1, lw_ok _ h2⟩, by simpa using lwE_ok h3⟩
noncomputable def lwB (B : Blk) (n : Nat) : Bool := Blk.rec (motive := fun _ => Bool) (fun c _ => lwL c n) (fun es _ => lwE es n) (fun _ _ _ _ => false) (fun _ => false) (fun _ _ => false) true B
theorem lwB_ok {B : Blk} {n : Nat} (h : lwB B n = true) : B.low n = true := by
 cases B with
 | cells c rw => exact lwL_okL h
 | mp es k => exact lwE_ok h
 | dead => rfl
 | _ => cases h
noncomputable def lwBs (l : List Blk) : Nat → Bool := List.rec (motive := fun _ => Nat → Bool) (fun _ => true) (fun B _ ih n => ifB (lwB B n) (ih n) false) l
theorem lwBs_ok {n : Nat} : ∀ {l : List Blk}, lwBs l n = true → ∀ (b : Nat) (B : Blk), l[b]? = some B → B.low n = true
 | [], _, b, B, hb => by simp at hb
 | X :: l, h, b, B, hb => by
  obtain ⟨h1, h2⟩ := and_tt (show ifB (lwB X n) (lwBs l n) false = true from h)
  cases b with
  | zero => simp at hb; subst hb; exact lwB_ok h1
  | succ b => exact lwBs_ok h2 b B (by simpa using hb)
mutual
theorem low_mono {n m : Nat} (hnm : n ≤ m) : ∀ x : AV, x.low n = true → x.low m = true
 | .int _ _, _ => rfl
 | .bool _, _ => rfl
 | .str _, _ => rfl
 | .ptr none, _ => rfl
 | .ptr (some _), h => T.blt_of (Nat.lt_of_lt_of_le (blt_lt h) hnm)
 | .sl none, _ => rfl
 | .sl (some _), h => T.blt_of (Nat.lt_of_lt_of_le (blt_lt h) hnm)
 | .map none, _ => rfl
 | .map (some _), h => T.blt_of (Nat.lt_of_lt_of_le (blt_lt h) hnm)
 | .func fn a c, h => by
  simp only [AV.low, Bool.and_eq_true] at h ⊢
  refine ⟨⟨?_, lowL_mono hnm a h.1.2⟩, lowL_mono hnm c h.2⟩
  cases fn with
  | yield b => exact T.blt_of (Nat.lt_of_lt_of_le (blt_lt h.1.1) hnm)
  | _ => rfl
 | .nilfunc, _ => rfl
 | .iface _ x, h => low_mono hnm x h
 | .niliface, _ => rfl
 | .agg cs, h => lowL_mono hnm cs h
 | .tup cs, h => lowL_mono hnm cs h
theorem lowL_mono {n m : Nat} (hnm : n ≤ m) : ∀ l : List AV, lowL n l = true → lowL m l = true
 | [], _ => rfl
 | x :: l, h => by
  simp only [lowL, Bool.and_eq_true] at h ⊢
  exact ⟨low_mono hnm x h.1, lowL_mono hnm l h.2⟩
end
theorem blow_mono {n m : Nat} (hnm : n ≤ m) : ∀ {B : Blk}, B.low n = true → B.low m = true
 | .cells c rw, h => lowL_mono hnm c h
 | .mp es k, h => by
  simp only [Blk.low, List.all_eq_true, Bool.and_eq_true] at h ⊢
  exact fun e he => ⟨low_mono hnm _ (h e he).1, low_mono hnm _ (h e he).2⟩
 | .it m a b c, h => by
  cases m with
  | none => rfl
  | some x => exact T.blt_of (Nat.lt_of_lt_of_le (blt_lt h) hnm)
 | .bx v, h => low_mono hnm v h
 | .gm g j, h => T.blt_of (Nat.lt_of_lt_of_le (blt_lt h) hnm)
 | .dead, _ => rfl
mutual
theorem ren_same {n : Nat} {f g : Nat → Nat} (hfg : ∀ b, b < n → f b = g b) : ∀ x : AV, x.low n = true → x.ren f = x.ren g
 | .int _ _, _ => rfl
 | .bool _, _ => rfl
 | .str _, _ => rfl
 | .ptr none, _ => rfl
 | .ptr (some p), h => by simp only [AV.ren]; rw [hfg _ (blt_lt h)]
 | .sl none, _ => rfl
 | .sl (some p), h => by simp only [AV.ren]; rw [hfg _ (blt_lt h)]
 | .map none, _ => rfl
 | .map (some b), h => by simp only [AV.ren]; rw [hfg _ (blt_lt h)]
 | .func fn a c, h => by
  simp only [AV.low, Bool.and_eq_true] at h
  simp only [AV.ren]
  rw [renL_same hfg a h.1.2, renL_same hfg c h.2]
  cases fn with
  | yield b => simp only []; rw [hfg _ (blt_lt h.1.1)]
  | _ => rfl
 | .nilfunc, _ => rfl
 | .iface _ x, h => by simp only [AV.ren]; rw [ren_same hfg x h]
 | .niliface, _ => rfl
 | .agg cs, h => by simp only [AV.ren]; rw [renL_same hfg cs h]
 | .tup cs, h => by simp only [AV.ren]; rw [renL_same hfg cs h]
theorem renL_same {n : Nat} {f g : Nat → Nat} (hfg : ∀ b, b < n → f b = g b) : ∀ l : List AV, lowL n l = true → renL f l = renL g l
 | [], _ => rfl
 | x :: l, h => by
  simp only [lowL, Bool.and_eq_true] at h
  simp only [renL]
  rw [ren_same hfg x h.1, renL_same hfg l h.2]
end
theorem bren_same {n : Nat} {f g : Nat → Nat} (hfg : ∀ b, b < n → f b = g b) : ∀ {B : Blk}, B.low n = true → B.ren f = B.ren g
 | .cells c rw, h => by simp only [Blk.ren]; rw [renL_same hfg c h]
 | .mp es k, h => by
  simp only [Blk.low, List.all_eq_true, Bool.and_eq_true] at h
  simp only [Blk.ren, renM]
  congr 1
  exact List.map_congr_left fun e he => by rw [ren_same hfg _ (h e he).1, ren_same hfg _ (h e he).2]
 | .it m a b c, h => by
  cases m with
  | none => rfl
  | some x => simp only [Blk.ren, Option.map_some]; rw [hfg _ (blt_lt h)]
 | .bx v, h => by simp only [Blk.ren]; rw [ren_same hfg v h]
 | .gm g j, h => by simp only [Blk.ren]; rw [hfg _ (blt_lt h)]
 | .dead, _ => rfl
noncomputable def lnN (l : List Nat) : Nat → Nat := List.rec (motive := fun _ => Nat → Nat) (fun _ => 0) (fun x _ ih i => Nat.rec (motive := fun _ => Nat) x (fun i _ => ih i) i) l
theorem lnN_eq : ∀ (l : List Nat) (i : Nat), lnN l i = l.getD i 0
 | [], i => by cases i <;> rfl
 | x :: l, 0 => rfl
 | x :: l, i + 1 => by
  show lnN l i = _
  rw [lnN_eq l i]; simp [List.getD]
noncomputable def gm (n0 : Nat) (m : List Nat) (b : Nat) : Nat := Bool.rec (motive := fun _ => Nat) (lnN m (Nat.sub b n0)) b (Nat.blt b n0)
theorem gm_lt {n0 b : Nat} {m : List Nat} (h : b < n0) : gm n0 m b = b := by
 unfold gm; rw [T.blt_of h]
theorem gm_ge {n0 b : Nat} {m : List Nat} (h : n0 ≤ b) : gm n0 m b = m.getD (b - n0) 0 := by
 unfold gm
 have : Nat.blt b n0 = false := by
  cases hc : Nat.blt b n0 with
  | false => rfl
  | true => have := T.blt_t hc; omega
 rw [this]; exact lnN_eq m (b - n0)
noncomputable def notIn (x : Nat) (l : List Nat) : Bool := List.rec (motive := fun _ => Bool) true (fun y _ ih => ifB (Nat.beq x y) false ih) l
theorem notIn_ok {x : Nat} : ∀ {l : List Nat}, notIn x l = true → x ∉ l
 | [], _ => by simp
 | y :: l, h => by
  have h' : ifB (Nat.beq x y) false (notIn x l) = true := h
  cases hb : Nat.beq x y with
  | true => rw [hb] at h'; cases h'
  | false =>
   rw [hb] at h'
   intro hc
   rcases List.mem_cons.1 hc with hc | hc
   ·exact Nat.ne_of_beq_eq_false hb hc
   ·exact notIn_ok h' hc
noncomputable def ndp (l : List Nat) : Bool := List.rec (motive := fun _ => Bool) true (fun x l ih => ifB (notIn x l) ih false) l
theorem ndp_ok : ∀ {l : List Nat}, ndp l = true → l.Nodup
 | [], _ => List.nodup_nil
 | x :: l, h => by
  obtain ⟨h1, h2⟩ := and_tt (show ifB (notIn x l) (ndp l) false = true from h)
  exact List.nodup_cons.2 ⟨notIn_ok h1, ndp_ok h2⟩
noncomputable def mat (g : Nat → Nat) (k : Nat) (t : T Blk) (H : List Blk) : List Nat → Bool := List.rec (motive := fun _ => List Nat → Bool) (fun m => List.rec (motive := fun _ => Bool) true (fun _ _ _ => false) m) (fun B _ ih m => List.rec (motive := fun _ => Bool) false (fun x xs _ => ifB (Nat.ble k x) (onB (t.wget x) fun C => ifB (rlB g B C) (ih xs) false) false) m) H
theorem onB_eq (o : Option Blk) (f : Blk → Bool) : onB o f = match o with | some B => f B | none => false := by cases o <;> rfl
theorem mat_ok {g : Nat → Nat} {k : Nat} {t : T Blk} : ∀ {H : List Blk} {m : List Nat}, mat g k t H m = true → m.length = H.length ∧ ∀ (j : Nat) (B : Blk), H[j]? = some B → k ≤ m.getD j 0 ∧ t.get (m.getD j 0) = some (B.ren g) ∧ B ≠ .dead
 | [], [], _ => ⟨rfl, fun j B h => by simp at h⟩
 | [], _ :: _, h => by cases h
 | B :: H, [], h => by cases h
 | B :: H, x :: xs, h => by
  obtain ⟨h1, h⟩ := and_tt (show ifB (Nat.ble k x) (onB (t.wget x) fun C => ifB (rlB g B C) (mat g k t H xs) false) false = true from h)
  rw [onB_eq, T.wget_eq] at h
  cases hx : t.get x with
  | none => rw [hx] at h; cases h
  | some C =>
   rw [hx] at h
   obtain ⟨h2, h3⟩ := and_tt h
   obtain ⟨hl, ih⟩ := mat_ok h3
   refine ⟨by simp [hl], fun j X hj => ?_⟩
   cases j with
   | zero =>
    simp at hj; subst hj
    obtain ⟨e1, e2⟩ := rlB_ok g h2
    exact ⟨Nat.le_of_ble_eq_true h1, by show t.get x = _; rw [hx, e1], e2⟩
   | succ j =>
    have := ih j X (by simpa using hj)
    simpa [List.getD] using this
theorem nodup_getD {m : List Nat} (h : m.Nodup) {i j : Nat} (hi : i < m.length) (hj : j < m.length) (hne : i ≠ j) : m.getD i 0 ≠ m.getD j 0 := by
 rw [List.getD_eq_getElem?_getD, List.getD_eq_getElem?_getD, List.getElem?_eq_getElem hi, List.getElem?_eq_getElem hj]
 simp only [Option.getD_some]
 intro hc
 exact hne ((List.getElem_inj h).1 hc)
theorem sub_of {e : EH} {h : Heap} (H : HFor e h) {H0 : List Blk} {m : List Nat} {n : Nat} (hn : n = H0.length) (h1 : mat (gm 0 m) 0 e.t H0 m = true) (h2 : ndp m = true) (h3 : lwBs H0 n = true) : Sub (gm 0 m) n H0 h := by
 obtain ⟨hl, hm⟩ := mat_ok h1
 have g0 : ∀ b, gm 0 m b = m.getD b 0 := fun b => by rw [gm_ge (Nat.zero_le b)]; rfl
 have at' : ∀ (b : Nat) (B : Blk), H0[b]? = some B → h[gm 0 m b]? = some (B.ren (gm 0 m)) := fun b B hB => by
  rw [g0, ← H.1]; exact (hm b B hB).2.1
 refine ⟨hn.symm, fun b hb => ?_, fun b B hB _ => at' b B hB, fun b1 b2 B1 B2 hne g1 g2 _ _ => ?_, lwBs_ok h3⟩
 ·exact lt_of_get (at' b _ (List.getElem?_eq_getElem (by omega)))
 ·rw [g0, g0]
  exact nodup_getD (ndp_ok h2) (by rw [hl]; exact lt_of_get g1) (by rw [hl]; exact lt_of_get g2) hne
noncomputable def bld (l : List Blk) : EH → (EH → Bool) → Bool := List.rec (motive := fun _ => EH → (EH → Bool) → Bool) (fun e κ => κ e) (fun B _ ih e κ => e.t.wadd e.n B fun t' => fN (Nat.succ e.n) fun n' => ih ⟨t', n'⟩ κ) l
theorem bld_ok : ∀ {l : List Blk} {e : EH} {h : Heap} {κ : EH → Bool}, HFor e h → bld l e κ = true → ∃ e', HFor e' (h ++ l) ∧ κ e' = true
 | [], e, h, κ, H, hk => ⟨e, by rw [List.append_nil]; exact H, hk⟩
 | B :: l, e, h, κ, H, hk => by
  have hk' : (e.t.wadd e.n B fun t' => fN (Nat.succ e.n) fun n' => bld l ⟨t', n'⟩ κ) = true := hk
  rw [T.wadd_eq, H.2] at hk'
  obtain ⟨t', h1, h2⟩ := T.For.add H.1 hk'
  rw [fN_eq] at h1
  have H' : HFor ⟨t', Nat.succ h.length⟩ (h ++ [B]) := ⟨h2, by simp⟩
  obtain ⟨e', h3, h4⟩ := bld_ok H' h1
  exact ⟨e', by rw [List.append_assoc] at h3; exact h3, h4⟩
section
variable (F : Nat → Nat)
noncomputable def rnP (p : Option PA) (κ : AV → Bool) : Bool := Option.rec (motive := fun _ => Bool) (κ (.ptr none)) (fun p => PA.rec (motive := fun _ => Bool) (fun b o => fN (F b) fun b => κ (.ptr (some ⟨b, o⟩))) p) p
noncomputable def rnS (p : Option SL) (κ : AV → Bool) : Bool := Option.rec (motive := fun _ => Bool) (κ (.sl none)) (fun p => SL.rec (motive := fun _ => Bool) (fun b o l c n => fN (F b) fun b => κ (.sl (some ⟨b, o, l, c, n⟩))) p) p
noncomputable def rnM (p : Option Nat) (κ : AV → Bool) : Bool := Option.rec (motive := fun _ => Bool) (κ (.map none)) (fun b => fN (F b) fun b => κ (.map (some b))) p
abbrev KV := (AV → Bool) → Bool
abbrev KL := (List AV → Bool) → Bool
noncomputable def rnC (x : AV) : KV := AV.rec (motive_1 := fun _ => KV) (motive_2 := fun _ => KL)
 (fun k n κ => κ (.int k n)) (fun b κ => κ (.bool b)) (fun l κ => κ (.str l)) (rnP F) (rnS F) (rnM F)
 (fun fn _ _ ia ic κ => Fn.rec (motive := fun _ => Bool) (fun f => ia fun a => ic fun c => κ (.func (.func f) a c)) (fun _ => false) (fun _ _ => false) (fun _ _ _ _ => false) (fun _ => false) fn) (fun κ => κ .nilfunc) (fun t _ ih κ => ih fun x => κ (.iface t x)) (fun κ => κ .niliface)
 (fun _ ih κ => ih fun l => κ (.agg l)) (fun _ ih κ => ih fun l => κ (.tup l)) (fun κ => κ []) (fun _ _ ix ixs κ => ix fun y => ixs fun ys => κ (y :: ys)) x
noncomputable def rnL (l : List AV) : KL := List.rec (motive := fun _ => KL) (fun κ => κ []) (fun x _ ih κ => rnC F x fun y => ih fun ys => κ (y :: ys)) l
mutual
theorem rnC_ok : ∀ (x : AV) (κ : AV → Bool), rnC F x κ = true → κ (x.ren F) = true
 | .int _ _, _, h => h
 | .bool _, _, h => h
 | .str _, _, h => h
 | .ptr none, _, h => h
 | .ptr (some p), κ, h => by
  have h' : (fN (F p.b) fun b => κ (.ptr (some ⟨b, p.o⟩))) = true := h
  rw [fN_eq] at h'; exact h'
 | .sl none, _, h => h
 | .sl (some p), κ, h => by
  have h' : (fN (F p.b) fun b => κ (.sl (some ⟨b, p.o, p.len, p.cap, p.opn⟩))) = true := h
  rw [fN_eq] at h'; exact h'
 | .map none, _, h => h
 | .map (some b), κ, h => by
  have h' : (fN (F b) fun b => κ (.map (some b))) = true := h
  rw [fN_eq] at h'; exact h'
 | .func fn a c, κ, h => by
  cases fn with
  | func f =>
   have := rnL_ok c _ (rnL_ok a _ h)
   exact this
  | _ => cases h
 | .nilfunc, _, h => h
 | .iface t x, κ, h => rnC_ok x _ h
 | .niliface, _, h => h
 | .agg cs, κ, h => rnL_ok cs _ h
 | .tup cs, κ, h => rnL_ok cs _ h
theorem rnL_ok : ∀ (l : List AV) (κ : List AV → Bool), AV.rec_1 (motive_1 := fun _ => KV) (motive_2 := fun _ => KL)
 (fun k n κ => κ (.int k n)) (fun b κ => κ (.bool b)) (fun l κ => κ (.str l)) (rnP F) (rnS F) (rnM F)
 (fun fn _ _ ia ic κ => Fn.rec (motive := fun _ => Bool) (fun f => ia fun a => ic fun c => κ (.func (.func f) a c)) (fun _ => false) (fun _ _ => false) (fun _ _ _ _ => false) (fun _ => false) fn) (fun κ => κ .nilfunc) (fun t _ ih κ => ih fun x => κ (.iface t x)) (fun κ => κ .niliface)
 (fun _ ih κ => ih fun l => κ (.agg l)) (fun _ ih κ => ih fun l => κ (.tup l)) (fun κ => κ []) (fun _ _ ix ixs κ => ix fun y => ixs fun ys => κ (y :: ys)) l κ = true → κ (renL F l) = true
 | [], _, h => h
 | x :: l, κ, h => rnL_ok l _ (rnC_ok x _ h)
end
theorem rnL_okL : ∀ {l : List AV} {κ : List AV → Bool}, rnL F l κ = true → κ (renL F l) = true
 | [], _, h => h
 | x :: l, κ, h => rnL_okL (l := l) (rnC_ok F x _ h)
noncomputable def rnE (l : List (AV × AV × Nat)) : (List (AV × AV × Nat) → Bool) → Bool := List.rec (motive := fun _ => (List (AV × AV × Nat) → Bool) → Bool) (fun κ => κ []) (fun x _ ih κ => rnC F x.1 fun a => rnC F x.2.1 fun b => ih fun ys => κ ((a, b, x.2.2) :: ys)) l
theorem rnE_ok : ∀ {l : List (AV × AV × Nat)} {κ : List (AV × AV × Nat) → Bool}, rnE F l κ = true → κ (renM F l) = true
 | [], _, h => h
 | x :: l, κ, h => rnE_ok (l := l) (rnC_ok F x.2.1 _ (rnC_ok F x.1 _ h))
noncomputable def rnB (B : Blk) (κ : Blk → Bool) : Bool := Blk.rec (motive := fun _ => Bool) (fun c rw => rnL F c fun c => κ (.cells c rw)) (fun es k => rnE F es fun es => κ (.mp es k)) (fun _ _ _ _ => false) (fun _ => false) (fun _ _ => false) false B
theorem rnB_ok {B : Blk} {κ : Blk → Bool} (h : rnB F B κ = true) : κ (B.ren F) = true := by
 cases B with
 | cells c rw => exact rnL_okL F (κ := fun c => κ (.cells c rw)) h
 | mp es k => exact rnE_ok F (κ := fun es => κ (.mp es k)) h
 | _ => cases h
noncomputable def rnBs (l : List Blk) : (List Blk → Bool) → Bool := List.rec (motive := fun _ => (List Blk → Bool) → Bool) (fun κ => κ []) (fun B _ ih κ => rnB F B fun B => ih fun l => κ (B :: l)) l
theorem rnBs_ok : ∀ {l : List Blk} {κ : List Blk → Bool}, rnBs F l κ = true → κ (l.map (Blk.ren F)) = true
 | [], _, h => h
 | B :: l, κ, h => rnBs_ok (l := l) (κ := fun l => κ (B.ren F :: l)) (rnB_ok F (B := B) (κ := fun B => rnBs F l fun l => κ (B :: l)) h)
end
abbrev RunT := List AV → EH → (AV → EH → Bool) → Bool
noncomputable def outK (H0 : List Blk) (n : Nat) (v : AV) (e1 : EH) (κ : AV → List Blk → Bool) : Bool :=
 ifB (mat (fun b => b) 0 e1.t H0 (List.range n)) (rv n v ⟨[], n, []⟩ fun v2 s => rounds n e1.t 60 s [] fun s acc => rev acc [] fun N2 => rev s.as [] fun prs => fN (Nat.add n N2.length) fun n2 =>
  ifB (mat (gm n (prs.map Prod.fst)) n e1.t N2 (prs.map Prod.fst)) (ifB (ndp (prs.map Prod.fst)) (ifB (rl (gm n (prs.map Prod.fst)) v2 v) (ifB (lw v2 n2) (ifB (lwBs N2 n2) (κ v2 N2) false) false) false) false) false) false
theorem rev_ok {α : Type} : ∀ {l : List α} {a : List α} {κ : List α → Bool}, rev l a κ = true → ∃ r, κ r = true
 | [], a, κ, h => ⟨a, h⟩
 | x :: l, a, κ, h => rev_ok (l := l) (a := x :: a) h
theorem asGet_ok {b : Nat} {f : Nat → Bool} {d : Bool} : ∀ {l : List (Nat × Nat)}, asGet b l f d = true → (∃ c, f c = true) ∨ d = true
 | [], h => .inr h
 | p :: l, h => by
  have h' : ifB (Nat.beq p.1 b) (f p.2) (asGet b l f d) = true := h
  cases hb : Nat.beq p.1 b with
  | true => rw [hb] at h'; exact .inl ⟨_, h'⟩
  | false => rw [hb] at h'; exact asGet_ok h'
theorem rid_ok {n0 b : Nat} {s : Sch} {κ : Nat → Sch → Bool} (h : rid n0 b s κ = true) : ∃ c s', κ c s' = true := by
 unfold rid at h
 cases hb : Nat.blt b n0 with
 | true => rw [hb] at h; exact ⟨_, _, h⟩
 | false =>
  rw [hb] at h
  rcases asGet_ok (show asGet b s.as _ _ = true from h) with ⟨c, hc⟩ | hd
  ·exact ⟨_, _, hc⟩
  ·rw [fN_eq, fN_eq] at hd; exact ⟨_, _, hd⟩
mutual
theorem rv_ok {n0 : Nat} : ∀ (x : AV) {s : Sch} {κ : AV → Sch → Bool}, rv n0 x s κ = true → ∃ y s', κ y s' = true
 | .int _ _, s, κ, h => ⟨_, _, h⟩
 | .bool _, s, κ, h => ⟨_, _, h⟩
 | .str _, s, κ, h => ⟨_, _, h⟩
 | .ptr none, s, κ, h => ⟨_, _, h⟩
 | .ptr (some p), s, κ, h => by obtain ⟨c, s', h⟩ := rid_ok (show rid n0 p.b s (fun c s => κ (.ptr (some ⟨c, p.o⟩)) s) = true from h); exact ⟨_, _, h⟩
 | .sl none, s, κ, h => ⟨_, _, h⟩
 | .sl (some p), s, κ, h => by obtain ⟨c, s', h⟩ := rid_ok (show rid n0 p.b s (fun c s => κ (.sl (some ⟨c, p.o, p.len, p.cap, p.opn⟩)) s) = true from h); exact ⟨_, _, h⟩
 | .map none, s, κ, h => ⟨_, _, h⟩
 | .map (some b), s, κ, h => by obtain ⟨c, s', h⟩ := rid_ok (show rid n0 b s (fun c s => κ (.map (some c)) s) = true from h); exact ⟨_, _, h⟩
 | .func fn a c, s, κ, h => by
  obtain ⟨a', s1, h⟩ := rvR_ok a h
  obtain ⟨c', s2, h⟩ := rvR_ok c h
  exact ⟨_, _, h⟩
 | .nilfunc, s, κ, h => ⟨_, _, h⟩
 | .iface t x, s, κ, h => by obtain ⟨c, s', h⟩ := rv_ok x h; exact ⟨_, _, h⟩
 | .niliface, s, κ, h => ⟨_, _, h⟩
 | .agg cs, s, κ, h => by obtain ⟨c, s', h⟩ := rvR_ok cs h; exact ⟨_, _, h⟩
 | .tup cs, s, κ, h => by obtain ⟨c, s', h⟩ := rvR_ok cs h; exact ⟨_, _, h⟩
theorem rvR_ok {n0 : Nat} : ∀ (l : List AV) {s : Sch} {κ : List AV → Sch → Bool}, AV.rec_1 (motive_1 := fun _ => RV) (motive_2 := fun _ => RL)
 (fun k n s κ => κ (.int k n) s) (fun b s κ => κ (.bool b) s) (fun l s κ => κ (.str l) s) (rvP n0) (rvS n0) (rvM n0)
 (fun fn _ _ ia ic s κ => ia s fun a s => ic s fun c s => κ (.func fn a c) s) (fun s κ => κ .nilfunc s) (fun t _ ih s κ => ih s fun x s => κ (.iface t x) s) (fun s κ => κ .niliface s)
 (fun _ ih s κ => ih s fun l s => κ (.agg l) s) (fun _ ih s κ => ih s fun l s => κ (.tup l) s)
 (fun s κ => κ [] s) (fun _ _ ix ixs s κ => ix s fun y s => ixs s fun ys s => κ (y :: ys) s) l s κ = true → ∃ r s', κ r s' = true
 | [], s, κ, h => ⟨_, _, h⟩
 | x :: l, s, κ, h => by
  obtain ⟨y, s1, h⟩ := rv_ok x h
  obtain ⟨ys, s2, h⟩ := rvR_ok l h
  exact ⟨_, _, h⟩
end
theorem rvL_ok {n0 : Nat} : ∀ {l : List AV} {s : Sch} {κ : List AV → Sch → Bool}, rvL n0 l s κ = true → ∃ r s', κ r s' = true
 | [], s, κ, h => ⟨_, _, h⟩
 | x :: l, s, κ, h => by
  obtain ⟨y, s1, h⟩ := rv_ok x (show rv n0 x s (fun y s => rvL n0 l s fun ys s => κ (y :: ys) s) = true from h)
  obtain ⟨ys, s2, h⟩ := rvL_ok h
  exact ⟨_, _, h⟩
theorem rvE_ok {n0 : Nat} : ∀ {l : List (AV × AV × Nat)} {s : Sch} {κ : List (AV × AV × Nat) → Sch → Bool}, rvE n0 l s κ = true → ∃ r s', κ r s' = true
 | [], s, κ, h => ⟨_, _, h⟩
 | x :: l, s, κ, h => by
  obtain ⟨y, s1, h⟩ := rv_ok x.1 (show rv n0 x.1 s (fun a s => rv n0 x.2.1 s fun b s => rvE n0 l s fun ys s => κ ((a, b, x.2.2) :: ys) s) = true from h)
  obtain ⟨y2, s2, h⟩ := rv_ok x.2.1 h
  obtain ⟨ys, s3, h⟩ := rvE_ok h
  exact ⟨_, _, h⟩
theorem rvB_ok {n0 : Nat} {B : Blk} {s : Sch} {κ : Blk → Sch → Bool} (h : rvB n0 B s κ = true) : ∃ r s', κ r s' = true := by
 cases B with
 | cells c rw => obtain ⟨y, s1, h⟩ := rvL_ok (show rvL n0 c s _ = true from h); exact ⟨_, _, h⟩
 | mp es k => obtain ⟨y, s1, h⟩ := rvE_ok (show rvE n0 es s _ = true from h); exact ⟨_, _, h⟩
 | _ => cases h
theorem prL_ok {n0 : Nat} {t : T Blk} : ∀ {l : List Nat} {s : Sch} {acc : List Blk} {κ : Sch → List Blk → Bool}, prL n0 t l s acc κ = true → ∃ s' r, κ s' r = true
 | [], s, acc, κ, h => ⟨_, _, h⟩
 | b :: l, s, acc, κ, h => by
  have h' : (onB (t.wget b) fun B => rvB n0 B s fun B s => prL n0 t l s (B :: acc) κ) = true := h
  rw [onB_eq] at h'
  split at h'
  ·obtain ⟨B', s', h'⟩ := rvB_ok h'
   exact prL_ok h'
  ·cases h'
theorem rounds_ok {n0 : Nat} {t : T Blk} : ∀ {f : Nat} {s : Sch} {acc : List Blk} {κ : Sch → List Blk → Bool}, rounds n0 t f s acc κ = true → ∃ s' r, κ s' r = true
 | 0, s, acc, κ, h => by cases h
 | f + 1, ⟨as, nx, pd⟩, acc, κ, h => by
  cases pd with
  | nil => exact ⟨_, _, h⟩
  | cons p pd =>
   obtain ⟨r, h⟩ := rev_ok (show rev (p :: pd) [] (fun p => prL n0 t p ⟨as, nx, []⟩ acc fun s acc => rounds n0 t f s acc κ) = true from h)
   obtain ⟨s', r2, h⟩ := prL_ok h
   exact rounds_ok h
theorem outK_ok {H0 : List Blk} {n : Nat} (hn : n = H0.length) (hlow : ∀ (b : Nat) (B : Blk), H0[b]? = some B → B.low n = true) {v : AV} {e1 : EH} {h1 : Heap} (H1 : HFor e1 h1) {κ : AV → List Blk → Bool} (hk : outK H0 n v e1 κ = true) :
  ∃ g v2 N2, Emb n g v2 (H0 ++ N2) v h1 ∧ κ v2 N2 = true := by
 unfold outK at hk
 obtain ⟨hold, hk⟩ := and_tt hk
 obtain ⟨v2, s, hk⟩ := rv_ok v hk
 obtain ⟨s, acc, hk⟩ := rounds_ok hk
 obtain ⟨N2, hk⟩ := rev_ok hk
 obtain ⟨prs, hk⟩ := rev_ok hk
 rw [fN_eq] at hk
 generalize prs.map Prod.fst = m at hk
 obtain ⟨c1, hk⟩ := and_tt hk
 obtain ⟨c2, hk⟩ := and_tt hk
 obtain ⟨c3, hk⟩ := and_tt hk
 obtain ⟨c4, hk⟩ := and_tt hk
 obtain ⟨c5, hk⟩ := and_tt hk
 obtain ⟨o1, o2⟩ := mat_ok hold
 obtain ⟨m1, m2⟩ := mat_ok c1
 have c2' := ndp_ok c2
 have hlen : (H0 ++ N2).length = n + N2.length := by rw [List.length_append, hn]
 have old : ∀ (b : Nat) (B : Blk), H0[b]? = some B → h1[b]? = some B := fun b B hB => by
  have := (o2 b B hB).2.1
  have hb : b < n := by rw [hn]; exact lt_of_get hB
  rw [List.getD_eq_getElem?_getD, List.getElem?_range hb, blk_ren_id] at this
  rw [← H1.1]; exact this
 have new : ∀ (j : Nat) (B : Blk), N2[j]? = some B → n ≤ m.getD j 0 ∧ h1[m.getD j 0]? = some (B.ren (gm n m)) := fun j B hB => by
  obtain ⟨a, b, _⟩ := m2 j B hB
  exact ⟨a, by rw [← H1.1]; exact b⟩
 refine ⟨gm n m, v2, N2, ⟨fun b hb => gm_lt hb, by rw [hlen]; omega, ⟨rfl, fun b hb => ?_, fun b B hB _ => ?_, fun b1 b2 B1 B2 hne g1 g2 _ _ => ?_, fun b B hB => ?_⟩, ?_, rl_ok _ _ _ c3⟩, hk⟩
 ·rw [hlen] at hb
  rcases Nat.lt_or_ge b n with h | h
  ·rw [gm_lt h]
   exact lt_of_get (old b _ (List.getElem?_eq_getElem (by omega)))
  ·rw [gm_ge h]
   exact lt_of_get (new (b - n) _ (List.getElem?_eq_getElem (by omega))).2
 ·rcases Nat.lt_or_ge b n with h | h
  ·rw [List.getElem?_append_left (by omega)] at hB
   rw [gm_lt h, old b B hB, ← bren_same (f := fun b => b) (g := gm n m) (n := n) (fun b hb => (gm_lt hb).symm) (hlow b B hB), blk_ren_id]
  ·rw [List.getElem?_append_right (by omega)] at hB
   rw [gm_ge h]
   rw [← hn] at hB
   exact (new (b - n) B hB).2
 ·have l1 := lt_of_get g1
  have l2 := lt_of_get g2
  rw [hlen] at l1 l2
  have far : ∀ b, n ≤ b → b < n + N2.length → n ≤ gm n m b := fun b h h' => by
   rw [gm_ge h]
   exact (new (b - n) _ (List.getElem?_eq_getElem (by omega))).1
  rcases Nat.lt_or_ge b1 n with h1' | h1' <;> rcases Nat.lt_or_ge b2 n with h2' | h2'
  ·rw [gm_lt h1', gm_lt h2']; exact hne
  ·have := far b2 h2' l2; rw [gm_lt h1']; omega
  ·have := far b1 h1' l1; rw [gm_lt h2']; omega
  ·rw [gm_ge h1', gm_ge h2']
   exact nodup_getD c2' (by omega) (by omega) (by omega)
 ·rw [hlen]
  rcases Nat.lt_or_ge b n with h | h
  ·rw [List.getElem?_append_left (by omega)] at hB
   exact blow_mono (by omega) (hlow b B hB)
  ·rw [List.getElem?_append_right (by omega)] at hB
   exact lwBs_ok c5 _ B hB
 ·rw [hlen]; exact lw_ok v2 c4
def RunOK (P : Program) (f : FuncId) (run : RunT) : Prop := ∀ (args : List AV) (e : EH) (h : Heap) (k : AV → EH → Bool) (Q : AV → Heap → Prop), HFor e h → (∀ v e' h', HFor e' h' → k v e' = true → Q v h') → run args e k = true → AC P f args h Q
end Go.Ab
