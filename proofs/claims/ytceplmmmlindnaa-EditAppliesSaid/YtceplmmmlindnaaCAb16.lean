/- Regions that draw their order: one theorem. -/
import Derived.Test.YtceplmmmlindnaaCAb15
namespace Go.Ab
set_option linter.unusedSimpArgs false
set_option linter.unusedVariables false

section
variable {P : Program} {isLoc : Nat → Bool} {call : CallH} {L : Locs} {h : Heap} {ρ ρ' : List LV}

theorem vals_congr : ∀ {l : List Operand}, (∀ x ∈ l, ev ρ x = ev ρ' x) → vals ρ l = vals ρ' l
  | [], _ => rfl
  | x :: l, hx => by
    simp only [vals]
    rw [hx x (by simp), vals_congr (l := l) fun y hy => hx y (by simp [hy])]

theorem partsA_congr {ps : Array (Nat × Operand)} (hx : ∀ x ∈ (ps.toList.map (·.2)), ev ρ x = ev ρ' x) : partsA ρ ps = partsA ρ' ps := by
  unfold partsA
  rw [vals_congr hx]

theorem evI_congr {x : Operand} (hx : ev ρ x = ev ρ' x) : evI ρ x = evI ρ' x := by unfold evI; rw [hx]
theorem optI_congr {x : Option Operand} (hx : ∀ y, x = some y → ev ρ y = ev ρ' y) : optI ρ x = optI ρ' x := by
  cases x with
  | none => rfl
  | some y => simp only [optI]; rw [evI_congr (hx y rfl)]

theorem vop_congr {o : Oper} {K : KO} (hx : ∀ x ∈ o.op.operands.toList, ev ρ x = ev ρ' x) : vop P isLoc call o ρ L h K = vop P isLoc call o ρ' L h K := by
  obtain ⟨dst, op, type, pos, after, guard⟩ := o
  cases op <;> simp only [Op.operands, Call.operands] at hx <;> simp only [vop]
  case move x => rw [hx x (by simp)]
  case assign x => rw [hx x (by simp)]
  case pick c a b => rw [hx c (by simp), hx a (by simp), hx b (by simp)]
  case box t x => rw [hx x (by simp)]
  case load t x => rw [hx x (by simp)]
  case store t a x => rw [hx a (by simp), hx x (by simp)]
  case nilCheck x => rw [hx x (by simp)]
  case binOp op t x y yt => rw [hx x (by simp), hx y (by simp)]
  case unOp op t x => rw [hx x (by simp)]
  case convert a b x => rw [hx x (by simp)]
  case fieldAddr s x f => rw [hx x (by simp)]
  case field s x f => rw [hx x (by simp)]
  case indexAddr t x ix => rw [hx x (by simp), evI_congr (hx ix (by simp))]
  case index t x ix => rw [hx x (by simp), evI_congr (hx ix (by simp))]
  case build t ps => rw [partsA_congr (by simpa using hx)]
  case buildSlice t n ps => rw [partsA_congr (by simpa using hx)]
  case slice t x lo hi mx =>
    rw [hx x (by simp), optI_congr (x := lo) (fun y hy => hx y (by simp [hy])), optI_congr (x := hi) (fun y hy => hx y (by simp [hy])), optI_congr (x := mx) (fun y hy => hx y (by simp [hy]))]
  case makeSlice t l c => rw [evI_congr (hx l (by simp)), evI_congr (hx c (by simp))]
  case sliceToArrayPointer t x => rw [hx x (by simp)]
  case lookup t x ix ok => rw [hx x (by simp), hx ix (by simp)]
  case mapUpdate t m k x => rw [hx m (by simp), hx k (by simp), hx x (by simp)]
  case range t x => rw [hx x (by simp)]
  case next x b => rw [hx x (by simp)]
  case entry x => rw [hx x (by simp)]
  case extract x i => rw [hx x (by simp)]
  case makeFunc fn f c => rw [vals_congr (l := f.toList) (fun y hy => hx y (by simp at hy ⊢; exact .inl hy)), vals_congr (l := c.toList) (fun y hy => hx y (by simp at hy ⊢; exact .inr hy))]
  case makeInterface t x => rw [hx x (by simp)]
  case call c =>
    rw [vals_congr (l := c.args.toList) (fun y hy => hx y (by simp at hy ⊢; exact .inr hy))]
    cases hc : c.callee with
    | value f => simp only [hc] at hx ⊢; rw [hx f (by simp)]
    | invoke r m => simp only [hc] at hx ⊢; rw [hx r (by simp)]
    | builtin b => rfl

theorem ev_set {d t : Nat} {lv : LV} {x : Operand} (h : ∀ d', x = .tmp d' → d' ≠ d) : ev (ρ.set d lv) x = ev ρ x := by
  cases x with
  | tmp t =>
    have := h t rfl
    simp only [ev, List.getD]
    rw [List.getElem?_set, if_neg (Ne.symm this)]
  | _ => rfl
end

def bindsOf (o : Oper) : List Nat := (o.after.toList.filter (Region.binds .any)).map (·.on)

/-- Whatever must stand before: a direct edge, or one behind it. -/
inductive Bf (ops : Array Oper) : Nat → Nat → Prop
  | edge {i j : Nat} {o : Oper} : ops[i]? = some o → j ∈ bindsOf o → Bf ops i j
  | via {i e j : Nat} {o : Oper} : ops[i]? = some o → e ∈ bindsOf o → Bf ops e j → Bf ops i j

/-- k n, with n worked out first. -/
def forceN {α : Type} (n : Nat) (k : Nat → α) : α := match n with | 0 => k 0 | m + 1 => k (m + 1)
theorem forceN_eq {α : Type} (n : Nat) (k : Nat → α) : forceN n k = k n := by cases n <;> rfl

/-- The rows of bits so far, the last first; n of them. -/
def rowAt (rows : List Nat) (n i : Nat) : Nat := if i < n then rows.getD (n - 1 - i) 0 else 0
def rowOf (rows : List Nat) (n : Nat) : List Nat → Nat
  | [] => 0
  | e :: es => (2 ^ e ||| rowAt rows n e) ||| rowOf rows n es
def bfRows {α : Type} : List Oper → Nat → List Nat → (List Nat → Nat → α) → α
  | [], n, rows, k => k rows n
  | o :: os, n, rows, k => forceN (rowOf rows n (bindsOf o)) fun v => bfRows os (n + 1) (v :: rows) k
def bfBit (rows : List Nat) (n i j : Nat) : Bool := (rowAt rows n i).testBit j

theorem rowOf_bit {rows : List Nat} {n : Nat} : ∀ {l : List Nat} {j : Nat}, (rowOf rows n l).testBit j = true → ∃ e ∈ l, e = j ∨ (rowAt rows n e).testBit j = true
  | [], j, h => by simp [rowOf] at h
  | e :: es, j, h => by
    simp only [rowOf, Nat.testBit_or, Bool.or_eq_true, Nat.testBit_two_pow, decide_eq_true_eq] at h
    rcases h with (h | h) | h
    · exact ⟨e, by simp, .inl h⟩
    · exact ⟨e, by simp, .inr h⟩
    · obtain ⟨e', h1, h2⟩ := rowOf_bit h; exact ⟨e', by simp [h1], h2⟩

theorem bfRows_ok {ops : Array Oper} {α : Type} {k : List Nat → Nat → α} : ∀ (os : List Oper) (n : Nat) (rows : List Nat), rows.length = n → ops.toList.drop n = os → (∀ i j, bfBit rows n i j = true → Bf ops i j) →
    ∃ rows' n', bfRows os n rows k = k rows' n' ∧ ∀ i j, bfBit rows' n' i j = true → Bf ops i j
  | [], n, rows, _, _, h => ⟨rows, n, rfl, h⟩
  | o :: os, n, rows, hl, hd, h => by
    simp only [bfRows, forceN_eq]
    have ho : ops[n]? = some o := by
      have : (ops.toList.drop n)[0]? = some o := by rw [hd]; rfl
      simpa using this
    refine bfRows_ok os (n + 1) _ (by simp [hl]) (by rw [← List.drop_drop, hd]; rfl) fun i j hb => ?_
    unfold bfBit rowAt at hb
    split at hb
    · rename_i hi
      by_cases hin : i = n
      · subst hin
        simp only [Nat.add_sub_cancel, Nat.sub_self, List.getD_cons_zero] at hb
        obtain ⟨e, he, h2⟩ := rowOf_bit hb
        rcases h2 with rfl | h2
        · exact .edge ho he
        · exact .via ho he (h e j h2)
      · have : n + 1 - 1 - i = (n - 1 - i) + 1 := by omega
        rw [this, List.getD_cons_succ] at hb
        refine h i j ?_
        unfold bfBit rowAt
        rw [if_pos (by omega)]
        exact hb
    · simp at hb

/-- What must hold of the operations themselves. -/
def okDraw (P : Program) (ops : Array Oper) (rows : List Nat) (m : Nat) : Bool :=
  let n := ops.size
  Region.noSelect ops && P.follows .mixedOrders &&
  (List.range n).all fun i => match ops[i]? with
    | none => false
    | some o =>
      (bindsOf o).all (fun e => decide (e < i)) &&
      (match o.dst with | some d => cls P o == 0 || !(o.looksAt ops).contains d | none => true) &&
      (List.range n).all fun j => i == j || match ops[j]? with
        | none => false
        | some o' => match o'.dst with
          | none => true
          | some d => !(o.dst == some d) && (!(o.looksAt ops).contains d || (bfBit rows m i j || (bfBit rows m j i && (cls P o == 0 || cls P o' == 0))))

def readyRO (P : Program) (ops : Array Oper) (listed : List Nat) : Option Nat :=
  (List.range ops.size).find? fun i => !listed.contains i && match ops[i]? with | some o => cls P o != 0 && (bindsOf o).all listed.contains | none => false
def readyE (ops : Array Oper) (listed : List Nat) : List Nat :=
  (List.range ops.size).filter fun i => !listed.contains i && match ops[i]? with | some o => (bindsOf o).all listed.contains | none => false

def vall : List Nat → (Nat → Prop) → Prop
  | [], _ => True
  | [j], f => f j
  | j :: js, f => f j ∧ vall js f

theorem vall_mem {f : Nat → Prop} : ∀ {l : List Nat}, vall l f → ∀ j ∈ l, f j
  | [], _, j, hj => by simp at hj
  | [k], h, j, hj => by simp at hj; subst hj; exact h
  | k :: k' :: l, h, j, hj => by
    simp only [vall] at h
    rcases List.mem_cons.1 hj with rfl | hj
    · exact h.1
    · exact vall_mem h.2 j hj

/-- An operation, its guard heeded; the rest hears what it yields. -/
def vg (P : Program) (isLoc : Nat → Bool) (call : CallH) (ops : Array Oper) (o : Oper) (ρ : List LV) (L : Locs) (h : Heap) (K : KO) : Prop :=
  match actsAt ops o ρ with
  | none => False
  | some b => vif b (vop P isLoc call o ρ L h K) (K .und L h)

def rechk1 (P : Program) (isLoc : Nat → Bool) (call : CallH) (ops : Array Oper) (i : Nat) (st : St) : Prop :=
  match ops[i]? with
  | some o => vg P isLoc call ops o st.ρ st.L st.h fun lv _ _ => match o.dst with | some d => lv = st.ρ.getD d .top | none => True
  | none => False

def rechks (P : Program) (isLoc : Nat → Bool) (call : CallH) (ops : Array Oper) (st : St) (A : Prop) : List Nat → Prop
  | [] => A
  | i :: is => rechk1 P isLoc call ops i st ∧ rechks P isLoc call ops st A is

theorem rechks_elim {P : Program} {isLoc : Nat → Bool} {call : CallH} {ops : Array Oper} {st : St} {A : Prop} : ∀ {l : List Nat}, rechks P isLoc call ops st A l → A ∧ ∀ i ∈ l, rechk1 P isLoc call ops i st
  | [], h => ⟨h, by simp⟩
  | i :: is, ⟨h1, h2⟩ => ⟨(rechks_elim h2).1, by intro j hj; simp at hj; rcases hj with rfl | hj; exact h1; exact (rechks_elim h2).2 j hj⟩

def toCheck (P : Program) (ops : Array Oper) (rows : List Nat) (m : Nat) (listed : List Nat) (j : Nat) : List Nat :=
  listed.filter fun i => match ops[i]? with | some o => cls P o == 2 && !bfBit rows m j i | none => false

def vany (P : Program) (isLoc : Nat → Bool) (call : CallH) (ops : Array Oper) (rows : List Nat) (m : Nat) : Nat → List Nat → St → (St → Prop) → Prop
  | 0, _, _, _ => False
  | n + 1, listed, st, K =>
    match readyRO P ops listed with
    | some i => match ops[i]? with
      | some o => vguarded P isLoc call ops o st fun st' => vany P isLoc call ops rows m n (i :: listed) st' K
      | none => False
    | none => match readyE ops listed with
      | [] => need ((List.range ops.size).all listed.contains) (K st)
      | j :: js => vall (j :: js) fun j => match ops[j]? with
        | some o => vguarded P isLoc call ops o st fun st' => rechks P isLoc call ops st' (vany P isLoc call ops rows m n (j :: listed) st' K) (toCheck P ops rows m listed j)
        | none => False

def vdraw (P : Program) (isLoc : Nat → Bool) (call : CallH) : DrawH := fun _ ops st K =>
  bfRows ops.toList 0 [] fun rows m => need (okDraw P ops rows m) (vany P isLoc call ops rows m (ops.size + 1) [] st K)

section
variable {P : Program} {isLoc : Nat → Bool} {call : CallH} {ops : Array Oper}

structure OkD (P : Program) (ops : Array Oper) : Prop where
  nosel : Region.noSelect ops = true
  mixed : P.follows .mixedOrders = true
  lt : ∀ (i : Nat) (o : Oper), ops[i]? = some o → ∀ e ∈ bindsOf o, e < i
  self : ∀ (i : Nat) (o : Oper) (d : Nat), ops[i]? = some o → o.dst = some d → cls P o ≠ 0 → d ∉ o.looksAt ops
  dst : ∀ (i j : Nat) (o o' : Oper) (d : Nat), ops[i]? = some o → ops[j]? = some o' → i ≠ j → o'.dst = some d → o.dst ≠ some d
  look : ∀ (i j : Nat) (o o' : Oper) (d : Nat), ops[i]? = some o → ops[j]? = some o' → i ≠ j → o'.dst = some d → d ∈ o.looksAt ops →
    Bf ops i j ∨ (Bf ops j i ∧ (cls P o = 0 ∨ cls P o' = 0))

theorem okD_of {rows : List Nat} {m : Nat} (hb : ∀ i j, bfBit rows m i j = true → Bf ops i j) (h : okDraw P ops rows m = true) : OkD P ops := by
  simp only [okDraw, Bool.and_eq_true, List.all_eq_true, List.mem_range] at h
  obtain ⟨⟨h1, h2⟩, h3⟩ := h
  have at' : ∀ (i : Nat) (o : Oper), ops[i]? = some o → _ := fun i o ho => h3 i (Array.getElem?_eq_some_iff.1 ho).1
  refine ⟨h1, h2, ?_, ?_, ?_, ?_⟩
  · intro i o ho e he
    have := at' i o ho
    rw [ho] at this
    simp only [Bool.and_eq_true, List.all_eq_true] at this
    simpa using this.1.1 e he
  · intro i o d ho hd hc
    have := at' i o ho
    rw [ho] at this
    simp only [Bool.and_eq_true, List.all_eq_true, hd] at this
    have := this.1.2
    simp [hc] at this
    exact this
  · intro i j o o' d ho ho' hne hd
    have := at' i o ho
    rw [ho] at this
    simp only [Bool.and_eq_true, List.all_eq_true] at this
    have := this.2 j (by simpa using (Array.getElem?_eq_some_iff.1 ho').1)
    simp only [ho', hd, Bool.or_eq_true, Bool.and_eq_true, beq_iff_eq, hne, false_or] at this
    have := this.1
    simpa using this
  · intro i j o o' d ho ho' hne hd hl
    have := at' i o ho
    rw [ho] at this
    simp only [Bool.and_eq_true, List.all_eq_true] at this
    have := this.2 j (by simpa using (Array.getElem?_eq_some_iff.1 ho').1)
    simp only [ho', hd, Bool.or_eq_true, Bool.and_eq_true, beq_iff_eq, hne, false_or] at this
    have := this.2
    simp only [Bool.not_eq_true', List.contains_eq_mem, decide_eq_false_iff_not, hl, not_true_eq_false, false_or] at this
    rcases this with h | ⟨h, h'⟩
    · exact .inl (hb _ _ h)
    · exact .inr ⟨hb _ _ h, h'⟩

/-- What stands before lies in a set that is closed. -/
theorem Bf.closed {S : Nat → Prop} (hS : ∀ (i : Nat) (o : Oper), ops[i]? = some o → S i → ∀ e ∈ bindsOf o, S e) {i j : Nat} (h : Bf ops i j) : (∀ o, ops[i]? = some o → ∀ e ∈ bindsOf o, S e) → S j := by
  induction h with
  | edge ho he => intro h; exact h _ ho _ he
  | via ho he _ ih =>
    intro h
    exact ih fun o' ho' e' he' => hS _ _ ho' (h _ ho _ he) _ he'

theorem vg_of {o : Oper} {st : St} {K : St → Prop} (hk : vguarded P isLoc call ops o st K) : vg P isLoc call ops o st.ρ st.L st.h fun v L h => K (st.put o.dst v L h) := by
  unfold vg
  rcases vguarded_elim hk with ⟨hg, hk⟩ | ⟨hg, hk⟩ <;> simp only [hg, vif] <;> exact hk

theorem vg_congr {o : Oper} {ρ ρ' : List LV} {L : Locs} {h : Heap} {K : KO} (hx : ∀ d ∈ o.looksAt ops, ρ[d]? = ρ'[d]?) : vg P isLoc call ops o ρ L h K = vg P isLoc call ops o ρ' L h K := by
  have h1 : ∀ x ∈ o.op.operands.toList, ev ρ x = ev ρ' x := by
    intro x hm
    cases x with
    | tmp t =>
      have := hx t (by unfold Oper.looksAt; exact List.mem_append_left _ (List.mem_filterMap.2 ⟨.tmp t, hm, rfl⟩))
      simp only [ev, List.getD, this]
    | _ => rfl
  have hv : ∀ K, vop P isLoc call o ρ L h K = vop P isLoc call o ρ' L h K := fun K => vop_congr h1
  have ha : actsAt ops o ρ = actsAt ops o ρ' := by
    unfold actsAt
    cases hg : o.guard with
    | none => rfl
    | some gw =>
      obtain ⟨g, want⟩ := gw
      have hgv : guardVal ops ρ g = guardVal ops ρ' g := by
        unfold guardVal
        cases ht : (ops[g]?).bind (·.dst) with
        | none => rfl
        | some t => simp only [hx t (by simp [Oper.looksAt, hg, ht])]
      have hgo : guardOff ops ρ g = guardOff ops ρ' g := by
        unfold guardOff
        cases ht : (ops[g]?).bind (·.dst) with
        | none => rfl
        | some t => simp only [hx t (by simp [Oper.looksAt, hg, ht])]
      simp only [hgv, hgo]
  unfold vg
  simp only [ha, hv]

theorem vg_same {o : Oper} {ρ : List LV} {L : Locs} {h : Heap} {K : KO} (hc : cls P o ≠ 0) (hk : vg P isLoc call ops o ρ L h K) :
    ∃ lv, K lv L h ∧ vg P isLoc call ops o ρ L h (Same lv L h) ∧ (cls P o = 1 → ∀ L2 h2, vg P isLoc call ops o ρ L2 h2 (Same lv L2 h2)) := by
  have S : ∀ (lv : LV) L2 h2, Same lv L2 h2 lv L2 h2 := fun lv L2 h2 => ⟨rfl, rfl, rfl⟩
  unfold vg at hk ⊢
  cases ha : actsAt ops o ρ with
  | none => simp only [ha] at hk
  | some b =>
    simp only [ha] at hk ⊢
    cases b <;> simp only [vif] at hk ⊢
    · exact ⟨.und, hk, S _ _ _, fun _ => S _⟩
    · exact vop_same hc hk
end

section
variable {P : Program} {μ0 : Ren} {h0 : Heap} {w0 : World} {isLoc : Nat → Bool} {ops : Array Oper}

theorem vg_wp {i : Nat} {o : Oper} {ρ : List LV} {L : Locs} {h : Heap} {K : KO} {μ : Ren} {lam : List Nat} {a : Act} {w : World} {next : Act → World → Prop} {Q : Exit → Act → World → Prop} (ho : ops[i]? = some o)
    (R : Rel μ0 h0 w0 μ lam L h w) (E : EnvRel μ lam ρ a.tmps) (hk : vg P isLoc (AC P) ops o ρ L h K) (hn : NextOK μ0 h0 w0 μ lam K o.dst a next) : wpOp P ops Q i next a w := by
  unfold wpOp
  simp only [ho]
  unfold vg at hk
  split at hk
  · exact hk.elim
  · rename_i b hb
    rcases vif_elim hk with ⟨rfl, hk⟩ | ⟨rfl, hk⟩
    · rw [if_pos (wanted_of E hb)]
      exact .inl (vop_wp R E hk hn)
    · rw [if_neg (by rw [wanted_of E hb]; simp)]
      exact hn .und L h μ lam undef w hk R (.refl _) (lamLe.refl _) und_rel
end
end Go.Ab
