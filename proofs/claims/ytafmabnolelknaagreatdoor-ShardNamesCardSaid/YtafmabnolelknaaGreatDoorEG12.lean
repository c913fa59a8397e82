import Derived.Test.YtafmabnolelknaaGreatDoorEG8
import Derived.WalkKit
import Derived.ProofKit
import Derived.JoinedCond
import Derived.Carry
import Derived.Lib.SmallJoins
namespace Go.Ab
open Go.ChangeShapes Go.WideShapes Go.ChangeAt Go.RowKit
set_option linter.unusedSimpArgs false
set_option linter.unusedVariables false
section
variable {H : Type} {enc : TypeId × Value → H} {P : Program}
theorem trodAll_below (hl : laidOutB P = true) {W W' : World} (hb : Below W.heap.size W W') {sp : Nat → Bool} : ∀ {ts : List TypeId} {vs : List Value} {ds : List (DataW H)} {ps : List MemPlace},
  (∀ t ∈ ts, P.readableRec t = true ∧ t < P.types.size) → DataW.TrodAll enc P W 0 (fun _ => true) true ts vs ds ps → (∀ x ∈ ps, x.block < W.heap.size) → (∀ x ∈ ps, sp x.block = true) → DataW.TrodAll enc P W' 0 sp true ts vs ds ps
 | [], vs, ds, ps, ht, h, h1, h2 => by
  obtain ⟨rfl, rfl, rfl⟩ := trodAll_nil h
  exact h
 | t :: ts, vs, ds, ps, ht, h, h1, h2 => by
  obtain ⟨v, vs1, d, ds1, a, b, rfl, rfl, rfl, h3, h4⟩ := trodAll_cons h
  exact ⟨a, b, WideElems.Trod_stays hl (ht t (by simp)).1 (ht t (by simp)).2 h3 (fun x hx => hb.same (h1 x (by simp [hx]))) (fun x hx => h2 x (by simp [hx])),
   trodAll_below hl hb (fun t' ht' => ht t' (by simp [ht'])) h4 (fun x hx => h1 x (by simp [hx])) (fun x hx => h2 x (by simp [hx])), rfl⟩
def readables (P : Program) (ts : List TypeId) : Bool := laidOutB P && ts.all fun t => P.readableRec t && decide (t < P.types.size)
theorem post_yes {f : Func} {s : ChangeSpec} {apart fresh handsOn again : Bool} {W W' : World} {args : Array Value} {ds gs : List (DataW H)} {before : List MemPlace} {t : TypeId}
  (hW : DataW.Whole enc P f.params.toList s.vars apart W args.toList ds gs before) (hv : s.vars = []) (hfn : s.fn H (ds ++ gs) = { results := [.lit (.bool true)], args := ds }) (hr : f.resultTypes = #[t]) (ht : P.underlying t = some .bool)
  (hrd : readables P f.params.toList = true) (hb : Below W.heap.size W W') : s.post enc P f apart fresh handsOn again W args (.bool true) W' := by
 have hW' := hW
 obtain ⟨p, q, hA, hV, rfl, hz, hn⟩ := hW
 rw [hv] at hV
 obtain ⟨rfl, rfl⟩ := trodVars_none hV
 simp only [readables, Bool.and_eq_true, List.all_eq_true, decide_eq_true_eq] at hrd
 have hlt : ∀ x ∈ p, x.block < W.heap.size := fun x hx => hW'.lt x (by simp [hx])
 have hargs : ∀ sp : Nat → Bool, (∀ x ∈ p ++ [], sp x.block = true) → DataW.TrodAll enc P W' 0 sp true f.params.toList args.toList (s.fn H (ds ++ [])).args p := by
  intro sp hsp
  rw [hfn]
  exact trodAll_below hrd.1 hb hrd.2 hA hlt fun x hx => hsp x (by simp [hx])
 have hres : ∀ (b : Nat) (sp : Nat → Bool) (hd : Bool), DataW.TrodAll enc P W' b sp hd f.resultTypes.toList ((Value.bool true).resultList f.resultTypes.size) (s.fn H (ds ++ [])).results [] := by
  intro b sp hd
  rw [hfn, hr]
  exact trodAll_cons_mk (shut_bool ht _) trodAll_mk0
 have hvars : ∀ sp : Nat → Bool, DataW.TrodVars enc P W' sp s.vars (s.fn H (ds ++ [])).vars [] := by
  intro sp
  rw [hfn, hv]
  rfl
 have hold : ∀ x ∈ p ++ [], (fun b => decide (b < W.heap.size)) x.block = true := fun x hx => by simpa using hlt x (by simpa using hx)
 refine ⟨ds, [], p ++ [], [], p, [], hW', hres _ _ _, hargs _ hold, hvars _, hb.frame _, fun _ => ?_⟩
 refine ⟨?_, _, _, ([] ++ p) ++ [], ⟨[] ++ p, [], trodAll_append (hargs _ (fun _ _ => rfl)) (hres _ _ _), hvars _, rfl, ?_, ?_⟩, ?_⟩
 ·intro j t' r h1 h2
  rw [hr] at h1 h2
  match j, h1, h2 with
  | 0, h1, h2 =>
   simp [Value.resultList] at h1 h2
   subst h1; subst h2
   exact okWide_bool_mk ht _
 ·intro b off hp
  have : (MemPlace.cell b off) ∈ p := by simpa using hp
  rw [hb.frozen (hlt _ this)]
  exact hz b off (by simpa using this)
 ·intro ha
  have := hn ha
  simpa using this
 ·intro x hx _
  simpa using hx
theorem calls_of_AC {f : FuncId} {xs : List AV} {h : Heap} {μ : Ren} {W : World} {args : Array Value} (H : AC P f xs h fun v _ => v = .bool true) (hh : HRel μ h W) (hx : relL μ xs args.toList)
  (hro : ∀ (b : Nat) (B : Blk), h[b]? = some B → B.rw = false) : Calls P f args W fun e W' => e = .returned (.bool true) ∧ Below W.heap.size W W' := by
 have := H.2 μ W args.toList hh hx
 simp only [Array.toArray_toList] at this
 refine this.mono fun e W' ⟨v, x, h', μ', he, hq, ev, _, hr⟩ => ?_
 subst hq
 obtain rfl : v = .bool true := hr
 refine ⟨he, ev.os, ev.tape, ev.output, ev.size, fun k hk => ev.frame k hk fun b B e' hb hrw _ => ?_⟩
 rw [hro b B hb] at hrw
 cases hrw
end
end Go.Ab
namespace Go.Ab
set_option linter.unusedSimpArgs false
set_option linter.unusedVariables false
inductive T (α : Type) where
 | e
 | n (v : α) (l r : T α)
namespace T
variable {α : Type}
def get : T α → Nat → Option α
 | .e, _ => none
 | .n v l r, i => match i with
  | 0 => some v
  | i + 1 => match Nat.beq (i % 2) 0 with
   | true => l.get (i / 2)
   | false => r.get (i / 2)
def put : T α → Nat → α → (T α → Bool) → Bool
 | .e, _, _, _ => false
 | .n v l r, i, x, k => match i with
  | 0 => k (.n x l r)
  | i + 1 => match Nat.beq (i % 2) 0 with
   | true => l.put (i / 2) x fun l' => k (.n v l' r)
   | false => r.put (i / 2) x fun r' => k (.n v l r')
def add : T α → Nat → α → (T α → Bool) → Bool
 | .e, i, x, k => match i with
  | 0 => k (.n x .e .e)
  | _ + 1 => false
 | .n v l r, i, x, k => match i with
  | 0 => false
  | i + 1 => match Nat.beq (i % 2) 0 with
   | true => l.add (i / 2) x fun l' => k (.n v l' r)
   | false => r.add (i / 2) x fun r' => k (.n v l r')
theorem beq_true {i : Nat} (h : Nat.beq i 0 = true) : i = 0 := Nat.eq_of_beq_eq_true h
theorem beq_false {i : Nat} (h : Nat.beq i 0 = false) : i ≠ 0 := Nat.ne_of_beq_eq_false h
theorem put_ok : ∀ {t : T α} {i : Nat} {x : α} {k : T α → Bool}, t.put i x k = true → ∃ t', k t' = true ∧ (t.get i).isSome = true ∧ ∀ j, t'.get j = if j = i then some x else t.get j
 | .e, i, x, k, h => by simp [put] at h
 | .n v l r, 0, x, k, h => ⟨_, h, rfl, fun j => by cases j <;> simp [get]⟩
 | .n v l r, i + 1, x, k, h => by
  simp only [put] at h
  cases hb : Nat.beq (i % 2) 0 <;> rw [hb] at h <;> simp only at h
  ·have hb' := beq_false hb
   obtain ⟨t', h1, h2, h3⟩ := put_ok h
   refine ⟨_, h1, by simp only [get, hb]; exact h2, fun j => ?_⟩
   cases j with
   | zero => simp [get]
   | succ j =>
    simp only [get]
    cases hj : Nat.beq (j % 2) 0 with
    | true => have := beq_true hj; simp only; rw [if_neg (by omega)]
    | false =>
     have := beq_false hj
     simp only [h3]
     by_cases hji : j = i
     ·subst hji; simp
     ·rw [if_neg (by omega), if_neg (by omega)]
  ·have hb' := beq_true hb
   obtain ⟨t', h1, h2, h3⟩ := put_ok h
   refine ⟨_, h1, by simp only [get, hb]; exact h2, fun j => ?_⟩
   cases j with
   | zero => simp [get]
   | succ j =>
    simp only [get]
    cases hj : Nat.beq (j % 2) 0 with
    | true =>
     have := beq_true hj
     simp only [h3]
     by_cases hji : j = i
     ·subst hji; simp
     ·rw [if_neg (by omega), if_neg (by omega)]
    | false => have := beq_false hj; simp only; rw [if_neg (by omega)]
theorem add_ok : ∀ {t : T α} {i : Nat} {x : α} {k : T α → Bool}, t.add i x k = true → ∃ t', k t' = true ∧ ∀ j, t'.get j = if j = i then some x else t.get j
 | .e, 0, x, k, h => ⟨_, h, fun j => by cases j with
   | zero => simp [get]
   | succ j => simp only [get]; cases Nat.beq (j % 2) 0 <;> simp [get]⟩
 | .e, i + 1, x, k, h => by simp [add] at h
 | .n v l r, 0, x, k, h => by simp [add] at h
 | .n v l r, i + 1, x, k, h => by
  simp only [add] at h
  cases hb : Nat.beq (i % 2) 0 <;> rw [hb] at h <;> simp only at h
  ·have hb' := beq_false hb
   obtain ⟨t', h1, h3⟩ := add_ok h
   refine ⟨_, h1, fun j => ?_⟩
   cases j with
   | zero => simp [get]
   | succ j =>
    simp only [get]
    cases hj : Nat.beq (j % 2) 0 with
    | true => have := beq_true hj; simp only; rw [if_neg (by omega)]
    | false =>
     have := beq_false hj
     simp only [h3]
     by_cases hji : j = i
     ·subst hji; simp
     ·rw [if_neg (by omega), if_neg (by omega)]
  ·have hb' := beq_true hb
   obtain ⟨t', h1, h3⟩ := add_ok h
   refine ⟨_, h1, fun j => ?_⟩
   cases j with
   | zero => simp [get]
   | succ j =>
    simp only [get]
    cases hj : Nat.beq (j % 2) 0 with
    | true =>
     have := beq_true hj
     simp only [h3]
     by_cases hji : j = i
     ·subst hji; simp
     ·rw [if_neg (by omega), if_neg (by omega)]
    | false => have := beq_false hj; simp only; rw [if_neg (by omega)]
def For (t : T α) (l : List α) : Prop := ∀ i, t.get i = l[i]?
theorem For.put {t : T α} {l : List α} (H : t.For l) {i : Nat} {x : α} {k : T α → Bool} (h : t.put i x k = true) : ∃ t', k t' = true ∧ t'.For (l.set i x) := by
 obtain ⟨t', h1, h2, h3⟩ := put_ok h
 refine ⟨t', h1, fun j => ?_⟩
 rw [h3, List.getElem?_set]
 rw [H] at h2
 have hl : i < l.length := by
  rcases Nat.lt_or_ge i l.length with h' | h'
  ·exact h'
  ·simp [List.getElem?_eq_none h'] at h2
 by_cases hj : j = i
 ·subst hj; simp [hl]
 ·rw [if_neg hj, if_neg (Ne.symm hj), H]
theorem For.add {t : T α} {l : List α} (H : t.For l) {x : α} {k : T α → Bool} (h : t.add l.length x k = true) : ∃ t', k t' = true ∧ t'.For (l ++ [x]) := by
 obtain ⟨t', h1, h3⟩ := add_ok h
 refine ⟨t', h1, fun j => ?_⟩
 rw [h3, List.getElem?_append]
 by_cases hj : j = l.length
 ·subst hj; simp
 ·rw [if_neg hj, H]
  split
  ·rfl
  ·rename_i hge
   rw [List.getElem?_eq_none (by omega), List.getElem?_eq_none (by simp; omega)]
end T
def fN (n : Nat) (k : Nat → Bool) : Bool := match n with | 0 => k 0 | m + 1 => k (Nat.succ m)
theorem fN_eq (n : Nat) (k : Nat → Bool) : fN n k = k n := by cases n <;> rfl
def fI (n : Int) (k : Int → Bool) : Bool := match n with | .ofNat m => fN m fun m => k (.ofNat m) | .negSucc m => fN m fun m => k (.negSucc m)
theorem fI_eq (n : Int) (k : Int → Bool) : fI n k = k n := by cases n <;> simp only [fI, fN_eq]
def tk {α : Type} : List α → Nat → Nat → (List α → Bool) → Bool
 | [], o, n, k => match o with | 0 => (match n with | 0 => k [] | _ + 1 => false) | _ + 1 => false
 | x :: c, o, n, k => match o with
  | o + 1 => tk c o n k
  | 0 => match n with | 0 => k [] | n + 1 => tk c 0 n fun l => k (x :: l)
theorem tk_ok {α : Type} : ∀ {c : List α} {o n : Nat} {k : List α → Bool}, tk c o n k = true → o + n ≤ c.length ∧ k ((c.drop o).take n) = true
 | [], 0, 0, k, h => ⟨by simp, h⟩
 | [], 0, n + 1, k, h => by simp [tk] at h
 | [], o + 1, n, k, h => by simp [tk] at h
 | x :: c, o + 1, n, k, h => by
  obtain ⟨h1, h2⟩ := tk_ok (c := c) (o := o) (n := n) (k := k) h
  exact ⟨by simp; omega, by simpa using h2⟩
 | x :: c, 0, 0, k, h => ⟨by simp, h⟩
 | x :: c, 0, n + 1, k, h => by
  obtain ⟨h1, h2⟩ := tk_ok (c := c) (o := 0) (n := n) (k := fun l => k (x :: l)) h
  exact ⟨by simp; omega, by simpa using h2⟩
def at1 {α : Type} : List α → Nat → (α → Bool) → Bool
 | [], _, _ => false
 | x :: c, o, k => match o with | 0 => k x | o + 1 => at1 c o k
theorem at1_ok {α : Type} : ∀ {c : List α} {o : Nat} {k : α → Bool}, at1 c o k = true → ∃ x, c[o]? = some x ∧ k x = true
 | [], o, k, h => by simp [at1] at h
 | x :: c, 0, k, h => ⟨x, rfl, h⟩
 | x :: c, o + 1, k, h => at1_ok (c := c) h
def spl {α : Type} : List α → Nat → List α → (List α → Bool) → Bool
 | [], o, xs, k => match o, xs with | 0, [] => k [] | _, _ => false
 | x :: c, o, xs, k => match o with
  | o + 1 => spl c o xs fun l => k (x :: l)
  | 0 => match xs with | [] => k (x :: c) | y :: ys => spl c 0 ys fun l => k (y :: l)
theorem spl_ok {α : Type} : ∀ {c : List α} {o : Nat} {xs : List α} {k : List α → Bool}, spl c o xs k = true → o + xs.length ≤ c.length ∧ k (splice c o xs) = true
 | [], 0, [], k, h => ⟨by simp, h⟩
 | [], 0, y :: ys, k, h => by simp [spl] at h
 | [], o + 1, [], k, h => by simp [spl] at h
 | [], o + 1, y :: ys, k, h => by simp [spl] at h
 | x :: c, o + 1, xs, k, h => by
  obtain ⟨h1, h2⟩ := spl_ok (c := c) (o := o) (xs := xs) (k := fun l => k (x :: l)) h
  refine ⟨by simp; omega, ?_⟩
  have : splice (x :: c) (o + 1) xs = x :: splice c o xs := by simp [splice, Nat.add_right_comm]
  rw [this]; exact h2
 | x :: c, 0, [], k, h => ⟨by simp, by rw [splice_nil]; exact h⟩
 | x :: c, 0, y :: ys, k, h => by
  obtain ⟨h1, h2⟩ := spl_ok (c := c) (o := 0) (xs := ys) (k := fun l => k (y :: l)) h
  refine ⟨by simp at *; omega, ?_⟩
  have : splice (x :: c) 0 (y :: ys) = y :: splice c 0 ys := by simp [splice]
  rw [this]; exact h2
def ap {α : Type} : List α → List α → (List α → Bool) → Bool
 | [], l, k => k l
 | x :: c, l, k => ap c l fun r => k (x :: r)
theorem ap_eq {α : Type} : ∀ (c l : List α) (k : List α → Bool), ap c l k = k (c ++ l)
 | [], l, k => rfl
 | x :: c, l, k => by simp only [ap, ap_eq c l]; rfl
def fL {α : Type} : List α → (List α → Bool) → Bool
 | [], k => k []
 | x :: c, k => fL c fun l => k (x :: l)
theorem fL_eq {α : Type} : ∀ (c : List α) (k : List α → Bool), fL c k = k c
 | [], k => rfl
 | x :: c, k => by simp only [fL, fL_eq c]
end Go.Ab
namespace Go.Ab
set_option linter.unusedVariables false
structure EH where
 t : T Blk
 n : Nat
abbrev EK := LV → EH → Bool
abbrev ECall := FuncId → List AV → EH → (AV → EH → Bool) → Bool
def eev (ρ : T LV) : Operand → LV
 | .tmp t => match ρ.get t with | some v => v | none => .top
 | .const v => match ofV 4 v with | some x => .val x | none => .top
 | .global _ => .top
 | .func f => .val (.func (.func f) [] [])
def evals (ρ : T LV) : List Operand → Option (List AV)
 | [] => some []
 | o :: os => match eev ρ o with
  | .val x => (match evals ρ os with | some l => some (x :: l) | none => none)
  | _ => none
def eevI (ρ : T LV) (x : Operand) : Option Int := match eev ρ x with | .val (.int _ n) => some n | _ => none
def eoptI (ρ : T LV) : Option Operand → Option (Option Int)
 | none => some none
 | some x => (eevI ρ x).map some
def fVals (ρ : T LV) : List Operand → (List AV → Bool) → Bool
 | [], k => k []
 | o :: os, k => match eev ρ o with
  | .val x => fVals ρ os fun l => k (x :: l)
  | _ => false
def eNew (c : List AV) (rw : Bool) (h : EH) (k : Nat → EH → Bool) : Bool := h.t.add h.n (.cells c rw) fun t' => fN (Nat.succ h.n) fun n' => k h.n ⟨t', n'⟩
def eCells (h : EH) (b o n : Nat) (k : List AV → Bool) : Bool := match h.t.get b with | some (.cells c _) => tk c o n k | _ => false
def eMark (h : EH) (g : Nat) : Nat → Nat → Option Nat
 | 0, _ => none
 | n + 1, a => match h.t.get a with
  | some (.gm g' j) => (match Nat.beq g g' with | true => some j | false => eMark h g n (Nat.succ (Nat.succ a)))
  | _ => none
def ePart (z : AV) (c : List AV) (o : Nat) (k : AV → Bool) : Bool :=
 match z with
 | .agg zs => tk c o zs.length fun l => k (.agg l)
 | .tup _ => false
 | _ => at1 c o k
def eLoad (z : AV) (h : EH) (b o : Nat) (k : AV → Bool) : Bool :=
 match h.t.get b with
 | some (.cells c _) => (match z with
  | .agg zs => tk c o zs.length fun l => sameShapes zs l && k (.agg l)
  | .tup _ => false
  | z => at1 c o fun v => sameShape z v && k v)
 | _ => false
def eStore (h : EH) (b o : Nat) (xs : List AV) (k : EH → Bool) : Bool :=
 match h.t.get b with
 | some (.cells c true) => spl c o xs fun c' => h.t.put b (.cells c' true) fun t' => k ⟨t', h.n⟩
 | _ => false
def eint (k : IntKind) (n : Int) (K : AV → Bool) : Bool := fI (wrapK k n) fun m => K (.int k m)
def ebool (b : Bool) (K : AV → Bool) : Bool := match b with | true => K (.bool true) | false => K (.bool false)
def eInt (op : BinOp) (k : IntKind) (a b : Int) (K : AV → Bool) : Bool :=
 match op with
 | .add => eint k (a + b) K
 | .sub => eint k (a - b) K
 | .mul => eint k (a * b) K
 | .quo => !(b == 0) && eint k (a.tdiv b) K
 | .rem => !(b == 0) && fI (a.tmod b) fun m => K (.int k m)
 | .and => fI (bitsAnd k a b) fun m => K (.int k m)
 | .or => fI (bitsOr k a b) fun m => K (.int k m)
 | .xor => fI (bitsXor k a b) fun m => K (.int k m)
 | .andNot => fI (bitsAndNot k a b) fun m => K (.int k m)
 | .eql => ebool (a == b) K
 | .neq => ebool (a != b) K
 | .lss => ebool (decide (a < b)) K
 | .leq => ebool (decide (a ≤ b)) K
 | .gtr => ebool (decide (a > b)) K
 | .geq => ebool (decide (a ≥ b)) K
 | _ => false
def eIntS (op : BinOp) (k : IntKind) (a : Int) (k' : IntKind) (b : Int) (K : AV → Bool) : Bool :=
 match op with
 | .shl => decide (0 ≤ b) && fI (shlK k a b) fun m => K (.int k m)
 | .shr => decide (0 ≤ b) && fI (shrK k a b) fun m => K (.int k m)
 | op => decide (k = k') && eInt op k a b K
def eStr (op : BinOp) (a b : List UInt8) (K : AV → Bool) : Bool :=
 match op with
 | .add => decide (a.length + b.length ≤ 9223372036854775807) && ap a b fun s => K (.str s)
 | .eql => ebool (a == b) K
 | .neq => ebool (!(a == b)) K
 | .lss => ebool (bytesLess a b) K
 | .leq => ebool (bytesLess a b || a == b) K
 | .gtr => ebool (!(bytesLess a b || a == b)) K
 | .geq => ebool (!bytesLess a b) K
 | _ => false
def eeqFs (P : Program) (eqT : TypeId → List AV → List AV → (Bool → List AV → List AV → Bool) → Bool) : List Field → Nat → List AV → List AV → (Bool → List AV → List AV → Bool) → Bool
 | [], _, xs, ys, K => K true xs ys
 | f :: fs, off, xs, ys, K =>
  (f.offset == off && f.name != "_" && decide (0 < tsz P f.type) && decide (tsz P f.type ≤ xs.length) && decide (tsz P f.type ≤ ys.length) && (P.info? f.type).isSome && (P.underlying f.type).isSome) &&
   eqT f.type xs ys fun b xs' ys' => eeqFs P eqT fs (off + tsz P f.type) xs' ys' fun r xs'' ys'' => K (b && r) xs'' ys''
def eeqT (P : Program) : Nat → TypeId → List AV → List AV → (Bool → List AV → List AV → Bool) → Bool
 | 0, _, _, _, _ => false
 | n + 1, t, xs, ys, K =>
  match P.underlying t, xs, ys with
  | some (.int _), .int k a :: xs, .int k' b :: ys => (decide (k = k') && tsz P t == 1) && K (a == b) xs ys
  | some .bool, .bool a :: xs, .bool b :: ys => (tsz P t == 1) && K (a == b) xs ys
  | some .string, .str a :: xs, .str b :: ys => (tsz P t == 1) && K (a == b) xs ys
  | some (.struct fs), xs, ys =>
   (!P.stoodInHeld t) && eeqFs P (eeqT P n) fs.toList 0 (xs.take (tsz P t)) (ys.take (tsz P t)) fun b xs' ys' => (xs'.isEmpty && ys'.isEmpty) && K b (xs.drop (tsz P t)) (ys.drop (tsz P t))
  | _, _, _ => false
def eptrEq (h : EH) (p q : PA) (K : Bool → Bool) : Bool :=
 match Nat.beq p.b q.b with
 | true => K (p.o == q.o)
 | false => match h.t.get p.b, h.t.get q.b with
  | some (.cells _ true), some (.cells _ true) => K false
  | _, _ => false
def eEq (P : Program) (t : TypeId) (h : EH) (x y : AV) (K : Bool → Bool) : Bool :=
 match P.underlying t, x, y with
 | some .bool, .bool a, .bool b => K (a == b)
 | some (.struct _), .agg xs, .agg ys => (!P.eqGuardType P.depth t && xs.length == tsz P t && ys.length == tsz P t) && eeqT P 50 t xs ys fun b _ _ => K b
 | some (.pointer _), .ptr p, .ptr none => K p.isNone
 | some (.pointer _), .ptr none, .ptr (some _) => K false
 | some (.pointer e), .ptr (some p), .ptr (some q) => decide (0 < tsz P e) && eptrEq h p q K
 | some (.slice _), .sl s, .sl none => K s.isNone
 | some (.map _ _), .map s, .map none => K s.isNone
 | some (.func _ _ _), .nilfunc, .nilfunc => K true
 | some (.func _ _ _), .func _ _ _, .nilfunc => K false
 | _, _, _ => false
def eCmp (P : Program) (op : BinOp) (t : TypeId) (h : EH) (x y : AV) (K : AV → Bool) : Bool :=
 match op with
 | .eql => eEq P t h x y fun b => ebool b K
 | .neq => eEq P t h x y fun b => ebool (!b) K
 | _ => false
def eBin (P : Program) (op : BinOp) (t : TypeId) (h : EH) (x y : AV) (K : AV → Bool) : Bool :=
 match x, y with
 | .int k a, .int k' b => eIntS op k a k' b K
 | .str a, .str b => eStr op a b K
 | x, y => eCmp P op t h x y K
def eUn (op : UnOp) (x : AV) (K : AV → Bool) : Bool :=
 match op, x with
 | .neg, .int k n => eint k (0 - n) K
 | .xor, .int k n => fI (bitsXor k (if k.signed then -1 else k.max) n) fun m => K (.int k m)
 | .not, .bool b => ebool (!b) K
 | _, _ => false
def eslCells (h : EH) (s : Option SL) (n : Nat) (k : List AV → Bool) : Bool :=
 match s with
 | some s => eCells h s.b s.o n k
 | none => match n with | 0 => k [] | _ + 1 => false
def eRow (b o len cap opn : Nat) (k : Option SL → Bool) : Bool := fN b fun b => fN o fun o => fN len fun len => fN cap fun cap => fN opn fun opn => k (some ⟨b, o, len, cap, opn⟩)
def eAppend (sz bytes : Nat) (s : Option SL) (n : Nat) (xs : List AV) (h : EH) (k : Option SL → EH → Bool) : Bool :=
 (xs.length == n * sz) &&
 match s with
 | none => (match n with
  | 0 => k none h
  | n + 1 => (decide ((n + 1) * bytes ≤ 140737488355328) && decide (0 < sz)) && eNew xs true h fun b h' => eRow b 0 (n + 1) (n + 1) sz fun s' => k s' h')
 | some s =>
  match Nat.ble (s.len + n) s.cap with
  | true => (match h.t.get s.b with
   | some (.cells c true) => spl c (s.o + s.len * sz) xs fun c' => h.t.put s.b (.cells c' true) fun t' => eRow s.b s.o (s.len + n) s.cap s.opn fun s' => k s' ⟨t', h.n⟩
   | some (.cells _ false) => (match n with | 0 => k (some s) h | _ + 1 => false)
   | some (.mp _ _) => (match n with | 0 => k (some s) h | _ + 1 => false)
   | some (.it _ _ _ _) => (match n with | 0 => k (some s) h | _ + 1 => false)
   | some (.bx _) => (match n with | 0 => k (some s) h | _ + 1 => false)
   | some (.gm _ _) => (match n with | 0 => k (some s) h | _ + 1 => false)
   | some .dead => (match n with | 0 => k (some s) h | _ + 1 => false)
   | none => (match n with | 0 => k (some s) h | _ + 1 => false))
  | false => (decide ((s.len + n) * bytes ≤ 140737488355328) && decide (0 < sz)) &&
   match h.t.get s.b with
   | some (.cells c rw) => tk c s.o (s.len * sz) fun old =>
    (match s.opn with
    | 0 => ap old xs fun c' => eNew c' true h fun b h' => eRow b 0 (s.len + n) (s.len + n) sz fun s' => k s' h'
    | _ + 1 => (rw && s.opn == sz) && h.t.put s.b .dead fun t' => ap old xs fun c' => eNew c' true ⟨t', h.n⟩ fun b h' => eRow b 0 (s.len + n) (s.len + n) sz fun s' => k s' h')
   | _ => false
def eCopy (sz : Nat) (s : Option SL) (n : Nat) (xs : List AV) (h : EH) (k : EH → Bool) : Bool :=
 (xs.length == n * sz) &&
 match s with
 | none => (match n with | 0 => k h | _ + 1 => false)
 | some s => Nat.ble n s.len && eStore h s.b s.o xs k
def eSlice (sz : Nat) (s : Option SL) (lo : Int) (hi mx : Option Int) (k : Option SL → Bool) : Bool :=
 match s with
 | none => (lo == 0 && hi.getD 0 == 0 && mx.getD 0 == 0) && k none
 | some s =>
  ((s.opn == 0 || s.opn == sz) && decide (0 ≤ lo) && decide (lo ≤ hi.getD s.len) && decide (hi.getD s.len ≤ mx.getD s.cap) && decide (mx.getD s.cap ≤ s.cap)) &&
   eRow s.b (s.o + lo.toNat * sz) (hi.getD s.len - lo).toNat (mx.getD s.cap - lo).toNat (if mx.isNone then s.opn else 0) k
def estrSlice (s : List UInt8) (lo : Int) (hi : Option Int) (k : List UInt8 → Bool) : Bool :=
 (decide (0 ≤ lo) && decide (lo ≤ hi.getD s.length) && decide (hi.getD s.length ≤ s.length)) && tk s lo.toNat ((hi.getD s.length).toNat - lo.toNat) k
def eBytes : List AV → (List UInt8 → Bool) → Bool
 | [], k => k []
 | .int .u8 n :: l, k => match n with
  | .ofNat m => Nat.blt m 256 && eBytes l fun r => k (UInt8.ofNat m :: r)
  | .negSucc _ => false
 | _ :: _, _ => false
def fBytes : List UInt8 → (List AV → Bool) → Bool
 | [], k => k []
 | b :: l, k => fN b.toNat fun n => fBytes l fun r => k (.int .u8 (.ofNat n) :: r)
def eMake (zs : List AV) (bytes : Nat) (l c : Int) (h : EH) (k : Option SL → EH → Bool) : Bool :=
 (decide (0 ≤ l) && decide (l ≤ c) && decide (c * bytes ≤ 281474976710656) && decide (c ≤ maxI)) &&
  fL (List.replicate c.toNat zs).flatten fun cs => eNew cs true h fun b h' => eRow b 0 l.toNat c.toNat 0 fun s => k s h'
def eminL : List AV → (AV → Bool) → Bool
 | [.int k a], K => K (.int k a)
 | [.int k a, .int k' b], K => decide (k = k') && fI (minI a b) fun m => K (.int k m)
 | _, _ => false
def emaxL : List AV → (AV → Bool) → Bool
 | [.int k a], K => K (.int k a)
 | [.int k a, .int k' b], K => decide (k = k') && fI (maxI2 a b) fun m => K (.int k m)
 | _, _ => false
def ekeyIs (P : Program) (kt : TypeId) (a b : AV) : Option Bool :=
 match P.underlying kt, a, b with
 | some (.int _), .int k x, .int k' y => (match decide (k = k') with | true => some (x == y) | false => none)
 | some .string, .str x, .str y => some (x == y)
 | some .bool, .bool x, .bool y => some (x == y)
 | some (.struct fs), .agg xs, .agg ys => keyS P kt fs xs ys
 | some (.array n e), .agg xs, .agg ys => keyA P n e xs ys
 | _, _, _ => none
def efind (P : Program) (kt : TypeId) (k : AV) : List (AV × AV × Nat) → Nat → (Option (Nat × AV × Nat) → Bool) → Bool
 | [], _, K => K none
 | (k', v, n) :: es, i, K => match ekeyIs P kt k k' with
  | some true => K (some (i, v, n))
  | some false => fN (Nat.succ i) fun j => efind P kt k es j K
  | none => false
def emapEs (h : EH) : Option Nat → Option (List (AV × AV × Nat))
 | none => some []
 | some b => match h.t.get b with | some (.mp es _) => some es | _ => none
def eLookup (P : Program) (kt et : TypeId) (m : Option Nat) (k : AV) (ok : Bool) (h : EH) (K : AV → Bool) : Bool :=
 match emapEs h m, tz P et with
 | some es, some z => keyOk P kt k && efind P kt k es 0 fun r => match r, ok with
  | some (_, v, _), true => K (.tup [v, .bool true])
  | none, true => K (.tup [z, .bool false])
  | some (_, v, _), false => K v
  | none, false => K z
 | _, _ => false
def eset {α : Type} : List α → Nat → α → (List α → Bool) → Bool
 | [], _, _, k => k []
 | x :: c, i, y, k => match i with | 0 => k (y :: c) | i + 1 => eset c i y fun l => k (x :: l)
def eerase {α : Type} : List α → Nat → (List α → Bool) → Bool
 | [], _, k => k []
 | x :: c, i, k => match i with | 0 => k c | i + 1 => eerase c i fun l => k (x :: l)
def eUpdate (P : Program) (kt : TypeId) (b : Nat) (k v : AV) (h : EH) (K : EH → Bool) : Bool :=
 match h.t.get b with
 | some (.mp es cl) => (keyOk P kt k && !isTup v) && efind P kt k es 0 fun r => (match r with
  | some (i, _, n) => eset es i (k, v, n) fun es' => h.t.put b (.mp es' cl) fun t' => K ⟨t', h.n⟩
  | none => ap es [(k, v, cl)] fun es' => fN (Nat.succ cl) fun cl' => h.t.put b (.mp es' cl') fun t' => K ⟨t', h.n⟩)
 | _ => false
def eDelete (P : Program) (kt : TypeId) (m : Option Nat) (k : AV) (h : EH) (K : EH → Bool) : Bool :=
 match m with
 | none => keyOk P kt k && K h
 | some b => match h.t.get b with
  | some (.mp es cl) => keyOk P kt k && efind P kt k es 0 fun r => (match r with
   | some (i, _, _) => eerase es i fun es' => h.t.put b (.mp es' cl) fun t' => K ⟨t', h.n⟩
   | none => h.t.put b (.mp es cl) fun t' => K ⟨t', h.n⟩)
  | _ => false
def ballE : List (AV × AV × Nat) → (AV × AV × Nat → Bool) → Bool
 | [], _ => true
 | [e], K => K e
 | e :: es, K => K e && ballE es K
def eNext (b : Nat) (h : EH) (K : AV → EH → Bool) : Bool :=
 match h.t.get b with
 | some (.it none _ _ _) => K (.tup [.bool false]) h
 | some (.it (some m) since seen last) => (match h.t.get m with
  | some (.mp es cl) => (es.all fun e => decide (e.2.2 < since) && decide (e.2.2 < last)) && (match leftE es seen with
   | [] => K (.tup [.bool false]) h
   | l => ballE l fun e => ap seen [e.2.2] fun s' => h.t.put b (.it (some m) since s' cl) fun t' => K (.tup [.bool true, e.1, e.2.1]) ⟨t', h.n⟩)
  | _ => false)
 | _ => false
def eEntry (b : Nat) (h : EH) (K : AV → Bool) : Bool :=
 match h.t.get b with
 | some (.it (some m) _ seen stepped) => (match seen.getLast?, h.t.get m with
  | some stamp, some (.mp es cl) => (cl == stepped) && (match es.find? (fun e => e.2.2 == stamp) with
   | some (k, v, _) => K (.tup [k, v])
   | none => false)
  | _, _ => false)
 | _ => false
def eNewB (B : Blk) (h : EH) (k : Nat → EH → Bool) : Bool := h.t.add h.n B fun t' => fN (Nat.succ h.n) fun n' => k h.n ⟨t', n'⟩
def eBuiltin (P : Program) (b : Builtin) (argT : List TypeId) (args : List AV) (h : EH) (k : EK) : Bool :=
 match b, argT, args with
 | .len, [t], [.sl s] => (match P.underlying t with | some (.slice _) => k (.val (.int .i64 (.ofNat (slLen s)))) h | _ => false)
 | .len, [t], [.str s] => (match P.underlying t with | some .string => fN s.length fun n => k (.val (.int .i64 (.ofNat n))) h | _ => false)
 | .len, [t], [.map m] => (match P.underlying t, emapEs h m with | some (.map _ _), some es => fN es.length fun n => k (.val (.int .i64 (.ofNat n))) h | _, _ => false)
 | .delete, [t, _], [.map m, x] => (match P.underlying t with | some (.map kt _) => eDelete P kt m x h fun h' => k (.val (.tup [])) h' | _ => false)
 | .clear, [t], [.sl s] => (match telem P t with
  | none => false
  | some e => match zcells P e, s with
   | some _, none => k (.val (.tup [])) h
   | some zs, some s => (match s.len with
    | 0 => k (.val (.tup [])) h
    | n + 1 => oneAll zs && eStore h s.b s.o (List.replicate (n + 1) zs).flatten fun h' => k (.val (.tup [])) h')
   | _, _ => false)
 | .cap, [t], [.sl s] => (match P.underlying t, s with
   | some (.slice _), none => k (.val (.int .i64 0)) h
   | some (.slice _), some s => s.opn == 0 && k (.val (.int .i64 (.ofNat s.cap))) h
   | _, _ => false)
 | .append, [t, u], [.sl s, x] =>
  (match telem P t with
  | none => false
  | some e =>
   match zcells P e with
   | none => false
   | some zs =>
    decide (0 < tbytes P e) &&
    match isIntT P u, x with
    | true, .int _ n => (oneAll zs && decide (0 ≤ n) && decide (n ≤ maxI) && decide (n * tbytes P e ≤ 140737488355328)) && fN n.toNat fun n => fL (List.replicate n zs).flatten fun xs => eAppend (tsz P e) (tbytes P e) s n xs h fun s' h' => k (.val (.sl s')) h'
    | false, .sl src => (telem P u).isSome && eslCells h src (slLen src * tsz P e) fun xs => eAppend (tsz P e) (tbytes P e) s (slLen src) xs h fun s' h' => k (.val (.sl s')) h'
    | false, .str src => (isStrT P u && tsz P e == 1) && fN src.length fun n => fBytes src fun xs => eAppend 1 (tbytes P e) s n xs h fun s' h' => k (.val (.sl s')) h'
    | _, _ => false)
 | .copy, [t, u], [.sl s, .sl src] =>
  (match telem P t with
  | none => false
  | some e => (P.info? e).isSome && fN (min (slLen src) (slLen s)) fun n => eslCells h src (n * tsz P e) fun xs => eCopy (tsz P e) s n xs h fun h' => k (.val (.int .i64 (.ofNat n))) h')
 | .min, _, args => eminL args fun v => k (.val v) h
 | .max, _, args => emaxL args fun v => k (.val v) h
 | _, _, _ => false
def shT : List AV → List AV → Bool
 | [], [] => true
 | .agg zs :: vs, .agg l :: r => sameShapes zs l && shT vs r
 | .agg _ :: _, _ => false
 | z :: vs, x :: r => sameShapes [z] [x] && shT vs r
 | _, _ => false
def shV : AV → AV → Bool
 | .agg zs, .agg l => sameShapes zs l
 | .agg _, _ => false
 | .tup vs, .tup l => shT vs l
 | .tup _, _ => false
 | z, x => sameShapes [z] [x]
def eCallV (call : ECall) (f : AV) (args : List AV) (h : EH) (k : AV → EH → Bool) : Bool :=
 match f with
 | .func (.func g) first cap => !Nat.beq g 1000000000 && ap args cap fun a => ap first a fun a => call g a h k
 | .func (.yield l) first cap => call 1000000000 (.func (.yield l) first cap :: args) h k
 | _ => false
def eInvoke (P : Program) (call : ECall) (r : AV) (name : String) (args : List AV) (h : EH) (k : AV → EH → Bool) : Bool :=
 match r with
 | .iface t v => (match methodOf P t name with
  | some g => !Nat.beq g 1000000000 && call g (v :: args) h k
  | none => match methodAt P t name, v with
   | some (g, e), .ptr (some p) => (match tz P e with
    | some z => (!Nat.beq g 1000000000 && okTy P e z) && eLoad z h p.b p.o fun v => call g (v :: args) h k
    | none => false)
   | _, _ => false)
 | _ => false
def eCallF (P : Program) (call : ECall) (f : AV) (args : List AV) (h : EH) (k : AV → EH → Bool) : Bool :=
 match f with
 | .func (.method name) [r] _ => eInvoke P call r name args h k
 | f => eCallV call f args h k
def efillA (place : Nat → Option (Nat × Nat)) : List AV → List (Nat × AV) → (List AV → Bool) → Bool
 | cells, [], k => k cells
 | cells, (i, v) :: rest, k =>
  match place i with
  | none => false
  | some (off, size) => (v.cells.length == size) && spl cells off v.cells fun c => efillA place c rest k
def epartsA (ρ : T LV) (ps : Array (Nat × Operand)) (k : List (Nat × AV) → Bool) : Bool :=
 fVals ρ (ps.toList.map (·.2)) fun l => k ((ps.toList.map (·.1)).zip l)
def eop (P : Program) (call : ECall) (o : Oper) (ρ : T LV) (h : EH) (k : EK) : Bool :=
 match o.op with
 | .move x | .assign x => k (eev ρ x) h
 | .pick c a b => (match eev ρ c with | .val (.bool true) => k (eev ρ a) h | .val (.bool false) => k (eev ρ b) h | _ => false)
 | .alloc t => (match zcells P t, o.dst with | some zs, some _ => oneAll zs && eNew zs true h fun b h' => k (.val (.ptr (some ⟨b, 0⟩))) h' | _, _ => false)
 | .box t x => (match eev ρ x, o.dst with | .val v, some _ => !isTup v && oneAll v.cells && eNew v.cells true h fun b h' => k (.val (.ptr (some ⟨b, 0⟩))) h' | _, _ => false)
 | .load t x => (match tz P t, eev ρ x with
  | some z, .val (.ptr (some p)) => okTy P t z && eLoad z h p.b p.o fun v => k (.val v) h
  | _, _ => false)
 | .store t a x => (match eev ρ x, eev ρ a with
  | .val v, .val (.ptr (some p)) => ((P.info? t).isSome && v.cells.length == tsz P t && oneAll v.cells) && eStore h p.b p.o v.cells fun h' => k .top h'
  | _, _ => false)
 | .nilCheck x => (match eev ρ x with
  | .val (.ptr (some p)) => k (.val (.ptr (some p))) h
  | .val (.func (.func f) a c) => k (.val (.func (.func f) a c)) h
  | .val (.iface t v) => k (.val (.iface t v)) h
  | _ => false)
 | .binOp op t x y _ => (match eev ρ x, eev ρ y with
  | .val a, .val b => eBin P op t h a b fun v => k (.val v) h
  | _, _ => false)
 | .unOp op _ x => (match eev ρ x with | .val a => eUn op a fun v => k (.val v) h | _ => false)
 | .convert src dst x => (match P.underlying src, P.underlying dst, eev ρ x with
  | some _, some (.int q), .val (.int _ n) => eint q n fun v => k (.val v) h
  | some .string, some .string, .val (.str s) => k (.val (.str s)) h
  | some (.slice e), some .string, .val (.sl s) => isU8 P e && eslCells h s (slLen s) fun l => eBytes l fun bs => k (.val (.str bs)) h
  | some .string, some (.slice e), .val (.str s) => (isU8 P e && decide (s.length ≤ 4611686018427387904)) && fBytes s fun l => eNew l false h fun b h' => fN s.length fun n => k (.val (.sl (some ⟨b, 0, n, n, 1⟩))) h'
  | _, _, _ => false)
 | .fieldAddr s x f => (match fieldOff P s f, eev ρ x with
  | some (off, ft), .val (.ptr (some p)) => decide (0 < tsz P ft) && fN (p.o + off) fun o => k (.val (.ptr (some ⟨p.b, o⟩))) h
  | _, _ => false)
 | .field s x f => (match fieldOff P s f, eev ρ x with
  | some (off, ft), .val (.agg cs) => (match tz P ft with
   | some z => okTy P ft z && ePart z cs off fun v => k (.val v) h
   | none => false)
  | _, _ => false)
 | .indexAddr t x ix => (match eevI ρ ix, P.underlying t, eev ρ x, x with
  | some i, some (.slice e), .val (.sl (some s)), _ => ((P.info? e).isSome && decide (0 ≤ i) && decide (i < s.len)) && fN (s.o + i.toNat * tsz P e) fun o => k (.val (.ptr (some ⟨s.b, o⟩))) h
  | some i, some (.array n e), .val (.ptr (some p)), _ => ((P.info? e).isSome && (decide (0 ≤ i) && decide (i < n))) && fN (p.o + i.toNat * tsz P e) fun o => k (.val (.ptr (some ⟨p.b, o⟩))) h
  | some i, some (.array n e), .top, .global g => (match eMark h g 8 0 with
   | some j => ((P.info? e).isSome && (decide (0 ≤ i) && decide (i < n))) && fN (i.toNat * tsz P e) fun o => k (.val (.ptr (some ⟨j, o⟩))) h
   | none => false)
  | _, _, _, _ => false)
 | .index t x ix => (match eevI ρ ix, P.underlying t, eev ρ x with
  | some i, some .string, .val (.str s) => decide (0 ≤ i) && at1 s i.toNat fun b => fN b.toNat fun n => k (.val (.int .u8 (.ofNat n))) h
  | _, _, _ => false)
 | .build t ps => (match tz P t, P.underlying t with
  | some (.agg zs), some (.struct fs) => epartsA ρ ps fun parts => (noTups parts && fs.toList.all fun f => (P.info? f.type).isSome) &&
   efillA (fun i => (fs[i]?).map fun f => (f.offset, tsz P f.type)) zs parts fun cells => k (.val (.agg cells)) h
  | some (.agg zs), some (.array _ e) => epartsA ρ ps fun parts => (noTups parts && (P.info? e).isSome) &&
   efillA (fun i => some (i * tsz P e, tsz P e)) zs parts fun cells => k (.val (.agg cells)) h
  | _, _ => false)
 | .buildSlice t n ps => (match telem P t with
  | none => false
  | some e => match zcells P e with
   | some zs => epartsA ρ ps fun parts => (decide (n * tsz P e ≤ 16777216) && noTups parts) && fL (List.replicate n zs).flatten fun zc =>
    efillA (fun i => some (i * tsz P e, tsz P e)) zc parts fun cells => oneAll cells && eNew cells true h fun b h' => k (.val (.sl (some ⟨b, 0, n, n, 0⟩))) h'
   | none => false)
 | .slice t x lo hi mx => (match P.underlying t, eev ρ x, eoptI ρ lo, eoptI ρ hi, eoptI ρ mx with
  | some (.slice e), .val (.sl s), some l, some hh, some m => ((P.info? e).isSome && (m.isNone || hh.isSome)) && eSlice (tsz P e) s (l.getD 0) hh m fun s' => k (.val (.sl s')) h
  | some .string, .val (.str s), some l, some hh, some none => estrSlice s (l.getD 0) hh fun s' => k (.val (.str s')) h
  | some (.array n e), .val (.ptr (some p)), some l, some hh, some m => ((P.info? e).isSome && (m.isNone || hh.isSome)) && eSlice (tsz P e) (some ⟨p.b, p.o, n, n, 0⟩) (l.getD 0) hh m fun s' => k (.val (.sl s')) h
  | _, _, _, _, _ => false)
 | .makeSlice t l c => (match telem P t with
  | none => false
  | some e => match zcells P e, eevI ρ l, eevI ρ c with
   | some zs, some n, some m => oneAll zs && eMake zs (tbytes P e) n m h fun s' h' => k (.val (.sl s')) h'
   | _, _, _ => false)
 | .sliceToArrayPointer t x => (match P.underlying t, eev ρ x with
  | some (.array n _), .val (.sl (some s)) => (decide (0 < n) && decide (n ≤ s.len)) && k (.val (.ptr (some ⟨s.b, s.o⟩))) h
  | _, _ => false)
 | .makeMap _ r => (match r with | none => eNewB (.mp [] 0) h fun b h' => k (.val (.map (some b))) h' | some _ => false)
 | .lookup t x ix ok => (match P.underlying t, eev ρ x, eev ρ ix, tz P o.type with
  | some (.map kt et), .val (.map m), .val kk, some z => eLookup P kt et m kk ok h fun v => shV z v && k (.val v) h
  | _, _, _, _ => false)
 | .mapUpdate t m kk x => (match P.underlying t, eev ρ m, eev ρ kk, eev ρ x with
  | some (.map kt _), .val (.map (some b)), .val kk, .val v => eUpdate P kt b kk v h fun h' => k .top h'
  | _, _, _, _ => false)
 | .insert t m kk x => (match P.underlying t, eev ρ m, eev ρ kk, eev ρ x with
  | some (.map kt _), .val (.map (some b)), .val kk, .val v => eUpdate P kt b kk v h fun h' => k .top h'
  | _, _, _, _ => false)
 | .range t x => (match P.underlying t, eev ρ x with
  | some (.map _ _), .val (.map none) => eNewB (.it none 0 [] 0) h fun b h' => k (.val (.ptr (some ⟨b, 0⟩))) h'
  | some (.map _ _), .val (.map (some b)) => (match h.t.get b with
   | some (.mp _ cl) => eNewB (.it (some b) cl [] cl) h fun b h' => k (.val (.ptr (some ⟨b, 0⟩))) h'
   | _ => false)
  | _, _ => false)
 | .next x isS => (match isS, eev ρ x with
  | false, .val (.ptr (some p)) => decide (p.o = 0) && eNext p.b h fun v h' => k (.val v) h'
  | _, _ => false)
 | .entry x => (match eev ρ x with
  | .val (.ptr (some p)) => decide (p.o = 0) && eEntry p.b h fun v => k (.val v) h
  | _ => false)
 | .extract x i => (match eev ρ x with | .val (.tup vs) => at1 vs i fun v => k (.val v) h | _ => false)
 | .makeFunc fn f c => !fnY fn && fVals ρ f.toList fun a => fVals ρ c.toList fun b => k (.val (.func fn a b)) h
 | .makeInterface t x => (match P.underlying t, eev ρ x with | some (.interface _), _ => false | some _, .val v => k (.val (.iface t v)) h | _, _ => false)
 | .call c => fVals ρ c.args.toList fun args => (match c.callee with
   | .value f => (match eev ρ f, tz P o.type with
    | .val g, some z => eCallF P call g args h fun v h' => shV z v && k (.val v) h'
    | _, _ => false)
   | .invoke r name => (match eev ρ r, tz P o.type with
    | .val g, some z => eInvoke P call g name args h fun v h' => shV z v && k (.val v) h'
    | _, _ => false)
   | .builtin b => eBuiltin P b c.argTypes.toList args h k)
 | _ => false
end Go.Ab
namespace Go.Ab
set_option linter.unusedSimpArgs false
set_option linter.unusedVariables false
def HFor (e : EH) (h : Heap) : Prop := e.t.For h ∧ e.n = h.length
theorem eev_eq {t : T LV} {ρ : List LV} (R : t.For ρ) (x : Operand) : eev t x = ev ρ x := by
 cases x with
 | tmp i => simp only [eev, ev, R i, List.getD]; cases ρ[i]? <;> rfl
 | const v => rfl
 | global _ => rfl
 | func _ => rfl
theorem evals_eq {t : T LV} {ρ : List LV} (R : t.For ρ) : ∀ l, evals t l = vals ρ l
 | [] => rfl
 | o :: os => by
  simp only [evals, vals, eev_eq R, evals_eq R os]
  cases ev ρ o with
  | val x => cases vals ρ os <;> rfl
  | loc _ _ => rfl
  | top => rfl
theorem eevI_eq {t : T LV} {ρ : List LV} (R : t.For ρ) (x : Operand) : eevI t x = evI ρ x := by
 unfold eevI evI
 rw [eev_eq R]
 cases ev ρ x with
 | val v => cases v <;> rfl
 | loc _ _ => rfl
 | top => rfl
theorem eoptI_eq {t : T LV} {ρ : List LV} (R : t.For ρ) (x : Option Operand) : eoptI t x = optI ρ x := by cases x <;> simp only [eoptI, optI, eevI_eq R]
theorem fVals_ok {t : T LV} {ρ : List LV} (R : t.For ρ) : ∀ {l : List Operand} {k : List AV → Bool}, fVals t l k = true → ∃ vs, vals ρ l = some vs ∧ k vs = true
 | [], k, h => ⟨[], rfl, h⟩
 | o :: os, k, h => by
  simp only [fVals, eev_eq R] at h
  cases ho : ev ρ o with
  | val x =>
   rw [ho] at h
   obtain ⟨vs, h1, h2⟩ := fVals_ok R (l := os) h
   exact ⟨x :: vs, by simp only [vals, ho, h1], h2⟩
  | loc _ _ => rw [ho] at h; simp at h
  | top => rw [ho] at h; simp at h
theorem eNew_ok {e : EH} {h : Heap} (H : HFor e h) {c : List AV} {rw : Bool} {k : Nat → EH → Bool} (hk : eNew c rw e k = true) : ∃ e', HFor e' (h ++ [.cells c rw]) ∧ k h.length e' = true := by
 unfold eNew at hk
 rw [H.2] at hk
 obtain ⟨t', h1, h2⟩ := H.1.add hk
 rw [fN_eq] at h1
 exact ⟨_, ⟨h2, by simp⟩, h1⟩
theorem eCells_ok {e : EH} {h : Heap} (H : HFor e h) {b o n : Nat} {k : List AV → Bool} (hk : eCells e b o n k = true) : ∃ l, cellsAt h ⟨b, o⟩ n = some l ∧ k l = true := by
 unfold eCells at hk
 rw [H.1 b] at hk
 cases hb : h[b]? with
 | none => rw [hb] at hk; simp at hk
 | some B =>
  rw [hb] at hk
  cases B with
  | cells c rw =>
   obtain ⟨h1, h2⟩ := tk_ok hk
   exact ⟨_, by simp only [cellsAt, hb, h1, if_true], h2⟩
  | mp es cl => simp at hk
  | it _ _ _ _ => simp at hk
  | bx _ => simp at hk
  | gm _ _ => simp at hk
  | dead => simp at hk
theorem eslCells_ok {e : EH} {h : Heap} (H : HFor e h) {s : Option SL} {n : Nat} {k : List AV → Bool} (hk : eslCells e s n k = true) : ∃ l, slCells h s n = some l ∧ k l = true := by
 cases s with
 | some s => exact eCells_ok H hk
 | none => cases n with
  | zero => exact ⟨[], rfl, hk⟩
  | succ n => simp [eslCells] at hk
theorem eStore_ok {e : EH} {h : Heap} (H : HFor e h) {b o : Nat} {xs : List AV} {k : EH → Bool} (hk : eStore e b o xs k = true) :
  ∃ c e', h[b]? = some (.cells c true) ∧ o + xs.length ≤ c.length ∧ HFor e' (h.set b (.cells (splice c o xs) true)) ∧ k e' = true := by
 unfold eStore at hk
 rw [H.1 b] at hk
 split at hk
 ·rename_i c hb
  obtain ⟨h1, h2⟩ := spl_ok hk
  obtain ⟨t', h3, h4⟩ := H.1.put h2
  exact ⟨c, _, hb, h1, ⟨h4, by simp [H.2]⟩, h3⟩
 ·simp at hk
theorem sameShape_one {z v : AV} (h : sameShape z v = true) (hz : ∀ c, z ≠ .tup c) : v.one = true := by
 cases z <;> cases v <;> simp_all [sameShape, AV.one]
theorem exL_mk : ∀ {zs l : List AV} {K : List AV → Prop}, sameShapes zs l = true → K l → exL zs K
 | [], [], K, _, hk => hk
 | [], _ :: _, K, h, _ => by simp [sameShapes] at h
 | _ :: _, [], K, h, _ => by simp [sameShapes] at h
 | z :: zs, v :: l, K, h, hk => by
  simp only [sameShapes, Bool.and_eq_true] at h
  obtain ⟨h1, h2⟩ := h
  cases z <;> cases v <;> simp only [sameShape, AV.one, decide_eq_true_eq, Bool.false_eq_true] at h1 <;> simp only [exL]
  case int.int => subst h1; exact ⟨_, exL_mk h2 hk⟩
  case bool.bool => exact ⟨_, exL_mk h2 hk⟩
  case str.str => exact ⟨_, exL_mk h2 hk⟩
  case ptr.ptr => exact ⟨_, exL_mk h2 hk⟩
  case sl.sl => exact ⟨_, exL_mk h2 hk⟩
  case map.map => exact ⟨_, exL_mk h2 hk⟩
  all_goals exact ⟨_, rfl, exL_mk h2 hk⟩
theorem exT_mk : ∀ {vs l : List AV} {K : List AV → Prop}, shT vs l = true → K l → exT vs K
 | [], [], K, _, hk => hk
 | [], _ :: _, K, h, _ => by simp [shT] at h
 | z :: vs, [], K, h, _ => by cases z <;> simp [shT] at h
 | z :: vs, x :: r, K, h, hk => by
  cases z
  case agg zs =>
   cases x <;> simp only [shT, Bool.and_eq_true, Bool.false_eq_true] at h
   simp only [exT]
   exact exL_mk h.1 (exT_mk h.2 hk)
  all_goals
   simp only [shT, Bool.and_eq_true] at h
   simp only [exT]
   exact exL_mk h.1 (exT_mk h.2 hk)
theorem exV_mk {z v : AV} {K : AV → Prop} (h : shV z v = true) (hk : K v) : exV z K := by
 cases z
 case agg zs =>
  cases v <;> simp only [shV, Bool.false_eq_true] at h
  exact exL_mk h hk
 case tup vs =>
  cases v <;> simp only [shV, Bool.false_eq_true] at h
  exact exT_mk h hk
 all_goals
  simp only [shV] at h
  simp only [exV]
  exact exL_mk h hk
theorem ePart_ok {z : AV} {c : List AV} {o : Nat} {k : AV → Bool} {K : AV → Prop} (h : ePart z c o k = true) (hk : ∀ v, k v = true → K v) : part z c o K := by
 cases z
 case agg zs =>
  obtain ⟨h1, h2⟩ := tk_ok h
  simp only [part, isAgg, AV.cells]
  exact need_mk (decide_eq_true h1) (hk _ h2)
 case tup zs => simp [ePart] at h
 all_goals
  obtain ⟨v, h1, h2⟩ := at1_ok h
  simp only [part, isAgg, h1]
  exact hk _ h2
theorem eLoad_ok {e : EH} {h : Heap} (H : HFor e h) {z : AV} {b o : Nat} {k : AV → Bool} {K : AV → Prop} (hk : eLoad z e b o k = true) (hK : ∀ v, k v = true → K v) : PLoad z h ⟨b, o⟩ K := by
 unfold eLoad at hk
 rw [H.1 b] at hk
 split at hk
 ·rename_i c rw hb
  have one : ∀ z : AV, (∀ c, z ≠ .agg c) → (∀ c, z ≠ .tup c) → at1 c o (fun v => sameShape z v && k v) = true → PLoad z h ⟨b, o⟩ K := by
   intro z hz1 hz2 hk
   obtain ⟨v, h1, h2⟩ := at1_ok hk
   simp only [Bool.and_eq_true] at h2
   have hv := cells_of_one (sameShape_one h2.1 hz2)
   have hz : z.cells.length = 1 := by cases z <;> first | rfl | exact absurd rfl (hz1 _)
   have hlt := lt_of_get h1
   refine exV_mk (v := v) ?_ ⟨?_, hK _ h2.2⟩
   ·cases z <;> first | exact absurd rfl (hz1 _) | exact absurd rfl (hz2 _) | simp [shV, sameShapes, h2.1]
   ·simp only [cellsAt, hb, hz, hv]
    rw [if_pos (by omega)]
    congr 1
    rw [List.take_one, List.head?_drop, h1]; rfl
  cases z
  case agg zs =>
   obtain ⟨h1, h2⟩ := tk_ok hk
   simp only [Bool.and_eq_true] at h2
   refine exV_mk (v := .agg _) h2.1 ⟨?_, hK _ h2.2⟩
   simp only [cellsAt, hb, AV.cells, h1, if_true]
  case tup zs => simp at hk
  all_goals exact one _ (fun c h => by cases h) (fun c h => by cases h) hk
 ·simp at hk
theorem ebool_ok {b : Bool} {k : AV → Bool} (h : ebool b k = true) : k (.bool b) = true := by cases b <;> exact h
theorem eInt_ok {op : BinOp} {q : IntKind} {a b : Int} {k : AV → Bool} {K : AV → Prop} (hK : ∀ v, k v = true → K v) (h : eInt op q a b k = true) : aInt op q a b K := by
 cases op <;> simp only [eInt, eint, fI_eq, Bool.and_eq_true, Bool.false_eq_true] at h <;> simp only [aInt]
 case quo => exact need_mk h.1 (hK _ h.2)
 case rem => exact need_mk h.1 (hK _ h.2)
 all_goals first | exact hK _ h | exact hK _ (ebool_ok h)
theorem eStr_ok {op : BinOp} {a b : List UInt8} {k : AV → Bool} {K : AV → Prop} (hK : ∀ v, k v = true → K v) (h : eStr op a b k = true) : aStr op a b K := by
 cases op <;> simp only [eStr, ap_eq, Bool.and_eq_true, Bool.false_eq_true] at h <;> simp only [aStr]
 case add => exact need_mk h.1 (hK _ h.2)
 all_goals first | exact hK _ h | exact hK _ (ebool_ok h)
theorem eeqFs_ok {P : Program} {n : Nat} (ih : ∀ (t : TypeId) (xs ys : List AV) (k : Bool → List AV → List AV → Bool) (K : Bool → List AV → List AV → Prop), (∀ b x y, k b x y = true → K b x y) → eeqT P n t xs ys k = true → eqT P n t xs ys K) :
  ∀ (fs : List Field) (off : Nat) (xs ys : List AV) (k : Bool → List AV → List AV → Bool) (K : Bool → List AV → List AV → Prop), (∀ b x y, k b x y = true → K b x y) → eeqFs P (eeqT P n) fs off xs ys k = true → eqFs P (eqT P n) fs off xs ys K
 | [], off, xs, ys, k, K, hK, h => hK _ _ _ h
 | f :: fs, off, xs, ys, k, K, hK, h => by
  simp only [eeqFs] at h
  rw [Bool.and_eq_true] at h
  simp only [eqFs]
  exact need_mk h.1 (ih _ _ _ _ _ (fun b x y hb => eeqFs_ok ih fs _ _ _ _ _ (fun b' x' y' => hK _ _ _) hb) h.2)
theorem eeqT_ok {P : Program} : ∀ (n : Nat) (t : TypeId) (xs ys : List AV) (k : Bool → List AV → List AV → Bool) (K : Bool → List AV → List AV → Prop), (∀ b x y, k b x y = true → K b x y) → eeqT P n t xs ys k = true → eqT P n t xs ys K
 | 0, t, xs, ys, k, K, hK, h => by simp [eeqT] at h
 | n + 1, t, xs, ys, k, K, hK, h => by
  unfold eeqT at h
  unfold eqT
  split at h
  ·rename_i hu
   rw [Bool.and_eq_true] at h
   simp only [hu]
   exact need_mk h.1 (hK _ _ _ h.2)
  ·rename_i hu
   rw [Bool.and_eq_true] at h
   simp only [hu]
   exact need_mk h.1 (hK _ _ _ h.2)
  ·rename_i hu
   rw [Bool.and_eq_true] at h
   simp only [hu]
   exact need_mk h.1 (hK _ _ _ h.2)
  ·rename_i fs hu
   rw [Bool.and_eq_true] at h
   simp only [hu]
   refine need_mk h.1 (eeqFs_ok (eeqT_ok n) _ _ _ _ _ _ (fun b x y hb => ?_) h.2)
   rw [Bool.and_eq_true] at hb
   exact need_mk hb.1 (hK _ _ _ hb.2)
  ·simp at h
theorem eptrEq_ok {e : EH} {h : Heap} (H : HFor e h) {p q : PA} {k : Bool → Bool} {K : Bool → Prop} (hK : ∀ v, k v = true → K v) (hk : eptrEq e p q k = true) : ptrEq h p q K := by
 unfold eptrEq at hk
 unfold ptrEq
 cases hb : Nat.beq p.b q.b with
 | true => rw [hb] at hk; rw [if_pos (Nat.eq_of_beq_eq_true hb)]; exact hK _ hk
 | false =>
  rw [hb] at hk
  rw [if_neg (Nat.ne_of_beq_eq_false hb)]
  simp only [H.1 p.b, H.1 q.b] at hk
  split at hk
  ·rename_i h1 h2; simp only [h1, h2]; exact hK _ hk
  ·simp at hk
theorem eEq_ok {P : Program} {e : EH} {h : Heap} (H : HFor e h) {t : TypeId} {x y : AV} {k : Bool → Bool} {K : Bool → Prop} (hK : ∀ v, k v = true → K v) (hk : eEq P t e x y k = true) : aEq P t h x y K := by
 unfold eEq at hk
 unfold aEq
 split at hk
 ·rename_i hu; simp only [hu]; exact hK _ hk
 ·rename_i hu; rw [Bool.and_eq_true] at hk; simp only [hu]; exact need_mk hk.1 (eeqT_ok _ _ _ _ _ _ (fun b _ _ hb => hK _ hb) hk.2)
 ·rename_i hu; simp only [hu]; exact hK _ hk
 ·rename_i hu; simp only [hu]; exact hK _ hk
 ·rename_i hu; rw [Bool.and_eq_true] at hk; simp only [hu]; exact need_mk hk.1 (eptrEq_ok H hK hk.2)
 ·rename_i hu; simp only [hu]; exact hK _ hk
 ·rename_i hu; simp only [hu]; exact hK _ hk
 ·rename_i hu; simp only [hu]; exact hK _ hk
 ·rename_i hu; simp only [hu]; exact hK _ hk
 ·simp at hk
theorem eBin_ok {P : Program} {e : EH} {h : Heap} (H : HFor e h) {op : BinOp} {t : TypeId} {x y : AV} {k : AV → Bool} {K : AV → Prop} (hK : ∀ v, k v = true → K v) (hk : eBin P op t e x y k = true) : aBin P op t h x y K := by
 unfold eBin at hk
 split at hk
 ·simp only [aBin]
  unfold eIntS at hk
  unfold aIntS
  split at hk
  ·simp only [fI_eq, Bool.and_eq_true] at hk; exact need_mk hk.1 (hK _ hk.2)
  ·simp only [fI_eq, Bool.and_eq_true] at hk; exact need_mk hk.1 (hK _ hk.2)
  ·rename_i h1 h2
   rw [Bool.and_eq_true] at hk
   split
   ·exact (h1 rfl).elim
   ·exact (h2 rfl).elim
   ·exact need_mk hk.1 (eInt_ok hK hk.2)
 ·simp only [aBin]; exact eStr_ok hK hk
 ·rename_i h1 h2
  rw [aBin_else h1 h2]
  unfold eCmp at hk
  unfold aCmp
  split at hk
  ·exact eEq_ok H (fun b hb => hK _ (ebool_ok hb)) hk
  ·exact eEq_ok H (fun b hb => hK _ (ebool_ok hb)) hk
  ·simp at hk
theorem eUn_ok {op : UnOp} {x : AV} {k : AV → Bool} {K : AV → Prop} (hK : ∀ v, k v = true → K v) (hk : eUn op x k = true) : aUn op x K := by
 unfold eUn at hk
 unfold aUn
 split at hk
 ·simp only [eint, fI_eq] at hk; exact hK _ hk
 ·simp only [fI_eq] at hk; exact hK _ hk
 ·exact hK _ (ebool_ok hk)
 ·simp at hk
theorem eRow_eq (b o len cap opn : Nat) (k : Option SL → Bool) : eRow b o len cap opn k = k (some ⟨b, o, len, cap, opn⟩) := by simp only [eRow, fN_eq]
theorem eAppend_ok {e : EH} {h : Heap} (H : HFor e h) {sz bytes : Nat} {s : Option SL} {n : Nat} {xs : List AV} {k : Option SL → EH → Bool} {K : Option SL → Heap → Prop}
  (hK : ∀ s e' h', HFor e' h' → k s e' = true → K s h') (hk : eAppend sz bytes s n xs e k = true) : PAppend sz bytes s n xs h K := by
 unfold eAppend at hk
 rw [Bool.and_eq_true] at hk
 obtain ⟨h0, hk⟩ := hk
 refine ⟨by simpa using h0, ?_⟩
 split at hk
 ·cases n with
  | zero => exact (if_pos rfl).mpr (hK _ _ _ H hk)
  | succ n =>
   rw [Bool.and_eq_true] at hk
   obtain ⟨h1, hk⟩ := hk
   simp only [Bool.and_eq_true, decide_eq_true_eq] at h1
   obtain ⟨e', H', hk⟩ := eNew_ok H hk
   rw [eRow_eq] at hk
   rw [if_neg (by omega)]
   exact ⟨h1.1, h1.2, hK _ _ _ H' hk⟩
 ·rename_i s
  split at hk
  ·rename_i hle
   have hle' : s.len + n ≤ s.cap := Nat.le_of_ble_eq_true hle
   simp only [hle', if_true]
   rw [H.1 s.b] at hk
   split at hk
   ·rename_i c hb
    obtain ⟨h1, h2⟩ := spl_ok hk
    obtain ⟨t', h3, h4⟩ := H.1.put h2
    rw [eRow_eq] at h3
    simp only [hb]
    exact ⟨h1, hK _ _ _ ⟨h4, by simp [H.2]⟩ h3⟩
   all_goals
    rename_i hb
    cases n with
    | zero => simp only [hb]; exact ⟨trivial, hK _ _ _ H hk⟩
    | succ n => simp at hk
  ·rename_i hle
   have hle' : ¬ s.len + n ≤ s.cap := fun h => by rw [Nat.ble_eq_true_of_le h] at hle; cases hle
   simp only [hle', if_false]
   rw [Bool.and_eq_true] at hk
   obtain ⟨h1, hk⟩ := hk
   simp only [Bool.and_eq_true, decide_eq_true_eq] at h1
   refine ⟨h1.1, h1.2, ?_⟩
   rw [H.1 s.b] at hk
   split at hk
   ·rename_i c rw hb
    obtain ⟨g1, g2⟩ := tk_ok hk
    simp only [cellsAt, hb, g1, if_true]
    cases ho : s.opn with
    | zero =>
     simp only [ho, ap_eq] at g2
     obtain ⟨e', H', g3⟩ := eNew_ok H g2
     rw [eRow_eq] at g3
     simp only [if_true]
     exact hK _ _ _ H' g3
    | succ m =>
     simp only [ho, ap_eq] at g2
     rw [Bool.and_eq_true, Bool.and_eq_true] at g2
     obtain ⟨⟨g4, g5⟩, g6⟩ := g2
     obtain ⟨t', g7, g8⟩ := H.1.put g6
     obtain ⟨e', H', g9⟩ := eNew_ok (e := ⟨t', e.n⟩) (h := h.set s.b .dead) ⟨g8, by simp [H.2]⟩ g7
     rw [eRow_eq] at g9
     have hl : (h.set s.b .dead).length = h.length := by simp
     rw [hl] at g9
     rw [if_neg (by omega)]
     exact ⟨g4, by simpa using g5, hK _ _ _ H' g9⟩
   ·simp at hk
theorem eCopy_ok {e : EH} {h : Heap} (H : HFor e h) {sz : Nat} {s : Option SL} {n : Nat} {xs : List AV} {k : EH → Bool} {K : Heap → Prop} (hK : ∀ e' h', HFor e' h' → k e' = true → K h') (hk : eCopy sz s n xs e k = true) :
  PCopy sz s n xs h K := by
 unfold eCopy at hk
 rw [Bool.and_eq_true] at hk
 obtain ⟨h0, hk⟩ := hk
 refine ⟨by simpa using h0, ?_⟩
 cases s with
 | none => cases n with
  | zero => exact ⟨rfl, hK _ _ H hk⟩
  | succ n => simp at hk
 | some s =>
  simp only at hk
  rw [Bool.and_eq_true] at hk
  obtain ⟨h1, hk⟩ := hk
  obtain ⟨c, e', h2, h3, h4, h5⟩ := eStore_ok H hk
  refine ⟨Nat.le_of_ble_eq_true h1, ?_⟩
  simp only [PStore, h2]
  exact ⟨h3, hK _ _ h4 h5⟩
theorem eSlice_ok {sz : Nat} {s : Option SL} {lo : Int} {hi mx : Option Int} {k : Option SL → Bool} {K : Option SL → Prop} (hK : ∀ s, k s = true → K s) (hk : eSlice sz s lo hi mx k = true) : PSlice sz s lo hi mx K := by
 unfold eSlice at hk
 unfold PSlice
 cases s with
 | none =>
  simp only [Bool.and_eq_true, beq_iff_eq] at hk
  exact ⟨hk.1.1.1, hk.1.1.2, hk.1.2, hK _ hk.2⟩
 | some s =>
  simp only [eRow_eq, Bool.and_eq_true, Bool.or_eq_true, beq_iff_eq, decide_eq_true_eq] at hk
  obtain ⟨⟨⟨⟨⟨h1, h2⟩, h3⟩, h4⟩, h5⟩, h6⟩ := hk
  exact ⟨h1, h2, h3, h4, h5, hK _ h6⟩
theorem estrSlice_ok {s : List UInt8} {lo : Int} {hi : Option Int} {k : List UInt8 → Bool} {K : List UInt8 → Prop} (hK : ∀ s, k s = true → K s) (hk : estrSlice s lo hi k = true) : strSlice s lo hi K := by
 unfold estrSlice at hk
 rw [Bool.and_eq_true] at hk
 obtain ⟨h1, h2⟩ := hk
 simp only [Bool.and_eq_true, decide_eq_true_eq] at h1
 obtain ⟨h3, h4⟩ := tk_ok h2
 refine ⟨h1.1.1, h1.1.2, h1.2, hK _ ?_⟩
 rw [List.drop_take]
 exact h4
theorem eBytes_ok : ∀ {l : List AV} {k : List UInt8 → Bool}, eBytes l k = true → ∃ bs, l = byteAVs bs ∧ k bs = true
 | [], k, h => ⟨[], rfl, h⟩
 | v :: l, k, h => by
  unfold eBytes at h
  split at h
  ·rename_i heq; cases heq
  ·rename_i n l' heq
   cases heq
   split at h
   ·rename_i m
    rw [Bool.and_eq_true] at h
    obtain ⟨h1, h2⟩ := h
    obtain ⟨bs, h3, h4⟩ := eBytes_ok h2
    have hm : m < 256 := by simpa [Nat.blt_eq] using h1
    refine ⟨UInt8.ofNat m :: bs, ?_, h4⟩
    simp only [byteAVs, List.map_cons] at h3 ⊢
    rw [h3]
    congr 2
    simp [Nat.mod_eq_of_lt hm]
   ·simp at h
  ·simp at h
theorem fBytes_eq : ∀ (l : List UInt8) (k : List AV → Bool), fBytes l k = k (byteAVs l)
 | [], k => rfl
 | b :: l, k => by simp only [fBytes, fN_eq, fBytes_eq l]; rfl
theorem eMake_ok {e : EH} {h : Heap} (H : HFor e h) {zs : List AV} {bytes : Nat} {l c : Int} {k : Option SL → EH → Bool} {K : Option SL → Heap → Prop}
  (hK : ∀ s e' h', HFor e' h' → k s e' = true → K s h') (hk : eMake zs bytes l c e k = true) : PMake zs bytes l c h K := by
 unfold eMake at hk
 rw [Bool.and_eq_true] at hk
 obtain ⟨h1, h2⟩ := hk
 simp only [Bool.and_eq_true, decide_eq_true_eq] at h1
 rw [fL_eq] at h2
 obtain ⟨e', H', h3⟩ := eNew_ok H h2
 rw [eRow_eq] at h3
 exact ⟨h1.1.1.1, h1.1.1.2, h1.1.2, h1.2, hK _ _ _ H' h3⟩
theorem ekeyIs_ok {P : Program} {kt : TypeId} {a b : AV} {r : Bool} (h : ekeyIs P kt a b = some r) {K : Bool → Prop} (hk : K r) : keyIs P kt a b K := by
 unfold ekeyIs at h
 unfold keyIs
 generalize P.underlying kt = d at h ⊢
 split at h
 ·split at h
  ·rename_i hd
   cases h
   exact need_mk hd hk
  ·cases h
 ·cases h; exact hk
 ·cases h; exact hk
 ·simp only [h]; exact hk
 ·simp only [h]; exact hk
 ·cases h
theorem efind_ok {P : Program} {kt : TypeId} {k : AV} : ∀ {es : List (AV × AV × Nat)} {i : Nat} {KB : Option (Nat × AV × Nat) → Bool} {K : Option (Nat × AV × Nat) → Prop}, (∀ r, KB r = true → K r) → efind P kt k es i KB = true → findP P kt k es i K
 | [], i, KB, K, hK, h => hK _ h
 | (k', v, n) :: es, i, KB, K, hK, h => by
  unfold efind at h
  unfold findP
  split at h
  ·rename_i he; exact ekeyIs_ok he (hK _ h)
  ·rename_i he
   rw [fN_eq] at h
   exact ekeyIs_ok he (efind_ok hK h)
  ·simp at h
theorem emapEs_eq {e : EH} {h : Heap} (H : HFor e h) (m : Option Nat) : emapEs e m = mapEs h m := by
 cases m with
 | none => rfl
 | some b =>
  simp only [emapEs, mapEs, H.1 b]
  rcases h[b]? with _ | B
  ·rfl
  ·cases B <;> rfl
theorem eLookup_ok {P : Program} {e : EH} {h : Heap} (H : HFor e h) {kt et : TypeId} {m : Option Nat} {k : AV} {ok : Bool} {KB : AV → Bool} {K : AV → Prop} (hK : ∀ v, KB v = true → K v) (hk : eLookup P kt et m k ok e KB = true) :
  PLookup P kt et m k ok h K := by
 unfold eLookup at hk
 rw [emapEs_eq H] at hk
 unfold PLookup
 split at hk
 ·rename_i es z hes hz
  rw [Bool.and_eq_true] at hk
  simp only [hes, hz]
  refine need_mk hk.1 (efind_ok (fun r hr => ?_) hk.2)
  split at hr <;> exact hK _ hr
 ·simp at hk
theorem eset_ok {α : Type} : ∀ {l : List α} {i : Nat} {x : α} {k : List α → Bool}, eset l i x k = true → k (l.set i x) = true
 | [], i, x, k, h => h
 | y :: l, 0, x, k, h => h
 | y :: l, i + 1, x, k, h => eset_ok (l := l) (k := fun l => k (y :: l)) h
theorem eerase_ok {α : Type} : ∀ {l : List α} {i : Nat} {k : List α → Bool}, eerase l i k = true → k (l.eraseIdx i) = true
 | [], i, k, h => h
 | y :: l, 0, k, h => h
 | y :: l, i + 1, k, h => eerase_ok (l := l) (k := fun l => k (y :: l)) h
theorem eUpdate_ok {P : Program} {e : EH} {h : Heap} (H : HFor e h) {kt : TypeId} {b : Nat} {k v : AV} {KB : EH → Bool} {K : Heap → Prop} (hK : ∀ e' h', HFor e' h' → KB e' = true → K h') (hk : eUpdate P kt b k v e KB = true) :
  PUpdate P kt b k v h K := by
 unfold eUpdate at hk
 rw [H.1 b] at hk
 unfold PUpdate
 split at hk
 ·rename_i es cl hb
  rw [Bool.and_eq_true] at hk
  simp only [hb]
  refine need_mk hk.1 (efind_ok (fun r hr => ?_) hk.2)
  split at hr
  ·have := eset_ok hr
   obtain ⟨t', h1, h2⟩ := H.1.put this
   exact hK _ _ ⟨h2, by simp [H.2]⟩ h1
  ·rw [ap_eq, fN_eq] at hr
   obtain ⟨t', h1, h2⟩ := H.1.put hr
   exact hK _ _ ⟨h2, by simp [H.2]⟩ h1
 ·simp at hk
theorem eDelete_ok {P : Program} {e : EH} {h : Heap} (H : HFor e h) {kt : TypeId} {m : Option Nat} {k : AV} {KB : EH → Bool} {K : Heap → Prop} (hK : ∀ e' h', HFor e' h' → KB e' = true → K h') (hk : eDelete P kt m k e KB = true) :
  PDelete P kt m k h K := by
 unfold eDelete at hk
 unfold PDelete
 split at hk
 ·rw [Bool.and_eq_true] at hk; exact need_mk hk.1 (hK _ _ H hk.2)
 ·rename_i b
  rw [H.1 b] at hk
  split at hk
  ·rename_i es cl hb
   rw [Bool.and_eq_true] at hk
   simp only [hb]
   refine need_mk hk.1 (efind_ok (fun r hr => ?_) hk.2)
   split at hr
   ·have := eerase_ok hr
    obtain ⟨t', h1, h2⟩ := H.1.put this
    exact hK _ _ ⟨h2, by simp [H.2]⟩ h1
   ·obtain ⟨t', h1, h2⟩ := H.1.put hr
    exact hK _ _ ⟨h2, by simp [H.2]⟩ h1
  ·simp at hk
theorem ballE_ok : ∀ {l : List (AV × AV × Nat)} {KB : AV × AV × Nat → Bool} {K : AV × AV × Nat → Prop}, (∀ x, KB x = true → K x) → ballE l KB = true → allE l K
 | [], KB, K, hK, h => trivial
 | [x], KB, K, hK, h => hK _ h
 | x :: y :: l, KB, K, hK, h => by
  simp only [ballE, Bool.and_eq_true] at h
  exact ⟨hK _ h.1, ballE_ok hK h.2⟩
theorem eNext_ok {e : EH} {h : Heap} (H : HFor e h) {b : Nat} {KB : AV → EH → Bool} {K : AV → Heap → Prop} (hK : ∀ v e' h', HFor e' h' → KB v e' = true → K v h') (hk : eNext b e KB = true) : PNext b h K := by
 unfold eNext at hk
 rw [H.1 b] at hk
 unfold PNext
 split at hk
 ·rename_i hb; simp only [hb]; exact hK _ _ _ H hk
 ·rename_i m since seen last hb
  rw [H.1 m] at hk
  simp only [hb]
  split at hk
  ·rename_i es cl hm
   rw [Bool.and_eq_true] at hk
   simp only [hm]
   refine need_mk hk.1 ?_
   replace hk := hk.2
   split at hk
   ·rename_i hl; simp only [hl]; exact hK _ _ _ H hk
   ·rename_i l hne
    split
    ·rename_i hl; exact (hne hl).elim
    ·refine ballE_ok (fun x hx => ?_) hk
     rw [ap_eq] at hx
     obtain ⟨t', h1, h2⟩ := H.1.put hx
     exact hK _ _ _ ⟨h2, by simp [H.2]⟩ h1
  ·simp at hk
 ·simp at hk
theorem eEntry_ok {e : EH} {h : Heap} (H : HFor e h) {b : Nat} {KB : AV → Bool} {K : AV → Prop} (hK : ∀ v, KB v = true → K v) (hk : eEntry b e KB = true) : PEntry b h K := by
 unfold eEntry at hk
 rw [H.1 b] at hk
 unfold PEntry
 split at hk
 ·rename_i m since seen stepped hb
  rw [H.1 m] at hk
  simp only [hb]
  split at hk
  ·rename_i stamp es cl hl hm
   rw [Bool.and_eq_true] at hk
   simp only [hl, hm]
   refine need_mk hk.1 ?_
   replace hk := hk.2
   split at hk
   ·rename_i k v n hf; simp only [hf]; exact hK _ hk
   ·simp at hk
  ·simp at hk
 ·simp at hk
theorem eNewB_ok {e : EH} {h : Heap} (H : HFor e h) {B : Blk} {k : Nat → EH → Bool} (hk : eNewB B e k = true) : ∃ e', HFor e' (h ++ [B]) ∧ k h.length e' = true := by
 unfold eNewB at hk
 rw [H.2] at hk
 obtain ⟨t', h1, h2⟩ := H.1.add hk
 rw [fN_eq] at h1
 exact ⟨_, ⟨h2, by simp⟩, h1⟩
theorem eBuiltin_ok {P : Program} {e : EH} {h : Heap} (H : HFor e h) {b : Builtin} {argT : List TypeId} {args : List AV} {k : EK} {K : KO}
  (hK : ∀ v e' h', HFor e' h' → k v e' = true → K v [] h') (hk : eBuiltin P b argT args e k = true) : vBuiltin P b argT args [] h K := by
 unfold eBuiltin at hk
 split at hk
 ·split at hk
  ·rename_i hu; simp only [vBuiltin, hu]; exact hK _ _ _ H hk
  ·simp at hk
 ·split at hk
  ·rename_i hu; simp only [vBuiltin, hu]; rw [fN_eq] at hk; exact hK _ _ _ H hk
  ·simp at hk
 ·rw [emapEs_eq H] at hk
  split at hk
  ·rename_i hu hes; simp only [vBuiltin, hu, vLenM, hes]; rw [fN_eq] at hk; exact hK _ _ _ H hk
  ·simp at hk
 ·split at hk
  ·rename_i hu; simp only [vBuiltin, hu]; exact eDelete_ok H (fun e' h' H' hs => hK _ _ _ H' hs) hk
  ·simp at hk
 ·split at hk
  ·simp at hk
  ·rename_i e1 he
   split at hk
   ·rename_i hz; simp only [vBuiltin, he, hz, PClear]; exact hK _ _ _ H hk
   ·rename_i zs s hz
    simp only [vBuiltin, he, hz, PClear]
    split at hk
    ·rename_i hl; simp only [hl]; exact hK _ _ _ H hk
    ·rename_i n hl
     rw [Bool.and_eq_true] at hk
     obtain ⟨c, e', h2, h3, h4, h5⟩ := eStore_ok H hk.2
     simp only [hl]
     refine need_mk hk.1 ?_
     simp only [PStore, h2]
     exact ⟨h3, hK _ _ _ h4 h5⟩
   ·simp at hk
 ·split at hk
  ·rename_i hu; simp only [vBuiltin, hu]; exact hK _ _ _ H hk
  ·rename_i hu; simp only [vBuiltin, hu]; rw [Bool.and_eq_true] at hk; exact ⟨by simpa using hk.1, hK _ _ _ H hk.2⟩
  ·simp at hk
 ·split at hk
  ·simp at hk
  ·rename_i e' he
   split at hk
   ·simp at hk
   ·rename_i zs hz
    rw [Bool.and_eq_true] at hk
    obtain ⟨h1, hk⟩ := hk
    simp only [vBuiltin, he, hz]
    refine need_mk h1 ?_
    split at hk
    ·rename_i hi
     rw [Bool.and_eq_true] at hk
     obtain ⟨h2, hk⟩ := hk
     simp only [Bool.and_eq_true, decide_eq_true_eq] at h2
     rw [fN_eq, fL_eq] at hk
     simp only [hi]
     exact need_mk h2.1.1.1 ⟨h2.1.1.2, h2.1.2, h2.2, eAppend_ok H (fun s e' h' H' hs => hK _ _ _ H' hs) hk⟩
    ·rename_i hi
     rw [Bool.and_eq_true] at hk
     obtain ⟨h2, hk⟩ := hk
     obtain ⟨xs, h3, h4⟩ := eslCells_ok H hk
     simp only [hi]
     exact need_mk h2 ⟨xs, h3, eAppend_ok H (fun s e' h' H' hs => hK _ _ _ H' hs) h4⟩
    ·rename_i hi
     rw [Bool.and_eq_true] at hk
     obtain ⟨h2, hk⟩ := hk
     rw [fN_eq, fBytes_eq] at hk
     simp only [hi]
     exact need_mk h2 (eAppend_ok H (fun s e' h' H' hs => hK _ _ _ H' hs) hk)
    ·simp at hk
 ·split at hk
  ·simp at hk
  ·rename_i e' he
   rw [Bool.and_eq_true] at hk
   obtain ⟨h1, hk⟩ := hk
   rw [fN_eq] at hk
   obtain ⟨xs, h3, h4⟩ := eslCells_ok H hk
   simp only [vBuiltin, he]
   refine need_mk h1 ⟨xs, h3, eCopy_ok H (fun e' h' H' hs => ?_) h4⟩
   exact hK _ _ _ H' hs
 ·simp only [vBuiltin]
  unfold eminL at hk
  unfold minL
  split at hk
  ·exact hK _ _ _ H hk
  ·rw [Bool.and_eq_true, fI_eq] at hk; exact need_mk hk.1 (hK _ _ _ H hk.2)
  ·simp at hk
 ·simp only [vBuiltin]
  unfold emaxL at hk
  unfold maxL
  split at hk
  ·exact hK _ _ _ H hk
  ·rw [Bool.and_eq_true, fI_eq] at hk; exact need_mk hk.1 (hK _ _ _ H hk.2)
  ·simp at hk
 ·simp at hk
theorem efillA_ok {place : Nat → Option (Nat × Nat)} : ∀ {ps : List (Nat × AV)} {cells : List AV} {k : List AV → Bool}, efillA place cells ps k = true → ∃ c, fillA place cells ps = some c ∧ k c = true
 | [], cells, k, h => ⟨_, rfl, h⟩
 | (i, v) :: rest, cells, k, h => by
  unfold efillA at h
  unfold fillA
  split at h
  ·simp at h
  ·rename_i off size hp
   rw [Bool.and_eq_true] at h
   obtain ⟨h1, h2⟩ := h
   obtain ⟨h3, h4⟩ := spl_ok h2
   simp only [hp]
   rw [if_neg (by simp at h1; omega)]
   exact efillA_ok h4
theorem epartsA_ok {t : T LV} {ρ : List LV} (R : t.For ρ) {ps : Array (Nat × Operand)} {k : List (Nat × AV) → Bool} (h : epartsA t ps k = true) : ∃ parts, partsA ρ ps = some parts ∧ k parts = true := by
 unfold epartsA at h
 obtain ⟨vs, h1, h2⟩ := fVals_ok R h
 exact ⟨_, by simp only [partsA, h1, Option.map_some], h2⟩
def CallOKH (CH : CallH) (call : ECall) : Prop := ∀ (f : FuncId) (args : List AV) (e : EH) (h : Heap) (k : AV → EH → Bool) (Q : AV → Heap → Prop), HFor e h →
 (∀ v e' h', HFor e' h' → k v e' = true → Q v h') → call f args e k = true → CH f args h Q
abbrev CallOK (P : Program) (call : ECall) : Prop := CallOKH (AC P) call
theorem eInvoke_ok {P : Program} {call : ECall} {CH : CallH} (C : CallOKH CH call) {e : EH} {h : Heap} (H : HFor e h) {r : AV} {name : String} {args : List AV} {k : AV → EH → Bool} {K : AV → Heap → Prop}
  (hK : ∀ v e' h', HFor e' h' → k v e' = true → K v h') (hk : eInvoke P call r name args e k = true) : vInvoke P CH r name args h K := by
 unfold eInvoke at hk
 split at hk
 ·split at hk
  ·rename_i m hm
   rw [Bool.and_eq_true, Bool.not_eq_true'] at hk
   simp only [vInvoke, hm, hk.1]
   exact C _ _ _ _ _ _ H hK hk.2
  ·rename_i hm
   simp only [vInvoke, hm]
   split at hk
   ·rename_i g1 e1 p hma
    simp only [hma]
    split at hk
    ·rename_i z1 hz1
     rw [Bool.and_eq_true, Bool.and_eq_true, Bool.not_eq_true'] at hk
     simp only [hz1, hk.1.2]
     refine eLoad_ok H hk.2 fun x hx => ?_
     simp only [hk.1.1]
     exact C _ _ _ _ _ _ H hK hx
    ·simp at hk
   ·simp at hk
 ·simp at hk
theorem entryZ_none {P : Program} {d : Option Nat} : entryZ P (fun _ => false) d = none := by
 unfold entryZ
 cases d <;> simp
set_option maxHeartbeats 1000000 in
theorem eMark_ok {e : EH} {h : Heap} (H : HFor e h) {g j : Nat} : ∀ {n a : Nat}, eMark e g n a = some j → ∃ b : Nat, h[b]? = some (Blk.gm g j)
 | 0, a, hk => by cases hk
 | n + 1, a, hk => by
  unfold eMark at hk
  split at hk
  ·rename_i g' j' hg
   split at hk
   ·rename_i hb
    cases hk
    have : g = g' := Nat.eq_of_beq_eq_true hb
    subst this
    exact ⟨a, by rw [← H.1 a]; exact hg⟩
   ·exact eMark_ok H hk
  ·cases hk
theorem eop_ok {P : Program} {call : ECall} {CH : CallH} (C : CallOKH CH call) {o : Oper} {t : T LV} {ρ : List LV} (R : t.For ρ) {e : EH} {h : Heap} (H : HFor e h) {k : EK} {K : KO}
  (hK : ∀ v e' h', HFor e' h' → k v e' = true → K v [] h') (hk : eop P call o t e k = true) : vop P (fun _ => false) CH o ρ [] h K := by
 unfold eop at hk
 simp only [eev_eq R, evals_eq R, eevI_eq R, eoptI_eq R] at hk
 unfold vop
 split at hk
 ·rename_i ho; simp only [ho]; exact hK _ _ _ H hk
 ·rename_i ho; simp only [ho]; exact hK _ _ _ H hk
 ·rename_i ho; simp only [ho]
  split at hk
  ·rename_i hc; simp only [hc, vif]; exact hK _ _ _ H hk
  ·rename_i hc; simp only [hc, vif]; exact hK _ _ _ H hk
  ·simp at hk
 ·rename_i ty ho; simp only [ho]
  split at hk
  ·rename_i zs d hz hdst
   rw [Bool.and_eq_true] at hk
   obtain ⟨e', H', h1⟩ := eNew_ok H hk.2
   simp only [hz, hdst]; exact need_mk hk.1 (hK _ _ _ H' h1)
  ·simp at hk
 ·rename_i ty x ho; simp only [ho]
  split at hk
  ·rename_i v d hv hdst
   rw [Bool.and_eq_true, Bool.and_eq_true] at hk
   obtain ⟨⟨h0, h1⟩, hk⟩ := hk
   obtain ⟨e', H', h2⟩ := eNew_ok H hk
   cases v <;> first | (simp [isTup] at h0; done) | (simp only [hv, hdst]; exact need_mk h1 (hK _ _ _ H' h2))
  ·simp at hk
 ·rename_i ty x ho; simp only [ho]
  split at hk
  ·rename_i z p hz hx
   rw [Bool.and_eq_true] at hk
   simp only [vLoad, hz, hk.1, hx, vPtr]
   exact eLoad_ok H hk.2 (fun v hv => hK _ _ _ H hv)
  ·simp at hk
 ·rename_i ty a x ho; simp only [ho]
  split at hk
  ·rename_i v p hx ha
   rw [Bool.and_eq_true] at hk
   obtain ⟨c, e', h2, h3, h4, h5⟩ := eStore_ok H hk.2
   simp only [hx, ha, vPtr, PStore, h2]
   exact need_mk hk.1 ⟨h3, hK _ _ _ h4 h5⟩
  ·simp at hk
 ·rename_i x ho; simp only [ho]
  split at hk
  ·rename_i hx; simp only [hx, vPtr]; exact hK _ _ _ H hk
  ·rename_i hx; simp only [hx]; exact hK _ _ _ H hk
  ·rename_i hx; simp only [hx]; exact hK _ _ _ H hk
  ·simp at hk
 ·rename_i op ty x y u ho; simp only [ho]
  split at hk
  ·rename_i a b hx hy
   simp only [hx, hy]
   exact eBin_ok H (fun v hv => hK _ _ _ H hv) hk
  ·simp at hk
 ·rename_i ho; simp only [ho]
  split at hk
  ·rename_i a hx
   simp only [hx]
   exact eUn_ok (fun v hv => hK _ _ _ H hv) hk
  ·simp at hk
 ·rename_i ho; simp only [ho]
  split at hk
  ·rename_i h1 h2 h3
   simp only [eint, fI_eq] at hk
   simp only [h1, h2, h3]
   exact hK _ _ _ H hk
  ·rename_i h1 h2 h3; simp only [h1, h2, h3]; exact hK _ _ _ H hk
  ·rename_i h1 h2 h3
   rw [Bool.and_eq_true] at hk
   obtain ⟨l, h4, h5⟩ := eslCells_ok H hk.2
   obtain ⟨bs, h6, h7⟩ := eBytes_ok h5
   simp only [h1, h2, h3]
   exact need_mk hk.1 ⟨bs, by rw [h4, h6], hK _ _ _ H h7⟩
  ·rename_i h1 h2 h3
   rw [Bool.and_eq_true, Bool.and_eq_true] at hk
   obtain ⟨⟨h4, h5⟩, h6⟩ := hk
   rw [fBytes_eq] at h6
   obtain ⟨e', H', h7⟩ := eNew_ok H h6
   rw [fN_eq] at h7
   simp only [h1, h2, h3]
   exact need_mk h4 ⟨by simpa using h5, hK _ _ _ H' h7⟩
  ·simp at hk
 ·rename_i ho; simp only [ho]
  split at hk
  ·rename_i hf hx
   rw [Bool.and_eq_true, fN_eq] at hk
   simp only [hf, hx, vPtr]
   exact need_mk hk.1 (hK _ _ _ H hk.2)
  ·simp at hk
 ·rename_i ho; simp only [ho]
  split at hk
  ·rename_i hf hx
   split at hk
   ·rename_i z hz
    rw [Bool.and_eq_true] at hk
    simp only [hf, hx, hz]
    exact need_mk hk.1 (ePart_ok hk.2 fun v hv => hK _ _ _ H hv)
   ·simp at hk
  ·simp at hk
 ·rename_i ho; simp only [ho]
  split at hk
  ·rename_i hi hu hx
   rw [Bool.and_eq_true, Bool.and_eq_true, Bool.and_eq_true, fN_eq] at hk
   obtain ⟨⟨⟨h1, h2⟩, h3⟩, hk⟩ := hk
   simp only [hi, hu, hx, vIdx]
   exact need_mk h1 ⟨by simpa using h2, by simpa using h3, hK _ _ _ H hk⟩
  ·rename_i hi hu hx
   rw [Bool.and_eq_true, fN_eq] at hk
   simp only [hi, hu, hx, vPtr]
   exact need_mk hk.1 (hK _ _ _ H hk.2)
  ·rename_i hi hu hx
   split at hk
   ·rename_i j hg
    rw [Bool.and_eq_true, fN_eq] at hk
    obtain ⟨h1, hk⟩ := hk
    obtain ⟨b, hb⟩ := eMark_ok H hg
    simp only [hi, hu, hx]
    exact need_mk h1 ⟨b, j, hb, hK _ _ _ H hk⟩
   ·simp at hk
  ·simp at hk
 ·rename_i ho; simp only [ho]
  split at hk
  ·rename_i hi hu hx
   rw [Bool.and_eq_true] at hk
   obtain ⟨b, h1, h2⟩ := at1_ok hk.2
   rw [fN_eq] at h2
   simp only [hi, hu, hx, strIdx]
   refine ⟨by simpa using hk.1, ?_⟩
   simp only [h1]
   exact hK _ _ _ H h2
  ·simp at hk
 ·rename_i ho; simp only [ho]
  split at hk
  ·rename_i zs fs hz hu
   obtain ⟨parts, h1, h2⟩ := epartsA_ok R hk
   rw [Bool.and_eq_true] at h2
   obtain ⟨c, h3, h4⟩ := efillA_ok h2.2
   simp only [hz, hu, h1]
   refine need_mk h2.1 ?_
   simp only [h3]
   exact hK _ _ _ H h4
  ·rename_i zs n e1 hz hu
   obtain ⟨parts, h1, h2⟩ := epartsA_ok R hk
   rw [Bool.and_eq_true] at h2
   obtain ⟨c, h3, h4⟩ := efillA_ok h2.2
   simp only [hz, hu, h1]
   refine need_mk h2.1 ?_
   simp only [h3]
   exact hK _ _ _ H h4
  ·simp at hk
 ·rename_i ho; simp only [ho]
  split at hk
  ·simp at hk
  ·rename_i e1 he
   split at hk
   ·rename_i zs hz
    obtain ⟨parts, h1, h2⟩ := epartsA_ok R hk
    rw [Bool.and_eq_true, fL_eq] at h2
    obtain ⟨c, h3, h4⟩ := efillA_ok h2.2
    rw [Bool.and_eq_true] at h4
    obtain ⟨e', H', h5⟩ := eNew_ok H h4.2
    simp only [he, hz, h1]
    refine need_mk h2.1 ?_
    simp only [h3]
    exact need_mk h4.1 (hK _ _ _ H' h5)
   ·simp at hk
 ·rename_i ho; simp only [ho]
  split at hk
  ·rename_i hu hx hl hh hm
   rw [Bool.and_eq_true] at hk
   simp only [hu, hx, hl, hh, hm]
   exact need_mk hk.1 (eSlice_ok (fun s hs => hK _ _ _ H hs) hk.2)
  ·rename_i hu hx hl hh hm
   simp only [hu, hx, hl, hh, hm]
   exact estrSlice_ok (fun s hs => hK _ _ _ H hs) hk
  ·rename_i hu hx hl hh hm
   rw [Bool.and_eq_true] at hk
   simp only [hu, hx, hl, hh, hm, vPtr]
   exact need_mk hk.1 (eSlice_ok (fun s hs => hK _ _ _ H hs) hk.2)
  ·simp at hk
 ·rename_i ho; simp only [ho]
  split at hk
  ·simp at hk
  ·rename_i e1 he
   split at hk
   ·rename_i zs n m hz hn hm
    rw [Bool.and_eq_true] at hk
    simp only [he, hz, hn, hm]
    exact need_mk hk.1 (eMake_ok H (fun s e' h' H' hs => hK _ _ _ H' hs) hk.2)
   ·simp at hk
 ·rename_i ho; simp only [ho]
  split at hk
  ·rename_i n _ s hu hx
   rw [Bool.and_eq_true] at hk
   simp only [hu, hx]
   exact need_mk hk.1 (hK _ _ _ H hk.2)
  ·simp at hk
 ·rename_i ho; simp only [ho]
  split at hk
  ·obtain ⟨e', H', h1⟩ := eNewB_ok H hk
   exact hK _ _ _ H' h1
  ·simp at hk
 ·rename_i ho; simp only [ho]
  split at hk
  ·rename_i hu hx hix hz
   simp only [hu, hx, hix, hz]
   refine eLookup_ok H (fun v hv => ?_) hk
   rw [Bool.and_eq_true] at hv
   exact exV_mk hv.1 ⟨rfl, hK _ _ _ H hv.2⟩
  ·simp at hk
 ·rename_i ho; simp only [ho]
  split at hk
  ·rename_i hu hm hkk hx
   simp only [hu, hm, hkk, hx, vMap]
   exact eUpdate_ok H (fun e' h' H' hs => hK _ _ _ H' hs) hk
  ·simp at hk
 ·rename_i ho; simp only [ho]
  split at hk
  ·rename_i hu hm hkk hx
   simp only [hu, hm, hkk, hx, vMap]
   exact eUpdate_ok H (fun e' h' H' hs => hK _ _ _ H' hs) hk
  ·simp at hk
 ·rename_i ho; simp only [ho]
  split at hk
  ·rename_i hu hx
   obtain ⟨e', H', h1⟩ := eNewB_ok H hk
   simp only [hu, hx, vRange]
   exact hK _ _ _ H' h1
  ·rename_i b hu hx
   simp only [H.1 b] at hk
   simp only [hu, hx, vRange]
   split at hk
   ·rename_i es cl hb
    obtain ⟨e', H', h1⟩ := eNewB_ok H hk
    simp only [hb]
    exact hK _ _ _ H' h1
   ·simp at hk
  ·simp at hk
 ·rename_i ho; simp only [ho]
  split at hk
  ·rename_i p hx
   rw [Bool.and_eq_true] at hk
   simp only [hx]
   have := eNext_ok H (K := fun v h' => K (.val v) [] h') (fun v e' h' H' hs => hK _ _ _ H' hs) hk.2
   exact need_mk hk.1 this
  ·simp at hk
 ·rename_i ho; simp only [ho]
  split at hk
  ·rename_i p hx
   rw [Bool.and_eq_true] at hk
   simp only [hx, entryZ_none]
   exact need_mk hk.1 (eEntry_ok H (fun v hv => hK _ _ _ H hv) hk.2)
  ·simp at hk
 ·rename_i ho; simp only [ho]
  split at hk
  ·rename_i vs hx
   obtain ⟨v, h1, h2⟩ := at1_ok hk
   simp only [hx, h1]
   exact hK _ _ _ H h2
  ·simp at hk
 ·rename_i ho; simp only [ho]
  rw [Bool.and_eq_true] at hk
  obtain ⟨a, h1, h2⟩ := fVals_ok R hk.2
  obtain ⟨b, h3, h4⟩ := fVals_ok R h2
  have hy := hk.1
  rw [Bool.not_eq_true'] at hy
  simp only [h1, h3, hy]
  exact hK _ _ _ H h4
 ·rename_i ho; simp only [ho]
  split at hk
  ·simp at hk
  ·rename_i d v hne hu hx
   simp only [hu, hx]
   exact hK _ _ _ H hk
  ·simp at hk
 ·rename_i c ho; simp only [ho]
  obtain ⟨args, h1, hk⟩ := fVals_ok R hk
  simp only [h1]
  split at hk
  ·rename_i f hc
   simp only [hc]
   split at hk
   ·rename_i g z hg hz
    simp only [hg, hz]
    have hKK : ∀ v e' h', HFor e' h' → (shV z v && k (.val v) e') = true → exV z fun u => v = u ∧ K (.val u) [] h' := fun v e' h' H' hv => by
     rw [Bool.and_eq_true] at hv
     exact exV_mk hv.1 ⟨rfl, hK _ _ _ H' hv.2⟩
    unfold eCallF at hk
    unfold vCallF
    split at hk
    ·exact eInvoke_ok C H hKK hk
    ·rename_i hne
     split
     ·exact (hne _ _ _ rfl).elim
     ·unfold eCallV at hk
      split at hk
      ·rw [Bool.and_eq_true, Bool.not_eq_true', ap_eq, ap_eq] at hk
       simp only [vCallV, hk.1]
       rw [List.append_assoc]
       exact C _ _ _ _ _ _ H hKK hk.2
      ·simp only [vCallV]
       exact C _ _ _ _ _ _ H hKK hk
      ·simp at hk
   ·simp at hk
  ·rename_i r name hc
   simp only [hc]
   split at hk
   ·rename_i g z hg hz
    simp only [hg, hz]
    exact eInvoke_ok C H (fun v e' h' H' hv => by
     rw [Bool.and_eq_true] at hv
     exact exV_mk hv.1 ⟨rfl, hK _ _ _ H' hv.2⟩) hk
   ·simp at hk
  ·rename_i b hc
   simp only [hc]
   exact eBuiltin_ok H hK hk
 ·simp at hk
end Go.Ab
