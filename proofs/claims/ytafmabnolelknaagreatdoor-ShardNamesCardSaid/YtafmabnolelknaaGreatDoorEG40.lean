import Derived.Test.YtafmabnolelknaaGreatDoorEG10
import Derived.Test.YtafmabnolelknaaGreatDoorEG30
import Derived.Test.YtafmabnolelknaaGreatDoorEG35
import Derived.Test.YtafmabnolelknaaGreatDoorEG39
namespace Go.Proofs.YtafmabnolelknaaGreatDoor
open Go.Ab
open Go.Num hiding Bs
open Go.Sto
set_option linter.unusedVariables false
set_option linter.unusedSimpArgs false
section
variable {h h' : Heap} {Q : AV → Heap → Prop} {l : List NT} {n : NT} {c : NC} {q : Option SL} {ns : List Int} {out : Int}
theorem y322 (H : HasL intE h q ns) (hl : ns.length ≤ 1000000) (hQ : ∀ q' h', New intE h h' q' ns → Q (.sl q') h') : AC Tryz.prog 322 [.sl q] h Q := ac322 (by
 unfold vc322 PNew
 refine vif_mk (fun g => ?_) (fun g => ?_)
 ·cases q with
  | none =>
   have : ns = [] := H
   subst this
   exact hQ none h New.none
  | some s => simp at g
 ·exact copyNew (E := intE) H (by omega) hQ)
set_option maxRecDepth 20000 in
theorem y253g (R : NodeR h c n) (hl : n.ins.length ≤ 1000 ∧ n.body.length ≤ 1000)
  (hrec : ∀ m ∈ n.body, ∀ {h1 : Heap} {c1 : NC} {Q1 : AV → Heap → Prop}, NodeR h1 c1 m → (∀ q1 q2 h', Ext h1 h' → Q1 (.agg [.int .i64 c1.op, .sl q1, .int .i64 c1.k, .int .i64 c1.a, .int .i64 c1.A, .sl q2]) h') → AC Tryz.prog 253 [.agg c1.cs] h1 Q1)
  (hQ : ∀ q1 q2 h', Ext h h' → Q (.agg [.int .i64 c.op, .sl q1, .int .i64 c.k, .int .i64 c.a, .int .i64 c.A, .sl q2]) h') : AC Tryz.prog 253 [.agg c.cs] h Q := ac253 (by
 unfold vc253
 refine y322 R.ins (by omega) fun q9 h8 N8 => ⟨_, rfl, ?_⟩
 have Rb := R.body
 rw [Rb.len]
 refine ⟨fun xs h7 => ∃ (i : Nat) (q16 : Option SL) (L : List NC), xs = [.int .i64 i, .int .i64 c.op, .sl q9, .int .i64 c.k, .int .i64 c.a, .int .i64 c.A, .sl q16] ∧ i ≤ n.body.length ∧ Ext h h7 ∧ Apd nodeE h7 q16 L ∧ L.length = i ∧ (∀ s, q16 = some s → h.length ≤ s.b), fun xs _ => match xs with | [.int _ i, _, _, _, _, _, _] => (n.body.length - i).toNat | _ => 0, ⟨0, none, [], rfl, by omega, N8.1, .inl ⟨rfl, rfl⟩, rfl, fun s hs => by cases hs⟩, ?_⟩
 rintro n10 n11 q12 n13 n14 n15 q16 h19 ⟨i, q', L, hx, hi, x19, A19, hL, n19⟩
 simp only [List.cons.injEq, AV.sl.injEq, AV.int.injEq, true_and, and_true] at hx
 obtain ⟨rfl, rfl, rfl, rfl, rfl, rfl, rfl⟩ := hx
 refine vif_mk (fun g => ?_) (fun g => hQ _ _ _ x19)
 replace g := of_decide_eq_true g
 refine (Rb.mono x19).idx (i := i) (by omega) rfl fun p c1 m hm hc Rm => ⟨_, _, _, _, _, _, hc, ?_⟩
 refine hrec m (List.mem_of_getElem? hm) Rm fun q1 q2 h28 x28 => ⟨_, _, _, _, _, _, rfl, rfl, pnew_mk ?_⟩
 have x36 : Ext h28 (h28 ++ [Blk.cells [.int .i64 c1.op, .sl q1, .int .i64 c1.k, .int .i64 c1.a, .int .i64 c1.A, .sl q2] true]) := .app _ _
 have Hn : HasL nodeE (h28 ++ [Blk.cells [.int .i64 c1.op, .sl q1, .int .i64 c1.k, .int .i64 c1.a, .int .i64 c1.A, .sl q2] true]) (some ⟨h28.length, 0, 1, 1, 0⟩) [⟨c1.op, q1, c1.k, c1.a, c1.A, q2⟩] := HasL.new (n := 1) rfl rfl
 have A36 := (A19.ext x28).ext x36
 have xx := (x19.trans x28).trans x36
 generalize h28 ++ [Blk.cells [AV.int .i64 c1.op, .sl q1, .int .i64 c1.k, .int .i64 c1.a, .int .i64 c1.A, .sl q2] true] = h36 at *
 refine ⟨rfl, ?_⟩
 refine Apd.append (E := nodeE) A36 Hn (by simp only [List.length_cons, List.length_nil]; omega) fun q37 h38 A38 K38 l38 b38 => ?_
 have l36 := xx.len
 rw [wrapK_i64 ⟨by omega, by omega⟩]
 refine ⟨⟨rfl, trivial, trivial⟩, ⟨i + 1, q37, _, by simp, by omega, fun b B hB => K38 b B (fun ⟨s, hs, hc⟩ => by have := n19 s hs; have := lt_of_get hB; omega) (xx _ _ hB), A38, by simp [hL], fun s hs => ?_⟩, by simp only; omega⟩
 rcases b38 s hs with h1 | ⟨t, ht, h1⟩
 ·omega
 ·rw [← h1]; exact n19 t ht)
theorem y253 (R : NodeR h c n) (hl : n.ins.length ≤ 1000 ∧ n.body.length ≤ 1000 ∧ ∀ m ∈ n.body, m.ins.length ≤ 1000 ∧ m.body = [])
  (hQ : ∀ q1 q2 h', Ext h h' → Q (.agg [.int .i64 c.op, .sl q1, .int .i64 c.k, .int .i64 c.a, .int .i64 c.A, .sl q2]) h') : AC Tryz.prog 253 [.agg c.cs] h Q :=
 y253g R ⟨hl.1, hl.2.1⟩ (fun m hm {h1 c1 Q1} Rm hQ1 => y253g Rm ⟨(hl.2.2 m hm).1, by rw [(hl.2.2 m hm).2]; simp⟩ (fun m2 hm2 => by rw [(hl.2.2 m hm).2] at hm2; cases hm2) hQ1) hQ
def nodeAt (l : List NT) (a b : Int) : Option NT := if 0 ≤ a ∧ a < l.length then (match l[a.toNat]? with | some n => if b = -1 then some n else if 0 ≤ b ∧ b < n.body.length then n.body[b.toNat]? else none | none => none) else none
set_option maxRecDepth 20000 in
theorem y179 {a b : Int} (R : NodesR h q l) (O : OkG l out) (h0 : nodeAt l a b = none → ∀ h', Ext h h' → Q (.tup [.agg [.int .i64 0, .sl none, .int .i64 0, .int .i64 0, .int .i64 0, .sl none], .bool false]) h')
  (h1 : ∀ n k x A q1 q2 h', nodeAt l a b = some n → Ext h h' → Q (.tup [.agg [.int .i64 n.op, .sl q1, .int .i64 k, .int .i64 x, .int .i64 A, .sl q2], .bool true]) h') : AC Tryz.prog 179 [.agg [.sl q, .int .i64 out], .agg [.int .i64 a, .int .i64 b]] h Q := ac179 (by
 unfold vc179
 have g := O.rg
 refine y244 R O.lens fun e h6 x6 he0 he1 => ⟨_, rfl, ?_⟩
 rw [he0 O]
 have R6 := R.mono x6
 refine vif_mk (fun g => by simp at g) (fun _ => ?_)
 have no : ∀ {P : Prop}, ¬ (0 ≤ a ∧ a < l.length) → nodeAt l a b = none := fun hn => by unfold nodeAt; rw [if_neg hn]
 refine vif_mk (fun g1 => h0 (no (P := True) (by have := of_decide_eq_true g1; omega)) _ x6) (fun g1 => ?_)
 rw [R.len]
 refine vif_mk (fun g2 => h0 (no (P := True) (by have := of_decide_eq_true g2; omega)) _ x6) (fun g2 => ?_)
 replace g1 := of_decide_eq_false g1
 replace g2 := of_decide_eq_false g2
 have hia : a.toNat < l.length := by omega
 obtain ⟨n, hn⟩ : ∃ n, l[a.toNat]? = some n := ⟨_, List.getElem?_eq_getElem hia⟩
 have hat : nodeAt l a b = if b = -1 then some n else if 0 ≤ b ∧ b < n.body.length then n.body[b.toNat]? else none := by
  unfold nodeAt
  rw [if_pos ⟨by omega, by omega⟩, hn]
 obtain ⟨gn, gb, gi⟩ := g.2 n (List.mem_of_getElem? hn)
 refine vif_mk (fun g3 => h0 (by rw [hat, if_neg (by have := of_decide_eq_true g3; omega), if_neg (by have := of_decide_eq_true g3; omega)]) _ x6) (fun g3 => ?_)
 replace g3 := of_decide_eq_false g3
 refine R6.idx (i := a.toNat) hia (by omega) fun p c m hm hc Rm => ⟨_, _, _, _, _, _, hc, ?_⟩
 rw [hn] at hm
 cases hm
 have gl := gn.len
 refine vif_mk (fun g4 => ?_) (fun g4 => ?_)
 ·have g4 : b = -1 := by simpa using g4
  rw [if_pos g4] at hat
  refine y253 Rm ⟨by omega, by omega, fun m hm => ⟨by have := (gi m hm).1.len; omega, (gi m hm).2⟩⟩ fun q1 q2 h16 x16 => ⟨_, _, _, _, _, _, rfl, ?_⟩
  rw [Rm.same.1]
  exact h1 n _ _ _ _ _ _ hat (x6.trans x16)
 ·have g4 : b ≠ -1 := by simpa using g4
  rw [if_neg g4] at hat
  rw [Rm.body.len]
  refine vif_mk (fun g5 => h0 (by rw [hat, if_neg (by have := of_decide_eq_true g5; omega)]) _ x6) (fun g5 => ?_)
  replace g5 := of_decide_eq_false g5
  rw [if_pos ⟨by omega, by omega⟩] at hat
  refine Rm.body.idx (i := b.toNat) (by omega) (by omega) fun p2 c2 m2 hm2 hc2 Rm2 => ⟨_, _, _, _, _, _, hc2, ?_⟩
  have gm := gi m2 (List.mem_of_getElem? hm2)
  refine y253 Rm2 ⟨by have := gm.1.len; omega, by rw [gm.2]; simp, fun m hm => by rw [gm.2] at hm; cases hm⟩ fun q1 q2 h16 x16 => ⟨_, _, _, _, _, _, rfl, ?_⟩
  rw [Rm2.same.1]
  exact h1 m2 _ _ _ _ _ _ (hat.trans hm2) (x6.trans x16))
def portsV (l : List NT) (a b : Int) : Int := match nodeAt l a b with | none => 0 | some n => if arityV n.op = 0 then 1 else (arityV n.op : Nat)
theorem arity_le (op : Int) : arityV op ≤ 2 := by
 unfold arityV
 split
 ·omega
 ·split <;> omega
def ShR (h : Heap) (a : Nat) (l : List NT) (out num : Int) : Prop := ∃ (v0 v1 v5 : AV) (q : Option SL) (m : Nat), h[a]? = some (.cells [v0, v1, .sl q, .int .i64 out, .int .i64 num, v5, .map (some m)] true) ∧ NodesR h q l
theorem ShR.mono {a : Nat} {num : Int} (S : ShR h a l out num) (x : Ext h h') : ShR h' a l out num := by
 obtain ⟨v0, v1, v5, q, m, b, R⟩ := S
 exact ⟨v0, v1, v5, q, m, x _ _ b, R.mono x⟩
theorem y108 {a : Nat} {num : Int} (S : ShR h a l out num) (hQ : Q (.bool true) h) : AC Tryz.prog 108 [.ptr (some ⟨a, 0⟩)] h Q := ac108 (by
 obtain ⟨v0, v1, v5, q, m, b, R⟩ := S
 unfold vc108
 exact vif_mk (fun _ => ⟨some m, kb_at b (k := 6) rfl, hQ⟩) (fun g => by simp at g))
theorem y180 {op : Int} (hQ : Q (.int .i64 (arityV op : Nat)) h) : AC Tryz.prog 180 [.int .i64 op] h Q := ac180 (by
 unfold vc180
 exact y254 fun f b hb hf => ⟨_, _, _, rfl, hQ⟩)
theorem y112 {a : Nat} {num x y : Int} (S : ShR h a l out num) (O : OkG l out) (hQ : ∀ h', Ext h h' → Q (.int .i64 (portsV l x y)) h') : AC Tryz.prog 112 [.ptr (some ⟨a, 0⟩), .agg [.int .i64 x, .int .i64 y]] h Q := ac112 (by
 obtain ⟨v0, v1, v5, q, m, b, R⟩ := S
 have hc : cellsAt h ⟨a, 0 + 2⟩ 2 = some [.sl q, .int .i64 out] := by rw [cellsAt_mk (p := ⟨a, 0 + 2⟩) b (by simp)]; rfl
 have fin : ∀ {n : NT} {h' : Heap}, nodeAt l x y = some n → Ext h h' → Q (.int .i64 (maxI2 1 (arityV n.op : Nat))) h' := fun {n h'} hn x' => by
  have e : portsV l x y = maxI2 1 (arityV n.op : Nat) := by
   unfold portsV
   rw [hn]
   have := arity_le n.op
   unfold maxI2
   simp only
   split
   ·rw [if_neg (by omega)]
   ·split <;> omega
  rw [← e]; exact hQ h' x'
 have nil : nodeAt l x y = none → portsV l x y = 0 := fun hn => by unfold portsV; rw [hn]
 unfold vc112
 refine vptr_mk ⟨_, _, hc, ?_, rfl, ⟨_, _, hc, rfl⟩, ?_⟩
 ·refine y179 R O (fun hn h' x' => ⟨_, _, _, _, _, _, _, rfl, rfl, ⟨_, _, x'.cells hc, rfl⟩, vif_mk (fun _ => by rw [nil hn] at hQ; exact hQ h' x') (fun g => by simp at g)⟩) fun n k a A q1 q2 h' hn x' => ⟨_, _, _, _, _, _, _, rfl, rfl, ⟨_, _, x'.cells hc, rfl⟩, vif_mk (fun g => by simp at g) (fun _ => y180 ⟨_, rfl, fin hn x'⟩)⟩
 ·refine y179 R O (fun hn h' x' => ⟨_, _, _, _, _, _, _, rfl, vif_mk (fun _ => by rw [nil hn] at hQ; exact hQ h' x') (fun g => by simp at g)⟩) fun n k a A q1 q2 h' hn x' => ⟨_, _, _, _, _, _, _, rfl, vif_mk (fun g => by simp at g) (fun _ => y180 ⟨_, rfl, fin hn x'⟩)⟩)
end
def nameV (num a b p : Int) : List UInt8 := (((((([83] ++ decB 20 num.toNat) ++ [78]) ++ decB 20 a.toNat) ++ [66]) ++ decB 20 (b + 1).toNat) ++ [80]) ++ decB 20 p.toNat
theorem decB_two : ∀ k : Fin 100, (decB 20 k.val).length ≤ 2 := by decide
theorem dec2 {x : Int} (h : 0 ≤ x ∧ x < 100) : (decB 20 x.toNat).length ≤ 2 := decB_two ⟨x.toNat, by omega⟩
theorem nodeAt_some {l : List NT} {a b : Int} (g : Rg2 l) {n : NT} (h : nodeAt l a b = some n) : 0 ≤ a ∧ a < 32 ∧ -1 ≤ b ∧ b < 32 := by
 have gl := g.1
 unfold nodeAt at h
 split at h
 ·rename_i ha
  split at h
  ·rename_i m hm
   have gb := (g.2 m (List.mem_of_getElem? hm)).2.1
   split at h
   ·omega
   ·split at h
    ·omega
    ·cases h
  ·cases h
 ·cases h
theorem ports_pos {l : List NT} {a b p : Int} (g : Rg2 l) (h : 0 ≤ p ∧ p < portsV l a b) : (0 ≤ a ∧ a < 32 ∧ -1 ≤ b ∧ b < 32) ∧ p < 2 ∧ ∃ n, nodeAt l a b = some n := by
 unfold portsV at h
 split at h
 ·omega
 ·rename_i n hn
  have := arity_le n.op
  refine ⟨nodeAt_some g hn, ?_, n, hn⟩
  split at h <;> omega
section
variable {h h' : Heap} {Q : AV → Heap → Prop} {l : List NT} {n : NT} {c : NC} {q : Option SL} {out : Int}
theorem itoa {x : Int} (h0 : 0 ≤ x ∧ x < 100) (hQ : Q (.str (decB 20 x.toNat)) h) : AC Tryz.prog 119 [.int .i64 x] h Q := by
 have e : x = ((x.toNat : Nat) : Int) := by omega
 have := gk119 (k := x.toNat) (h := h) (Q := Q) (by omega) hQ
 rw [← e] at this; exact this
set_option maxRecDepth 20000 in
theorem y56 {a : Nat} {num x y p : Int} (S : ShR h a l out num) (O : OkG l out) (hn : 0 ≤ num ∧ num < 8) (h0 : ¬ (0 ≤ p ∧ p < portsV l x y) → ∀ h', Ext h h' → Q (.tup [.str [], .bool false]) h')
  (h1 : (0 ≤ p ∧ p < portsV l x y) → ∀ h', Ext h h' → Q (.tup [.str (nameV num x y p), .bool true]) h') : AC Tryz.prog 56 [.ptr (some ⟨a, 0⟩), .agg [.int .i64 x, .int .i64 y, .int .i64 p]] h Q := ac56 (by
 unfold vc56
 refine y108 S ⟨_, rfl, vif_mk (fun g => by simp at g) (fun _ => ?_)⟩
 refine vif_mk (fun g => ⟨rfl, h0 (by have := of_decide_eq_true g; omega) _ (.refl _)⟩) (fun g => ?_)
 replace g := of_decide_eq_false g
 refine y112 S O fun h9 x9 => ⟨_, rfl, rfl, vif_mk (fun g2 => h0 (by have := of_decide_eq_true g2; omega) _ x9) (fun g2 => ?_)⟩
 replace g2 := of_decide_eq_false g2
 have hp : 0 ≤ p ∧ p < portsV l x y := by omega
 obtain ⟨r1, r2, _⟩ := ports_pos O.rg hp
 obtain ⟨v0, v1, v5, q, m, b, R⟩ := S
 refine vptr_mk ⟨_, kb_at (x9 _ _ b) (k := 4) rfl, itoa (by omega) ⟨_, rfl, rfl, rfl, rfl, ?_⟩⟩
 have d1 := dec2 (x := num) (by omega)
 have d2 := dec2 (x := x) (by omega)
 have d3 := dec2 (x := y + 1) (by omega)
 have d4 := dec2 (x := p) (by omega)
 refine need_mk (decide_eq_true (by simp only [List.length_cons, List.length_nil]; omega)) (need_mk (decide_eq_true (by simp only [List.length_append, List.length_cons, List.length_nil]; omega)) ?_)
 refine itoa (by omega) ⟨_, rfl, rfl, rfl, need_mk (decide_eq_true (by simp only [List.length_append, List.length_cons, List.length_nil]; omega)) (need_mk (decide_eq_true (by simp only [List.length_append, List.length_cons, List.length_nil]; omega)) ?_)⟩
 rw [wrapK_i64 ⟨by omega, by omega⟩]
 refine itoa (by omega) ⟨_, rfl, rfl, need_mk (decide_eq_true (by simp only [List.length_append, List.length_cons, List.length_nil]; omega)) (need_mk (decide_eq_true (by simp only [List.length_append, List.length_cons, List.length_nil]; omega)) ?_)⟩
 refine itoa (by omega) ⟨_, rfl, need_mk (decide_eq_true (by simp only [List.length_append, List.length_cons, List.length_nil]; omega)) ?_⟩
 exact h1 hp _ x9)
theorem y106 {p1 p2 : PA} {num lim : Int} (R : NodesR h q l) (L : Lens l) (hnone : ∀ e h', e ≠ 0 → Ext h h' → Q (.tup [.ptr none, .int .i64 e]) h')
  (hok : OkG l out → 0 ≤ num → num < 8 → ∀ a h', Ext h h' → ShR h' a l out num → Q (.tup [.ptr (some ⟨a, 0⟩), .int .i64 0]) h') : AC Tryz.prog 106 [.ptr (some p1), .ptr (some p2), .agg [.sl q, .int .i64 out], .int .i64 num, .int .i64 lim] h Q := ac106 (by
 unfold vc106
 refine vif_mk (fun g => by simp at g) (fun _ => vif_mk (fun g => by simp at g) (fun _ => ?_))
 refine y172 R L (fun _ h8 x8 => ⟨_, _, rfl, vif_mk (fun _ => hnone _ _ (by decide) x8) (fun g => by simp at g)⟩) fun O q9 h8 x8 H9 => ⟨_, _, rfl, vif_mk (fun g => by simp at g) (fun _ => ?_)⟩
 refine vif_mk (fun _ => hnone _ _ (by decide) x8) (fun g1 => vif_mk (fun _ => hnone _ _ (by decide) x8) (fun g2 => vif_mk (fun _ => hnone _ _ (by decide) x8) (fun _ => vif_mk (fun _ => hnone _ _ (by decide) x8) (fun _ => ?_))))
 replace g1 := of_decide_eq_false g1
 replace g2 := of_decide_eq_false g2
 refine y173 H9 O fun q13 h12 x12 R13 => ⟨_, _, _, rfl, pnew_mk ?_⟩
 have x17 : Ext h12 ((h12 ++ [Blk.mp [] 0]) ++ [.cells [.ptr (some p1), .ptr (some p2), .sl q13, .int .i64 out, .int .i64 num, .int .i64 lim, .map (some h12.length)] true]) := (Ext.app _ _).trans (.app _ _)
 exact hok O (by omega) (by omega) (h12 ++ [Blk.mp [] 0]).length _ ((x8.trans x12).trans x17) ⟨.ptr (some p1), .ptr (some p2), .int .i64 lim, q13, h12.length, by simp, R13.mono x17⟩)
set_option maxRecDepth 20000 in
theorem y41 {num : Int} (R : NodesR h q l) (L : Lens l) (hnone : ∀ p2 p3 h', Ext h h' → Q (.tup [.ptr none, .ptr p2, .ptr p3]) h')
  (hok : OkG l out → 0 ≤ num → num < 8 → ∀ a p2 p3 h', Ext h h' → ShR h' a l out num → Q (.tup [.ptr (some ⟨a, 0⟩), .ptr p2, .ptr p3]) h') : AC Tryz.prog 41 [.agg [.sl q, .int .i64 out], .int .i64 num, .int .i64 1] h Q := ac41 (by
 unfold vc41
 refine ac63 ?_
 unfold vc63
 refine vif_mk (fun g => by simp at g) (fun _ => vif_mk (fun g => by simp at g) (fun _ => pnew_mk ?_))
 refine ⟨_, _, rfl, ?_⟩
 have x6 : Ext h ((h ++ [Blk.mp [] 0]) ++ [.cells [.map (some h.length), .sl none, .int .i64 16384, .int .i64 (-1), .bool false] true]) := (Ext.app _ _).trans (.app _ _)
 generalize (h ++ [Blk.mp [] 0]) ++ [Blk.cells [.map (some h.length), .sl none, .int .i64 16384, .int .i64 (-1), .bool false] true] = h6 at *
 refine k64 (z := fun _ => False) (n := 64) (by omega) fun h10 C10 x10 => ⟨_, _, rfl, ?_⟩
 refine vif_mk (fun g => by simp at g) (fun _ => vif_mk (fun g => by simp at g) (fun _ => ?_))
 have xx := x6.trans x10
 refine y106 (R.mono xx) L (fun e h14 he x14 => ⟨_, _, rfl, vif_mk (fun _ => hnone _ _ _ (xx.trans x14)) (fun g => by simp at g; exact absurd g he)⟩) fun O n0 n8 a h14 x14 S => ⟨_, _, rfl, vif_mk (fun g => by simp at g) (fun _ => hok O n0 n8 a _ _ _ (xx.trans x14) S)⟩)
end
def pairE : Enc (Int × Int) := ⟨2, fun r => [.int .i64 r.1, .int .i64 r.2], fun _ => rfl, by omega, fun _ => rfl⟩
def placeF (l : List NT) (i : Nat) : List (Int × Int) := match l[i]? with | some n => ((i : Int), -1) :: (List.range n.body.length).map fun (k : Nat) => ((i : Int), (k : Int)) | none => []
def placesN (l : List NT) (i : Nat) : List (Int × Int) := (List.range i).flatMap (placeF l)
theorem placesN_succ (l : List NT) (i : Nat) : placesN l (i + 1) = placesN l i ++ placeF l i := by
 unfold placesN; rw [List.range_succ, List.flatMap_append, List.flatMap_singleton]
theorem placesN_len {l : List NT} (g : Rg2 l) : ∀ i, (placesN l i).length ≤ 33 * i
 | 0 => Nat.le_refl _
 | i + 1 => by
  have := placesN_len g i
  rw [placesN_succ, List.length_append]
  have h2 : (placeF l i).length ≤ 33 := by
   unfold placeF
   split
   ·rename_i n hn
    have := (g.2 n (List.mem_of_getElem? hn)).2.1
    simp only [List.length_cons, List.length_map, List.length_range]; omega
   ·simp
  omega
theorem mem_places {l : List NT} {a b : Int} : (a, b) ∈ placesN l l.length ↔ ∃ n, nodeAt l a b = some n := by
 unfold placesN
 rw [List.mem_flatMap]
 constructor
 ·rintro ⟨i, hi, hm⟩
  rw [List.mem_range] at hi
  unfold placeF at hm
  rw [List.getElem?_eq_getElem hi] at hm
  simp only [List.mem_cons, Prod.mk.injEq, List.mem_map, List.mem_range] at hm
  rcases hm with ⟨rfl, rfl⟩ | ⟨k, hk, rfl, rfl⟩
  ·refine ⟨l[i], ?_⟩
   unfold nodeAt
   rw [if_pos ⟨by omega, by omega⟩, Int.toNat_natCast, List.getElem?_eq_getElem hi]
   rfl
  ·refine ⟨l[i].body[k], ?_⟩
   unfold nodeAt
   rw [if_pos ⟨by omega, by omega⟩, Int.toNat_natCast, List.getElem?_eq_getElem hi]
   simp only
   rw [if_neg (by omega), if_pos ⟨by omega, by omega⟩, Int.toNat_natCast, List.getElem?_eq_getElem hk]
 ·rintro ⟨n, hn⟩
  unfold nodeAt at hn
  split at hn
  ·rename_i ha
   refine ⟨a.toNat, List.mem_range.2 (by omega), ?_⟩
   unfold placeF
   split at hn
   ·rename_i m hm
    try rw [hm]
    simp only [List.mem_cons, Prod.mk.injEq, List.mem_map, List.mem_range]
    split at hn
    ·rename_i hb; exact .inl ⟨by omega, hb⟩
    ·split at hn
     ·rename_i hb; exact .inr ⟨b.toNat, by omega, by omega, by omega⟩
     ·cases hn
   ·cases hn
  ·cases hn
section
variable {h h' : Heap} {Q : AV → Heap → Prop} {l : List NT} {n : NT} {c : NC} {q : Option SL} {out : Int}
set_option maxRecDepth 20000 in
theorem y255 (R : NodesR h q l) (g : Rg2 l) (hQ : ∀ q' h', New pairE h h' q' (placesN l l.length) → Q (.sl q') h') : AC Tryz.prog 255 [.agg [.sl q, .int .i64 out]] h Q := ac255 (by
 unfold vc255
 have gl := g.1
 rw [R.len]
 refine ⟨fun xs h7 => ∃ (i : Nat) (q3 : Option SL), xs = [.sl q3, .int .i64 i] ∧ i ≤ l.length ∧ New pairE h h7 q3 (placesN l i), fun xs _ => match xs with | [_, .int _ i] => (l.length - i).toNat | _ => 0, ⟨0, none, rfl, by omega, New.none⟩, ?_⟩
 rintro q3 n4 h7 ⟨i, _, hx, hi, N⟩
 simp only [List.cons.injEq, AV.sl.injEq, AV.int.injEq, true_and, and_true] at hx
 obtain ⟨rfl, rfl⟩ := hx
 refine vif_mk (fun g1 => ?_) (fun g1 => ?_)
 ·replace g1 := of_decide_eq_true g1
  have hil : i < l.length := by omega
  obtain ⟨n, hn⟩ : ∃ n, l[i]? = some n := ⟨_, List.getElem?_eq_getElem hil⟩
  have gb := (g.2 n (List.mem_of_getElem? hn)).2.1
  have pl1 := placesN_len g i
  unfold PNew
  have x9 : Ext h7 (h7 ++ [Blk.cells [.int .i64 ((i : Nat) : Int), .int .i64 (-1)] true]) := .app _ _
  refine New.append (E := pairE) (N.ext x9) (HasL.new (E := pairE) (l := [(((i : Nat) : Int), -1)]) (n := 1) rfl (by simp [Enc.all, pairE])) (by simp only [List.length_cons, List.length_nil]; omega) fun q10 h11 N11 => ?_
  refine ⟨fun xs h16 => ∃ (k : Nat) (q12 : Option SL), xs = [.sl q12, .int .i64 k] ∧ k ≤ n.body.length ∧ New pairE h h16 q12 (placesN l i ++ ((i : Int), -1) :: (List.range k).map fun (k : Nat) => ((i : Int), (k : Int))), fun xs _ => match xs with | [_, .int _ k] => (n.body.length - k).toNat | _ => 0, ⟨0, q10, rfl, by omega, N11⟩, ?_⟩
  rintro q12 n13 h16 ⟨k, _, hx, hk, N16⟩
  simp only [List.cons.injEq, AV.sl.injEq, AV.int.injEq, true_and, and_true] at hx
  obtain ⟨rfl, rfl⟩ := hx
  refine (R.mono N16.1).idx (i := i) hil rfl fun p c m hm hc Rm => ⟨c.qb, cellsAt_sub (k := 5) (m := 1) hc (by omega), ?_⟩
  rw [hn] at hm
  cases hm
  rw [Rm.body.len]
  refine vif_mk (fun g2 => ?_) (fun g2 => ?_)
  ·replace g2 := of_decide_eq_true g2
   have x20 : Ext h16 (h16 ++ [Blk.cells [.int .i64 ((i : Nat) : Int), .int .i64 ((k : Nat) : Int)] true]) := .app _ _
   refine New.append (E := pairE) (N16.ext x20) (HasL.new (E := pairE) (l := [(((i : Nat) : Int), ((k : Nat) : Int))]) (n := 1) rfl (by simp [Enc.all, pairE])) (by simp only [List.length_append, List.length_cons, List.length_map, List.length_range, List.length_nil]; omega) fun q21 h22 N22 => ?_
   rw [wrapK_i64 ⟨by omega, by omega⟩]
   refine ⟨⟨rfl, trivial⟩, ⟨k + 1, q21, rfl, by omega, ?_⟩, by simp only; omega⟩
   rw [List.range_succ, List.map_append]
   simp only [List.append_assoc, List.cons_append, List.map_cons, List.map_nil] at N22 ⊢
   exact N22
  ·replace g2 := of_decide_eq_false g2
   have hke : k = n.body.length := by omega
   subst hke
   rw [wrapK_i64 ⟨by omega, by omega⟩]
   refine ⟨⟨rfl, trivial⟩, ⟨i + 1, q12, rfl, by omega, ?_⟩, by simp only; omega⟩
   rw [placesN_succ]
   have : placeF l i = ((i : Int), -1) :: (List.range n.body.length).map fun (k : Nat) => ((i : Int), (k : Int)) := by unfold placeF; rw [hn]
   rw [this]; exact N16
 ·replace g1 := of_decide_eq_false g1
  have hie : i = l.length := by omega
  subst hie
  exact hQ _ _ N)
set_option maxRecDepth 20000 in
theorem y182 {a b : Int} (R : NodesR h q l) (g : Rg2 l) (h0 : nodeAt l a b = none → ∀ h', Ext h h' → Q (.tup [.agg [.int .i64 0, .sl none, .int .i64 0, .int .i64 0, .int .i64 0, .sl none], .bool false]) h')
  (h1 : ∀ n k x A q1 q2 h', nodeAt l a b = some n → Ext h h' → Q (.tup [.agg [.int .i64 n.op, .sl q1, .int .i64 k, .int .i64 x, .int .i64 A, .sl q2], .bool true]) h') : AC Tryz.prog 182 [.agg [.sl q, .int .i64 out], .agg [.int .i64 a, .int .i64 b]] h Q := ac182 (by
 unfold vc182
 refine y255 R g fun q7 h6 N => ⟨_, rfl, ?_⟩
 have H := N.hasL
 have pl1 := placesN_len g l.length
 have gl := g.1
 rw [H.len]
 refine ⟨fun xs h7 => h7 = h6 ∧ ∃ i : Nat, xs = [.int .i64 i] ∧ i ≤ (placesN l l.length).length ∧ (a, b) ∉ (placesN l l.length).take i, left (placesN l l.length).length, ⟨rfl, 0, rfl, by omega, by simp⟩, ?_⟩
 rintro n8 h7 ⟨rfl, i, hx, hi, hno⟩
 simp only [List.cons.injEq, AV.int.injEq, true_and, and_true] at hx
 subst hx
 have R6 := R.mono N.1
 refine vif_mk (fun g1 => ?_) (fun g1 => ?_)
 ·replace g1 := of_decide_eq_true g1
  refine HasL.idx (E := pairE) H (by omega) (by omega) fun pp x hx hcc => ⟨_, _, hcc, ?_⟩
  rw [Int.toNat_natCast] at hx
  refine vif_mk (fun g2 => ?_) (fun g2 => ?_)
  ·have e : x = (a, b) := by
    simp only [Bool.and_true, Bool.and_eq_true, beq_iff_eq] at g2
    exact Prod.ext g2.1 g2.2
   subst e
   obtain ⟨m, hm⟩ := mem_places.1 (List.mem_of_getElem? hx)
   have hr := nodeAt_some g hm
   have hm' := hm
   unfold nodeAt at hm'
   split at hm'
   ·rename_i ha
    obtain ⟨n, hn⟩ : ∃ n, l[a.toNat]? = some n := ⟨_, List.getElem?_eq_getElem (by omega)⟩
    rw [hn] at hm'
    simp only at hm'
    refine vif_mk (fun g3 => ?_) (fun g3 => ?_)
    ·replace g3 := of_decide_eq_true g3
     rw [if_pos (by omega)] at hm'
     cases hm'
     refine R6.idx (i := a.toNat) (by omega) (by omega) fun p c n2 hn2 hc Rn => ⟨_, _, _, _, _, _, hc, ?_⟩
     rw [hn] at hn2
     cases hn2
     rw [Rn.same.1]
     exact h1 m _ _ _ _ _ _ hm N.1
    ·replace g3 := of_decide_eq_false g3
     rw [if_neg (by omega)] at hm'
     split at hm'
     ·refine R6.idx (i := a.toNat) (by omega) (by omega) fun p c n2 hn2 hc Rn => ⟨c.qb, cellsAt_sub (k := 5) (m := 1) hc (by omega), ?_⟩
      rw [hn] at hn2
      cases hn2
      refine Rn.body.idx (i := b.toNat) (by omega) (by omega) fun p2 c2 m2 hm2 hc2 Rm2 => ⟨_, _, _, _, _, _, hc2, ?_⟩
      rw [hm'] at hm2
      cases hm2
      rw [Rm2.same.1]
      exact h1 m _ _ _ _ _ _ hm N.1
     ·cases hm'
   ·cases hm'
  ·rw [wrapK_i64 ⟨by omega, by omega⟩]
   refine ⟨⟨rfl, rfl, rfl, trivial⟩, ⟨rfl, i + 1, by simp, by omega, ?_⟩, by simp only [left]; omega⟩
   rw [List.take_add_one, hx]
   intro hm
   rcases List.mem_append.1 hm with hm | hm
   ·exact hno hm
   ·simp only [Option.toList_some, List.mem_singleton] at hm
    rw [← hm] at g2; simp at g2
 ·replace g1 := of_decide_eq_false g1
  rw [List.take_of_length_le (by omega)] at hno
  refine h0 ?_ _ N.1
  cases hc : nodeAt l a b with
  | none => rfl
  | some m => exact absurd (mem_places.2 ⟨m, hc⟩) hno)
theorem y174 {op : Int} (hQ : Q (.int .i64 (arityV op : Nat)) h) : AC Tryz.prog 174 [.int .i64 op] h Q := ac174 (by
 unfold vc174
 have hq : ∀ (m : Int), m = (arityV op : Nat) → Q (.int .i64 m) h := by rintro m rfl; exact hQ
 unfold arityV at hq
 repeat' (first | refine vif_mk (fun g => ?_) (fun g => ?_))
 all_goals (simp only [beq_iff_eq, beq_eq_false_iff_ne] at *)
 all_goals (try subst op)
 all_goals (refine hq _ ?_)
 all_goals (try decide)
 rw [if_neg (by omega), if_neg (by omega)]; rfl)
theorem y114 {a b : Int} (R : NodesR h q l) (g : Rg2 l) (hQ : ∀ h', Ext h h' → Q (.int .i64 (portsV l a b)) h') : AC Tryz.prog 114 [.agg [.sl q, .int .i64 out], .agg [.int .i64 a, .int .i64 b]] h Q := ac114 (by
 unfold vc114
 refine y182 R g (fun hn h' x' => ⟨_, _, _, _, _, _, _, rfl, vif_mk (fun _ => ?_) (fun g => by simp at g)⟩) fun n k x A q1 q2 h' hn x' => ⟨_, _, _, _, _, _, _, rfl, vif_mk (fun g => by simp at g) (fun _ => y174 ⟨_, rfl, ?_⟩)⟩
 ·have e : portsV l a b = 0 := by unfold portsV; rw [hn]
  rw [e] at hQ; exact hQ h' x'
 ·have e : portsV l a b = if arityV n.op = 0 then (1 : Int) else ((arityV n.op : Nat) : Int) := by unfold portsV; rw [hn]
  rw [e] at hQ
  refine vif_mk (fun g => ?_) (fun g => ?_)
  ·have g : arityV n.op = 0 := by have : ((arityV n.op : Nat) : Int) = 0 := (by simpa using g); omega
   rw [if_pos g] at hQ; exact hQ h' x'
  ·have g : arityV n.op ≠ 0 := fun hc => by rw [hc] at g; simp at g
   rw [if_neg g] at hQ; exact hQ h' x')
end
def digs : List UInt8 := [48, 49, 50, 51, 52, 53, 54, 55, 56, 57]
theorem digs_at : ∀ k : Fin 10, (digs.take (k.val + 1)).drop k.val = [UInt8.ofNat (48 + k.val)] := by decide
theorem decB_lo : ∀ k : Fin 10, decB 20 k.val = [UInt8.ofNat (48 + k.val)] := by decide
theorem decB_hi : ∀ k : Fin 100, k.val < 10 ∨ decB 20 k.val = [UInt8.ofNat (48 + k.val / 10), UInt8.ofNat (48 + k.val % 10)] := by decide
section
variable {h h' : Heap} {Q : AV → Heap → Prop} {l : List NT} {n : NT} {c : NC} {q : Option SL} {out : Int}
theorem dig {k : Nat} {K : List UInt8 → Prop} (hK : K [UInt8.ofNat (48 + k % 10)]) : strSlice digs (Int.tmod ((k : Nat) : Int) 10) (some (wrapK .i64 (Int.tmod ((k : Nat) : Int) 10 + 1))) K := by
 have e : Int.tmod ((k : Nat) : Int) 10 = ((k % 10 : Nat) : Int) := by rw [Int.tmod_eq_emod_of_nonneg (by omega)]; omega
 rw [e, wrapK_i64 ⟨by omega, by omega⟩]
 have hl : digs.length = 10 := rfl
 refine ⟨by omega, by simp only [Option.getD_some]; omega, by simp only [Option.getD_some, hl]; omega, ?_⟩
 rw [Option.getD_some, show (((k % 10 : Nat) : Int) + 1).toNat = k % 10 + 1 by omega, Int.toNat_natCast]
 have := digs_at ⟨k % 10, by omega⟩
 simp only at this
 rw [this]; exact hK
set_option maxRecDepth 20000 in
theorem y120n {k : Nat} (hk : k < 100) (hQ : Q (.str (decB 20 k)) h) : AC Tryz.prog 120 [.int .i64 (k : Nat)] h Q := ac120 (by
 unfold vc120
 refine ⟨fun xs h7 => h7 = h ∧ ∃ (m : Nat) (s : List UInt8), xs = [.int .i64 m, .str s] ∧ ((m = k ∧ s = []) ∨ (m = k / 10 ∧ s = [UInt8.ofNat (48 + k % 10)]) ∨ (m = 0 ∧ 10 ≤ k ∧ s = [UInt8.ofNat (48 + k / 10), UInt8.ofNat (48 + k % 10)])), fun xs _ => match xs with | [.int _ m, .str s] => 2 * m.toNat + (if s = [] then 1 else 0) | _ => 0, ⟨rfl, k, [], rfl, .inl ⟨rfl, rfl⟩⟩, ?_⟩
 rintro n2 s3 h6 ⟨rfl, m, s, hx, hs⟩
 simp only [List.cons.injEq, AV.int.injEq, AV.str.injEq, true_and, and_true] at hx
 obtain ⟨rfl, rfl⟩ := hx
 have hm : m < 100 := by omega
 have hd : wrapK .i64 (Int.tdiv ((m : Nat) : Int) 10) = ((m / 10 : Nat) : Int) := by
  rw [Int.tdiv_eq_ediv_of_nonneg (by omega), wrapK_i64 ⟨by omega, by omega⟩]; omega
 have hlen : s3.length ≤ 2 := by
  rcases hs with ⟨_, rfl⟩ | ⟨_, rfl⟩ | ⟨_, _, rfl⟩ <;> simp
 have step : (m > 0 ∨ s3 = []) → strSlice digs (Int.tmod ((m : Nat) : Int) 10) (some (wrapK .i64 (Int.tmod ((m : Nat) : Int) 10 + 1))) fun s7 => need (decide (s7.length + s3.length ≤ 9223372036854775807)) (True ∧ (h6 = h6 ∧ ∃ (m2 : Nat) (s : List UInt8), [AV.int .i64 (wrapK .i64 (Int.tdiv ((m : Nat) : Int) 10)), .str (s7 ++ s3)] = [.int .i64 m2, .str s] ∧ ((m2 = k ∧ s = []) ∨ (m2 = k / 10 ∧ s = [UInt8.ofNat (48 + k % 10)]) ∨ (m2 = 0 ∧ 10 ≤ k ∧ s = [UInt8.ofNat (48 + k / 10), UInt8.ofNat (48 + k % 10)]))) ∧ (match [AV.int .i64 (wrapK .i64 (Int.tdiv ((m : Nat) : Int) 10)), .str (s7 ++ s3)] with | [.int _ m, .str s] => 2 * m.toNat + (if s = [] then 1 else 0) | _ => 0) < (2 * (((m : Nat) : Int)).toNat + (if s3 = [] then 1 else 0))) := fun hc => by
  refine dig (need_mk (decide_eq_true (by simp only [List.length_cons, List.length_nil]; omega)) ?_)
  rw [hd]
  refine ⟨trivial, ⟨rfl, m / 10, _, rfl, ?_⟩, ?_⟩
  ·rcases hs with ⟨rfl, rfl⟩ | ⟨rfl, rfl⟩ | ⟨rfl, _, rfl⟩
   ·exact .inr (.inl ⟨rfl, rfl⟩)
   ·have h10 : 10 ≤ k := by
     rcases hc with hc | hc
     ·omega
     ·simp at hc
    refine .inr (.inr ⟨by omega, h10, ?_⟩)
    rw [show k / 10 % 10 = k / 10 by omega]; rfl
   ·rcases hc with hc | hc
    ·omega
    ·simp at hc
  ·simp only [List.cons_append, List.nil_append, Int.toNat_natCast]
   rw [if_neg (by simp)]
   split
   ·omega
   ·rename_i hne
    rcases hc with hc | hc
    ·omega
    ·exact absurd hc hne
 refine vif_mk (fun g => step (.inl (by have := of_decide_eq_true g; omega))) (fun g => vif_mk (fun g2 => step (.inr (by simpa using g2))) (fun g2 => ?_))
 have g := of_decide_eq_false g
 have g2 : s3 ≠ [] := by simpa using g2
 have e : s3 = decB 20 k := by
  rcases hs with ⟨_, rfl⟩ | ⟨e1, rfl⟩ | ⟨_, h10, rfl⟩
  ·exact absurd rfl g2
  ·have : k < 10 := by omega
   have := decB_lo ⟨k, this⟩
   simp only at this
   rw [this, Nat.mod_eq_of_lt (by omega)]
  ·have := (decB_hi ⟨k, hk⟩).resolve_left (by simp only; omega)
   simp only at this
   rw [this]
 rw [e]; exact hQ)
theorem y120 {x : Int} (h0 : 0 ≤ x ∧ x < 100) (hQ : Q (.str (decB 20 x.toNat)) h) : AC Tryz.prog 120 [.int .i64 x] h Q := by
 have e : x = ((x.toNat : Nat) : Int) := by omega
 have := y120n (k := x.toNat) (h := h) (Q := Q) (by omega) hQ
 rw [← e] at this; exact this
set_option maxRecDepth 20000 in
theorem y57 {num x y p : Int} (R : NodesR h q l) (g : Rg2 l) (hn : 0 ≤ num ∧ num < 8) (h0 : ¬ (0 ≤ p ∧ p < portsV l x y) → ∀ h', Ext h h' → Q (.tup [.str [], .bool false]) h')
  (h1 : (0 ≤ p ∧ p < portsV l x y) → ∀ h', Ext h h' → Q (.tup [.str (nameV num x y p), .bool true]) h') : AC Tryz.prog 57 [.agg [.sl q, .int .i64 out], .int .i64 num, .agg [.int .i64 x, .int .i64 y, .int .i64 p]] h Q := ac57 (by
 unfold vc57
 refine vif_mk (fun g1 => ⟨rfl, h0 (by have := of_decide_eq_true g1; omega) _ (.refl _)⟩) (fun g1 => ?_)
 replace g1 := of_decide_eq_false g1
 refine y114 R g fun h8 x8 => ⟨_, rfl, rfl, vif_mk (fun g2 => h0 (by have := of_decide_eq_true g2; omega) _ x8) (fun g2 => ?_)⟩
 replace g2 := of_decide_eq_false g2
 have hp : 0 ≤ p ∧ p < portsV l x y := by omega
 obtain ⟨r1, r2, _⟩ := ports_pos g hp
 have d1 := dec2 (x := num) (by omega)
 have d2 := dec2 (x := x) (by omega)
 have d3 := dec2 (x := y + 1) (by omega)
 have d4 := dec2 (x := p) (by omega)
 refine y120 (by omega) ⟨_, rfl, rfl, rfl, rfl, ?_⟩
 refine need_mk (decide_eq_true (by simp only [List.length_cons, List.length_nil]; omega)) (need_mk (decide_eq_true (by simp only [List.length_append, List.length_cons, List.length_nil]; omega)) ?_)
 refine y120 (by omega) ⟨_, rfl, rfl, rfl, need_mk (decide_eq_true (by simp only [List.length_append, List.length_cons, List.length_nil]; omega)) (need_mk (decide_eq_true (by simp only [List.length_append, List.length_cons, List.length_nil]; omega)) ?_)⟩
 rw [wrapK_i64 ⟨by omega, by omega⟩]
 refine y120 (by omega) ⟨_, rfl, rfl, need_mk (decide_eq_true (by simp only [List.length_append, List.length_cons, List.length_nil]; omega)) (need_mk (decide_eq_true (by simp only [List.length_append, List.length_cons, List.length_nil]; omega)) ?_)⟩
 refine y120 (by omega) ⟨_, rfl, need_mk (decide_eq_true (by simp only [List.length_append, List.length_cons, List.length_nil]; omega)) ?_⟩
 exact h1 hp _ x8)
end
theorem dec_digit : ∀ k : Fin 100, ∀ c ∈ decB 20 k.val, 48 ≤ c.toNat ∧ c.toNat ≤ 57 := by decide +kernel
def valD (l : List UInt8) : Nat := l.foldl (fun n c => n * 10 + (c.toNat - 48)) 0
theorem valD_dec : ∀ k : Fin 100, valD (decB 20 k.val) = k.val := by decide +kernel
theorem dec_inj2 : ∀ i j : Fin 100, decB 20 i.val = decB 20 j.val → i = j := by
 intro i j h
 have h1 := valD_dec i
 have h2 := valD_dec j
 rw [h, h2] at h1
 exact Fin.ext h1.symm
theorem cut_letter {c : UInt8} (hc : ¬ (48 ≤ c.toNat ∧ c.toNat ≤ 57)) : ∀ {a b x y : List UInt8}, (∀ d ∈ a, 48 ≤ d.toNat ∧ d.toNat ≤ 57) → (∀ d ∈ b, 48 ≤ d.toNat ∧ d.toNat ≤ 57) → a ++ c :: x = b ++ c :: y → a = b ∧ x = y
 | [], [], x, y, _, _, h => by simpa using h
 | [], d :: b, x, y, _, hb, h => by
  simp only [List.nil_append, List.cons_append, List.cons.injEq] at h
  exact absurd (by rw [h.1]; exact hb d List.mem_cons_self) hc
 | d :: a, [], x, y, ha, _, h => by
  simp only [List.nil_append, List.cons_append, List.cons.injEq] at h
  exact absurd (by rw [← h.1]; exact ha d List.mem_cons_self) hc
 | d :: a, e :: b, x, y, ha, hb, h => by
  simp only [List.cons_append, List.cons.injEq] at h
  obtain ⟨i, j⟩ := cut_letter hc (fun u hu => ha u (List.mem_cons_of_mem _ hu)) (fun u hu => hb u (List.mem_cons_of_mem _ hu)) h.2
  exact ⟨by rw [h.1, i], j⟩
theorem name_inj {n a b p n' a' b' p' : Int} (h1 : 0 ≤ n ∧ n < 8) (h2 : 0 ≤ a ∧ a < 32) (h3 : -1 ≤ b ∧ b < 32) (h4 : 0 ≤ p ∧ p < 2) (k1 : 0 ≤ n' ∧ n' < 8) (k2 : 0 ≤ a' ∧ a' < 32) (k3 : -1 ≤ b' ∧ b' < 32) (k4 : 0 ≤ p' ∧ p' < 2) (h : nameV n a b p = nameV n' a' b' p') : n = n' ∧ a = a' ∧ b = b' ∧ p = p' := by
 have dg : ∀ {x : Int}, 0 ≤ x ∧ x < 100 → ∀ d ∈ decB 20 x.toNat, 48 ≤ d.toNat ∧ d.toNat ≤ 57 := fun {x} hx => dec_digit ⟨x.toNat, by omega⟩
 have inj : ∀ {x y : Int}, 0 ≤ x ∧ x < 100 → 0 ≤ y ∧ y < 100 → decB 20 x.toNat = decB 20 y.toNat → x = y := fun {x y} hx hy e => by
  have := dec_inj2 ⟨x.toNat, by omega⟩ ⟨y.toNat, by omega⟩ e
  have := congrArg Fin.val this
  simp only at this
  omega
 unfold nameV at h
 simp only [List.append_assoc, List.cons_append, List.nil_append, List.cons.injEq, true_and] at h
 obtain ⟨e1, h⟩ := cut_letter (c := 78) (by decide) (dg (by omega)) (dg (by omega)) h
 obtain ⟨e2, h⟩ := cut_letter (c := 66) (by decide) (dg (by omega)) (dg (by omega)) h
 obtain ⟨e3, e4⟩ := cut_letter (c := 80) (by decide) (dg (by omega)) (dg (by omega)) h
 exact ⟨inj (by omega) (by omega) e1, inj (by omega) (by omega) e2, by have := inj (by omega) (by omega) e3; omega, inj (by omega) (by omega) e4⟩
theorem name_len {n a b p : Int} (h1 : 0 ≤ n ∧ n < 8) (h2 : 0 ≤ a ∧ a < 32) (h3 : -1 ≤ b ∧ b < 32) (h4 : 0 ≤ p ∧ p < 2) : (nameV n a b p).length ≤ 12 := by
 have one : ∀ {x : Int}, 0 ≤ x ∧ x < 10 → (decB 20 x.toNat).length = 1 := fun {x} hx => by
  have := decB_lo ⟨x.toNat, by omega⟩
  simp only at this
  rw [this]; rfl
 have d1 := one (x := n) (by omega)
 have d2 := dec2 (x := a) (by omega)
 have d3 := dec2 (x := b + 1) (by omega)
 have d4 := one (x := p) (by omega)
 unfold nameV
 simp only [List.length_append, List.length_cons, List.length_nil]
 omega
section
variable {h : Heap} {Q : AV → Heap → Prop} {l : List NT} {q : Option SL} {out : Int} {LA : Heap → Prop}
set_option maxRecDepth 20000 in
set_option maxHeartbeats 1000000 in
theorem s9 {x y p m x2 y2 p2 m2 : Int} (LAx : ∀ h h', LA h → Ext h h' → LA h') (L40 : ∀ (h : Heap) (Q : AV → Heap → Prop), LA h → Q (.bool true) h → AC Tryz.prog 40 [] h Q)
  (LA0 : LA h) (R : NodesR h q l) (hQ : ∀ h', Q (.bool true) h') : AC Tryz.prog 9 [.agg [.sl q, .int .i64 out], .agg [.int .i64 x, .int .i64 y, .int .i64 p], .int .i64 m, .agg [.int .i64 x2, .int .i64 y2, .int .i64 p2], .int .i64 m2] h Q := ac9 (by
 unfold vc9
 have deep : ∀ {Q' : AV → Heap → Prop}, (∀ b, (b = false → Sized 4 l) → Q' (.bool b) h) → AC Tryz.prog 39 [.sl q, .int .i64 0] h Q' := fun {Q'} hk => y39 4 (Nat.le_refl _) R hk
 refine deep fun b hb => ⟨b, rfl, vif_mk (fun _ => L40 _ _ LA0 ⟨_, rfl, hQ _⟩) (fun gb => ?_)⟩
 have L := (hb gb).lens
 refine y41 R L (fun _ _ h18 x18 => ⟨_, _, _, rfl, ?_⟩) fun O n0 n8 a1 _ _ h18 x18 S1 => ⟨_, _, _, rfl, ?_⟩
 ·refine y41 (R.mono x18) L (fun _ _ h23 x23 => ⟨_, _, _, rfl, ?_⟩) fun O k0 k8 a2 _ _ h23 x23 S2 => ⟨_, _, _, rfl, ?_⟩
  ·have LL := LAx _ _ LA0 (x18.trans x23)
   exact L40 _ _ LL ⟨_, rfl, vif_mk (fun g => by simp at g) (fun _ => vif_mk (fun _ => L40 _ _ LL ⟨_, rfl, hQ _⟩) (fun g => by simp at g))⟩
  ·have LL := LAx _ _ LA0 (x18.trans x23)
   exact L40 _ _ LL ⟨_, rfl, vif_mk (fun g => by simp at g) (fun _ => vif_mk (fun _ => L40 _ _ LL ⟨_, rfl, hQ _⟩) (fun g => by simp at g))⟩
 refine y41 (R.mono x18) L (fun _ _ h23 x23 => ⟨_, _, _, rfl, ?_⟩) fun _ k0 k8 a2 _ _ h23 x23 S2 => ⟨_, _, _, rfl, ?_⟩
 ·have LL := LAx _ _ LA0 (x18.trans x23)
  exact L40 _ _ LL ⟨_, rfl, vif_mk (fun g => by simp at g) (fun _ => vif_mk (fun g => by simp at g) (fun _ => vif_mk (fun _ => L40 _ _ LL ⟨_, rfl, hQ _⟩) (fun g => by simp at g)))⟩
 have xx := x18.trans x23
 have LL := LAx _ _ LA0 xx
 refine L40 _ _ LL ⟨_, rfl, vif_mk (fun g => by simp at g) (fun _ => vif_mk (fun g => by simp at g) (fun _ => vif_mk (fun g => by simp at g) (fun _ => ?_)))⟩
 have S1' := S1.mono x23
 have g := O.rg
 by_cases c1 : 0 ≤ p ∧ p < portsV l x y
 ·obtain ⟨r1, r2, _⟩ := ports_pos g c1
  refine y56 S1' O ⟨n0, n8⟩ (fun hn => absurd c1 hn) fun _ h40 x40 => ⟨_, _, rfl, ?_⟩
  by_cases c2 : 0 ≤ p2 ∧ p2 < portsV l x2 y2
  ·obtain ⟨t1, t2, _⟩ := ports_pos g c2
   refine y56 (S2.mono x40) O ⟨k0, k8⟩ (fun hn => absurd c2 hn) fun _ h44 x44 => ⟨_, _, rfl, ?_⟩
   refine y57 (R.mono ((xx.trans x40).trans x44)) g ⟨n0, n8⟩ (fun hn => absurd c1 hn) fun _ h48 x48 => ⟨_, _, rfl, ?_⟩
   refine vif_mk (fun g => by simp at g) (fun _ => vif_mk (fun g => by simp at g) (fun _ => ?_))
   have hl := name_len (n := m) (a := x) (b := y) (p := p) ⟨n0, n8⟩ (by omega) (by omega) (by omega)
   refine vif_mk (fun g => by have := of_decide_eq_true g; omega) (fun _ => ?_)
   refine vif_mk (fun g => by simp at g) (fun _ => vif_mk (fun g => by simp at g) (fun _ => ?_))
   have inj := fun e => name_inj (n := m) (a := x) (b := y) (p := p) (n' := m2) (a' := x2) (b' := y2) (p' := p2) ⟨n0, n8⟩ (by omega) (by omega) (by omega) ⟨k0, k8⟩ (by omega) (by omega) (by omega) e
   refine vif_mk (fun g => ?_) (fun g => ?_)
   ·simp only [Bool.and_true, Bool.and_eq_true, beq_iff_eq] at g
    obtain ⟨⟨rfl, rfl⟩, rfl⟩ := g
    have e : ((nameV m x y p == nameV m2 x y p) == (m == m2)) = true := by
     by_cases hm : m = m2
     ·subst hm; simp
     ·have h1 : (nameV m x y p == nameV m2 x y p) = false := by
       rw [beq_eq_false_iff_ne]; intro hc; exact hm (inj hc).1
      have h2 : (m == m2) = false := by rw [beq_eq_false_iff_ne]; exact hm
      rw [h1, h2]; rfl
    rw [e]; exact hQ _
   ·have h1 : (nameV m x y p == nameV m2 x2 y2 p2) = false := by
     rw [beq_eq_false_iff_ne]
     intro hc
     obtain ⟨_, e1, e2, e3⟩ := inj hc
     subst e1 e2 e3
     simp at g
    rw [h1]; exact hQ _
  ·refine y56 (S2.mono x40) O ⟨k0, k8⟩ (fun _ h44 x44 => ⟨_, _, rfl, ?_⟩) fun hn => absurd hn c2
   refine y57 (R.mono ((xx.trans x40).trans x44)) g ⟨n0, n8⟩ (fun hn => absurd c1 hn) fun _ h48 x48 => ⟨_, _, rfl, ?_⟩
   refine vif_mk (fun g => by simp at g) (fun _ => vif_mk (fun g => by simp at g) (fun _ => ?_))
   have hl := name_len (n := m) (a := x) (b := y) (p := p) ⟨n0, n8⟩ (by omega) (by omega) (by omega)
   refine vif_mk (fun g => by have := of_decide_eq_true g; omega) (fun _ => ?_)
   exact vif_mk (fun g => by simp at g) (fun _ => vif_mk (fun _ => hQ _) (fun g => by simp at g))
 ·refine y56 S1' O ⟨n0, n8⟩ (fun _ h40 x40 => ⟨_, _, rfl, ?_⟩) fun hn => absurd hn c1
  have fin : ∀ {s45 : List UInt8} {b46 : Bool} {h44 : Heap}, Ext h23 h44 → AC Tryz.prog 57 [.agg [.sl q, .int .i64 out], .int .i64 m, .agg [.int .i64 x, .int .i64 y, .int .i64 p]] h44 fun v47 h48 => ∃ s49 : List UInt8, ∃ b50 : Bool, v47 = .tup [.str s49, .bool b50] ∧
    vif (!(false == b50)) (Q (.bool false) h48) (vif (!(([] : List UInt8) == s49)) (Q (.bool false) h48) (vif (decide ((([] : List UInt8).length : Int) > 12)) (Q (.bool false) h48) (vif (!false) (Q (.bool true) h48) (vif (!b46) (Q (.bool true) h48) (vif (((x == x2) && ((y == y2) && true)) && ((p == p2) && true)) (Q (.bool ((([] : List UInt8) == s45) == (m == m2))) h48) (Q (.bool ((([] : List UInt8) == s45) == false)) h48)))))) := fun {s45 b46 h44} x44 => by
   refine y57 (R.mono (xx.trans x44)) g ⟨n0, n8⟩ (fun _ h48 x48 => ⟨_, _, rfl, ?_⟩) fun hn => absurd hn c1
   refine vif_mk (fun g => by simp at g) (fun _ => vif_mk (fun g => by simp at g) (fun _ => vif_mk (fun g => by simp at g) (fun _ => vif_mk (fun _ => hQ _) (fun g => by simp at g))))
  by_cases c2 : 0 ≤ p2 ∧ p2 < portsV l x2 y2
  ·exact y56 (S2.mono x40) O ⟨k0, k8⟩ (fun hn => absurd c2 hn) fun _ h44 x44 => ⟨_, _, rfl, fin (x40.trans x44)⟩
  ·exact y56 (S2.mono x40) O ⟨k0, k8⟩ (fun _ h44 x44 => ⟨_, _, rfl, fin (x40.trans x44)⟩) fun hn => absurd hn c2)
end
end Go.Proofs.YtafmabnolelknaaGreatDoor
