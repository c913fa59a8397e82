import Derived.Test.YtafmabnolelknaaGreatDoorEG28
import Derived.Test.YtafmabnolelknaaGreatDoorEG29
namespace Go.Proofs.YtafmabnolelknaaGreatDoor
open Go.Ab
open Go.Num hiding Bs
set_option linter.unusedVariables false
set_option linter.unusedSimpArgs false
def nB (n : Int) : Bs := numB n.toNat
def nsB (l : List Int) : Bs := l.flatMap nB
theorem kb_at {h : Heap} {b : Nat} {c : List AV} {rw' : Bool} (hb : h[b]? = some (.cells c rw')) {k : Nat} {x : AV} (hx : c[k]? = some x) : cellsAt h ⟨b, 0 + k⟩ 1 = some [x] := by
 have hl := lt_of_get hx
 rw [cellsAt_mk (p := ⟨b, 0 + k⟩) hb (by show 0 + k + 1 ≤ _; omega)]
 show some ((c.drop (0 + k)).take 1) = _
 rw [Nat.zero_add, List.drop_eq_getElem_cons hl, List.take_succ_cons, List.take_zero]
 have := (List.getElem?_eq_some_iff.1 hx).2
 rw [this]
structure WR (h : Heap) (w : Nat) (q : Option SL) (bs : Bs) : Prop where
 at' : h[w]? = some (.cells [.sl q] true)
 ap : Apd byE h q bs
 nq : ∀ s, q = some s → s.b ≠ w
structure WS (h0 h : Heap) (w : Nat) (q : Option SL) : Prop where
 x : Ext h0 h
 w0 : h0.length ≤ w
 q0 : ∀ s, q = some s → h0.length ≤ s.b
section
variable {h0 h h' : Heap} {Q : AV → Heap → Prop} {w : Nat} {q q2 : Option SL} {bs : Bs} {ns : List Int} {l : List NT} {n : NT} {c : NC}
theorem nB_len {n : Int} (h1 : 0 ≤ n) (h2 : n < 2000000) : (nB n).length ≤ 9 := numB_len (by simp only [M63]; omega)
theorem nsB_len : ∀ {ns : List Int}, (∀ n ∈ ns, 0 ≤ n ∧ n < 2000000) → (nsB ns).length ≤ 9 * ns.length
 | [], _ => Nat.le_refl _
 | n :: ns, h => by
  have h1 := nsB_len (ns := ns) fun m hm => h m (List.mem_cons_of_mem _ hm)
  have h2 := nB_len (h n List.mem_cons_self).1 (h n List.mem_cons_self).2
  unfold nsB at h1 ⊢
  rw [List.flatMap_cons, List.length_append, List.length_cons]
  omega
set_option maxRecDepth 20000 in
theorem y246 (W : WR h w q bs) (S : WS h0 h w q) (H : HasL intE h q2 ns) (hn : ∀ n ∈ ns, 0 ≤ n ∧ n < 2000000) (hq2 : ∀ s, q2 = some s → s.b ≠ w ∧ ∀ t, q = some t → s.b ≠ t.b) (hl : ns.length ≤ 1000) (hb : bs.length ≤ 1000000)
  (hQ : ∀ q' h', WR h' w q' (bs ++ nsB ns) → WS h0 h' w q' → h.length ≤ h'.length → Q (.tup []) h') : AC Tryz.prog 246 [.ptr (some ⟨w, 0⟩), .sl q2] h Q := ac246 (by
 unfold vc246
 rw [H.len]
 have lv2 := HasL.live H
 refine ⟨fun xs h6 => ∃ (i : Nat) (q' : Option SL), xs = [.int .i64 i] ∧ i ≤ ns.length ∧ WR h6 w q' (bs ++ nsB (ns.take i)) ∧ WS h0 h6 w q' ∧ h.length ≤ h6.length ∧ HasL intE h6 q2 ns ∧ (∀ s, q2 = some s → s.b ≠ w ∧ ∀ t, q' = some t → s.b ≠ t.b), left ns.length, ⟨0, q, rfl, by omega, by simpa [nsB] using W, S, Nat.le_refl _, H, hq2⟩, ?_⟩
 rintro n3 h6 ⟨i, q', hx, hi, W6, S6, l6, H6, hq6⟩
 simp only [List.cons.injEq, AV.int.injEq, true_and, and_true] at hx
 subst hx
 refine vif_mk (fun g => ?_) (fun g => ?_)
 ·replace g := of_decide_eq_true g
  refine H6.idx (E := intE) (by omega) (by omega) fun p x hx hcx => ⟨x, hcx, ?_⟩
  rw [Int.toNat_natCast] at hx
  have hxm := hn x (List.mem_of_getElem? hx)
  have e : x = ((x.toNat : Nat) : Int) := by omega
  rw [e]
  refine t296 (n := x.toNat) (by simp only [M63]; omega) fun q11 h10 N => ⟨_, _, rfl, ?_⟩
  have hlt := lt_of_get W6.at'
  refine vptr_mk ⟨q', kb_at (N.1 _ _ W6.at') (k := 0) rfl, ?_⟩
  have hlen : (nsB (ns.take i)).length ≤ 9 * i := by
   have := nsB_len (ns := ns.take i) fun n hh => hn n (List.mem_of_mem_take hh)
   rw [List.length_take] at this; omega
  have hlx : (numB x.toNat).length ≤ 9 := nB_len hxm.1 hxm.2
  have lq := HasL.live W6.ap.hasL
  refine Apd.append (E := byE) (W6.ap.ext N.1) N.hasL (by rw [List.length_append]; omega) fun q15 h16 A K16 l16 b16 => ?_
  have nw : ¬ ∃ s, q' = some s ∧ s.b = w := fun ⟨s, hs, he⟩ => W6.nq s hs he
  have bw := K16 _ _ nw (N.1 _ _ W6.at')
  have l10 := N.1.len
  refine vptr_mk (store6 (o := 0) (xs := [.sl q15]) bw (by simp) ?_)
  have bw2 : (h16.set w (.cells (splice [.sl q'] 0 [.sl q15]) true))[w]? = some (.cells [.sl q15] true) := by
   rw [List.getElem?_set_self (by omega)]; rfl
  have n15 : ∀ s, q15 = some s → s.b ≠ w := fun s hs hc => by
   rcases b16 s hs with h1 | ⟨t, ht, h1⟩
   ·omega
   ·exact W6.nq t ht (by rw [h1, hc])
  have Kw : Keeps (fun b => b = w) h16 (h16.set w (.cells (splice [.sl q'] 0 [.sl q15]) true)) := keeps_set rfl
  have lw : (h16.set w (.cells (splice [AV.sl q'] 0 [.sl q15]) true)).length = h16.length := by simp
  generalize h16.set w (.cells (splice [AV.sl q'] 0 [.sl q15]) true) = h18 at *
  have KK : Keeps (fun b => b = w ∨ ∃ s, q' = some s ∧ s.b = b) h6 h18 := fun b B hb hB => Kw b B (fun e => hb (.inl e)) (K16 b B (fun e => hb (.inr e)) (N.1 _ _ hB))
  rw [wrapK_i64 ⟨by omega, by omega⟩]
  have ht : ns.take (i + 1) = ns.take i ++ [x] := by rw [List.take_add_one, hx]; rfl
  refine ⟨trivial, ⟨i + 1, q15, rfl, by omega, ⟨bw2, ?_, n15⟩, ⟨fun b B hB => KK b B (fun hc => ?_) (S6.x b B hB), S6.w0, fun s hs => ?_⟩, by omega, KK.hasL (fun s hs hc => ?_) H6, fun s hs => ⟨(hq6 s hs).1, fun t ht2 hc => ?_⟩⟩, by simp only [left]; omega⟩
  ·have e3 : bs ++ nsB (ns.take (i + 1)) = bs ++ nsB (ns.take i) ++ numB x.toNat := by
    rw [ht]; unfold nsB nB; rw [List.flatMap_append]; simp
   rw [e3]
   exact A.keeps Kw fun s hs => n15 s hs
  ·have hb2 := lt_of_get hB
   rcases hc with hc | ⟨s, hs, hc⟩
   ·have := S6.w0; omega
   ·have := S6.q0 s hs; omega
  ·have := S6.x.len
   rcases b16 s hs with h1 | ⟨t, ht, h1⟩
   ·omega
   ·rw [← h1]; exact S6.q0 t ht
  ·rcases hc with hc | ⟨t, ht, hc⟩
   ·exact (hq6 s hs).1 hc
   ·exact (hq6 s hs).2 t ht hc.symm
  ·rcases b16 t ht2 with h1 | ⟨u, hu, h1⟩
   ·have := lv2 s hs; omega
   ·exact (hq6 s hs).2 u hu (by rw [h1]; exact hc)
 ·replace g := of_decide_eq_false g
  have e : ns.take i = ns := List.take_of_length_le (by omega)
  rw [e] at W6
  exact hQ _ _ W6 S6 l6)
end
def nodeB (f : List NT → Bs) (n : NT) : Bs := nsB [n.op, (n.ins.length : Nat)] ++ nsB n.ins ++ nsB [n.k, n.a, n.A] ++ f n.body
def pl (f : List NT → Bs) (l : List NT) : Bs := nsB [((l.length : Nat) : Int)] ++ l.flatMap (nodeB f)
def P0 (l : List NT) : Bs := nsB [((l.length : Nat) : Int)]
def P1 : List NT → Bs := pl P0
def P2 : List NT → Bs := pl P1
def small (x : Int) : Prop := 0 ≤ x ∧ x < 2000000
structure Rg (n : NT) : Prop where
 op : small n.op
 len : n.ins.length ≤ 2
 ins : ∀ x ∈ n.ins, small x
 k : small n.k
 a : small n.a
 A : small n.A
theorem nodeB_len {f : List NT → Bs} {n : NT} (g : Rg n) (hB : (f n.body).length ≤ 2400) : (nodeB f n).length ≤ 2500 := by
 have h1 := nsB_len (ns := [n.op, ((n.ins.length : Nat) : Int)]) (fun m hm => by
  simp only [List.mem_cons, List.not_mem_nil, or_false] at hm
  rcases hm with rfl | rfl
  ·exact g.op
  ·have := g.len; omega)
 have h2 := nsB_len (ns := n.ins) g.ins
 have h3 := nsB_len (ns := [n.k, n.a, n.A]) (fun m hm => by
  simp only [List.mem_cons, List.not_mem_nil, or_false] at hm
  rcases hm with rfl | rfl | rfl
  ·exact g.k
  ·exact g.a
  ·exact g.A)
 have h4 := g.len
 unfold nodeB
 simp only [List.length_append, List.length_cons, List.length_nil] at h1 h2 h3 ⊢
 omega
theorem nodesB_len {f : List NT → Bs} : ∀ {l : List NT}, (∀ n ∈ l, Rg n ∧ (f n.body).length ≤ 2400) → (l.flatMap (nodeB f)).length ≤ 2500 * l.length
 | [], _ => Nat.le_refl _
 | n :: l, h => by
  have h1 := nodesB_len (l := l) fun m hm => h m (List.mem_cons_of_mem _ hm)
  have h2 := nodeB_len (f := f) (h n List.mem_cons_self).1 (h n List.mem_cons_self).2
  rw [List.flatMap_cons, List.length_append, List.length_cons]
  omega
section
variable {h0 h h' : Heap} {Q : AV → Heap → Prop} {w : Nat} {q q2 : Option SL} {bs : Bs} {ns : List Int} {l : List NT} {n : NT} {c : NC} {M : Nat}
theorem put_lit (W : WR h w q bs) (S : WS h0 h w q) (hn : ∀ n ∈ ns, small n) (hl : ns.length ≤ 100) (hb : bs.length ≤ 1000000) {cs : List AV} (hc : cs = intE.all ns) {m : Nat} (hm : m = ns.length)
  (hQ : ∀ q' h', WR h' w q' (bs ++ nsB ns) → WS h0 h' w q' → h.length ≤ h'.length → Q (.tup []) h') : PNew cs true h fun a3 h4 => AC Tryz.prog 246 [.ptr (some ⟨w, 0⟩), .sl (some ⟨a3, 0, m, m, 0⟩)] h4 Q := by
 subst hc hm
 unfold PNew
 have x : Ext h (h ++ [Blk.cells (intE.all ns) true]) := .app _ _
 have Hn : HasL intE (h ++ [Blk.cells (intE.all ns) true]) (some ⟨h.length, 0, ns.length, ns.length, 0⟩) ns := HasL.new rfl rfl
 have hlt := lt_of_get W.at'
 have lq := HasL.live W.ap.hasL
 have l4 : (h ++ [Blk.cells (intE.all ns) true]).length = h.length + 1 := by simp
 have W4 : WR (h ++ [Blk.cells (intE.all ns) true]) w q bs := ⟨x _ _ W.at', W.ap.ext x, W.nq⟩
 have S4 : WS h0 (h ++ [Blk.cells (intE.all ns) true]) w q := ⟨S.x.trans x, S.w0, S.q0⟩
 generalize h ++ [Blk.cells (intE.all ns) true] = h4 at *
 refine y246 W4 S4 Hn hn (fun s hs => ?_) (by omega) hb fun q' h' a b c => hQ q' h' a b (by omega)
 cases hs
 exact ⟨by show h.length ≠ w; omega, fun t ht hc => by
  have := lq t ht
  have hc : h.length = t.b := hc
  omega⟩
set_option maxRecDepth 20000 in
theorem y245g {f : List NT → Bs} (W : WR h w q bs) (S : WS h0 h w q) (R : NodesR h0 q2 l) (hl : l.length ≤ 40) (hM : M ≤ 500000) (hb : bs.length ≤ M) (hr : ∀ n ∈ l, Rg n ∧ (f n.body).length ≤ 2400)
  (hrec : ∀ n ∈ l, ∀ {h1 : Heap} {q1 : Option SL} {bs1 : Bs} {c : NC} {Q1 : AV → Heap → Prop}, NodeR h0 c n → WR h1 w q1 bs1 → WS h0 h1 w q1 → bs1.length ≤ M + 110000 → (∀ q' h', WR h' w q' (bs1 ++ f n.body) → WS h0 h' w q' → Q1 (.tup []) h') → AC Tryz.prog 245 [.ptr (some ⟨w, 0⟩), .sl c.qb] h1 Q1)
  (hQ : ∀ q' h', WR h' w q' (bs ++ pl f l) → WS h0 h' w q' → Q (.tup []) h') : AC Tryz.prog 245 [.ptr (some ⟨w, 0⟩), .sl q2] h Q := ac245 (by
 unfold vc245
 rw [R.len]
 refine put_lit (ns := [((l.length : Nat) : Int)]) W S (fun m hm => by rw [List.mem_singleton] at hm; subst hm; exact ⟨by omega, by omega⟩) (by simp) (by omega) rfl rfl fun q1 h6 W6 S6 _ => ⟨rfl, ?_⟩
 refine ⟨fun xs h7 => ∃ (i : Nat) (q' : Option SL), xs = [.int .i64 i] ∧ i ≤ l.length ∧ WR h7 w q' (bs ++ nsB [((l.length : Nat) : Int)] ++ (l.take i).flatMap (nodeB f)) ∧ WS h0 h7 w q', left l.length, ⟨0, q1, rfl, by omega, by simpa using W6, S6⟩, ?_⟩
 rintro n3 h10 ⟨i, q', hx, hi, W10, S10⟩
 simp only [List.cons.injEq, AV.int.injEq, true_and, and_true] at hx
 subst hx
 have hlen1 : (nsB [((l.length : Nat) : Int)]).length ≤ 9 := by
  have := nsB_len (ns := [((l.length : Nat) : Int)]) (fun m hm => by rw [List.mem_singleton] at hm; subst hm; exact ⟨by omega, by omega⟩)
  simpa using this
 refine vif_mk (fun g => ?_) (fun g => ?_)
 ·replace g := of_decide_eq_true g
  have hlen2 := nodesB_len (f := f) (l := l.take i) fun n hn => hr n (List.mem_of_mem_take hn)
  rw [List.length_take] at hlen2
  obtain ⟨L, hL1, hL2, hL3⟩ := R
  refine HasL.idx (E := nodeE) (hL1.mono S10.x) (by omega) (by omega) fun p c hc0 hc => ⟨_, _, _, _, _, _, hc, ?_⟩
  rw [Int.toNat_natCast] at hc0
  obtain ⟨n, hn⟩ : ∃ n, l[i]? = some n := ⟨_, List.getElem?_eq_getElem (by omega)⟩
  have Rn : NodeR h0 c n := hL3 i c n hc0 hn
  have Rn0 := Rn.mono S10.x
  have gn := (hr n (List.mem_of_getElem? hn)).1
  have hB := (hr n (List.mem_of_getElem? hn)).2
  obtain ⟨e1, e2, e3, e4⟩ := Rn.same
  rw [Rn0.ins.len, e1, e2, e3, e4]
  have hb10 : (bs ++ nsB [((l.length : Nat) : Int)] ++ (l.take i).flatMap (nodeB f)).length ≤ M + 101000 := by
   simp only [List.length_append]; omega
  refine put_lit (ns := [n.op, ((n.ins.length : Nat) : Int)]) W10 S10 (fun m hm => by
   simp only [List.mem_cons, List.not_mem_nil, or_false] at hm
   rcases hm with rfl | rfl
   ·exact gn.op
   ·have := gn.len; exact ⟨by omega, by omega⟩) (by simp) (by omega) rfl rfl fun q21 h21 W21 S21 l21 => ⟨rfl, ?_⟩
  have len21 : (nsB [n.op, ((n.ins.length : Nat) : Int)]).length ≤ 18 := by
   have := nsB_len (ns := [n.op, ((n.ins.length : Nat) : Int)]) (fun m hm => by
    simp only [List.mem_cons, List.not_mem_nil, or_false] at hm
    rcases hm with rfl | rfl
    ·exact gn.op
    ·have := gn.len; exact ⟨by omega, by omega⟩)
   simpa using this
  have lvi := HasL.live Rn.ins
  refine y246 W21 S21 (Rn.ins.mono S21.x) gn.ins (fun s hs => ⟨by have := lvi s hs; have := S21.w0; omega, fun t ht => by have := lvi s hs; have := S21.q0 t ht; omega⟩) (by have := gn.len; omega) (by rw [List.length_append]; omega) fun q23 h23 W23 S23 l23 => ⟨rfl, ?_⟩
  have len23 : (nsB n.ins).length ≤ 18 := by have := nsB_len (ns := n.ins) gn.ins; have := gn.len; omega
  refine put_lit (ns := [n.k, n.a, n.A]) W23 S23 (fun m hm => by
   simp only [List.mem_cons, List.not_mem_nil, or_false] at hm
   rcases hm with rfl | rfl | rfl
   ·exact gn.k
   ·exact gn.a
   ·exact gn.A) (by simp) (by simp only [List.length_append] at hb10 ⊢; omega) rfl rfl fun q27 h27 W27 S27 l27 => ⟨rfl, ?_⟩
  have len27 : (nsB [n.k, n.a, n.A]).length ≤ 27 := by
   have := nsB_len (ns := [n.k, n.a, n.A]) (fun m hm => by
    simp only [List.mem_cons, List.not_mem_nil, or_false] at hm
    rcases hm with rfl | rfl | rfl
    ·exact gn.k
    ·exact gn.a
    ·exact gn.A)
   simpa using this
  refine hrec n (List.mem_of_getElem? hn) Rn W27 S27 (by simp only [List.length_append] at hb10 ⊢; omega) fun q29 h29 W29 S29 => ⟨rfl, ?_⟩
  rw [wrapK_i64 ⟨by omega, by omega⟩]
  refine ⟨trivial, ⟨i + 1, q29, rfl, by omega, ?_, S29⟩, by simp only [left]; omega⟩
  have ht : l.take (i + 1) = l.take i ++ [n] := by rw [List.take_add_one, hn]; rfl
  rw [ht, List.flatMap_append, List.flatMap_singleton]
  unfold nodeB at W29 ⊢
  simp only [List.append_assoc] at W29 ⊢
  exact W29
 ·replace g := of_decide_eq_false g
  have e : l.take i = l := List.take_of_length_le (by omega)
  rw [e, List.append_assoc] at W10
  exact hQ _ _ W10 S10)
theorem y245n (W : WR h w q bs) (S : WS h0 h w q) (R : NodesR h0 q2 l) (he : l = []) (hb : bs.length ≤ 700000) (hQ : ∀ q' h', WR h' w q' (bs ++ P0 l) → WS h0 h' w q' → Q (.tup []) h') : AC Tryz.prog 245 [.ptr (some ⟨w, 0⟩), .sl q2] h Q := ac245 (by
 unfold vc245
 rw [R.len]
 refine put_lit (ns := [((l.length : Nat) : Int)]) W S (fun m hm => by rw [List.mem_singleton] at hm; subst hm; subst he; exact ⟨by simp, by simp⟩) (by simp) (by omega) rfl rfl fun q1 h6 W6 S6 _ => ⟨rfl, ?_⟩
 refine ⟨fun xs h7 => xs = [.int .i64 0] ∧ h7 = h6, fun _ _ => 0, ⟨rfl, rfl⟩, ?_⟩
 rintro n8 h7 ⟨hx, rfl⟩
 simp only [List.cons.injEq, AV.int.injEq, true_and, and_true] at hx
 subst hx
 exact vif_mk (fun g => by subst he; simp at g) (fun _ => hQ _ _ W6 S6))
theorem P0_len {l : List NT} (he : l = []) : (P0 l).length ≤ 9 := by
 subst he
 exact nsB_len (ns := [0]) (fun m hm => by rw [List.mem_singleton] at hm; subst hm; exact ⟨by omega, by omega⟩)
theorem P1_len {l : List NT} (hl : l.length ≤ 32) (h : ∀ n ∈ l, Rg n ∧ n.body = []) : (P1 l).length ≤ 2400 := by
 have h1 : ∀ {l : List NT}, (∀ n ∈ l, Rg n ∧ n.body = []) → (l.flatMap (nodeB P0)).length ≤ 72 * l.length := by
  intro l
  induction l with
  | nil => intro _; exact Nat.le_refl _
  | cons n l ih =>
   intro h
   have i1 := ih fun m hm => h m (List.mem_cons_of_mem _ hm)
   obtain ⟨g, e⟩ := h n List.mem_cons_self
   have a1 := nsB_len (ns := [n.op, ((n.ins.length : Nat) : Int)]) (fun m hm => by
    simp only [List.mem_cons, List.not_mem_nil, or_false] at hm
    rcases hm with rfl | rfl
    ·exact g.op
    ·have := g.len; exact ⟨by omega, by omega⟩)
   have a2 := nsB_len (ns := n.ins) g.ins
   have a3 := nsB_len (ns := [n.k, n.a, n.A]) (fun m hm => by
    simp only [List.mem_cons, List.not_mem_nil, or_false] at hm
    rcases hm with rfl | rfl | rfl
    ·exact g.k
    ·exact g.a
    ·exact g.A)
   have a4 := P0_len e
   have a5 := g.len
   have a6 : (nodeB P0 n).length ≤ 72 := by
    unfold nodeB
    simp only [List.length_append, List.length_cons, List.length_nil] at a1 a2 a3 ⊢
    omega
   rw [List.flatMap_cons, List.length_append, List.length_cons]
   omega
 have h2 := h1 h
 have h3 := nsB_len (ns := [((l.length : Nat) : Int)]) (fun m hm => by rw [List.mem_singleton] at hm; subst hm; exact ⟨by omega, by omega⟩)
 unfold P1 pl
 simp only [List.length_append, List.length_cons, List.length_nil] at h3 ⊢
 omega
def Rg2 (l : List NT) : Prop := l.length ≤ 32 ∧ ∀ n ∈ l, Rg n ∧ n.body.length ≤ 32 ∧ ∀ m ∈ n.body, Rg m ∧ m.body = []
theorem OkG.rg {out : Int} (G : OkG l out) : Rg2 l := by
 have key : ∀ {n : NT} {i : Nat}, i ≤ 32 → NBase n i → 0 ≤ n.A → n.A ≤ 64 → Rg n := fun {n i} hi b h1 h2 => by
  have hf := b.fn
  have hk : small n.k ∧ small n.a := by
   split at hf
   ·rw [hf.1, hf.2]; exact ⟨⟨by omega, by omega⟩, ⟨by omega, by omega⟩⟩
   ·rename_i h
    have := fam_pos (k := n.k) (a := n.a) (by rw [hf]; exact h)
    exact ⟨⟨by omega, by omega⟩, ⟨by omega, by omega⟩⟩
  refine ⟨⟨by have := b.op; omega, by have := b.op; omega⟩, ?_, fun x hx => ⟨(b.ins x hx).1, by have := (b.ins x hx).2; omega⟩, hk.1, hk.2, ⟨h1, by omega⟩⟩
  rw [b.len]; unfold arityV
  split
  ·omega
  ·split <;> omega
 have num : ∀ {op A loop : Int}, NumOk op A loop → loop ≤ 32 → 0 ≤ A ∧ A ≤ 64 := fun {op A loop} h hl => by
  unfold NumOk at h
  repeat' split at h
  all_goals omega
 refine ⟨G.len.2, fun n hn => ?_⟩
 obtain ⟨i, hi⟩ := List.mem_iff_getElem?.1 hn
 have hil := lt_of_get hi
 obtain ⟨b, nu, bd⟩ := G.node i n hi
 have n1 := num nu (by omega)
 have hi32 : i ≤ 32 := by have := G.len.2; omega
 refine ⟨key hi32 b n1.1 n1.2, ?_⟩
 split at bd
 ·obtain ⟨_, b2, b3⟩ := bd
  refine ⟨b2, fun m hm => ?_⟩
  obtain ⟨j, hj⟩ := List.mem_iff_getElem?.1 hm
  have hjl := lt_of_get hj
  obtain ⟨c1, c2, c3⟩ := b3 j m hj
  have n2 := num c2 (by omega)
  exact ⟨key (by omega) c1 n2.1 n2.2, c3⟩
 ·rw [bd]
  exact ⟨by simp, fun m hm => by cases hm⟩
theorem put_nodes (W : WR h w q bs) (S : WS h0 h w q) (R : NodesR h0 q2 l) (G : Rg2 l) (hb : bs.length ≤ 100)
  (hQ : ∀ q' h', WR h' w q' (bs ++ P2 l) → WS h0 h' w q' → Q (.tup []) h') : AC Tryz.prog 245 [.ptr (some ⟨w, 0⟩), .sl q2] h Q := by
 refine y245g (f := P1) (M := 100) W S R (by have := G.1; omega) (by omega) hb (fun n hn => ⟨(G.2 n hn).1, P1_len (G.2 n hn).2.1 (G.2 n hn).2.2⟩) (fun n hn {h1 q1 bs1 c Q1} Rn W1 S1 hb1 hQ1 => ?_) hQ
 obtain ⟨_, g2, g3⟩ := G.2 n hn
 refine y245g (f := P0) (M := 200000) W1 S1 Rn.body (by omega) (by omega) (by omega) (fun m hm => ⟨(g3 m hm).1, by have := P0_len (g3 m hm).2; omega⟩) (fun m hm {h1 q1 bs1 c Q1} Rm W2 S2 hb2 hQ2 => ?_) hQ1
 exact y245n W2 S2 Rm.body (g3 m hm).2 (by omega) hQ2
theorem y172 {out : Int} (R : NodesR h q l) (L : Lens l) (h170 : ¬ OkG l out → ∀ h', Ext h h' → Q (.tup [.sl none, .int .i64 170]) h')
  (hQ : OkG l out → ∀ q' h', Ext h h' → HasL byE h' q' (P2 l ++ nsB [out]) → Q (.tup [.sl q', .int .i64 0]) h') : AC Tryz.prog 172 [.agg [.sl q, .int .i64 out]] h Q := ac172 (by
 unfold vc172
 refine y244 R L fun e h4 x4 he0 he1 => ⟨_, rfl, ?_⟩
 by_cases G : OkG l out
 ·rw [he0 G]
  refine vif_mk (fun g => by simp at g) (fun _ => pnew_mk ?_)
  have x7 : Ext h4 (h4 ++ [Blk.cells [.sl none] true]) := .app _ _
  have b7 : (h4 ++ [Blk.cells [AV.sl none] true])[h4.length]? = some (.cells [.sl none] true) := by simp
  have l7 : (h4 ++ [Blk.cells [AV.sl none] true]).length = h4.length + 1 := by simp
  generalize h4 ++ [Blk.cells [AV.sl none] true] = h7 at *
  have W : WR h7 h4.length none [] := ⟨b7, .inl ⟨rfl, rfl⟩, fun s hs => by cases hs⟩
  have S : WS h4 h7 h4.length none := ⟨x7, Nat.le_refl _, fun s hs => by cases hs⟩
  refine put_nodes W S (R.mono x4) G.rg (by simp) fun q9 h9 W9 S9 => ⟨rfl, ?_⟩
  have ho : small out := ⟨G.out.1, by have := G.out.2; have := G.len.2; omega⟩
  have h2l : (P2 l).length ≤ 200000 := by
   have h1 := nodesB_len (f := P1) (l := l) fun n hn => ⟨(G.rg.2 n hn).1, P1_len (G.rg.2 n hn).2.1 (G.rg.2 n hn).2.2⟩
   have h3 := nsB_len (ns := [((l.length : Nat) : Int)]) (fun m hm => by rw [List.mem_singleton] at hm; subst hm; exact ⟨by omega, by have := G.len.2; omega⟩)
   have := G.len.2
   unfold P2 pl
   simp only [List.length_append, List.length_cons, List.length_nil] at h3 ⊢
   omega
  refine put_lit (ns := [out]) W9 S9 (fun m hm => by rw [List.mem_singleton] at hm; subst hm; exact ho) (by simp) (by rw [List.nil_append]; omega) rfl rfl fun q13 h13 W13 S13 _ => ⟨rfl, q13, ?_, ?_⟩
  ·rw [cellsAt_mk (p := ⟨h4.length, 0⟩) W13.at' (by simp)]; rfl
  ·have := W13.ap.hasL
   rw [List.nil_append] at this
   exact hQ G _ _ (x4.trans S13.x) this
 ·rw [he1 G]
  exact vif_mk (fun _ => h170 G _ x4) (fun g => by simp at g))
end
inductive NodeF (F : Nat → Prop) (h : Heap) : NC → NT → Prop where
 | mk {op k a A : Int} {qi qb : Option SL} {ins : List Int} {body : List NT} {L : List NC} (hi : HasL intE h qi ins) (fi : ∀ s, qi = some s → F s.b) (hb : HasL nodeE h qb L) (fb : ∀ s, qb = some s → F s.b) (hl : L.length = body.length)
   (he : ∀ (i : Nat) (c : NC) (n : NT), L[i]? = some c → body[i]? = some n → NodeF F h c n) : NodeF F h ⟨op, qi, k, a, A, qb⟩ (.mk op ins k a A body)
theorem NodeF.keeps {F F' X : Nat → Prop} {h h' : Heap} {c : NC} {n : NT} (r : NodeF F h c n) (K : Keeps X h h') (hX : ∀ b, F b → ¬ X b) (hF : ∀ b, F b → b < h.length → F' b) : NodeF F' h' c n := by
 induction r with
 | mk hi fi hb fb hl he ih => exact .mk (K.hasL (fun s hs => hX _ (fi s hs)) hi) (fun s hs => hF _ (fi s hs) (HasL.live hi s hs)) (K.hasL (fun s hs => hX _ (fb s hs)) hb) (fun s hs => hF _ (fb s hs) (HasL.live hb s hs)) hl ih
theorem NodeF.r {F : Nat → Prop} {h : Heap} {c : NC} {n : NT} (r : NodeF F h c n) : NodeR h c n := by
 induction r with
 | mk hi fi hb fb hl he ih => exact .mk hi hb hl ih
def NodesF (F : Nat → Prop) (h : Heap) (q : Option SL) (l : List NT) : Prop := ∃ L : List NC, HasL nodeE h q L ∧ (∀ s, q = some s → F s.b) ∧ L.length = l.length ∧ ∀ (i : Nat) (c : NC) (n : NT), L[i]? = some c → l[i]? = some n → NodeF F h c n
section
variable {h h' : Heap} {Q : AV → Heap → Prop} {r p : Nat} {rest : Bs} {l : List NT} {n : NT} {f : List NT → Bs}
structure GR (h : Heap) (r p : Nat) (o : Bs) : Prop where
 at' : h[r]? = some (.cells [.ptr (some ⟨p, 0⟩), .bool false] true)
 rd : Rd h p (some o)
 pr : p < r
 len : o.length ≤ 100000
theorem GR.fr {o o' : Bs} (G : GR h r p o) (F : Fr p h h') (R : Rd h' p (some o')) (hl : o'.length ≤ 100000) : GR h' r p o' :=
 ⟨F.keeps _ _ (fun hc => by have := G.pr; have hc : r = p := hc; omega) G.at', R, G.pr, hl⟩
theorem GR.keeps {o : Bs} {X : Nat → Prop} (G : GR h r p o) (K : Keeps X h h') (hX : ∀ b, b ≤ r → ¬ X b) : GR h' r p o :=
 ⟨K _ _ (hX _ (Nat.le_refl _)) G.at', G.rd.keeps K (fun b hb => hX b (by have := G.pr; omega)), G.pr, G.len⟩
theorem read_num {x : Int} (G : GR h r p (nB x ++ rest)) (hx : small x) (hQ : ∀ h', Fr p h h' → GR h' r p rest → Q (.int .i64 x) h') : AC Tryz.prog 249 [.ptr (some ⟨p, 0⟩)] h Q := by
 have e : nm (some (nB x ++ rest)) = some (x.toNat, rest) := rdN_numB (by have := hx.2; omega)
 have hl := G.len
 rw [List.length_append] at hl
 refine e249 G.rd (fun l hl => by cases hl; exact G.len) fun h' F R => ?_
 rw [e] at R ⊢
 have e2 : valN (some (x.toNat, rest)) = x := by show ((x.toNat : Nat) : Int) = x; have := hx.1; omega
 rw [e2]
 exact hQ h' F (G.fr F R (by omega))
theorem y314 {x most : Int} (G : GR h r p (nB x ++ rest)) (hx : small x) (hm : x ≤ most) (hQ : ∀ h', Fr p h h' → GR h' r p rest → Q (.int .i64 x) h') : AC Tryz.prog 314 [.ptr (some ⟨r, 0⟩), .int .i64 most] h Q := ac314 (by
 unfold vc314
 refine vptr_mk ⟨_, kb_at G.at' (k := 0) rfl, read_num G hx fun h6 F6 G6 => ⟨x, rfl, ?_⟩⟩
 refine vif_mk (fun g => by replace g := of_decide_eq_true g; omega) (fun _ => ?_)
 refine vptr_mk ⟨_, kb_at G6.at' (k := 0) rfl, e315 G6.rd ⟨_, rfl, ?_⟩⟩
 exact vif_mk (fun g => by simp at g) (fun _ => hQ h6 F6 G6))
theorem y248n (G : GR h r p (P0 l ++ rest)) (he : l = []) (hQ : ∀ h', Fr p h h' → GR h' r p rest → Q (.sl none) h') : AC Tryz.prog 248 [.ptr (some ⟨r, 0⟩), .int .i64 (-1)] h Q := ac248 (by
 unfold vc248
 subst he
 refine vif_mk (fun _ => ?_) (fun g => by simp at g)
 have G0 : GR h r p (nB 0 ++ rest) := by
  have : P0 ([] : List NT) = nB 0 := by simp [P0, nsB]
  rw [← this]; exact G
 refine y314 G0 ⟨by omega, by omega⟩ (by omega) fun h4 F4 G4 => ⟨0, rfl, ?_⟩
 refine ⟨fun xs h7 => xs = [.sl none, .int .i64 0] ∧ h7 = h4, fun _ _ => 0, ⟨rfl, rfl⟩, ?_⟩
 rintro q6 n7 h7 ⟨hx, rfl⟩
 simp only [List.cons.injEq, AV.sl.injEq, AV.int.injEq, true_and, and_true] at hx
 obtain ⟨rfl, rfl⟩ := hx
 exact vif_mk (fun g => by simp at g) (fun _ => hQ _ F4 G4))
theorem nsB_cons {x : Int} {ns : List Int} : nsB (x :: ns) = nB x ++ nsB ns := rfl
set_option maxRecDepth 20000 in
theorem y316g {deep : Int} (G : GR h r p (nodeB f n ++ rest)) (hr : r < h.length) (g : Rg n) (hd : deep = 0 ∨ deep = 1)
  (hrec : ∀ {h1 : Heap} {Q1 : AV → Heap → Prop}, h.length ≤ h1.length → GR h1 r p (f n.body ++ rest) → (∀ q h', Fr p h1 h' → GR h' r p rest → NodesF (fun b => h1.length ≤ b ∧ b < h'.length) h' q n.body → Q1 (.sl q) h') → AC Tryz.prog 248 [.ptr (some ⟨r, 0⟩), .int .i64 (deep - 1)] h1 Q1)
  (hQ : ∀ c h', Fr p h h' → GR h' r p rest → NodeF (fun b => h.length ≤ b ∧ b < h'.length) h' c n → Q (.agg c.cs) h') : AC Tryz.prog 316 [.ptr (some ⟨r, 0⟩), .int .i64 deep] h Q := ac316 (by
 have hp := G.pr
 unfold vc316
 have e0 : nodeB f n ++ rest = nB n.op ++ (nB ((n.ins.length : Nat) : Int) ++ (nsB n.ins ++ (nB n.k ++ (nB n.a ++ (nB n.A ++ (f n.body ++ rest)))))) := by
  unfold nodeB
  simp only [nsB_cons, List.append_assoc]
  simp [nsB]
 rw [e0] at G
 refine vptr_mk ⟨_, kb_at G.at' (k := 0) rfl, read_num G g.op fun h6 F6 G6 => ⟨_, rfl, ?_⟩⟩
 refine y314 (most := 2) G6 ⟨by omega, by have := g.len; omega⟩ (by have := g.len; omega) fun h9 F9 G9 => ⟨_, rfl, ?_⟩
 have F69 := F6.trans F9
 refine ⟨fun xs h7 => ∃ (i : Nat) (q : Option SL), xs = [.int .i64 i, .int .i64 n.op, .sl q, .int .i64 0, .int .i64 0, .int .i64 0, .sl none] ∧ i ≤ n.ins.length ∧ Fr p h h7 ∧ GR h7 r p (nsB (n.ins.drop i) ++ (nB n.k ++ (nB n.a ++ (nB n.A ++ (f n.body ++ rest))))) ∧ Apd intE h7 q (n.ins.take i) ∧ ∀ s, q = some s → h.length ≤ s.b, fun xs _ => match xs with | [.int _ i, _, _, _, _, _, _] => (n.ins.length - i).toNat | _ => 0, ⟨0, none, rfl, by omega, F69, by simpa using G9, .inl ⟨rfl, by simp⟩, fun s hs => by cases hs⟩, ?_⟩
 rintro n11 n12 q13 n14 n15 n16 q17 h20 ⟨i, q, hx, hi, F20, G20, A20, n20⟩
 simp only [List.cons.injEq, AV.sl.injEq, AV.int.injEq, true_and, and_true] at hx
 obtain ⟨rfl, rfl, rfl, rfl, rfl, rfl, rfl⟩ := hx
 refine vif_mk (fun g2 => ?_) (fun g2 => ?_)
 ·replace g2 := of_decide_eq_true g2
  have hil : i < n.ins.length := by omega
  have hd2 : n.ins.drop i = n.ins[i] :: n.ins.drop (i + 1) := List.drop_eq_getElem_cons hil
  rw [hd2, nsB_cons, List.append_assoc] at G20
  have gx : small n.ins[i] := g.ins _ (List.getElem_mem hil)
  refine vptr_mk ⟨_, kb_at G20.at' (k := 0) rfl, read_num G20 gx fun h24 F24 G24 => ⟨_, rfl, rfl, pnew_mk ?_⟩⟩
  have F24' := F20.trans F24
  have x27 : Ext h24 (h24 ++ [Blk.cells [.int .i64 n.ins[i]] true]) := .app _ _
  have Hn : HasL intE (h24 ++ [Blk.cells [.int .i64 n.ins[i]] true]) (some ⟨h24.length, 0, 1, 1, 0⟩) [n.ins[i]] := HasL.new (n := 1) rfl rfl
  have A24 : Apd intE h24 q13 (n.ins.take i) := A20.keeps F24.keeps fun s hs hc => by have := n20 s hs; have hc : s.b = p := hc; omega
  have A27 := A24.ext x27
  have l27 : (h24 ++ [Blk.cells [AV.int .i64 n.ins[i]] true]).length = h24.length + 1 := by simp
  have G27 := G24.keeps (keeps_of_ext x27) (X := fun _ => False) (fun _ _ h => h)
  generalize h24 ++ [Blk.cells [AV.int .i64 n.ins[i]] true] = h27 at *
  refine ⟨rfl, ?_⟩
  refine Apd.append (E := intE) A27 Hn (by rw [List.length_take]; simp only [List.length_cons, List.length_nil]; have := g.len; omega) fun q28 h29 A29 K29 l29 b29 => ?_
  have ls := F24'.len
  rw [wrapK_i64 ⟨by omega, by have := g.len; omega⟩]
  refine ⟨⟨trivial, rfl, trivial⟩, ⟨i + 1, q28, by simp, by omega, ⟨fun b B hb hB => K29 b B (fun ⟨s, hs, hc⟩ => ?_) (x27 _ _ (F24'.keeps b B hb hB)), by omega⟩, G27.keeps K29 (fun b hb ⟨s, hs, hc⟩ => by have := n20 s hs; omega), ?_, fun s hs => ?_⟩, by simp only; omega⟩
  ·have := n20 s hs
   have := lt_of_get hB
   omega
  ·rw [List.take_add_one, List.getElem?_eq_getElem hil]; exact A29
  ·rcases b29 s hs with h1 | ⟨t, ht, h1⟩
   ·omega
   ·rw [← h1]; exact n20 t ht
 ·replace g2 := of_decide_eq_false g2
  have hie : i = n.ins.length := by omega
  subst hie
  rw [List.drop_length] at G20
  rw [List.take_length] at A20
  have G20' : GR h20 r p (nB n.k ++ (nB n.a ++ (nB n.A ++ (f n.body ++ rest)))) := G20
  refine vptr_mk ⟨_, kb_at G20'.at' (k := 0) rfl, vptr_mk ⟨_, kb_at G20'.at' (k := 0) rfl, read_num G20' g.k fun h35 F35 G35 => ⟨_, rfl, ⟨_, kb_at G35.at' (k := 0) rfl, rfl⟩, ?_⟩⟩⟩
  refine read_num G35 g.a fun h38 F38 G38 => ⟨_, rfl, ?_⟩
  refine vptr_mk ⟨_, kb_at G38.at' (k := 0) rfl, read_num G38 g.A fun h43 F43 G43 => ⟨_, rfl, ?_⟩⟩
  have F43' := ((F20.trans F35).trans F38).trans F43
  have hw : wrapK .i64 (deep - 1) = deep - 1 := by rw [wrapK_i64 ⟨by omega, by omega⟩]
  rw [hw]
  refine hrec F43'.len G43 fun q47 h46 F46 G46 N46 => ⟨_, rfl, ?_⟩
  have F2043 := ((F35.trans F38).trans F43).trans F46
  have A46 := A20.keeps F2043.keeps fun s hs hc => by have := n20 s hs; have hc : s.b = p := hc; omega
  obtain ⟨L, m1, m2, m3, m4⟩ := N46
  have l43 := F43'.len
  refine hQ ⟨n.op, q13, n.k, n.a, n.A, q47⟩ h46 (F43'.trans F46) G46 ?_
  have hn : n = .mk n.op n.ins n.k n.a n.A n.body := by cases n; rfl
  rw [hn]
  exact .mk A46.hasL (fun s hs => ⟨n20 s hs, HasL.live A46.hasL s hs⟩) m1 (fun s hs => ⟨by have := (m2 s hs).1; omega, (m2 s hs).2⟩) m3 fun i c n a b => (m4 i c n a b).keeps (X := fun _ => False) (.refl _ _) (fun _ _ h => h) fun b hb hl => ⟨by omega, hl⟩)
end
section
variable {h h' : Heap} {Q : AV → Heap → Prop} {r p : Nat} {rest : Bs} {l : List NT} {n : NT} {f : List NT → Bs} {q : Option SL}
set_option maxRecDepth 20000 in
theorem y248g {deep : Int} (G : GR h r p (pl f l ++ rest)) (hr : r < h.length) (hl : l.length ≤ 32) (hd : deep = 0 ∨ deep = 1)
  (hnode : ∀ n ∈ l, ∀ {h1 : Heap} {Q1 : AV → Heap → Prop} {rest1 : Bs}, h.length ≤ h1.length → GR h1 r p (nodeB f n ++ rest1) → (∀ c h', Fr p h1 h' → GR h' r p rest1 → NodeF (fun b => h1.length ≤ b ∧ b < h'.length) h' c n → Q1 (.agg c.cs) h') → AC Tryz.prog 316 [.ptr (some ⟨r, 0⟩), .int .i64 deep] h1 Q1)
  (hQ : ∀ q h', Fr p h h' → GR h' r p rest → NodesF (fun b => h.length ≤ b ∧ b < h'.length) h' q l → Q (.sl q) h') : AC Tryz.prog 248 [.ptr (some ⟨r, 0⟩), .int .i64 deep] h Q := ac248 (by
 have hp := G.pr
 unfold vc248
 refine vif_mk (fun g => by replace g := of_decide_eq_true g; omega) (fun _ => ?_)
 have e0 : pl f l ++ rest = nB ((l.length : Nat) : Int) ++ (l.flatMap (nodeB f) ++ rest) := by
  unfold pl
  rw [List.append_assoc, nsB_cons]
  simp [nsB]
 rw [e0] at G
 refine y314 (most := 32) G ⟨by omega, by omega⟩ (by omega) fun h31 F31 G31 => ⟨_, rfl, ?_⟩
 refine ⟨fun xs h7 => ∃ (i : Nat) (q : Option SL) (L : List NC), xs = [.sl q, .int .i64 ((l.length : Int) - (i : Nat))] ∧ i ≤ l.length ∧ Fr p h h7 ∧ GR h7 r p ((l.drop i).flatMap (nodeB f) ++ rest) ∧ Apd nodeE h7 q L ∧ L.length = i ∧ (∀ s, q = some s → h.length ≤ s.b) ∧ (∀ (j : Nat) (c : NC) (n : NT), L[j]? = some c → l[j]? = some n → NodeF (fun b => (h.length ≤ b ∧ b < h7.length) ∧ ∀ s, q = some s → s.b ≠ b) h7 c n), fun xs _ => match xs with | [_, .int _ n] => n.toNat | _ => 0, ⟨0, none, [], by simp, by omega, F31, by simpa using G31, .inl ⟨rfl, rfl⟩, rfl, (fun s hs => by cases hs), by simp⟩, ?_⟩
 rintro q33 n34 h37 ⟨i, q', L, hx, hi, F37, G37, A37, hL, n37, N37⟩
 simp only [List.cons.injEq, AV.sl.injEq, AV.int.injEq, true_and, and_true] at hx
 obtain ⟨rfl, rfl⟩ := hx
 refine vif_mk (fun g => ?_) (fun g => ?_)
 ·replace g := of_decide_eq_true g
  have hil : i < l.length := by omega
  have hn : l[i]? = some l[i] := List.getElem?_eq_getElem hil
  refine vptr_mk ⟨false, kb_at G37.at' (k := 1) rfl, vif_mk (fun _ => ?_) (fun g => by simp at g)⟩
  refine vptr_mk ⟨_, kb_at G37.at' (k := 0) rfl, e315 G37.rd ⟨_, rfl, vif_mk (fun _ => ?_) (fun g => by simp at g)⟩⟩
  have hdr : l.drop i = l[i] :: l.drop (i + 1) := List.drop_eq_getElem_cons hil
  rw [hdr, List.flatMap_cons, List.append_assoc] at G37
  have l37 := F37.len
  have lq := HasL.live A37.hasL
  refine hnode l[i] (List.getElem_mem hil) l37 G37 fun c h46 F46 G46 N46 => ⟨_, _, _, _, _, _, rfl, pnew_mk ?_⟩
  have l46 := F46.len
  have x54 : Ext h46 (h46 ++ [Blk.cells c.cs true]) := .app _ _
  have Hn : HasL nodeE (h46 ++ [Blk.cells c.cs true]) (some ⟨h46.length, 0, 1, 1, 0⟩) [c] := HasL.new (n := 1) rfl (by simp [Enc.all, nodeE])
  have A46 : Apd nodeE h46 q33 L := A37.keeps F46.keeps fun s hs hc => by have := n37 s hs; have hc : s.b = p := hc; omega
  have A54 := A46.ext x54
  have l54 : (h46 ++ [Blk.cells c.cs true]).length = h46.length + 1 := by simp
  have G54 := G46.keeps (keeps_of_ext x54) (X := fun _ => False) (fun _ _ h => h)
  have N54 : ∀ (j : Nat) (c2 : NC) (n : NT), L[j]? = some c2 → l[j]? = some n → NodeF (fun b => (h.length ≤ b ∧ b < h37.length) ∧ ∀ s, q33 = some s → s.b ≠ b) (h46 ++ [Blk.cells c.cs true]) c2 n := fun j c2 n a b =>
   ((N37 j c2 n a b).keeps F46.keeps (fun b hb hc => by have hc : b = p := hc; have := hb.1.1; omega) (fun b hb _ => hb)).keeps (keeps_of_ext x54) (X := fun _ => False) (fun _ _ h => h) (fun b hb _ => hb)
  have Nc : NodeF (fun b => h37.length ≤ b ∧ b < h46.length) (h46 ++ [Blk.cells c.cs true]) c l[i] := N46.keeps (keeps_of_ext x54) (X := fun _ => False) (fun _ _ h => h) (fun b hb _ => hb)
  show PAppendS 6 80 q33 (some ⟨h46.length, 0, 1, 1, 0⟩) (h46 ++ [Blk.cells c.cs true]) _
  generalize h46 ++ [Blk.cells c.cs true] = h54 at *
  refine Apd.append (E := nodeE) A54 Hn (by simp only [List.length_cons, List.length_nil]; omega) fun q55 h56 A56 K56 l56 b56 => ?_
  have hw : wrapK .i64 ((l.length : Int) - (i : Nat) - 1) = (l.length : Int) - ((i + 1 : Nat) : Int) := by rw [wrapK_i64 ⟨by omega, by omega⟩]; omega
  rw [hw]
  have ncase : ∀ s, q55 = some s → h54.length ≤ s.b ∨ ∃ t, q33 = some t ∧ t.b = s.b := b56
  refine ⟨trivial, ⟨i + 1, q55, L ++ [c], rfl, by omega, ⟨fun b B hb hB => K56 b B (fun ⟨s, hs, hc⟩ => ?_) (x54 _ _ (F46.keeps b B hb (F37.keeps b B hb hB))), by omega⟩, G54.keeps K56 (fun b hb ⟨s, hs, hc⟩ => by have := n37 s hs; omega), A56, by simp [hL], fun s hs => ?_, fun j c2 n hc2 hn2 => ?_⟩, by simp only; omega⟩
  ·have := n37 s hs
   have := lt_of_get hB
   omega
  ·rcases ncase s hs with h1 | ⟨t, ht, h1⟩
   ·omega
   ·rw [← h1]; exact n37 t ht
  ·have hkeep : ∀ {F : Nat → Prop} {c3 : NC} {n3 : NT}, NodeF F h54 c3 n3 → (∀ b, F b → (h.length ≤ b ∧ b < h54.length) ∧ ∀ s, q33 = some s → s.b ≠ b) → NodeF (fun b => (h.length ≤ b ∧ b < h56.length) ∧ ∀ s, q55 = some s → s.b ≠ b) h56 c3 n3 := fun {F c3 n3} N hF => N.keeps K56 (fun b hb ⟨s, hs, hc⟩ => (hF b hb).2 s hs hc) fun b hb hlb => by
    obtain ⟨f1, f2⟩ := hF b hb
    refine ⟨⟨f1.1, by omega⟩, fun s hs hc => ?_⟩
    rcases ncase s hs with h1 | ⟨t, ht, h1⟩
    ·omega
    ·exact f2 t ht (by rw [h1, hc])
   rcases Nat.lt_or_ge j L.length with hj | hj
   ·rw [List.getElem?_append_left hj] at hc2
    exact hkeep (N54 j c2 n hc2 hn2) fun b hb => ⟨⟨hb.1.1, by have := hb.1.2; omega⟩, hb.2⟩
   ·rw [List.getElem?_append_right hj] at hc2
    have hj0 : j - L.length = 0 := by
     have := lt_of_get hc2
     simp only [List.length_cons, List.length_nil] at this
     omega
    rw [hj0] at hc2
    cases hc2
    have hji : j = i := by omega
    rw [hji, hn] at hn2
    cases hn2
    exact hkeep Nc fun b hb => ⟨⟨by omega, by omega⟩, fun s hs hc => by have := lq s hs; omega⟩
 ·replace g := of_decide_eq_false g
  have hie : i = l.length := by omega
  subst hie
  rw [List.drop_length] at G37
  exact hQ _ _ F37 G37 ⟨L, A37.hasL, fun s hs => ⟨n37 s hs, HasL.live A37.hasL s hs⟩, hL, fun j c n a b => (N37 j c n a b).keeps (X := fun _ => False) (.refl _ _) (fun _ _ h => h) fun b hb _ => hb.1⟩)
theorem get_nodes (G : GR h r p (P2 l ++ rest)) (hr : r < h.length) (g : Rg2 l) (hQ : ∀ q h', Fr p h h' → GR h' r p rest → NodesF (fun b => h.length ≤ b ∧ b < h'.length) h' q l → Q (.sl q) h') : AC Tryz.prog 248 [.ptr (some ⟨r, 0⟩), .int .i64 1] h Q := by
 refine y248g (f := P1) (deep := 1) G hr g.1 (.inr rfl) (fun n hn {h1 Q1 rest1} l1 G1 hQ1 => ?_) hQ
 obtain ⟨g1, g2, g3⟩ := g.2 n hn
 refine y316g (f := P1) (deep := 1) G1 (by omega) g1 (.inr rfl) (fun {h2 Q2} l2 G2 hQ2 => ?_) hQ1
 refine y248g (f := P0) (deep := 0) G2 (by omega) g2 (.inl rfl) (fun m hm {h3 Q3 rest3} l3 G3 hQ3 => ?_) hQ2
 obtain ⟨k1, k2⟩ := g3 m hm
 refine y316g (f := P0) (deep := 0) G3 (by omega) k1 (.inl rfl) (fun {h4 Q4} l4 G4 hQ4 => ?_) hQ3
 exact y248n G4 k2 fun h5 F5 G5 => hQ4 none h5 F5 G5 ⟨[], rfl, (fun s hs => by cases hs), by rw [k2]; rfl, by simp⟩
theorem OkG.lens {out : Int} (G : OkG l out) : Lens l := by
 have g := G.rg
 refine ⟨by have := g.1; omega, fun n hn => ⟨by have := (g.2 n hn).1.len; omega, fun m hm => by have := ((g.2 n hn).2.2 m hm).1.len; omega⟩⟩
theorem y173 {out : Int} (H : HasL byE h q (P2 l ++ nsB [out])) (O : OkG l out) (hQ : ∀ q' h', Ext h h' → NodesR h' q' l → Q (.tup [.agg [.sl q', .int .i64 out], .int .i64 0]) h') : AC Tryz.prog 173 [.sl q] h Q := ac173 (by
 unfold vc173
 have h2l : (P2 l ++ nsB [out]).length ≤ 100000 := by
  have h1 := nodesB_len (f := P1) (l := l) fun n hn => ⟨(O.rg.2 n hn).1, P1_len (O.rg.2 n hn).2.1 (O.rg.2 n hn).2.2⟩
  have h3 := nsB_len (ns := [((l.length : Nat) : Int)]) (fun m hm => by rw [List.mem_singleton] at hm; subst hm; exact ⟨by omega, by have := O.len.2; omega⟩)
  have h4 := nsB_len (ns := [out]) (fun m hm => by rw [List.mem_singleton] at hm; subst hm; exact ⟨O.out.1, by have := O.out.2; have := O.len.2; omega⟩)
  have := O.len.2
  unfold P2 pl
  simp only [List.length_append, List.length_cons, List.length_nil] at h3 h4 ⊢
  omega
 refine e247 H h2l fun p h3 x3 hp R3 => ⟨_, rfl, pnew_mk ?_⟩
 have x6 : Ext h3 (h3 ++ [Blk.cells [.ptr (some ⟨p, 0⟩), .bool false] true]) := .app _ _
 have b6 : (h3 ++ [Blk.cells [AV.ptr (some ⟨p, 0⟩), .bool false] true])[h3.length]? = some (.cells [.ptr (some ⟨p, 0⟩), .bool false] true) := by simp
 have l6 : (h3 ++ [Blk.cells [AV.ptr (some ⟨p, 0⟩), .bool false] true]).length = h3.length + 1 := by simp
 have R6 := R3.ext x6
 have hpl := R3.live
 generalize h3 ++ [Blk.cells [AV.ptr (some ⟨p, 0⟩), .bool false] true] = h6 at *
 have G6 : GR h6 h3.length p (P2 l ++ nsB [out]) := ⟨b6, R6, hpl, h2l⟩
 refine get_nodes G6 (by omega) O.rg fun q9 h8 F8 G8 N8 => ⟨_, rfl, _, kb_at G8.at' (k := 0) rfl, ?_⟩
 have G8' : GR h8 h3.length p (nB out ++ []) := G8
 have ho : small out := ⟨O.out.1, by have := O.out.2; have := O.len.2; omega⟩
 refine read_num G8' ho fun h12 F12 G12 => ⟨_, rfl, false, kb_at G12.at' (k := 1) rfl, ?_⟩
 refine vif_mk (fun g => by simp at g) (fun _ => ⟨_, kb_at G12.at' (k := 0) rfl, ?_⟩)
 refine e250 G12.rd ⟨_, rfl, ?_⟩
 refine vif_mk (fun g => by simp at g) (fun _ => ?_)
 have x012 : Ext h h12 := fun b B hB => F12.keeps b B (fun hc => by have hc : b = p := hc; have := lt_of_get hB; omega) (F8.keeps b B (fun hc => by have hc : b = p := hc; have := lt_of_get hB; omega) (x6 _ _ (x3 _ _ hB)))
 have N12 : NodesR h12 q9 l := by
  obtain ⟨L, m1, m2, m3, m4⟩ := N8
  have hX : ∀ b, (h6.length ≤ b ∧ b < h8.length) → ¬ b = p := fun b hb hc => by omega
  exact ⟨L, F12.keeps.hasL (fun s hs => hX _ (m2 s hs)) m1, m3, fun i c n a b => ((m4 i c n a b).keeps F12.keeps hX (F' := fun _ => True) fun _ _ _ => trivial).r⟩
 refine y244 N12 O.lens fun e h20 x20 he0 he1 => ⟨_, rfl, ?_⟩
 rw [he0 O]
 refine vif_mk (fun g => by simp at g) (fun _ => ?_)
 exact hQ q9 h20 (x012.trans x20) (N12.mono x20))
end
end Go.Proofs.YtafmabnolelknaaGreatDoor
