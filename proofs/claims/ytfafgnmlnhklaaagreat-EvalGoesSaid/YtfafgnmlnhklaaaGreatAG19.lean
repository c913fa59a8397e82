/- Bags that came in. -/
import Derived.Test.YtfafgnmlnhklaaaGreatAG12
import Derived.Test.YtfafgnmlnhklaaaGreatAG16
import Derived.Test.YtfafgnmlnhklaaaGreatAG17
import Derived.Test.YtfafgnmlnhklaaaGreatAG18
namespace Go.Proofs.YtfafgnmlnhklaaaGreat
open Go.Ab
open Go.ChangeShapes Go.WideShapes Go.ChangeAt Go.RowKit
set_option linter.unusedVariables false
set_option linter.unusedSimpArgs false

section
variable {H : Type} {enc : TypeId × Value → H} {W : World}
set_option maxRecDepth 100000 in
theorem rec_in (n : Nat) (cs' : List Value) (y : DataW H × List MemPlace) (h : DataW.trod enc Tryz.prog W 0 (fun _ => true) true n 56 cs' = some y) (hl : cs'.length = recE.sz) : ∃ a, ∀ μ, relL μ (recE.f a) cs' := by
  obtain ⟨y0, y1, n', _, _, h0, h1⟩ := trod_struct2 Tryz.underlying56 h
  match cs', hl with
  | [c0, c1], _ =>
    have h0 : DataW.trod enc Tryz.prog W 0 (fun _ => true) true n' 3 [c0] = some y0 := h0
    have h1 : DataW.trod enc Tryz.prog W 0 (fun _ => true) true n' 3 [c1] = some y1 := h1
    obtain ⟨a, e0, _, _⟩ := DataW.trod_int Tryz.underlying3 h0
    obtain ⟨b, e1, _, _⟩ := DataW.trod_int Tryz.underlying3 h1
    simp at e0 e1
    subst e0 e1
    exact ⟨(a, b), fun μ => ⟨_, _, rfl, rfl, _, _, rfl, rfl, rfl⟩⟩

set_option maxRecDepth 100000 in
/-- A bag that came in. -/
theorem bag_in {v : Value} {d : DataW H} {p : List MemPlace} {r : Reach} {base : Nat} (hv0 : Value.okWide Tryz.prog W r base 28 v) (h : DataW.Trod enc Tryz.prog W 0 (fun _ => true) true 28 v d p) {μ : Ren} {hp : Heap} (HH : HRel μ hp W) (ro : ReadOnly hp) :
    ∃ (l1 : Ren) (bs : Heap) (q : Option SL) (l : List Rec), HRel (μ ++ l1) (hp ++ bs) W ∧ ReadOnly (hp ++ bs) ∧ AV.rel (μ ++ l1) (.sl q) v ∧ HasL recE (hp ++ bs) q l := by
  have hv : Cell.okWide Tryz.prog W r base 28 v := by
    unfold Value.okWide at hv0
    rw [Tryz.underlying28] at hv0
    exact hv0
  obtain ⟨fuel, hf⟩ := h
  have hc : v.cells.toList = [v] := by
    rcases cell_slice Tryz.underlying28 hv with rfl | ⟨b, o, len, cap, rfl, _, _⟩ <;> simp [Value.cells]
  rw [hc] at hf
  exact slice_in recE Tryz.underlying28 (by kernel_rfl) rec_in hv hf HH ro
end

end Go.Proofs.YtfafgnmlnhklaaaGreat

/- Nodes and lists of bags that came in. -/
namespace Go.Proofs.YtfafgnmlnhklaaaGreat
open Go.Ab
open Go.ChangeShapes Go.WideShapes Go.ChangeAt Go.RowKit
set_option linter.unusedVariables false
set_option linter.unusedSimpArgs false

theorem addDeads {W : World} : ∀ {l : List ME} {μ : Ren} {hp : Heap}, HRel μ hp W → ReadOnly hp → (∀ e ∈ l, e.r < W.heap.size) → HRel (μ ++ l) (hp ++ List.replicate l.length .dead) W ∧ ReadOnly (hp ++ List.replicate l.length .dead)
  | [], μ, hp, H, R, _ => by simpa using ⟨H, R⟩
  | e :: l, μ, hp, H, R, hl => by
    have H1 := H.addRO R (e := e) (B := .dead) rfl (hl e (by simp)) trivial
    have R1 := R.add (B := .dead) rfl
    have := addDeads (l := l) H1 R1 (fun x hx => hl x (by simp [hx]))
    simpa [List.replicate_succ] using this

section
variable {H : Type} {enc : TypeId × Value → H} {W : World}
set_option maxRecDepth 100000 in
/-- A node that came in: of its lists nobody looks at more than how long they are. -/
theorem node_in {v : Value} {r : Reach} {base : Nat} (hv : Value.okWide Tryz.prog W r base 45 v) {μ : Ren} {hp : Heap} (HH : HRel μ hp W) (ro : ReadOnly hp) :
    ∃ (l1 : Ren) (bs : Heap) (op k a A : Int) (q2 q6 : Option SL), HRel (μ ++ l1) (hp ++ bs) W ∧ ReadOnly (hp ++ bs) ∧ AV.rel (μ ++ l1) (.agg [.int .i64 op, .sl q2, .int .i64 k, .int .i64 a, .int .i64 A, .sl q6]) v := by
  obtain ⟨cs, rfl, hl, hc⟩ := row_cells (ts := [3, 41, 3, 3, 3, 22]) Tryz.underlying45 (.inl ⟨_, rfl⟩) hv (by kernel_rfl) (by kernel_rfl)
  obtain ⟨x0, g0, h0⟩ := hc 0 3 rfl
  obtain ⟨x1, g1, h1⟩ := hc 1 41 rfl
  obtain ⟨x2, g2, h2⟩ := hc 2 3 rfl
  obtain ⟨x3, g3, h3⟩ := hc 3 3 rfl
  obtain ⟨x4, g4, h4⟩ := hc 4 3 rfl
  obtain ⟨x5, g5, h5⟩ := hc 5 22 rfl
  obtain rfl : cs = [x0, x1, x2, x3, x4, x5] := by
    match cs, hl with
    | [y0, y1, y2, y3, y4, y5], _ => simp at g0 g1 g2 g3 g4 g5; simp_all
  obtain ⟨op, rfl⟩ := cell_int Tryz.underlying3 h0
  obtain ⟨k, rfl⟩ := cell_int Tryz.underlying3 h2
  obtain ⟨a, rfl⟩ := cell_int Tryz.underlying3 h3
  obtain ⟨A, rfl⟩ := cell_int Tryz.underlying3 h4
  obtain ⟨q2, l2, _, e2, r2⟩ := dead_slice Tryz.underlying41 h1 μ.length
  have r2 := r2 μ rfl
  obtain ⟨q6, l6, _, e6, r6⟩ := dead_slice Tryz.underlying22 h5 (μ ++ l2).length
  have r6 := r6 (μ ++ l2) rfl
  obtain ⟨K1, R1⟩ := addDeads (l := l2 ++ l6) HH ro (fun e he => by rcases List.mem_append.1 he with he | he; exact e2 e he; exact e6 e he)
  refine ⟨l2 ++ l6, _, op, k, a, A, q2, q6, K1, R1, ?_⟩
  refine ⟨_, rfl, _, _, rfl, rfl, _, _, rfl, r2 _ (by rw [← List.append_assoc]; exact Ren.le_append _ _), _, _, rfl, rfl, _, _, rfl, rfl, _, _, rfl, rfl, _, _, rfl, r6 _ (by rw [List.append_assoc]; exact Ren.le.refl _), rfl⟩

set_option maxRecDepth 100000 in
theorem okc29 {v : Value} {r : Reach} {base : Nat} (hv0 : Value.okWide Tryz.prog W r base 25 v) : Cell.okWide Tryz.prog W r base 25 v := by
  unfold Value.okWide at hv0
  rw [Tryz.underlying25] at hv0
  exact hv0
set_option maxRecDepth 100000 in
/-- Bags that came in. -/
theorem bags_in {v : Value} {d : DataW H} {p : List MemPlace} {r : Reach} {base : Nat} (hv : Value.okWide Tryz.prog W r base 25 v) (h : DataW.Trod enc Tryz.prog W 0 (fun _ => true) true 25 v d p) :
    ∃ (μ : Ren) (hp : Heap) (q : Option SL) (ls : List (List Rec)), HRel μ hp W ∧ ReadOnly hp ∧ AV.rel μ (.sl q) v ∧ InGG (fun b => b < hp.length) hp q ls := by
  obtain ⟨μ, hp, q, L, l, k1, k2, k3, k4, k5, k6, k7⟩ := nested_in slE (fun h q l => HasL recE h q l) (fun x Hl => Hl.mono x) Tryz.underlying25 (by kernel_rfl) (fun n cs' y hy hl μ hp HH ro b0 c0 rw0 hb => by
    match cs', hl with
    | [c], _ =>
      obtain ⟨l1, bs, q, l, k1, k2, k3, k4⟩ := slice_in0 recE Tryz.underlying28 (by kernel_rfl) rec_in hy HH ro hb
      exact ⟨l1, bs, q, l, k1, k2, ⟨_, _, rfl, k3, rfl⟩, k4⟩) (okc29 hv) h
  exact ⟨μ, hp, q, l, k1, k2, k3, L, k4, k5, fun s hs => k4.live s hs, fun i s g hs hg => ⟨k7 i s g hs hg, fun u hu => (k7 i s g hs hg).live u hu⟩⟩
end

end Go.Proofs.YtfafgnmlnhklaaaGreat

/- Nodes as trees; what stands for them in the heap; graphs that came in. -/
namespace Go.Proofs.YtfafgnmlnhklaaaGreat
open Go.Ab
open Go.ChangeShapes Go.WideShapes Go.ChangeAt Go.RowKit
set_option linter.unusedVariables false
set_option linter.unusedSimpArgs false

/-- A node, with its body's. -/
inductive NT where
  | mk (op : Int) (ins : List Int) (k a A : Int) (body : List NT)
instance : Inhabited NT := ⟨.mk 0 [] 0 0 0 []⟩
namespace NT
def op : NT → Int | .mk o _ _ _ _ _ => o
def ins : NT → List Int | .mk _ i _ _ _ _ => i
def k : NT → Int | .mk _ _ k _ _ _ => k
def a : NT → Int | .mk _ _ _ a _ _ => a
def A : NT → Int | .mk _ _ _ _ A _ => A
def body : NT → List NT | .mk _ _ _ _ _ b => b
end NT
/-- A node's cells. -/
structure NC where
  op : Int
  qi : Option SL
  k : Int
  a : Int
  A : Int
  qb : Option SL
instance : Inhabited NC := ⟨⟨0, none, 0, 0, 0, none⟩⟩
def NC.cs (c : NC) : List AV := [.int .i64 c.op, .sl c.qi, .int .i64 c.k, .int .i64 c.a, .int .i64 c.A, .sl c.qb]
def nodeE : Enc NC := ⟨6, NC.cs, fun _ => rfl, by omega, fun _ => rfl⟩

inductive NodeR (h : Heap) : NC → NT → Prop where
  | mk {op k a A : Int} {qi qb : Option SL} {ins : List Int} {body : List NT} {L : List NC} (hi : HasL intE h qi ins) (hb : HasL nodeE h qb L) (hl : L.length = body.length)
      (he : ∀ (i : Nat) (c : NC) (n : NT), L[i]? = some c → body[i]? = some n → NodeR h c n) : NodeR h ⟨op, qi, k, a, A, qb⟩ (.mk op ins k a A body)
/-- A list of nodes. -/
def NodesR (h : Heap) (q : Option SL) (l : List NT) : Prop := ∃ L : List NC, HasL nodeE h q L ∧ L.length = l.length ∧ ∀ (i : Nat) (c : NC) (n : NT), L[i]? = some c → l[i]? = some n → NodeR h c n

theorem NodeR.mono {h h' : Heap} (x : Ext h h') {c : NC} {n : NT} (r : NodeR h c n) : NodeR h' c n := by
  induction r with
  | mk hi hb hl he ih => exact .mk (hi.mono x) (hb.mono x) hl ih
theorem NodesR.mono {h h' : Heap} {q : Option SL} {l : List NT} (x : Ext h h') (r : NodesR h q l) : NodesR h' q l := by
  obtain ⟨L, h1, h2, h3⟩ := r
  exact ⟨L, h1.mono x, h2, fun i c n hc hn => (h3 i c n hc hn).mono x⟩
theorem NodesR.len {h : Heap} {q : Option SL} {l : List NT} (r : NodesR h q l) : slLen q = l.length := by
  obtain ⟨L, h1, h2, _⟩ := r
  rw [h1.len, h2]
theorem NodeR.ins {h : Heap} {c : NC} {n : NT} (r : NodeR h c n) : HasL intE h c.qi n.ins := by
  cases r with | mk hi hb hl he => exact hi
theorem NodeR.body {h : Heap} {c : NC} {n : NT} (r : NodeR h c n) : NodesR h c.qb n.body := by
  cases r with | mk hi hb hl he => exact ⟨_, hb, hl, he⟩
theorem NodeR.same {h : Heap} {c : NC} {n : NT} (r : NodeR h c n) : c.op = n.op ∧ c.k = n.k ∧ c.a = n.a ∧ c.A = n.A := by
  cases r with | mk hi hb hl he => exact ⟨rfl, rfl, rfl, rfl⟩
theorem NodesR.idx {h : Heap} {q : Option SL} {l : List NT} (r : NodesR h q l) {i : Nat} (hi : i < l.length) {ix : Int} (hix : ix = i) {K : PA → Prop} (hK : ∀ p c n, l[i]? = some n → cellsAt h p 6 = some c.cs → NodeR h c n → K p) : vIdx q ix 6 K := by
  obtain ⟨L, h1, h2, h3⟩ := r
  refine h1.idx (E := nodeE) (by omega) (by omega) fun p c hc hcx => ?_
  have e : ix.toNat = i := by omega
  rw [e] at hc
  have hn : l[i]? = some l[i] := List.getElem?_eq_getElem hi
  exact hK p c _ hn hcx (h3 i c _ hc hn)
theorem NodesR.idx6 {h : Heap} {q : Option SL} {l : List NT} (r : NodesR h q l) {i : Nat} (hi : i < l.length) {ix : Int} (hix : ix = i) {K : PA → Int → Option SL → Int → Int → Int → Option SL → Prop}
    (hK : ∀ p c n, l[i]? = some n → NodeR h c n → K p c.op c.qi c.k c.a c.A c.qb) :
    vIdx q ix 6 fun p7 => ∃ n8 : Int, ∃ q9 : Option SL, ∃ n10 : Int, ∃ n11 : Int, ∃ n12 : Int, ∃ q13 : Option SL, cellsAt h p7 6 = some [.int .i64 n8, .sl q9, .int .i64 n10, .int .i64 n11, .int .i64 n12, .sl q13] ∧ K p7 n8 q9 n10 n11 n12 q13 :=
  r.idx hi hix fun p c n hn hc hr => ⟨_, _, _, _, _, _, hc, hK p c n hn hr⟩

section
variable {H : Type} {enc : TypeId × Value → H} {W : World}
theorem int_in (n : Nat) (cs' : List Value) (y : DataW H × List MemPlace) (h : DataW.trod enc Tryz.prog W 0 (fun _ => true) true n 3 cs' = some y) (hl : cs'.length = intE.sz) : ∃ a, ∀ μ, relL μ (intE.f a) cs' := by
  match cs', hl with
  | [c0], _ =>
    obtain ⟨a, e0, _, _⟩ := DataW.trod_int Tryz.underlying3 h
    simp at e0
    subst e0
    exact ⟨a, fun μ => ⟨_, _, rfl, rfl, rfl⟩⟩
set_option maxRecDepth 100000 in
theorem node_tree : ∀ (m : Nat) (n : Nat) (cs' : List Value) (y : DataW H × List MemPlace), SizeOf.sizeOf y.1 ≤ m → DataW.trod enc Tryz.prog W 0 (fun _ => true) true n 45 cs' = some y → cs'.length = 6 → ∀ (μ : Ren) (hp : Heap), HRel μ hp W → ReadOnly hp → ∀ (b0 : Nat) (c0 : List AV) (rw0 : Bool), hp[b0]? = some (.cells c0 rw0) →
      ∃ (l1 : Ren) (bs : Heap) (c : NC) (t : NT), HRel (μ ++ l1) (hp ++ bs) W ∧ ReadOnly (hp ++ bs) ∧ relL (μ ++ l1) (nodeE.f c) cs' ∧ NodeR (hp ++ bs) c t := by
  intro m
  induction m with
  | zero =>
    intro n cs' y hy
    exfalso
    cases hd : y.1 <;> rw [hd] at hy <;> simp at hy
  | succ m ih =>
    intro n cs' y hy h hl μ hp HH ro b0 c0 rw0 hb0
    obtain ⟨xs, n', _, rfl, _, hlen, hf⟩ := DataW.trod_struct Tryz.underlying45 h
    match cs', hl with
    | [v0, v1, v2, v3, v4, v5], _ =>
    match xs, hlen with
    | [y0, y1, y2, y3, y4], _ =>
      have h0 : DataW.trod enc Tryz.prog W 0 (fun _ => true) true n' 3 [v0] = some y0 := hf 0 _ rfl
      have h1 : DataW.trod enc Tryz.prog W 0 (fun _ => true) true n' 41 [v1] = some y1 := hf 1 _ rfl
      have h2 : DataW.trod enc Tryz.prog W 0 (fun _ => true) true n' 43 [v2, v3] = some y2 := hf 2 _ rfl
      have h3 : DataW.trod enc Tryz.prog W 0 (fun _ => true) true n' 3 [v4] = some y3 := hf 3 _ rfl
      have h4 : DataW.trod enc Tryz.prog W 0 (fun _ => true) true n' 22 [v5] = some y4 := hf 4 _ rfl
      obtain ⟨op, e0, _, _⟩ := DataW.trod_int Tryz.underlying3 h0
      obtain ⟨A, e3, _, _⟩ := DataW.trod_int Tryz.underlying3 h3
      obtain ⟨z0, z1, n2, _, _, g0, g1⟩ := trod_struct2 Tryz.underlying43 h2
      have g0 : DataW.trod enc Tryz.prog W 0 (fun _ => true) true n2 3 [v2] = some z0 := g0
      have g1 : DataW.trod enc Tryz.prog W 0 (fun _ => true) true n2 3 [v3] = some z1 := g1
      obtain ⟨k, e1, _, _⟩ := DataW.trod_int Tryz.underlying3 g0
      obtain ⟨a, e2, _, _⟩ := DataW.trod_int Tryz.underlying3 g1
      simp at e0 e1 e2 e3
      subst e0 e1 e2 e3
      obtain ⟨l1, bs1, qi, ins, i1, i2, i3, i4⟩ := slice_in0 intE Tryz.underlying41 (by kernel_rfl) int_in h1 HH ro hb0
      have hb1 : (hp ++ bs1)[b0]? = some (.cells c0 rw0) := by rw [List.getElem?_append_left (lt_of_get hb0)]; exact hb0
      have hs4 : SizeOf.sizeOf y4.1 < SizeOf.sizeOf (DataW.agg [y0.1, y1.1, y2.1, y3.1, y4.1]) := sizeOf_agg (by simp)
      have hy : SizeOf.sizeOf (DataW.agg [y0.1, y1.1, y2.1, y3.1, y4.1]) ≤ m + 1 := hy
      obtain ⟨l2, bs2, qb, L, l, j1, j2, j3, j4, j5, j6⟩ := nested_in0 nodeE NodeR (fun x r => r.mono x) Tryz.underlying22 (by kernel_rfl)
        (fun n cs' y hs => ih n cs' y (by omega)) h4 i1 i2 hb1
      have e1 : μ ++ l1 ++ l2 = μ ++ (l1 ++ l2) := List.append_assoc _ _ _
      have e2 : hp ++ bs1 ++ bs2 = hp ++ (bs1 ++ bs2) := List.append_assoc _ _ _
      refine ⟨l1 ++ l2, bs1 ++ bs2, ⟨op, qi, k, a, A, qb⟩, .mk op ins k a A l, by rw [← e1, ← e2]; exact j1, by rw [← e2]; exact j2, ?_, ?_⟩
      · rw [← e1]
        exact ⟨_, _, rfl, rfl, _, _, rfl, AV.rel.mono (Ren.le_append _ _) _ _ i3, _, _, rfl, rfl, _, _, rfl, rfl, _, _, rfl, rfl, _, _, rfl, j3, rfl⟩
      · rw [← e2]
        exact .mk (i4.mono (Ext.app _ _)) j4 j5 j6

set_option maxRecDepth 100000 in
/-- A graph that came in. -/
theorem graph_in {v : Value} {r : Reach} {base : Nat} {d : DataW H} {p : List MemPlace} (hv : Value.okWide Tryz.prog W r base 24 v) (h : DataW.Trod enc Tryz.prog W 0 (fun _ => true) true 24 v d p) {μ : Ren} {hp : Heap} (HH : HRel μ hp W) (ro : ReadOnly hp) :
    ∃ (l1 : Ren) (bs : Heap) (q : Option SL) (out : Int) (l : List NT), HRel (μ ++ l1) (hp ++ bs) W ∧ ReadOnly (hp ++ bs) ∧ AV.rel (μ ++ l1) (.agg [.sl q, .int .i64 out]) v ∧ NodesR (hp ++ bs) q l := by
  obtain ⟨cs, rfl, hl, hc⟩ := row_cells (ts := [22, 3]) Tryz.underlying24 (.inl ⟨_, rfl⟩) hv (by kernel_rfl) (by kernel_rfl)
  obtain ⟨fuel, hf⟩ := h
  match cs, hl with
  | [v0, v1], _ =>
    obtain ⟨x0, gx, hv0⟩ := hc 0 22 rfl
    simp at gx
    subst gx
    obtain ⟨y0, y1, n', _, _, h0, h1⟩ := trod_struct2 Tryz.underlying24 hf
    have h0 : DataW.trod enc Tryz.prog W 0 (fun _ => true) true n' 22 [v0] = some y0 := h0
    have h1 : DataW.trod enc Tryz.prog W 0 (fun _ => true) true n' 3 [v1] = some y1 := h1
    obtain ⟨out, e1, _, _⟩ := DataW.trod_int Tryz.underlying3 h1
    simp at e1
    subst e1
    rcases cell_slice Tryz.underlying22 hv0 with rfl | ⟨b, o, len, cap, rfl, hlc, hbl⟩
    · exact ⟨[], [], none, out, [], by simpa using HH, by simpa using ro, ⟨_, rfl, _, _, rfl, rfl, _, _, rfl, rfl, rfl⟩, [], rfl, rfl, by simp⟩
    · obtain ⟨hmax, C, tt, fz, hb⟩ := cell_slice_max Tryz.underlying22 hv0
      simp only at hb
      have H0 := HH.addRO ro (e := ⟨b, 0, C.size⟩) (B := .cells [] false) rfl hbl ⟨C, tt, fz, hb, by simp, by simp, rfl, by simp, by simp⟩
      obtain ⟨l2, bs2, qb, L, l, j1, j2, j3, j4, j5, j6⟩ := nested_in0 nodeE NodeR (fun x r => r.mono x) Tryz.underlying22 (by kernel_rfl)
        (fun n cs' y hs => node_tree _ n cs' y (Nat.le_refl _)) h0 H0 (ro.add (B := .cells [] false) rfl) (b0 := hp.length) (c0 := []) (rw0 := false) (by simp)
      have e1 : μ ++ [(⟨b, 0, C.size⟩ : ME)] ++ l2 = μ ++ ([⟨b, 0, C.size⟩] ++ l2) := List.append_assoc _ _ _
      have e2 : hp ++ [Blk.cells [] false] ++ bs2 = hp ++ ([.cells [] false] ++ bs2) := List.append_assoc _ _ _
      refine ⟨[⟨b, 0, C.size⟩] ++ l2, [.cells [] false] ++ bs2, qb, out, l, by rw [← e1, ← e2]; exact j1, by rw [← e2]; exact j2, ?_, by rw [← e2]; exact ⟨L, j4, j5, j6⟩⟩
      rw [← e1]
      exact ⟨_, rfl, _, _, rfl, j3, _, _, rfl, rfl, rfl⟩
end
end Go.Proofs.YtfafgnmlnhklaaaGreat

/- Which graphs may be: the program's check, and the reference's. -/
namespace Go.Proofs.YtfafgnmlnhklaaaGreat
open Go.Ab
set_option linter.unusedVariables false
set_option linter.unusedSimpArgs false

def famV (op : Int) : Int := if 2 ≤ op ∧ op ≤ 6 then op - 1 else 0
/-- What is asked of a node wherever it stands. -/
structure Base (n : NT) (i : Nat) : Prop where
  op : 1 ≤ n.op ∧ n.op ≤ 11
  len : n.ins.length = arityV n.op
  ins : ∀ x ∈ n.ins, 0 ≤ x ∧ x < i
  fn : if famV n.op = 0 then n.k = 0 ∧ n.a = 0 else fam n.k n.a = famV n.op
def NumOk (op A loop : Int) : Prop :=
  if op = 1 then loop = -1 ∧ 0 ≤ A ∧ A < 4 else if op = 9 then loop = -1 ∧ 1 ≤ A ∧ A ≤ 64 else if op = 10 then loop ≠ -1 ∧ A = 0 else if op = 11 then loop ≠ -1 ∧ 0 ≤ A ∧ A < loop else A = 0
/-- A node inside. -/
def OkI (loop : Nat) (n : NT) (i : Nat) : Prop := Base n i ∧ NumOk n.op n.A loop ∧ n.body = []
/-- A loop's body. -/
def OkB (l : List NT) (loop : Nat) : Prop := 1 ≤ l.length ∧ l.length ≤ 32 ∧ ∀ i n, l[i]? = some n → OkI loop n i
/-- A node. -/
def OkN (loop : Int) (n : NT) (i : Nat) : Prop := Base n i ∧ NumOk n.op n.A loop ∧ if n.op = 9 then OkB n.body i else n.body = []
def loopsV (l : List NT) : Nat := l.countP fun n => n.op == 9
/-- A graph. -/
structure OkG (l : List NT) (out : Int) : Prop where
  len : 1 ≤ l.length ∧ l.length ≤ 32
  out : 0 ≤ out ∧ out < l.length
  node : ∀ i n, l[i]? = some n → OkN (-1) n i
  one : loopsV l ≤ 1
theorem okI_iff {loop : Nat} {n : NT} {i : Nat} : OkN loop n i ↔ OkI loop n i := by
  unfold OkN OkI
  constructor
  · rintro ⟨a, b, c⟩
    refine ⟨a, b, ?_⟩
    by_cases h : n.op = 9
    · unfold NumOk at b
      rw [if_neg (by omega), if_pos h] at b
      omega
    · rwa [if_neg h] at c
  · rintro ⟨a, b, c⟩
    refine ⟨a, b, ?_⟩
    have h : n.op ≠ 9 := by
      intro h
      unfold NumOk at b
      rw [if_neg (by omega), if_pos h] at b
      omega
    rwa [if_neg h]

section
variable {h : Heap} {Q : AV → Heap → Prop} {q qi qb : Option SL} {op k a A : Int} {n : NT} {c : NC} {i : Nat} {l : List NT}
theorem c81 (hQ : ∀ f b, (b = true ↔ 1 ≤ op ∧ op ≤ 11) → f = famV op → Q (.tup [.agg [.int .i64 (arityV op : Nat), .int .i64 f], .bool b]) h) : AC Tryz.prog 81 [.int .i64 op] h Q := ac81 (by
  unfold vc81
  have hq : ∀ (m f : Int) (b : Bool), m = (arityV op : Nat) → (b = true ↔ 1 ≤ op ∧ op ≤ 11) → f = famV op → Q (.tup [.agg [.int .i64 m, .int .i64 f], .bool b]) h := by
    rintro m f b rfl h1 h2; exact hQ f b h1 h2
  unfold arityV famV at hq
  repeat' (first | refine vif_mk (fun g => ?_) (fun g => ?_))
  all_goals (simp only [beq_iff_eq, beq_eq_false_iff_ne] at *)
  all_goals (try subst op)
  all_goals (refine hq _ _ _ ?_ ?_ ?_)
  all_goals (try decide)
  · rw [if_neg (by omega), if_neg (by omega)]; rfl
  · simp; omega
  · rw [if_neg (by omega)])
theorem c111 {p : PA} {m x : Int} (hc : cellsAt h p 1 = some [.int .i64 m]) (hQ : Q (.bool (decide (0 ≤ x ∧ x < m))) h) : AC Tryz.prog 111 [.int .i64 x, .ptr (some p)] h Q := ac111 (by
  unfold vc111
  refine vif_mk (fun g => ⟨m, hc, ?_⟩) (fun g => ?_)
  · have g := of_decide_eq_true g
    have e : decide (0 ≤ x ∧ x < m) = decide (x < m) := by rw [Bool.eq_iff_iff]; simp; omega
    rw [← e]; exact hQ
  · have g := of_decide_eq_false g
    have e : decide (0 ≤ x ∧ x < m) = false := decide_eq_false (by omega)
    rw [← e]; exact hQ)
theorem c113 {p p9 : PA} {m x : Int} (hv : cellsAt h p 1 = some [.func (.func 111) [] [.ptr (some p9)]]) (hc : cellsAt h p9 1 = some [.int .i64 m]) (hQ : Q (.bool (!decide (0 ≤ x ∧ x < m))) h) : AC Tryz.prog 113 [.int .i64 x, .ptr (some p)] h Q := ac113 (by
  unfold vc113
  exact ⟨.func (.func 111) [] [.ptr (some p9)], rfl, hv, c111 hc ⟨_, rfl, hQ⟩⟩)
theorem c112 {p p9 : PA} {m : Int} {ins : List Int} (hv : cellsAt h p 1 = some [.func (.func 111) [] [.ptr (some p9)]]) (hc : cellsAt h p9 1 = some [.int .i64 m]) (H : HasL intE h q ins) (hl : ins.length ≤ 1000000)
    (hQ : ∀ b, (b = true ↔ ∃ x ∈ ins, ¬ (0 ≤ x ∧ x < m)) → Q (.bool b) h) : AC Tryz.prog 112 [.sl q, .func (.func 113) [] [.ptr (some p)]] h Q := ac112 (by
  unfold vc112
  refine ac130 ?_
  unfold vc130
  refine ⟨fun xs h6 => h6 = h ∧ ∃ i : Nat, xs = [.int .i64 i] ∧ i ≤ ins.length ∧ ∀ x ∈ ins.take i, 0 ≤ x ∧ x < m, left ins.length, ⟨rfl, 0, rfl, by omega, by simp⟩, ?_⟩
  rintro n3 h6 ⟨rfl, i, hx, hi, ha⟩
  simp only [List.cons.injEq, AV.int.injEq, true_and, and_true] at hx
  subst hx
  rw [H.len]
  refine vif_mk (fun g => ?_) (fun g => ?_)
  · replace g := of_decide_eq_true g
    refine H.idx (E := intE) (by omega) (by omega) fun p x hx hcx => ⟨x, hcx, c113 hv hc ⟨_, rfl, vif_mk (fun g1 => ?_) (fun g1 => ?_)⟩⟩
    · refine ⟨_, rfl, hQ _ ?_⟩
      simp only [decide_eq_true_eq]
      exact ⟨fun _ => ⟨x, List.mem_of_getElem? hx, by simp only [Bool.not_eq_true', decide_eq_false_iff_not] at g1; exact g1⟩, fun _ => by omega⟩
    · simp only [Int.toNat_natCast] at hx
      rw [wrapK_i64 ⟨by omega, by omega⟩]
      refine ⟨trivial, ⟨rfl, i + 1, by simp, by omega, fun y hy => ?_⟩, by simp only [left]; omega⟩
      rw [List.take_add_one, hx] at hy
      rcases List.mem_append.1 hy with hy | hy
      · exact ha y hy
      · simp only [Option.toList_some, List.mem_singleton] at hy
        subst hy; simpa using g1
  · replace g := of_decide_eq_false g
    have e : ins.take i = ins := List.take_of_length_le (by omega)
    rw [e] at ha
    refine ⟨_, rfl, hQ _ ?_⟩
    simp only [decide_eq_true_eq]
    exact ⟨fun g => by omega, fun ⟨x, hx, hn⟩ => absurd (ha x hx) hn⟩)
/-- function -/
theorem c114 {f : Int} (hQ : ∀ b, (b = true ↔ if f = 0 then k = 0 ∧ a = 0 else fam k a = f) → Q (.bool b) h) : AC Tryz.prog 114 [.agg [.int .i64 op, .sl qi, .int .i64 k, .int .i64 a, .int .i64 A, .sl qb], .int .i64 f] h Q := ac114 (by
  unfold vc114
  refine vif_mk (fun g => ?_) (fun g => ?_)
  · have g : f = 0 := by simpa using g
    exact hQ _ (by rw [if_pos g]; simp)
  · have g : f ≠ 0 := by simpa using g
    exact o48 ⟨_, rfl, hQ _ (by rw [if_neg g]; simp)⟩)
/-- number -/
theorem c115 {loop : Int} (hQ : ∀ b, (b = true ↔ NumOk op A loop) → Q (.bool b) h) : AC Tryz.prog 115 [.agg [.int .i64 op, .sl qi, .int .i64 k, .int .i64 a, .int .i64 A, .sl qb], .int .i64 loop] h Q := ac115 (by
  unfold vc115
  unfold NumOk at hQ
  repeat' (first | refine vif_mk (fun g => ?_) (fun g => ?_))
  all_goals (simp only [beq_iff_eq, beq_eq_false_iff_ne, bne_iff_ne, Bool.not_eq_true', Bool.not_eq_false', decide_eq_true_eq, decide_eq_false_iff_not, Classical.not_not, ne_eq, bne_eq_false_iff_eq] at *)
  all_goals (refine hQ _ ?_)
  all_goals (simp [*])
  all_goals (try omega))
theorem body_nil {l : List NT} : l = [] ↔ l.length = 0 := List.length_eq_zero_iff.symm
set_option maxRecDepth 20000 in
/-- node -/
theorem c88 {loop : Int} (R : NodeR h c n) (hn : n.ins.length ≤ 1000000)
    (hlist : n.op = 9 → NumOk n.op n.A loop → ∀ {h' : Heap} {Q' : AV → Heap → Prop}, Ext h h' → (∀ b h'', Ext h' h'' → (b = true ↔ OkB n.body i) → Q' (.bool b) h'') → AC Tryz.prog 55 [.sl c.qb, .int .i64 i] h' Q')
    (hQ : ∀ b h', Ext h h' → (b = true ↔ OkN loop n i) → Q (.bool b) h') : AC Tryz.prog 88 [.agg c.cs, .int .i64 i, .int .i64 loop] h Q := ac88 (by
  unfold vc88
  obtain ⟨e1, e2, e3, e4⟩ := R.same
  have no : ∀ {h'}, Ext h h' → ¬ OkN loop n i → Q (.bool false) h' := fun x hn => hQ _ _ x (by simp [hn])
  refine pnew_mk ?_
  have x10 := Ext.app h [Blk.cells [.int .i64 (i : Int)] true]
  have c10 : cellsAt (h ++ [Blk.cells [AV.int .i64 (i : Int)] true]) ⟨h.length, 0⟩ 1 = some [.int .i64 i] := by unfold cellsAt; simp
  have l10 : (h ++ [Blk.cells [AV.int .i64 (i : Int)] true]).length = h.length + 1 := by simp
  generalize h ++ [Blk.cells [.int .i64 (i : Int)] true] = h10 at *
  refine c81 fun f b hb hf => ⟨_, f, b, rfl, pnew_mk ?_⟩
  have x17 := Ext.app h10 [Blk.cells [.nilfunc] true]
  have b17 : (h10 ++ [Blk.cells [AV.nilfunc] true])[h10.length]? = some (.cells [.nilfunc] true) := by simp
  have l17 : (h10 ++ [Blk.cells [AV.nilfunc] true]).length = h10.length + 1 := by simp
  generalize h10 ++ [Blk.cells [.nilfunc] true] = h17 at *
  refine store6 (o := 0) (xs := [.func (.func 111) [] [.ptr (some ⟨h.length, 0⟩)]]) b17 (by simp) ?_
  have x18 : Ext h10 (h17.set h10.length (.cells (splice [.nilfunc] 0 [.func (.func 111) [] [.ptr (some ⟨h.length, 0⟩)]]) true)) := x17.set (Nat.le_refl _)
  have c18 : cellsAt (h17.set h10.length (.cells (splice [.nilfunc] 0 [.func (.func 111) [] [.ptr (some ⟨h.length, 0⟩)]]) true)) ⟨h10.length, 0⟩ 1 = some [.func (.func 111) [] [.ptr (some ⟨h.length, 0⟩)]] := by
    unfold cellsAt
    have := lt_of_get b17
    simp [splice, this]
  generalize h17.set h10.length _ = h18 at *
  have x := x10.trans x18
  have R18 := R.mono x
  rw [e1] at hb hf
  rw [e1, e2, e3, e4]
  refine vif_mk (fun g => no x fun ok => ?_) (fun g => ?_)
  · have := hb.2 ok.1.op
    rw [this] at g; simp at g
  rw [R18.ins.len]
  refine vif_mk (fun g1 => no x fun ok => ?_) (fun g1 => ?_)
  · rw [ok.1.len] at g1; simp at g1
  have g : b = true := by simpa using g
  have hop := hb.1 g
  have g1 : n.ins.length = arityV n.op := by
    have : ((n.ins.length : Nat) : Int) = (arityV n.op : Nat) := by simpa using g1
    omega
  refine c112 c18 (x18.cells c10) R18.ins hn fun b21 hb21 => ⟨b21, rfl, vif_mk (fun g2 => no x fun ok => ?_) (fun g2 => ?_)⟩
  · obtain ⟨y, hy, hny⟩ := hb21.1 g2
    exact hny (ok.1.ins y hy)
  have hins : ∀ y ∈ n.ins, 0 ≤ y ∧ y < i := by
    intro y hy
    apply Classical.byContradiction
    intro hc
    rw [hb21.2 ⟨y, hy, hc⟩] at g2; simp at g2
  refine c114 fun b24 hb24 => ⟨b24, rfl, vif_mk (fun g3 => no x fun ok => ?_) (fun g3 => ?_)⟩
  · have : b24 = true := hb24.2 (by rw [hf]; exact ok.1.fn)
    rw [this] at g3; simp at g3
  have hfn := hb24.1 (by simpa using g3)
  rw [hf] at hfn
  have base : Base n i := ⟨hop, g1, hins, hfn⟩
  refine c115 fun b27 hb27 => ⟨b27, rfl, vif_mk (fun g4 => no x fun ok => ?_) (fun g4 => ?_)⟩
  · have : b27 = true := hb27.2 ok.2.1
    rw [this] at g4; simp at g4
  have hnum := hb27.1 (by simpa using g4)
  refine vif_mk (fun g5 => ?_) (fun g5 => ?_)
  · have g5 : n.op ≠ 9 := by simpa using g5
    refine hQ _ _ x ?_
    unfold OkN
    rw [if_neg g5, R18.body.len, body_nil]
    simp only [base, hnum, true_and, beq_iff_eq]
    omega
  · have g5 : n.op = 9 := by simpa using g5
    refine ⟨(i : Int), x18.cells c10, hlist g5 hnum x fun b31 h30 x30 hb31 => ⟨b31, rfl, hQ _ _ (x.trans x30) ?_⟩⟩
    unfold OkN
    rw [if_pos g5]
    simp only [base, hnum, true_and]
    exact hb31)
/-- list, whatever is asked of each. -/
theorem c55g {loop : Int} {P : NT → Nat → Prop} (R : NodesR h q l)
    (hnode : l.length ≤ 32 → ∀ {i : Nat} {c : NC} {n : NT} {h' : Heap} {Q' : AV → Heap → Prop}, l[i]? = some n → Ext h h' → NodeR h' c n → (∀ b h'', Ext h' h'' → (b = true ↔ P n i) → Q' (.bool b) h'') → AC Tryz.prog 88 [.agg c.cs, .int .i64 i, .int .i64 loop] h' Q')
    (hQ : ∀ b h', Ext h h' → (b = true ↔ 1 ≤ l.length ∧ l.length ≤ 32 ∧ ∀ i n, l[i]? = some n → P n i) → Q (.bool b) h') : AC Tryz.prog 55 [.sl q, .int .i64 loop] h Q := ac55 (by
  unfold vc55
  rw [R.len]
  refine vif_mk (fun g => hQ _ _ (.refl _) ?_) (fun g => vif_mk (fun g1 => hQ _ _ (.refl _) ?_) (fun g1 => ?_))
  · have g := of_decide_eq_true g
    simp; omega
  · have g1 := of_decide_eq_true g1
    simp; omega
  have g := of_decide_eq_false g
  have g1 := of_decide_eq_false g1
  refine ⟨fun xs h6 => Ext h h6 ∧ ∃ i : Nat, xs = [.int .i64 i] ∧ i ≤ l.length ∧ ∀ j n, j < i → l[j]? = some n → P n j, left l.length, ⟨.refl _, 0, rfl, by omega, by omega⟩, ?_⟩
  rintro n3 h6 ⟨x6, i, hx, hi, ha⟩
  simp only [List.cons.injEq, AV.int.injEq, true_and, and_true] at hx
  subst hx
  refine vif_mk (fun g2 => ?_) (fun g2 => ?_)
  · replace g2 := of_decide_eq_true g2
    refine (R.mono x6).idx6 (i := i) (by omega) rfl (K := fun p n8 q9 n10 n11 n12 q13 => AC Tryz.prog 88 [.agg [.int .i64 n8, .sl q9, .int .i64 n10, .int .i64 n11, .int .i64 n12, .sl q13], .int .i64 (i : Int), .int .i64 loop] h6 _) fun p c n hn Rn => ?_
    refine hnode (by omega) hn x6 Rn fun b h15 x15 hb => ⟨b, rfl, vif_mk (fun g3 => hQ _ _ (x6.trans x15) ?_) (fun g3 => ?_)⟩
    · have g3 : b = false := by simpa using g3
      simp only [Bool.false_eq_true, false_iff]
      intro ok
      rw [hb.2 (ok.2.2 i n hn)] at g3; simp at g3
    · have g3 : b = true := by simpa using g3
      rw [wrapK_i64 ⟨by omega, by omega⟩]
      refine ⟨trivial, ⟨x6.trans x15, i + 1, by simp, by omega, fun j m hj hm => ?_⟩, by simp only [left]; omega⟩
      by_cases e : j = i
      · subst e; rw [hn] at hm; cases hm; exact hb.1 g3
      · exact ha j m (by omega) hm
  · replace g2 := of_decide_eq_false g2
    refine hQ _ _ x6 ?_
    simp only [true_iff]
    exact ⟨by omega, by omega, fun j m hm => ha j m (by have := lt_of_get hm; omega) hm⟩)
/-- a body -/
theorem c55b {loop : Nat} (R : NodesR h q l) (hn : ∀ n ∈ l, n.ins.length ≤ 1000000) (hQ : ∀ b h', Ext h h' → (b = true ↔ OkB l loop) → Q (.bool b) h') : AC Tryz.prog 55 [.sl q, .int .i64 loop] h Q :=
  c55g (P := fun n i => OkI loop n i) R (fun _ {i c n h' Q'} hln x Rn hK => c88 (loop := (loop : Int)) Rn (hn n (List.mem_of_getElem? hln)) (fun h9 hnum => by
    exfalso
    unfold NumOk at hnum
    rw [if_neg (by omega), if_pos h9] at hnum
    omega) fun b h'' x' hb => hK b h'' x' (hb.trans okI_iff)) hQ
/-- loops -/
theorem c56 {out : Int} (R : NodesR h q l) (hl : l.length ≤ 1000000) (hQ : Q (.int .i64 (loopsV l : Nat)) h) : AC Tryz.prog 56 [.agg [.sl q, .int .i64 out]] h Q := ac56 (by
  unfold vc56
  rw [R.len]
  refine ⟨fun xs h6 => h6 = h ∧ ∃ i : Nat, xs = [.int .i64 (loopsV (l.take i) : Nat), .int .i64 i] ∧ i ≤ l.length, fun xs _ => match xs with | [_, .int _ i] => (l.length - i).toNat | _ => 0, ⟨rfl, 0, rfl, by omega⟩, ?_⟩
  rintro n3 n4 h6 ⟨rfl, i, hx, hi⟩
  simp only [List.cons.injEq, AV.int.injEq, true_and, and_true] at hx
  obtain ⟨rfl, rfl⟩ := hx
  have hle : loopsV (l.take i) ≤ l.length := Nat.le_trans List.countP_le_length (by rw [List.length_take]; omega)
  refine vif_mk (fun g2 => ?_) (fun g2 => ?_)
  · replace g2 := of_decide_eq_true g2
    rw [wrapK_i64 (n := (i : Int) + 1) ⟨by omega, by omega⟩, wrapK_i64 (n := ((loopsV (l.take i) : Nat) : Int) + 1) ⟨by omega, by omega⟩]
    refine R.idx (i := i) (by omega) rfl fun p c n hn hc Rn => ⟨_, _, _, _, _, _, hc, ?_⟩
    have e := Rn.same.1
    have ls : loopsV (l.take (i + 1)) = loopsV (l.take i) + if n.op == 9 then 1 else 0 := by
      unfold loopsV
      rw [List.take_add_one, hn, List.countP_append]
      simp [List.countP_cons]
    rw [e]
    refine vif_mk (fun g3 => ?_) (fun g3 => ?_)
    · rw [if_pos g3] at ls
      exact ⟨⟨rfl, trivial⟩, ⟨rfl, i + 1, by rw [ls]; simp, by omega⟩, by simp only; omega⟩
    · rw [if_neg (by rw [g3]; simp)] at ls
      exact ⟨⟨rfl, trivial⟩, ⟨rfl, i + 1, by rw [ls]; simp, by omega⟩, by simp only; omega⟩
  · replace g2 := of_decide_eq_false g2
    have e : l.take i = l := List.take_of_length_le (by omega)
    rw [e]; exact hQ)
/-- What is to be known of trees that are looked at: nothing is too long. -/
def Lens (l : List NT) : Prop := l.length ≤ 1000000 ∧ ∀ n ∈ l, n.ins.length ≤ 1000000 ∧ ∀ m ∈ n.body, m.ins.length ≤ 1000000
/-- graph.Check -/
theorem c35 {out : Int} (R : NodesR h q l) (L : Lens l) (hQ : ∀ e h', Ext h h' → (OkG l out → e = 0) → (¬ OkG l out → e = 170) → Q (.int .i64 e) h') : AC Tryz.prog 35 [.agg [.sl q, .int .i64 out]] h Q := ac35 (by
  unfold vc35
  have no : ∀ {h'}, Ext h h' → ¬ OkG l out → Q (.int .i64 170) h' := fun x hn => hQ _ _ x (fun ok => absurd ok hn) (fun _ => rfl)
  refine c55g (P := fun n i => OkN (-1) n i) R (fun _ {i c n h' Q'} hln x Rn hK => c88 Rn (L.2 n (List.mem_of_getElem? hln)).1 (fun _ _ {h2 Q2} x2 hK2 => c55b ((Rn.mono x2).body) (fun m hm => (L.2 n (List.mem_of_getElem? hln)).2 m hm) hK2) hK) fun b h4 x4 hb => ⟨b, rfl, vif_mk (fun g => no x4 fun ok => ?_) (fun g => ?_)⟩
  · rw [hb.2 ⟨ok.len.1, ok.len.2, ok.node⟩] at g; simp at g
  obtain ⟨b1, b2, b3⟩ := hb.1 (by simpa using g)
  rw [R.len]
  refine vif_mk (fun g1 => no x4 fun ok => ?_) (fun g1 => vif_mk (fun g2 => no x4 fun ok => ?_) (fun g2 => ?_))
  · have g1 := of_decide_eq_true g1; have := ok.out; omega
  · have g2 := of_decide_eq_true g2; have := ok.out; omega
  have g1 := of_decide_eq_false g1
  have g2 := of_decide_eq_false g2
  refine c56 (R.mono x4) L.1 ⟨_, rfl, vif_mk (fun g3 => no x4 fun ok => ?_) (fun g3 => ?_)⟩
  · have g3 := of_decide_eq_true g3; have := ok.one; omega
  have g3 := of_decide_eq_false g3
  exact hQ _ _ x4 (fun _ => rfl) (fun hn => absurd ⟨⟨b1, b2⟩, ⟨by omega, by omega⟩, b3, by omega⟩ hn))
end
end Go.Proofs.YtfafgnmlnhklaaaGreat

/- The reference's check of graphs; what is too large; where the loop stands. -/
namespace Go.Proofs.YtfafgnmlnhklaaaGreat
open Go.Ab
set_option linter.unusedVariables false
set_option linter.unusedSimpArgs false

section
variable {h : Heap} {Q : AV → Heap → Prop} {q qi qb : Option SL} {op k a A : Int} {n : NT} {c : NC} {i : Nat} {l : List NT}
/-- family, of the reference. -/
theorem c86 (hQ : Q (.int .i64 (famV op)) h) : AC Tryz.prog 86 [.int .i64 op] h Q := ac86 (by
  unfold vc86
  have hq : ∀ m : Int, m = famV op → Q (.int .i64 m) h := by rintro m rfl; exact hQ
  unfold famV at hq
  repeat' (first | refine vif_mk (fun g => ?_) (fun g => ?_))
  all_goals (simp only [beq_iff_eq, beq_eq_false_iff_ne] at *)
  all_goals (try subst op)
  all_goals (refine hq _ ?_)
  all_goals (try decide)
  rw [if_neg (by omega)])
/-- A node's number, and its body. -/
theorem num53 {loop : Int} (hlp : loop = -1 ∨ 0 ≤ loop)
    (hlist : op = 9 → loop < 0 → ∀ {Q' : AV → Heap → Prop}, (∀ b h'', Ext h h'' → (b = true ↔ OkB n.body i) → Q' (.bool b) h'') → AC Tryz.prog 87 [.sl qb, .int .i64 i] h Q')
    (hq : ∀ b h', Ext h h' → (b = true ↔ NumOk op A loop ∧ (op = 9 → OkB n.body i)) → Q (.bool b) h') :
    vif (op == 1)
     (vif (decide (loop < 0))
     (vif (decide (A ≥ 0))
     (Q (.bool (decide (A < 4))) h)
     (Q (.bool false) h))
     (Q (.bool false) h))
     (vif (op == 9)
     (vif (decide (loop < 0))
     (vif (decide (A ≥ 1))
     (vif (decide (A ≤ 64))
     (AC Tryz.prog 87 [.sl qb, .int .i64 i] h fun v32 h33 => ∃ b34 : Bool, v32 = .bool b34 ∧
     Q (.bool b34) h33)
     (Q (.bool false) h))
     (Q (.bool false) h))
     (Q (.bool false) h))
     (vif (op == 10)
     (vif (decide (loop ≥ 0))
     (Q (.bool (A == 0)) h)
     (Q (.bool false) h))
     (vif (op == 11)
     (vif (decide (loop ≥ 0))
     (vif (decide (A ≥ 0))
     (Q (.bool (decide (A < loop))) h)
     (Q (.bool false) h))
     (Q (.bool false) h))
     (Q (.bool (A == 0)) h)))) := by
  by_cases h9 : op = 9
  · subst h9
    refine vif_mk (fun g => by simp at g) (fun _ => vif_mk (fun _ => ?_) (fun g => by simp at g))
    refine vif_mk (fun g => ?_) (fun g => hq _ _ (.refl _) ?_)
    · have g := of_decide_eq_true g
      refine vif_mk (fun g1 => ?_) (fun g1 => hq _ _ (.refl _) ?_)
      · have g1 := of_decide_eq_true g1
        refine vif_mk (fun g2 => ?_) (fun g2 => hq _ _ (.refl _) ?_)
        · have g2 := of_decide_eq_true g2
          refine hlist rfl g fun b h33 x33 hb => ⟨b, rfl, hq _ _ x33 ?_⟩
          have : NumOk 9 A loop := by unfold NumOk; rw [if_neg (by decide), if_pos rfl]; omega
          simp only [this, true_and, forall_const]
          exact hb
        · have g2 := of_decide_eq_false g2
          simp only [Bool.false_eq_true, false_iff]
          rintro ⟨h1, _⟩
          unfold NumOk at h1; rw [if_neg (by decide), if_pos rfl] at h1; omega
      · have g1 := of_decide_eq_false g1
        simp only [Bool.false_eq_true, false_iff]
        rintro ⟨h1, _⟩
        unfold NumOk at h1; rw [if_neg (by decide), if_pos rfl] at h1; omega
    · have g := of_decide_eq_false g
      simp only [Bool.false_eq_true, false_iff]
      rintro ⟨h1, _⟩
      unfold NumOk at h1; rw [if_neg (by decide), if_pos rfl] at h1; omega
  · have hq : ∀ b : Bool, (b = true ↔ NumOk op A loop) → Q (.bool b) h := fun b hb => hq b h (.refl _) (by rw [hb]; exact ⟨fun x => ⟨x, fun e => absurd e h9⟩, fun x => x.1⟩)
    unfold NumOk at hq
    refine vif_mk (fun g => ?_) (fun g => vif_mk (fun g => absurd (by simpa using g) h9) (fun _ => ?_))
    · have g : op = 1 := by simpa using g
      subst g
      simp only [if_true] at hq
      refine vif_mk (fun g => vif_mk (fun g1 => hq _ ?_) (fun g1 => hq _ ?_)) (fun g => hq _ ?_)
      all_goals (simp only [decide_eq_true_eq, decide_eq_false_iff_not, Bool.false_eq_true, false_iff] at *)
      all_goals omega
    · have g : op ≠ 1 := by simpa using g
      rw [if_neg g, if_neg h9] at hq
      refine vif_mk (fun g2 => ?_) (fun g2 => vif_mk (fun g3 => ?_) (fun g3 => ?_))
      · have g2 : op = 10 := by simpa using g2
        rw [if_pos g2] at hq
        refine vif_mk (fun g => hq _ ?_) (fun g => hq _ ?_)
        all_goals (simp only [decide_eq_true_eq, decide_eq_false_iff_not, Bool.false_eq_true, false_iff, beq_iff_eq] at *)
        all_goals omega
      · have g2 : op ≠ 10 := by simpa using g2
        have g3 : op = 11 := by simpa using g3
        rw [if_neg g2, if_pos g3] at hq
        refine vif_mk (fun g => vif_mk (fun g1 => hq _ ?_) (fun g1 => hq _ ?_)) (fun g => hq _ ?_)
        all_goals (simp only [decide_eq_true_eq, decide_eq_false_iff_not, Bool.false_eq_true, false_iff, beq_iff_eq] at *)
        all_goals omega
      · have g2 : op ≠ 10 := by simpa using g2
        have g3 : op ≠ 11 := by simpa using g3
        rw [if_neg g2, if_neg g3] at hq
        exact hq _ (by simp)
set_option maxRecDepth 20000 in
/-- node, of the reference. -/
theorem c53 {loop : Int} (hlp : loop = -1 ∨ 0 ≤ loop) (R : NodeR h c n) (hn : n.ins.length ≤ 1000000)
    (hlist : n.op = 9 → loop = -1 → ∀ {Q' : AV → Heap → Prop}, (∀ b h'', Ext h h'' → (b = true ↔ OkB n.body i) → Q' (.bool b) h'') → AC Tryz.prog 87 [.sl c.qb, .int .i64 i] h Q')
    (hQ : ∀ b h', Ext h h' → (b = true ↔ OkN loop n i) → Q (.bool b) h') : AC Tryz.prog 53 [.agg c.cs, .int .i64 i, .int .i64 loop] h Q := ac53 (by
  unfold vc53
  obtain ⟨e1, e2, e3, e4⟩ := R.same
  rw [e1, e2, e3, e4]
  have no : ¬ OkN loop n i → Q (.bool false) h := fun hn => hQ _ _ (.refl _) (by simp [hn])
  refine vif_mk (fun g => ⟨rfl, no fun ok => ?_⟩) (fun g => vif_mk (fun g1 => ⟨rfl, no fun ok => ?_⟩) (fun g1 => ?_))
  · have g := of_decide_eq_true g; have := ok.1.op; omega
  · have g1 := of_decide_eq_true g1; have := ok.1.op; omega
  have g := of_decide_eq_false g
  have g1 := of_decide_eq_false g1
  refine c49 ⟨_, rfl, rfl, ?_⟩
  rw [R.ins.len]
  refine vif_mk (fun g2 => no fun ok => ?_) (fun g2 => ?_)
  · rw [ok.1.len] at g2; simp at g2
  have g2 : n.ins.length = arityV n.op := by
    have : ((n.ins.length : Nat) : Int) = (arityV n.op : Nat) := by simpa using g2
    omega
  refine ⟨fun xs h6 => h6 = h ∧ ∃ j : Nat, xs = [.int .i64 j] ∧ j ≤ n.ins.length ∧ ∀ x ∈ n.ins.take j, 0 ≤ x ∧ x < i, left n.ins.length, ⟨rfl, 0, rfl, by omega, by simp⟩, ?_⟩
  rintro n3 h6 ⟨rfl, j, hx, hj, ha⟩
  simp only [List.cons.injEq, AV.int.injEq, true_and, and_true] at hx
  subst hx
  refine vif_mk (fun g3 => ?_) (fun g3 => ?_)
  · replace g3 := of_decide_eq_true g3
    have hx : n.ins[j]? = some n.ins[j] := List.getElem?_eq_getElem (by omega)
    have hm := List.mem_of_getElem? hx
    generalize n.ins[j] = x at *
    have at1 : ∀ {K : PA → Prop}, (∀ p, cellsAt h6 p 1 = some [.int .i64 x] → K p) → vIdx c.qi (j : Int) 1 K := fun hK => R.ins.idx (E := intE) (by omega) (by omega) fun p y hy hc => by
      have : y = x := by rw [Int.toNat_natCast, hx] at hy; exact (Option.some.inj hy).symm
      subst this; exact hK p hc
    refine at1 fun p hp => ⟨x, hp, vif_mk (fun g4 => no fun ok => ?_) (fun g4 => at1 fun p hp => ⟨x, hp, vif_mk (fun g5 => no fun ok => ?_) (fun g5 => ?_)⟩)⟩
    · have g4 := of_decide_eq_true g4; have := ok.1.ins x hm; omega
    · have g5 := of_decide_eq_true g5; have := ok.1.ins x hm; omega
    · have g4 := of_decide_eq_false g4
      have g5 := of_decide_eq_false g5
      rw [wrapK_i64 ⟨by omega, by omega⟩]
      refine ⟨⟨rfl, trivial⟩, ⟨rfl, j + 1, by simp, by omega, fun y hy => ?_⟩, by simp only [left]; omega⟩
      rw [List.take_add_one, hx] at hy
      rcases List.mem_append.1 hy with hy | hy
      · exact ha y hy
      · simp only [Option.toList_some, List.mem_singleton] at hy
        subst hy; omega
  · replace g3 := of_decide_eq_false g3
    have e : n.ins.take j = n.ins := List.take_of_length_le (by omega)
    rw [e] at ha
    have tail : (if famV n.op = 0 then n.k = 0 ∧ n.a = 0 else fam n.k n.a = famV n.op) → (n.op ≠ 9 → n.body = []) → ∀ b h', Ext h6 h' → (b = true ↔ NumOk n.op n.A loop ∧ (n.op = 9 → OkB n.body i)) → Q (.bool b) h' := by
      intro hfn hbd b h' x hb
      refine hQ b h' x (hb.trans ?_)
      have base : Base n i := ⟨⟨by omega, by omega⟩, g2, ha, hfn⟩
      unfold OkN
      by_cases h9 : n.op = 9
      · rw [if_pos h9]; simp only [base, h9, true_and, forall_const]
      · rw [if_neg h9]; simp only [base, h9, true_and, false_imp_iff, and_true, hbd h9]
    have hl9 : n.op = 9 → loop < 0 → ∀ {Q' : AV → Heap → Prop}, (∀ b h'', Ext h6 h'' → (b = true ↔ OkB n.body i) → Q' (.bool b) h'') → AC Tryz.prog 87 [.sl c.qb, .int .i64 i] h6 Q' := fun h9 h1 Q' hK => hlist h9 (by omega) hK
    have fin : (if famV n.op = 0 then n.k = 0 ∧ n.a = 0 else fam n.k n.a = famV n.op) → ∀ {N : Prop}, ((n.op ≠ 9 → n.body = []) → N) → vif (n.op != 9) (vif (decide ((slLen c.qb : Int) > 0)) (Q (.bool false) h6) N) N := by
      intro hfn N hN
      refine vif_mk (fun g4 => vif_mk (fun g5 => no fun ok => ?_) (fun g5 => hN fun _ => ?_)) (fun g4 => hN fun h9 => ?_)
      · have g4 : n.op ≠ 9 := by simpa using g4
        have g5 := of_decide_eq_true g5
        have := ok.2.2
        rw [if_neg g4] at this
        rw [R.body.len, this] at g5
        simp at g5
      · have g5 := of_decide_eq_false g5
        rw [R.body.len] at g5
        exact List.eq_nil_of_length_eq_zero (by omega)
      · exact absurd (by simpa using g4) h9
    refine c86 ⟨_, rfl, vif_mk (fun g4 => ?_) (fun g4 => ⟨rfl, ?_⟩)⟩
    · have g4 := of_decide_eq_true g4
      refine o50 ⟨_, rfl, rfl, c86 ⟨_, rfl, vif_mk (fun g5 => no fun ok => ?_) (fun g5 => ?_)⟩⟩
      · have g5 : fam n.k n.a ≠ famV n.op := by simpa using g5
        have := ok.1.fn
        rw [if_neg (by omega)] at this
        exact g5 this
      have g5 : fam n.k n.a = famV n.op := by simpa using g5
      have hfn : (if famV n.op = 0 then n.k = 0 ∧ n.a = 0 else fam n.k n.a = famV n.op) := by rw [if_neg (by omega)]; exact g5
      refine c86 ⟨_, rfl, vif_mk (fun g6 => ?_) (fun g6 => ?_)⟩
      · have g6 : famV n.op = 0 := by simpa using g6
        omega
      · exact fin hfn fun hb => num53 (n := n) hlp hl9 (tail hfn hb)
    · have g4 := of_decide_eq_false g4
      have hf0 : famV n.op = 0 := by unfold famV at g4 ⊢; split <;> omega
      refine c86 ⟨_, rfl, vif_mk (fun g6 => vif_mk (fun g7 => no fun ok => ?_) (fun g7 => ?_)) (fun g6 => ?_)⟩
      · have := ok.1.fn
        rw [if_pos hf0] at this
        rw [this.1, this.2] at g7; simp at g7
      · have hfn : (if famV n.op = 0 then n.k = 0 ∧ n.a = 0 else fam n.k n.a = famV n.op) := by rw [if_pos hf0]; simpa using g7
        exact fin hfn fun hb => num53 (n := n) hlp hl9 (tail hfn hb)
      · have g6 : famV n.op ≠ 0 := by simpa using g6
        exact absurd hf0 g6)
/-- body, of the reference. -/
theorem c87 {loop : Nat} (R : NodesR h q l) (hn : ∀ n ∈ l, n.ins.length ≤ 1000000) (hQ : ∀ b h', Ext h h' → (b = true ↔ OkB l loop) → Q (.bool b) h') : AC Tryz.prog 87 [.sl q, .int .i64 loop] h Q := ac87 (by
  unfold vc87
  rw [R.len]
  refine vif_mk (fun g => hQ _ _ (.refl _) ?_) (fun g => vif_mk (fun g1 => hQ _ _ (.refl _) ?_) (fun g1 => ?_))
  · have g := of_decide_eq_true g
    unfold OkB; simp; omega
  · have g1 := of_decide_eq_true g1
    unfold OkB; simp; omega
  have g := of_decide_eq_false g
  have g1 := of_decide_eq_false g1
  refine ⟨fun xs h6 => Ext h h6 ∧ ∃ i : Nat, xs = [.int .i64 i] ∧ i ≤ l.length ∧ ∀ j n, j < i → l[j]? = some n → OkI loop n j, left l.length, ⟨.refl _, 0, rfl, by omega, by omega⟩, ?_⟩
  rintro n3 h6 ⟨x6, i, hx, hi, ha⟩
  simp only [List.cons.injEq, AV.int.injEq, true_and, and_true] at hx
  subst hx
  refine vif_mk (fun g2 => ?_) (fun g2 => ?_)
  · replace g2 := of_decide_eq_true g2
    refine (R.mono x6).idx (i := i) (by omega) rfl fun p c n hn2 hc Rn => ⟨_, _, _, _, _, _, hc, ?_⟩
    refine c53 (c := c) (.inr (by omega)) Rn (hn n (List.mem_of_getElem? hn2)) (fun _ h1 => by omega) fun b h15 x15 hb => ⟨b, rfl, vif_mk (fun g3 => hQ _ _ (x6.trans x15) ?_) (fun g3 => ?_)⟩
    · have g3 : b = false := by simpa using g3
      simp only [Bool.false_eq_true, false_iff]
      intro ok
      rw [hb.2 (okI_iff.2 (ok.2.2 i n hn2))] at g3; simp at g3
    · have g3 : b = true := by simpa using g3
      rw [wrapK_i64 ⟨by omega, by omega⟩]
      refine ⟨trivial, ⟨x6.trans x15, i + 1, by simp, by omega, fun j m hj hm => ?_⟩, by simp only [left]; omega⟩
      by_cases e : j = i
      · subst e; rw [hn2] at hm; cases hm; exact okI_iff.1 (hb.1 g3)
      · exact ha j m (by omega) hm
  · replace g2 := of_decide_eq_false g2
    refine hQ _ _ x6 ?_
    simp only [true_iff]
    exact ⟨by omega, by omega, fun j m hm => ha j m (by have := lt_of_get hm; omega) hm⟩)
/-- Check, of the reference. -/
theorem c31 {out : Int} (R : NodesR h q l) (L : Lens l) (hQ : ∀ b h', Ext h h' → (b = true ↔ OkG l out) → Q (.bool b) h') : AC Tryz.prog 31 [.agg [.sl q, .int .i64 out]] h Q := ac31 (by
  unfold vc31
  have no : ∀ {h'}, Ext h h' → ¬ OkG l out → Q (.bool false) h' := fun x hn => hQ _ _ x (by simp [hn])
  rw [R.len]
  refine vif_mk (fun g => no (.refl _) fun ok => ?_) (fun g => vif_mk (fun g1 => no (.refl _) fun ok => ?_) (fun g1 => vif_mk (fun g2 => no (.refl _) fun ok => ?_) (fun g2 => vif_mk (fun g3 => no (.refl _) fun ok => ?_) (fun g3 => ?_))))
  · have g := of_decide_eq_true g; have := ok.len; omega
  · have g1 := of_decide_eq_true g1; have := ok.len; omega
  · have g2 := of_decide_eq_true g2; have := ok.out; omega
  · have g3 := of_decide_eq_true g3; have := ok.out; omega
  have g := of_decide_eq_false g
  have g1 := of_decide_eq_false g1
  have g2 := of_decide_eq_false g2
  have g3 := of_decide_eq_false g3
  refine ⟨fun xs h6 => Ext h h6 ∧ ∃ i : Nat, xs = [.int .i64 (loopsV (l.take i) : Nat), .int .i64 i] ∧ i ≤ l.length ∧ ∀ j n, j < i → l[j]? = some n → OkN (-1) n j, fun xs _ => match xs with | [_, .int _ i] => (l.length - i).toNat | _ => 0, ⟨.refl _, 0, rfl, by omega, by omega⟩, ?_⟩
  rintro n3 n4 h6 ⟨x6, i, hx, hi, ha⟩
  simp only [List.cons.injEq, AV.int.injEq, true_and, and_true] at hx
  obtain ⟨rfl, rfl⟩ := hx
  have hle : loopsV (l.take i) ≤ l.length := Nat.le_trans List.countP_le_length (by rw [List.length_take]; omega)
  refine vif_mk (fun g4 => ?_) (fun g4 => ?_)
  · replace g4 := of_decide_eq_true g4
    refine (R.mono x6).idx (i := i) (by omega) rfl fun p c n hn2 hc Rn => ⟨_, _, _, _, _, _, hc, ?_⟩
    refine c53 (c := c) (.inl rfl) Rn (L.2 n (List.mem_of_getElem? hn2)).1 (fun _ _ {Q2} hK2 => c87 Rn.body (fun m hm => (L.2 n (List.mem_of_getElem? hn2)).2 m hm) hK2) fun b h15 x15 hb => ⟨b, rfl, vif_mk (fun g5 => no (x6.trans x15) fun ok => ?_) (fun g5 => ?_)⟩
    · have g5 : b = false := by simpa using g5
      rw [hb.2 (ok.node i n hn2)] at g5; simp at g5
    · have g5 : b = true := by simpa using g5
      refine (R.mono (x6.trans x15)).idx (i := i) (by omega) rfl fun p2 c2 n2 hn3 hc2 Rn2 => ⟨c2.op, cellsAt_sub (k := 0) (m := 1) hc2 (by omega), ?_⟩
      rw [hn2] at hn3; cases hn3
      have e := Rn2.same.1
      have ls : loopsV (l.take (i + 1)) = loopsV (l.take i) + if n.op == 9 then 1 else 0 := by
        unfold loopsV
        rw [List.take_add_one, hn2, List.countP_append]
        simp [List.countP_cons]
      rw [e]
      rw [wrapK_i64 (n := (i : Int) + 1) ⟨by omega, by omega⟩, wrapK_i64 (n := ((loopsV (l.take i) : Nat) : Int) + 1) ⟨by omega, by omega⟩]
      have ha' : ∀ j m, j < i + 1 → l[j]? = some m → OkN (-1) m j := fun j m hj hm => by
        by_cases e : j = i
        · subst e; rw [hn2] at hm; cases hm; exact hb.1 g5
        · exact ha j m (by omega) hm
      refine vif_mk (fun g3 => ?_) (fun g3 => ?_)
      · rw [if_pos g3] at ls
        exact ⟨⟨rfl, trivial⟩, ⟨x6.trans x15, i + 1, by rw [ls]; simp, by omega, ha'⟩, by simp only; omega⟩
      · rw [if_neg (by rw [g3]; simp)] at ls
        exact ⟨⟨rfl, trivial⟩, ⟨x6.trans x15, i + 1, by rw [ls]; simp, by omega, ha'⟩, by simp only; omega⟩
  · replace g4 := of_decide_eq_false g4
    have e : l.take i = l := List.take_of_length_le (by omega)
    rw [e]
    have nd : ∀ j n, l[j]? = some n → OkN (-1) n j := fun j m hm => ha j m (by have := lt_of_get hm; omega) hm
    refine hQ _ _ x6 ?_
    simp only [decide_eq_true_eq]
    exact ⟨fun h1 => ⟨⟨by omega, by omega⟩, ⟨by omega, by omega⟩, nd, by omega⟩, fun ok => by have := ok.one; omega⟩)

/-- Where the first loop stands. -/
def loopAt (l : List NT) : Option Nat := l.findIdx? fun n => n.op == 9
/-- Loop, of the reference. -/
theorem c15 {out : Int} (R : NodesR h q l) (hl : l.length ≤ 1000000) (hQ : (∀ i, loopAt l = some i → Q (.int .i64 i) h) ∧ (loopAt l = none → Q (.int .i64 (-1)) h)) : AC Tryz.prog 15 [.agg [.sl q, .int .i64 out]] h Q := ac15 (by
  unfold vc15
  rw [R.len]
  refine ⟨fun xs h6 => h6 = h ∧ ∃ i : Nat, xs = [.int .i64 i] ∧ i ≤ l.length ∧ ∀ j n, j < i → l[j]? = some n → n.op ≠ 9, left l.length, ⟨rfl, 0, rfl, by omega, by omega⟩, ?_⟩
  rintro n3 h6 ⟨rfl, i, hx, hi, ha⟩
  simp only [List.cons.injEq, AV.int.injEq, true_and, and_true] at hx
  subst hx
  refine vif_mk (fun g2 => ?_) (fun g2 => ?_)
  · replace g2 := of_decide_eq_true g2
    refine R.idx (i := i) (by omega) rfl fun p c n hn hc Rn => ⟨c.op, cellsAt_sub (k := 0) (m := 1) hc (by omega), ?_⟩
    rw [Rn.same.1]
    refine vif_mk (fun g3 => hQ.1 i ?_) (fun g3 => ?_)
    · unfold loopAt
      rw [List.findIdx?_eq_some_iff_getElem]
      have hlt := lt_of_get hn
      rw [List.getElem?_eq_getElem hlt] at hn
      cases hn
      refine ⟨hlt, g3, fun j hj => ?_⟩
      have := ha j _ hj (List.getElem?_eq_getElem (by omega))
      simpa using this
    · rw [wrapK_i64 ⟨by omega, by omega⟩]
      refine ⟨⟨rfl, trivial⟩, ⟨rfl, i + 1, by simp, by omega, fun j m hj hm => ?_⟩, by simp only [left]; omega⟩
      by_cases e : j = i
      · subst e; rw [hn] at hm; cases hm; simpa using g3
      · exact ha j m (by omega) hm
  · replace g2 := of_decide_eq_false g2
    refine hQ.2 ?_
    unfold loopAt
    rw [List.findIdx?_eq_none_iff]
    intro n hn
    obtain ⟨j, hj⟩ := List.mem_iff_getElem?.1 hn
    have := ha j n (by have := lt_of_get hj; omega) hj
    simpa using this)
/-- graph.Loop -/
theorem c36 {out : Int} (R : NodesR h q l) (L : Lens l) (ok : OkG l out) (hQ : ∀ h', Ext h h' → (∀ i : Nat, loopAt l = some i → Q (.tup [.int .i64 i, .bool true]) h') ∧ (loopAt l = none → Q (.tup [.int .i64 0, .bool false]) h')) : AC Tryz.prog 36 [.agg [.sl q, .int .i64 out]] h Q := ac36 (by
  unfold vc36
  refine c35 R L fun e h4 x4 h1 _ => ⟨e, rfl, ?_⟩
  rw [h1 ok]
  refine vif_mk (fun g => by simp at g) (fun _ => ?_)
  refine ac57 ?_
  unfold vc57
  rw [R.len]
  have R4 := R.mono x4
  refine ⟨fun xs h6 => h6 = h4 ∧ ∃ i : Nat, xs = [.int .i64 i] ∧ i ≤ l.length ∧ ∀ j n, j < i → l[j]? = some n → n.op ≠ 9, left l.length, ⟨rfl, 0, rfl, by omega, by omega⟩, ?_⟩
  rintro n3 h6 ⟨rfl, i, hx, hi, ha⟩
  simp only [List.cons.injEq, AV.int.injEq, true_and, and_true] at hx
  subst hx
  have hl := L.1
  refine vif_mk (fun g2 => ?_) (fun g2 => ?_)
  · replace g2 := of_decide_eq_true g2
    refine R4.idx (i := i) (by omega) rfl fun p c n hn hc Rn => ⟨_, _, _, _, _, _, hc, ac58 ⟨_, rfl, ?_⟩⟩
    rw [Rn.same.1]
    refine vif_mk (fun g3 => ⟨_, rfl, ?_⟩) (fun g3 => ?_)
    · have e1 : decide (((i : Nat) : Int) ≥ 0) = true := decide_eq_true (by omega)
      have e2 : maxI2 ((i : Nat) : Int) 0 = ((i : Nat) : Int) := by unfold maxI2; rw [if_neg (by omega)]
      rw [e1, e2]
      refine (hQ h6 x4).1 i ?_
      unfold loopAt
      rw [List.findIdx?_eq_some_iff_getElem]
      have hlt := lt_of_get hn
      rw [List.getElem?_eq_getElem hlt] at hn
      cases hn
      refine ⟨hlt, g3, fun j hj => ?_⟩
      have := ha j _ hj (List.getElem?_eq_getElem (by omega))
      simpa using this
    · rw [wrapK_i64 ⟨by omega, by omega⟩]
      refine ⟨trivial, ⟨rfl, i + 1, by simp, by omega, fun j m hj hm => ?_⟩, by simp only [left]; omega⟩
      by_cases e : j = i
      · subst e; rw [hn] at hm; cases hm; simpa using g3
      · exact ha j m (by omega) hm
  · replace g2 := of_decide_eq_false g2
    refine ⟨_, rfl, (hQ h6 x4).2 ?_⟩
    unfold loopAt
    rw [List.findIdx?_eq_none_iff]
    intro n hn
    obtain ⟨j, hj⟩ := List.mem_iff_getElem?.1 hn
    have := ha j n (by have := lt_of_get hj; omega) hj
    simpa using this)

/-- What is not too large: so deep, so long. -/
def Sized : Nat → List NT → Prop
  | 0, _ => False
  | m + 1, l => l.length ≤ 40 ∧ ∀ n ∈ l, n.ins.length ≤ 40 ∧ (n.body ≠ [] → Sized m n.body)
theorem Sized.lens {l : List NT} (h : Sized 4 l) : Lens l := by
  refine ⟨by have := h.1; omega, fun n hn => ⟨by have := (h.2 n hn).1; omega, fun m hm => ?_⟩⟩
  have := (h.2 n hn).2 (by intro e; rw [e] at hm; simp at hm)
  have := (this.2 m hm).1
  omega
/-- Deep -/
theorem c26 : ∀ (d : Nat) {l : List NT} {q : Option SL} {Q : AV → Heap → Prop}, d ≤ 4 → NodesR h q l → (∀ b, (b = false → Sized d l) → Q (.bool b) h) → AC Tryz.prog 26 [.sl q, .int .i64 (4 - d : Int)] h Q := by
  intro d
  induction d with
  | zero => intro l q Q hd R hQ; exact ac26 (by
    unfold vc26
    rw [R.len]
    exact vif_mk (fun _ => hQ _ (by simp)) (fun _ => vif_mk (fun _ => hQ _ (by simp)) (fun g => by simp at g)))
  | succ d ih => intro l q Q hd R hQ; exact ac26 (by
    unfold vc26
    rw [R.len]
    refine vif_mk (fun _ => hQ _ (by simp)) (fun g => vif_mk (fun _ => hQ _ (by simp)) (fun g1 => ?_))
    have g := of_decide_eq_false g
    refine ⟨fun xs h6 => h6 = h ∧ ∃ i : Nat, xs = [.int .i64 i] ∧ i ≤ l.length ∧ ∀ n ∈ l.take i, n.ins.length ≤ 40 ∧ (n.body ≠ [] → Sized d n.body), left l.length, ⟨rfl, 0, rfl, by omega, by simp⟩, ?_⟩
    rintro n3 h6 ⟨rfl, i, hx, hi, ha⟩
    simp only [List.cons.injEq, AV.int.injEq, true_and, and_true] at hx
    subst hx
    refine vif_mk (fun g2 => ?_) (fun g2 => ?_)
    · replace g2 := of_decide_eq_true g2
      have step : ∀ n, l[i]? = some n → n.ins.length ≤ 40 → (n.body ≠ [] → Sized d n.body) → (∀ m ∈ l.take (i + 1), m.ins.length ≤ 40 ∧ (m.body ≠ [] → Sized d m.body)) := fun n hn h1 h2 m hm => by
        rw [List.take_add_one, hn] at hm
        rcases List.mem_append.1 hm with hm | hm
        · exact ha m hm
        · simp only [Option.toList_some, List.mem_singleton] at hm
          subst hm; exact ⟨h1, h2⟩
      rw [wrapK_i64 (n := (i : Int) + 1) ⟨by omega, by omega⟩]
      refine R.idx (i := i) (by omega) rfl fun p c n hn hc Rn => ⟨c.qi, cellsAt_sub (k := 1) (m := 1) hc (by omega), ?_⟩
      rw [Rn.ins.len]
      refine vif_mk (fun _ => hQ _ (by simp)) (fun g3 => ?_)
      have g3 := of_decide_eq_false g3
      refine R.idx (i := i) (by omega) rfl fun p c n2 hn2 hc Rn2 => ⟨c.qb, cellsAt_sub (k := 5) (m := 1) hc (by omega), ?_⟩
      rw [hn] at hn2; cases hn2
      rw [Rn2.body.len]
      refine vif_mk (fun g4 => ?_) (fun g4 => ?_)
      · refine R.idx (i := i) (by omega) rfl fun p c n2 hn2 hc Rn3 => ⟨c.qb, cellsAt_sub (k := 5) (m := 1) hc (by omega), ?_⟩
        rw [hn] at hn2; cases hn2
        have e : wrapK .i64 ((4 - ((d + 1 : Nat) : Int)) + 1) = (4 - (d : Int)) := by rw [wrapK_i64 ⟨by omega, by omega⟩]; omega
        rw [e]
        refine ih (by omega) Rn3.body fun b hb => ⟨b, rfl, vif_mk (fun _ => hQ _ (by simp)) (fun g5 => ?_)⟩
        exact ⟨trivial, ⟨rfl, i + 1, by simp, by omega, step n hn (by omega) (fun _ => hb g5)⟩, by simp only [left]; omega⟩
      · have g4 := of_decide_eq_false g4
        have e : n.body = [] := List.eq_nil_of_length_eq_zero (by omega)
        exact ⟨trivial, ⟨rfl, i + 1, by simp, by omega, step n hn (by omega) (fun hne => absurd e hne)⟩, by simp only [left]; omega⟩
    · replace g2 := of_decide_eq_false g2
      have e : l.take i = l := List.take_of_length_le (by omega)
      rw [e] at ha
      exact hQ _ fun _ => ⟨by omega, ha⟩)
/-- large -/
theorem c7 {F : Nat → Prop} {ins : List (List Rec)} {q3 : Option SL} {out : Int} (R : NodesR h q l) (G : InGG F h q3 ins) (hQ : ∀ b, (b = false → Sized 4 l ∧ ins.length ≤ 10 ∧ ∀ x ∈ ins, x.length ≤ 5000) → Q (.bool b) h) : AC Tryz.prog 7 [.agg [.sl q, .int .i64 out], .sl q3] h Q := ac7 (by
  unfold vc7
  refine c26 4 (by omega) R fun b hb => ⟨b, rfl, vif_mk (fun _ => hQ _ (by simp)) (fun g => ?_)⟩
  have hs := hb g
  rw [G.len]
  refine vif_mk (fun _ => hQ _ (by simp)) (fun g1 => ?_)
  have g1 := of_decide_eq_false g1
  refine ⟨fun xs h6 => h6 = h ∧ ∃ i : Nat, xs = [.int .i64 i] ∧ i ≤ ins.length ∧ ∀ x ∈ ins.take i, x.length ≤ 5000, left ins.length, ⟨rfl, 0, rfl, by omega, by simp⟩, ?_⟩
  rintro n3 h6 ⟨rfl, i, hx, hi, ha⟩
  simp only [List.cons.injEq, AV.int.injEq, true_and, and_true] at hx
  subst hx
  refine vif_mk (fun g2 => ?_) (fun g2 => ?_)
  · replace g2 := of_decide_eq_true g2
    have step : ∀ x, ins[i]? = some x → x.length ≤ 5000 → ∀ y ∈ ins.take (i + 1), y.length ≤ 5000 := fun x hx h1 y hy => by
      rw [List.take_add_one, hx] at hy
      rcases List.mem_append.1 hy with hy | hy
      · exact ha y hy
      · simp only [Option.toList_some, List.mem_singleton] at hy
        subst hy; exact h1
    rw [wrapK_i64 (n := (i : Int) + 1) ⟨by omega, by omega⟩]
    refine G.idx (i := i) (by omega) rfl fun p s x hx hc Hx f => ⟨s, hc, ?_⟩
    rw [Hx.len]
    refine vif_mk (fun _ => hQ _ (by simp)) (fun g3 => ?_)
    have g3 := of_decide_eq_false g3
    have fin := fun h => (⟨⟨rfl, trivial⟩, ⟨rfl, i + 1, by simp, by omega, step x hx h⟩, by simp only [left]; omega⟩ : (some [AV.sl q, .int .i64 out] = some [AV.sl q, .int .i64 out] ∧ True) ∧ (h6 = h6 ∧ ∃ j : Nat, [AV.int .i64 ((i : Int) + 1)] = [.int .i64 j] ∧ j ≤ ins.length ∧ ∀ x ∈ ins.take j, x.length ≤ 5000) ∧ left ins.length [AV.int .i64 ((i : Int) + 1)] h6 < left ins.length [AV.int .i64 (i : Int)] h6)
    refine G.idx (i := i) (by omega) rfl fun p2 s2 x2 hx2 hc2 Hx2 f2 => ⟨s2, hc2, ?_⟩
    rw [hx] at hx2; cases hx2
    refine vif_mk (fun g4 => ?_) (fun g4 => fin (by omega))
    refine G.idx (i := i) (by omega) rfl fun p3 s3 x3 hx3 hc3 Hx3 f3 => ⟨s3, hc3, vif_mk (fun _ => hQ _ (by simp)) (fun _ => fin (by omega))⟩
  · replace g2 := of_decide_eq_false g2
    have e : ins.take i = ins := List.take_of_length_le (by omega)
    rw [e] at ha
    exact hQ _ fun _ => ⟨hs, by omega, ha⟩)
end
end Go.Proofs.YtfafgnmlnhklaaaGreat

/- Evaluation: the model; what a maker of bags does. -/
namespace Go.Proofs.YtfafgnmlnhklaaaGreat
open Go.Ab
set_option linter.unusedVariables false
set_option linter.unusedSimpArgs false

abbrev Bag := List Rec
def opR (n : NT) (ins : List Bag) : Int × Bag :=
  if applyE n.op n.ins.length n.k n.a n.A n.body.length ins = 0 then (0, sortR (madeV n.op n.k n.a ins)) else (applyE n.op n.ins.length n.k n.a n.A n.body.length ins, [])
def insOf (n : NT) (bags : List Bag) : List Bag := n.ins.map fun i => bags.getD i.toNat []
def isOpN (n : NT) : Bool := isOp n.op n.ins.length n.k n.a n.A n.body.length
abbrev Oth := NT → List Bag → List Bag → Int × Bag × List Bag
def stepG (oth : Oth) (n : NT) (bags vars : List Bag) : Int × Bag × List Bag := if isOpN n then ((opR n (insOf n bags)).1, (opR n (insOf n bags)).2, vars) else oth n bags vars
def runG (oth : Oth) : List NT → List Bag → List Bag → Int × List Bag × List Bag
  | [], bags, vars => (0, bags, vars)
  | n :: l, bags, vars => if (stepG oth n bags vars).1 = 0 then runG oth l (bags ++ [(stepG oth n bags vars).2.1]) (stepG oth n bags vars).2.2 else ((stepG oth n bags vars).1, [], [])
/-- A bag that may be, in order. -/
def GoodB (b : Bag) : Prop := mayC b = 0 ∧ b.Pairwise fun a b => leR a b = true
theorem good_sort {b : Bag} (h : mayC b = 0) : GoodB (sortR b) := ⟨by rw [mayC_perm (sortR_perm b)]; exact h, sortR_sorted b⟩
theorem GoodB.self {b : Bag} (h : GoodB b) : sortR b = b := sortR_eq h.2 (.refl b)
theorem GoodB.len {b : Bag} (h : GoodB b) : b.length ≤ 4096 := (mayC0 h.1).2
theorem good_nil : GoodB [] := ⟨by decide, .nil⟩
theorem opR_good {n : NT} {ins : List Bag} (h : (opR n ins).1 = 0) : GoodB (opR n ins).2 := by
  unfold opR at h ⊢
  split at h
  · rename_i g
    rw [if_pos g]
    refine good_sort ?_
    unfold applyE at g
    split at g
    · cases g
    rename_i g1
    split at g
    · rename_i g2; exact absurd g g2
    rename_i g2
    split at g
    · cases g
    rename_i g3
    have hop : isOp n.op n.ins.length n.k n.a n.A n.body.length = true := by
      cases h : isOp n.op n.ins.length n.k n.a n.A n.body.length with
      | true => rfl
      | false => exact absurd (.inl h) g1
    have := made_ok hop (Classical.not_not.1 g2)
    unfold mayC
    rw [if_pos this, if_neg (by omega)]
  · rename_i g
    exact absurd h g
theorem runG_len {oth : Oth} : ∀ {l : List NT} {bags vars : List Bag}, (runG oth l bags vars).1 = 0 → (runG oth l bags vars).2.1.length = bags.length + l.length
  | [], bags, vars, _ => by simp [runG]
  | n :: l, bags, vars, h => by
    unfold runG at h ⊢
    split at h
    · rename_i g
      rw [if_pos g, runG_len h, List.length_append, List.length_cons, List.length_cons, List.length_nil]; omega
    · rename_i g; exact absurd h g

/-- Bags that a maker holds: the row is its own, the bags are not. -/
def BGS (own F : Nat → Prop) (h : Heap) (q : Option SL) (ls : List Bag) : Prop :=
  ∃ qs : List (Option SL), AppJ slE h q qs ∧ qs.length = ls.length ∧ (∀ s, q = some s → own s.b) ∧ ∀ (i : Nat) (s : Option SL) (g : Bag), qs[i]? = some s → ls[i]? = some g → HasL recE h s g ∧ ∀ u, s = some u → ¬ own u.b ∧ F u.b
section
variable {own own' F X : Nat → Prop} {h h' h0 : Heap} {q q2 qi qb qv : Option SL} {ls bags vars : List Bag} {x : Bag} {Q : AV → Heap → Prop}
theorem BGS.nil : BGS own F h none [] := ⟨[], .inl ⟨rfl, rfl⟩, rfl, (fun s hs => by cases hs), by simp⟩
theorem BGS.ext (B : BGS own F h q ls) (e : Ext h h') : BGS own F h' q ls := by
  obtain ⟨qs, a, b, c, d⟩ := B
  exact ⟨qs, a.ext e, b, c, fun i s g hs hg => ⟨(d i s g hs hg).1.mono e, (d i s g hs hg).2⟩⟩
theorem BGS.keeps (B : BGS own F h q ls) (K : Keeps X h h') (hX : ∀ b, X b → own b) (hq : ∀ s, q = some s → ¬ X s.b ∧ own' s.b) (hown : ∀ b, own' b → own b ∨ h.length ≤ b) : BGS own' F h' q ls := by
  obtain ⟨qs, a, b, c, d⟩ := B
  refine ⟨qs, a.keeps K (fun s hs => (hq s hs).1), b, fun s hs => (hq s hs).2, fun i s g hs hg => ?_⟩
  obtain ⟨d1, d2⟩ := d i s g hs hg
  refine ⟨K.hasL (fun u hu hx => (d2 u hu).1 (hX _ hx)) d1, fun u hu => ⟨fun ho => ?_, (d2 u hu).2⟩⟩
  rcases hown _ ho with a | a
  · exact (d2 u hu).1 a
  · have := d1.live u hu; omega
theorem BGS.len (B : BGS own F h q ls) : slLen q = ls.length := by
  obtain ⟨qs, a, b, _⟩ := B
  rw [a.hasL.len, b]
theorem BGS.live (B : BGS own F h q ls) : ∀ s, q = some s → s.b < h.length := by
  obtain ⟨qs, a, _⟩ := B
  exact a.live
theorem BGS.idx (B : BGS own F h q ls) {i : Nat} (hi : i < ls.length) {ix : Int} (hix : ix = i) {K : PA → Prop} (hK : ∀ p s g, ls[i]? = some g → cellsAt h p 1 = some [.sl s] → HasL recE h s g → (∀ u, s = some u → ¬ own u.b ∧ F u.b) → K p) : vIdx q ix 1 K := by
  obtain ⟨qs, a, b, c, d⟩ := B
  refine a.hasL.idx (E := slE) (by omega) (by omega) fun p s hs hc => ?_
  have e : ix.toNat = i := by omega
  rw [e] at hs
  have hg : ls[i]? = some ls[i] := List.getElem?_eq_getElem hi
  exact hK p s _ hg hc (d i s _ hs hg).1 (d i s _ hs hg).2
theorem BGS.inGG (B : BGS own F h q ls) : InGG (fun b => b < h.length) h q ls := by
  obtain ⟨qs, a, b, c, d⟩ := B
  exact ⟨qs, a.hasL, b, fun s hs => a.live s hs, fun i s g hs hg => ⟨(d i s g hs hg).1, fun u hu => (d i s g hs hg).1.live u hu⟩⟩
/-- One more. -/
theorem BGS.push {K : Option SL → Heap → Prop} (B : BGS own F h q ls) (hlive : ∀ b, own b → b < h.length) (H : HasL recE h q2 x) (hq2 : ∀ u, q2 = some u → ¬ own u.b ∧ F u.b) (hl : ls.length ≤ 1000000)
    (hK : ∀ (q' : Option SL) (h' : Heap) (own' : Nat → Prop), BGS own' F h' q' (ls ++ [x]) → (∀ b, own' b ↔ own b ∨ ∃ s', q' = some s' ∧ s'.b = b) → Keeps (fun b => ∃ s, q = some s ∧ s.b = b) h h' → h.length ≤ h'.length → (∀ s', q' = some s' → (h.length ≤ s'.b ∧ s'.b < h'.length) ∨ ∃ s, q = some s ∧ s.b = s'.b) → K q' h') :
    PNew [.sl q2] true h fun a h2 => PAppendS 1 24 q (some ⟨a, 0, 1, 1, 0⟩) h2 K := by
  refine pnew_mk ?_
  obtain ⟨qs, A, hlq, hn, he⟩ := B
  have x1 := Ext.app h [Blk.cells [.sl q2] true]
  have Hn : HasL slE (h ++ [Blk.cells [.sl q2] true]) (some ⟨h.length, 0, 1, 1, 0⟩) [q2] := HasL.new (n := 1) rfl rfl
  have l1 : (h ++ [Blk.cells [AV.sl q2] true]).length = h.length + 1 := by simp
  generalize h ++ [Blk.cells [.sl q2] true] = h1 at *
  have live := A.live
  refine AppJ.append (E := slE) (A.ext x1) Hn (by simp only [List.length_cons, List.length_nil]; omega) fun q' h3 A3 K3 l3 hq' => ?_
  have lv3 := A3.live
  have hq3 : ∀ s', q' = some s' → (h.length ≤ s'.b ∧ s'.b < h3.length) ∨ ∃ s, q = some s ∧ s.b = s'.b := fun s' hs' => by
    rcases hq' s' hs' with a | a
    · exact .inl ⟨by omega, lv3 s' hs'⟩
    · exact .inr a
  have new : ∀ u : SL, ¬ own u.b → u.b < h.length → ¬ (own u.b ∨ ∃ s', q' = some s' ∧ s'.b = u.b) := by
    rintro u h1 h2 (h3 | ⟨s', a1, a2⟩)
    · exact h1 h3
    · rcases hq3 s' a1 with a | ⟨s, b1, b2⟩
      · omega
      · exact h1 (by rw [← a2, ← b2]; exact hn s b1)
  have nX : ∀ u : SL, ¬ own u.b → ¬ ∃ s, q = some s ∧ s.b = u.b := by
    rintro u h1 ⟨s, a1, a2⟩
    exact h1 (by rw [← a2]; exact hn s a1)
  refine hK q' h3 (fun b => own b ∨ ∃ s', q' = some s' ∧ s'.b = b) ⟨qs ++ [q2], A3, by simp [hlq], fun s hs => .inr ⟨s, hs, rfl⟩, fun i s g hs hg => ?_⟩ (fun b => Iff.rfl) (fun b C hb hC => K3 b C hb (x1 _ _ hC)) (by omega) hq3
  rw [List.getElem?_append] at hs hg
  split at hs
  · rename_i hi
    rw [if_pos (by omega)] at hg
    obtain ⟨r1, r2⟩ := he i s g hs hg
    refine ⟨K3.hasL (fun u hu => nX u (r2 u hu).1) (r1.mono x1), fun u hu => ⟨new u (r2 u hu).1 (r1.live u hu), (r2 u hu).2⟩⟩
  · rename_i hi
    rw [if_neg (by omega)] at hg
    have i0 : i - qs.length = 0 := by have := lt_of_get hs; simp at this; omega
    have i1 : i - ls.length = 0 := by omega
    rw [i0] at hs; rw [i1] at hg
    simp only [List.getElem?_cons_zero, Option.some.injEq] at hs hg
    subst hs; subst hg
    exact ⟨K3.hasL (fun u hu => nX u (hq2 u hu).1) (H.mono x1), fun u hu => ⟨new u (hq2 u hu).1 (H.live u hu), (hq2 u hu).2⟩⟩

/-- ins -/
theorem c110 {p : Nat} {op k a A : Int} {ins : List Int} (hc : cellsAt h ⟨p, 0⟩ 1 = some [.sl q]) (B : BGS own F h q bags) (H : HasL intE h qi ins) (hins : ∀ y ∈ ins, 0 ≤ y ∧ y < bags.length) (hl : ins.length ≤ 1000000)
    (hQ : ∀ q' h', Ext h h' → InGG (fun b => b < h'.length) h' q' (ins.map fun i => bags.getD i.toNat []) → Q (.sl q') h') :
    AC Tryz.prog 110 [.ptr (some ⟨p, 0⟩), .agg [.int .i64 op, .sl qi, .int .i64 k, .int .i64 a, .int .i64 A, .sl qb]] h Q := ac110 (by
  unfold vc110
  rw [H.len]
  refine ⟨fun xs h12 => ∃ (q8 : Option SL) (i : Nat), xs = [.sl q8, .int .i64 i] ∧ i ≤ ins.length ∧ Ext h h12 ∧ Made h.length h12 q8 ((ins.take i).map fun i => bags.getD i.toNat []), fun xs _ => match xs with | [_, .int _ i] => (ins.length - i).toNat | _ => 0, ⟨none, 0, rfl, by omega, .refl _, by simpa using Made.nil⟩, ?_⟩
  rintro q8 n9 h12 ⟨q8', i, hx, hi, x12, M12⟩
  simp only [List.cons.injEq, AV.int.injEq, AV.sl.injEq, true_and, and_true] at hx
  obtain ⟨rfl, rfl⟩ := hx
  refine vif_mk (fun g => ?_) (fun g => ?_)
  · replace g := of_decide_eq_true g
    refine (H.mono x12).idx (E := intE) (by omega) (by omega) fun p13 y hy hcy => ⟨y, hcy, ?_⟩
    rw [Int.toNat_natCast] at hy
    obtain ⟨y0, y1⟩ := hins y (List.mem_of_getElem? hy)
    refine ⟨q, x12.cells hc, B.idx (i := y.toNat) (by omega) (by omega) fun p17 s gb hg hcs Hs _ => ⟨s, x12.cells hcs, ?_⟩⟩
    have eb : bags.getD y.toNat [] = gb := by rw [List.getD_eq_getElem?_getD, hg]; rfl
    have hsl := Hs.live
    refine Made.put M12 x12.len (.refl _) (Hs.mono x12) (fun u t hu ht => ?_) (by rw [List.length_map, List.length_take]; omega) fun q' h' M' K' l' => ?_
    · obtain ⟨qs, m1, m2, m3, m4⟩ := M12
      have := m3 t ht
      have := hsl u hu
      omega
    · rw [wrapK_i64 ⟨by omega, by omega⟩]
      refine ⟨⟨rfl, trivial⟩, ⟨q', i + 1, by simp, by omega, fun b C hC => K' b C (lt_of_get hC) (x12 _ _ hC), ?_⟩, by simp only; omega⟩
      rw [List.take_add_one, hy, List.map_append, ← eb] at *
      exact M'
  · replace g := of_decide_eq_false g
    have e : ins.take i = ins := List.take_of_length_le (by omega)
    rw [e] at M12
    exact hQ q8 h12 x12 M12.inGG)
theorem getD_good {i : Nat} (hb : ∀ b ∈ bags, GoodB b) : GoodB (bags.getD i []) := by
  rw [List.getD_eq_getElem?_getD]
  cases e : bags[i]? with
  | none => exact good_nil
  | some g => exact hb g (List.mem_of_getElem? e)
/-- apply -/
theorem c85 {p : Nat} {c : NC} {n : NT} (hc : cellsAt h ⟨p, 0⟩ 1 = some [.sl q]) (B : BGS own F h q bags) (R : NodeR h c n) (hins : ∀ y ∈ n.ins, 0 ≤ y ∧ y < bags.length) (hl : n.ins.length ≤ 1000000) (hb : ∀ b ∈ bags, GoodB b)
    (h1 : (opR n (insOf n bags)).1 ≠ 0 → ∀ h', Ext h h' → Q (.tup [.sl none, .int .i64 (opR n (insOf n bags)).1]) h')
    (h0 : (opR n (insOf n bags)).1 = 0 → ∀ q' h', NewJ recE h h' q' (opR n (insOf n bags)).2 → Q (.tup [.sl q', .int .i64 0]) h') : AC Tryz.prog 85 [.ptr (some ⟨p, 0⟩), .agg c.cs] h Q := ac85 (by
  unfold vc85
  obtain ⟨e1, e2, e3, e4⟩ := R.same
  have eA : (slLen c.qi : Nat) = n.ins.length := R.ins.len
  have eB : (slLen c.qb : Nat) = n.body.length := R.body.len
  have hi1 : ∀ l ∈ insOf n bags, l.length ≤ 1000000 := by
    intro l hl
    obtain ⟨y, _, rfl⟩ := List.mem_map.1 hl
    have := (getD_good (i := y.toNat) hb).len
    omega
  refine c110 hc B R.ins hins hl fun q' h9 x9 G9 => ⟨q', rfl, rfl, ?_⟩
  refine c22 G9 (fun b hb => hb) (by rw [List.length_map]; exact hl) hi1 (fun hn h12 x12 => ⟨none, _, rfl, ?_⟩) (fun hz q13 h12 N12 => ⟨q13, 0, rfl, ?_⟩)
  · rw [e1, e2, e3, e4, eA, eB] at hn ⊢
    have e : (opR n (insOf n bags)).1 = applyE n.op n.ins.length n.k n.a n.A n.body.length (n.ins.map fun i => bags.getD i.toNat []) := by
      unfold opR
      exact congrArg Prod.fst (if_neg hn)
    rw [e] at h1
    exact h1 hn h12 (x9.trans x12)
  · rw [e1, e2, e3, e4, eA, eB] at hz
    rw [e1, e2, e3] at N12
    have e : opR n (insOf n bags) = (0, sortR (madeV n.op n.k n.a (insOf n bags))) := by
      unfold opR
      exact if_pos hz
    rw [e] at h0
    exact h0 rfl q13 h12 (N12.back x9))

/-- A maker of bags: its cells, its own rows. -/
structure WH (own F : Nat → Prop) (h : Heap) (p : Nat) (fv : AV) (rest : List AV) (qv : Option SL) (vars bags : List Bag) : Prop where
  cells : ∃ q, h[p]? = some (.cells (.sl q :: fv :: rest) true) ∧ BGS own F h q bags ∧ ∀ s, q = some s → s.b ≠ p ∧ ∀ t, qv = some t → s.b ≠ t.b
  vs : BGS own F h qv vars
  qvp : ∀ t, qv = some t → t.b ≠ p
  mine : own p
  live : ∀ b, own b → b < h.length
theorem WH.ext {p : Nat} {fv : AV} {rest : List AV} (W : WH own F h p fv rest qv vars bags) (e : Ext h h') : WH own F h' p fv rest qv vars bags := by
  obtain ⟨⟨q, c1, c2, c3⟩, v, w, m, l⟩ := W
  exact ⟨⟨q, e _ _ c1, c2.ext e, c3⟩, v.ext e, w, m, fun b hb => by have := l b hb; have := e.len; omega⟩
theorem set_splice1 {x y : AV} {r : List AV} : splice (x :: r) 0 [y] = y :: r := by simp [splice]
/-- A bag more. -/
theorem WH.push {p : Nat} {fv : AV} {rest : List AV} {K : Heap → Prop} (W : WH own F h p fv rest qv vars bags) (H : HasL recE h q2 x) (hq2 : ∀ u, q2 = some u → ¬ own u.b ∧ F u.b) (hl : bags.length ≤ 1000000)
    (hK : ∀ own' h', WH own' F h' p fv rest qv vars (bags ++ [x]) → MStep own h own' h' → K h') :
    vPtr (some ⟨p, 0⟩) fun p23 => ∃ q24 : Option SL, cellsAt h ⟨p23.b, p23.o + 0⟩ 1 = some [.sl q24] ∧ PNew [.sl q2] true h fun a25 h26 => PAppendS 1 24 q24 (some ⟨a25, 0, 1, 1, 0⟩) h26 fun q27 h28 => vPtr (some ⟨p, 0⟩) fun p29 => PStore h28 ⟨p29.b, p29.o + 0⟩ [.sl q27] K := by
  obtain ⟨⟨q, c1, c2, c3⟩, v, w, m, l⟩ := W
  refine ⟨q, by show cellsAt h ⟨p, 0⟩ 1 = _; unfold cellsAt; simp [c1], ?_⟩
  refine c2.push l H hq2 hl fun q' h3 own' B3 ho K3 l3 hq' => ?_
  have np : ¬ ∃ s, q = some s ∧ s.b = p := fun ⟨s, a1, a2⟩ => (c3 s a1).1 a2
  have b3 := K3 _ _ np c1
  have hpl := lt_of_get c1
  refine store6v (o := 0) b3 (by simp) ?_
  rw [set_splice1]
  have K4 : Keeps (fun b => b = p) h3 (h3.set p (.cells (.sl q' :: fv :: rest) true)) := keeps_set rfl
  have hq'p : ∀ s', q' = some s' → s'.b ≠ p := fun s' hs' => by
    rcases hq' s' hs' with a | ⟨s, a1, a2⟩
    · omega
    · rw [← a2]; exact (c3 s a1).1
  have o' : ∀ b, own' b → own b ∨ h.length ≤ b := fun b hb => by
    rcases (ho b).1 hb with a | ⟨s', a1, a2⟩
    · exact .inl a
    · rcases hq' s' a1 with b1 | ⟨s, b1, b2⟩
      · exact .inr (by omega)
      · left; rw [← a2, ← b2]
        obtain ⟨qs, _, _, d, _⟩ := c2
        exact d s b1
  have own3 : own' p := (ho p).2 (.inl m)
  refine hK own' _ ⟨⟨q', List.getElem?_set_self (lt_of_get b3), ?_, fun s hs => ⟨hq'p s hs, fun t ht => ?_⟩⟩, ?_, w, own3, fun b hb => ?_⟩ ⟨fun b C hb hC => K4 b C (fun e => hb (by rw [e]; exact m)) (K3 b C (fun ⟨s, a1, a2⟩ => ?_) hC), by simp; omega, o'⟩
  · exact B3.keeps K4 (fun b hb => by rw [hb]; exact own3) (fun s hs => ⟨hq'p s hs, (ho _).2 (.inr ⟨s, hs, rfl⟩)⟩) (fun b hb => .inl hb)
  · rcases hq' s hs with a | ⟨s1, a1, a2⟩
    · have := v.live t ht; omega
    · rw [← a2]; exact (c3 s1 a1).2 t ht
  · have v3 : BGS own' F h3 qv vars := v.keeps K3 (fun b ⟨s, a1, a2⟩ => by
      obtain ⟨qs, _, _, d, _⟩ := c2
      rw [← a2]; exact d s a1) (fun t ht => ⟨fun ⟨s, a1, a2⟩ => (c3 s a1).2 t ht a2, (ho _).2 (.inl (by
        obtain ⟨qs, _, _, d, _⟩ := v
        exact d t ht))⟩) o'
    exact v3.keeps K4 (fun b hb => by rw [hb]; exact own3) (fun t ht => ⟨w t ht, by
      obtain ⟨qs, _, _, d, _⟩ := v3
      exact d t ht⟩) (fun b hb => .inl hb)
  · rw [List.length_set]
    rcases (ho b).1 hb with a | ⟨s', a1, a2⟩
    · have := l b a; omega
    · rcases hq' s' a1 with b1 | ⟨s, b1, b2⟩
      · omega
      · have := c2.live s b1; omega
  · refine hb ?_
    obtain ⟨qs, _, _, d, _⟩ := c2
    rw [← a2]; exact d s a1
/-- What a loop came to, more. -/
theorem WH.pushv {p : Nat} {fv qin : AV} {K : Heap → Prop} (W : WH own F h p fv [qin, .sl qv] qv vars bags) (H : HasL recE h q2 x) (hq2 : ∀ u, q2 = some u → ¬ own u.b ∧ F u.b) (hl : vars.length ≤ 1000000)
    (hK : ∀ own' h' qv', WH own' F h' p fv [qin, .sl qv'] qv' (vars ++ [x]) bags → MStep own h own' h' → K h') :
    vPtr (some ⟨p, 0⟩) fun p23 => ∃ q24 : Option SL, cellsAt h ⟨p23.b, p23.o + 3⟩ 1 = some [.sl q24] ∧ PNew [.sl q2] true h fun a25 h26 => PAppendS 1 24 q24 (some ⟨a25, 0, 1, 1, 0⟩) h26 fun q27 h28 => vPtr (some ⟨p, 0⟩) fun p29 => PStore h28 ⟨p29.b, p29.o + 3⟩ [.sl q27] K := by
  obtain ⟨⟨q, c1, c2, c3⟩, v, w, m, l⟩ := W
  refine ⟨qv, by show cellsAt h ⟨p, 3⟩ 1 = _; unfold cellsAt; simp [c1], ?_⟩
  refine v.push l H hq2 hl fun q' h3 own' B3 ho K3 l3 hq' => ?_
  have np : ¬ ∃ s, qv = some s ∧ s.b = p := fun ⟨s, a1, a2⟩ => w s a1 a2
  have b3 := K3 _ _ np c1
  have hpl := lt_of_get c1
  refine store6v (o := 3) b3 (by simp) ?_
  have es : splice (AV.sl q :: fv :: [qin, .sl qv]) 3 [.sl q'] = .sl q :: fv :: [qin, .sl q'] := by simp [splice]
  rw [es]
  have K4 : Keeps (fun b => b = p) h3 (h3.set p (.cells (.sl q :: fv :: [qin, .sl q']) true)) := keeps_set rfl
  have hq'p : ∀ s', q' = some s' → s'.b ≠ p := fun s' hs' => by
    rcases hq' s' hs' with a | ⟨s, a1, a2⟩
    · omega
    · rw [← a2]; exact w s a1
  have vo : ∀ s, qv = some s → own s.b := by
    obtain ⟨qs, _, _, d, _⟩ := v
    exact d
  have co : ∀ s, q = some s → own s.b := by
    obtain ⟨qs, _, _, d, _⟩ := c2
    exact d
  have o' : ∀ b, own' b → own b ∨ h.length ≤ b := fun b hb => by
    rcases (ho b).1 hb with a | ⟨s', a1, a2⟩
    · exact .inl a
    · rcases hq' s' a1 with b1 | ⟨s, b1, b2⟩
      · exact .inr (by omega)
      · left; rw [← a2, ← b2]; exact vo s b1
  have own3 : own' p := (ho p).2 (.inl m)
  have qq' : ∀ s, q = some s → ∀ t, q' = some t → s.b ≠ t.b := fun s hs t ht => by
    rcases hq' t ht with a | ⟨s1, a1, a2⟩
    · have := c2.live s hs; omega
    · rw [← a2]; exact (c3 s hs).2 s1 a1
  refine hK own' _ q' ⟨⟨q, List.getElem?_set_self (lt_of_get b3), ?_, fun s hs => ⟨(c3 s hs).1, qq' s hs⟩⟩, ?_, hq'p, own3, fun b hb => ?_⟩ ⟨fun b C hb hC => K4 b C (fun e => hb (by rw [e]; exact m)) (K3 b C (fun ⟨s, a1, a2⟩ => hb (by rw [← a2]; exact vo s a1)) hC), by simp; omega, o'⟩
  · have c5 : BGS own' F h3 q bags := c2.keeps K3 (fun b ⟨s, a1, a2⟩ => by rw [← a2]; exact vo s a1) (fun t ht => ⟨fun ⟨s, a1, a2⟩ => (c3 t ht).2 s a1 a2.symm, (ho _).2 (.inl (co t ht))⟩) o'
    exact c5.keeps K4 (fun b hb => by rw [hb]; exact own3) (fun t ht => ⟨(c3 t ht).1, (ho _).2 (.inl (co t ht))⟩) (fun b hb => .inl hb)
  · exact B3.keeps K4 (fun b hb => by rw [hb]; exact own3) (fun s hs => ⟨hq'p s hs, (ho _).2 (.inr ⟨s, hs, rfl⟩)⟩) (fun b hb => .inl hb)
  · rw [List.length_set]
    rcases (ho b).1 hb with a | ⟨s', a1, a2⟩
    · have := l b a; omega
    · rcases hq' s' a1 with b1 | ⟨s, b1, b2⟩
      · omega
      · have := v.live s b1; omega
/-- What a loop came to, at first. -/
theorem WH.setv {p : Nat} {fv qin : AV} {K : Heap → Prop} {qv0 : Option SL} (W : WH own F h p fv [qin, .sl qv0] qv vars bags) (H : HasL recE h q2 x) (hq2 : ∀ u, q2 = some u → ¬ own u.b ∧ F u.b)
    (hK : ∀ own' h' qv', WH own' F h' p fv [qin, .sl qv'] qv' [x] bags → MStep own h own' h' → K h') :
    PNew [.sl q2] true h fun a14 h15 => vPtr (some ⟨p, 0⟩) fun p16 => PStore h15 ⟨p16.b, p16.o + 3⟩ [.sl (some ⟨a14, 0, 1, 1, 0⟩)] K := by
  refine pnew_mk ?_
  obtain ⟨⟨q, c1, c2, c3⟩, v, w, m, l⟩ := W
  have x1 := Ext.app h [Blk.cells [.sl q2] true]
  have A1 : AppJ slE (h ++ [Blk.cells [.sl q2] true]) (some ⟨h.length, 0, 1, 1, 0⟩) [q2] := .of (Apd.mk rfl (.inl rfl) (by simp; rfl))
  have l1 : (h ++ [Blk.cells [AV.sl q2] true]).length = h.length + 1 := by simp
  generalize h ++ [Blk.cells [.sl q2] true] = h1 at *
  have b1 := x1 _ _ c1
  have hpl := lt_of_get c1
  refine store6v (o := 3) b1 (by simp) ?_
  have es : splice (AV.sl q :: fv :: [qin, .sl qv0]) 3 [.sl (some ⟨h.length, 0, 1, 1, 0⟩)] = .sl q :: fv :: [qin, .sl (some ⟨h.length, 0, 1, 1, 0⟩)] := by simp [splice]
  rw [es]
  have K4 : Keeps (fun b => b = p) h1 (h1.set p (.cells (.sl q :: fv :: [qin, .sl (some ⟨h.length, 0, 1, 1, 0⟩)]) true)) := keeps_set rfl
  have co : ∀ s, q = some s → own s.b := by
    obtain ⟨qs, _, _, d, _⟩ := c2
    exact d
  have o' : ∀ b, (own b ∨ b = h.length) → own b ∨ h.length ≤ b := fun b hb => by
    rcases hb with a | a
    · exact .inl a
    · exact .inr (by omega)
  refine hK (fun b => own b ∨ b = h.length) _ (some ⟨h.length, 0, 1, 1, 0⟩) ⟨⟨q, List.getElem?_set_self (lt_of_get b1), ?_, fun s hs => ⟨(c3 s hs).1, fun t ht => ?_⟩⟩, ?_, fun t ht => ?_, .inl m, fun b hb => ?_⟩ ⟨fun b C hb hC => K4 b C (fun e => hb (by rw [e]; exact m)) (x1 _ _ hC), by simp; omega, o'⟩
  · have c5 : BGS (fun b => own b ∨ b = h.length) F h1 q bags := c2.keeps (X := fun _ => False) (keeps_of_ext x1) (fun b hb => hb.elim) (fun t ht => ⟨fun e => e, .inl (co t ht)⟩) o'
    exact c5.keeps K4 (fun b hb => .inl (by rw [hb]; exact m)) (fun t ht => ⟨(c3 t ht).1, .inl (co t ht)⟩) (fun b hb => .inl hb)
  · cases ht; have := c2.live s hs; simp only; omega
  · refine ⟨[q2], A1.keeps K4 (fun s hs => by cases hs; simp only; omega), rfl, fun s hs => by cases hs; exact .inr rfl, fun i s g hs hg => ?_⟩
    match i with
    | 0 =>
      simp only [List.getElem?_cons_zero, Option.some.injEq] at hs hg
      subst hs; subst hg
      refine ⟨K4.hasL (fun u hu e => (hq2 u hu).1 (by rw [e]; exact m)) (H.mono x1), fun u hu => ⟨fun e => ?_, (hq2 u hu).2⟩⟩
      rcases e with e | e
      · exact (hq2 u hu).1 e
      · have := H.live u hu; omega
    | i + 1 => simp at hs
  · cases ht; simp only; omega
  · rw [List.length_set]
    rcases hb with a | a
    · have := l b a; omega
    · omega
end
end Go.Proofs.YtfafgnmlnhklaaaGreat
