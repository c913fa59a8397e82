/- Bags that came in. -/
import Derived.Test.YtfafgnmlnhklaaaGreatAG12
import Derived.Test.YtfafgnmlnhklaaaGreatAG16
import Derived.Test.YtfafgnmlnhklaaaGreatAG18
namespace Go.Proofs.YtfafgnmlnhklaaaGreat
open Go.Ab
open Go.ChangeShapes Go.WideShapes Go.ChangeAt Go.RowKit
set_option linter.unusedVariables false
set_option linter.unusedSimpArgs false

section
variable {H : Type} {enc : TypeId × Value → H} {W : World}
set_option maxRecDepth 100000 in
theorem rec_in (n : Nat) (cs' : List Value) (y : DataW H × List MemPlace) (h : DataW.trod enc Tryz.prog W 0 (fun _ => true) true n 56 cs' = some y) (hl : cs'.length = recE.sz) : ∃ a, ∀ μ, relL μ (recE.f a) cs' := by
  obtain ⟨y0, y1, n', _, _, h0, h1⟩ := trod_struct2 Tryz.underlying56 h
  match cs', hl with
  | [c0, c1], _ =>
    have h0 : DataW.trod enc Tryz.prog W 0 (fun _ => true) true n' 3 [c0] = some y0 := h0
    have h1 : DataW.trod enc Tryz.prog W 0 (fun _ => true) true n' 3 [c1] = some y1 := h1
    obtain ⟨a, e0, _, _⟩ := DataW.trod_int Tryz.underlying3 h0
    obtain ⟨b, e1, _, _⟩ := DataW.trod_int Tryz.underlying3 h1
    simp at e0 e1
    subst e0 e1
    exact ⟨(a, b), fun μ => ⟨_, _, rfl, rfl, _, _, rfl, rfl, rfl⟩⟩

set_option maxRecDepth 100000 in
/-- A bag that came in. -/
theorem bag_in {v : Value} {d : DataW H} {p : List MemPlace} {r : Reach} {base : Nat} (hv0 : Value.okWide Tryz.prog W r base 28 v) (h : DataW.Trod enc Tryz.prog W 0 (fun _ => true) true 28 v d p) {μ : Ren} {hp : Heap} (HH : HRel μ hp W) (ro : ReadOnly hp) :
    ∃ (l1 : Ren) (bs : Heap) (q : Option SL) (l : List Rec), HRel (μ ++ l1) (hp ++ bs) W ∧ ReadOnly (hp ++ bs) ∧ AV.rel (μ ++ l1) (.sl q) v ∧ HasL recE (hp ++ bs) q l := by
  have hv : Cell.okWide Tryz.prog W r base 28 v := by
    unfold Value.okWide at hv0
    rw [Tryz.underlying28] at hv0
    exact hv0
  obtain ⟨fuel, hf⟩ := h
  have hc : v.cells.toList = [v] := by
    rcases cell_slice Tryz.underlying28 hv with rfl | ⟨b, o, len, cap, rfl, _, _⟩ <;> simp [Value.cells]
  rw [hc] at hf
  exact slice_in recE Tryz.underlying28 (by kernel_rfl) rec_in hv hf HH ro
end

end Go.Proofs.YtfafgnmlnhklaaaGreat

/- Nodes and lists of bags that came in. -/
namespace Go.Proofs.YtfafgnmlnhklaaaGreat
open Go.Ab
open Go.ChangeShapes Go.WideShapes Go.ChangeAt Go.RowKit
set_option linter.unusedVariables false
set_option linter.unusedSimpArgs false

theorem addDeads {W : World} : ∀ {l : List ME} {μ : Ren} {hp : Heap}, HRel μ hp W → ReadOnly hp → (∀ e ∈ l, e.r < W.heap.size) → HRel (μ ++ l) (hp ++ List.replicate l.length .dead) W ∧ ReadOnly (hp ++ List.replicate l.length .dead)
  | [], μ, hp, H, R, _ => by simpa using ⟨H, R⟩
  | e :: l, μ, hp, H, R, hl => by
    have H1 := H.addRO R (e := e) (B := .dead) rfl (hl e (by simp)) trivial
    have R1 := R.add (B := .dead) rfl
    have := addDeads (l := l) H1 R1 (fun x hx => hl x (by simp [hx]))
    simpa [List.replicate_succ] using this

section
variable {H : Type} {enc : TypeId × Value → H} {W : World}
set_option maxRecDepth 100000 in
/-- A node that came in: of its lists nobody looks at more than how long they are. -/
theorem node_in {v : Value} {r : Reach} {base : Nat} (hv : Value.okWide Tryz.prog W r base 45 v) {μ : Ren} {hp : Heap} (HH : HRel μ hp W) (ro : ReadOnly hp) :
    ∃ (l1 : Ren) (bs : Heap) (op k a A : Int) (q2 q6 : Option SL), HRel (μ ++ l1) (hp ++ bs) W ∧ ReadOnly (hp ++ bs) ∧ AV.rel (μ ++ l1) (.agg [.int .i64 op, .sl q2, .int .i64 k, .int .i64 a, .int .i64 A, .sl q6]) v := by
  obtain ⟨cs, rfl, hl, hc⟩ := row_cells (ts := [3, 41, 3, 3, 3, 22]) Tryz.underlying45 (.inl ⟨_, rfl⟩) hv (by kernel_rfl) (by kernel_rfl)
  obtain ⟨x0, g0, h0⟩ := hc 0 3 rfl
  obtain ⟨x1, g1, h1⟩ := hc 1 41 rfl
  obtain ⟨x2, g2, h2⟩ := hc 2 3 rfl
  obtain ⟨x3, g3, h3⟩ := hc 3 3 rfl
  obtain ⟨x4, g4, h4⟩ := hc 4 3 rfl
  obtain ⟨x5, g5, h5⟩ := hc 5 22 rfl
  obtain rfl : cs = [x0, x1, x2, x3, x4, x5] := by
    match cs, hl with
    | [y0, y1, y2, y3, y4, y5], _ => simp at g0 g1 g2 g3 g4 g5; simp_all
  obtain ⟨op, rfl⟩ := cell_int Tryz.underlying3 h0
  obtain ⟨k, rfl⟩ := cell_int Tryz.underlying3 h2
  obtain ⟨a, rfl⟩ := cell_int Tryz.underlying3 h3
  obtain ⟨A, rfl⟩ := cell_int Tryz.underlying3 h4
  obtain ⟨q2, l2, _, e2, r2⟩ := dead_slice Tryz.underlying41 h1 μ.length
  have r2 := r2 μ rfl
  obtain ⟨q6, l6, _, e6, r6⟩ := dead_slice Tryz.underlying22 h5 (μ ++ l2).length
  have r6 := r6 (μ ++ l2) rfl
  obtain ⟨K1, R1⟩ := addDeads (l := l2 ++ l6) HH ro (fun e he => by rcases List.mem_append.1 he with he | he; exact e2 e he; exact e6 e he)
  refine ⟨l2 ++ l6, _, op, k, a, A, q2, q6, K1, R1, ?_⟩
  refine ⟨_, rfl, _, _, rfl, rfl, _, _, rfl, r2 _ (by rw [← List.append_assoc]; exact Ren.le_append _ _), _, _, rfl, rfl, _, _, rfl, rfl, _, _, rfl, rfl, _, _, rfl, r6 _ (by rw [List.append_assoc]; exact Ren.le.refl _), rfl⟩

set_option maxRecDepth 100000 in
theorem okc29 {v : Value} {r : Reach} {base : Nat} (hv0 : Value.okWide Tryz.prog W r base 25 v) : Cell.okWide Tryz.prog W r base 25 v := by
  unfold Value.okWide at hv0
  rw [Tryz.underlying25] at hv0
  exact hv0
set_option maxRecDepth 100000 in
/-- Bags that came in. -/
theorem bags_in {v : Value} {d : DataW H} {p : List MemPlace} {r : Reach} {base : Nat} (hv : Value.okWide Tryz.prog W r base 25 v) (h : DataW.Trod enc Tryz.prog W 0 (fun _ => true) true 25 v d p) :
    ∃ (μ : Ren) (hp : Heap) (q : Option SL) (ls : List (List Rec)), HRel μ hp W ∧ ReadOnly hp ∧ AV.rel μ (.sl q) v ∧ InGG (fun b => b < hp.length) hp q ls := by
  obtain ⟨μ, hp, q, L, l, k1, k2, k3, k4, k5, k6, k7⟩ := nested_in slE (fun h q l => HasL recE h q l) (fun x Hl => Hl.mono x) Tryz.underlying25 (by kernel_rfl) (fun n cs' y hy hl μ hp HH ro b0 c0 rw0 hb => by
    match cs', hl with
    | [c], _ =>
      obtain ⟨l1, bs, q, l, k1, k2, k3, k4⟩ := slice_in0 recE Tryz.underlying28 (by kernel_rfl) rec_in hy HH ro hb
      exact ⟨l1, bs, q, l, k1, k2, ⟨_, _, rfl, k3, rfl⟩, k4⟩) (okc29 hv) h
  exact ⟨μ, hp, q, l, k1, k2, k3, L, k4, k5, fun s hs => k4.live s hs, fun i s g hs hg => ⟨k7 i s g hs hg, fun u hu => (k7 i s g hs hg).live u hu⟩⟩
end

end Go.Proofs.YtfafgnmlnhklaaaGreat
