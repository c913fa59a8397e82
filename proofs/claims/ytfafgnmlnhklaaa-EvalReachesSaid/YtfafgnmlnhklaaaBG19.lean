/- Bags that came in. -/
import Derived.Test.YtfafgnmlnhklaaaBG10
import Derived.Test.YtfafgnmlnhklaaaBG13
import Derived.Test.YtfafgnmlnhklaaaBG17
import Derived.Test.YtfafgnmlnhklaaaBG18
namespace Go.Proofs.Ytfafgnmlnhklaaa
open Go.Ab
open Go.ChangeShapes Go.WideShapes Go.ChangeAt Go.RowKit
set_option linter.unusedVariables false
set_option linter.unusedSimpArgs false

section
variable {H : Type} {enc : TypeId × Value → H} {W : World}
set_option maxRecDepth 100000 in
theorem rec_in (n : Nat) (cs' : List Value) (y : DataW H × List MemPlace) (h : DataW.trod enc Try.prog W 0 (fun _ => true) true n 26 cs' = some y) (hl : cs'.length = recE.sz) : ∃ a, ∀ μ, relL μ (recE.f a) cs' := by
  obtain ⟨y0, y1, n', _, _, h0, h1⟩ := trod_struct2 Try.underlying26 h
  match cs', hl with
  | [c0, c1], _ =>
    have h0 : DataW.trod enc Try.prog W 0 (fun _ => true) true n' 3 [c0] = some y0 := h0
    have h1 : DataW.trod enc Try.prog W 0 (fun _ => true) true n' 3 [c1] = some y1 := h1
    obtain ⟨a, e0, _, _⟩ := DataW.trod_int Try.underlying3 h0
    obtain ⟨b, e1, _, _⟩ := DataW.trod_int Try.underlying3 h1
    simp at e0 e1
    subst e0 e1
    exact ⟨(a, b), fun μ => ⟨_, _, rfl, rfl, _, _, rfl, rfl, rfl⟩⟩

set_option maxRecDepth 100000 in
/-- A bag that came in. -/
theorem bag_in {v : Value} {d : DataW H} {p : List MemPlace} {r : Reach} {base : Nat} (hv0 : Value.okWide Try.prog W r base 24 v) (h : DataW.Trod enc Try.prog W 0 (fun _ => true) true 24 v d p) {μ : Ren} {hp : Heap} (HH : HRel μ hp W) (ro : ReadOnly hp) :
    ∃ (l1 : Ren) (bs : Heap) (q : Option SL) (l : List Rec), HRel (μ ++ l1) (hp ++ bs) W ∧ ReadOnly (hp ++ bs) ∧ AV.rel (μ ++ l1) (.sl q) v ∧ HasL recE (hp ++ bs) q l := by
  have hv : Cell.okWide Try.prog W r base 24 v := by
    unfold Value.okWide at hv0
    rw [Try.underlying24] at hv0
    exact hv0
  obtain ⟨fuel, hf⟩ := h
  have hc : v.cells.toList = [v] := by
    rcases cell_slice Try.underlying24 hv with rfl | ⟨b, o, len, cap, rfl, _, _⟩ <;> simp [Value.cells]
  rw [hc] at hf
  exact slice_in recE Try.underlying24 (by kernel_rfl) rec_in hv hf HH ro
end

end Go.Proofs.Ytfafgnmlnhklaaa

/- Nodes and lists of bags that came in. -/
namespace Go.Proofs.Ytfafgnmlnhklaaa
open Go.Ab
open Go.ChangeShapes Go.WideShapes Go.ChangeAt Go.RowKit
set_option linter.unusedVariables false
set_option linter.unusedSimpArgs false

theorem addDeads {W : World} : ∀ {l : List ME} {μ : Ren} {hp : Heap}, HRel μ hp W → ReadOnly hp → (∀ e ∈ l, e.r < W.heap.size) → HRel (μ ++ l) (hp ++ List.replicate l.length .dead) W ∧ ReadOnly (hp ++ List.replicate l.length .dead)
  | [], μ, hp, H, R, _ => by simpa using ⟨H, R⟩
  | e :: l, μ, hp, H, R, hl => by
    have H1 := H.addRO R (e := e) (B := .dead) rfl (hl e (by simp)) trivial
    have R1 := R.add (B := .dead) rfl
    have := addDeads (l := l) H1 R1 (fun x hx => hl x (by simp [hx]))
    simpa [List.replicate_succ] using this

section
variable {H : Type} {enc : TypeId × Value → H} {W : World}
set_option maxRecDepth 100000 in
/-- A node that came in: of its lists nobody looks at more than how long they are. -/
theorem node_in {v : Value} {r : Reach} {base : Nat} (hv : Value.okWide Try.prog W r base 51 v) {μ : Ren} {hp : Heap} (HH : HRel μ hp W) (ro : ReadOnly hp) :
    ∃ (l1 : Ren) (bs : Heap) (op k a A : Int) (q2 q6 : Option SL), HRel (μ ++ l1) (hp ++ bs) W ∧ ReadOnly (hp ++ bs) ∧ AV.rel (μ ++ l1) (.agg [.int .i64 op, .sl q2, .int .i64 k, .int .i64 a, .int .i64 A, .sl q6]) v := by
  obtain ⟨cs, rfl, hl, hc⟩ := row_cells (ts := [3, 22, 3, 3, 3, 35]) Try.underlying51 (.inl ⟨_, rfl⟩) hv (by kernel_rfl) (by kernel_rfl)
  obtain ⟨x0, g0, h0⟩ := hc 0 3 rfl
  obtain ⟨x1, g1, h1⟩ := hc 1 22 rfl
  obtain ⟨x2, g2, h2⟩ := hc 2 3 rfl
  obtain ⟨x3, g3, h3⟩ := hc 3 3 rfl
  obtain ⟨x4, g4, h4⟩ := hc 4 3 rfl
  obtain ⟨x5, g5, h5⟩ := hc 5 35 rfl
  obtain rfl : cs = [x0, x1, x2, x3, x4, x5] := by
    match cs, hl with
    | [y0, y1, y2, y3, y4, y5], _ => simp at g0 g1 g2 g3 g4 g5; simp_all
  obtain ⟨op, rfl⟩ := cell_int Try.underlying3 h0
  obtain ⟨k, rfl⟩ := cell_int Try.underlying3 h2
  obtain ⟨a, rfl⟩ := cell_int Try.underlying3 h3
  obtain ⟨A, rfl⟩ := cell_int Try.underlying3 h4
  obtain ⟨q2, l2, _, e2, r2⟩ := dead_slice Try.underlying22 h1 μ.length
  have r2 := r2 μ rfl
  obtain ⟨q6, l6, _, e6, r6⟩ := dead_slice Try.underlying35 h5 (μ ++ l2).length
  have r6 := r6 (μ ++ l2) rfl
  obtain ⟨K1, R1⟩ := addDeads (l := l2 ++ l6) HH ro (fun e he => by rcases List.mem_append.1 he with he | he; exact e2 e he; exact e6 e he)
  refine ⟨l2 ++ l6, _, op, k, a, A, q2, q6, K1, R1, ?_⟩
  refine ⟨_, rfl, _, _, rfl, rfl, _, _, rfl, r2 _ (by rw [← List.append_assoc]; exact Ren.le_append _ _), _, _, rfl, rfl, _, _, rfl, rfl, _, _, rfl, rfl, _, _, rfl, r6 _ (by rw [List.append_assoc]; exact Ren.le.refl _), rfl⟩

set_option maxRecDepth 100000 in
theorem okc29 {v : Value} {r : Reach} {base : Nat} (hv0 : Value.okWide Try.prog W r base 29 v) : Cell.okWide Try.prog W r base 29 v := by
  unfold Value.okWide at hv0
  rw [Try.underlying29] at hv0
  exact hv0
set_option maxRecDepth 100000 in
/-- Bags that came in. -/
theorem bags_in {v : Value} {d : DataW H} {p : List MemPlace} {r : Reach} {base : Nat} (hv : Value.okWide Try.prog W r base 29 v) (h : DataW.Trod enc Try.prog W 0 (fun _ => true) true 29 v d p) :
    ∃ (μ : Ren) (hp : Heap) (q : Option SL) (ls : List (List Rec)), HRel μ hp W ∧ ReadOnly hp ∧ AV.rel μ (.sl q) v ∧ InGG (fun b => b < hp.length) hp q ls := by
  obtain ⟨μ, hp, q, L, l, k1, k2, k3, k4, k5, k6, k7⟩ := nested_in slE (fun h q l => HasL recE h q l) (fun x Hl => Hl.mono x) Try.underlying29 (by kernel_rfl) (fun n cs' y hy hl μ hp HH ro b0 c0 rw0 hb => by
    match cs', hl with
    | [c], _ =>
      obtain ⟨l1, bs, q, l, k1, k2, k3, k4⟩ := slice_in0 recE Try.underlying24 (by kernel_rfl) rec_in hy HH ro hb
      exact ⟨l1, bs, q, l, k1, k2, ⟨_, _, rfl, k3, rfl⟩, k4⟩) (okc29 hv) h
  exact ⟨μ, hp, q, l, k1, k2, k3, L, k4, k5, fun s hs => k4.live s hs, fun i s g hs hg => ⟨k7 i s g hs hg, fun u hu => (k7 i s g hs hg).live u hu⟩⟩
end

end Go.Proofs.Ytfafgnmlnhklaaa

/- Nodes as trees; what stands for them in the heap; graphs that came in. -/
namespace Go.Proofs.Ytfafgnmlnhklaaa
open Go.Ab
open Go.ChangeShapes Go.WideShapes Go.ChangeAt Go.RowKit
set_option linter.unusedVariables false
set_option linter.unusedSimpArgs false

/-- A node, with its body's. -/
inductive NT where
  | mk (op : Int) (ins : List Int) (k a A : Int) (body : List NT)
instance : Inhabited NT := ⟨.mk 0 [] 0 0 0 []⟩
namespace NT
def op : NT → Int | .mk o _ _ _ _ _ => o
def ins : NT → List Int | .mk _ i _ _ _ _ => i
def k : NT → Int | .mk _ _ k _ _ _ => k
def a : NT → Int | .mk _ _ _ a _ _ => a
def A : NT → Int | .mk _ _ _ _ A _ => A
def body : NT → List NT | .mk _ _ _ _ _ b => b
end NT
/-- A node's cells. -/
structure NC where
  op : Int
  qi : Option SL
  k : Int
  a : Int
  A : Int
  qb : Option SL
instance : Inhabited NC := ⟨⟨0, none, 0, 0, 0, none⟩⟩
def NC.cs (c : NC) : List AV := [.int .i64 c.op, .sl c.qi, .int .i64 c.k, .int .i64 c.a, .int .i64 c.A, .sl c.qb]
def nodeE : Enc NC := ⟨6, NC.cs, fun _ => rfl, by omega, fun _ => rfl⟩

inductive NodeR (h : Heap) : NC → NT → Prop where
  | mk {op k a A : Int} {qi qb : Option SL} {ins : List Int} {body : List NT} {L : List NC} (hi : HasL intE h qi ins) (hb : HasL nodeE h qb L) (hl : L.length = body.length)
      (he : ∀ (i : Nat) (c : NC) (n : NT), L[i]? = some c → body[i]? = some n → NodeR h c n) : NodeR h ⟨op, qi, k, a, A, qb⟩ (.mk op ins k a A body)
/-- A list of nodes. -/
def NodesR (h : Heap) (q : Option SL) (l : List NT) : Prop := ∃ L : List NC, HasL nodeE h q L ∧ L.length = l.length ∧ ∀ (i : Nat) (c : NC) (n : NT), L[i]? = some c → l[i]? = some n → NodeR h c n

theorem NodeR.mono {h h' : Heap} (x : Ext h h') {c : NC} {n : NT} (r : NodeR h c n) : NodeR h' c n := by
  induction r with
  | mk hi hb hl he ih => exact .mk (hi.mono x) (hb.mono x) hl ih
theorem NodesR.mono {h h' : Heap} {q : Option SL} {l : List NT} (x : Ext h h') (r : NodesR h q l) : NodesR h' q l := by
  obtain ⟨L, h1, h2, h3⟩ := r
  exact ⟨L, h1.mono x, h2, fun i c n hc hn => (h3 i c n hc hn).mono x⟩
theorem NodesR.len {h : Heap} {q : Option SL} {l : List NT} (r : NodesR h q l) : slLen q = l.length := by
  obtain ⟨L, h1, h2, _⟩ := r
  rw [h1.len, h2]
theorem NodeR.ins {h : Heap} {c : NC} {n : NT} (r : NodeR h c n) : HasL intE h c.qi n.ins := by
  cases r with | mk hi hb hl he => exact hi
theorem NodeR.body {h : Heap} {c : NC} {n : NT} (r : NodeR h c n) : NodesR h c.qb n.body := by
  cases r with | mk hi hb hl he => exact ⟨_, hb, hl, he⟩
theorem NodeR.same {h : Heap} {c : NC} {n : NT} (r : NodeR h c n) : c.op = n.op ∧ c.k = n.k ∧ c.a = n.a ∧ c.A = n.A := by
  cases r with | mk hi hb hl he => exact ⟨rfl, rfl, rfl, rfl⟩
theorem NodesR.idx {h : Heap} {q : Option SL} {l : List NT} (r : NodesR h q l) {i : Nat} (hi : i < l.length) {ix : Int} (hix : ix = i) {K : PA → Prop} (hK : ∀ p c n, l[i]? = some n → cellsAt h p 6 = some c.cs → NodeR h c n → K p) : vIdx q ix 6 K := by
  obtain ⟨L, h1, h2, h3⟩ := r
  refine h1.idx (E := nodeE) (by omega) (by omega) fun p c hc hcx => ?_
  have e : ix.toNat = i := by omega
  rw [e] at hc
  have hn : l[i]? = some l[i] := List.getElem?_eq_getElem hi
  exact hK p c _ hn hcx (h3 i c _ hc hn)
theorem NodesR.idx6 {h : Heap} {q : Option SL} {l : List NT} (r : NodesR h q l) {i : Nat} (hi : i < l.length) {ix : Int} (hix : ix = i) {K : PA → Int → Option SL → Int → Int → Int → Option SL → Prop}
    (hK : ∀ p c n, l[i]? = some n → NodeR h c n → K p c.op c.qi c.k c.a c.A c.qb) :
    vIdx q ix 6 fun p7 => ∃ n8 : Int, ∃ q9 : Option SL, ∃ n10 : Int, ∃ n11 : Int, ∃ n12 : Int, ∃ q13 : Option SL, cellsAt h p7 6 = some [.int .i64 n8, .sl q9, .int .i64 n10, .int .i64 n11, .int .i64 n12, .sl q13] ∧ K p7 n8 q9 n10 n11 n12 q13 :=
  r.idx hi hix fun p c n hn hc hr => ⟨_, _, _, _, _, _, hc, hK p c n hn hr⟩

end Go.Proofs.Ytfafgnmlnhklaaa

/- Which graphs may be: the program's check, and the reference's. -/
namespace Go.Proofs.Ytfafgnmlnhklaaa
open Go.Ab
set_option linter.unusedVariables false
set_option linter.unusedSimpArgs false

def famV (op : Int) : Int := if 2 ≤ op ∧ op ≤ 6 then op - 1 else 0
/-- What is asked of a node wherever it stands. -/
structure Base (n : NT) (i : Nat) : Prop where
  op : 1 ≤ n.op ∧ n.op ≤ 11
  len : n.ins.length = arityV n.op
  ins : ∀ x ∈ n.ins, 0 ≤ x ∧ x < i
  fn : if famV n.op = 0 then n.k = 0 ∧ n.a = 0 else fam n.k n.a = famV n.op
def NumOk (op A loop : Int) : Prop :=
  if op = 1 then loop = -1 ∧ 0 ≤ A ∧ A < 4 else if op = 9 then loop = -1 ∧ 1 ≤ A ∧ A ≤ 64 else if op = 10 then loop ≠ -1 ∧ A = 0 else if op = 11 then loop ≠ -1 ∧ 0 ≤ A ∧ A < loop else A = 0
/-- A node inside. -/
def OkI (loop : Nat) (n : NT) (i : Nat) : Prop := Base n i ∧ NumOk n.op n.A loop ∧ n.body = []
/-- A loop's body. -/
def OkB (l : List NT) (loop : Nat) : Prop := 1 ≤ l.length ∧ l.length ≤ 32 ∧ ∀ i n, l[i]? = some n → OkI loop n i
/-- A node. -/
def OkN (loop : Int) (n : NT) (i : Nat) : Prop := Base n i ∧ NumOk n.op n.A loop ∧ if n.op = 9 then OkB n.body i else n.body = []
def loopsV (l : List NT) : Nat := l.countP fun n => n.op == 9
/-- A graph. -/
structure OkG (l : List NT) (out : Int) : Prop where
  len : 1 ≤ l.length ∧ l.length ≤ 32
  out : 0 ≤ out ∧ out < l.length
  node : ∀ i n, l[i]? = some n → OkN (-1) n i
  one : loopsV l ≤ 1
theorem okI_iff {loop : Nat} {n : NT} {i : Nat} : OkN loop n i ↔ OkI loop n i := by
  unfold OkN OkI
  constructor
  · rintro ⟨a, b, c⟩
    refine ⟨a, b, ?_⟩
    by_cases h : n.op = 9
    · unfold NumOk at b
      rw [if_neg (by omega), if_pos h] at b
      omega
    · rwa [if_neg h] at c
  · rintro ⟨a, b, c⟩
    refine ⟨a, b, ?_⟩
    have h : n.op ≠ 9 := by
      intro h
      unfold NumOk at b
      rw [if_neg (by omega), if_pos h] at b
      omega
    rwa [if_neg h]

section
variable {h : Heap} {Q : AV → Heap → Prop} {q qi qb : Option SL} {op k a A : Int} {n : NT} {c : NC} {i : Nat} {l : List NT}
theorem c70 (hQ : ∀ f b, (b = true ↔ 1 ≤ op ∧ op ≤ 11) → f = famV op → Q (.tup [.agg [.int .i64 (arityV op : Nat), .int .i64 f], .bool b]) h) : AC Try.prog 70 [.int .i64 op] h Q := ac70 (by
  unfold vc70
  have hq : ∀ (m f : Int) (b : Bool), m = (arityV op : Nat) → (b = true ↔ 1 ≤ op ∧ op ≤ 11) → f = famV op → Q (.tup [.agg [.int .i64 m, .int .i64 f], .bool b]) h := by
    rintro m f b rfl h1 h2; exact hQ f b h1 h2
  unfold arityV famV at hq
  repeat' (first | refine vif_mk (fun g => ?_) (fun g => ?_))
  all_goals (simp only [beq_iff_eq, beq_eq_false_iff_ne] at *)
  all_goals (try subst op)
  all_goals (refine hq _ _ _ ?_ ?_ ?_)
  all_goals (try decide)
  · rw [if_neg (by omega), if_neg (by omega)]; rfl
  · simp; omega
  · rw [if_neg (by omega)])
theorem c111 {p : PA} {m x : Int} (hc : cellsAt h p 1 = some [.int .i64 m]) (hQ : Q (.bool (decide (0 ≤ x ∧ x < m))) h) : AC Try.prog 111 [.int .i64 x, .ptr (some p)] h Q := ac111 (by
  unfold vc111
  refine vif_mk (fun g => ⟨m, hc, ?_⟩) (fun g => ?_)
  · have g := of_decide_eq_true g
    have e : decide (0 ≤ x ∧ x < m) = decide (x < m) := by rw [Bool.eq_iff_iff]; simp; omega
    rw [← e]; exact hQ
  · have g := of_decide_eq_false g
    have e : decide (0 ≤ x ∧ x < m) = false := decide_eq_false (by omega)
    rw [← e]; exact hQ)
theorem c113 {p p9 : PA} {m x : Int} (hv : cellsAt h p 1 = some [.func (.func 111) [] [.ptr (some p9)]]) (hc : cellsAt h p9 1 = some [.int .i64 m]) (hQ : Q (.bool (!decide (0 ≤ x ∧ x < m))) h) : AC Try.prog 113 [.int .i64 x, .ptr (some p)] h Q := ac113 (by
  unfold vc113
  exact ⟨.func (.func 111) [] [.ptr (some p9)], rfl, hv, c111 hc ⟨_, rfl, hQ⟩⟩)
theorem c112 {p p9 : PA} {m : Int} {ins : List Int} (hv : cellsAt h p 1 = some [.func (.func 111) [] [.ptr (some p9)]]) (hc : cellsAt h p9 1 = some [.int .i64 m]) (H : HasL intE h q ins) (hl : ins.length ≤ 1000000)
    (hQ : ∀ b, (b = true ↔ ∃ x ∈ ins, ¬ (0 ≤ x ∧ x < m)) → Q (.bool b) h) : AC Try.prog 112 [.sl q, .func (.func 113) [] [.ptr (some p)]] h Q := ac112 (by
  unfold vc112
  refine ac132 ?_
  unfold vc132
  refine ⟨fun xs h6 => h6 = h ∧ ∃ i : Nat, xs = [.int .i64 i] ∧ i ≤ ins.length ∧ ∀ x ∈ ins.take i, 0 ≤ x ∧ x < m, left ins.length, ⟨rfl, 0, rfl, by omega, by simp⟩, ?_⟩
  rintro n3 h6 ⟨rfl, i, hx, hi, ha⟩
  simp only [List.cons.injEq, AV.int.injEq, true_and, and_true] at hx
  subst hx
  rw [H.len]
  refine vif_mk (fun g => ?_) (fun g => ?_)
  · replace g := of_decide_eq_true g
    refine H.idx (E := intE) (by omega) (by omega) fun p x hx hcx => ⟨x, hcx, c113 hv hc ⟨_, rfl, vif_mk (fun g1 => ?_) (fun g1 => ?_)⟩⟩
    · refine ⟨_, rfl, hQ _ ?_⟩
      simp only [decide_eq_true_eq]
      exact ⟨fun _ => ⟨x, List.mem_of_getElem? hx, by simp only [Bool.not_eq_true', decide_eq_false_iff_not] at g1; exact g1⟩, fun _ => by omega⟩
    · simp only [Int.toNat_natCast] at hx
      rw [wrapK_i64 ⟨by omega, by omega⟩]
      refine ⟨trivial, ⟨rfl, i + 1, by simp, by omega, fun y hy => ?_⟩, by simp only [left]; omega⟩
      rw [List.take_add_one, hx] at hy
      rcases List.mem_append.1 hy with hy | hy
      · exact ha y hy
      · simp only [Option.toList_some, List.mem_singleton] at hy
        subst hy; simpa using g1
  · replace g := of_decide_eq_false g
    have e : ins.take i = ins := List.take_of_length_le (by omega)
    rw [e] at ha
    refine ⟨_, rfl, hQ _ ?_⟩
    simp only [decide_eq_true_eq]
    exact ⟨fun g => by omega, fun ⟨x, hx, hn⟩ => absurd (ha x hx) hn⟩)
/-- function -/
theorem c114 {f : Int} (hQ : ∀ b, (b = true ↔ if f = 0 then k = 0 ∧ a = 0 else fam k a = f) → Q (.bool b) h) : AC Try.prog 114 [.agg [.int .i64 op, .sl qi, .int .i64 k, .int .i64 a, .int .i64 A, .sl qb], .int .i64 f] h Q := ac114 (by
  unfold vc114
  refine vif_mk (fun g => ?_) (fun g => ?_)
  · have g : f = 0 := by simpa using g
    exact hQ _ (by rw [if_pos g]; simp)
  · have g : f ≠ 0 := by simpa using g
    exact o49 ⟨_, rfl, hQ _ (by rw [if_neg g]; simp)⟩)
/-- number -/
theorem c115 {loop : Int} (hQ : ∀ b, (b = true ↔ NumOk op A loop) → Q (.bool b) h) : AC Try.prog 115 [.agg [.int .i64 op, .sl qi, .int .i64 k, .int .i64 a, .int .i64 A, .sl qb], .int .i64 loop] h Q := ac115 (by
  unfold vc115
  unfold NumOk at hQ
  repeat' (first | refine vif_mk (fun g => ?_) (fun g => ?_))
  all_goals (simp only [beq_iff_eq, beq_eq_false_iff_ne, bne_iff_ne, Bool.not_eq_true', Bool.not_eq_false', decide_eq_true_eq, decide_eq_false_iff_not, Classical.not_not, ne_eq, bne_eq_false_iff_eq] at *)
  all_goals (refine hQ _ ?_)
  all_goals (simp [*])
  all_goals (try omega))
theorem body_nil {l : List NT} : l = [] ↔ l.length = 0 := List.length_eq_zero_iff.symm
set_option maxRecDepth 20000 in
/-- node -/
theorem c86 {loop : Int} (R : NodeR h c n) (hn : n.ins.length ≤ 1000000)
    (hlist : n.op = 9 → NumOk n.op n.A loop → ∀ {h' : Heap} {Q' : AV → Heap → Prop}, Ext h h' → (∀ b h'', Ext h' h'' → (b = true ↔ OkB n.body i) → Q' (.bool b) h'') → AC Try.prog 63 [.sl c.qb, .int .i64 i] h' Q')
    (hQ : ∀ b h', Ext h h' → (b = true ↔ OkN loop n i) → Q (.bool b) h') : AC Try.prog 86 [.agg c.cs, .int .i64 i, .int .i64 loop] h Q := ac86 (by
  unfold vc86
  obtain ⟨e1, e2, e3, e4⟩ := R.same
  have no : ∀ {h'}, Ext h h' → ¬ OkN loop n i → Q (.bool false) h' := fun x hn => hQ _ _ x (by simp [hn])
  refine pnew_mk ?_
  have x10 := Ext.app h [Blk.cells [.int .i64 (i : Int)] true]
  have c10 : cellsAt (h ++ [Blk.cells [AV.int .i64 (i : Int)] true]) ⟨h.length, 0⟩ 1 = some [.int .i64 i] := by unfold cellsAt; simp
  have l10 : (h ++ [Blk.cells [AV.int .i64 (i : Int)] true]).length = h.length + 1 := by simp
  generalize h ++ [Blk.cells [.int .i64 (i : Int)] true] = h10 at *
  refine c70 fun f b hb hf => ⟨_, f, b, rfl, pnew_mk ?_⟩
  have x17 := Ext.app h10 [Blk.cells [.nilfunc] true]
  have b17 : (h10 ++ [Blk.cells [AV.nilfunc] true])[h10.length]? = some (.cells [.nilfunc] true) := by simp
  have l17 : (h10 ++ [Blk.cells [AV.nilfunc] true]).length = h10.length + 1 := by simp
  generalize h10 ++ [Blk.cells [.nilfunc] true] = h17 at *
  refine store6 (o := 0) (xs := [.func (.func 111) [] [.ptr (some ⟨h.length, 0⟩)]]) b17 (by simp) ?_
  have x18 : Ext h10 (h17.set h10.length (.cells (splice [.nilfunc] 0 [.func (.func 111) [] [.ptr (some ⟨h.length, 0⟩)]]) true)) := x17.set (Nat.le_refl _)
  have c18 : cellsAt (h17.set h10.length (.cells (splice [.nilfunc] 0 [.func (.func 111) [] [.ptr (some ⟨h.length, 0⟩)]]) true)) ⟨h10.length, 0⟩ 1 = some [.func (.func 111) [] [.ptr (some ⟨h.length, 0⟩)]] := by
    unfold cellsAt
    have := lt_of_get b17
    simp [splice, this]
  generalize h17.set h10.length _ = h18 at *
  have x := x10.trans x18
  have R18 := R.mono x
  rw [e1] at hb hf
  rw [e1, e2, e3, e4]
  refine vif_mk (fun g => no x fun ok => ?_) (fun g => ?_)
  · have := hb.2 ok.1.op
    rw [this] at g; simp at g
  rw [R18.ins.len]
  refine vif_mk (fun g1 => no x fun ok => ?_) (fun g1 => ?_)
  · rw [ok.1.len] at g1; simp at g1
  have g : b = true := by simpa using g
  have hop := hb.1 g
  have g1 : n.ins.length = arityV n.op := by
    have : ((n.ins.length : Nat) : Int) = (arityV n.op : Nat) := by simpa using g1
    omega
  refine c112 c18 (x18.cells c10) R18.ins hn fun b21 hb21 => ⟨b21, rfl, vif_mk (fun g2 => no x fun ok => ?_) (fun g2 => ?_)⟩
  · obtain ⟨y, hy, hny⟩ := hb21.1 g2
    exact hny (ok.1.ins y hy)
  have hins : ∀ y ∈ n.ins, 0 ≤ y ∧ y < i := by
    intro y hy
    apply Classical.byContradiction
    intro hc
    rw [hb21.2 ⟨y, hy, hc⟩] at g2; simp at g2
  refine c114 fun b24 hb24 => ⟨b24, rfl, vif_mk (fun g3 => no x fun ok => ?_) (fun g3 => ?_)⟩
  · have : b24 = true := hb24.2 (by rw [hf]; exact ok.1.fn)
    rw [this] at g3; simp at g3
  have hfn := hb24.1 (by simpa using g3)
  rw [hf] at hfn
  have base : Base n i := ⟨hop, g1, hins, hfn⟩
  refine c115 fun b27 hb27 => ⟨b27, rfl, vif_mk (fun g4 => no x fun ok => ?_) (fun g4 => ?_)⟩
  · have : b27 = true := hb27.2 ok.2.1
    rw [this] at g4; simp at g4
  have hnum := hb27.1 (by simpa using g4)
  refine vif_mk (fun g5 => ?_) (fun g5 => ?_)
  · have g5 : n.op ≠ 9 := by simpa using g5
    refine hQ _ _ x ?_
    unfold OkN
    rw [if_neg g5, R18.body.len, body_nil]
    simp only [base, hnum, true_and, beq_iff_eq]
    omega
  · have g5 : n.op = 9 := by simpa using g5
    refine ⟨(i : Int), x18.cells c10, hlist g5 hnum x fun b31 h30 x30 hb31 => ⟨b31, rfl, hQ _ _ (x.trans x30) ?_⟩⟩
    unfold OkN
    rw [if_pos g5]
    simp only [base, hnum, true_and]
    exact hb31)
/-- list, whatever is asked of each. -/
theorem c63g {loop : Int} {P : NT → Nat → Prop} (R : NodesR h q l)
    (hnode : l.length ≤ 32 → ∀ {i : Nat} {c : NC} {n : NT} {h' : Heap} {Q' : AV → Heap → Prop}, l[i]? = some n → Ext h h' → NodeR h' c n → (∀ b h'', Ext h' h'' → (b = true ↔ P n i) → Q' (.bool b) h'') → AC Try.prog 86 [.agg c.cs, .int .i64 i, .int .i64 loop] h' Q')
    (hQ : ∀ b h', Ext h h' → (b = true ↔ 1 ≤ l.length ∧ l.length ≤ 32 ∧ ∀ i n, l[i]? = some n → P n i) → Q (.bool b) h') : AC Try.prog 63 [.sl q, .int .i64 loop] h Q := ac63 (by
  unfold vc63
  rw [R.len]
  refine vif_mk (fun g => hQ _ _ (.refl _) ?_) (fun g => vif_mk (fun g1 => hQ _ _ (.refl _) ?_) (fun g1 => ?_))
  · have g := of_decide_eq_true g
    simp; omega
  · have g1 := of_decide_eq_true g1
    simp; omega
  have g := of_decide_eq_false g
  have g1 := of_decide_eq_false g1
  refine ⟨fun xs h6 => Ext h h6 ∧ ∃ i : Nat, xs = [.int .i64 i] ∧ i ≤ l.length ∧ ∀ j n, j < i → l[j]? = some n → P n j, left l.length, ⟨.refl _, 0, rfl, by omega, by omega⟩, ?_⟩
  rintro n3 h6 ⟨x6, i, hx, hi, ha⟩
  simp only [List.cons.injEq, AV.int.injEq, true_and, and_true] at hx
  subst hx
  refine vif_mk (fun g2 => ?_) (fun g2 => ?_)
  · replace g2 := of_decide_eq_true g2
    refine (R.mono x6).idx6 (i := i) (by omega) rfl (K := fun p n8 q9 n10 n11 n12 q13 => AC Try.prog 86 [.agg [.int .i64 n8, .sl q9, .int .i64 n10, .int .i64 n11, .int .i64 n12, .sl q13], .int .i64 (i : Int), .int .i64 loop] h6 _) fun p c n hn Rn => ?_
    refine hnode (by omega) hn x6 Rn fun b h15 x15 hb => ⟨b, rfl, vif_mk (fun g3 => hQ _ _ (x6.trans x15) ?_) (fun g3 => ?_)⟩
    · have g3 : b = false := by simpa using g3
      simp only [Bool.false_eq_true, false_iff]
      intro ok
      rw [hb.2 (ok.2.2 i n hn)] at g3; simp at g3
    · have g3 : b = true := by simpa using g3
      rw [wrapK_i64 ⟨by omega, by omega⟩]
      refine ⟨trivial, ⟨x6.trans x15, i + 1, by simp, by omega, fun j m hj hm => ?_⟩, by simp only [left]; omega⟩
      by_cases e : j = i
      · subst e; rw [hn] at hm; cases hm; exact hb.1 g3
      · exact ha j m (by omega) hm
  · replace g2 := of_decide_eq_false g2
    refine hQ _ _ x6 ?_
    simp only [true_iff]
    exact ⟨by omega, by omega, fun j m hm => ha j m (by have := lt_of_get hm; omega) hm⟩)
/-- a body -/
theorem c63b {loop : Nat} (R : NodesR h q l) (hn : ∀ n ∈ l, n.ins.length ≤ 1000000) (hQ : ∀ b h', Ext h h' → (b = true ↔ OkB l loop) → Q (.bool b) h') : AC Try.prog 63 [.sl q, .int .i64 loop] h Q :=
  c63g (P := fun n i => OkI loop n i) R (fun _ {i c n h' Q'} hln x Rn hK => c86 (loop := (loop : Int)) Rn (hn n (List.mem_of_getElem? hln)) (fun h9 hnum => by
    exfalso
    unfold NumOk at hnum
    rw [if_neg (by omega), if_pos h9] at hnum
    omega) fun b h'' x' hb => hK b h'' x' (hb.trans okI_iff)) hQ
/-- loops -/
theorem c64 {out : Int} (R : NodesR h q l) (hl : l.length ≤ 1000000) (hQ : Q (.int .i64 (loopsV l : Nat)) h) : AC Try.prog 64 [.agg [.sl q, .int .i64 out]] h Q := ac64 (by
  unfold vc64
  rw [R.len]
  refine ⟨fun xs h6 => h6 = h ∧ ∃ i : Nat, xs = [.int .i64 (loopsV (l.take i) : Nat), .int .i64 i] ∧ i ≤ l.length, fun xs _ => match xs with | [_, .int _ i] => (l.length - i).toNat | _ => 0, ⟨rfl, 0, rfl, by omega⟩, ?_⟩
  rintro n3 n4 h6 ⟨rfl, i, hx, hi⟩
  simp only [List.cons.injEq, AV.int.injEq, true_and, and_true] at hx
  obtain ⟨rfl, rfl⟩ := hx
  have hle : loopsV (l.take i) ≤ l.length := Nat.le_trans List.countP_le_length (by rw [List.length_take]; omega)
  refine vif_mk (fun g2 => ?_) (fun g2 => ?_)
  · replace g2 := of_decide_eq_true g2
    rw [wrapK_i64 (n := (i : Int) + 1) ⟨by omega, by omega⟩, wrapK_i64 (n := ((loopsV (l.take i) : Nat) : Int) + 1) ⟨by omega, by omega⟩]
    refine R.idx (i := i) (by omega) rfl fun p c n hn hc Rn => ⟨_, _, _, _, _, _, hc, ?_⟩
    have e := Rn.same.1
    have ls : loopsV (l.take (i + 1)) = loopsV (l.take i) + if n.op == 9 then 1 else 0 := by
      unfold loopsV
      rw [List.take_add_one, hn, List.countP_append]
      simp [List.countP_cons]
    rw [e]
    refine vif_mk (fun g3 => ?_) (fun g3 => ?_)
    · rw [if_pos g3] at ls
      exact ⟨⟨rfl, trivial⟩, ⟨rfl, i + 1, by rw [ls]; simp, by omega⟩, by simp only; omega⟩
    · rw [if_neg (by rw [g3]; simp)] at ls
      exact ⟨⟨rfl, trivial⟩, ⟨rfl, i + 1, by rw [ls]; simp, by omega⟩, by simp only; omega⟩
  · replace g2 := of_decide_eq_false g2
    have e : l.take i = l := List.take_of_length_le (by omega)
    rw [e]; exact hQ)
/-- What is to be known of trees that are looked at: nothing is too long. -/
def Lens (l : List NT) : Prop := l.length ≤ 1000000 ∧ ∀ n ∈ l, n.ins.length ≤ 1000000 ∧ ∀ m ∈ n.body, m.ins.length ≤ 1000000
/-- graph.Check -/
theorem c43 {out : Int} (R : NodesR h q l) (L : Lens l) (hQ : ∀ e h', Ext h h' → (OkG l out → e = 0) → (¬ OkG l out → e = 170) → Q (.int .i64 e) h') : AC Try.prog 43 [.agg [.sl q, .int .i64 out]] h Q := ac43 (by
  unfold vc43
  have no : ∀ {h'}, Ext h h' → ¬ OkG l out → Q (.int .i64 170) h' := fun x hn => hQ _ _ x (fun ok => absurd ok hn) (fun _ => rfl)
  refine c63g (P := fun n i => OkN (-1) n i) R (fun _ {i c n h' Q'} hln x Rn hK => c86 Rn (L.2 n (List.mem_of_getElem? hln)).1 (fun _ _ {h2 Q2} x2 hK2 => c63b ((Rn.mono x2).body) (fun m hm => (L.2 n (List.mem_of_getElem? hln)).2 m hm) hK2) hK) fun b h4 x4 hb => ⟨b, rfl, vif_mk (fun g => no x4 fun ok => ?_) (fun g => ?_)⟩
  · rw [hb.2 ⟨ok.len.1, ok.len.2, ok.node⟩] at g; simp at g
  obtain ⟨b1, b2, b3⟩ := hb.1 (by simpa using g)
  rw [R.len]
  refine vif_mk (fun g1 => no x4 fun ok => ?_) (fun g1 => vif_mk (fun g2 => no x4 fun ok => ?_) (fun g2 => ?_))
  · have g1 := of_decide_eq_true g1; have := ok.out; omega
  · have g2 := of_decide_eq_true g2; have := ok.out; omega
  have g1 := of_decide_eq_false g1
  have g2 := of_decide_eq_false g2
  refine c64 (R.mono x4) L.1 ⟨_, rfl, vif_mk (fun g3 => no x4 fun ok => ?_) (fun g3 => ?_)⟩
  · have g3 := of_decide_eq_true g3; have := ok.one; omega
  have g3 := of_decide_eq_false g3
  exact hQ _ _ x4 (fun _ => rfl) (fun hn => absurd ⟨⟨b1, b2⟩, ⟨by omega, by omega⟩, b3, by omega⟩ hn))
end
end Go.Proofs.Ytfafgnmlnhklaaa

/- The reference's check of graphs; what is too large; where the loop stands. -/
namespace Go.Proofs.Ytfafgnmlnhklaaa
open Go.Ab
set_option linter.unusedVariables false
set_option linter.unusedSimpArgs false

section
variable {h : Heap} {Q : AV → Heap → Prop} {q qi qb : Option SL} {op k a A : Int} {n : NT} {c : NC} {i : Nat} {l : List NT}
/-- Where the first loop stands. -/
def loopAt (l : List NT) : Option Nat := l.findIdx? fun n => n.op == 9
/-- graph.Loop -/
theorem c44 {out : Int} (R : NodesR h q l) (L : Lens l) (ok : OkG l out) (hQ : ∀ h', Ext h h' → (∀ i : Nat, loopAt l = some i → Q (.tup [.int .i64 i, .bool true]) h') ∧ (loopAt l = none → Q (.tup [.int .i64 0, .bool false]) h')) : AC Try.prog 44 [.agg [.sl q, .int .i64 out]] h Q := ac44 (by
  unfold vc44
  refine c43 R L fun e h4 x4 h1 _ => ⟨e, rfl, ?_⟩
  rw [h1 ok]
  refine vif_mk (fun g => by simp at g) (fun _ => ?_)
  refine ac65 ?_
  unfold vc65
  rw [R.len]
  have R4 := R.mono x4
  refine ⟨fun xs h6 => h6 = h4 ∧ ∃ i : Nat, xs = [.int .i64 i] ∧ i ≤ l.length ∧ ∀ j n, j < i → l[j]? = some n → n.op ≠ 9, left l.length, ⟨rfl, 0, rfl, by omega, by omega⟩, ?_⟩
  rintro n3 h6 ⟨rfl, i, hx, hi, ha⟩
  simp only [List.cons.injEq, AV.int.injEq, true_and, and_true] at hx
  subst hx
  have hl := L.1
  refine vif_mk (fun g2 => ?_) (fun g2 => ?_)
  · replace g2 := of_decide_eq_true g2
    refine R4.idx (i := i) (by omega) rfl fun p c n hn hc Rn => ⟨_, _, _, _, _, _, hc, ac66 ⟨_, rfl, ?_⟩⟩
    rw [Rn.same.1]
    refine vif_mk (fun g3 => ⟨_, rfl, ?_⟩) (fun g3 => ?_)
    · have e1 : decide (((i : Nat) : Int) ≥ 0) = true := decide_eq_true (by omega)
      have e2 : maxI2 ((i : Nat) : Int) 0 = ((i : Nat) : Int) := by unfold maxI2; rw [if_neg (by omega)]
      rw [e1, e2]
      refine (hQ h6 x4).1 i ?_
      unfold loopAt
      rw [List.findIdx?_eq_some_iff_getElem]
      have hlt := lt_of_get hn
      rw [List.getElem?_eq_getElem hlt] at hn
      cases hn
      refine ⟨hlt, g3, fun j hj => ?_⟩
      have := ha j _ hj (List.getElem?_eq_getElem (by omega))
      simpa using this
    · rw [wrapK_i64 ⟨by omega, by omega⟩]
      refine ⟨trivial, ⟨rfl, i + 1, by simp, by omega, fun j m hj hm => ?_⟩, by simp only [left]; omega⟩
      by_cases e : j = i
      · subst e; rw [hn] at hm; cases hm; simpa using g3
      · exact ha j m (by omega) hm
  · replace g2 := of_decide_eq_false g2
    refine ⟨_, rfl, (hQ h6 x4).2 ?_⟩
    unfold loopAt
    rw [List.findIdx?_eq_none_iff]
    intro n hn
    obtain ⟨j, hj⟩ := List.mem_iff_getElem?.1 hn
    have := ha j n (by have := lt_of_get hj; omega) hj
    simpa using this)

end
end Go.Proofs.Ytfafgnmlnhklaaa

/- Evaluation: the model; what a maker of bags does. -/
namespace Go.Proofs.Ytfafgnmlnhklaaa
open Go.Ab
set_option linter.unusedVariables false
set_option linter.unusedSimpArgs false

abbrev Bag := List Rec
def opR (n : NT) (ins : List Bag) : Int × Bag :=
  if applyE n.op n.ins.length n.k n.a n.A n.body.length ins = 0 then (0, sortR (madeV n.op n.k n.a ins)) else (applyE n.op n.ins.length n.k n.a n.A n.body.length ins, [])
def insOf (n : NT) (bags : List Bag) : List Bag := n.ins.map fun i => bags.getD i.toNat []
def isOpN (n : NT) : Bool := isOp n.op n.ins.length n.k n.a n.A n.body.length
abbrev Oth := NT → List Bag → List Bag → Int × Bag × List Bag
def stepG (oth : Oth) (n : NT) (bags vars : List Bag) : Int × Bag × List Bag := if isOpN n then ((opR n (insOf n bags)).1, (opR n (insOf n bags)).2, vars) else oth n bags vars
def runG (oth : Oth) : List NT → List Bag → List Bag → Int × List Bag × List Bag
  | [], bags, vars => (0, bags, vars)
  | n :: l, bags, vars => if (stepG oth n bags vars).1 = 0 then runG oth l (bags ++ [(stepG oth n bags vars).2.1]) (stepG oth n bags vars).2.2 else ((stepG oth n bags vars).1, [], [])
/-- A bag that may be, in order. -/
def GoodB (b : Bag) : Prop := mayC b = 0 ∧ b.Pairwise fun a b => leR a b = true
theorem good_sort {b : Bag} (h : mayC b = 0) : GoodB (sortR b) := ⟨by rw [mayC_perm (sortR_perm b)]; exact h, sortR_sorted b⟩
theorem GoodB.self {b : Bag} (h : GoodB b) : sortR b = b := sortR_eq h.2 (.refl b)
theorem GoodB.len {b : Bag} (h : GoodB b) : b.length ≤ 4096 := (mayC0 h.1).2
theorem good_nil : GoodB [] := ⟨by decide, .nil⟩
theorem opR_good {n : NT} {ins : List Bag} (h : (opR n ins).1 = 0) : GoodB (opR n ins).2 := by
  unfold opR at h ⊢
  split at h
  · rename_i g
    rw [if_pos g]
    refine good_sort ?_
    unfold applyE at g
    split at g
    · cases g
    rename_i g1
    split at g
    · rename_i g2; exact absurd g g2
    rename_i g2
    split at g
    · cases g
    rename_i g3
    have hop : isOp n.op n.ins.length n.k n.a n.A n.body.length = true := by
      cases h : isOp n.op n.ins.length n.k n.a n.A n.body.length with
      | true => rfl
      | false => exact absurd (.inl h) g1
    have := made_ok hop (Classical.not_not.1 g2)
    unfold mayC
    rw [if_pos this, if_neg (by omega)]
  · rename_i g
    exact absurd h g
theorem runG_len {oth : Oth} : ∀ {l : List NT} {bags vars : List Bag}, (runG oth l bags vars).1 = 0 → (runG oth l bags vars).2.1.length = bags.length + l.length
  | [], bags, vars, _ => by simp [runG]
  | n :: l, bags, vars, h => by
    unfold runG at h ⊢
    split at h
    · rename_i g
      rw [if_pos g, runG_len h, List.length_append, List.length_cons, List.length_cons, List.length_nil]; omega
    · rename_i g; exact absurd h g

/-- Bags that a maker holds: the row is its own, the bags are not. -/
def BGS (own F : Nat → Prop) (h : Heap) (q : Option SL) (ls : List Bag) : Prop :=
  ∃ qs : List (Option SL), AppJ slE h q qs ∧ qs.length = ls.length ∧ (∀ s, q = some s → own s.b) ∧ ∀ (i : Nat) (s : Option SL) (g : Bag), qs[i]? = some s → ls[i]? = some g → HasL recE h s g ∧ ∀ u, s = some u → ¬ own u.b ∧ F u.b
section
variable {own own' F X : Nat → Prop} {h h' h0 : Heap} {q q2 qi qb qv : Option SL} {ls bags vars : List Bag} {x : Bag} {Q : AV → Heap → Prop}
theorem BGS.nil : BGS own F h none [] := ⟨[], .inl ⟨rfl, rfl⟩, rfl, (fun s hs => by cases hs), by simp⟩
theorem BGS.ext (B : BGS own F h q ls) (e : Ext h h') : BGS own F h' q ls := by
  obtain ⟨qs, a, b, c, d⟩ := B
  exact ⟨qs, a.ext e, b, c, fun i s g hs hg => ⟨(d i s g hs hg).1.mono e, (d i s g hs hg).2⟩⟩
theorem BGS.keeps (B : BGS own F h q ls) (K : Keeps X h h') (hX : ∀ b, X b → own b) (hq : ∀ s, q = some s → ¬ X s.b ∧ own' s.b) (hown : ∀ b, own' b → own b ∨ h.length ≤ b) : BGS own' F h' q ls := by
  obtain ⟨qs, a, b, c, d⟩ := B
  refine ⟨qs, a.keeps K (fun s hs => (hq s hs).1), b, fun s hs => (hq s hs).2, fun i s g hs hg => ?_⟩
  obtain ⟨d1, d2⟩ := d i s g hs hg
  refine ⟨K.hasL (fun u hu hx => (d2 u hu).1 (hX _ hx)) d1, fun u hu => ⟨fun ho => ?_, (d2 u hu).2⟩⟩
  rcases hown _ ho with a | a
  · exact (d2 u hu).1 a
  · have := d1.live u hu; omega
theorem BGS.len (B : BGS own F h q ls) : slLen q = ls.length := by
  obtain ⟨qs, a, b, _⟩ := B
  rw [a.hasL.len, b]
theorem BGS.live (B : BGS own F h q ls) : ∀ s, q = some s → s.b < h.length := by
  obtain ⟨qs, a, _⟩ := B
  exact a.live
theorem BGS.idx (B : BGS own F h q ls) {i : Nat} (hi : i < ls.length) {ix : Int} (hix : ix = i) {K : PA → Prop} (hK : ∀ p s g, ls[i]? = some g → cellsAt h p 1 = some [.sl s] → HasL recE h s g → (∀ u, s = some u → ¬ own u.b ∧ F u.b) → K p) : vIdx q ix 1 K := by
  obtain ⟨qs, a, b, c, d⟩ := B
  refine a.hasL.idx (E := slE) (by omega) (by omega) fun p s hs hc => ?_
  have e : ix.toNat = i := by omega
  rw [e] at hs
  have hg : ls[i]? = some ls[i] := List.getElem?_eq_getElem hi
  exact hK p s _ hg hc (d i s _ hs hg).1 (d i s _ hs hg).2
theorem BGS.inGG (B : BGS own F h q ls) : InGG (fun b => b < h.length) h q ls := by
  obtain ⟨qs, a, b, c, d⟩ := B
  exact ⟨qs, a.hasL, b, fun s hs => a.live s hs, fun i s g hs hg => ⟨(d i s g hs hg).1, fun u hu => (d i s g hs hg).1.live u hu⟩⟩
/-- One more. -/
theorem BGS.push {K : Option SL → Heap → Prop} (B : BGS own F h q ls) (hlive : ∀ b, own b → b < h.length) (H : HasL recE h q2 x) (hq2 : ∀ u, q2 = some u → ¬ own u.b ∧ F u.b) (hl : ls.length ≤ 1000000)
    (hK : ∀ (q' : Option SL) (h' : Heap) (own' : Nat → Prop), BGS own' F h' q' (ls ++ [x]) → (∀ b, own' b ↔ own b ∨ ∃ s', q' = some s' ∧ s'.b = b) → Keeps (fun b => ∃ s, q = some s ∧ s.b = b) h h' → h.length ≤ h'.length → (∀ s', q' = some s' → (h.length ≤ s'.b ∧ s'.b < h'.length) ∨ ∃ s, q = some s ∧ s.b = s'.b) → K q' h') :
    PNew [.sl q2] true h fun a h2 => PAppendS 1 24 q (some ⟨a, 0, 1, 1, 0⟩) h2 K := by
  refine pnew_mk ?_
  obtain ⟨qs, A, hlq, hn, he⟩ := B
  have x1 := Ext.app h [Blk.cells [.sl q2] true]
  have Hn : HasL slE (h ++ [Blk.cells [.sl q2] true]) (some ⟨h.length, 0, 1, 1, 0⟩) [q2] := HasL.new (n := 1) rfl rfl
  have l1 : (h ++ [Blk.cells [AV.sl q2] true]).length = h.length + 1 := by simp
  generalize h ++ [Blk.cells [.sl q2] true] = h1 at *
  have live := A.live
  refine AppJ.append (E := slE) (A.ext x1) Hn (by simp only [List.length_cons, List.length_nil]; omega) fun q' h3 A3 K3 l3 hq' => ?_
  have lv3 := A3.live
  have hq3 : ∀ s', q' = some s' → (h.length ≤ s'.b ∧ s'.b < h3.length) ∨ ∃ s, q = some s ∧ s.b = s'.b := fun s' hs' => by
    rcases hq' s' hs' with a | a
    · exact .inl ⟨by omega, lv3 s' hs'⟩
    · exact .inr a
  have new : ∀ u : SL, ¬ own u.b → u.b < h.length → ¬ (own u.b ∨ ∃ s', q' = some s' ∧ s'.b = u.b) := by
    rintro u h1 h2 (h3 | ⟨s', a1, a2⟩)
    · exact h1 h3
    · rcases hq3 s' a1 with a | ⟨s, b1, b2⟩
      · omega
      · exact h1 (by rw [← a2, ← b2]; exact hn s b1)
  have nX : ∀ u : SL, ¬ own u.b → ¬ ∃ s, q = some s ∧ s.b = u.b := by
    rintro u h1 ⟨s, a1, a2⟩
    exact h1 (by rw [← a2]; exact hn s a1)
  refine hK q' h3 (fun b => own b ∨ ∃ s', q' = some s' ∧ s'.b = b) ⟨qs ++ [q2], A3, by simp [hlq], fun s hs => .inr ⟨s, hs, rfl⟩, fun i s g hs hg => ?_⟩ (fun b => Iff.rfl) (fun b C hb hC => K3 b C hb (x1 _ _ hC)) (by omega) hq3
  rw [List.getElem?_append] at hs hg
  split at hs
  · rename_i hi
    rw [if_pos (by omega)] at hg
    obtain ⟨r1, r2⟩ := he i s g hs hg
    refine ⟨K3.hasL (fun u hu => nX u (r2 u hu).1) (r1.mono x1), fun u hu => ⟨new u (r2 u hu).1 (r1.live u hu), (r2 u hu).2⟩⟩
  · rename_i hi
    rw [if_neg (by omega)] at hg
    have i0 : i - qs.length = 0 := by have := lt_of_get hs; simp at this; omega
    have i1 : i - ls.length = 0 := by omega
    rw [i0] at hs; rw [i1] at hg
    simp only [List.getElem?_cons_zero, Option.some.injEq] at hs hg
    subst hs; subst hg
    exact ⟨K3.hasL (fun u hu => nX u (hq2 u hu).1) (H.mono x1), fun u hu => ⟨new u (hq2 u hu).1 (H.live u hu), (hq2 u hu).2⟩⟩

/-- ins -/
theorem c88 {p : Nat} {op k a A : Int} {ins : List Int} (hc : cellsAt h ⟨p, 0⟩ 1 = some [.sl q]) (B : BGS own F h q bags) (H : HasL intE h qi ins) (hins : ∀ y ∈ ins, 0 ≤ y ∧ y < bags.length) (hl : ins.length ≤ 1000000)
    (hQ : ∀ q' h', Ext h h' → InGG (fun b => b < h'.length) h' q' (ins.map fun i => bags.getD i.toNat []) → Q (.sl q') h') :
    AC Try.prog 88 [.ptr (some ⟨p, 0⟩), .agg [.int .i64 op, .sl qi, .int .i64 k, .int .i64 a, .int .i64 A, .sl qb]] h Q := ac88 (by
  unfold vc88
  rw [H.len]
  refine ⟨fun xs h12 => ∃ (q8 : Option SL) (i : Nat), xs = [.sl q8, .int .i64 i] ∧ i ≤ ins.length ∧ Ext h h12 ∧ Made h.length h12 q8 ((ins.take i).map fun i => bags.getD i.toNat []), fun xs _ => match xs with | [_, .int _ i] => (ins.length - i).toNat | _ => 0, ⟨none, 0, rfl, by omega, .refl _, by simpa using Made.nil⟩, ?_⟩
  rintro q8 n9 h12 ⟨q8', i, hx, hi, x12, M12⟩
  simp only [List.cons.injEq, AV.int.injEq, AV.sl.injEq, true_and, and_true] at hx
  obtain ⟨rfl, rfl⟩ := hx
  refine vif_mk (fun g => ?_) (fun g => ?_)
  · replace g := of_decide_eq_true g
    refine (H.mono x12).idx (E := intE) (by omega) (by omega) fun p13 y hy hcy => ⟨y, hcy, ?_⟩
    rw [Int.toNat_natCast] at hy
    obtain ⟨y0, y1⟩ := hins y (List.mem_of_getElem? hy)
    refine ⟨q, x12.cells hc, B.idx (i := y.toNat) (by omega) (by omega) fun p17 s gb hg hcs Hs _ => ⟨s, x12.cells hcs, ?_⟩⟩
    have eb : bags.getD y.toNat [] = gb := by rw [List.getD_eq_getElem?_getD, hg]; rfl
    have hsl := Hs.live
    refine Made.put M12 x12.len (.refl _) (Hs.mono x12) (fun u t hu ht => ?_) (by rw [List.length_map, List.length_take]; omega) fun q' h' M' K' l' => ?_
    · obtain ⟨qs, m1, m2, m3, m4⟩ := M12
      have := m3 t ht
      have := hsl u hu
      omega
    · rw [wrapK_i64 ⟨by omega, by omega⟩]
      refine ⟨⟨rfl, trivial⟩, ⟨q', i + 1, by simp, by omega, fun b C hC => K' b C (lt_of_get hC) (x12 _ _ hC), ?_⟩, by simp only; omega⟩
      rw [List.take_add_one, hy, List.map_append, ← eb] at *
      exact M'
  · replace g := of_decide_eq_false g
    have e : ins.take i = ins := List.take_of_length_le (by omega)
    rw [e] at M12
    exact hQ q8 h12 x12 M12.inGG)
theorem getD_good {i : Nat} (hb : ∀ b ∈ bags, GoodB b) : GoodB (bags.getD i []) := by
  rw [List.getD_eq_getElem?_getD]
  cases e : bags[i]? with
  | none => exact good_nil
  | some g => exact hb g (List.mem_of_getElem? e)
/-- apply -/
theorem c69 {p : Nat} {c : NC} {n : NT} (hc : cellsAt h ⟨p, 0⟩ 1 = some [.sl q]) (B : BGS own F h q bags) (R : NodeR h c n) (hins : ∀ y ∈ n.ins, 0 ≤ y ∧ y < bags.length) (hl : n.ins.length ≤ 1000000) (hb : ∀ b ∈ bags, GoodB b)
    (h1 : (opR n (insOf n bags)).1 ≠ 0 → ∀ h', Ext h h' → Q (.tup [.sl none, .int .i64 (opR n (insOf n bags)).1]) h')
    (h0 : (opR n (insOf n bags)).1 = 0 → ∀ q' h', NewJ recE h h' q' (opR n (insOf n bags)).2 → Q (.tup [.sl q', .int .i64 0]) h') : AC Try.prog 69 [.ptr (some ⟨p, 0⟩), .agg c.cs] h Q := ac69 (by
  unfold vc69
  obtain ⟨e1, e2, e3, e4⟩ := R.same
  have eA : (slLen c.qi : Nat) = n.ins.length := R.ins.len
  have eB : (slLen c.qb : Nat) = n.body.length := R.body.len
  have hi1 : ∀ l ∈ insOf n bags, l.length ≤ 1000000 := by
    intro l hl
    obtain ⟨y, _, rfl⟩ := List.mem_map.1 hl
    have := (getD_good (i := y.toNat) hb).len
    omega
  refine c88 hc B R.ins hins hl fun q' h9 x9 G9 => ⟨q', rfl, rfl, ?_⟩
  refine c21 G9 (fun b hb => hb) (by rw [List.length_map]; exact hl) hi1 (fun hn h12 x12 => ⟨none, _, rfl, ?_⟩) (fun hz q13 h12 N12 => ⟨q13, 0, rfl, ?_⟩)
  · rw [e1, e2, e3, e4, eA, eB] at hn ⊢
    have e : (opR n (insOf n bags)).1 = applyE n.op n.ins.length n.k n.a n.A n.body.length (n.ins.map fun i => bags.getD i.toNat []) := by
      unfold opR
      exact congrArg Prod.fst (if_neg hn)
    rw [e] at h1
    exact h1 hn h12 (x9.trans x12)
  · rw [e1, e2, e3, e4, eA, eB] at hz
    rw [e1, e2, e3] at N12
    have e : opR n (insOf n bags) = (0, sortR (madeV n.op n.k n.a (insOf n bags))) := by
      unfold opR
      exact if_pos hz
    rw [e] at h0
    exact h0 rfl q13 h12 (N12.back x9))

/-- A maker of bags: its cells, its own rows. -/
structure WH (own F : Nat → Prop) (h : Heap) (p : Nat) (fv : AV) (rest : List AV) (qv : Option SL) (vars bags : List Bag) : Prop where
  cells : ∃ q, h[p]? = some (.cells (.sl q :: fv :: rest) true) ∧ BGS own F h q bags ∧ ∀ s, q = some s → s.b ≠ p ∧ ∀ t, qv = some t → s.b ≠ t.b
  vs : BGS own F h qv vars
  qvp : ∀ t, qv = some t → t.b ≠ p
  mine : own p
  live : ∀ b, own b → b < h.length
theorem WH.ext {p : Nat} {fv : AV} {rest : List AV} (W : WH own F h p fv rest qv vars bags) (e : Ext h h') : WH own F h' p fv rest qv vars bags := by
  obtain ⟨⟨q, c1, c2, c3⟩, v, w, m, l⟩ := W
  exact ⟨⟨q, e _ _ c1, c2.ext e, c3⟩, v.ext e, w, m, fun b hb => by have := l b hb; have := e.len; omega⟩
theorem set_splice1 {x y : AV} {r : List AV} : splice (x :: r) 0 [y] = y :: r := by simp [splice]
/-- A bag more. -/
theorem WH.push {p : Nat} {fv : AV} {rest : List AV} {K : Heap → Prop} (W : WH own F h p fv rest qv vars bags) (H : HasL recE h q2 x) (hq2 : ∀ u, q2 = some u → ¬ own u.b ∧ F u.b) (hl : bags.length ≤ 1000000)
    (hK : ∀ own' h', WH own' F h' p fv rest qv vars (bags ++ [x]) → MStep own h own' h' → K h') :
    vPtr (some ⟨p, 0⟩) fun p23 => ∃ q24 : Option SL, cellsAt h ⟨p23.b, p23.o + 0⟩ 1 = some [.sl q24] ∧ PNew [.sl q2] true h fun a25 h26 => PAppendS 1 24 q24 (some ⟨a25, 0, 1, 1, 0⟩) h26 fun q27 h28 => vPtr (some ⟨p, 0⟩) fun p29 => PStore h28 ⟨p29.b, p29.o + 0⟩ [.sl q27] K := by
  obtain ⟨⟨q, c1, c2, c3⟩, v, w, m, l⟩ := W
  refine ⟨q, by show cellsAt h ⟨p, 0⟩ 1 = _; unfold cellsAt; simp [c1], ?_⟩
  refine c2.push l H hq2 hl fun q' h3 own' B3 ho K3 l3 hq' => ?_
  have np : ¬ ∃ s, q = some s ∧ s.b = p := fun ⟨s, a1, a2⟩ => (c3 s a1).1 a2
  have b3 := K3 _ _ np c1
  have hpl := lt_of_get c1
  refine store6v (o := 0) b3 (by simp) ?_
  rw [set_splice1]
  have K4 : Keeps (fun b => b = p) h3 (h3.set p (.cells (.sl q' :: fv :: rest) true)) := keeps_set rfl
  have hq'p : ∀ s', q' = some s' → s'.b ≠ p := fun s' hs' => by
    rcases hq' s' hs' with a | ⟨s, a1, a2⟩
    · omega
    · rw [← a2]; exact (c3 s a1).1
  have o' : ∀ b, own' b → own b ∨ h.length ≤ b := fun b hb => by
    rcases (ho b).1 hb with a | ⟨s', a1, a2⟩
    · exact .inl a
    · rcases hq' s' a1 with b1 | ⟨s, b1, b2⟩
      · exact .inr (by omega)
      · left; rw [← a2, ← b2]
        obtain ⟨qs, _, _, d, _⟩ := c2
        exact d s b1
  have own3 : own' p := (ho p).2 (.inl m)
  refine hK own' _ ⟨⟨q', List.getElem?_set_self (lt_of_get b3), ?_, fun s hs => ⟨hq'p s hs, fun t ht => ?_⟩⟩, ?_, w, own3, fun b hb => ?_⟩ ⟨fun b C hb hC => K4 b C (fun e => hb (by rw [e]; exact m)) (K3 b C (fun ⟨s, a1, a2⟩ => ?_) hC), by simp; omega, o'⟩
  · exact B3.keeps K4 (fun b hb => by rw [hb]; exact own3) (fun s hs => ⟨hq'p s hs, (ho _).2 (.inr ⟨s, hs, rfl⟩)⟩) (fun b hb => .inl hb)
  · rcases hq' s hs with a | ⟨s1, a1, a2⟩
    · have := v.live t ht; omega
    · rw [← a2]; exact (c3 s1 a1).2 t ht
  · have v3 : BGS own' F h3 qv vars := v.keeps K3 (fun b ⟨s, a1, a2⟩ => by
      obtain ⟨qs, _, _, d, _⟩ := c2
      rw [← a2]; exact d s a1) (fun t ht => ⟨fun ⟨s, a1, a2⟩ => (c3 s a1).2 t ht a2, (ho _).2 (.inl (by
        obtain ⟨qs, _, _, d, _⟩ := v
        exact d t ht))⟩) o'
    exact v3.keeps K4 (fun b hb => by rw [hb]; exact own3) (fun t ht => ⟨w t ht, by
      obtain ⟨qs, _, _, d, _⟩ := v3
      exact d t ht⟩) (fun b hb => .inl hb)
  · rw [List.length_set]
    rcases (ho b).1 hb with a | ⟨s', a1, a2⟩
    · have := l b a; omega
    · rcases hq' s' a1 with b1 | ⟨s, b1, b2⟩
      · omega
      · have := c2.live s b1; omega
  · refine hb ?_
    obtain ⟨qs, _, _, d, _⟩ := c2
    rw [← a2]; exact d s a1
/-- What a loop came to, more. -/
theorem WH.pushv {p : Nat} {fv qin : AV} {K : Heap → Prop} (W : WH own F h p fv [qin, .sl qv] qv vars bags) (H : HasL recE h q2 x) (hq2 : ∀ u, q2 = some u → ¬ own u.b ∧ F u.b) (hl : vars.length ≤ 1000000)
    (hK : ∀ own' h' qv', WH own' F h' p fv [qin, .sl qv'] qv' (vars ++ [x]) bags → MStep own h own' h' → K h') :
    vPtr (some ⟨p, 0⟩) fun p23 => ∃ q24 : Option SL, cellsAt h ⟨p23.b, p23.o + 3⟩ 1 = some [.sl q24] ∧ PNew [.sl q2] true h fun a25 h26 => PAppendS 1 24 q24 (some ⟨a25, 0, 1, 1, 0⟩) h26 fun q27 h28 => vPtr (some ⟨p, 0⟩) fun p29 => PStore h28 ⟨p29.b, p29.o + 3⟩ [.sl q27] K := by
  obtain ⟨⟨q, c1, c2, c3⟩, v, w, m, l⟩ := W
  refine ⟨qv, by show cellsAt h ⟨p, 3⟩ 1 = _; unfold cellsAt; simp [c1], ?_⟩
  refine v.push l H hq2 hl fun q' h3 own' B3 ho K3 l3 hq' => ?_
  have np : ¬ ∃ s, qv = some s ∧ s.b = p := fun ⟨s, a1, a2⟩ => w s a1 a2
  have b3 := K3 _ _ np c1
  have hpl := lt_of_get c1
  refine store6v (o := 3) b3 (by simp) ?_
  have es : splice (AV.sl q :: fv :: [qin, .sl qv]) 3 [.sl q'] = .sl q :: fv :: [qin, .sl q'] := by simp [splice]
  rw [es]
  have K4 : Keeps (fun b => b = p) h3 (h3.set p (.cells (.sl q :: fv :: [qin, .sl q']) true)) := keeps_set rfl
  have hq'p : ∀ s', q' = some s' → s'.b ≠ p := fun s' hs' => by
    rcases hq' s' hs' with a | ⟨s, a1, a2⟩
    · omega
    · rw [← a2]; exact w s a1
  have vo : ∀ s, qv = some s → own s.b := by
    obtain ⟨qs, _, _, d, _⟩ := v
    exact d
  have co : ∀ s, q = some s → own s.b := by
    obtain ⟨qs, _, _, d, _⟩ := c2
    exact d
  have o' : ∀ b, own' b → own b ∨ h.length ≤ b := fun b hb => by
    rcases (ho b).1 hb with a | ⟨s', a1, a2⟩
    · exact .inl a
    · rcases hq' s' a1 with b1 | ⟨s, b1, b2⟩
      · exact .inr (by omega)
      · left; rw [← a2, ← b2]; exact vo s b1
  have own3 : own' p := (ho p).2 (.inl m)
  have qq' : ∀ s, q = some s → ∀ t, q' = some t → s.b ≠ t.b := fun s hs t ht => by
    rcases hq' t ht with a | ⟨s1, a1, a2⟩
    · have := c2.live s hs; omega
    · rw [← a2]; exact (c3 s hs).2 s1 a1
  refine hK own' _ q' ⟨⟨q, List.getElem?_set_self (lt_of_get b3), ?_, fun s hs => ⟨(c3 s hs).1, qq' s hs⟩⟩, ?_, hq'p, own3, fun b hb => ?_⟩ ⟨fun b C hb hC => K4 b C (fun e => hb (by rw [e]; exact m)) (K3 b C (fun ⟨s, a1, a2⟩ => hb (by rw [← a2]; exact vo s a1)) hC), by simp; omega, o'⟩
  · have c5 : BGS own' F h3 q bags := c2.keeps K3 (fun b ⟨s, a1, a2⟩ => by rw [← a2]; exact vo s a1) (fun t ht => ⟨fun ⟨s, a1, a2⟩ => (c3 t ht).2 s a1 a2.symm, (ho _).2 (.inl (co t ht))⟩) o'
    exact c5.keeps K4 (fun b hb => by rw [hb]; exact own3) (fun t ht => ⟨(c3 t ht).1, (ho _).2 (.inl (co t ht))⟩) (fun b hb => .inl hb)
  · exact B3.keeps K4 (fun b hb => by rw [hb]; exact own3) (fun s hs => ⟨hq'p s hs, (ho _).2 (.inr ⟨s, hs, rfl⟩)⟩) (fun b hb => .inl hb)
  · rw [List.length_set]
    rcases (ho b).1 hb with a | ⟨s', a1, a2⟩
    · have := l b a; omega
    · rcases hq' s' a1 with b1 | ⟨s, b1, b2⟩
      · omega
      · have := v.live s b1; omega
/-- What a loop came to, at first. -/
theorem WH.setv {p : Nat} {fv qin : AV} {K : Heap → Prop} {qv0 : Option SL} (W : WH own F h p fv [qin, .sl qv0] qv vars bags) (H : HasL recE h q2 x) (hq2 : ∀ u, q2 = some u → ¬ own u.b ∧ F u.b)
    (hK : ∀ own' h' qv', WH own' F h' p fv [qin, .sl qv'] qv' [x] bags → MStep own h own' h' → K h') :
    PNew [.sl q2] true h fun a14 h15 => vPtr (some ⟨p, 0⟩) fun p16 => PStore h15 ⟨p16.b, p16.o + 3⟩ [.sl (some ⟨a14, 0, 1, 1, 0⟩)] K := by
  refine pnew_mk ?_
  obtain ⟨⟨q, c1, c2, c3⟩, v, w, m, l⟩ := W
  have x1 := Ext.app h [Blk.cells [.sl q2] true]
  have A1 : AppJ slE (h ++ [Blk.cells [.sl q2] true]) (some ⟨h.length, 0, 1, 1, 0⟩) [q2] := .of (Apd.mk rfl (.inl rfl) (by simp; rfl))
  have l1 : (h ++ [Blk.cells [AV.sl q2] true]).length = h.length + 1 := by simp
  generalize h ++ [Blk.cells [.sl q2] true] = h1 at *
  have b1 := x1 _ _ c1
  have hpl := lt_of_get c1
  refine store6v (o := 3) b1 (by simp) ?_
  have es : splice (AV.sl q :: fv :: [qin, .sl qv0]) 3 [.sl (some ⟨h.length, 0, 1, 1, 0⟩)] = .sl q :: fv :: [qin, .sl (some ⟨h.length, 0, 1, 1, 0⟩)] := by simp [splice]
  rw [es]
  have K4 : Keeps (fun b => b = p) h1 (h1.set p (.cells (.sl q :: fv :: [qin, .sl (some ⟨h.length, 0, 1, 1, 0⟩)]) true)) := keeps_set rfl
  have co : ∀ s, q = some s → own s.b := by
    obtain ⟨qs, _, _, d, _⟩ := c2
    exact d
  have o' : ∀ b, (own b ∨ b = h.length) → own b ∨ h.length ≤ b := fun b hb => by
    rcases hb with a | a
    · exact .inl a
    · exact .inr (by omega)
  refine hK (fun b => own b ∨ b = h.length) _ (some ⟨h.length, 0, 1, 1, 0⟩) ⟨⟨q, List.getElem?_set_self (lt_of_get b1), ?_, fun s hs => ⟨(c3 s hs).1, fun t ht => ?_⟩⟩, ?_, fun t ht => ?_, .inl m, fun b hb => ?_⟩ ⟨fun b C hb hC => K4 b C (fun e => hb (by rw [e]; exact m)) (x1 _ _ hC), by simp; omega, o'⟩
  · have c5 : BGS (fun b => own b ∨ b = h.length) F h1 q bags := c2.keeps (X := fun _ => False) (keeps_of_ext x1) (fun b hb => hb.elim) (fun t ht => ⟨fun e => e, .inl (co t ht)⟩) o'
    exact c5.keeps K4 (fun b hb => .inl (by rw [hb]; exact m)) (fun t ht => ⟨(c3 t ht).1, .inl (co t ht)⟩) (fun b hb => .inl hb)
  · cases ht; have := c2.live s hs; simp only; omega
  · refine ⟨[q2], A1.keeps K4 (fun s hs => by cases hs; simp only; omega), rfl, fun s hs => by cases hs; exact .inr rfl, fun i s g hs hg => ?_⟩
    match i with
    | 0 =>
      simp only [List.getElem?_cons_zero, Option.some.injEq] at hs hg
      subst hs; subst hg
      refine ⟨K4.hasL (fun u hu e => (hq2 u hu).1 (by rw [e]; exact m)) (H.mono x1), fun u hu => ⟨fun e => ?_, (hq2 u hu).2⟩⟩
      rcases e with e | e
      · exact (hq2 u hu).1 e
      · have := H.live u hu; omega
    | i + 1 => simp at hs
  · cases ht; simp only; omega
  · rw [List.length_set]
    rcases hb with a | a
    · have := l b a; omega
    · omega
end
end Go.Proofs.Ytfafgnmlnhklaaa

/- A maker makes all bags; a round; a loop. -/
namespace Go.Proofs.Ytfafgnmlnhklaaa
open Go.Ab
set_option linter.unusedVariables false
set_option linter.unusedSimpArgs false

theorem okN_isOp {loop : Int} {n : NT} {i : Nat} (ok : OkN loop n i) : isOpN n = true ↔ n.op ≠ 1 ∧ n.op ≠ 9 ∧ n.op ≠ 10 ∧ n.op ≠ 11 := by
  obtain ⟨b, num, bd⟩ := ok
  have hop := b.op
  constructor
  · intro h
    have := isOp_cases h
    omega
  · intro h
    have hA : n.A = 0 := by
      unfold NumOk at num
      rw [if_neg h.1, if_neg h.2.1, if_neg h.2.2.1, if_neg h.2.2.2] at num
      exact num
    rw [if_neg h.2.1] at bd
    have hfn := b.fn
    unfold isOpN isOp
    rw [bd, hA, b.len]
    have d1 : decide (2 ≤ n.op) = true := decide_eq_true (by omega)
    have d2 : decide (n.op ≤ 8) = true := decide_eq_true (by omega)
    rw [d1, d2]
    simp only [List.length_nil, decide_true, Bool.and_self, Bool.true_and]
    split
    · rename_i g
      have : famV n.op = 0 := by unfold famV; rw [if_neg (by omega)]
      rw [if_pos this] at hfn
      simp [hfn.1, hfn.2]
    · rename_i g
      have : famV n.op = n.op - 1 := by unfold famV; rw [if_pos (by omega)]
      rw [if_neg (by omega), this] at hfn
      simp [hfn]

section
variable {own F : Nat → Prop} {h h0 : Heap} {q q2 qv : Option SL} {vars : List Bag} {Q : AV → Heap → Prop} {l : List NT} {fv : AV} {rest : List AV} {p : Nat} {oth : Oth}
set_option maxRecDepth 20000 in
/-- all: whatever the other nodes are made by. -/
theorem c47 {RV : List AV → Option SL → List Bag → List Bag → Prop} {Pn : NT → Nat → Prop} (hF : ∀ b, h0.length ≤ b → F b) (hfv : fv.one = true) (R0 : NodesR h0 q2 l) (hl : l.length ≤ 32) (hP : ∀ i n, l[i]? = some n → Pn n i) (hbase : ∀ n i, Pn n i → Base n i)
    (hrv : ∀ rest qv vars bags x, RV rest qv vars bags → RV rest qv vars (bags ++ [x]))
    (hother : ∀ {i : Nat} {n : NT} {c : NC} {bags : List Bag} {own : Nat → Prop} {h : Heap} {rest : List AV} {qv : Option SL} {vars : List Bag} {K : AV → Heap → Prop}, l[i]? = some n → Pn n i → bags.length = i → isOpN n = false → NodeR h0 c n → Ext h0 h → (∀ b, own b → h0.length ≤ b) →
      WH own F h p fv rest qv vars bags → RV rest qv vars bags → (∀ b ∈ bags, GoodB b) →
      ((oth n bags vars).1 ≠ 0 → ∀ h', Ext h0 h' → K (.tup [.sl none, .int .i64 (oth n bags vars).1]) h') →
      ((oth n bags vars).1 = 0 → ∀ own' h' rest' qv' q', WH own' F h' p fv rest' qv' (oth n bags vars).2.2 bags → RV rest' qv' (oth n bags vars).2.2 bags → MStep own h own' h' → HasL recE h' q' (oth n bags vars).2.1 → (∀ u, q' = some u → ¬ own' u.b ∧ F u.b) → GoodB (oth n bags vars).2.1 → K (.tup [.sl q', .int .i64 0]) h') →
      vCallF Try.prog (AC Try.prog) fv [.agg c.cs] h K)
    (W : WH own F h p fv rest qv vars []) (hrv0 : RV rest qv vars []) (x0 : Ext h0 h) (ho : ∀ b, own b → h0.length ≤ b)
    (h1 : (runG oth l [] vars).1 ≠ 0 → ∀ h', Ext h0 h' → Q (.int .i64 (runG oth l [] vars).1) h')
    (h2 : (runG oth l [] vars).1 = 0 → ∀ own' h' rest' qv', WH own' F h' p fv rest' qv' (runG oth l [] vars).2.2 (runG oth l [] vars).2.1 → RV rest' qv' (runG oth l [] vars).2.2 (runG oth l [] vars).2.1 → MStep own h own' h' → Ext h0 h' → (∀ b ∈ (runG oth l [] vars).2.1, GoodB b) → Q (.int .i64 0) h') :
    AC Try.prog 47 [.ptr (some ⟨p, 0⟩), .sl q2] h Q := ac47 (by
  unfold vc47
  rw [R0.len]
  refine ⟨fun xs h6 => ∃ (i : Nat) (own1 : Nat → Prop) (rest1 : List AV) (qv1 : Option SL) (vars1 bags1 : List Bag), xs = [.int .i64 i] ∧ i ≤ l.length ∧ bags1.length = i ∧ WH own1 F h6 p fv rest1 qv1 vars1 bags1 ∧ RV rest1 qv1 vars1 bags1 ∧ MStep own h own1 h6 ∧ Ext h0 h6 ∧ (∀ b, own1 b → h0.length ≤ b) ∧ (∀ b ∈ bags1, GoodB b) ∧ runG oth l [] vars = runG oth (l.drop i) bags1 vars1, left l.length, ⟨0, own, rest, qv, vars, [], rfl, by omega, rfl, W, hrv0, .refl _ _, x0, ho, by simp, rfl⟩, ?_⟩
  rintro n3 h6 ⟨i, own1, rest1, qv1, vars1, bags1, hx, hi, hbl, W1, rv1, S1, x1, o1, gb, er⟩
  simp only [List.cons.injEq, AV.int.injEq, true_and, and_true] at hx
  subst hx
  refine vif_mk (fun g => ?_) (fun g => ?_)
  · replace g := of_decide_eq_true g
    have hn : l[i]? = some l[i] := List.getElem?_eq_getElem (by omega)
    have hd : l.drop i = l[i] :: l.drop (i + 1) := List.drop_eq_getElem_cons (by omega)
    generalize hnn : l[i] = n at *
    have hPn := hP i n hn
    have base := hbase n i hPn
    rw [hd, runG] at er
    have w : wrapK .i64 ((i : Int) + 1) = ((i + 1 : Nat) : Int) := by rw [wrapK_i64 ⟨by omega, by omega⟩]; omega
    rw [w]
    -- what comes behind a node's bag
    have fin : ∀ {own2 h20 rest2 qv2 q21}, (stepG oth n bags1 vars1).1 = 0 → WH own2 F h20 p fv rest2 qv2 (stepG oth n bags1 vars1).2.2 bags1 → RV rest2 qv2 (stepG oth n bags1 vars1).2.2 bags1 → MStep own1 h6 own2 h20 → HasL recE h20 q21 (stepG oth n bags1 vars1).2.1 → (∀ u, q21 = some u → ¬ own2 u.b ∧ F u.b) → GoodB (stepG oth n bags1 vars1).2.1 →
        vPtr (some ⟨p, 0⟩) fun p23 => ∃ q24 : Option SL, cellsAt h20 ⟨p23.b, p23.o + 0⟩ 1 = some [.sl q24] ∧ PNew [.sl q21] true h20 fun a25 h26 => PAppendS 1 24 q24 (some ⟨a25, 0, 1, 1, 0⟩) h26 fun q27 h28 => vPtr (some ⟨p, 0⟩) fun p29 => PStore h28 ⟨p29.b, p29.o + 0⟩ [.sl q27] fun h30 =>
          (True) ∧ (∃ (i' : Nat) (own1 : Nat → Prop) (rest1 : List AV) (qv1 : Option SL) (vars1 bags1 : List Bag), [AV.int .i64 ((i + 1 : Nat) : Int)] = [.int .i64 i'] ∧ i' ≤ l.length ∧ bags1.length = i' ∧ WH own1 F h30 p fv rest1 qv1 vars1 bags1 ∧ RV rest1 qv1 vars1 bags1 ∧ MStep own h own1 h30 ∧ Ext h0 h30 ∧ (∀ b, own1 b → h0.length ≤ b) ∧ (∀ b ∈ bags1, GoodB b) ∧ runG oth l [] vars = runG oth (l.drop i') bags1 vars1) ∧ left l.length [AV.int .i64 ((i + 1 : Nat) : Int)] h30 < left l.length [AV.int .i64 (i : Int)] h6 := by
      intro own2 h20 rest2 qv2 q21 hz W2 rv2 S2 H21 f21 g21
      refine W2.push H21 f21 (by omega) fun own3 h30 W3 S3 => ?_
      have S13 := S2.trans S3
      rw [if_pos hz] at er
      refine ⟨trivial, ⟨i + 1, own3, rest2, qv2, _, _, rfl, by omega, by rw [List.length_append, hbl]; rfl, W3, hrv _ _ _ _ _ rv2, S1.trans S13, fun b C hC => S13.keeps b C (fun hb => by have := o1 b hb; have := lt_of_get hC; omega) (x1 _ _ hC), fun b hb => ?_, fun b hb => ?_, er⟩, by simp only [left]; omega⟩
      · rcases S13.grow b hb with a | a
        · exact o1 b a
        · have := x1.len; omega
      · rcases List.mem_append.1 hb with a | a
        · exact gb b a
        · simp only [List.mem_singleton] at a; subst a; exact g21
    have bad : (stepG oth n bags1 vars1).1 ≠ 0 → ∀ h', Ext h0 h' → Q (.int .i64 (stepG oth n bags1 vars1).1) h' := by
      intro hne h' x'
      rw [if_neg hne] at er
      rw [er] at h1
      exact h1 hne h' x'
    obtain ⟨qb1, hc1, B1, _⟩ := W1.cells
    refine R0.idx (i := i) (by omega) rfl fun p7 c n' hn' hc7 Rc0 => ⟨_, _, _, _, _, _, x1.cells hc7, ?_⟩
    have Rc6 := Rc0.mono x1
    rw [hn] at hn'
    obtain rfl : n = n' := Option.some.inj hn'
    refine ⟨fv, hfv, ?_, ?_⟩
    · show cellsAt h6 ⟨p, 1⟩ 1 = some fv.cells
      have : fv.cells = [fv] := by cases fv <;> first | rfl | (simp [AV.one] at hfv)
      rw [this]
      unfold cellsAt; simp [hc1]
    obtain ⟨e1, e2, e3, e4⟩ := Rc6.same
    have hisop : isOp c.op (slLen c.qi) c.k c.a c.A (slLen c.qb) = isOpN n := by
      rw [e1, e2, e3, e4, Rc6.ins.len, Rc6.body.len]; rfl
    refine c31 ⟨_, rfl, ?_⟩
    rw [hisop]
    refine vif_mk (fun gop => ?_) (fun gop => ?_)
    · have es : stepG oth n bags1 vars1 = ((opR n (insOf n bags1)).1, (opR n (insOf n bags1)).2, vars1) := by unfold stepG; rw [if_pos gop]
      rw [es] at fin bad
      have hbl2 := base.len
      have arl : arityV n.op ≤ 2 := by unfold arityV; repeat' split
                                       all_goals omega
      refine c69 (c := c) (by unfold cellsAt; simp [hc1]) B1 Rc6 (by rw [hbl]; exact base.ins) (by omega) gb (fun hne h20 x20 => ⟨none, _, rfl, vif_mk (fun _ => bad hne h20 (x1.trans x20)) (fun g => ?_)⟩) (fun hz q21 h20 N20 => ⟨q21, 0, rfl, vif_mk (fun g => by simp at g) (fun _ => ?_)⟩)
      · exact absurd (by simpa using g) hne
      · refine fin hz (W1.ext N20.1) rv1 (MStep.ext N20.1) N20.hasL (fun u hu => ?_) (opR_good hz)
        have := N20.2.2 u hu
        exact ⟨fun ho => by have := W1.live _ ho; omega, hF _ (by have := x1.len; omega)⟩
    · have gop : isOpN n = false := by simpa using gop
      have es : stepG oth n bags1 vars1 = oth n bags1 vars1 := by unfold stepG; rw [gop]; rfl
      rw [es] at fin bad
      exact hother hn hPn hbl gop Rc0 x1 o1 W1 rv1 gb (fun hne h' x' => ⟨none, _, rfl, vif_mk (fun _ => bad hne h' x') (fun g => absurd (by simpa using g) hne)⟩) (fun hz own' h' rest' qv' q' W' rv' S' H' f' g' => ⟨q', 0, rfl, vif_mk (fun g => by simp at g) (fun _ => fin hz W' rv' S' H' f' g')⟩)
  · replace g := of_decide_eq_false g
    have e : l.drop i = [] := List.drop_eq_nil_of_le (by omega)
    rw [e] at er
    rw [er] at h2
    exact h2 rfl own1 h6 rest1 qv1 W1 rv1 S1 x1 gb)

/-- slices.Equal -/
theorem c116 {q1 q2 : Option SL} {a b : Bag} (H1 : HasL recE h q1 a) (H2 : HasL recE h q2 b) (hl : a.length ≤ 1000000) (hQ : Q (.bool (decide (a = b))) h) : AC Try.prog 116 [.sl q1, .sl q2] h Q := ac116 (by
  unfold vc116
  have hq : ∀ c : Bool, (c = true ↔ a = b) → Q (.bool c) h := by
    intro c hc
    have : c = decide (a = b) := by rw [Bool.eq_iff_iff]; simpa using hc
    rw [this]; exact hQ
  rw [H1.len, H2.len]
  refine vif_mk (fun g => hq _ ?_) (fun g => ?_)
  · have : a.length ≠ b.length := by intro e; rw [e] at g; simp at g
    simp only [Bool.false_eq_true, false_iff]
    intro e; exact this (by rw [e])
  have hab : a.length = b.length := by
    have : ((a.length : Nat) : Int) = (b.length : Nat) := by simpa using g
    omega
  refine ⟨fun xs h6 => h6 = h ∧ ∃ i : Nat, xs = [.int .i64 i] ∧ i ≤ a.length ∧ a.take i = b.take i, left a.length, ⟨rfl, 0, rfl, by omega, by simp⟩, ?_⟩
  rintro n3 h6 ⟨rfl, i, hx, hi, ha⟩
  simp only [List.cons.injEq, AV.int.injEq, true_and, and_true] at hx
  subst hx
  refine vif_mk (fun g2 => ?_) (fun g2 => hq _ ?_)
  · replace g2 := of_decide_eq_true g2
    refine H1.idx (E := recE) (by omega) (by omega) fun p x hx hc => ⟨_, _, hc, H2.idx (E := recE) (by omega) (by omega) fun p2 y hy hc2 => ⟨_, _, hc2, vif_mk (fun g3 => hq _ ?_) (fun g3 => ?_)⟩⟩
    · rw [Int.toNat_natCast] at hx hy
      simp only [Bool.false_eq_true, false_iff]
      rintro rfl
      rw [hx] at hy
      cases hy
      simp at g3
    · rw [Int.toNat_natCast] at hx hy
      have e : x = y := by
        simp only [Bool.and_true, Bool.not_eq_false', Bool.and_eq_true, beq_iff_eq] at g3
        exact Prod.ext g3.1 g3.2
      subst e
      rw [wrapK_i64 ⟨by omega, by omega⟩]
      exact ⟨trivial, ⟨rfl, i + 1, by simp, by omega, by rw [List.take_add_one, List.take_add_one, ha, hx, hy]⟩, by simp only [left]; omega⟩
  · replace g2 := of_decide_eq_false g2
    rw [List.take_of_length_le (by omega), List.take_of_length_le (by omega)] at ha
    simp [ha])
/-- rec.Same -/
theorem c87 {q1 q2 : Option SL} {a b : Bag} (H1 : HasL recE h q1 a) (H2 : HasL recE h q2 b) (hl : a.length ≤ 1000000) (hl2 : b.length ≤ 1000000) (hQ : ∀ h', Ext h h' → Q (.bool (decide (sortR a = sortR b))) h') : AC Try.prog 87 [.sl q1, .sl q2] h Q := ac87 (by
  unfold vc87
  refine c62 H1 hl fun q5 h4 N4 => ⟨q5, rfl, c62 (H2.mono N4.1) hl2 fun q8 h7 N7 => ⟨q8, rfl, ?_⟩⟩
  exact c116 (N4.hasL.mono N7.1) N7.hasL (by rw [sortR_len]; exact hl) ⟨_, rfl, hQ _ (N4.1.trans N7.1)⟩)

def othI (outer : List Bag) (x : Bag) : Oth := fun n bags vars => if n.op = 11 then (0, sortR (outer.getD n.A.toNat []), vars) else (0, sortR x, vars)
/-- What comes of a round. -/
def roundV (body : List NT) (outer : List Bag) (x : Bag) : Int × Bag := ((runG (othI outer x) body [] []).1, (runG (othI outer x) body [] []).2.1.getLastD [])
theorem okI_kinds {loop : Nat} {n : NT} {i : Nat} (ok : OkI loop n i) (h : isOpN n = false) : n.op = 10 ∨ n.op = 11 ∧ 0 ≤ n.A ∧ n.A < loop := by
  have hk := okN_isOp (okI_iff.2 ok)
  have num := ok.2.1
  have : ¬ (n.op ≠ 1 ∧ n.op ≠ 9 ∧ n.op ≠ 10 ∧ n.op ≠ 11) := fun hh => by rw [hk.2 hh] at h; cases h
  unfold NumOk at num
  by_cases h1 : n.op = 1
  · rw [if_pos h1] at num; omega
  rw [if_neg h1] at num
  by_cases h9 : n.op = 9
  · rw [if_pos h9] at num; omega
  rw [if_neg h9] at num
  by_cases h10 : n.op = 10
  · exact .inl h10
  rw [if_neg h10] at num
  have h11 : n.op = 11 := by
    apply Classical.byContradiction
    intro hc
    exact this ⟨h1, h9, h10, hc⟩
  rw [if_pos h11] at num
  exact .inr ⟨h11, num.2⟩
set_option maxRecDepth 20000 in
/-- body -/
theorem c45 {F : Nat → Prop} {outer : List Bag} {x : Bag} {q1 q2 q3 : Option SL} {body : List NT} (G : InGG F h q1 outer) (H : HasL recE h q2 x) (R : NodesR h q3 body) (ok : OkB body outer.length) (ho : ∀ b ∈ outer, mayC b = 0) (hx : mayC x = 0)
    (h1 : (roundV body outer x).1 ≠ 0 → ∀ h', Ext h h' → Q (.tup [.sl none, .int .i64 (roundV body outer x).1]) h')
    (h2 : (roundV body outer x).1 = 0 → ∀ q' h', Ext h h' → HasL recE h' q' (roundV body outer x).2 → (∀ u, q' = some u → h.length ≤ u.b) → GoodB (roundV body outer x).2 → Q (.tup [.sl q', .int .i64 0]) h') :
    AC Try.prog 45 [.agg [.sl q1, .sl q2], .sl q3] h Q := ac45 (by
  unfold vc45
  refine pnew_mk ?_
  have x5 := Ext.app h [Blk.cells [.sl none, .func (.func 67) [.agg [.sl q1, .sl q2]] []] true]
  have b5 : (h ++ [Blk.cells [AV.sl none, .func (.func 67) [.agg [.sl q1, .sl q2]] []] true])[h.length]? = some (.cells [.sl none, .func (.func 67) [.agg [.sl q1, .sl q2]] []] true) := by simp
  have l5 : (h ++ [Blk.cells [AV.sl none, .func (.func 67) [.agg [.sl q1, .sl q2]] []] true]).length = h.length + 1 := by simp
  generalize h ++ [Blk.cells [.sl none, .func (.func 67) [.agg [.sl q1, .sl q2]] []] true] = h5 at *
  have W5 : WH (fun b => b = h.length) (fun b => h.length ≤ b) h5 h.length (.func (.func 67) [.agg [.sl q1, .sl q2]] []) [] none [] [] :=
    ⟨⟨none, b5, .nil, fun s hs => by cases hs⟩, .nil, (fun t ht => by cases ht), rfl, fun b hb => by omega⟩
  refine c47 (oth := othI outer x) (RV := fun _ _ _ _ => True) (Pn := fun n i => OkI outer.length n i) (fun b hb => hb) rfl R ok.2.1 ok.2.2 (fun n i h => h.1) (fun _ _ _ _ _ h => h)
    (fun {i n c bags own h6 rest qv vars K} hln hP hbl gop Rc x6 o6 W6 _ gb _ k2 => ?_) W5 trivial x5 (fun b hb => by omega) (fun hne h7 x7 => ⟨_, rfl, vif_mk (fun _ => h1 hne h7 x7) (fun g => absurd (by simpa using g) hne)⟩) (fun hz own' h7 rest' qv' W7 _ S7 x7 gb => ⟨0, rfl, vif_mk (fun g => by simp at g) (fun _ => ?_)⟩)
  · have k62 : AC Try.prog 67 [.agg [.sl q1, .sl q2], .agg c.cs] h6 K := ac67 (by
      unfold vc67
      obtain ⟨e1, e2, e3, e4⟩ := Rc.same
      rw [e1, e4]
      rcases okI_kinds hP gop with h10 | ⟨h11, hA0, hA1⟩
      · refine vif_mk (fun g => by rw [h10] at g; simp at g) (fun _ => ?_)
        have eo : othI outer x n bags vars = (0, sortR x, vars) := by unfold othI; rw [if_neg (by omega)]
        rw [eo] at k2
        have := (mayC0 hx).2
        refine c40 (H.mono x6) (by omega) (fun hn => absurd hx hn) fun _ q' h' N => ⟨q', 0, rfl, ?_⟩
        exact k2 rfl own h' rest qv q' (W6.ext N.1) trivial (MStep.ext N.1) N.hasL (fun u hu => ⟨fun hb => by have := W6.live _ hb; have := N.2.2 u hu; omega, by have := N.2.2 u hu; have := x6.len; omega⟩) (good_sort hx)
      · refine vif_mk (fun _ => ?_) (fun g => by rw [h11] at g; simp at g)
        have eo : othI outer x n bags vars = (0, sortR (outer.getD n.A.toNat []), vars) := by unfold othI; rw [if_pos h11]
        rw [eo] at k2
        refine (G.mono x6).idx (i := n.A.toNat) (by omega) (by omega) fun pp s b hb hc Hb f => ⟨s, hc, ?_⟩
        have eb : outer.getD n.A.toNat [] = b := by rw [List.getD_eq_getElem?_getD, hb]; rfl
        rw [eb] at k2
        have hbm := ho b (List.mem_of_getElem? hb)
        have := (mayC0 hbm).2
        refine c40 Hb (by omega) (fun hn => absurd hbm hn) fun _ q' h' N => ⟨q', 0, rfl, ?_⟩
        exact k2 rfl own h' rest qv q' (W6.ext N.1) trivial (MStep.ext N.1) N.hasL (fun u hu => ⟨fun hb => by have := W6.live _ hb; have := N.2.2 u hu; omega, by have := N.2.2 u hu; have := x6.len; omega⟩) (good_sort hbm))
    exact k62
  · obtain ⟨q, c1, B7, _⟩ := W7.cells
    have hc : cellsAt h7 ⟨h.length, 0⟩ 1 = some [.sl q] := by unfold cellsAt; simp [c1]
    refine ⟨q, hc, q, hc, ?_⟩
    have hlen := runG_len hz
    have h1l := ok.1
    have h2l := ok.2.1
    simp only [List.length_nil, Nat.zero_add] at hlen
    rw [B7.len, hlen, wrapK_i64 ⟨by omega, by omega⟩]
    refine B7.idx (i := body.length - 1) (by omega) (by omega) fun p11 s g hg hc11 Hs fs => ⟨s, hc11, ?_⟩
    have el : (runG (othI outer x) body [] []).2.1.getLastD [] = g := by
      rw [List.getLastD_eq_getLast?, List.getLast?_eq_getElem?, hlen, hg]; rfl
    have er : (roundV body outer x).2 = g := el
    rw [er] at h2
    exact h2 hz s h7 x7 Hs (fun u hu => (fs u hu).2) (gb g (List.mem_of_getElem? hg)))

/-- What a loop comes to. -/
def loopV (body : List NT) (outer : List Bag) : Nat → Bag → List Bag → Int × Bag × List Bag
  | 0, x, vars => (0, x, vars)
  | m + 1, x, vars => if (roundV body outer x).1 = 0 then (if sortR x = sortR (roundV body outer x).2 then (0, x, vars) else loopV body outer m (roundV body outer x).2 (vars ++ [(roundV body outer x).2])) else ((roundV body outer x).1, [], [])
def loopX (n : NT) (bags : List Bag) : Bag := bags.getD (n.ins.getD 0 0).toNat []
def othO (inputs : List Bag) : Oth := fun n bags vars => if n.op = 9 then loopV n.body bags n.A.toNat (loopX n bags) [loopX n bags] else (0, sortR (inputs.getD n.A.toNat []), vars)
set_option maxRecDepth 20000 in
/-- loop -/
theorem c68 {F : Nat → Prop} {c : NC} {n : NT} {qin : Option SL} {bags : List Bag} {qv0 : Option SL} (hF : ∀ b, h0.length ≤ b → F b) (R0 : NodeR h0 c n) (x0 : Ext h0 h) (ho : ∀ b, own b → h0.length ≤ b) (ok : OkB n.body bags.length) (hi : n.ins.length = 1) (hins : ∀ y ∈ n.ins, 0 ≤ y ∧ y < bags.length) (hA : 1 ≤ n.A ∧ n.A ≤ 64)
    (W : WH own F h p fv [.sl qin, .sl qv0] qv vars bags) (gb : ∀ b ∈ bags, GoodB b)
    (h1 : (loopV n.body bags n.A.toNat (loopX n bags) [loopX n bags]).1 ≠ 0 → ∀ h', Ext h0 h' → Q (.tup [.sl none, .int .i64 (loopV n.body bags n.A.toNat (loopX n bags) [loopX n bags]).1]) h')
    (h2 : (loopV n.body bags n.A.toNat (loopX n bags) [loopX n bags]).1 = 0 → ∀ own' h' qv' q', WH own' F h' p fv [.sl qin, .sl qv'] qv' (loopV n.body bags n.A.toNat (loopX n bags) [loopX n bags]).2.2 bags → MStep own h own' h' → HasL recE h' q' (loopV n.body bags n.A.toNat (loopX n bags) [loopX n bags]).2.1 → (∀ u, q' = some u → ¬ own' u.b ∧ F u.b) → GoodB (loopV n.body bags n.A.toNat (loopX n bags) [loopX n bags]).2.1 → Q (.tup [.sl q', .int .i64 0]) h') :
    AC Try.prog 68 [.ptr (some ⟨p, 0⟩), .agg c.cs] h Q := ac68 (by
  unfold vc68
  obtain ⟨e1, e2, e3, e4⟩ := R0.same
  obtain ⟨q9, c11, B9, _⟩ := W.cells
  refine ⟨q9, by show cellsAt h ⟨p, 0⟩ 1 = _; unfold cellsAt; simp [c11], ?_⟩
  refine (R0.ins.mono x0).idx (E := intE) (by omega) (by omega) fun p10 y hy hcy => ⟨y, hcy, ?_⟩
  have hy0 : n.ins[0]? = some y := by simpa using hy
  obtain ⟨y0, y1⟩ := hins y (List.mem_of_getElem? hy0)
  refine B9.idx (i := y.toNat) (by omega) (by omega) fun p12 q13 x hx hc13 H13 f13 => ⟨q13, hc13, ?_⟩
  have ex : loopX n bags = x := by
    unfold loopX
    rw [List.getD_eq_getElem?_getD, List.getD_eq_getElem?_getD, hy0]
    simp only [Option.getD_some]
    rw [hx]; rfl
  rw [ex] at h1 h2
  have gx := gb x (List.mem_of_getElem? hx)
  refine W.setv H13 f13 fun own1 h17 qv1 W17 S17 => ?_
  have H17 := S17.hasL H13 fun u hu => (f13 u hu).1
  have keepX : ∀ {own' h'}, MStep own h own' h' → Ext h0 h' := fun S b C hC => S.keeps b C (fun hb => by have := ho b hb; have := lt_of_get hC; omega) (x0 _ _ hC)
  rw [e4]
  refine ⟨fun xs h22 => ∃ (j : Nat) (own2 : Nat → Prop) (qv2 q18 : Option SL) (x2 : Bag) (vars2 : List Bag), xs = [.sl q18, .int .i64 j] ∧ (j : Int) ≤ n.A ∧ WH own2 F h22 p fv [.sl qin, .sl qv2] qv2 vars2 bags ∧ MStep own h own2 h22 ∧ HasL recE h22 q18 x2 ∧ (∀ u, q18 = some u → ¬ own2 u.b ∧ F u.b) ∧ GoodB x2 ∧ vars2.length ≤ j + 1 ∧ loopV n.body bags n.A.toNat x [x] = loopV n.body bags (n.A.toNat - j) x2 vars2, fun xs _ => match xs with | [_, .int _ j] => (n.A - j).toNat | _ => 0, ⟨0, own1, qv1, q13, x, [x], rfl, by omega, W17, S17, H17.1, fun u hu => ⟨H17.2 u hu, (f13 u hu).2⟩, gx, by simp, rfl⟩, ?_⟩
  rintro q18 n19 h22 ⟨j, own2, qv2, q18', x2, vars2, hxs, hj, W22, S22, H22, f22, g22, vl, el⟩
  simp only [List.cons.injEq, AV.int.injEq, AV.sl.injEq, true_and, and_true] at hxs
  obtain ⟨rfl, rfl⟩ := hxs
  refine vif_mk (fun g => ?_) (fun g => ?_)
  · replace g := of_decide_eq_true g
    have ej : n.A.toNat - j = (n.A.toNat - (j + 1)) + 1 := by omega
    rw [ej, loopV] at el
    obtain ⟨q24, c31, B24, _⟩ := W22.cells
    refine ⟨q24, by show cellsAt h22 ⟨p, 0⟩ 1 = _; unfold cellsAt; simp [c31], ?_⟩
    refine c45 B24.inGG H22 (R0.body.mono (keepX S22)) ok (fun b hb => (gb b hb).1) g22.1 (fun hne h26 x26 => ⟨none, _, rfl, vif_mk (fun _ => ?_) (fun g => absurd (by simpa using g) hne)⟩) (fun hz q27 h26 x26 H26 f26 g26 => ⟨q27, 0, rfl, vif_mk (fun g => by simp at g) (fun _ => ?_)⟩)
    · rw [if_neg hne] at el
      rw [el] at h1
      exact h1 hne h26 ((keepX S22).trans x26)
    · rw [if_pos hz] at el
      have l2 := g22.len
      have l3 := g26.len
      refine c87 (H22.mono x26) H26 (by omega) (by omega) fun h30 x30 => ⟨_, rfl, vif_mk (fun gs => ?_) (fun gs => ?_)⟩
      · rw [if_pos (of_decide_eq_true gs)] at el
        rw [el] at h2
        have xx := x26.trans x30
        exact h2 rfl own2 h30 qv2 q18 (W22.ext xx) (S22.trans (MStep.ext xx)) (H22.mono xx) f22 g22
      · rw [if_neg (of_decide_eq_false gs)] at el
        have xx := x26.trans x30
        have W30 := W22.ext xx
        have f30 : ∀ u, q27 = some u → ¬ own2 u.b ∧ F u.b := fun u hu => ⟨fun hb => by have := W22.live _ hb; have := f26 u hu; omega, hF _ (by have := f26 u hu; have := (keepX S22).len; omega)⟩
        refine W30.pushv (H26.mono x30) f30 (by omega) fun own3 h39 qv3 W39 S39 => ?_
        have H39 := S39.hasL (H26.mono x30) fun u hu => (f30 u hu).1
        rw [wrapK_i64 ⟨by omega, by omega⟩]
        exact ⟨⟨rfl, trivial⟩, ⟨j + 1, own3, qv3, q27, _, _, rfl, by omega, W39, (S22.trans (MStep.ext xx)).trans S39, H39.1, fun u hu => ⟨H39.2 u hu, (f30 u hu).2⟩, g26, by simp; omega, el⟩, by simp only; omega⟩
  · replace g := of_decide_eq_false g
    have ej : n.A.toNat - j = 0 := by omega
    rw [ej, loopV] at el
    rw [el] at h2
    exact h2 rfl own2 h22 qv2 q18 W22 S22 H22 f22 g22)
end
end Go.Proofs.Ytfafgnmlnhklaaa

/- A graph's run; copies; what is told. -/
namespace Go.Proofs.Ytfafgnmlnhklaaa
open Go.Ab
set_option linter.unusedVariables false
set_option linter.unusedSimpArgs false

theorem okN_kinds {n : NT} {i : Nat} (ok : OkN (-1) n i) (h : isOpN n = false) : n.op = 9 ∧ n.ins.length = 1 ∧ (1 ≤ n.A ∧ n.A ≤ 64) ∧ OkB n.body i ∨ n.op = 1 ∧ 0 ≤ n.A ∧ n.A < 4 := by
  have hk := okN_isOp ok
  obtain ⟨b, num, bd⟩ := ok
  have : ¬ (n.op ≠ 1 ∧ n.op ≠ 9 ∧ n.op ≠ 10 ∧ n.op ≠ 11) := fun hh => by rw [hk.2 hh] at h; cases h
  unfold NumOk at num
  by_cases h1 : n.op = 1
  · rw [if_pos h1] at num; exact .inr ⟨h1, num.2⟩
  rw [if_neg h1] at num
  by_cases h9 : n.op = 9
  · rw [if_pos h9] at num
    rw [if_pos h9] at bd
    refine .inl ⟨h9, ?_, num.2, bd⟩
    rw [b.len, h9]; rfl
  rw [if_neg h9] at num
  by_cases h10 : n.op = 10
  · rw [if_pos h10] at num; omega
  rw [if_neg h10] at num
  by_cases h11 : n.op = 11
  · rw [if_pos h11] at num; omega
  · exact absurd ⟨h1, h9, h10, h11⟩ this

open Classical in
/-- What a run ends with. -/
noncomputable def evalE (l : List NT) (out : Int) (inputs : List Bag) : Int :=
  if OkG l out then (if inputs.length > 4 then 1 else if insE inputs = 0 then (runG (othO inputs) l [] []).1 else insE inputs) else 170
theorem evalE_zero {l : List NT} {out : Int} {inputs : List Bag} (h : evalE l out inputs = 0) : OkG l out ∧ inputs.length ≤ 4 ∧ insE inputs = 0 ∧ (runG (othO inputs) l [] []).1 = 0 := by
  unfold evalE at h
  split at h
  · rename_i g
    split at h
    · cases h
    · rename_i g1
      split at h
      · rename_i g2; exact ⟨g, by omega, g2, h⟩
      · rename_i g2; exact absurd h g2
  · cases h
abbrev Any : Nat → Prop := fun _ => True

section
variable {h : Heap} {Q : AV → Heap → Prop} {q q3 : Option SL} {l : List NT} {out : Int} {inputs : List Bag}
set_option maxRecDepth 20000 in
/-- run -/
theorem c28 (R : NodesR h q l) (L : Lens l) (G : InGG (fun b => b < h.length) h q3 inputs) (hil : ∀ x ∈ inputs, x.length ≤ 1000000)
    (h1 : evalE l out inputs ≠ 0 → ∀ h', Ext h h' → Q (.tup [.ptr none, .int .i64 (evalE l out inputs)]) h')
    (h2 : evalE l out inputs = 0 → ∀ own p qv h', WH own Any h' p (.func (.func 46) [.ptr (some ⟨p, 0⟩)] []) [.sl q3, .sl qv] qv (runG (othO inputs) l [] []).2.2 (runG (othO inputs) l [] []).2.1 → Ext h h' → (∀ b, own b → h.length ≤ b) → (∀ b ∈ (runG (othO inputs) l [] []).2.1, GoodB b) → Q (.tup [.ptr (some ⟨p, 0⟩), .int .i64 0]) h') :
    AC Try.prog 28 [.agg [.sl q, .int .i64 out], .sl q3] h Q := ac28 (by
  unfold vc28
  refine c43 R L fun e h5 x5 e0 e1 => ⟨e, rfl, ?_⟩
  by_cases ok : OkG l out
  · rw [e0 ok]
    refine vif_mk (fun g => by simp at g) (fun _ => ?_)
    have ev : evalE l out inputs = if inputs.length > 4 then 1 else if insE inputs = 0 then (runG (othO inputs) l [] []).1 else insE inputs := by unfold evalE; rw [if_pos ok]
    rw [G.len]
    refine vif_mk (fun g => ?_) (fun g => ?_)
    · have g := of_decide_eq_true g
      rw [if_pos (by omega)] at ev
      rw [ev] at h1
      exact h1 (by decide) h5 x5
    have g := of_decide_eq_false g
    rw [if_neg (by omega)] at ev
    refine ⟨fun xs h14 => h14 = h5 ∧ ∃ i : Nat, xs = [.int .i64 i] ∧ i ≤ inputs.length ∧ insE (inputs.take i) = 0, fun xs _ => match xs with | [.int _ i] => (inputs.length - i).toNat | _ => 0, ⟨rfl, 0, rfl, by omega, rfl⟩, ?_⟩
    rintro n11 h14 ⟨rfl, i, hx, hi, he⟩
    simp only [List.cons.injEq, AV.int.injEq, true_and, and_true] at hx
    subst hx
    refine vif_mk (fun g3 => ?_) (fun g3 => ?_)
    · replace g3 := of_decide_eq_true g3
      refine (G.mono x5).idx (i := i) (by omega) rfl fun pp s b hb hc Hb f => ⟨s, hc, ?_⟩
      have hlm := hil b (List.mem_of_getElem? hb)
      have happ := insE_app (l := b) he
      have e : inputs.take (i + 1) = inputs.take i ++ [b] := by rw [List.take_add_one, hb]; rfl
      refine c38 Hb (by omega) ⟨_, rfl, vif_mk (fun g4 => ?_) (fun g4 => ?_)⟩
      · have g4 : mayC b ≠ 0 := by simpa using g4
        have hE : insE inputs = mayC b := by
          rw [← happ, ← e]
          conv => lhs; rw [← List.take_append_drop (i + 1) inputs]
          exact insE_pre (by rw [e, happ]; exact g4)
        rw [hE, if_neg g4] at ev
        rw [ev] at h1
        exact h1 g4 h14 x5
      · have g4 : mayC b = 0 := by simpa using g4
        rw [wrapK_i64 ⟨by omega, by omega⟩]
        exact ⟨⟨rfl, trivial⟩, ⟨rfl, i + 1, by simp, by omega, by rw [e, happ]; exact g4⟩, by simp only; omega⟩
    · replace g3 := of_decide_eq_false g3
      have e : inputs.take i = inputs := List.take_of_length_le (by omega)
      rw [e] at he
      rw [if_pos he] at ev
      have may : ∀ b ∈ inputs, mayC b = 0 := insE0 he
      refine pnew_mk ?_
      have x17 := Ext.app h14 [Blk.cells [.sl none, .nilfunc, .sl q3, .sl none] true]
      have b17 : (h14 ++ [Blk.cells [AV.sl none, .nilfunc, .sl q3, .sl none] true])[h14.length]? = some (.cells [.sl none, .nilfunc, .sl q3, .sl none] true) := by simp
      have l17 : (h14 ++ [Blk.cells [AV.sl none, .nilfunc, .sl q3, .sl none] true]).length = h14.length + 1 := by simp
      generalize h14 ++ [Blk.cells [.sl none, .nilfunc, .sl q3, .sl none] true] = h17 at *
      have e1 : (⟨h14.length, 1⟩ : PA) = ⟨h14.length, 0 + 1⟩ := rfl
      rw [e1]
      refine store6 (o := 1) b17 (by simp) ?_
      have es : splice [AV.sl none, .nilfunc, .sl q3, .sl none] 1 [.func (.func 46) [.ptr (some ⟨h14.length, 0⟩)] []] = [.sl none, .func (.func 46) [.ptr (some ⟨h14.length, 0⟩)] [], .sl q3, .sl none] := by simp [splice]
      rw [es]
      have x18 : Ext h14 (h17.set h14.length (.cells [.sl none, .func (.func 46) [.ptr (some ⟨h14.length, 0⟩)] [], .sl q3, .sl none] true)) := x17.set (Nat.le_refl _)
      have b18 : (h17.set h14.length (.cells [.sl none, .func (.func 46) [.ptr (some ⟨h14.length, 0⟩)] [], .sl q3, .sl none] true))[h14.length]? = some (.cells [.sl none, .func (.func 46) [.ptr (some ⟨h14.length, 0⟩)] [], .sl q3, .sl none] true) := List.getElem?_set_self (lt_of_get b17)
      have l18 : (h17.set h14.length (.cells [.sl none, .func (.func 46) [.ptr (some ⟨h14.length, 0⟩)] [], .sl q3, .sl none] true)).length = h14.length + 1 := by rw [List.length_set, l17]
      generalize hp : h14.length = p at *
      generalize h17.set p _ = h18 at *
      have W18 : WH (fun b => b = p) Any h18 p (.func (.func 46) [.ptr (some ⟨p, 0⟩)] []) [.sl q3, .sl none] none [] [] :=
        ⟨⟨none, b18, .nil, fun s hs => by cases hs⟩, .nil, (fun t ht => by cases ht), rfl, fun b hb => by omega⟩
      refine c47 (h0 := h14) (oth := othO inputs) (RV := fun rest qv _ _ => rest = [.sl q3, .sl qv]) (Pn := fun n i => OkN (-1) n i) (fun _ _ => trivial) rfl (R.mono x5) ok.len.2 ok.node (fun n i h => h.1) (fun _ _ _ _ _ h => h)
        (fun {i n c bags own h6 rest qv vars K} hln hP hbl gop Rc x6 o6 W6 rv6 gb k1 k2 => ?_) W18 rfl x18 (fun b hb => by rw [hb, hp]; exact Nat.le_refl _) (fun hne h7 x7 => ⟨_, rfl, vif_mk (fun _ => by rw [← ev]; rw [← ev] at hne; exact h1 hne h7 (x5.trans x7)) (fun g => absurd (by simpa using g) hne)⟩) (fun hz own' h7 rest' qv' W7 rv7 S7 x7 gb => ⟨0, rfl, vif_mk (fun g => by simp at g) (fun _ => ?_)⟩)
      · subst rv6
        have k51 : AC Try.prog 46 [.ptr (some ⟨p, 0⟩), .agg c.cs] h6 K := ac46 (by
          unfold vc46
          obtain ⟨e1, e2, e3, e4⟩ := Rc.same
          rw [e1, e4]
          rcases okN_kinds hP gop with ⟨h9, hi1, hA, hB⟩ | ⟨h1', hA0, hA1⟩
          · refine vif_mk (fun _ => ?_) (fun g => by rw [h9] at g; simp at g)
            have eo : othO inputs n bags vars = loopV n.body bags n.A.toNat (loopX n bags) [loopX n bags] := by unfold othO; rw [if_pos h9]
            rw [eo] at k1 k2
            rw [← hbl] at hB
            have hb := hP.1.ins
            rw [← e1, ← e4]
            refine c68 (F := Any) (fun _ _ => trivial) Rc x6 o6 hB hi1 (by rw [hbl]; exact hb) hA W6 gb (fun hne h' x' => ⟨none, _, rfl, k1 hne h' x'⟩) (fun hz own' h' qv' q' W' S' H' f' g' => ⟨q', 0, rfl, k2 hz own' h' _ qv' q' W' rfl S' H' f' g'⟩)
          · refine vif_mk (fun g => by rw [h1'] at g; simp at g) (fun _ => ?_)
            have eo : othO inputs n bags vars = (0, sortR (inputs.getD n.A.toNat []), vars) := by unfold othO; rw [if_neg (by omega)]
            rw [eo] at k2
            obtain ⟨q9, c11, _, _⟩ := W6.cells
            have c2 : cellsAt h6 ⟨p, 2⟩ 1 = some [.sl q3] := by unfold cellsAt; simp [c11]
            refine ⟨q3, c2, ?_⟩
            rw [G.len]
            refine vif_mk (fun g => ?_) (fun g => ⟨q3, c2, ?_⟩)
            · have g := of_decide_eq_true g
              have e0 : inputs.getD n.A.toNat [] = [] := by rw [List.getD_eq_getElem?_getD, List.getElem?_eq_none (by omega)]; rfl
              rw [e0] at k2
              have es0 : sortR ([] : Bag) = [] := good_nil.self
              rw [es0] at k2
              exact k2 rfl own h6 _ qv none W6 rfl (.refl _ _) rfl (fun u hu => by cases hu) good_nil
            · have g := of_decide_eq_false g
              refine ((G.mono x5).mono x6).idx (i := n.A.toNat) (by omega) (by omega) fun pp s b hb hc Hb f => ⟨s, hc, ?_⟩
              have eb : inputs.getD n.A.toNat [] = b := by rw [List.getD_eq_getElem?_getD, hb]; rfl
              rw [eb] at k2
              have hbm := may b (List.mem_of_getElem? hb)
              have := (mayC0 hbm).2
              refine c40 Hb (by omega) (fun hn => absurd hbm hn) fun _ q' h' N => ⟨q', 0, rfl, ?_⟩
              exact k2 rfl own h' _ qv q' (W6.ext N.1) rfl (MStep.ext N.1) N.hasL (fun u hu => ⟨fun hb => by have := W6.live _ hb; have := N.2.2 u hu; omega, trivial⟩) (good_sort hbm))
        exact k51
      · subst rv7
        rw [ev] at h2
        refine h2 hz own' p qv' h7 W7 (x5.trans x7) (fun b hb => ?_) gb
        rcases S7.grow b hb with a | a
        · have := x5.len; omega
        · have := x5.len; omega
  · rw [e1 ok]
    have ev : evalE l out inputs = 170 := by unfold evalE; rw [if_neg ok]
    rw [ev] at h1
    exact vif_mk (fun _ => h1 (by decide) h5 x5) (fun g => by simp at g))

/-- copies -/
theorem c29 {F : Nat → Prop} {bags : List Bag} (G : InGG F h q bags) (hl : bags.length ≤ 1000000) (hbl : ∀ b ∈ bags, b.length ≤ 1000000) (hQ : ∀ q' h', Ext h h' → Made h.length h' q' bags → Q (.sl q') h') : AC Try.prog 29 [.sl q] h Q := ac29 (by
  unfold vc29
  rw [G.len]
  refine ⟨fun xs h6 => ∃ (q2 : Option SL) (i : Nat), xs = [.sl q2, .int .i64 i] ∧ i ≤ bags.length ∧ Ext h h6 ∧ Made h.length h6 q2 (bags.take i), fun xs _ => match xs with | [_, .int _ i] => (bags.length - i).toNat | _ => 0, ⟨none, 0, rfl, by omega, .refl _, by simpa using Made.nil⟩, ?_⟩
  rintro q2 n3 h6 ⟨q2', i, hx, hi, x6, M6⟩
  simp only [List.cons.injEq, AV.int.injEq, AV.sl.injEq, true_and, and_true] at hx
  obtain ⟨rfl, rfl⟩ := hx
  refine vif_mk (fun g => ?_) (fun g => ?_)
  · replace g := of_decide_eq_true g
    refine (G.mono x6).idx (i := i) (by omega) rfl fun p7 s b hb hc Hb f => ⟨s, hc, pnew_mk ?_⟩
    have hlb := hbl b (List.mem_of_getElem? hb)
    have x10 := Ext.app h6 [Blk.cells [] true]
    have N10 : New recE h6 (h6 ++ [Blk.cells [] true]) (some ⟨h6.length, 0, 0, 0, 0⟩) [] := New.mk1 (l := []) (n := 0) rfl rfl
    generalize h6 ++ [Blk.cells [] true] = h10 at *
    refine N10.append (E := recE) (Hb.mono x10) (by simp; omega) fun q11 h12 N12 => ?_
    refine Made.put M6 x6.len N12.1 (l := b) N12.hasL (fun u t hu ht => ?_) (by rw [List.length_take]; omega) fun q' h' M' K' l' => ?_
    · have := N12.2.2 u hu
      have := M6.live t ht
      omega
    · rw [wrapK_i64 ⟨by omega, by omega⟩]
      refine ⟨trivial, ⟨q', i + 1, by simp, by omega, fun b C hC => K' b C (lt_of_get hC) (N12.1 _ _ (x6 _ _ hC)), ?_⟩, by simp only; omega⟩
      rw [List.take_add_one, hb]
      exact M'
  · replace g := of_decide_eq_false g
    have e : bags.take i = bags := List.take_of_length_le (by omega)
    rw [e] at M6
    exact hQ q2 h6 x6 M6)
end
end Go.Proofs.Ytfafgnmlnhklaaa
