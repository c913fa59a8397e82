import Derived.Test.YtnglhicedhcpbaaGreatDoorLG19
import Derived.Test.YtnglhicedhcpbaaGreatDoorLG37
import Derived.Test.YtnglhicedhcpbaaGreatDoorLG38
namespace Go.Proofs.YtnglhicedhcpbaaGreatDoor
open Go.Ab
open Go.ChangeShapes Go.WideShapes Go.ChangeAt Go.RowKit
set_option linter.unusedVariables false
set_option linter.unusedSimpArgs false
section
variable {H : Type} {enc : TypeId × Value -> H} {W : World}
set_option maxRecDepth 100000 in
theorem ref_in (n : Nat) (cs' : List Value) (y : DataW H × List MemPlace) (h : DataW.trod enc Tryz.prog W 0 (fun _ => true) true n 195 cs' = some y) (hl : cs'.length = refE.sz) : ∃ a, ∀ μ, relL μ (refE.f a) cs' := by
 obtain ⟨y0, y1, y2, n', _, _, h0, h1, h2⟩ := Deep.trod_struct3 Tryz.underlying195 h
 match cs', hl with
 | [c0, c1, c2], _ =>
  have h0 : DataW.trod enc Tryz.prog W 0 (fun _ => true) true n' 9 [c0] = some y0 := h0
  have h1 : DataW.trod enc Tryz.prog W 0 (fun _ => true) true n' 3 [c1] = some y1 := h1
  have h2 : DataW.trod enc Tryz.prog W 0 (fun _ => true) true n' 3 [c2] = some y2 := h2
  obtain ⟨s, e0, _, _⟩ := DataW.trod_string Tryz.underlying9 h0
  obtain ⟨a, e1, _, _⟩ := DataW.trod_int Tryz.underlying3 h1
  obtain ⟨b, e2, _, _⟩ := DataW.trod_int Tryz.underlying3 h2
  simp at e0 e1 e2
  subst e0 e1 e2
  exact ⟨(s.data.toList, a, b), fun μ => ⟨_, _, rfl, by simp [AV.rel], _, _, rfl, rfl, _, _, rfl, rfl, rfl⟩⟩
set_option maxRecDepth 100000 in
theorem zL2 {n : Nat} {cs' : List Value} {y : DataW H × List MemPlace} (h : DataW.trod enc Tryz.prog W 0 (fun _ => true) true n 58 cs' = some y) (hl : cs'.length = 4) {μ : Ren} {hp : Heap} (HH : HRel μ hp W) (ro : xB hp) {b0 : Nat} {c0 : List AV} {rw0 : Bool} (hb0 : hp[b0]? = some (.cells c0 rw0)) :
  ∃ (l1 : Ren) (bs : Heap) (e : EV) (d : ED), HRel (μ ++ l1) (hp ++ bs) W /\ xB (hp ++ bs) /\ relL (μ ++ l1) (edE.f e) cs' /\ EdR (hp ++ bs) e d := by
 obtain ⟨y0, y1, y2, n', _, _, h0, h1, h2⟩ := Deep.trod_struct3 Tryz.underlying58 h
 match cs', hl with
 | [x0, x1, x2, x3], _ =>
  have h0 : DataW.trod enc Tryz.prog W 0 (fun _ => true) true n' 3 [x0] = some y0 := h0
  have h1 : DataW.trod enc Tryz.prog W 0 (fun _ => true) true n' 23 [x1, x2] = some y1 := h1
  have h2 : DataW.trod enc Tryz.prog W 0 (fun _ => true) true n' 56 [x3] = some y2 := h2
  obtain ⟨z0, z1, n2, _, _, g0, g1⟩ := trod_struct2 Tryz.underlying23 h1
  have g0 : DataW.trod enc Tryz.prog W 0 (fun _ => true) true n2 3 [x1] = some z0 := g0
  have g1 : DataW.trod enc Tryz.prog W 0 (fun _ => true) true n2 3 [x2] = some z1 := g1
  obtain ⟨a, e0, _, _⟩ := DataW.trod_int Tryz.underlying3 h0
  obtain ⟨b, e1, _, _⟩ := DataW.trod_int Tryz.underlying3 g0
  obtain ⟨c, e2, _, _⟩ := DataW.trod_int Tryz.underlying3 g1
  simp at e0 e1 e2
  subst e0 e1 e2
  obtain ⟨l1, bs, q, l, k1, k2, k3, k4⟩ := zHC refE Tryz.underlying56 (by kernel_rfl) ref_in h2 HH ro hb0
  exact ⟨l1, bs, (a, b, c, q), (a, b, c, l), k1, k2, ⟨_, _, rfl, rfl, _, _, rfl, rfl, _, _, rfl, rfl, _, _, rfl, k3, rfl⟩, rfl, rfl, rfl, k4⟩
def intW : Enc {n : Int // n <= 9223372036854775807} := ⟨1, fun n => [.int .i64 n.1], fun _ => rfl, by omega, fun _ => rfl⟩
instance intW_inh : Inhabited {n : Int // n <= 9223372036854775807} := ⟨⟨0, by omega⟩⟩
set_option maxRecDepth 100000 in
theorem intW_in (n : Nat) (cs' : List Value) (y : DataW H × List MemPlace) (h : DataW.trod enc Tryz.prog W 0 (fun _ => true) true n 3 cs' = some y) (hl : cs'.length = intW.sz) : ∃ a, ∀ μ, relL μ (intW.f a) cs' := by
 obtain ⟨a, e0, _, hw⟩ := DataW.trod_int Tryz.underlying3 h
 subst e0
 have hb : a <= 9223372036854775807 := by
  simp only [Lit.wf, Bool.and_eq_true, decide_eq_true_eq] at hw
  have hm : IntKind.max .i64 = 9223372036854775807 := by decide
  rw [hm] at hw
  exact hw.2
 exact ⟨⟨a, hb⟩, fun μ => ⟨_, _, rfl, rfl, rfl⟩⟩
end
section
variable {H : Type} {enc : TypeId × Value -> H} {W : World}
theorem zG6 {P : Program} {t : TypeId} {f0 f1 f2 f3 f4 : Field} {fuel : Nat} {cs : List Value} {x : DataW H × List MemPlace} (ht : P.underlying t = some (.struct #[f0, f1, f2, f3, f4])) (h : DataW.trod enc P W 0 (fun _ => true) true fuel t cs = some x) :
  ∃ y0 y1 y2 y3 y4 n, DataW.trod enc P W 0 (fun _ => true) true n f0.type ((cs.drop f0.offset).take (P.cellsOf f0.type)) = some y0 /\
   DataW.trod enc P W 0 (fun _ => true) true n f1.type ((cs.drop f1.offset).take (P.cellsOf f1.type)) = some y1 /\ DataW.trod enc P W 0 (fun _ => true) true n f2.type ((cs.drop f2.offset).take (P.cellsOf f2.type)) = some y2 /\
   DataW.trod enc P W 0 (fun _ => true) true n f3.type ((cs.drop f3.offset).take (P.cellsOf f3.type)) = some y3 /\ DataW.trod enc P W 0 (fun _ => true) true n f4.type ((cs.drop f4.offset).take (P.cellsOf f4.type)) = some y4 := by
 obtain ⟨xs, n, _, rfl, hl, hlen, hf⟩ := DataW.trod_struct ht h
 match xs, hlen with
 | [y0, y1, y2, y3, y4], _ => exact ⟨y0, y1, y2, y3, y4, n, by simpa using hf 0 f0 rfl, by simpa using hf 1 f1 rfl, by simpa using hf 2 f2 rfl, by simpa using hf 3 f3 rfl, by simpa using hf 4 f4 rfl⟩
def OpR (h : Heap) (x : OV) (d : OD) : Prop := x.1 = d.1 /\ EdR h x.2.1 d.2.1 /\ x.2.2.2.2 = d.2.2
theorem OpR.ext {h h' : Heap} {x : OV} {d : OD} (K : Ext h h') (R : OpR h x d) : OpR h' x d := ⟨R.1, R.2.1.ext K, R.2.2⟩
instance : Inhabited OV := ⟨(0, (0, 0, 0, none), 0, none, [])⟩
instance : Inhabited OD := ⟨(0, (0, 0, 0, []), [])⟩
set_option maxRecDepth 100000 in
theorem zQD {n : Nat} {cs' : List Value} {y : DataW H × List MemPlace} (h : DataW.trod enc Tryz.prog W 0 (fun _ => true) true n 69 cs' = some y) (hl : cs'.length = 8) {μ : Ren} {hp : Heap} (HH : HRel μ hp W) (ro : xB hp) {b0 : Nat} {c0 : List AV} {rw0 : Bool} (hb0 : hp[b0]? = some (.cells c0 rw0)) :
  ∃ (l1 : Ren) (bs : Heap) (e : OV) (d : OD), HRel (μ ++ l1) (hp ++ bs) W /\ xB (hp ++ bs) /\ relL (μ ++ l1) (opE.f e) cs' /\ OpR (hp ++ bs) e d := by
 obtain ⟨y0, y1, y2, y3, y4, n', h0, h1, h2, h3, h4⟩ := zG6 Tryz.underlying69 h
 match cs', hl with
 | [x0, x1, x2, x3, x4, x5, x6, x7], _ =>
  have h0 : DataW.trod enc Tryz.prog W 0 (fun _ => true) true n' 3 [x0] = some y0 := h0
  have h1 : DataW.trod enc Tryz.prog W 0 (fun _ => true) true n' 58 [x1, x2, x3, x4] = some y1 := h1
  have h2 : DataW.trod enc Tryz.prog W 0 (fun _ => true) true n' 3 [x5] = some y2 := h2
  have h3 : DataW.trod enc Tryz.prog W 0 (fun _ => true) true n' 46 [x6] = some y3 := h3
  have h4 : DataW.trod enc Tryz.prog W 0 (fun _ => true) true n' 9 [x7] = some y4 := h4
  obtain ⟨k, e0, _, _⟩ := DataW.trod_int Tryz.underlying3 h0
  obtain ⟨m, e2, _, _⟩ := DataW.trod_int Tryz.underlying3 h2
  obtain ⟨s, e4, _, _⟩ := DataW.trod_string Tryz.underlying9 h4
  simp at e0 e2 e4
  subst e0 e2 e4
  obtain ⟨l1, bs1, e, d, k1, k2, k3, k4⟩ := zL2 h1 rfl HH ro hb0
  have hb1 : (hp ++ bs1)[b0]? = some (.cells c0 rw0) := by rw [List.getElem?_append_left (zD hb0)]; exact hb0
  obtain ⟨l2, bs2, q8, L8, j1, j2, j3, j4⟩ := zHC intW Tryz.underlying46 (by kernel_rfl) intW_in h3 k1 k2 hb1
  rw [List.append_assoc, List.append_assoc] at j1
  rw [List.append_assoc] at j2 j3 j4
  have k3' : relL (μ ++ (l1 ++ l2)) (edE.f e) [x1, x2, x3, x4] := by
   rw [<- List.append_assoc]
   exact relL.mono (Ren.le_append _ l2) _ _ k3
  obtain ⟨_, _, g1, r1, _, _, g2, r2, _, _, g3, r3, _, _, g4, r4, g5⟩ := k3'
  simp only [List.cons.injEq] at g1 g2 g3 g4
  obtain ⟨rfl, rfl⟩ := g1
  obtain ⟨rfl, rfl⟩ := g2
  obtain ⟨rfl, rfl⟩ := g3
  obtain ⟨rfl, _⟩ := g4
  refine ⟨l1 ++ l2, bs1 ++ bs2, (k, e, m, q8, s.data.toList), (k, d, s.data.toList), j1, j2, ⟨_, _, rfl, rfl, _, _, rfl, r1, _, _, rfl, r2, _, _, rfl, r3, _, _, rfl, r4, _, _, rfl, rfl, _, _, rfl, j3, _, _, rfl, by simp [AV.rel], rfl⟩, rfl, ?_, rfl⟩
  rw [<- List.append_assoc]
  exact k4.ext (.app _ _)
set_option maxRecDepth 100000 in
theorem ops_in {v : Value} {d : DataW H} {p : List MemPlace} {fuel : Nat} (hf : DataW.trod enc Tryz.prog W 0 (fun _ => true) true fuel 64 [v] = some (d, p)) {μ : Ren} {hp : Heap} (HH : HRel μ hp W) (ro : xB hp) {b0 : Nat} {c0 : List AV} {rw0 : Bool} (hb0 : hp[b0]? = some (.cells c0 rw0)) :
  ∃ (l1 : Ren) (bs : Heap) (q : OSl) (l : List OD), HRel (μ ++ l1) (hp ++ bs) W /\ xB (hp ++ bs) /\ AV.rel (μ ++ l1) (.sl q) v /\ OpL (hp ++ bs) q l := by
 obtain ⟨l1, bs, q, L, l, k1, k2, k3, k4, k5, k6⟩ := zLR opE OpR (fun x R => R.ext x) Tryz.underlying64 (by kernel_rfl) (fun n cs' y _ hy hl μ hp HH ro b0 c0 rw0 hb => by
  obtain ⟨l1, bs, e, d, j1, j2, j3, j4⟩ := zQD hy hl HH ro hb
  exact ⟨l1, bs, e, d, j1, j2, j3, j4⟩) hf HH ro hb0
 exact ⟨l1, bs, q, l, k1, k2, k3, L, k4, k5, fun j x d h1 h2 => k6 j x d h1 h2⟩
end
end Go.Proofs.YtnglhicedhcpbaaGreatDoor
