import Derived.Test.YtnglhicedhcpbaaGreatDoorKG18
import Derived.Test.YtnglhicedhcpbaaGreatDoorKG32
import Derived.Test.YtnglhicedhcpbaaGreatDoorKG33
namespace Go.Proofs.YtnglhicedhcpbaaGreatDoor
open Go.Ab
open Go.ChangeShapes Go.WideShapes Go.ChangeAt Go.RowKit
set_option linter.unusedVariables false
set_option linter.unusedSimpArgs false
section
variable {H : Type} {enc : TypeId × Value → H} {W : World}
set_option maxRecDepth 100000 in
theorem ref_in (n : Nat) (cs' : List Value) (y : DataW H × List MemPlace) (h : DataW.trod enc Tryz.prog W 0 (fun _ => true) true n 195 cs' = some y) (hl : cs'.length = refE.sz) : ∃ a, ∀ μ, relL μ (refE.f a) cs' := by
  obtain ⟨y0, y1, y2, n', _, _, h0, h1, h2⟩ := Deep.trod_struct3 Tryz.underlying195 h
  match cs', hl with
  | [c0, c1, c2], _ =>
    have h0 : DataW.trod enc Tryz.prog W 0 (fun _ => true) true n' 9 [c0] = some y0 := h0
    have h1 : DataW.trod enc Tryz.prog W 0 (fun _ => true) true n' 3 [c1] = some y1 := h1
    have h2 : DataW.trod enc Tryz.prog W 0 (fun _ => true) true n' 3 [c2] = some y2 := h2
    obtain ⟨s, e0, _, _⟩ := DataW.trod_string Tryz.underlying9 h0
    obtain ⟨a, e1, _, _⟩ := DataW.trod_int Tryz.underlying3 h1
    obtain ⟨b, e2, _, _⟩ := DataW.trod_int Tryz.underlying3 h2
    simp at e0 e1 e2
    subst e0 e1 e2
    exact ⟨(s.data.toList, a, b), fun μ => ⟨_, _, rfl, by simp [AV.rel], _, _, rfl, rfl, _, _, rfl, rfl, rfl⟩⟩
set_option maxRecDepth 100000 in
theorem edit_cells {n : Nat} {cs' : List Value} {y : DataW H × List MemPlace} (h : DataW.trod enc Tryz.prog W 0 (fun _ => true) true n 58 cs' = some y) (hl : cs'.length = 4) {μ : Ren} {hp : Heap} (HH : HRel μ hp W) (ro : ReadOnly hp) {b0 : Nat} {c0 : List AV} {rw0 : Bool} (hb0 : hp[b0]? = some (.cells c0 rw0)) :
    ∃ (l1 : Ren) (bs : Heap) (e : EV) (d : ED), HRel (μ ++ l1) (hp ++ bs) W ∧ ReadOnly (hp ++ bs) ∧ relL (μ ++ l1) (edE.f e) cs' ∧ EdR (hp ++ bs) e d := by
  obtain ⟨y0, y1, y2, n', _, _, h0, h1, h2⟩ := Deep.trod_struct3 Tryz.underlying58 h
  match cs', hl with
  | [x0, x1, x2, x3], _ =>
    have h0 : DataW.trod enc Tryz.prog W 0 (fun _ => true) true n' 3 [x0] = some y0 := h0
    have h1 : DataW.trod enc Tryz.prog W 0 (fun _ => true) true n' 23 [x1, x2] = some y1 := h1
    have h2 : DataW.trod enc Tryz.prog W 0 (fun _ => true) true n' 56 [x3] = some y2 := h2
    obtain ⟨z0, z1, n2, _, _, g0, g1⟩ := trod_struct2 Tryz.underlying23 h1
    have g0 : DataW.trod enc Tryz.prog W 0 (fun _ => true) true n2 3 [x1] = some z0 := g0
    have g1 : DataW.trod enc Tryz.prog W 0 (fun _ => true) true n2 3 [x2] = some z1 := g1
    obtain ⟨a, e0, _, _⟩ := DataW.trod_int Tryz.underlying3 h0
    obtain ⟨b, e1, _, _⟩ := DataW.trod_int Tryz.underlying3 g0
    obtain ⟨c, e2, _, _⟩ := DataW.trod_int Tryz.underlying3 g1
    simp at e0 e1 e2
    subst e0 e1 e2
    obtain ⟨l1, bs, q, l, k1, k2, k3, k4⟩ := slice_in0 refE Tryz.underlying56 (by kernel_rfl) ref_in h2 HH ro hb0
    exact ⟨l1, bs, (a, b, c, q), (a, b, c, l), k1, k2, ⟨_, _, rfl, rfl, _, _, rfl, rfl, _, _, rfl, rfl, _, _, rfl, k3, rfl⟩, rfl, rfl, rfl, k4⟩
set_option maxRecDepth 100000 in
theorem edits_in {v : Value} {d : DataW H} {p : List MemPlace} {fuel : Nat} (hf : DataW.trod enc Tryz.prog W 0 (fun _ => true) true fuel 45 [v] = some (d, p)) {μ : Ren} {hp : Heap} (HH : HRel μ hp W) (ro : ReadOnly hp) {b0 : Nat} {c0 : List AV} {rw0 : Bool} (hb0 : hp[b0]? = some (.cells c0 rw0)) :
    ∃ (l1 : Ren) (bs : Heap) (q : Option SL) (l : List ED), HRel (μ ++ l1) (hp ++ bs) W ∧ ReadOnly (hp ++ bs) ∧ AV.rel (μ ++ l1) (.sl q) v ∧ InL (hp ++ bs) q l := by
  obtain ⟨l1, bs, q, L, l, k1, k2, k3, k4, k5, k6⟩ := nested_in0 edE EdR (fun x R => R.ext x) Tryz.underlying45 (by kernel_rfl) (fun n cs' y _ hy hl μ hp HH ro b0 c0 rw0 hb => by
    obtain ⟨l1, bs, e, d, j1, j2, j3, j4⟩ := edit_cells hy hl HH ro hb
    exact ⟨l1, bs, e, d, j1, j2, j3, j4⟩) hf HH ro hb0
  exact ⟨l1, bs, q, l, k1, k2, k3, L, k4, k5, k6⟩
instance intW_inh : Inhabited {n : Int // n ≤ 9223372036854775807} := ⟨⟨0, by omega⟩⟩
end
end Go.Proofs.YtnglhicedhcpbaaGreatDoor
