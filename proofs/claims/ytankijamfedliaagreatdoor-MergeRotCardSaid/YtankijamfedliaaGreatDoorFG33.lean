import Derived.Test.YtankijamfedliaaGreatDoorFG14
import Derived.Test.YtankijamfedliaaGreatDoorFG28
import Derived.Test.YtankijamfedliaaGreatDoorFG32
namespace Go.Proofs.YtankijamfedliaaGreatDoor
open Go.Ab hiding Bs
open Go.Ent
open Go.ChangeShapes Go.WideShapes Go.ChangeAt Go.RowKit
set_option linter.unusedVariables false
set_option linter.unusedSimpArgs false
section
variable {H : Type} {enc : TypeId × Value → H} {W : World}
set_option maxRecDepth 100000 in
theorem lists_in {v : Value} {fuel : Nat} {x : DataW H × List MemPlace} (hf : DataW.trod enc Tryz.prog W 0 (fun _ => true) true fuel 57 [v] = some x) {μ0 : Ren} {hp0 : Heap} (HH : HRel μ0 hp0 W) (ro : ReadOnly hp0) {b0 : Nat} {c0 : List AV} {rw0 : Bool} (hb0 : hp0[b0]? = some (.cells c0 rw0)) :
  ∃ (l1 : Ren) (bs : Heap) (q : Option SL) (ls : List (List Ent)), HRel (μ0 ++ l1) (hp0 ++ bs) W ∧ ReadOnly (hp0 ++ bs) ∧ AV.rel (μ0 ++ l1) (.sl q) v ∧ Mer.InLL (hp0 ++ bs) q ls := by
 obtain ⟨l1, bs, q, L, l, k1, k2, k3, k4, k5, k6⟩ := nested_in0 slE (fun h q l => HasL entE h q l) (fun x Hl => Hl.mono x) Tryz.underlying57 (by kernel_rfl) (fun n cs' y _ hy hl μ hp HH ro b0 c0 rw0 hb => by
  match cs', hl with
  | [c], _ =>
   obtain ⟨l1, bs, q, l, k1, k2, k3, k4⟩ := slice_in0 entE Tryz.underlying22 (by kernel_rfl) ent_in hy HH ro hb
   exact ⟨l1, bs, q, l, k1, k2, ⟨_, _, rfl, k3, rfl⟩, k4⟩) hf HH ro hb0
 exact ⟨l1, bs, q, l, k1, k2, k3, L, k4, k5, k6⟩
end
end Go.Proofs.YtankijamfedliaaGreatDoor
