import Derived.Test.YtafmabnolelknaaGreatDoorEG11
import Derived.Test.YtafmabnolelknaaGreatDoorEG35
import Derived.Test.YtafmabnolelknaaGreatDoorEG38
import Derived.KernelRfl
namespace Go.Proofs.YtafmabnolelknaaGreatDoor
open Go.Ab
open Go.Num hiding Bs snoc_ind
open Go.Ent Go.Sto
open Go.Page hiding Bs get
open Go.Dsk hiding Bs
open Go.Pool hiding Bs Ents set_at Fr least
open Go.Cur
set_option linter.unusedVariables false
set_option linter.unusedSimpArgs false
structure PD where
 sp : Nat
 sq : Option SL
 x : GF
 fq : Option SL
 fs : List (List Mom)
end Go.Proofs.YtafmabnolelknaaGreatDoor

namespace Go.Proofs.YtafmabnolelknaaGreatDoor
open Go.Ab
open Go.Sto
set_option linter.unusedVariables false
set_option linter.unusedSimpArgs false
section
def twos : List UInt8 := (List.range 100).flatMap fun k => [UInt8.ofNat (48 + k / 10), UInt8.ofNat (48 + k % 10)]
def ones : List UInt8 := [48, 49, 50, 51, 52, 53, 54, 55, 56, 57, 97, 98, 99, 100, 101, 102, 103, 104, 105, 106, 107, 108, 109, 110, 111, 112, 113, 114, 115, 116, 117, 118, 119, 120, 121, 122]
theorem ones_at : ∀ k : Fin 10, (ones.take (k.val + 1)).drop k.val = decB 20 k.val := by decide
set_option maxRecDepth 100000 in
theorem twos_at : ∀ k : Fin 100, k.val < 10 ∨ (twos.take (k.val * 2 + 2)).drop (k.val * 2) = decB 20 k.val := by decide
theorem ones_len : ones.length = 36 := rfl
set_option maxRecDepth 100000 in
theorem twos_len : twos.length = 200 := by decide
section
variable {h : Heap} {Q : AV → Heap → Prop} {k : Nat} {n : Int}
set_option maxRecDepth 100000 in
theorem vc326_eq : vc326 n h Q = vif (decide (n < 10)) (strSlice ones n (some (wrapK .i64 (n + 1))) fun s2 => Q (.str s2) h) (strSlice twos (wrapK .i64 (n * 2)) (some (wrapK .i64 (wrapK .i64 (n * 2) + 2))) fun s3 => Q (.str s3) h) := by kernel_rfl
attribute [local irreducible] twos ones
set_option maxRecDepth 20000 in
theorem gk326 (hk : k < 100) (hQ : Q (.str (decB 20 k)) h) : AC Tryz.prog 326 [.int .i64 (k : Nat)] h Q := ac326 (by
 rw [vc326_eq]
 refine vif_mk (fun g => ?_) (fun g => ?_)
 ·replace g := of_decide_eq_true g
  rw [wrapK_i64 ⟨by omega, by omega⟩]
  have e := ones_at ⟨k, by omega⟩
  have l := ones_len
  refine ⟨by omega, by simp only [Option.getD_some]; omega, by simp only [Option.getD_some, l]; omega, ?_⟩
  rw [Option.getD_some, show ((k : Int) + 1).toNat = k + 1 by omega, Int.toNat_natCast]
  simp only at e
  rw [e]; exact hQ
 ·replace g := of_decide_eq_false g
  rw [wrapK_i64 (n := (k : Int) * 2) ⟨by omega, by omega⟩, wrapK_i64 ⟨by omega, by omega⟩]
  have e := (twos_at ⟨k, hk⟩).resolve_left (by simp only; omega)
  have l := twos_len
  refine ⟨by omega, by simp only [Option.getD_some]; omega, by simp only [Option.getD_some, l]; omega, ?_⟩
  rw [Option.getD_some, show ((k : Int) * 2 + 2).toNat = k * 2 + 2 by omega, show ((k : Int) * 2).toNat = k * 2 by omega]
  simp only at e
  rw [e]; exact hQ)
theorem gk119 (hk : k < 100) (hQ : Q (.str (decB 20 k)) h) : AC Tryz.prog 119 [.int .i64 (k : Nat)] h Q := ac119 (by
 unfold vc119
 refine ac187 ?_
 unfold vc187
 refine ac260 ?_
 unfold vc260
 refine vif_mk (fun _ => ?_) (fun g => by simp at g)
 refine vif_mk (fun _ => ?_) (fun g => by replace g := of_decide_eq_false g; omega)
 refine vif_mk (fun _ => ?_) (fun g => by replace g := of_decide_eq_false g; omega)
 exact gk326 hk ⟨_, rfl, _, rfl, _, rfl, hQ⟩)
end
end
end Go.Proofs.YtafmabnolelknaaGreatDoor
