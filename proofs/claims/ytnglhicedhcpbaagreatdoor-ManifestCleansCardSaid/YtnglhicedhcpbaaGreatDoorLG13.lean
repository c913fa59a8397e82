import Derived.RangeFuncBox
import Derived.RangeFuncLeaves
import Derived.Shelf.Abstract
import Derived.WalkKit
import Derived.OwnWalkIn
import Derived.TacticsInMore
import Derived.LoopNIn
import Derived.LoopIn
import Derived.BigRegionIn
import Derived.Test.YtnglhicedhcpbaaGreatDoorProg
namespace Go.Proofs
open Go.RowKit Go.Shelf
section
attribute [local go_sem] Oper.semAt_some
namespace Chk
def upto {α : Type} (f : Nat -> α) (k : Nat) : List α := (List.range k).map f
theorem zM3 {α : Type} (f : Nat -> α) (k : Nat) : upto f (k + 1) = upto f k ++ [f k] := by simp [upto, List.range_succ]
theorem zD8 {α : Type} (f : Nat -> α) (k : Nat) : (upto f k).length = k := by simp [upto]
def part (len c : Nat) (k : Nat) : Nat × Nat := (k * c, min c (len - k * c))
theorem ival {k c : Nat} : Value.int IntKind.i64 ((k : Int) * (c : Int) + (c : Int)) = Value.int IntKind.i64 (((k + 1) * c : Nat) : Int) := by
  rw [Nat.succ_mul]; simp
theorem imeas {k c len : Nat} (hlt : k * c < len) (hc1 : 1 <= c) : len - (intOf (Value.int IntKind.i64 ((k : Int) * (c : Int) + (c : Int)))).toNat < len - (intOf (Value.int IntKind.i64 ((k * c : Nat) : Int))).toNat := by
  have hcast : ((k * c : Nat) : Int) = (k : Int) * (c : Int) := by simp
  simp only [intOf]; omega
set_option maxRecDepth 100000 in
set_option maxHeartbeats 8000000 in
theorem zO7 (F : Fence) (n : Nat) (h7 : F.fn 280) (hro : F.round = none) (hn : 1 <= n) (l Bs Os Bn On n₀ b off len cap c : Nat) (hc1 : 1 <= c) (hcm : c <= 1000000) (hlc : len <= cap) (hreach : len <= 1000000000) (hb : Bs < n₀) (hbn : Bn < n₀) (J Jx : List (Nat × Nat) -> World -> Prop) (W : World) (hJ : AbidesFrom W.heap.size J)
    (hY : ∀ pre x W, J pre W -> pre.length < len -> YieldAt F (n - 1) Tryz.prog l #[.slice (some ⟨b, off + x.1, none⟩) x.2 x.2] W fun e W' =>
      (e = .returned (.bool true) /\ J (pre ++ [x]) W' /\ Below n₀ W W') ∨ (e = .returned (.bool false) /\ Jx (pre ++ [x]) W'))
    (hBs : W.cell? ⟨Bs, Os, none⟩ = some (.slice (some ⟨b, off, none⟩) len cap)) (hBn : W.cell? ⟨Bn, On, none⟩ = some (.int .i64 c)) (h0 : J [] W) :
    CallsIn F n Tryz.prog 280 #[.func (.yield l) #[] #[], .pointer (some ⟨Bs, Os, none⟩), .pointer (some ⟨Bn, On, none⟩)] W fun e W' => (∃ v, e = .returned v) /\
      ((∃ k, len <= k * c /\ (k = 0 ∨ (k - 1) * c < len) /\ J (upto (part len c) k) W') ∨ (∃ pre, Jx pre W')) := by
  refine callsIn_of_wp Tryz.func280 rfl h7 ?_ hro
  simp only [Tryz.ntmps280, List.size_toArray, List.length_cons, List.length_nil, Nat.reduceAdd, Nat.reduceSub, Array.replicate_succ, Array.replicate_zero, List.push_toArray, List.append_toArray, List.nil_append, List.cons_append]
  gi_wp2
  gi_loopw [4] (fun i wr => ∃ k : Nat, (k = 0 ∨ (k - 1) * c < len) /\ i = .int .i64 ((k * c : Nat) : Int) /\ J (upto (part len c) k) wr /\ Below n₀ W wr)
    (fun i _ => len - (intOf i).toNat)
  case atStart => exact ⟨0, .inl rfl, by simp, h0, Below.refl _ _⟩
  case round =>
    obtain ⟨k, hk, rfl, hJs, hnx⟩ := hrel
    have hs := (hnx.cell (p := ⟨Bs, Os, none⟩) hb).trans hBs
    have hnn := (hnx.cell (p := ⟨Bn, On, none⟩) hbn).trans hBn
    by_cases hlt : k * c < len
    · have hkk : k <= k * c := Nat.le_mul_of_pos_right k hc1
      have hJd : J (upto (part len c) k) wr.drew := hJ _ _ _ none hJs ⟨rfl, rfl, rfl, Nat.le_refl _, fun _ _ _ => rfl⟩ (fun r e => by cases e)
      have hYd : ∀ A, A = min c (len - k * c) -> ∃ fn tmps assign body, (Instr.yield l #[.slice (some ⟨b, off + k * c, none⟩) A A]).run Tryz.prog wr.drew = .ok (.round l fn tmps assign body) wr.drew /\
          RoundIn F (n - 1) Tryz.prog l fn tmps assign body wr.drew fun e W' => (e = .returned (.bool true) /\ J (upto (part len c) (k + 1)) W' /\ Below n₀ wr.drew W') ∨ (e = .returned (.bool false) /\ ∃ pre, Jx pre W') := by
        rintro A rfl
        obtain ⟨fn, tmps, assign, body, hy, hR⟩ := hY _ (part len c k) wr.drew hJd (by rw [zD8]; omega)
        refine ⟨fn, tmps, assign, body, hy, hR.mono ?_⟩
        rintro e W' (⟨h1, h2, h3⟩ | ⟨h1, h2⟩)
        · exact .inl ⟨h1, by rw [zM3]; exact h2, h3⟩
        · exact .inr ⟨h1, _, h2⟩
      have hcast : ((k * c : Nat) : Int) = (k : Int) * (c : Int) := by simp
      by_cases hcl : c <= len - k * c
      · obtain ⟨fn, tmps, assign, body, hy, hR⟩ := hYd c (by omega)
        gi_wp2
        gi_region
        all_goals (try (exfalso; omega))
        all_goals gi_wp2
        all_goals refine hR.mono ?_
        all_goals rintro e W3 (⟨rfl, hJ3, hk3⟩ | ⟨rfl, hJx3⟩)
        all_goals first
          | (gi_wp2
             refine bodyPost_ret (results_none rfl _ _ _) rfl ?_
             exact ⟨⟨_, rfl⟩, .inr hJx3⟩)
          | skip
        all_goals have hB3 := (((Below.refl n₀ W).trans hnx).drew).trans hk3
        all_goals have hnn3 := hB3.cell (p := ⟨Bn, On, none⟩) hbn
        all_goals rw [hBn] at hnn3
        all_goals gi_wp2
        all_goals exact ⟨⟨k + 1, .inr (by rw [Nat.add_sub_cancel]; exact hlt), ival, hJ3, hB3⟩, imeas hlt hc1⟩
      · obtain ⟨fn, tmps, assign, body, hy, hR⟩ := hYd (len - k * c) (by omega)
        gi_wp2
        gi_region
        all_goals (try (exfalso; omega))
        all_goals gi_wp2
        all_goals refine hR.mono ?_
        all_goals rintro e W3 (⟨rfl, hJ3, hk3⟩ | ⟨rfl, hJx3⟩)
        all_goals first
          | (gi_wp2
             refine bodyPost_ret (results_none rfl _ _ _) rfl ?_
             exact ⟨⟨_, rfl⟩, .inr hJx3⟩)
          | skip
        all_goals have hB3 := (((Below.refl n₀ W).trans hnx).drew).trans hk3
        all_goals have hnn3 := hB3.cell (p := ⟨Bn, On, none⟩) hbn
        all_goals rw [hBn] at hnn3
        all_goals gi_wp2
        all_goals exact ⟨⟨k + 1, .inr (by rw [Nat.add_sub_cancel]; exact hlt), ival, hJ3, hB3⟩, imeas hlt hc1⟩
    · gi_wp2
      go_end0
      exact ⟨⟨_, rfl⟩, .inl ⟨k, by omega, hk, hJs⟩⟩
end Chk
end
end Go.Proofs
