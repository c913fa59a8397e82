/- slices.SortFunc of records by their order, by the shelf's contract. -/
import Derived.Shelf.SlSortCmp.NoneTotal
import Derived.Shelf.SlicesG.Cmp
import Derived.Shelf.Lay
import Derived.StillTailTactics
import Derived.Ground.SlsfProg
import Derived.Ground.SlgcProg
import Derived.Test.YtfafgnmlnhklaaaProg
import Derived.KernelRfl
namespace Go.Proofs
open Go.Shelf Go.RowKit Go.Lib Go.Sort

shelf_lay_g SlLaysF0.n6 Slsf 6 at Try 84 as Try.sort84
shelf_lay_g SlLaysC2.n5 Slgc 5 at Try 110 as Try.cmp110

/-- A record's two cells. -/
def encR (x : Int × Int) : List Value := [.int .i64 x.1, .int .i64 x.2]
def orI (a b : Int) : Int := if a = 0 then b else a
def cmpR (x y : Int × Int) : Int := orI (Lib.compareInt x.1 y.1) (Lib.compareInt x.2 y.2)

set_option maxHeartbeats 1000000 in
set_option maxRecDepth 100000 in
/-- The first of two that is not zero. -/
theorem Try.or109 (blk : Nat) (a b : Int) (W : World) (h0 : W.cell? ⟨blk, 0, none⟩ = some (.int .i64 a)) (h1 : W.cell? ⟨blk, 1, none⟩ = some (.int .i64 b)) :
    Calls Try.prog 109 #[.slice (some ⟨blk, 0, none⟩) 2 2] W fun e w' => e = .returned (.int .i64 (orI a b)) ∧ w' = W := by
  by_cases ha : a = 0
  · subst ha
    by_cases hb : b = 0
    · subst hb
      go_enter Try.func109, Try.ntmps109
      go_wp2
      refine wp_loop_rounds 3 ?_
      rw [rounds_succ]
      go_wp2
      rw [rounds_succ]
      go_wp2
      rw [rounds_succ]
      go_wp2
      go_ret
      exact ⟨rfl, rfl⟩
    · go_enter Try.func109, Try.ntmps109
      go_wp2
      refine wp_loop_rounds 3 ?_
      rw [rounds_succ]
      go_wp2
      rw [rounds_succ]
      go_wp2
      go_ret
      exact ⟨rfl, rfl⟩
  · go_enter Try.func109, Try.ntmps109
    go_wp2
    refine wp_loop_rounds 3 ?_
    rw [rounds_succ]
    go_wp2
    go_ret
    refine ⟨?_, rfl⟩
    unfold orI
    rw [if_neg ha]
    rfl

set_option maxHeartbeats 1000000 in
set_option maxRecDepth 100000 in
/-- rec.Compare: in whatever world: some blocks are laid. -/
theorem Try.compare85 (x y : Int × Int) (W : World) : Calls Try.prog 85 #[.agg #[.int .i64 x.1, .int .i64 x.2], .agg #[.int .i64 y.1, .int .i64 y.2]] W fun e w' => e = .returned (.int .i64 (cmpR x y)) ∧ ∃ q os', w' = grow (W.drewN q) os' := by
  have hc1 := fun W' => AnyG.cmp_Compare_int Try.cmp110 x.1 y.1 W'
  have hc2 := fun W' => AnyG.cmp_Compare_int Try.cmp110 x.2 y.2 W'
  change ∀ W', Calls Try.prog 110 _ _ _ at hc1
  change ∀ W', Calls Try.prog 110 _ _ _ at hc2
  have hor := fun blk W' h0 h1 => Try.or109 blk (Lib.compareInt x.1 y.1) (Lib.compareInt x.2 y.2) W' h0 h1
  unfold cmpR
  generalize Lib.compareInt x.1 y.1 = r1 at hc1 hor ⊢
  generalize Lib.compareInt x.2 y.2 = r2 at hc2 hor ⊢
  go_enter Try.func85, Try.ntmps85
  go_wp2
  obtain ⟨W2, hW2⟩ : ∃ W2, W2 = (W.alloc (.cells #[.int .i64 x.1, .int .i64 x.2] 26)).alloc (.cells #[.int .i64 y.1, .int .i64 y.2] 26) := ⟨_, rfl⟩
  rw [← hW2]
  obtain ⟨W3, hW3⟩ : ∃ W3, W3 = W2.drew := ⟨_, rfl⟩
  have hW3' := hW3
  have hp : W3.heap = (W.heap.push (.cells #[.int .i64 x.1, .int .i64 x.2] 26)).push (.cells #[.int .i64 y.1, .int .i64 y.2] 26) := by rw [hW3, hW2]; rfl
  have hb1 : W3.heap[W.heap.size]? = some (.cells #[.int .i64 x.1, .int .i64 x.2] 26) := by
    rw [hp, Array.getElem?_push, if_neg (by rw [Array.size_push]; omega), Array.getElem?_push, if_pos rfl]
  have hb2 : W3.heap[W.heap.size + 1]? = some (.cells #[.int .i64 y.1, .int .i64 y.2] 26) := by
    rw [hp, Array.getElem?_push, if_pos (by rw [Array.size_push])]
  have c1 : W3.cell? ⟨W.heap.size, 0, none⟩ = some (.int .i64 x.1) := by simp only [World.cell?, hb1]; rfl
  have c2 : W3.cell? ⟨W.heap.size, 1, none⟩ = some (.int .i64 x.2) := by simp only [World.cell?, hb1]; rfl
  have c3 : W3.cell? ⟨W.heap.size + 1, 0, none⟩ = some (.int .i64 y.1) := by simp only [World.cell?, hb2]; rfl
  have c4 : W3.cell? ⟨W.heap.size + 1, 1, none⟩ = some (.int .i64 y.2) := by simp only [World.cell?, hb2]; rfl
  have hW : grow (W.drewN 1) #[.cells #[.int .i64 x.1, .int .i64 x.2] 26, .cells #[.int .i64 y.1, .int .i64 y.2] 26] = W3 := by
    rw [hW3, hW2, alloc_eq_grow, alloc_eq_grow, grow_grow]; rfl
  clear hW2 hW3 hp hb1 hb2
  refine wp_region_still_tail 10 (by kernel_rfl) (by kernel_rfl) ?_
  simp only [List.take_succ_cons, List.take_zero, List.drop_succ_cons, List.drop_zero]
  change wpStill _ _ W2.drew (fun a' => wpList _ _ _ _ a' W2.drew) _ _
  rw [← hW3']
  clear hW3'
  still_step
  still_step
  still_step
  still_step
  still_call (hc1 _)
  still_step
  still_step
  still_step
  still_step
  still_call (hc2 _)
  refine wpStill_nil ?_
  go_wp2_with (go_at_call 109; refine (hor _ _ (by simp only [World.cell?, World.alloc, Array.getElem?_push, if_pos]; rfl) (by simp only [World.cell?, World.alloc, Array.getElem?_push, if_pos]; rfl)).mono ?_; rintro e w' ⟨rfl, rfl⟩)
  go_ret
  exact ⟨rfl, 1, _, by rw [← hW, alloc_eq_grow, grow_grow]⟩

theorem Try.ltR (x y : Int × Int) : ltOf cmpR x y = decide (x.1 < y.1 ∨ x.1 = y.1 ∧ x.2 < y.2) := by
  unfold ltOf cmpR orI Lib.compareInt
  by_cases h1 : x.1 < y.1
  · simp [h1]
  · by_cases h2 : y.1 < x.1
    · have : ¬ x.1 = y.1 := by omega
      simp [h1, h2, this]
    · have e : x.1 = y.1 := by omega
      by_cases h3 : x.2 < y.2
      · simp [e, h3]
      · by_cases h4 : y.2 < x.2 <;> simp [e, h3, h4]
theorem Try.swoR : SWO (ltOf cmpR) where
  irrefl x := by rw [Try.ltR]; simp
  trans x y z h1 h2 := by rw [Try.ltR] at *; simp only [decide_eq_true_eq] at *; omega
  ntrans x y z h1 h2 := by rw [Try.ltR] at *; simp only [decide_eq_false_iff_not] at *; omega

/-- slices.SortFunc of records: what it holds then. -/
theorem Try.sortFunc84 (blk off cap : Nat) (d : Array (Int × Int)) (w : World) (hH : HoldsK encR 2 w blk off d) (hblk : blk < w.heap.size) (hsz : d.size < 4611686018427387904) :
    Calls Try.prog 84 #[.slice (some ⟨blk, off, none⟩) d.size cap, .func (.func 85) #[] #[]] w fun e w' => e = .returned (.tuple #[]) ∧ ∃ n os, w' = sortWorldK encR 2 w blk off n (d.toList.mergeSort fun x y => !(ltOf cmpR) y x).toArray os := by
  have eg : ∀ args w, (callFunc 85 args).run Try.prog w = .ok (.enter 85 args) w := enters_of Try.func85 (by kernel_rfl) rfl
  exact AnyQ.slices_SortFunc_total Try.sort84 2 Try.isAgg26 Try.sizeOf26 encR (fun _ => rfl) (fun x v hv => by simp [encR] at hv; rcases hv with rfl | rfl <;> rfl) cmpR Try.swoR 85 #[] blk off cap d w eg
    (fun _ _ _ _ x y => Try.compare85 x y _) hH hblk hsz (fun x y h1 h2 => by rw [Try.ltR] at *; simp only [decide_eq_false_iff_not] at *; exact Prod.ext (by omega) (by omega))
theorem Try.sortFunc84_none (p : Option Addr) (cap : Nat) (w : World) : Calls Try.prog 84 #[.slice p 0 cap, .func (.func 85) #[] #[]] w fun e w' => e = .returned (.tuple #[]) ∧ w' = w :=
  AnyF.slices_SortFunc_none Try.sort84 p cap _ w
end Go.Proofs
