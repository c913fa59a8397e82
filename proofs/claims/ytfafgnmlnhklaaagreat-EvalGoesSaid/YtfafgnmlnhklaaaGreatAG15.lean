/- slices.SortFunc of records by their order, by the shelf's contract. -/
import Derived.Shelf.SlSortCmp.NoneTotal
import Derived.Shelf.SlicesG.Cmp
import Derived.Shelf.Lay
import Derived.StillTailTactics
import Derived.Ground.SlsfProg
import Derived.Ground.SlgcProg
import Derived.Test.YtfafgnmlnhklaaaGreatProg
import Derived.KernelRfl
namespace Go.Proofs
open Go.Shelf Go.RowKit Go.Lib Go.Sort

shelf_lay_g SlLaysF0.n6 Slsf 6 at Tryz 101 as Tryz.sort101
shelf_lay_g SlLaysC2.n5 Slgc 5 at Tryz 128 as Tryz.cmp128

/-- A record's two cells. -/
def encR (x : Int × Int) : List Value := [.int .i64 x.1, .int .i64 x.2]
def orI (a b : Int) : Int := if a = 0 then b else a
def cmpR (x y : Int × Int) : Int := orI (Lib.compareInt x.1 y.1) (Lib.compareInt x.2 y.2)

set_option maxHeartbeats 1000000 in
set_option maxRecDepth 100000 in
/-- The first of two that is not zero. -/
theorem Tryz.or127 (blk : Nat) (a b : Int) (W : World) (h0 : W.cell? ⟨blk, 0, none⟩ = some (.int .i64 a)) (h1 : W.cell? ⟨blk, 1, none⟩ = some (.int .i64 b)) :
    Calls Tryz.prog 127 #[.slice (some ⟨blk, 0, none⟩) 2 2] W fun e w' => e = .returned (.int .i64 (orI a b)) ∧ w' = W := by
  by_cases ha : a = 0
  · subst ha
    by_cases hb : b = 0
    · subst hb
      go_enter Tryz.func127, Tryz.ntmps127
      go_wp2
      refine wp_loop_rounds 3 ?_
      rw [rounds_succ]
      go_wp2
      rw [rounds_succ]
      go_wp2
      rw [rounds_succ]
      go_wp2
      go_ret
      exact ⟨rfl, rfl⟩
    · go_enter Tryz.func127, Tryz.ntmps127
      go_wp2
      refine wp_loop_rounds 3 ?_
      rw [rounds_succ]
      go_wp2
      rw [rounds_succ]
      go_wp2
      go_ret
      exact ⟨rfl, rfl⟩
  · go_enter Tryz.func127, Tryz.ntmps127
    go_wp2
    refine wp_loop_rounds 3 ?_
    rw [rounds_succ]
    go_wp2
    go_ret
    refine ⟨?_, rfl⟩
    unfold orI
    rw [if_neg ha]
    rfl

set_option maxHeartbeats 1000000 in
set_option maxRecDepth 100000 in
/-- rec.Compare: in whatever world: some blocks are laid. -/
theorem Tryz.compare102 (x y : Int × Int) (W : World) : Calls Tryz.prog 102 #[.agg #[.int .i64 x.1, .int .i64 x.2], .agg #[.int .i64 y.1, .int .i64 y.2]] W fun e w' => e = .returned (.int .i64 (cmpR x y)) ∧ ∃ q os', w' = grow (W.drewN q) os' := by
  have hc1 := fun W' => AnyG.cmp_Compare_int Tryz.cmp128 x.1 y.1 W'
  have hc2 := fun W' => AnyG.cmp_Compare_int Tryz.cmp128 x.2 y.2 W'
  change ∀ W', Calls Tryz.prog 128 _ _ _ at hc1
  change ∀ W', Calls Tryz.prog 128 _ _ _ at hc2
  have hor := fun blk W' h0 h1 => Tryz.or127 blk (Lib.compareInt x.1 y.1) (Lib.compareInt x.2 y.2) W' h0 h1
  unfold cmpR
  generalize Lib.compareInt x.1 y.1 = r1 at hc1 hor ⊢
  generalize Lib.compareInt x.2 y.2 = r2 at hc2 hor ⊢
  go_enter Tryz.func102, Tryz.ntmps102
  go_wp2
  obtain ⟨W2, hW2⟩ : ∃ W2, W2 = (W.alloc (.cells #[.int .i64 x.1, .int .i64 x.2] 56)).alloc (.cells #[.int .i64 y.1, .int .i64 y.2] 56) := ⟨_, rfl⟩
  rw [← hW2]
  obtain ⟨W3, hW3⟩ : ∃ W3, W3 = W2.drew := ⟨_, rfl⟩
  have hW3' := hW3
  have hp : W3.heap = (W.heap.push (.cells #[.int .i64 x.1, .int .i64 x.2] 56)).push (.cells #[.int .i64 y.1, .int .i64 y.2] 56) := by rw [hW3, hW2]; rfl
  have hb1 : W3.heap[W.heap.size]? = some (.cells #[.int .i64 x.1, .int .i64 x.2] 56) := by
    rw [hp, Array.getElem?_push, if_neg (by rw [Array.size_push]; omega), Array.getElem?_push, if_pos rfl]
  have hb2 : W3.heap[W.heap.size + 1]? = some (.cells #[.int .i64 y.1, .int .i64 y.2] 56) := by
    rw [hp, Array.getElem?_push, if_pos (by rw [Array.size_push])]
  have c1 : W3.cell? ⟨W.heap.size, 0, none⟩ = some (.int .i64 x.1) := by simp only [World.cell?, hb1]; rfl
  have c2 : W3.cell? ⟨W.heap.size, 1, none⟩ = some (.int .i64 x.2) := by simp only [World.cell?, hb1]; rfl
  have c3 : W3.cell? ⟨W.heap.size + 1, 0, none⟩ = some (.int .i64 y.1) := by simp only [World.cell?, hb2]; rfl
  have c4 : W3.cell? ⟨W.heap.size + 1, 1, none⟩ = some (.int .i64 y.2) := by simp only [World.cell?, hb2]; rfl
  have hW : grow (W.drewN 1) #[.cells #[.int .i64 x.1, .int .i64 x.2] 56, .cells #[.int .i64 y.1, .int .i64 y.2] 56] = W3 := by
    rw [hW3, hW2, alloc_eq_grow, alloc_eq_grow, grow_grow]; rfl
  clear hW2 hW3 hp hb1 hb2
  refine wp_region_still_tail 10 (by kernel_rfl) (by kernel_rfl) ?_
  simp only [List.take_succ_cons, List.take_zero, List.drop_succ_cons, List.drop_zero]
  change wpStill _ _ W2.drew (fun a' => wpList _ _ _ _ a' W2.drew) _ _
  rw [← hW3']
  clear hW3'
  still_step
  still_step
  still_step
  still_step
  still_call (hc1 _)
  still_step
  still_step
  still_step
  still_step
  still_call (hc2 _)
  refine wpStill_nil ?_
  go_wp2_with (go_at_call 127; refine (hor _ _ (by simp only [World.cell?, World.alloc, Array.getElem?_push, if_pos]; rfl) (by simp only [World.cell?, World.alloc, Array.getElem?_push, if_pos]; rfl)).mono ?_; rintro e w' ⟨rfl, rfl⟩)
  go_ret
  exact ⟨rfl, 1, _, by rw [← hW, alloc_eq_grow, grow_grow]⟩

theorem Tryz.ltR (x y : Int × Int) : ltOf cmpR x y = decide (x.1 < y.1 ∨ x.1 = y.1 ∧ x.2 < y.2) := by
  unfold ltOf cmpR orI Lib.compareInt
  by_cases h1 : x.1 < y.1
  · simp [h1]
  · by_cases h2 : y.1 < x.1
    · have : ¬ x.1 = y.1 := by omega
      simp [h1, h2, this]
    · have e : x.1 = y.1 := by omega
      by_cases h3 : x.2 < y.2
      · simp [e, h3]
      · by_cases h4 : y.2 < x.2 <;> simp [e, h3, h4]
theorem Tryz.swoR : SWO (ltOf cmpR) where
  irrefl x := by rw [Tryz.ltR]; simp
  trans x y z h1 h2 := by rw [Tryz.ltR] at *; simp only [decide_eq_true_eq] at *; omega
  ntrans x y z h1 h2 := by rw [Tryz.ltR] at *; simp only [decide_eq_false_iff_not] at *; omega

/-- slices.SortFunc of records: what it holds then. -/
theorem Tryz.sortFunc101 (blk off cap : Nat) (d : Array (Int × Int)) (w : World) (hH : HoldsK encR 2 w blk off d) (hblk : blk < w.heap.size) (hsz : d.size < 4611686018427387904) :
    Calls Tryz.prog 101 #[.slice (some ⟨blk, off, none⟩) d.size cap, .func (.func 102) #[] #[]] w fun e w' => e = .returned (.tuple #[]) ∧ ∃ n os, w' = sortWorldK encR 2 w blk off n (d.toList.mergeSort fun x y => !(ltOf cmpR) y x).toArray os := by
  have eg : ∀ args w, (callFunc 102 args).run Tryz.prog w = .ok (.enter 102 args) w := enters_of Tryz.func102 (by kernel_rfl) rfl
  exact AnyQ.slices_SortFunc_total Tryz.sort101 2 Tryz.isAgg56 Tryz.sizeOf56 encR (fun _ => rfl) (fun x v hv => by simp [encR] at hv; rcases hv with rfl | rfl <;> rfl) cmpR Tryz.swoR 102 #[] blk off cap d w eg
    (fun _ _ _ _ x y => Tryz.compare102 x y _) hH hblk hsz (fun x y h1 h2 => by rw [Tryz.ltR] at *; simp only [decide_eq_false_iff_not] at *; exact Prod.ext (by omega) (by omega))
theorem Tryz.sortFunc101_none (p : Option Addr) (cap : Nat) (w : World) : Calls Tryz.prog 101 #[.slice p 0 cap, .func (.func 102) #[] #[]] w fun e w' => e = .returned (.tuple #[]) ∧ w' = w :=
  AnyF.slices_SortFunc_none Tryz.sort101 p cap _ w
end Go.Proofs
