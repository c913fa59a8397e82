/- slices.SortFunc of records by their order, by the shelf's contract. -/
import Derived.Shelf.SlSortCmp.NoneTotal
import Derived.Shelf.SlicesG.Cmp
import Derived.Shelf.Lay
import Derived.StillTailTactics
import Derived.Ground.SlsfProg
import Derived.Ground.SlgcProg
import Derived.Test.YtfafgnmlnhklaaaProg
import Derived.KernelRfl
namespace Go.Proofs
open Go.Shelf Go.RowKit Go.Lib Go.Sort

def Try.sort84_ren : Go.Shelf.Ren := ⟨fun | 6 => 84 | 15 => 75 | 14 => 108 | 28 => 99 | 29 => 100 | 20 => 124 | 21 => 125 | 22 => 126 | 23 => 127 | 24 => 128 | 25 => 129 | 26 => 130 | 27 => 131 | 46 => 136 | 47 => 118 | 48 => 119 | 49 => 137 | 50 => 138 | 57 => 139 | n => n, fun | 22 => 24 | 24 => 26 | 25 => 89 | 3 => 3 | 39 => 119 | 0 => 0 | 53 => 142 | 55 => 144 | 4 => 4 | 46 => 135 | 45 => 134 | 50 => 91 | 5 => 5 | 9 => 9 | 66 => 154 | 70 => 158 | 76 => 168 | 77 => 131 | n => n, fun | n => n⟩
theorem Try.sort84 : Go.Proofs.SlLaysF0.n6 Try.prog Try.sort84_ren := {
  mixed := by kernel_rfl
  f6 := ⟨Try.f84.name, by decide, Try.func84.trans (congrArg some (by kernel_rfl))⟩
  f14 := ⟨Try.f108.name, by decide, Try.func108.trans (congrArg some (by kernel_rfl))⟩
  f15 := Try.func75.trans (congrArg some (by kernel_rfl))
  f20 := ⟨Try.f124.name, by decide, Try.func124.trans (congrArg some (by kernel_rfl))⟩
  f21 := ⟨Try.f125.name, by decide, Try.func125.trans (congrArg some (by kernel_rfl))⟩
  f22 := ⟨Try.f126.name, by decide, Try.func126.trans (congrArg some (by kernel_rfl))⟩
  f23 := ⟨Try.f127.name, by decide, Try.func127.trans (congrArg some (by kernel_rfl))⟩
  f24 := ⟨Try.f128.name, by decide, Try.func128.trans (congrArg some (by kernel_rfl))⟩
  f25 := ⟨Try.f129.name, by decide, Try.func129.trans (congrArg some (by kernel_rfl))⟩
  f26 := ⟨Try.f130.name, by decide, Try.func130.trans (congrArg some (by kernel_rfl))⟩
  f27 := ⟨Try.f131.name, by decide, Try.func131.trans (congrArg some (by kernel_rfl))⟩
  f28 := Try.func99.trans (congrArg some (by kernel_rfl))
  f29 := Try.func100.trans (congrArg some (by kernel_rfl))
  f46 := ⟨Try.f136.name, by decide, Try.func136.trans (congrArg some (by kernel_rfl))⟩
  f47 := Try.func118.trans (congrArg some (by kernel_rfl))
  f48 := Try.func119.trans (congrArg some (by kernel_rfl))
  f49 := ⟨Try.f137.name, by decide, Try.func137.trans (congrArg some (by kernel_rfl))⟩
  f50 := ⟨Try.f138.name, by decide, Try.func138.trans (congrArg some (by kernel_rfl))⟩
  f57 := ⟨Try.f139.name, by decide, Try.func139.trans (congrArg some (by kernel_rfl))⟩
  t0 := Try.underlying0
  a0 := Try.isAgg0
  z0 := Try.sizeOf0
  v0 := Try.zeroValue0
  t3 := Try.underlying3
  a3 := Try.isAgg3
  z3 := Try.sizeOf3
  v3 := Try.zeroValue3
  t4 := Try.underlying4
  a4 := Try.isAgg4
  z4 := Try.sizeOf4
  v4 := Try.zeroValue4
  t5 := Try.underlying5
  a5 := Try.isAgg5
  z5 := Try.sizeOf5
  v5 := Try.zeroValue5
  t9 := Try.underlying9
  a9 := Try.isAgg9
  z9 := Try.sizeOf9
  v9 := Try.zeroValue9
  t22 := Try.underlying24
  a22 := Try.isAgg24
  z22 := Try.sizeOf24
  v22 := Try.zeroValue24
  t25 := Try.underlying89
  a25 := Try.isAgg89
  z25 := Try.sizeOf89
  v25 := Try.zeroValue89
  t39 := Try.underlying119
  a39 := Try.isAgg119
  z39 := Try.sizeOf119
  v39 := Try.zeroValue119
  t45 := Try.underlying134
  a45 := Try.isAgg134
  z45 := Try.sizeOf134
  v45 := Try.zeroValue134
  t46 := Try.underlying135
  a46 := Try.isAgg135
  z46 := Try.sizeOf135
  v46 := Try.zeroValue135
  t50 := Try.underlying91
  a50 := Try.isAgg91
  z50 := Try.sizeOf91
  v50 := Try.zeroValue91
  t53 := Try.underlying142
  a53 := Try.isAgg142
  z53 := Try.sizeOf142
  v53 := Try.zeroValue142
  t55 := Try.underlying144
  a55 := Try.isAgg144
  z55 := Try.sizeOf144
  v55 := Try.zeroValue144
  t66 := Try.underlying154
  a66 := Try.isAgg154
  z66 := Try.sizeOf154
  v66 := Try.zeroValue154
  t70 := Try.underlying158
  a70 := Try.isAgg158
  z70 := Try.sizeOf158
  v70 := Try.zeroValue158
  t76 := Try.underlying168
  a76 := Try.isAgg168
  z76 := Try.sizeOf168
  v76 := Try.zeroValue168
  t77 := Try.underlying131
  a77 := Try.isAgg131
  z77 := Try.sizeOf131
  v77 := Try.zeroValue131 }
def Try.cmp110_ren : Go.Shelf.Ren := ⟨fun | 5 => 110 | 7 => 122 | n => n, fun | 22 => 3 | 3 => 3 | 4 => 4 | n => n, fun | n => n⟩
theorem Try.cmp110 : Go.Proofs.SlLaysC2.n5 Try.prog Try.cmp110_ren := {
  mixed := by kernel_rfl
  f5 := ⟨Try.f110.name, by decide, Try.func110.trans (congrArg some (by kernel_rfl))⟩
  f7 := ⟨Try.f122.name, by decide, Try.func122.trans (congrArg some (by kernel_rfl))⟩
  t3 := Try.underlying3
  a3 := Try.isAgg3
  z3 := Try.sizeOf3
  v3 := Try.zeroValue3
  t4 := Try.underlying4
  a4 := Try.isAgg4
  z4 := Try.sizeOf4
  v4 := Try.zeroValue4
  t22 := Try.underlying3
  a22 := Try.isAgg3
  z22 := Try.sizeOf3
  v22 := Try.zeroValue3 }

/-- A record's two cells. -/
def encR (x : Int × Int) : List Value := [.int .i64 x.1, .int .i64 x.2]
def orI (a b : Int) : Int := if a = 0 then b else a
def cmpR (x y : Int × Int) : Int := orI (Lib.compareInt x.1 y.1) (Lib.compareInt x.2 y.2)

set_option maxHeartbeats 1000000 in
set_option maxRecDepth 100000 in
/-- The first of two that is not zero. -/
theorem Try.or109 (blk : Nat) (a b : Int) (W : World) (h0 : W.cell? ⟨blk, 0, none⟩ = some (.int .i64 a)) (h1 : W.cell? ⟨blk, 1, none⟩ = some (.int .i64 b)) :
    Calls Try.prog 109 #[.slice (some ⟨blk, 0, none⟩) 2 2] W fun e w' => e = .returned (.int .i64 (orI a b)) ∧ w' = W := by
  by_cases ha : a = 0
  · subst ha
    by_cases hb : b = 0
    · subst hb
      go_enter Try.func109, Try.ntmps109
      go_wp2
      refine wp_loop_rounds 3 ?_
      rw [rounds_succ]
      go_wp2
      rw [rounds_succ]
      go_wp2
      rw [rounds_succ]
      go_wp2
      go_ret
      exact ⟨rfl, rfl⟩
    · go_enter Try.func109, Try.ntmps109
      go_wp2
      refine wp_loop_rounds 3 ?_
      rw [rounds_succ]
      go_wp2
      rw [rounds_succ]
      go_wp2
      go_ret
      exact ⟨rfl, rfl⟩
  · go_enter Try.func109, Try.ntmps109
    go_wp2
    refine wp_loop_rounds 3 ?_
    rw [rounds_succ]
    go_wp2
    go_ret
    refine ⟨?_, rfl⟩
    unfold orI
    rw [if_neg ha]
    rfl

set_option maxHeartbeats 1000000 in
set_option maxRecDepth 100000 in
/-- rec.Compare: in whatever world: some blocks are laid. -/
theorem Try.compare85 (x y : Int × Int) (W : World) : Calls Try.prog 85 #[.agg #[.int .i64 x.1, .int .i64 x.2], .agg #[.int .i64 y.1, .int .i64 y.2]] W fun e w' => e = .returned (.int .i64 (cmpR x y)) ∧ ∃ q os', w' = grow (W.drewN q) os' := by
  have hc1 := fun W' => AnyG.cmp_Compare_int Try.cmp110 x.1 y.1 W'
  have hc2 := fun W' => AnyG.cmp_Compare_int Try.cmp110 x.2 y.2 W'
  change ∀ W', Calls Try.prog 110 _ _ _ at hc1
  change ∀ W', Calls Try.prog 110 _ _ _ at hc2
  have hor := fun blk W' h0 h1 => Try.or109 blk (Lib.compareInt x.1 y.1) (Lib.compareInt x.2 y.2) W' h0 h1
  unfold cmpR
  generalize Lib.compareInt x.1 y.1 = r1 at hc1 hor ⊢
  generalize Lib.compareInt x.2 y.2 = r2 at hc2 hor ⊢
  go_enter Try.func85, Try.ntmps85
  go_wp2
  obtain ⟨W2, hW2⟩ : ∃ W2, W2 = (W.alloc (.cells #[.int .i64 x.1, .int .i64 x.2] 26)).alloc (.cells #[.int .i64 y.1, .int .i64 y.2] 26) := ⟨_, rfl⟩
  rw [← hW2]
  obtain ⟨W3, hW3⟩ : ∃ W3, W3 = W2.drew := ⟨_, rfl⟩
  have hW3' := hW3
  have hp : W3.heap = (W.heap.push (.cells #[.int .i64 x.1, .int .i64 x.2] 26)).push (.cells #[.int .i64 y.1, .int .i64 y.2] 26) := by rw [hW3, hW2]; rfl
  have hb1 : W3.heap[W.heap.size]? = some (.cells #[.int .i64 x.1, .int .i64 x.2] 26) := by
    rw [hp, Array.getElem?_push, if_neg (by rw [Array.size_push]; omega), Array.getElem?_push, if_pos rfl]
  have hb2 : W3.heap[W.heap.size + 1]? = some (.cells #[.int .i64 y.1, .int .i64 y.2] 26) := by
    rw [hp, Array.getElem?_push, if_pos (by rw [Array.size_push])]
  have c1 : W3.cell? ⟨W.heap.size, 0, none⟩ = some (.int .i64 x.1) := by simp only [World.cell?, hb1]; rfl
  have c2 : W3.cell? ⟨W.heap.size, 1, none⟩ = some (.int .i64 x.2) := by simp only [World.cell?, hb1]; rfl
  have c3 : W3.cell? ⟨W.heap.size + 1, 0, none⟩ = some (.int .i64 y.1) := by simp only [World.cell?, hb2]; rfl
  have c4 : W3.cell? ⟨W.heap.size + 1, 1, none⟩ = some (.int .i64 y.2) := by simp only [World.cell?, hb2]; rfl
  have hW : grow (W.drewN 1) #[.cells #[.int .i64 x.1, .int .i64 x.2] 26, .cells #[.int .i64 y.1, .int .i64 y.2] 26] = W3 := by
    rw [hW3, hW2, alloc_eq_grow, alloc_eq_grow, grow_grow]; rfl
  clear hW2 hW3 hp hb1 hb2
  refine wp_region_still_tail 10 (by kernel_rfl) (by kernel_rfl) ?_
  simp only [List.take_succ_cons, List.take_zero, List.drop_succ_cons, List.drop_zero]
  change wpStill _ _ W2.drew (fun a' => wpList _ _ _ _ a' W2.drew) _ _
  rw [← hW3']
  clear hW3'
  still_step
  still_step
  still_step
  still_step
  still_call (hc1 _)
  still_step
  still_step
  still_step
  still_step
  still_call (hc2 _)
  refine wpStill_nil ?_
  go_wp2_with (go_at_call 109; refine (hor _ _ (by simp only [World.cell?, World.alloc, Array.getElem?_push, if_pos]; rfl) (by simp only [World.cell?, World.alloc, Array.getElem?_push, if_pos]; rfl)).mono ?_; rintro e w' ⟨rfl, rfl⟩)
  go_ret
  exact ⟨rfl, 1, _, by rw [← hW, alloc_eq_grow, grow_grow]⟩

theorem Try.ltR (x y : Int × Int) : ltOf cmpR x y = decide (x.1 < y.1 ∨ x.1 = y.1 ∧ x.2 < y.2) := by
  unfold ltOf cmpR orI Lib.compareInt
  by_cases h1 : x.1 < y.1
  · simp [h1]
  · by_cases h2 : y.1 < x.1
    · have : ¬ x.1 = y.1 := by omega
      simp [h1, h2, this]
    · have e : x.1 = y.1 := by omega
      by_cases h3 : x.2 < y.2
      · simp [e, h3]
      · by_cases h4 : y.2 < x.2 <;> simp [e, h3, h4]
theorem Try.swoR : SWO (ltOf cmpR) where
  irrefl x := by rw [Try.ltR]; simp
  trans x y z h1 h2 := by rw [Try.ltR] at *; simp only [decide_eq_true_eq] at *; omega
  ntrans x y z h1 h2 := by rw [Try.ltR] at *; simp only [decide_eq_false_iff_not] at *; omega

/-- slices.SortFunc of records: what it holds then. -/
theorem Try.sortFunc84 (blk off cap : Nat) (d : Array (Int × Int)) (w : World) (hH : HoldsK encR 2 w blk off d) (hblk : blk < w.heap.size) (hsz : d.size < 4611686018427387904) :
    Calls Try.prog 84 #[.slice (some ⟨blk, off, none⟩) d.size cap, .func (.func 85) #[] #[]] w fun e w' => e = .returned (.tuple #[]) ∧ ∃ n os, w' = sortWorldK encR 2 w blk off n (d.toList.mergeSort fun x y => !(ltOf cmpR) y x).toArray os := by
  have eg : ∀ args w, (callFunc 85 args).run Try.prog w = .ok (.enter 85 args) w := enters_of Try.func85 (by kernel_rfl) rfl
  exact AnyQ.slices_SortFunc_total Try.sort84 2 Try.isAgg26 Try.sizeOf26 encR (fun _ => rfl) (fun x v hv => by simp [encR] at hv; rcases hv with rfl | rfl <;> rfl) cmpR Try.swoR 85 #[] blk off cap d w eg
    (fun _ _ _ _ x y => Try.compare85 x y _) hH hblk hsz (fun x y h1 h2 => by rw [Try.ltR] at *; simp only [decide_eq_false_iff_not] at *; exact Prod.ext (by omega) (by omega))
theorem Try.sortFunc84_none (p : Option Addr) (cap : Nat) (w : World) : Calls Try.prog 84 #[.slice p 0 cap, .func (.func 85) #[] #[]] w fun e w' => e = .returned (.tuple #[]) ∧ w' = w :=
  AnyF.slices_SortFunc_none Try.sort84 p cap _ w
end Go.Proofs
