import Derived.Shelf.SlSortCmp.NoneTotal
import Derived.Shelf.SlicesG.Cmp
import Derived.Shelf.Lay
import Derived.StillTailTactics
import Derived.Deep.RegionHeld3
import Derived.Ground.SlsfProg
import Derived.Ground.SlgcProg
import Derived.Test.YtjackggnnjdhmaaGreatDoorProg
import Derived.WalkKit
import Derived.Shelf.GgSortFunc.InsertionK
import Derived.Sort.Grow
import Derived.Deep.Draws
import Derived.KernelRfl
namespace Go.Proofs
open Go.Shelf Go.RowKit Go.Lib Go.Sort
def Tryz.cmp270_ren : Go.Shelf.Ren := ⟨fun | 5 => 270 | 7 => 337 | n => n, fun | 22 => 3 | 3 => 3 | 4 => 4 | n => n, fun | n => n⟩
theorem Tryz.cmp270 : Go.Proofs.SlLaysC2.n5 Tryz.prog Tryz.cmp270_ren := {
 mixed := by kernel_rfl
 f5 := ⟨Tryz.f270.name, by decide, Tryz.func270.trans (congrArg some (by kernel_rfl))⟩
 f7 := ⟨Tryz.f337.name, by decide, Tryz.func337.trans (congrArg some (by kernel_rfl))⟩
 t3 := Tryz.underlying3
 a3 := Tryz.isAgg3
 z3 := Tryz.sizeOf3
 v3 := Tryz.zeroValue3
 t4 := Tryz.underlying4
 a4 := Tryz.isAgg4
 z4 := Tryz.sizeOf4
 v4 := Tryz.zeroValue4
 t22 := Tryz.underlying3
 a22 := Tryz.isAgg3
 z22 := Tryz.sizeOf3
 v22 := Tryz.zeroValue3 }
def Tryz.sort312_ren : Go.Shelf.Ren := ⟨fun | 6 => 312 | 15 => 268 | 14 => 383 | 28 => 336 | 29 => 230 | 20 => 450 | 21 => 451 | 22 => 452 | 23 => 453 | 24 => 454 | 25 => 455 | 26 => 456 | 27 => 457 | 46 => 520 | 47 => 398 | 48 => 399 | 49 => 521 | 50 => 522 | 57 => 571 | n => n, fun | 22 => 357 | 24 => 378 | 25 => 458 | 3 => 3 | 39 => 161 | 0 => 0 | 53 => 318 | 55 => 217 | 4 => 4 | 46 => 474 | 45 => 473 | 50 => 133 | 5 => 5 | 9 => 9 | 66 => 524 | 70 => 528 | 76 => 582 | 77 => 580 | n => n, fun | n => n⟩
theorem Tryz.sort312 : Go.Proofs.SlLaysF0.n6 Tryz.prog Tryz.sort312_ren := {
 mixed := by kernel_rfl
 f6 := ⟨Tryz.f312.name, by decide, Tryz.func312.trans (congrArg some (by kernel_rfl))⟩
 f14 := ⟨Tryz.f383.name, by decide, Tryz.func383.trans (congrArg some (by kernel_rfl))⟩
 f15 := Tryz.func268.trans (congrArg some (by kernel_rfl))
 f20 := ⟨Tryz.f450.name, by decide, Tryz.func450.trans (congrArg some (by kernel_rfl))⟩
 f21 := ⟨Tryz.f451.name, by decide, Tryz.func451.trans (congrArg some (by kernel_rfl))⟩
 f22 := ⟨Tryz.f452.name, by decide, Tryz.func452.trans (congrArg some (by kernel_rfl))⟩
 f23 := ⟨Tryz.f453.name, by decide, Tryz.func453.trans (congrArg some (by kernel_rfl))⟩
 f24 := ⟨Tryz.f454.name, by decide, Tryz.func454.trans (congrArg some (by kernel_rfl))⟩
 f25 := ⟨Tryz.f455.name, by decide, Tryz.func455.trans (congrArg some (by kernel_rfl))⟩
 f26 := ⟨Tryz.f456.name, by decide, Tryz.func456.trans (congrArg some (by kernel_rfl))⟩
 f27 := ⟨Tryz.f457.name, by decide, Tryz.func457.trans (congrArg some (by kernel_rfl))⟩
 f28 := Tryz.func336.trans (congrArg some (by kernel_rfl))
 f29 := Tryz.func230.trans (congrArg some (by kernel_rfl))
 f46 := ⟨Tryz.f520.name, by decide, Tryz.func520.trans (congrArg some (by kernel_rfl))⟩
 f47 := Tryz.func398.trans (congrArg some (by kernel_rfl))
 f48 := Tryz.func399.trans (congrArg some (by kernel_rfl))
 f49 := ⟨Tryz.f521.name, by decide, Tryz.func521.trans (congrArg some (by kernel_rfl))⟩
 f50 := ⟨Tryz.f522.name, by decide, Tryz.func522.trans (congrArg some (by kernel_rfl))⟩
 f57 := ⟨Tryz.f571.name, by decide, Tryz.func571.trans (congrArg some (by kernel_rfl))⟩
 t0 := Tryz.underlying0
 a0 := Tryz.isAgg0
 z0 := Tryz.sizeOf0
 v0 := Tryz.zeroValue0
 t3 := Tryz.underlying3
 a3 := Tryz.isAgg3
 z3 := Tryz.sizeOf3
 v3 := Tryz.zeroValue3
 t4 := Tryz.underlying4
 a4 := Tryz.isAgg4
 z4 := Tryz.sizeOf4
 v4 := Tryz.zeroValue4
 t5 := Tryz.underlying5
 a5 := Tryz.isAgg5
 z5 := Tryz.sizeOf5
 v5 := Tryz.zeroValue5
 t9 := Tryz.underlying9
 a9 := Tryz.isAgg9
 z9 := Tryz.sizeOf9
 v9 := Tryz.zeroValue9
 t22 := Tryz.underlying357
 a22 := Tryz.isAgg357
 z22 := Tryz.sizeOf357
 v22 := Tryz.zeroValue357
 t25 := Tryz.underlying458
 a25 := Tryz.isAgg458
 z25 := Tryz.sizeOf458
 v25 := Tryz.zeroValue458
 t39 := Tryz.underlying161
 a39 := Tryz.isAgg161
 z39 := Tryz.sizeOf161
 v39 := Tryz.zeroValue161
 t45 := Tryz.underlying473
 a45 := Tryz.isAgg473
 z45 := Tryz.sizeOf473
 v45 := Tryz.zeroValue473
 t46 := Tryz.underlying474
 a46 := Tryz.isAgg474
 z46 := Tryz.sizeOf474
 v46 := Tryz.zeroValue474
 t50 := Tryz.underlying133
 a50 := Tryz.isAgg133
 z50 := Tryz.sizeOf133
 v50 := Tryz.zeroValue133
 t53 := Tryz.underlying318
 a53 := Tryz.isAgg318
 z53 := Tryz.sizeOf318
 v53 := Tryz.zeroValue318
 t55 := Tryz.underlying217
 a55 := Tryz.isAgg217
 z55 := Tryz.sizeOf217
 v55 := Tryz.zeroValue217
 t66 := Tryz.underlying524
 a66 := Tryz.isAgg524
 z66 := Tryz.sizeOf524
 v66 := Tryz.zeroValue524
 t70 := Tryz.underlying528
 a70 := Tryz.isAgg528
 z70 := Tryz.sizeOf528
 v70 := Tryz.zeroValue528
 t76 := Tryz.underlying582
 a76 := Tryz.isAgg582
 z76 := Tryz.sizeOf582
 v76 := Tryz.zeroValue582
 t77 := Tryz.underlying580
 a77 := Tryz.isAgg580
 z77 := Tryz.sizeOf580
 v77 := Tryz.zeroValue580 }
def Tryz.sort381_ren : Go.Shelf.Ren := ⟨fun | 6 => 381 | 15 => 268 | 14 => 449 | 28 => 336 | 29 => 230 | 20 => 512 | 21 => 513 | 22 => 514 | 23 => 515 | 24 => 516 | 25 => 517 | 26 => 518 | 27 => 519 | 46 => 568 | 47 => 398 | 48 => 399 | 49 => 569 | 50 => 570 | 57 => 607 | n => n, fun | 22 => 449 | 24 => 423 | 25 => 454 | 3 => 3 | 39 => 161 | 0 => 0 | 53 => 318 | 55 => 217 | 4 => 4 | 46 => 474 | 45 => 473 | 50 => 133 | 5 => 5 | 9 => 9 | 66 => 524 | 70 => 528 | 76 => 582 | 77 => 580 | n => n, fun | n => n⟩
theorem Tryz.sort381 : Go.Proofs.SlLaysF0.n6 Tryz.prog Tryz.sort381_ren := {
 mixed := by kernel_rfl
 f6 := ⟨Tryz.f381.name, by decide, Tryz.func381.trans (congrArg some (by kernel_rfl))⟩
 f14 := ⟨Tryz.f449.name, by decide, Tryz.func449.trans (congrArg some (by kernel_rfl))⟩
 f15 := Tryz.func268.trans (congrArg some (by kernel_rfl))
 f20 := ⟨Tryz.f512.name, by decide, Tryz.func512.trans (congrArg some (by kernel_rfl))⟩
 f21 := ⟨Tryz.f513.name, by decide, Tryz.func513.trans (congrArg some (by kernel_rfl))⟩
 f22 := ⟨Tryz.f514.name, by decide, Tryz.func514.trans (congrArg some (by kernel_rfl))⟩
 f23 := ⟨Tryz.f515.name, by decide, Tryz.func515.trans (congrArg some (by kernel_rfl))⟩
 f24 := ⟨Tryz.f516.name, by decide, Tryz.func516.trans (congrArg some (by kernel_rfl))⟩
 f25 := ⟨Tryz.f517.name, by decide, Tryz.func517.trans (congrArg some (by kernel_rfl))⟩
 f26 := ⟨Tryz.f518.name, by decide, Tryz.func518.trans (congrArg some (by kernel_rfl))⟩
 f27 := ⟨Tryz.f519.name, by decide, Tryz.func519.trans (congrArg some (by kernel_rfl))⟩
 f28 := Tryz.func336.trans (congrArg some (by kernel_rfl))
 f29 := Tryz.func230.trans (congrArg some (by kernel_rfl))
 f46 := ⟨Tryz.f568.name, by decide, Tryz.func568.trans (congrArg some (by kernel_rfl))⟩
 f47 := Tryz.func398.trans (congrArg some (by kernel_rfl))
 f48 := Tryz.func399.trans (congrArg some (by kernel_rfl))
 f49 := ⟨Tryz.f569.name, by decide, Tryz.func569.trans (congrArg some (by kernel_rfl))⟩
 f50 := ⟨Tryz.f570.name, by decide, Tryz.func570.trans (congrArg some (by kernel_rfl))⟩
 f57 := ⟨Tryz.f607.name, by decide, Tryz.func607.trans (congrArg some (by kernel_rfl))⟩
 t0 := Tryz.underlying0
 a0 := Tryz.isAgg0
 z0 := Tryz.sizeOf0
 v0 := Tryz.zeroValue0
 t3 := Tryz.underlying3
 a3 := Tryz.isAgg3
 z3 := Tryz.sizeOf3
 v3 := Tryz.zeroValue3
 t4 := Tryz.underlying4
 a4 := Tryz.isAgg4
 z4 := Tryz.sizeOf4
 v4 := Tryz.zeroValue4
 t5 := Tryz.underlying5
 a5 := Tryz.isAgg5
 z5 := Tryz.sizeOf5
 v5 := Tryz.zeroValue5
 t9 := Tryz.underlying9
 a9 := Tryz.isAgg9
 z9 := Tryz.sizeOf9
 v9 := Tryz.zeroValue9
 t22 := Tryz.underlying449
 a22 := Tryz.isAgg449
 z22 := Tryz.sizeOf449
 v22 := Tryz.zeroValue449
 t25 := Tryz.underlying454
 a25 := Tryz.isAgg454
 z25 := Tryz.sizeOf454
 v25 := Tryz.zeroValue454
 t39 := Tryz.underlying161
 a39 := Tryz.isAgg161
 z39 := Tryz.sizeOf161
 v39 := Tryz.zeroValue161
 t45 := Tryz.underlying473
 a45 := Tryz.isAgg473
 z45 := Tryz.sizeOf473
 v45 := Tryz.zeroValue473
 t46 := Tryz.underlying474
 a46 := Tryz.isAgg474
 z46 := Tryz.sizeOf474
 v46 := Tryz.zeroValue474
 t50 := Tryz.underlying133
 a50 := Tryz.isAgg133
 z50 := Tryz.sizeOf133
 v50 := Tryz.zeroValue133
 t53 := Tryz.underlying318
 a53 := Tryz.isAgg318
 z53 := Tryz.sizeOf318
 v53 := Tryz.zeroValue318
 t55 := Tryz.underlying217
 a55 := Tryz.isAgg217
 z55 := Tryz.sizeOf217
 v55 := Tryz.zeroValue217
 t66 := Tryz.underlying524
 a66 := Tryz.isAgg524
 z66 := Tryz.sizeOf524
 v66 := Tryz.zeroValue524
 t70 := Tryz.underlying528
 a70 := Tryz.isAgg528
 z70 := Tryz.sizeOf528
 v70 := Tryz.zeroValue528
 t76 := Tryz.underlying582
 a76 := Tryz.isAgg582
 z76 := Tryz.sizeOf582
 v76 := Tryz.zeroValue582
 t77 := Tryz.underlying580
 a77 := Tryz.isAgg580
 z77 := Tryz.sizeOf580
 v77 := Tryz.zeroValue580 }
def orI (a b : Int) : Int := if a = 0 then b else a
def cmpR (x y : Int × Int) : Int := orI (Lib.compareInt x.1 y.1) (Lib.compareInt x.2 y.2)
set_option maxHeartbeats 1000000 in
set_option maxRecDepth 100000 in
theorem Tryz.or269 (blk : Nat) (a b : Int) (W : World) (h0 : W.cell? ⟨blk, 0, none⟩ = some (.int .i64 a)) (h1 : W.cell? ⟨blk, 1, none⟩ = some (.int .i64 b)) :
  Calls Tryz.prog 269 #[.slice (some ⟨blk, 0, none⟩) 2 2] W fun e w' => e = .returned (.int .i64 (orI a b)) ∧ w' = W := by
 by_cases ha : a = 0
 ·subst ha
  by_cases hb : b = 0
  ·subst hb
   go_enter Tryz.func269, Tryz.ntmps269
   go_wp2
   refine wp_loop_rounds 3 ?_
   rw [rounds_succ]
   go_wp2
   rw [rounds_succ]
   go_wp2
   rw [rounds_succ]
   go_wp2
   go_ret
   exact ⟨rfl, rfl⟩
  ·go_enter Tryz.func269, Tryz.ntmps269
   go_wp2
   refine wp_loop_rounds 3 ?_
   rw [rounds_succ]
   go_wp2
   rw [rounds_succ]
   go_wp2
   go_ret
   exact ⟨rfl, rfl⟩
 ·go_enter Tryz.func269, Tryz.ntmps269
  go_wp2
  refine wp_loop_rounds 3 ?_
  rw [rounds_succ]
  go_wp2
  go_ret
  refine ⟨?_, rfl⟩
  unfold orI
  rw [if_neg ha]
  rfl
set_option maxHeartbeats 1000000 in
set_option maxRecDepth 100000 in
theorem Tryz.compare250 (x y : Int × Int) (W : World) : Calls Tryz.prog 250 #[.agg #[.int .i64 x.1, .int .i64 x.2], .agg #[.int .i64 y.1, .int .i64 y.2]] W fun e w' => e = .returned (.int .i64 (cmpR x y)) ∧ ∃ q os', w' = grow (W.drewN q) os' := by
 have hc1 := fun W' => AnyG.cmp_Compare_int Tryz.cmp270 x.1 y.1 W'
 have hc2 := fun W' => AnyG.cmp_Compare_int Tryz.cmp270 x.2 y.2 W'
 change ∀ W', Calls Tryz.prog 270 _ _ _ at hc1
 change ∀ W', Calls Tryz.prog 270 _ _ _ at hc2
 have hor := fun blk W' h0 h1 => Tryz.or269 blk (Lib.compareInt x.1 y.1) (Lib.compareInt x.2 y.2) W' h0 h1
 unfold cmpR
 generalize Lib.compareInt x.1 y.1 = r1 at hc1 hor ⊢
 generalize Lib.compareInt x.2 y.2 = r2 at hc2 hor ⊢
 go_enter Tryz.func250, Tryz.ntmps250
 go_wp2
 obtain ⟨W2, hW2⟩ : ∃ W2, W2 = (W.alloc (.cells #[.int .i64 x.1, .int .i64 x.2] 60)).alloc (.cells #[.int .i64 y.1, .int .i64 y.2] 60) := ⟨_, rfl⟩
 rw [← hW2]
 obtain ⟨W3, hW3⟩ : ∃ W3, W3 = W2.drew := ⟨_, rfl⟩
 have hW3' := hW3
 have hp : W3.heap = (W.heap.push (.cells #[.int .i64 x.1, .int .i64 x.2] 60)).push (.cells #[.int .i64 y.1, .int .i64 y.2] 60) := by rw [hW3, hW2]; rfl
 have hb1 : W3.heap[W.heap.size]? = some (.cells #[.int .i64 x.1, .int .i64 x.2] 60) := by
  rw [hp, Array.getElem?_push, if_neg (by rw [Array.size_push]; omega), Array.getElem?_push, if_pos rfl]
 have hb2 : W3.heap[W.heap.size + 1]? = some (.cells #[.int .i64 y.1, .int .i64 y.2] 60) := by
  rw [hp, Array.getElem?_push, if_pos (by rw [Array.size_push])]
 have c1 : W3.cell? ⟨W.heap.size, 0, none⟩ = some (.int .i64 x.1) := by simp only [World.cell?, hb1]; rfl
 have c2 : W3.cell? ⟨W.heap.size, 1, none⟩ = some (.int .i64 x.2) := by simp only [World.cell?, hb1]; rfl
 have c3 : W3.cell? ⟨W.heap.size + 1, 0, none⟩ = some (.int .i64 y.1) := by simp only [World.cell?, hb2]; rfl
 have c4 : W3.cell? ⟨W.heap.size + 1, 1, none⟩ = some (.int .i64 y.2) := by simp only [World.cell?, hb2]; rfl
 have hW : grow (W.drewN 1) #[.cells #[.int .i64 x.1, .int .i64 x.2] 60, .cells #[.int .i64 y.1, .int .i64 y.2] 60] = W3 := by
  rw [hW3, hW2, alloc_eq_grow, alloc_eq_grow, grow_grow]; rfl
 clear hW2 hW3 hp hb1 hb2
 refine wp_region_still_tail 10 (by kernel_rfl) (by kernel_rfl) ?_
 simp only [List.take_succ_cons, List.take_zero, List.drop_succ_cons, List.drop_zero]
 change wpStill _ _ W2.drew (fun a' => wpList _ _ _ _ a' W2.drew) _ _
 rw [← hW3']
 clear hW3'
 still_step
 still_step
 still_step
 still_step
 still_call (hc1 _)
 still_step
 still_step
 still_step
 still_step
 still_call (hc2 _)
 refine wpStill_nil ?_
 go_wp2_with (go_at_call 269; refine (hor _ _ (by simp only [World.cell?, World.alloc, Array.getElem?_push, if_pos]; rfl) (by simp only [World.cell?, World.alloc, Array.getElem?_push, if_pos]; rfl)).mono ?_; rintro e w' ⟨rfl, rfl⟩)
 go_ret
 exact ⟨rfl, 1, _, by rw [← hW, alloc_eq_grow, grow_grow]⟩
def Gr (W w' : World) : Prop := ∃ q os, w' = grow (W.drewN q) os
theorem grow_drew (W : World) (q q' : Nat) (os os' : Array Obj) : grow ((grow (W.drewN q) os).drewN q') os' = grow (W.drewN (q + q')) (os ++ os') := by
 unfold grow World.drewN
 simp [Nat.add_assoc, Array.append_assoc]
theorem Gr.refl (W : World) : Gr W W := ⟨0, #[], by unfold grow World.drewN; simp⟩
theorem Gr.trans {a b c : World} (h : Gr a b) (k : Gr b c) : Gr a c := by
 obtain ⟨q, os, rfl⟩ := h
 obtain ⟨q', os', rfl⟩ := k
 exact ⟨_, _, grow_drew a q q' os os'⟩
theorem Gr.drew {a b : World} (h : Gr a b) : Gr a b.drew := h.trans ⟨1, #[], by unfold grow World.drewN World.drew; simp⟩
theorem Gr.alloc {a b : World} (h : Gr a b) (o : Obj) : Gr a (b.alloc o) := h.trans ⟨0, #[o], by rw [alloc_eq_grow]; rfl⟩
def orJ (a b c : Int) : Int := orI a (orI b c)
set_option maxHeartbeats 1000000 in
set_option maxRecDepth 100000 in
theorem Tryz.or269c (blk : Nat) (a b c : Int) (W : World) (h0 : W.cell? ⟨blk, 0, none⟩ = some (.int .i64 a)) (h1 : W.cell? ⟨blk, 1, none⟩ = some (.int .i64 b)) (h2 : W.cell? ⟨blk, 2, none⟩ = some (.int .i64 c)) :
  Calls Tryz.prog 269 #[.slice (some ⟨blk, 0, none⟩) 3 3] W fun e w' => e = .returned (.int .i64 (orJ a b c)) ∧ w' = W := by
 unfold orJ
 by_cases ha : a = 0
 ·subst ha
  by_cases hb : b = 0
  ·subst hb
   by_cases hc : c = 0
   ·subst hc
    go_enter Tryz.func269, Tryz.ntmps269
    go_wp2
    refine wp_loop_rounds 4 ?_
    rw [rounds_succ]
    go_wp2
    rw [rounds_succ]
    go_wp2
    rw [rounds_succ]
    go_wp2
    rw [rounds_succ]
    go_wp2
    go_ret
    exact ⟨rfl, rfl⟩
   ·go_enter Tryz.func269, Tryz.ntmps269
    go_wp2
    refine wp_loop_rounds 4 ?_
    rw [rounds_succ]
    go_wp2
    rw [rounds_succ]
    go_wp2
    rw [rounds_succ]
    go_wp2
    go_ret
    exact ⟨rfl, rfl⟩
  ·go_enter Tryz.func269, Tryz.ntmps269
   go_wp2
   refine wp_loop_rounds 4 ?_
   rw [rounds_succ]
   go_wp2
   rw [rounds_succ]
   go_wp2
   go_ret
   refine ⟨?_, rfl⟩
   unfold orI
   rw [if_pos rfl, if_neg hb]
   rfl
 ·go_enter Tryz.func269, Tryz.ntmps269
  go_wp2
  refine wp_loop_rounds 4 ?_
  rw [rounds_succ]
  go_wp2
  go_ret
  refine ⟨?_, rfl⟩
  unfold orI
  rw [if_neg ha]
  rfl
def cmpP (x y : Int × Int × Int) : Int := orJ (Lib.compareInt x.1 y.1) (Lib.compareInt x.2.1 y.2.1) (Lib.compareInt x.2.2 y.2.2)
set_option maxHeartbeats 2000000 in
set_option maxRecDepth 100000 in
theorem Tryz.order310 (x y : Int × Int × Int) (W : World) : Calls Tryz.prog 310 #[.agg #[.int .i64 x.1, .int .i64 x.2.1, .int .i64 x.2.2], .agg #[.int .i64 y.1, .int .i64 y.2.1, .int .i64 y.2.2]] W fun e w' => e = .returned (.int .i64 (cmpP x y)) ∧ ∃ q os', w' = grow (W.drewN q) os' := by
 have hc1 := fun W' => AnyG.cmp_Compare_int Tryz.cmp270 x.1 y.1 W'
 have hc2 := fun W' => AnyG.cmp_Compare_int Tryz.cmp270 x.2.1 y.2.1 W'
 have hc3 := fun W' => AnyG.cmp_Compare_int Tryz.cmp270 x.2.2 y.2.2 W'
 change ∀ W', Calls Tryz.prog 270 _ _ _ at hc1
 change ∀ W', Calls Tryz.prog 270 _ _ _ at hc2
 change ∀ W', Calls Tryz.prog 270 _ _ _ at hc3
 have hor := fun blk W' h0 h1 h2 => Tryz.or269c blk (Lib.compareInt x.1 y.1) (Lib.compareInt x.2.1 y.2.1) (Lib.compareInt x.2.2 y.2.2) W' h0 h1 h2
 unfold cmpP
 generalize Lib.compareInt x.1 y.1 = r1 at hc1 hor ⊢
 generalize Lib.compareInt x.2.1 y.2.1 = r2 at hc2 hor ⊢
 generalize Lib.compareInt x.2.2 y.2.2 = r3 at hc3 hor ⊢
 go_enter Tryz.func310, Tryz.ntmps310
 go_wp2
 obtain ⟨W2, hW2⟩ : ∃ W2, W2 = (W.alloc (.cells #[.int .i64 x.1, .int .i64 x.2.1, .int .i64 x.2.2] 423)).alloc (.cells #[.int .i64 y.1, .int .i64 y.2.1, .int .i64 y.2.2] 423) := ⟨_, rfl⟩
 rw [← hW2]
 obtain ⟨W3, hW3⟩ : ∃ W3, W3 = W2.drew := ⟨_, rfl⟩
 have hW3' := hW3
 have hp : W3.heap = (W.heap.push (.cells #[.int .i64 x.1, .int .i64 x.2.1, .int .i64 x.2.2] 423)).push (.cells #[.int .i64 y.1, .int .i64 y.2.1, .int .i64 y.2.2] 423) := by rw [hW3, hW2]; rfl
 have hb1 : W3.heap[W.heap.size]? = some (.cells #[.int .i64 x.1, .int .i64 x.2.1, .int .i64 x.2.2] 423) := by
  rw [hp, Array.getElem?_push, if_neg (by rw [Array.size_push]; omega), Array.getElem?_push, if_pos rfl]
 have hb2 : W3.heap[W.heap.size + 1]? = some (.cells #[.int .i64 y.1, .int .i64 y.2.1, .int .i64 y.2.2] 423) := by
  rw [hp, Array.getElem?_push, if_pos (by rw [Array.size_push])]
 have c1 : W3.cell? ⟨W.heap.size, 0, none⟩ = some (.int .i64 x.1) := by simp only [World.cell?, hb1]; rfl
 have c2 : W3.cell? ⟨W.heap.size, 1, none⟩ = some (.int .i64 x.2.1) := by simp only [World.cell?, hb1]; rfl
 have c3 : W3.cell? ⟨W.heap.size, 2, none⟩ = some (.int .i64 x.2.2) := by simp only [World.cell?, hb1]; rfl
 have c4 : W3.cell? ⟨W.heap.size + 1, 0, none⟩ = some (.int .i64 y.1) := by simp only [World.cell?, hb2]; rfl
 have c5 : W3.cell? ⟨W.heap.size + 1, 1, none⟩ = some (.int .i64 y.2.1) := by simp only [World.cell?, hb2]; rfl
 have c6 : W3.cell? ⟨W.heap.size + 1, 2, none⟩ = some (.int .i64 y.2.2) := by simp only [World.cell?, hb2]; rfl
 have hW : grow (W.drewN 1) #[.cells #[.int .i64 x.1, .int .i64 x.2.1, .int .i64 x.2.2] 423, .cells #[.int .i64 y.1, .int .i64 y.2.1, .int .i64 y.2.2] 423] = W3 := by
  rw [hW3, hW2, alloc_eq_grow, alloc_eq_grow, grow_grow]; rfl
 clear hW2 hW3 hp hb1 hb2
 refine wp_region_still_tail 19 (by kernel_rfl) (by kernel_rfl) ?_
 simp only [List.take_succ_cons, List.take_zero, List.drop_succ_cons, List.drop_zero]
 change wpStill _ _ W2.drew (fun a' => wpList _ _ _ _ a' W2.drew) _ _
 rw [← hW3']
 clear hW3'
 iterate 6 still_step
 still_call (hc1 _)
 iterate 6 still_step
 still_call (hc2 _)
 iterate 4 still_step
 still_call (hc3 _)
 refine wpStill_nil ?_
 go_wp2_with (go_at_call 269; refine (hor _ _ (by simp only [World.cell?, World.alloc, Array.getElem?_push, if_pos]; rfl) (by simp only [World.cell?, World.alloc, Array.getElem?_push, if_pos]; rfl) (by simp only [World.cell?, World.alloc, Array.getElem?_push, if_pos]; rfl)).mono ?_; rintro e w' ⟨rfl, rfl⟩)
 go_ret
 exact ⟨rfl, 1, _, by rw [← hW, alloc_eq_grow, grow_grow]⟩
def cmpS (x y : Int × Int × Int × Int × Int) : Int := orJ (Lib.compareInt x.1 y.1) (Lib.compareInt x.2.1 y.2.1) (cmpR (x.2.2.1, x.2.2.2.1) (y.2.2.1, y.2.2.2.1))
set_option maxHeartbeats 4000000 in
set_option maxRecDepth 100000 in
theorem Tryz.order313 (x y : Int × Int × Int × Int × Int) (W : World) : Calls Tryz.prog 313 #[.agg #[.int .i64 x.1, .int .i64 x.2.1, .int .i64 x.2.2.1, .int .i64 x.2.2.2.1, .int .i64 x.2.2.2.2], .agg #[.int .i64 y.1, .int .i64 y.2.1, .int .i64 y.2.2.1, .int .i64 y.2.2.2.1, .int .i64 y.2.2.2.2]] W fun e w' => e = .returned (.int .i64 (cmpS x y)) ∧ ∃ q os', w' = grow (W.drewN q) os' := by
 have hc1 := fun W' => AnyG.cmp_Compare_int Tryz.cmp270 x.1 y.1 W'
 have hc2 := fun W' => AnyG.cmp_Compare_int Tryz.cmp270 x.2.1 y.2.1 W'
 have hc3 : ∀ W', Calls Tryz.prog 250 #[.agg #[.int .i64 x.2.2.1, .int .i64 x.2.2.2.1], .agg #[.int .i64 y.2.2.1, .int .i64 y.2.2.2.1]] W' fun e w' => e = .returned (.int .i64 (cmpR (x.2.2.1, x.2.2.2.1) (y.2.2.1, y.2.2.2.1))) ∧ Gr W' w' := fun W' => Tryz.compare250 (x.2.2.1, x.2.2.2.1) (y.2.2.1, y.2.2.2.1) W'
 change ∀ W', Calls Tryz.prog 270 _ _ _ at hc1
 change ∀ W', Calls Tryz.prog 270 _ _ _ at hc2
 have hor := fun blk W' h0 h1 h2 => Tryz.or269c blk (Lib.compareInt x.1 y.1) (Lib.compareInt x.2.1 y.2.1) (cmpR (x.2.2.1, x.2.2.2.1) (y.2.2.1, y.2.2.2.1)) W' h0 h1 h2
 unfold cmpS
 generalize Lib.compareInt x.1 y.1 = r1 at hc1 hor ⊢
 generalize Lib.compareInt x.2.1 y.2.1 = r2 at hc2 hor ⊢
 generalize cmpR (x.2.2.1, x.2.2.2.1) (y.2.2.1, y.2.2.2.1) = r3 at hc3 hor ⊢
 go_enter Tryz.func313, Tryz.ntmps313
 go_wp2
 obtain ⟨W2, hW2⟩ : ∃ W2, W2 = (W.alloc (.cells #[.int .i64 x.1, .int .i64 x.2.1, .int .i64 x.2.2.1, .int .i64 x.2.2.2.1, .int .i64 x.2.2.2.2] 378)).alloc (.cells #[.int .i64 y.1, .int .i64 y.2.1, .int .i64 y.2.2.1, .int .i64 y.2.2.2.1, .int .i64 y.2.2.2.2] 378) := ⟨_, rfl⟩
 rw [← hW2]
 obtain ⟨W3, hW3⟩ : ∃ W3, W3 = W2.drew := ⟨_, rfl⟩
 have hW3' := hW3
 have hp : W3.heap = (W.heap.push (.cells #[.int .i64 x.1, .int .i64 x.2.1, .int .i64 x.2.2.1, .int .i64 x.2.2.2.1, .int .i64 x.2.2.2.2] 378)).push (.cells #[.int .i64 y.1, .int .i64 y.2.1, .int .i64 y.2.2.1, .int .i64 y.2.2.2.1, .int .i64 y.2.2.2.2] 378) := by rw [hW3, hW2]; rfl
 have hb1 : W3.heap[W.heap.size]? = some (.cells #[.int .i64 x.1, .int .i64 x.2.1, .int .i64 x.2.2.1, .int .i64 x.2.2.2.1, .int .i64 x.2.2.2.2] 378) := by
  rw [hp, Array.getElem?_push, if_neg (by rw [Array.size_push]; omega), Array.getElem?_push, if_pos rfl]
 have hb2 : W3.heap[W.heap.size + 1]? = some (.cells #[.int .i64 y.1, .int .i64 y.2.1, .int .i64 y.2.2.1, .int .i64 y.2.2.2.1, .int .i64 y.2.2.2.2] 378) := by
  rw [hp, Array.getElem?_push, if_pos (by rw [Array.size_push])]
 have c0 : W3.cell? ⟨W.heap.size, 0, none⟩ = some (.int .i64 x.1) := by simp only [World.cell?, hb1]; rfl
 have c1 : W3.cell? ⟨W.heap.size, 1, none⟩ = some (.int .i64 x.2.1) := by simp only [World.cell?, hb1]; rfl
 have c2 : W3.cell? ⟨W.heap.size, 2, none⟩ = some (.int .i64 x.2.2.1) := by simp only [World.cell?, hb1]; rfl
 have c3 : W3.cell? ⟨W.heap.size, 3, none⟩ = some (.int .i64 x.2.2.2.1) := by simp only [World.cell?, hb1]; rfl
 have d0 : W3.cell? ⟨W.heap.size + 1, 0, none⟩ = some (.int .i64 y.1) := by simp only [World.cell?, hb2]; rfl
 have d1 : W3.cell? ⟨W.heap.size + 1, 1, none⟩ = some (.int .i64 y.2.1) := by simp only [World.cell?, hb2]; rfl
 have d2 : W3.cell? ⟨W.heap.size + 1, 2, none⟩ = some (.int .i64 y.2.2.1) := by simp only [World.cell?, hb2]; rfl
 have d3 : W3.cell? ⟨W.heap.size + 1, 3, none⟩ = some (.int .i64 y.2.2.2.1) := by simp only [World.cell?, hb2]; rfl
 have hG : Gr W W3 := by rw [hW3, hW2]; exact (((Gr.refl W).alloc _).alloc _).drew
 clear hW2 hW3 hp hb1 hb2
 refine wp_region_still_tail 18 (by kernel_rfl) (by kernel_rfl) ?_
 simp only [List.take_succ_cons, List.take_zero, List.drop_succ_cons, List.drop_zero]
 change wpStill _ _ W2.drew (fun a' => wpList _ _ _ _ a' W2.drew) _ _
 rw [← hW3']
 clear hW3'
 iterate 6 still_step
 still_call (hc1 _)
 iterate 6 still_step
 still_call (hc2 _)
 iterate 4 still_step
 refine wpStill_nil ?_
 go_wp2_with (first | (go_at_call 250; refine (hc3 _).mono ?_; rintro e w1 ⟨rfl, hg1⟩) | (go_at_call 269; refine (hor _ _ (by simp only [World.cell?, World.alloc, Array.getElem?_push, if_pos]; rfl) (by simp only [World.cell?, World.alloc, Array.getElem?_push, if_pos]; rfl) (by simp only [World.cell?, World.alloc, Array.getElem?_push, if_pos]; rfl)).mono ?_; rintro e w' ⟨rfl, rfl⟩))
 go_ret
 exact ⟨rfl, (hG.trans hg1).alloc _⟩
def ltP (x y : Int × Int × Int) : Prop := x.1 < y.1 ∨ x.1 = y.1 ∧ (x.2.1 < y.2.1 ∨ x.2.1 = y.2.1 ∧ x.2.2 < y.2.2)
def ltS (x y : Int × Int × Int × Int × Int) : Prop := x.1 < y.1 ∨ x.1 = y.1 ∧ (x.2.1 < y.2.1 ∨ x.2.1 = y.2.1 ∧ (x.2.2.1 < y.2.2.1 ∨ x.2.2.1 = y.2.2.1 ∧ x.2.2.2.1 < y.2.2.2.1))
instance (x y : Int × Int × Int) : Decidable (ltP x y) := by unfold ltP; infer_instance
instance (x y : Int × Int × Int × Int × Int) : Decidable (ltS x y) := by unfold ltS; infer_instance
theorem compareInt_cases (a b : Int) : (a < b ∧ Lib.compareInt a b = -1) ∨ (a = b ∧ Lib.compareInt a b = 0) ∨ (b < a ∧ Lib.compareInt a b = 1) := by
 unfold Lib.compareInt
 rcases Int.lt_trichotomy a b with h | h | h
 ·exact .inl ⟨h, by rw [if_pos h]⟩
 ·subst h; exact .inr (.inl ⟨rfl, by simp⟩)
 ·exact .inr (.inr ⟨h, by rw [if_neg (by omega)]; rw [if_pos h]⟩)
theorem orI_neg (b : Int) : orI (-1) b = -1 := rfl
theorem orI_one (b : Int) : orI 1 b = 1 := rfl
theorem orI_zero (b : Int) : orI 0 b = b := rfl
theorem cmpP_lt (x y : Int × Int × Int) : cmpP x y < 0 ↔ ltP x y := by
 unfold cmpP orJ ltP
 rcases compareInt_cases x.1 y.1 with ⟨h1, e1⟩ | ⟨h1, e1⟩ | ⟨h1, e1⟩ <;> rw [e1] <;> simp only [orI_neg, orI_one, orI_zero]
 ·omega
 ·rcases compareInt_cases x.2.1 y.2.1 with ⟨h2, e2⟩ | ⟨h2, e2⟩ | ⟨h2, e2⟩ <;> rw [e2] <;> simp only [orI_neg, orI_one, orI_zero]
  ·omega
  ·rcases compareInt_cases x.2.2 y.2.2 with ⟨h3, e3⟩ | ⟨h3, e3⟩ | ⟨h3, e3⟩ <;> rw [e3] <;> omega
  ·omega
 ·omega
theorem cmpS_lt (x y : Int × Int × Int × Int × Int) : cmpS x y < 0 ↔ ltS x y := by
 unfold cmpS orJ cmpR ltS
 simp only
 rcases compareInt_cases x.1 y.1 with ⟨h1, e1⟩ | ⟨h1, e1⟩ | ⟨h1, e1⟩ <;> rw [e1] <;> simp only [orI_neg, orI_one, orI_zero]
 ·omega
 ·rcases compareInt_cases x.2.1 y.2.1 with ⟨h2, e2⟩ | ⟨h2, e2⟩ | ⟨h2, e2⟩ <;> rw [e2] <;> simp only [orI_neg, orI_one, orI_zero]
  ·omega
  ·rcases compareInt_cases x.2.2.1 y.2.2.1 with ⟨h3, e3⟩ | ⟨h3, e3⟩ | ⟨h3, e3⟩ <;> rw [e3] <;> simp only [orI_neg, orI_one, orI_zero]
   ·omega
   ·rcases compareInt_cases x.2.2.2.1 y.2.2.2.1 with ⟨h4, e4⟩ | ⟨h4, e4⟩ | ⟨h4, e4⟩ <;> rw [e4] <;> omega
   ·omega
  ·omega
 ·omega
theorem Tryz.ltPP (x y : Int × Int × Int) : ltOf cmpP x y = decide (ltP x y) := by
 unfold ltOf
 by_cases h : ltP x y
 ·rw [decide_eq_true h, decide_eq_true ((cmpP_lt x y).2 h)]
 ·rw [decide_eq_false h, decide_eq_false fun hc => h ((cmpP_lt x y).1 hc)]
theorem Tryz.ltSS (x y : Int × Int × Int × Int × Int) : ltOf cmpS x y = decide (ltS x y) := by
 unfold ltOf
 by_cases h : ltS x y
 ·rw [decide_eq_true h, decide_eq_true ((cmpS_lt x y).2 h)]
 ·rw [decide_eq_false h, decide_eq_false fun hc => h ((cmpS_lt x y).1 hc)]
theorem Tryz.swoP : SWO (ltOf cmpP) where
 irrefl x := by rw [Tryz.ltPP]; exact decide_eq_false (by unfold ltP; omega)
 trans x y z h1 h2 := by
  rw [Tryz.ltPP] at h1 h2 ⊢
  have h1 := of_decide_eq_true h1
  have h2 := of_decide_eq_true h2
  refine decide_eq_true ?_
  unfold ltP at *; omega
 ntrans x y z h1 h2 := by
  rw [Tryz.ltPP] at h1 h2 ⊢
  have h1 := of_decide_eq_false h1
  have h2 := of_decide_eq_false h2
  refine decide_eq_false ?_
  unfold ltP at *; omega
theorem Tryz.swoS : SWO (ltOf cmpS) where
 irrefl x := by rw [Tryz.ltSS]; exact decide_eq_false (by unfold ltS; omega)
 trans x y z h1 h2 := by
  rw [Tryz.ltSS] at h1 h2 ⊢
  have h1 := of_decide_eq_true h1
  have h2 := of_decide_eq_true h2
  refine decide_eq_true ?_
  unfold ltS at *; omega
 ntrans x y z h1 h2 := by
  rw [Tryz.ltSS] at h1 h2 ⊢
  have h1 := of_decide_eq_false h1
  have h2 := of_decide_eq_false h2
  refine decide_eq_false ?_
  unfold ltS at *; omega
end Go.Proofs
