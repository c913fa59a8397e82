import Derived.Test.YtafmabnolelknaaGreatDoorDG12
import Derived.Shelf.SlSortCmp.NoneTotal
import Derived.Shelf.SlicesG.Cmp
import Derived.Shelf.Lay
import Derived.StillTailTactics
import Derived.Deep.RegionHeld3
import Derived.Ground.SlsfProg
import Derived.Ground.SlgcProg
import Derived.Test.YtafmabnolelknaaGreatDoorProg
import Derived.WalkKit
import Derived.Shelf.GgSortFunc.InsertionK
import Derived.Sort.Grow
import Derived.Deep.Draws
import Derived.KernelRfl
namespace Go.Proofs
open Go.Shelf Go.RowKit Go.Lib Go.Sort
def Tryz.cmp259_ren:Go.Shelf.Ren:=⟨λ|5=>259|7=>325|n=>n,λ|22=>3|3=>3|4=>4|n=>n,λ|n=>n⟩
theorem Tryz.cmp259:Go.Proofs.SlLaysC2.n5 Tryz.prog Tryz.cmp259_ren:={
 mixed:=by kernel_rfl
 f5:=⟨Tryz.f259.name,by decide,Tryz.func259.trans (congrArg some (by kernel_rfl))⟩
 f7:=⟨Tryz.f325.name,by decide,Tryz.func325.trans (congrArg some (by kernel_rfl))⟩
 t3:=Tryz.underlying3
 a3:=Tryz.isAgg3
 z3:=Tryz.sizeOf3
 v3:=Tryz.zeroValue3
 t4:=Tryz.underlying4
 a4:=Tryz.isAgg4
 z4:=Tryz.sizeOf4
 v4:=Tryz.zeroValue4
 t22:=Tryz.underlying3
 a22:=Tryz.isAgg3
 z22:=Tryz.sizeOf3
 v22:=Tryz.zeroValue3}
def Tryz.sort132_ren:Go.Shelf.Ren:=⟨λ|6=>132|15=>199|14=>198|28=>278|29=>279|20=>270|21=>271|22=>272|23=>273|24=>274|25=>275|26=>276|27=>277|46=>340|47=>341|48=>342|49=>343|50=>344|57=>391|n=>n,λ|22=>28|24=>32|25=>144|3=>3|39=>230|0=>0|53=>71|55=>383|4=>4|46=>375|45=>374|50=>379|5=>5|9=>9|66=>432|70=>436|76=>475|77=>476|n=>n,λ|n=>n⟩
theorem Tryz.sort132:Go.Proofs.SlLaysF0.n6 Tryz.prog Tryz.sort132_ren:={
 mixed:=by kernel_rfl
 f6:=⟨Tryz.f132.name,by decide,Tryz.func132.trans (congrArg some (by kernel_rfl))⟩
 f14:=⟨Tryz.f198.name,by decide,Tryz.func198.trans (congrArg some (by kernel_rfl))⟩
 f15:=Tryz.func199.trans (congrArg some (by kernel_rfl))
 f20:=⟨Tryz.f270.name,by decide,Tryz.func270.trans (congrArg some (by kernel_rfl))⟩
 f21:=⟨Tryz.f271.name,by decide,Tryz.func271.trans (congrArg some (by kernel_rfl))⟩
 f22:=⟨Tryz.f272.name,by decide,Tryz.func272.trans (congrArg some (by kernel_rfl))⟩
 f23:=⟨Tryz.f273.name,by decide,Tryz.func273.trans (congrArg some (by kernel_rfl))⟩
 f24:=⟨Tryz.f274.name,by decide,Tryz.func274.trans (congrArg some (by kernel_rfl))⟩
 f25:=⟨Tryz.f275.name,by decide,Tryz.func275.trans (congrArg some (by kernel_rfl))⟩
 f26:=⟨Tryz.f276.name,by decide,Tryz.func276.trans (congrArg some (by kernel_rfl))⟩
 f27:=⟨Tryz.f277.name,by decide,Tryz.func277.trans (congrArg some (by kernel_rfl))⟩
 f28:=Tryz.func278.trans (congrArg some (by kernel_rfl))
 f29:=Tryz.func279.trans (congrArg some (by kernel_rfl))
 f46:=⟨Tryz.f340.name,by decide,Tryz.func340.trans (congrArg some (by kernel_rfl))⟩
 f47:=Tryz.func341.trans (congrArg some (by kernel_rfl))
 f48:=Tryz.func342.trans (congrArg some (by kernel_rfl))
 f49:=⟨Tryz.f343.name,by decide,Tryz.func343.trans (congrArg some (by kernel_rfl))⟩
 f50:=⟨Tryz.f344.name,by decide,Tryz.func344.trans (congrArg some (by kernel_rfl))⟩
 f57:=⟨Tryz.f391.name,by decide,Tryz.func391.trans (congrArg some (by kernel_rfl))⟩
 t0:=Tryz.underlying0
 a0:=Tryz.isAgg0
 z0:=Tryz.sizeOf0
 v0:=Tryz.zeroValue0
 t3:=Tryz.underlying3
 a3:=Tryz.isAgg3
 z3:=Tryz.sizeOf3
 v3:=Tryz.zeroValue3
 t4:=Tryz.underlying4
 a4:=Tryz.isAgg4
 z4:=Tryz.sizeOf4
 v4:=Tryz.zeroValue4
 t5:=Tryz.underlying5
 a5:=Tryz.isAgg5
 z5:=Tryz.sizeOf5
 v5:=Tryz.zeroValue5
 t9:=Tryz.underlying9
 a9:=Tryz.isAgg9
 z9:=Tryz.sizeOf9
 v9:=Tryz.zeroValue9
 t22:=Tryz.underlying28
 a22:=Tryz.isAgg28
 z22:=Tryz.sizeOf28
 v22:=Tryz.zeroValue28
 t25:=Tryz.underlying144
 a25:=Tryz.isAgg144
 z25:=Tryz.sizeOf144
 v25:=Tryz.zeroValue144
 t39:=Tryz.underlying230
 a39:=Tryz.isAgg230
 z39:=Tryz.sizeOf230
 v39:=Tryz.zeroValue230
 t45:=Tryz.underlying374
 a45:=Tryz.isAgg374
 z45:=Tryz.sizeOf374
 v45:=Tryz.zeroValue374
 t46:=Tryz.underlying375
 a46:=Tryz.isAgg375
 z46:=Tryz.sizeOf375
 v46:=Tryz.zeroValue375
 t50:=Tryz.underlying379
 a50:=Tryz.isAgg379
 z50:=Tryz.sizeOf379
 v50:=Tryz.zeroValue379
 t53:=Tryz.underlying71
 a53:=Tryz.isAgg71
 z53:=Tryz.sizeOf71
 v53:=Tryz.zeroValue71
 t55:=Tryz.underlying383
 a55:=Tryz.isAgg383
 z55:=Tryz.sizeOf383
 v55:=Tryz.zeroValue383
 t66:=Tryz.underlying432
 a66:=Tryz.isAgg432
 z66:=Tryz.sizeOf432
 v66:=Tryz.zeroValue432
 t70:=Tryz.underlying436
 a70:=Tryz.isAgg436
 z70:=Tryz.sizeOf436
 v70:=Tryz.zeroValue436
 t76:=Tryz.underlying475
 a76:=Tryz.isAgg475
 z76:=Tryz.sizeOf475
 v76:=Tryz.zeroValue475
 t77:=Tryz.underlying476
 a77:=Tryz.isAgg476
 z77:=Tryz.sizeOf476
 v77:=Tryz.zeroValue476}
def orI(a b:Int):Int:=if a=0 then b else a
def cmpR(x y:Int×Int):Int:=orI (Lib.compareInt x.1 y.1) (Lib.compareInt x.2 y.2)
set_option maxHeartbeats 1000000 in
set_option maxRecDepth 100000 in
theorem Tryz.or200 (blk:Nat)(a b:Int)(W:World)(h0:W.cell? ⟨blk,0,none⟩=some (.int .i64 a))(h1:W.cell? ⟨blk,1,none⟩=some (.int .i64 b)):
  Calls Tryz.prog 200 #[.slice (some ⟨blk,0,none⟩) 2 2] W λe w'=>e= .returned (.int .i64 (orI a b))/\w'=W:=by
 by_cases ha:a=0
 ·subst ha
  by_cases hb:b=0
  ·subst hb
   go_enter Tryz.func200,Tryz.ntmps200
   go_wp2
   refine wp_loop_rounds 3 ?_
   rw[rounds_succ]
   go_wp2
   rw[rounds_succ]
   go_wp2
   rw[rounds_succ]
   go_wp2
   go_ret
   exact⟨rfl,rfl⟩
  ·go_enter Tryz.func200,Tryz.ntmps200
   go_wp2
   refine wp_loop_rounds 3 ?_
   rw[rounds_succ]
   go_wp2
   rw[rounds_succ]
   go_wp2
   go_ret
   exact⟨rfl,rfl⟩
 ·go_enter Tryz.func200,Tryz.ntmps200
  go_wp2
  refine wp_loop_rounds 3 ?_
  rw[rounds_succ]
  go_wp2
  go_ret
  refine⟨?_,rfl⟩
  unfold orI
  rw[if_neg ha]
  rfl
set_option maxHeartbeats 1000000 in
set_option maxRecDepth 100000 in
theorem Tryz.compare201 (x y:Int×Int)(W:World):Calls Tryz.prog 201 #[.agg #[.int .i64 x.1,.int .i64 x.2],.agg #[.int .i64 y.1,.int .i64 y.2]] W λe w'=>e= .returned (.int .i64 (cmpR x y))/\∃q os',w'=grow (W.drewN q) os':=by
 have hc1:=λW'=>AnyG.cmp_Compare_int Tryz.cmp259 x.1 y.1 W'
 have hc2:=λW'=>AnyG.cmp_Compare_int Tryz.cmp259 x.2 y.2 W'
 change ∀W',Calls Tryz.prog 259 _ _ _ at hc1
 change ∀W',Calls Tryz.prog 259 _ _ _ at hc2
 have hor:=λblk W' h0 h1=>Tryz.or200 blk (Lib.compareInt x.1 y.1) (Lib.compareInt x.2 y.2) W' h0 h1
 unfold cmpR
 generalize Lib.compareInt x.1 y.1=r1 at hc1 hor ⊢
 generalize Lib.compareInt x.2 y.2=r2 at hc2 hor ⊢
 go_enter Tryz.func201,Tryz.ntmps201
 go_wp2
 obtain⟨W2,hW2⟩:∃W2,W2=(W.alloc (.cells #[.int .i64 x.1,.int .i64 x.2] 24)).alloc (.cells #[.int .i64 y.1,.int .i64 y.2] 24):=⟨_,rfl⟩
 rw[<-hW2]
 obtain⟨W3,hW3⟩:∃W3,W3=W2.drew:=⟨_,rfl⟩
 have hW3':=hW3
 have hp:W3.heap=(W.heap.push (.cells #[.int .i64 x.1,.int .i64 x.2] 24)).push (.cells #[.int .i64 y.1,.int .i64 y.2] 24):=by rw[hW3,hW2];rfl
 have hb1:W3.heap[W.heap.size]?=some (.cells #[.int .i64 x.1,.int .i64 x.2] 24):=by
  rw[hp,Array.getElem?_push,if_neg (by rw[Array.size_push];omega),Array.getElem?_push,if_pos rfl]
 have hb2:W3.heap[W.heap.size+1]?=some (.cells #[.int .i64 y.1,.int .i64 y.2] 24):=by
  rw[hp,Array.getElem?_push,if_pos (by rw[Array.size_push])]
 have c1:W3.cell? ⟨W.heap.size,0,none⟩=some (.int .i64 x.1):=by simp only[World.cell?,hb1];rfl
 have c2:W3.cell? ⟨W.heap.size,1,none⟩=some (.int .i64 x.2):=by simp only[World.cell?,hb1];rfl
 have c3:W3.cell? ⟨W.heap.size+1,0,none⟩=some (.int .i64 y.1):=by simp only[World.cell?,hb2];rfl
 have c4:W3.cell? ⟨W.heap.size+1,1,none⟩=some (.int .i64 y.2):=by simp only[World.cell?,hb2];rfl
 have hW:grow (W.drewN 1) #[.cells #[.int .i64 x.1,.int .i64 x.2] 24,.cells #[.int .i64 y.1,.int .i64 y.2] 24]=W3:=by
  rw[hW3,hW2,alloc_eq_grow,alloc_eq_grow,grow_grow];rfl
 clear hW2 hW3 hp hb1 hb2
 refine wp_region_still_tail 10 (by kernel_rfl) (by kernel_rfl) ?_
 simp only[List.take_succ_cons,List.take_zero,List.drop_succ_cons,List.drop_zero]
 change wpStill _ _ W2.drew (λa'=>wpList _ _ _ _ a' W2.drew) _ _
 rw[<-hW3']
 clear hW3'
 still_step
 still_step
 still_step
 still_step
 still_call (hc1 _)
 still_step
 still_step
 still_step
 still_step
 still_call (hc2 _)
 refine wpStill_nil ?_
 go_wp2_with (go_at_call 200;refine(hor _ _ (by simp only[World.cell?,World.alloc,Array.getElem?_push,if_pos];rfl) (by simp only[World.cell?,World.alloc,Array.getElem?_push,if_pos];rfl)).mono ?_;rintro e w' ⟨rfl,rfl⟩)
 go_ret
 exact⟨rfl,1,_,by rw[<-hW,alloc_eq_grow,grow_grow]⟩
set_option maxHeartbeats 1000000 in
set_option maxRecDepth 100000 in
theorem Tryz.compare202 (x y:Int×Int)(W:World):Calls Tryz.prog 202 #[.agg #[.int .i64 x.1,.int .i64 x.2],.agg #[.int .i64 y.1,.int .i64 y.2]] W λe w'=>e= .returned (.int .i64 (cmpR x y))/\∃q os',w'=grow (W.drewN q) os':=by
 have hc1:=λW'=>AnyG.cmp_Compare_int Tryz.cmp259 x.1 y.1 W'
 have hc2:=λW'=>AnyG.cmp_Compare_int Tryz.cmp259 x.2 y.2 W'
 change ∀W',Calls Tryz.prog 259 _ _ _ at hc1
 change ∀W',Calls Tryz.prog 259 _ _ _ at hc2
 have hor:=λblk W' h0 h1=>Tryz.or200 blk (Lib.compareInt x.1 y.1) (Lib.compareInt x.2 y.2) W' h0 h1
 unfold cmpR
 generalize Lib.compareInt x.1 y.1=r1 at hc1 hor ⊢
 generalize Lib.compareInt x.2 y.2=r2 at hc2 hor ⊢
 go_enter Tryz.func202,Tryz.ntmps202
 go_wp2
 obtain⟨W2,hW2⟩:∃W2,W2=(W.alloc (.cells #[.int .i64 x.1,.int .i64 x.2] 30)).alloc (.cells #[.int .i64 y.1,.int .i64 y.2] 30):=⟨_,rfl⟩
 rw[<-hW2]
 obtain⟨W3,hW3⟩:∃W3,W3=W2.drew:=⟨_,rfl⟩
 have hW3':=hW3
 have hp:W3.heap=(W.heap.push (.cells #[.int .i64 x.1,.int .i64 x.2] 30)).push (.cells #[.int .i64 y.1,.int .i64 y.2] 30):=by rw[hW3,hW2];rfl
 have hb1:W3.heap[W.heap.size]?=some (.cells #[.int .i64 x.1,.int .i64 x.2] 30):=by
  rw[hp,Array.getElem?_push,if_neg (by rw[Array.size_push];omega),Array.getElem?_push,if_pos rfl]
 have hb2:W3.heap[W.heap.size+1]?=some (.cells #[.int .i64 y.1,.int .i64 y.2] 30):=by
  rw[hp,Array.getElem?_push,if_pos (by rw[Array.size_push])]
 have c1:W3.cell? ⟨W.heap.size,0,none⟩=some (.int .i64 x.1):=by simp only[World.cell?,hb1];rfl
 have c2:W3.cell? ⟨W.heap.size,1,none⟩=some (.int .i64 x.2):=by simp only[World.cell?,hb1];rfl
 have c3:W3.cell? ⟨W.heap.size+1,0,none⟩=some (.int .i64 y.1):=by simp only[World.cell?,hb2];rfl
 have c4:W3.cell? ⟨W.heap.size+1,1,none⟩=some (.int .i64 y.2):=by simp only[World.cell?,hb2];rfl
 have hW:grow (W.drewN 1) #[.cells #[.int .i64 x.1,.int .i64 x.2] 30,.cells #[.int .i64 y.1,.int .i64 y.2] 30]=W3:=by
  rw[hW3,hW2,alloc_eq_grow,alloc_eq_grow,grow_grow];rfl
 clear hW2 hW3 hp hb1 hb2
 refine wp_region_still_tail 10 (by kernel_rfl) (by kernel_rfl) ?_
 simp only[List.take_succ_cons,List.take_zero,List.drop_succ_cons,List.drop_zero]
 change wpStill _ _ W2.drew (λa'=>wpList _ _ _ _ a' W2.drew) _ _
 rw[<-hW3']
 clear hW3'
 still_step
 still_step
 still_step
 still_step
 still_call (hc1 _)
 still_step
 still_step
 still_step
 still_step
 still_call (hc2 _)
 refine wpStill_nil ?_
 go_wp2_with (go_at_call 200;refine(hor _ _ (by simp only[World.cell?,World.alloc,Array.getElem?_push,if_pos];rfl) (by simp only[World.cell?,World.alloc,Array.getElem?_push,if_pos];rfl)).mono ?_;rintro e w' ⟨rfl,rfl⟩)
 go_ret
 exact⟨rfl,1,_,by rw[<-hW,alloc_eq_grow,grow_grow]⟩
def Gr(W w':World):Prop:=∃q os,w'=grow (W.drewN q) os
theorem zRR (W:World)(q q':Nat)(os os':Array Obj):grow ((grow (W.drewN q) os).drewN q') os'=grow (W.drewN (q+q')) (os++os'):=by
 unfold grow World.drewN
 simp[Nat.add_assoc,Array.append_assoc]
theorem Gr.refl (W:World):Gr W W:=⟨0,#[],by unfold grow World.drewN;simp⟩
theorem Gr.trans {a b c:World}(h:Gr a b)(k:Gr b c):Gr a c:=by
 obtain⟨q,os,rfl⟩:=h
 obtain⟨q',os',rfl⟩:=k
 exact⟨_,_,zRR a q q' os os'⟩
theorem Gr.drew {a b:World}(h:Gr a b):Gr a b.drew:=h.trans ⟨1,#[],by unfold grow World.drewN World.drew;simp⟩
theorem Gr.alloc {a b:World}(h:Gr a b)(o:Obj):Gr a (b.alloc o):=h.trans ⟨0,#[o],by rw[alloc_eq_grow];rfl⟩
theorem Gr.cell {a b:World}(h:Gr a b){x:Addr}{v:Value}(hc:a.cell? x=some v):b.cell? x=some v:=by
 obtain⟨q,os,rfl⟩:=h
 unfold World.cell? at hc ⊢
 show(match(a.heap++os)[x.block]? with |some (.cells c _ _)=>if x.spot.isSome then none else c[x.off]?|_=>none)=some v
 have hlt:x.block<a.heap.size:=by
  rcases Nat.lt_or_ge x.block a.heap.size with h|h
  ·exact h
  ·rw[Array.getElem?_eq_none h] at hc;cases hc
 rw[Array.getElem?_append_left hlt]
 exact hc
theorem keep8 {a b:World}{x1 x2 x3 x4 x5 x6 x7 x8:Addr}{v1 v2 v3 v4 v5 v6 v7 v8:Value}(h:Gr a b)(hS:a.cell? x1=some v1/\a.cell? x2=some v2/\a.cell? x3=some v3/\a.cell? x4=some v4/\a.cell? x5=some v5/\a.cell? x6=some v6/\a.cell? x7=some v7/\a.cell? x8=some v8):
  b.cell? x1=some v1/\b.cell? x2=some v2/\b.cell? x3=some v3/\b.cell? x4=some v4/\b.cell? x5=some v5/\b.cell? x6=some v6/\b.cell? x7=some v7/\b.cell? x8=some v8:=by
 obtain⟨h1,h2,h3,h4,h5,h6,h7,h8⟩:=hS
 exact⟨h.cell h1,h.cell h2,h.cell h3,h.cell h4,h.cell h5,h.cell h6,h.cell h7,h.cell h8⟩
def cmpX(x y:Int×Int×Int×Int):Int:=orI (cmpR (x.1,x.2.1) (y.1,y.2.1)) (cmpR (x.2.2.1,x.2.2.2) (y.2.2.1,y.2.2.2))
set_option maxHeartbeats 4000000 in
set_option maxRecDepth 100000 in
theorem Tryz.compare133 (x y:Int×Int×Int×Int)(W:World):Calls Tryz.prog 133 #[.agg #[.int .i64 x.1,.int .i64 x.2.1,.int .i64 x.2.2.1,.int .i64 x.2.2.2],.agg #[.int .i64 y.1,.int .i64 y.2.1,.int .i64 y.2.2.1,.int .i64 y.2.2.2]] W λe w'=>e= .returned (.int .i64 (cmpX x y))/\∃q os',w'=grow (W.drewN q) os':=by
 have hc1:∀W',Calls Tryz.prog 201 #[.agg #[.int .i64 x.1,.int .i64 x.2.1],.agg #[.int .i64 y.1,.int .i64 y.2.1]] W' λe w'=>e= .returned (.int .i64 (cmpR (x.1,x.2.1) (y.1,y.2.1)))/\Gr W' w':=λW'=>Tryz.compare201 (x.1,x.2.1) (y.1,y.2.1) W'
 have hc2:∀W',Calls Tryz.prog 202 #[.agg #[.int .i64 x.2.2.1,.int .i64 x.2.2.2],.agg #[.int .i64 y.2.2.1,.int .i64 y.2.2.2]] W' λe w'=>e= .returned (.int .i64 (cmpR (x.2.2.1,x.2.2.2) (y.2.2.1,y.2.2.2)))/\Gr W' w':=λW'=>Tryz.compare202 (x.2.2.1,x.2.2.2) (y.2.2.1,y.2.2.2) W'
 have hor:=λblk W' h0 h1=>Tryz.or200 blk (cmpR (x.1,x.2.1) (y.1,y.2.1)) (cmpR (x.2.2.1,x.2.2.2) (y.2.2.1,y.2.2.2)) W' h0 h1
 unfold cmpX
 generalize cmpR (x.1,x.2.1) (y.1,y.2.1)=r1 at hc1 hor ⊢
 generalize cmpR (x.2.2.1,x.2.2.2) (y.2.2.1,y.2.2.2)=r2 at hc2 hor ⊢
 go_enter Tryz.func133,Tryz.ntmps133
 go_wp2
 obtain⟨W2,hW2⟩:∃W2,W2=(W.alloc (.cells #[.int .i64 x.1,.int .i64 x.2.1,.int .i64 x.2.2.1,.int .i64 x.2.2.2] 32)).alloc (.cells #[.int .i64 y.1,.int .i64 y.2.1,.int .i64 y.2.2.1,.int .i64 y.2.2.2] 32):=⟨_,rfl⟩
 rw[<-hW2]
 have hp:W2.heap=(W.heap.push (.cells #[.int .i64 x.1,.int .i64 x.2.1,.int .i64 x.2.2.1,.int .i64 x.2.2.2] 32)).push (.cells #[.int .i64 y.1,.int .i64 y.2.1,.int .i64 y.2.2.1,.int .i64 y.2.2.2] 32):=by rw[hW2];rfl
 have hb1:W2.heap[W.heap.size]?=some (.cells #[.int .i64 x.1,.int .i64 x.2.1,.int .i64 x.2.2.1,.int .i64 x.2.2.2] 32):=by
  rw[hp,Array.getElem?_push,if_neg (by rw[Array.size_push];omega),Array.getElem?_push,if_pos rfl]
 have hb2:W2.heap[W.heap.size+1]?=some (.cells #[.int .i64 y.1,.int .i64 y.2.1,.int .i64 y.2.2.1,.int .i64 y.2.2.2] 32):=by
  rw[hp,Array.getElem?_push,if_pos (by rw[Array.size_push])]
 have c0:W2.cell? ⟨W.heap.size,0,none⟩=some (.int .i64 x.1):=by simp only[World.cell?,hb1];rfl
 have c1:W2.cell? ⟨W.heap.size,1,none⟩=some (.int .i64 x.2.1):=by simp only[World.cell?,hb1];rfl
 have c2:W2.cell? ⟨W.heap.size,2,none⟩=some (.int .i64 x.2.2.1):=by simp only[World.cell?,hb1];rfl
 have c3:W2.cell? ⟨W.heap.size,3,none⟩=some (.int .i64 x.2.2.2):=by simp only[World.cell?,hb1];rfl
 have d0:W2.cell? ⟨W.heap.size+1,0,none⟩=some (.int .i64 y.1):=by simp only[World.cell?,hb2];rfl
 have d1:W2.cell? ⟨W.heap.size+1,1,none⟩=some (.int .i64 y.2.1):=by simp only[World.cell?,hb2];rfl
 have d2:W2.cell? ⟨W.heap.size+1,2,none⟩=some (.int .i64 y.2.2.1):=by simp only[World.cell?,hb2];rfl
 have d3:W2.cell? ⟨W.heap.size+1,3,none⟩=some (.int .i64 y.2.2.2):=by simp only[World.cell?,hb2];rfl
 have hG:Gr W W2:=by rw[hW2];exact((Gr.refl W).alloc _).alloc _
 clear hW2 hp hb1 hb2
 generalize W.heap.size+1=B2 at*
 generalize W.heap.size=B1 at*
 go_region_held3 (λw'=>w'.cell? ⟨B1,0,none⟩=some (.int .i64 x.1)/\w'.cell? ⟨B1,1,none⟩=some (.int .i64 x.2.1)/\w'.cell? ⟨B1,2,none⟩=some (.int .i64 x.2.2.1)/\w'.cell? ⟨B1,3,none⟩=some (.int .i64 x.2.2.2)/\w'.cell? ⟨B2,0,none⟩=some (.int .i64 y.1)/\w'.cell? ⟨B2,1,none⟩=some (.int .i64 y.2.1)/\w'.cell? ⟨B2,2,none⟩=some (.int .i64 y.2.2.1)/\w'.cell? ⟨B2,3,none⟩=some (.int .i64 y.2.2.2))
  (first|assumption|exact keep8 (by assumption) (by assumption)|exact keep8 ((Gr.refl _).alloc _) (by assumption)|exact keep8 (Gr.refl _).drew ⟨c0,c1,c2,c3,d0,d1,d2,d3⟩)
  (first|(go_at_call 201;refine(hc1 _).mono ?_;rintro e w1 ⟨rfl,hg1⟩)|(go_at_call 202;refine(hc2 _).mono ?_;rintro e w2 ⟨rfl,hg2⟩)|(go_at_call 200;refine(hor _ _ (by simp only[World.cell?,World.alloc,Array.getElem?_push,if_pos];rfl) (by simp only[World.cell?,World.alloc,Array.getElem?_push,if_pos];rfl)).mono ?_;rintro e w3 ⟨rfl,rfl⟩))
 all_goals go_wp2
 all_goals go_ret
 all_goals exact⟨rfl,((hG.drew.trans hg1).trans hg2).alloc _⟩
def encX(x:Int×Int×Int×Int):List Value:=[.int .i64 x.1,.int .i64 x.2.1,.int .i64 x.2.2.1,.int .i64 x.2.2.2]
theorem Tryz.ltX (x y:Int×Int×Int×Int):ltOf cmpX x y=decide (Go.Ent.ltE x y):=by
 have e:cmpX x y=Go.Ent.cmpE x y:=by
  unfold cmpX cmpR orI Go.Ent.cmpE Go.Ent.orI Go.Ent.cmp1 Lib.compareInt
  rfl
 unfold ltOf
 rw[e]
 by_cases h:Go.Ent.ltE x y
 ·rw[decide_eq_true (Go.Ent.cmpE_lt.2 h),decide_eq_true h]
 ·rw[decide_eq_false (λhc=>h (Go.Ent.cmpE_lt.1 hc)),decide_eq_false h]
theorem Tryz.swoX:SWO (ltOf cmpX) where
 irrefl x:=by rw[Tryz.ltX];exact decide_eq_false (by unfold Go.Ent.ltE;omega)
 trans x y z h1 h2:=by
  rw[Tryz.ltX] at h1 h2 ⊢
  have h1:=of_decide_eq_true h1
  have h2:=of_decide_eq_true h2
  refine decide_eq_true ?_
  unfold Go.Ent.ltE at*;omega
 ntrans x y z h1 h2:=by
  rw[Tryz.ltX] at h1 h2 ⊢
  have h1:=of_decide_eq_false h1
  have h2:=of_decide_eq_false h2
  refine decide_eq_false ?_
  unfold Go.Ent.ltE at*;omega
theorem Tryz.sortFunc132 (blk off cap:Nat)(d:Array (Int×Int×Int×Int))(w:World)(hH:HoldsK encX 4 w blk off d)(hblk:blk<w.heap.size)(hsz:d.size<4611686018427387904):
  Calls Tryz.prog 132 #[.slice (some ⟨blk,off,none⟩) d.size cap,.func (.func 133) #[] #[]] w λe w'=>e= .returned (.tuple #[])/\∃n os,w'=sortWorldK encX 4 w blk off n (d.toList.mergeSort λx y=> !(ltOf cmpX) y x).toArray os:=by
 have eg:∀args w,(callFunc 133 args).run Tryz.prog w= .ok (.enter 133 args) w:=enters_of Tryz.func133 (by kernel_rfl) rfl
 exact AnyQ.slices_SortFunc_total Tryz.sort132 4 Tryz.isAgg32 Tryz.sizeOf32 encX (λ_=>rfl) (λx v hv=>by simp[encX] at hv;rcases hv with rfl|rfl|rfl|rfl<;>rfl) cmpX Tryz.swoX 133 #[] blk off cap d w eg
  (λ_ _ _ _ x y=>Tryz.compare133 x y _) hH hblk hsz (λx y h1 h2=>by
   rw[Tryz.ltX] at h1 h2
   have h1:=of_decide_eq_false h1
   have h2:=of_decide_eq_false h2
   exact Go.Ent.leE_anti h2 h1)
theorem Tryz.sortFunc132_none (p:Option Addr)(cap:Nat)(w:World):Calls Tryz.prog 132 #[.slice p 0 cap,.func (.func 133) #[] #[]] w λe w'=>e= .returned (.tuple #[])/\w'=w:=
 AnyF.slices_SortFunc_none Tryz.sort132 p cap _ w
end Go.Proofs
