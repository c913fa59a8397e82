import Derived.Test.YtafmabnolelknaaGreatDoorEG15
import Derived.Shelf.SlIter.Nil
import Derived.Shelf.SortM.Plain
import Derived.Shelf.SortM.SortNone
import Derived.Ground.GgzProg
import Derived.Ground.SlgmProg
import Derived.Test.YtafmabnolelknaaGreatDoorProg
namespace Go.Proofs
open Go.RowKit Go.Maps Go.Sort Go.Shelf
def Tryz.keys125_ren : Go.Shelf.Ren := ⟨fun | 7 => 125 | 10 => 191 | n => n, fun | 23 => 167 | 26 => 9 | 3 => 166 | 28 => 215 | 0 => 0 | 27 => 214 | 33 => 295 | 4 => 4 | n => n, fun | n => n⟩
theorem Tryz.keys125 : Go.Proofs.SlLaysZ.n7 Tryz.prog Tryz.keys125_ren := {
  mixed := by kernel_rfl
  f7 := ⟨Tryz.f125.name, by decide, Tryz.func125.trans (congrArg some (by kernel_rfl))⟩
  f10 := ⟨Tryz.f191.name, by decide, Tryz.func191.trans (congrArg some (by kernel_rfl))⟩
  t0 := Tryz.underlying0
  a0 := Tryz.isAgg0
  z0 := Tryz.sizeOf0
  v0 := Tryz.zeroValue0
  t4 := Tryz.underlying4
  a4 := Tryz.isAgg4
  z4 := Tryz.sizeOf4
  v4 := Tryz.zeroValue4
  t23 := Tryz.underlying167
  a23 := Tryz.isAgg167
  z23 := Tryz.sizeOf167
  v23 := Tryz.zeroValue167
  t26 := Tryz.underlying9
  a26 := Tryz.isAgg9
  z26 := Tryz.sizeOf9
  v26 := Tryz.zeroValue9
  t27 := Tryz.underlying214
  a27 := Tryz.isAgg214
  z27 := Tryz.sizeOf214
  v27 := Tryz.zeroValue214
  t28 := Tryz.underlying215
  a28 := Tryz.isAgg215
  z28 := Tryz.sizeOf215
  v28 := Tryz.zeroValue215
  t33 := Tryz.underlying295
  a33 := Tryz.isAgg295
  z33 := Tryz.sizeOf295
  v33 := Tryz.zeroValue295 }
def Tryz.sorted124_ren : Go.Shelf.Ren := ⟨fun | 6 => 124 | 8 => 189 | 9 => 190 | 11 => 263 | 13 => 199 | 12 => 264 | 23 => 278 | 24 => 279 | 14 => 331 | 15 => 332 | 16 => 333 | 17 => 334 | 18 => 335 | 19 => 336 | 20 => 337 | 21 => 338 | 22 => 339 | 25 => 387 | 26 => 341 | 27 => 342 | 28 => 388 | 29 => 389 | 30 => 390 | 31 => 415 | n => n, fun | 26 => 9 | 28 => 215 | 24 => 212 | 0 => 0 | 3 => 3 | 37 => 230 | 48 => 71 | 50 => 383 | 4 => 4 | 40 => 375 | 39 => 374 | 45 => 379 | 5 => 5 | 9 => 9 | 51 => 432 | 55 => 436 | 57 => 475 | 58 => 476 | 33 => 295 | n => n, fun | n => n⟩
theorem Tryz.sorted124 : Go.Proofs.SlLaysZ.n6 Tryz.prog Tryz.sorted124_ren := {
  mixed := by kernel_rfl
  f6 := ⟨Tryz.f124.name, by decide, Tryz.func124.trans (congrArg some (by kernel_rfl))⟩
  f8 := ⟨Tryz.f189.name, by decide, Tryz.func189.trans (congrArg some (by kernel_rfl))⟩
  f11 := ⟨Tryz.f263.name, by decide, Tryz.func263.trans (congrArg some (by kernel_rfl))⟩
  t0 := Tryz.underlying0
  a0 := Tryz.isAgg0
  z0 := Tryz.sizeOf0
  v0 := Tryz.zeroValue0
  t24 := Tryz.underlying212
  a24 := Tryz.isAgg212
  z24 := Tryz.sizeOf212
  v24 := Tryz.zeroValue212
  t26 := Tryz.underlying9
  a26 := Tryz.isAgg9
  z26 := Tryz.sizeOf9
  v26 := Tryz.zeroValue9
  t28 := Tryz.underlying215
  a28 := Tryz.isAgg215
  z28 := Tryz.sizeOf215
  v28 := Tryz.zeroValue215
  i26 := by kernel_rfl }
def Tryz.sort190_ren : Go.Shelf.Ren := ⟨fun | 6 => 190 | 8 => 199 | 9 => 264 | 19 => 278 | 20 => 279 | 21 => 331 | 22 => 332 | 23 => 333 | 24 => 334 | 25 => 335 | 26 => 336 | 27 => 337 | 28 => 338 | 29 => 339 | 36 => 387 | 31 => 341 | 32 => 342 | 37 => 388 | 38 => 389 | 39 => 390 | 41 => 415 | n => n, fun | 27 => 212 | 29 => 9 | 3 => 3 | 32 => 230 | 26 => 212 | 0 => 0 | 44 => 71 | 46 => 383 | 4 => 4 | 36 => 375 | 35 => 374 | 41 => 379 | 5 => 5 | 9 => 9 | 53 => 432 | 57 => 436 | 63 => 475 | 64 => 476 | n => n, fun | n => n⟩
theorem Tryz.sort190 : Go.Proofs.SlLaysM.n6 Tryz.prog Tryz.sort190_ren := {
  mixed := by kernel_rfl
  f6 := ⟨Tryz.f190.name, by decide, Tryz.func190.trans (congrArg some (by kernel_rfl))⟩
  f8 := Tryz.func199.trans (congrArg some (by kernel_rfl))
  f9 := ⟨Tryz.f264.name, by decide, Tryz.func264.trans (congrArg some (by kernel_rfl))⟩
  f19 := Tryz.func278.trans (congrArg some (by kernel_rfl))
  f20 := Tryz.func279.trans (congrArg some (by kernel_rfl))
  f21 := ⟨Tryz.f331.name, by decide, Tryz.func331.trans (congrArg some (by kernel_rfl))⟩
  f22 := ⟨Tryz.f332.name, by decide, Tryz.func332.trans (congrArg some (by kernel_rfl))⟩
  f23 := ⟨Tryz.f333.name, by decide, Tryz.func333.trans (congrArg some (by kernel_rfl))⟩
  f24 := ⟨Tryz.f334.name, by decide, Tryz.func334.trans (congrArg some (by kernel_rfl))⟩
  f25 := ⟨Tryz.f335.name, by decide, Tryz.func335.trans (congrArg some (by kernel_rfl))⟩
  f26 := ⟨Tryz.f336.name, by decide, Tryz.func336.trans (congrArg some (by kernel_rfl))⟩
  f27 := ⟨Tryz.f337.name, by decide, Tryz.func337.trans (congrArg some (by kernel_rfl))⟩
  f28 := ⟨Tryz.f338.name, by decide, Tryz.func338.trans (congrArg some (by kernel_rfl))⟩
  f29 := ⟨Tryz.f339.name, by decide, Tryz.func339.trans (congrArg some (by kernel_rfl))⟩
  f31 := Tryz.func341.trans (congrArg some (by kernel_rfl))
  f32 := Tryz.func342.trans (congrArg some (by kernel_rfl))
  f36 := ⟨Tryz.f387.name, by decide, Tryz.func387.trans (congrArg some (by kernel_rfl))⟩
  f37 := ⟨Tryz.f388.name, by decide, Tryz.func388.trans (congrArg some (by kernel_rfl))⟩
  f38 := ⟨Tryz.f389.name, by decide, Tryz.func389.trans (congrArg some (by kernel_rfl))⟩
  f39 := ⟨Tryz.f390.name, by decide, Tryz.func390.trans (congrArg some (by kernel_rfl))⟩
  f41 := ⟨Tryz.f415.name, by decide, Tryz.func415.trans (congrArg some (by kernel_rfl))⟩
  t0 := Tryz.underlying0
  a0 := Tryz.isAgg0
  z0 := Tryz.sizeOf0
  v0 := Tryz.zeroValue0
  t3 := Tryz.underlying3
  a3 := Tryz.isAgg3
  z3 := Tryz.sizeOf3
  v3 := Tryz.zeroValue3
  t4 := Tryz.underlying4
  a4 := Tryz.isAgg4
  z4 := Tryz.sizeOf4
  v4 := Tryz.zeroValue4
  t5 := Tryz.underlying5
  a5 := Tryz.isAgg5
  z5 := Tryz.sizeOf5
  v5 := Tryz.zeroValue5
  t9 := Tryz.underlying9
  a9 := Tryz.isAgg9
  z9 := Tryz.sizeOf9
  v9 := Tryz.zeroValue9
  t26 := Tryz.underlying212
  a26 := Tryz.isAgg212
  z26 := Tryz.sizeOf212
  v26 := Tryz.zeroValue212
  t27 := Tryz.underlying212
  a27 := Tryz.isAgg212
  z27 := Tryz.sizeOf212
  v27 := Tryz.zeroValue212
  t29 := Tryz.underlying9
  a29 := Tryz.isAgg9
  z29 := Tryz.sizeOf9
  v29 := Tryz.zeroValue9
  t32 := Tryz.underlying230
  a32 := Tryz.isAgg230
  z32 := Tryz.sizeOf230
  v32 := Tryz.zeroValue230
  t35 := Tryz.underlying374
  a35 := Tryz.isAgg374
  z35 := Tryz.sizeOf374
  v35 := Tryz.zeroValue374
  t36 := Tryz.underlying375
  a36 := Tryz.isAgg375
  z36 := Tryz.sizeOf375
  v36 := Tryz.zeroValue375
  t41 := Tryz.underlying379
  a41 := Tryz.isAgg379
  z41 := Tryz.sizeOf379
  v41 := Tryz.zeroValue379
  t44 := Tryz.underlying71
  a44 := Tryz.isAgg71
  z44 := Tryz.sizeOf71
  v44 := Tryz.zeroValue71
  t46 := Tryz.underlying383
  a46 := Tryz.isAgg383
  z46 := Tryz.sizeOf383
  v46 := Tryz.zeroValue383
  t53 := Tryz.underlying432
  a53 := Tryz.isAgg432
  z53 := Tryz.sizeOf432
  v53 := Tryz.zeroValue432
  t57 := Tryz.underlying436
  a57 := Tryz.isAgg436
  z57 := Tryz.sizeOf436
  v57 := Tryz.zeroValue436
  t63 := Tryz.underlying475
  a63 := Tryz.isAgg475
  z63 := Tryz.sizeOf475
  v63 := Tryz.zeroValue475
  t64 := Tryz.underlying476
  a64 := Tryz.isAgg476
  z64 := Tryz.sizeOf476
  v64 := Tryz.zeroValue476 }
theorem Tryz.sorts124 (m : Nat) : AnyZ.SortsIn Tryz.prog Tryz.sorted124_ren Fence.wide m :=
  ⟨fun blk off cap ss W hH hblk hsz => callsIn_wide.2 (AnyM.slices_Sort_string Tryz.sort190 blk off cap ss W hH hblk hsz),
   fun p cap W => callsIn_wide.2 (AnyM.slices_Sort_string_none Tryz.sort190 p cap W)⟩
theorem Tryz.keysLaw125 : Go.Ab.KeysLaw Tryz.prog 125 191 := ⟨167, fun mb W => callsIn_wide.1 (AnyZ.keys_in Tryz.keys125 Fence.wide 5 trivial rfl mb W)⟩
set_option maxHeartbeats 1000000 in
theorem Tryz.sortedLaw191 : Go.Ab.SortedLaw Tryz.prog 124 191 9 := by
  intro Bm b nn D0 w hBm hcell hown hmax hbytes
  have hseq : SeqGives Fence.wide 2 Tryz.prog 191 #[.pointer (some ⟨Bm, 0, none⟩)] encStr (fun ss => ss.Perm (strKeys D0)) (Maps.size D0) w :=
    AnyZ.keys_gives (ρ := Tryz.keys125_ren) { Tryz.keys125 with } Fence.wide _ trivial rfl (by omega) Bm b nn D0 w hBm hcell hown
  exact callsIn_wide.1 (AnyZ.sorted_in Tryz.sorted124 Fence.wide 5 trivial trivial trivial trivial rfl (by omega) (Tryz.sorts124 _) (enters_of Tryz.func190 (by kernel_rfl) rfl) 191 #[.pointer (some ⟨Bm, 0, none⟩)] trivial (enters_of Tryz.func191 (by kernel_rfl) rfl) _ _ hmax hbytes _ hseq)
theorem Tryz.ovOk : Go.Ab.OvrOK Tryz.prog (Go.Ab.ovKS [(125, 191)] 124) := Go.Ab.ovKS_ok (kt := 9) {
  str := Tryz.underlying9
  callS := by kernel_rfl
  callK := by intro x hx; simp at hx; rcases hx with rfl; kernel_rfl
  laws := by intro x hx; simp at hx; rcases hx with rfl; exact Tryz.keysLaw125
  sort := by intro x hx; simp at hx; rcases hx with rfl; exact Tryz.sortedLaw191 }
end Go.Proofs
