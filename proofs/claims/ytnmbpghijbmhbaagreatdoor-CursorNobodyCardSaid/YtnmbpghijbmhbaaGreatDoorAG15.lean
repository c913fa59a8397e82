/- maps.Keys and slices.Sorted of this program, by the shelf's contracts. -/
import Derived.Test.YtnmbpghijbmhbaaGreatDoorAG14
import Derived.Shelf.SlIter.Nil
import Derived.Shelf.SortM.Plain
import Derived.Shelf.SortM.SortNone
import Derived.Ground.GgzProg
import Derived.Ground.SlgmProg
import Derived.Test.YtnmbpghijbmhbaaGreatDoorProg
namespace Go.Proofs
open Go.RowKit Go.Maps Go.Sort Go.Shelf

def Tryz.keys164_ren : Go.Shelf.Ren := ⟨fun | 7 => 164 | 10 => 220 | n => n, fun | 23 => 145 | 26 => 9 | 3 => 144 | 28 => 244 | 0 => 0 | 27 => 243 | 33 => 284 | 4 => 4 | n => n, fun | n => n⟩
theorem Tryz.keys164 : Go.Proofs.SlLaysZ.n7 Tryz.prog Tryz.keys164_ren := {
  mixed := by kernel_rfl
  f7 := ⟨Tryz.f164.name, by decide, Tryz.func164.trans (congrArg some (by kernel_rfl))⟩
  f10 := ⟨Tryz.f220.name, by decide, Tryz.func220.trans (congrArg some (by kernel_rfl))⟩
  t0 := Tryz.underlying0
  a0 := Tryz.isAgg0
  z0 := Tryz.sizeOf0
  v0 := Tryz.zeroValue0
  t4 := Tryz.underlying4
  a4 := Tryz.isAgg4
  z4 := Tryz.sizeOf4
  v4 := Tryz.zeroValue4
  t23 := Tryz.underlying145
  a23 := Tryz.isAgg145
  z23 := Tryz.sizeOf145
  v23 := Tryz.zeroValue145
  t26 := Tryz.underlying9
  a26 := Tryz.isAgg9
  z26 := Tryz.sizeOf9
  v26 := Tryz.zeroValue9
  t27 := Tryz.underlying243
  a27 := Tryz.isAgg243
  z27 := Tryz.sizeOf243
  v27 := Tryz.zeroValue243
  t28 := Tryz.underlying244
  a28 := Tryz.isAgg244
  z28 := Tryz.sizeOf244
  v28 := Tryz.zeroValue244
  t33 := Tryz.underlying284
  a33 := Tryz.isAgg284
  z33 := Tryz.sizeOf284
  v33 := Tryz.zeroValue284 }
def Tryz.sorted163_ren : Go.Shelf.Ren := ⟨fun | 6 => 163 | 8 => 218 | 9 => 219 | 11 => 260 | 13 => 224 | 12 => 261 | 23 => 271 | 24 => 272 | 14 => 293 | 15 => 294 | 16 => 295 | 17 => 296 | 18 => 297 | 19 => 298 | 20 => 299 | 21 => 300 | 22 => 301 | 25 => 316 | 26 => 307 | 27 => 308 | 28 => 317 | 29 => 318 | 30 => 319 | 31 => 330 | n => n, fun | 26 => 9 | 28 => 244 | 24 => 241 | 0 => 0 | 3 => 3 | 37 => 222 | 48 => 56 | 50 => 340 | 4 => 4 | 40 => 333 | 39 => 332 | 45 => 136 | 5 => 5 | 9 => 9 | 51 => 364 | 55 => 368 | 57 => 380 | 58 => 381 | 33 => 284 | n => n, fun | n => n⟩
theorem Tryz.sorted163 : Go.Proofs.SlLaysZ.n6 Tryz.prog Tryz.sorted163_ren := {
  mixed := by kernel_rfl
  f6 := ⟨Tryz.f163.name, by decide, Tryz.func163.trans (congrArg some (by kernel_rfl))⟩
  f8 := ⟨Tryz.f218.name, by decide, Tryz.func218.trans (congrArg some (by kernel_rfl))⟩
  f11 := ⟨Tryz.f260.name, by decide, Tryz.func260.trans (congrArg some (by kernel_rfl))⟩
  t0 := Tryz.underlying0
  a0 := Tryz.isAgg0
  z0 := Tryz.sizeOf0
  v0 := Tryz.zeroValue0
  t24 := Tryz.underlying241
  a24 := Tryz.isAgg241
  z24 := Tryz.sizeOf241
  v24 := Tryz.zeroValue241
  t26 := Tryz.underlying9
  a26 := Tryz.isAgg9
  z26 := Tryz.sizeOf9
  v26 := Tryz.zeroValue9
  t28 := Tryz.underlying244
  a28 := Tryz.isAgg244
  z28 := Tryz.sizeOf244
  v28 := Tryz.zeroValue244
  i26 := by kernel_rfl }
def Tryz.sort219_ren : Go.Shelf.Ren := ⟨fun | 6 => 219 | 8 => 224 | 9 => 261 | 19 => 271 | 20 => 272 | 21 => 293 | 22 => 294 | 23 => 295 | 24 => 296 | 25 => 297 | 26 => 298 | 27 => 299 | 28 => 300 | 29 => 301 | 36 => 316 | 31 => 307 | 32 => 308 | 37 => 317 | 38 => 318 | 39 => 319 | 41 => 330 | n => n, fun | 27 => 241 | 29 => 9 | 3 => 3 | 32 => 222 | 26 => 241 | 0 => 0 | 44 => 56 | 46 => 340 | 4 => 4 | 36 => 333 | 35 => 332 | 41 => 136 | 5 => 5 | 9 => 9 | 53 => 364 | 57 => 368 | 63 => 380 | 64 => 381 | n => n, fun | n => n⟩
theorem Tryz.sort219 : Go.Proofs.SlLaysM.n6 Tryz.prog Tryz.sort219_ren := {
  mixed := by kernel_rfl
  f6 := ⟨Tryz.f219.name, by decide, Tryz.func219.trans (congrArg some (by kernel_rfl))⟩
  f8 := Tryz.func224.trans (congrArg some (by kernel_rfl))
  f9 := ⟨Tryz.f261.name, by decide, Tryz.func261.trans (congrArg some (by kernel_rfl))⟩
  f19 := Tryz.func271.trans (congrArg some (by kernel_rfl))
  f20 := Tryz.func272.trans (congrArg some (by kernel_rfl))
  f21 := ⟨Tryz.f293.name, by decide, Tryz.func293.trans (congrArg some (by kernel_rfl))⟩
  f22 := ⟨Tryz.f294.name, by decide, Tryz.func294.trans (congrArg some (by kernel_rfl))⟩
  f23 := ⟨Tryz.f295.name, by decide, Tryz.func295.trans (congrArg some (by kernel_rfl))⟩
  f24 := ⟨Tryz.f296.name, by decide, Tryz.func296.trans (congrArg some (by kernel_rfl))⟩
  f25 := ⟨Tryz.f297.name, by decide, Tryz.func297.trans (congrArg some (by kernel_rfl))⟩
  f26 := ⟨Tryz.f298.name, by decide, Tryz.func298.trans (congrArg some (by kernel_rfl))⟩
  f27 := ⟨Tryz.f299.name, by decide, Tryz.func299.trans (congrArg some (by kernel_rfl))⟩
  f28 := ⟨Tryz.f300.name, by decide, Tryz.func300.trans (congrArg some (by kernel_rfl))⟩
  f29 := ⟨Tryz.f301.name, by decide, Tryz.func301.trans (congrArg some (by kernel_rfl))⟩
  f31 := Tryz.func307.trans (congrArg some (by kernel_rfl))
  f32 := Tryz.func308.trans (congrArg some (by kernel_rfl))
  f36 := ⟨Tryz.f316.name, by decide, Tryz.func316.trans (congrArg some (by kernel_rfl))⟩
  f37 := ⟨Tryz.f317.name, by decide, Tryz.func317.trans (congrArg some (by kernel_rfl))⟩
  f38 := ⟨Tryz.f318.name, by decide, Tryz.func318.trans (congrArg some (by kernel_rfl))⟩
  f39 := ⟨Tryz.f319.name, by decide, Tryz.func319.trans (congrArg some (by kernel_rfl))⟩
  f41 := ⟨Tryz.f330.name, by decide, Tryz.func330.trans (congrArg some (by kernel_rfl))⟩
  t0 := Tryz.underlying0
  a0 := Tryz.isAgg0
  z0 := Tryz.sizeOf0
  v0 := Tryz.zeroValue0
  t3 := Tryz.underlying3
  a3 := Tryz.isAgg3
  z3 := Tryz.sizeOf3
  v3 := Tryz.zeroValue3
  t4 := Tryz.underlying4
  a4 := Tryz.isAgg4
  z4 := Tryz.sizeOf4
  v4 := Tryz.zeroValue4
  t5 := Tryz.underlying5
  a5 := Tryz.isAgg5
  z5 := Tryz.sizeOf5
  v5 := Tryz.zeroValue5
  t9 := Tryz.underlying9
  a9 := Tryz.isAgg9
  z9 := Tryz.sizeOf9
  v9 := Tryz.zeroValue9
  t26 := Tryz.underlying241
  a26 := Tryz.isAgg241
  z26 := Tryz.sizeOf241
  v26 := Tryz.zeroValue241
  t27 := Tryz.underlying241
  a27 := Tryz.isAgg241
  z27 := Tryz.sizeOf241
  v27 := Tryz.zeroValue241
  t29 := Tryz.underlying9
  a29 := Tryz.isAgg9
  z29 := Tryz.sizeOf9
  v29 := Tryz.zeroValue9
  t32 := Tryz.underlying222
  a32 := Tryz.isAgg222
  z32 := Tryz.sizeOf222
  v32 := Tryz.zeroValue222
  t35 := Tryz.underlying332
  a35 := Tryz.isAgg332
  z35 := Tryz.sizeOf332
  v35 := Tryz.zeroValue332
  t36 := Tryz.underlying333
  a36 := Tryz.isAgg333
  z36 := Tryz.sizeOf333
  v36 := Tryz.zeroValue333
  t41 := Tryz.underlying136
  a41 := Tryz.isAgg136
  z41 := Tryz.sizeOf136
  v41 := Tryz.zeroValue136
  t44 := Tryz.underlying56
  a44 := Tryz.isAgg56
  z44 := Tryz.sizeOf56
  v44 := Tryz.zeroValue56
  t46 := Tryz.underlying340
  a46 := Tryz.isAgg340
  z46 := Tryz.sizeOf340
  v46 := Tryz.zeroValue340
  t53 := Tryz.underlying364
  a53 := Tryz.isAgg364
  z53 := Tryz.sizeOf364
  v53 := Tryz.zeroValue364
  t57 := Tryz.underlying368
  a57 := Tryz.isAgg368
  z57 := Tryz.sizeOf368
  v57 := Tryz.zeroValue368
  t63 := Tryz.underlying380
  a63 := Tryz.isAgg380
  z63 := Tryz.sizeOf380
  v63 := Tryz.zeroValue380
  t64 := Tryz.underlying381
  a64 := Tryz.isAgg381
  z64 := Tryz.sizeOf381
  v64 := Tryz.zeroValue381 }

theorem Tryz.sorts163 (m : Nat) : AnyZ.SortsIn Tryz.prog Tryz.sorted163_ren Fence.wide m :=
  ⟨fun blk off cap ss W hH hblk hsz => callsIn_wide.2 (AnyM.slices_Sort_string Tryz.sort219 blk off cap ss W hH hblk hsz),
   fun p cap W => callsIn_wide.2 (AnyM.slices_Sort_string_none Tryz.sort219 p cap W)⟩

theorem Tryz.keysLaw164 : Go.Ab.KeysLaw Tryz.prog 164 220 := ⟨145, fun mb W => callsIn_wide.1 (AnyZ.keys_in Tryz.keys164 Fence.wide 5 trivial rfl mb W)⟩

set_option maxHeartbeats 1000000 in
theorem Tryz.sortedLaw220 : Go.Ab.SortedLaw Tryz.prog 163 220 9 := by
  intro Bm b nn D0 w hBm hcell hown hmax hbytes
  have hseq : SeqGives Fence.wide 2 Tryz.prog 220 #[.pointer (some ⟨Bm, 0, none⟩)] encStr (fun ss => ss.Perm (strKeys D0)) (Maps.size D0) w :=
    AnyZ.keys_gives (ρ := Tryz.keys164_ren) { Tryz.keys164 with } Fence.wide _ trivial rfl (by omega) Bm b nn D0 w hBm hcell hown
  exact callsIn_wide.1 (AnyZ.sorted_in Tryz.sorted163 Fence.wide 5 trivial trivial trivial trivial rfl (by omega) (Tryz.sorts163 _) (enters_of Tryz.func219 (by kernel_rfl) rfl) 220 #[.pointer (some ⟨Bm, 0, none⟩)] trivial (enters_of Tryz.func220 (by kernel_rfl) rfl) _ _ hmax hbytes _ hseq)

/-- The keys of names. -/
theorem Tryz.ovOk : Go.Ab.OvrOK Tryz.prog (Go.Ab.ovKS [(164, 220)] 163) := Go.Ab.ovKS_ok (kt := 9) {
  str := Tryz.underlying9
  callS := by kernel_rfl
  callK := by intro x hx; simp at hx; rcases hx with rfl; kernel_rfl
  laws := by intro x hx; simp at hx; rcases hx with rfl; exact Tryz.keysLaw164
  sort := by intro x hx; simp at hx; rcases hx with rfl; exact Tryz.sortedLaw220 }
end Go.Proofs
