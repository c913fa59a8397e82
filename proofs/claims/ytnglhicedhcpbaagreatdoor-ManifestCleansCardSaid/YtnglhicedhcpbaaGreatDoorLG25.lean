import Derived.Test.YtnglhicedhcpbaaGreatDoorLG16
import Derived.Shelf.SlIter.Nil
import Derived.Shelf.SortM.Plain
import Derived.Shelf.SortM.SortNone
import Derived.Ground.GgzProg
import Derived.Ground.SlgmProg
import Derived.Test.YtnglhicedhcpbaaGreatDoorProg
namespace Go.Proofs
open Go.RowKit Go.Maps Go.Sort Go.Shelf
def Tryz.keys123_ren : Go.Shelf.Ren := ⟨fun | 7 => 123 | 10 => 203 | n => n, fun | 23 => 198 | 26 => 9 | 3 => 4 | 28 => 201 | 0 => 0 | 27 => 200 | 33 => 256 | 4 => 4 | n => n, fun | n => n⟩
theorem Tryz.keys123 : Go.Proofs.SlLaysZ.n7 Tryz.prog Tryz.keys123_ren := {
  mixed := by kernel_rfl
  f7 := ⟨Tryz.f123.name, by decide, Tryz.func123.trans (congrArg some (by kernel_rfl))⟩
  f10 := ⟨Tryz.f203.name, by decide, Tryz.func203.trans (congrArg some (by kernel_rfl))⟩
  t0 := Tryz.underlying0
  a0 := Tryz.isAgg0
  z0 := Tryz.sizeOf0
  v0 := Tryz.zeroValue0
  t4 := Tryz.underlying4
  a4 := Tryz.isAgg4
  z4 := Tryz.sizeOf4
  v4 := Tryz.zeroValue4
  t23 := Tryz.underlying198
  a23 := Tryz.isAgg198
  z23 := Tryz.sizeOf198
  v23 := Tryz.zeroValue198
  t26 := Tryz.underlying9
  a26 := Tryz.isAgg9
  z26 := Tryz.sizeOf9
  v26 := Tryz.zeroValue9
  t27 := Tryz.underlying200
  a27 := Tryz.isAgg200
  z27 := Tryz.sizeOf200
  v27 := Tryz.zeroValue200
  t28 := Tryz.underlying201
  a28 := Tryz.isAgg201
  z28 := Tryz.sizeOf201
  v28 := Tryz.zeroValue201
  t33 := Tryz.underlying256
  a33 := Tryz.isAgg256
  z33 := Tryz.sizeOf256
  v33 := Tryz.zeroValue256 }
def Tryz.keys124_ren : Go.Shelf.Ren := ⟨fun | 7 => 124 | 10 => 204 | n => n, fun | 23 => 167 | 26 => 9 | 3 => 183 | 28 => 201 | 0 => 0 | 27 => 200 | 33 => 256 | 4 => 4 | n => n, fun | n => n⟩
theorem Tryz.keys124 : Go.Proofs.SlLaysZ.n7 Tryz.prog Tryz.keys124_ren := {
  mixed := by kernel_rfl
  f7 := ⟨Tryz.f124.name, by decide, Tryz.func124.trans (congrArg some (by kernel_rfl))⟩
  f10 := ⟨Tryz.f204.name, by decide, Tryz.func204.trans (congrArg some (by kernel_rfl))⟩
  t0 := Tryz.underlying0
  a0 := Tryz.isAgg0
  z0 := Tryz.sizeOf0
  v0 := Tryz.zeroValue0
  t4 := Tryz.underlying4
  a4 := Tryz.isAgg4
  z4 := Tryz.sizeOf4
  v4 := Tryz.zeroValue4
  t23 := Tryz.underlying167
  a23 := Tryz.isAgg167
  z23 := Tryz.sizeOf167
  v23 := Tryz.zeroValue167
  t26 := Tryz.underlying9
  a26 := Tryz.isAgg9
  z26 := Tryz.sizeOf9
  v26 := Tryz.zeroValue9
  t27 := Tryz.underlying200
  a27 := Tryz.isAgg200
  z27 := Tryz.sizeOf200
  v27 := Tryz.zeroValue200
  t28 := Tryz.underlying201
  a28 := Tryz.isAgg201
  z28 := Tryz.sizeOf201
  v28 := Tryz.zeroValue201
  t33 := Tryz.underlying256
  a33 := Tryz.isAgg256
  z33 := Tryz.sizeOf256
  v33 := Tryz.zeroValue256 }
def Tryz.sorted122_ren : Go.Shelf.Ren := ⟨fun | 6 => 122 | 8 => 201 | 9 => 202 | 11 => 259 | 13 => 261 | 12 => 260 | 23 => 292 | 24 => 293 | 14 => 283 | 15 => 284 | 16 => 285 | 17 => 286 | 18 => 287 | 19 => 288 | 20 => 289 | 21 => 290 | 22 => 291 | 25 => 297 | 26 => 298 | 27 => 299 | 28 => 300 | 29 => 301 | 30 => 302 | 31 => 303 | n => n, fun | 26 => 9 | 28 => 201 | 24 => 71 | 0 => 0 | 3 => 3 | 37 => 248 | 48 => 113 | 50 => 329 | 4 => 4 | 40 => 340 | 39 => 339 | 45 => 230 | 5 => 5 | 9 => 9 | 51 => 349 | 55 => 353 | 57 => 356 | 58 => 357 | 33 => 256 | n => n, fun | n => n⟩
theorem Tryz.sorted122 : Go.Proofs.SlLaysZ.n6 Tryz.prog Tryz.sorted122_ren := {
  mixed := by kernel_rfl
  f6 := ⟨Tryz.f122.name, by decide, Tryz.func122.trans (congrArg some (by kernel_rfl))⟩
  f8 := ⟨Tryz.f201.name, by decide, Tryz.func201.trans (congrArg some (by kernel_rfl))⟩
  f11 := ⟨Tryz.f259.name, by decide, Tryz.func259.trans (congrArg some (by kernel_rfl))⟩
  t0 := Tryz.underlying0
  a0 := Tryz.isAgg0
  z0 := Tryz.sizeOf0
  v0 := Tryz.zeroValue0
  t24 := Tryz.underlying71
  a24 := Tryz.isAgg71
  z24 := Tryz.sizeOf71
  v24 := Tryz.zeroValue71
  t26 := Tryz.underlying9
  a26 := Tryz.isAgg9
  z26 := Tryz.sizeOf9
  v26 := Tryz.zeroValue9
  t28 := Tryz.underlying201
  a28 := Tryz.isAgg201
  z28 := Tryz.sizeOf201
  v28 := Tryz.zeroValue201
  i26 := by kernel_rfl }
def Tryz.sort202_ren : Go.Shelf.Ren := ⟨fun | 6 => 202 | 8 => 261 | 9 => 260 | 19 => 292 | 20 => 293 | 21 => 283 | 22 => 284 | 23 => 285 | 24 => 286 | 25 => 287 | 26 => 288 | 27 => 289 | 28 => 290 | 29 => 291 | 36 => 297 | 31 => 298 | 32 => 299 | 37 => 300 | 38 => 301 | 39 => 302 | 41 => 303 | n => n, fun | 27 => 71 | 29 => 9 | 3 => 3 | 32 => 248 | 26 => 71 | 0 => 0 | 44 => 113 | 46 => 329 | 4 => 4 | 36 => 340 | 35 => 339 | 41 => 230 | 5 => 5 | 9 => 9 | 53 => 349 | 57 => 353 | 63 => 356 | 64 => 357 | n => n, fun | n => n⟩
theorem Tryz.sort202 : Go.Proofs.SlLaysM.n6 Tryz.prog Tryz.sort202_ren := {
  mixed := by kernel_rfl
  f6 := ⟨Tryz.f202.name, by decide, Tryz.func202.trans (congrArg some (by kernel_rfl))⟩
  f8 := Tryz.func261.trans (congrArg some (by kernel_rfl))
  f9 := ⟨Tryz.f260.name, by decide, Tryz.func260.trans (congrArg some (by kernel_rfl))⟩
  f19 := Tryz.func292.trans (congrArg some (by kernel_rfl))
  f20 := Tryz.func293.trans (congrArg some (by kernel_rfl))
  f21 := ⟨Tryz.f283.name, by decide, Tryz.func283.trans (congrArg some (by kernel_rfl))⟩
  f22 := ⟨Tryz.f284.name, by decide, Tryz.func284.trans (congrArg some (by kernel_rfl))⟩
  f23 := ⟨Tryz.f285.name, by decide, Tryz.func285.trans (congrArg some (by kernel_rfl))⟩
  f24 := ⟨Tryz.f286.name, by decide, Tryz.func286.trans (congrArg some (by kernel_rfl))⟩
  f25 := ⟨Tryz.f287.name, by decide, Tryz.func287.trans (congrArg some (by kernel_rfl))⟩
  f26 := ⟨Tryz.f288.name, by decide, Tryz.func288.trans (congrArg some (by kernel_rfl))⟩
  f27 := ⟨Tryz.f289.name, by decide, Tryz.func289.trans (congrArg some (by kernel_rfl))⟩
  f28 := ⟨Tryz.f290.name, by decide, Tryz.func290.trans (congrArg some (by kernel_rfl))⟩
  f29 := ⟨Tryz.f291.name, by decide, Tryz.func291.trans (congrArg some (by kernel_rfl))⟩
  f31 := Tryz.func298.trans (congrArg some (by kernel_rfl))
  f32 := Tryz.func299.trans (congrArg some (by kernel_rfl))
  f36 := ⟨Tryz.f297.name, by decide, Tryz.func297.trans (congrArg some (by kernel_rfl))⟩
  f37 := ⟨Tryz.f300.name, by decide, Tryz.func300.trans (congrArg some (by kernel_rfl))⟩
  f38 := ⟨Tryz.f301.name, by decide, Tryz.func301.trans (congrArg some (by kernel_rfl))⟩
  f39 := ⟨Tryz.f302.name, by decide, Tryz.func302.trans (congrArg some (by kernel_rfl))⟩
  f41 := ⟨Tryz.f303.name, by decide, Tryz.func303.trans (congrArg some (by kernel_rfl))⟩
  t0 := Tryz.underlying0
  a0 := Tryz.isAgg0
  z0 := Tryz.sizeOf0
  v0 := Tryz.zeroValue0
  t3 := Tryz.underlying3
  a3 := Tryz.isAgg3
  z3 := Tryz.sizeOf3
  v3 := Tryz.zeroValue3
  t4 := Tryz.underlying4
  a4 := Tryz.isAgg4
  z4 := Tryz.sizeOf4
  v4 := Tryz.zeroValue4
  t5 := Tryz.underlying5
  a5 := Tryz.isAgg5
  z5 := Tryz.sizeOf5
  v5 := Tryz.zeroValue5
  t9 := Tryz.underlying9
  a9 := Tryz.isAgg9
  z9 := Tryz.sizeOf9
  v9 := Tryz.zeroValue9
  t26 := Tryz.underlying71
  a26 := Tryz.isAgg71
  z26 := Tryz.sizeOf71
  v26 := Tryz.zeroValue71
  t27 := Tryz.underlying71
  a27 := Tryz.isAgg71
  z27 := Tryz.sizeOf71
  v27 := Tryz.zeroValue71
  t29 := Tryz.underlying9
  a29 := Tryz.isAgg9
  z29 := Tryz.sizeOf9
  v29 := Tryz.zeroValue9
  t32 := Tryz.underlying248
  a32 := Tryz.isAgg248
  z32 := Tryz.sizeOf248
  v32 := Tryz.zeroValue248
  t35 := Tryz.underlying339
  a35 := Tryz.isAgg339
  z35 := Tryz.sizeOf339
  v35 := Tryz.zeroValue339
  t36 := Tryz.underlying340
  a36 := Tryz.isAgg340
  z36 := Tryz.sizeOf340
  v36 := Tryz.zeroValue340
  t41 := Tryz.underlying230
  a41 := Tryz.isAgg230
  z41 := Tryz.sizeOf230
  v41 := Tryz.zeroValue230
  t44 := Tryz.underlying113
  a44 := Tryz.isAgg113
  z44 := Tryz.sizeOf113
  v44 := Tryz.zeroValue113
  t46 := Tryz.underlying329
  a46 := Tryz.isAgg329
  z46 := Tryz.sizeOf329
  v46 := Tryz.zeroValue329
  t53 := Tryz.underlying349
  a53 := Tryz.isAgg349
  z53 := Tryz.sizeOf349
  v53 := Tryz.zeroValue349
  t57 := Tryz.underlying353
  a57 := Tryz.isAgg353
  z57 := Tryz.sizeOf353
  v57 := Tryz.zeroValue353
  t63 := Tryz.underlying356
  a63 := Tryz.isAgg356
  z63 := Tryz.sizeOf356
  v63 := Tryz.zeroValue356
  t64 := Tryz.underlying357
  a64 := Tryz.isAgg357
  z64 := Tryz.sizeOf357
  v64 := Tryz.zeroValue357 }
theorem Tryz.sorts122 (m : Nat) : AnyZ.SortsIn Tryz.prog Tryz.sorted122_ren Fence.wide m :=
  ⟨fun blk off cap ss W hH hblk hsz => callsIn_wide.2 (AnyM.slices_Sort_string Tryz.sort202 blk off cap ss W hH hblk hsz),
   fun p cap W => callsIn_wide.2 (AnyM.slices_Sort_string_none Tryz.sort202 p cap W)⟩
theorem Tryz.keysLaw123 : Go.Ab.KeysLaw Tryz.prog 123 203 := ⟨198, fun mb W => callsIn_wide.1 (AnyZ.keys_in Tryz.keys123 Fence.wide 5 trivial rfl mb W)⟩
theorem Tryz.keysLaw124 : Go.Ab.KeysLaw Tryz.prog 124 204 := ⟨167, fun mb W => callsIn_wide.1 (AnyZ.keys_in Tryz.keys124 Fence.wide 5 trivial rfl mb W)⟩
set_option maxHeartbeats 1000000 in
theorem Tryz.sortedLaw203 : Go.Ab.SortedLaw Tryz.prog 122 203 9 := by
  intro Bm b nn D0 w hBm hcell hown hmax hbytes
  have hseq : SeqGives Fence.wide 2 Tryz.prog 203 #[.pointer (some ⟨Bm, 0, none⟩)] encStr (fun ss => ss.Perm (strKeys D0)) (Maps.size D0) w :=
    AnyZ.keys_gives (ρ := Tryz.keys123_ren) { Tryz.keys123 with } Fence.wide _ trivial rfl (by omega) Bm b nn D0 w hBm hcell hown
  exact callsIn_wide.1 (AnyZ.sorted_in Tryz.sorted122 Fence.wide 5 trivial trivial trivial trivial rfl (by omega) (Tryz.sorts122 _) (enters_of Tryz.func202 (by kernel_rfl) rfl) 203 #[.pointer (some ⟨Bm, 0, none⟩)] trivial (enters_of Tryz.func203 (by kernel_rfl) rfl) _ _ hmax hbytes _ hseq)
set_option maxHeartbeats 1000000 in
theorem Tryz.sortedLaw204 : Go.Ab.SortedLaw Tryz.prog 122 204 9 := by
  intro Bm b nn D0 w hBm hcell hown hmax hbytes
  have hseq : SeqGives Fence.wide 2 Tryz.prog 204 #[.pointer (some ⟨Bm, 0, none⟩)] encStr (fun ss => ss.Perm (strKeys D0)) (Maps.size D0) w :=
    AnyZ.keys_gives (ρ := Tryz.keys124_ren) { Tryz.keys124 with } Fence.wide _ trivial rfl (by omega) Bm b nn D0 w hBm hcell hown
  exact callsIn_wide.1 (AnyZ.sorted_in Tryz.sorted122 Fence.wide 5 trivial trivial trivial trivial rfl (by omega) (Tryz.sorts122 _) (enters_of Tryz.func202 (by kernel_rfl) rfl) 204 #[.pointer (some ⟨Bm, 0, none⟩)] trivial (enters_of Tryz.func204 (by kernel_rfl) rfl) _ _ hmax hbytes _ hseq)
end Go.Proofs
