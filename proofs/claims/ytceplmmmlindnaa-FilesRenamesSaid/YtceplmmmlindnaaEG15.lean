/- maps.Keys and slices.Sorted of this program, by the shelf's contracts. -/
import Derived.Test.YtceplmmmlindnaaEG14
import Derived.Shelf.SlIter.Nil
import Derived.Shelf.SortM.Plain
import Derived.Shelf.SortM.SortNone
import Derived.Ground.GgzProg
import Derived.Ground.SlgmProg
import Derived.Test.YtceplmmmlindnaaProg
namespace Go.Proofs
open Go.RowKit Go.Maps Go.Sort Go.Shelf

def Try.keys85_ren : Go.Shelf.Ren := ⟨fun | 7 => 85 | 10 => 122 | n => n, fun | 23 => 126 | 26 => 9 | 3 => 4 | 28 => 129 | 0 => 0 | 27 => 128 | 33 => 135 | 4 => 4 | n => n, fun | n => n⟩
theorem Try.keys85 : Go.Proofs.SlLaysZ.n7 Try.prog Try.keys85_ren := {
  mixed := by kernel_rfl
  f7 := ⟨Try.f85.name, by decide, Try.func85.trans (congrArg some (by kernel_rfl))⟩
  f10 := ⟨Try.f122.name, by decide, Try.func122.trans (congrArg some (by kernel_rfl))⟩
  t0 := Try.underlying0
  a0 := Try.isAgg0
  z0 := Try.sizeOf0
  v0 := Try.zeroValue0
  t4 := Try.underlying4
  a4 := Try.isAgg4
  z4 := Try.sizeOf4
  v4 := Try.zeroValue4
  t23 := Try.underlying126
  a23 := Try.isAgg126
  z23 := Try.sizeOf126
  v23 := Try.zeroValue126
  t26 := Try.underlying9
  a26 := Try.isAgg9
  z26 := Try.sizeOf9
  v26 := Try.zeroValue9
  t27 := Try.underlying128
  a27 := Try.isAgg128
  z27 := Try.sizeOf128
  v27 := Try.zeroValue128
  t28 := Try.underlying129
  a28 := Try.isAgg129
  z28 := Try.sizeOf129
  v28 := Try.zeroValue129
  t33 := Try.underlying135
  a33 := Try.isAgg135
  z33 := Try.sizeOf135
  v33 := Try.zeroValue135 }
def Try.keys96_ren : Go.Shelf.Ren := ⟨fun | 7 => 96 | 10 => 125 | n => n, fun | 23 => 131 | 26 => 9 | 3 => 136 | 28 => 129 | 0 => 0 | 27 => 128 | 33 => 135 | 4 => 4 | n => n, fun | n => n⟩
theorem Try.keys96 : Go.Proofs.SlLaysZ.n7 Try.prog Try.keys96_ren := {
  mixed := by kernel_rfl
  f7 := ⟨Try.f96.name, by decide, Try.func96.trans (congrArg some (by kernel_rfl))⟩
  f10 := ⟨Try.f125.name, by decide, Try.func125.trans (congrArg some (by kernel_rfl))⟩
  t0 := Try.underlying0
  a0 := Try.isAgg0
  z0 := Try.sizeOf0
  v0 := Try.zeroValue0
  t4 := Try.underlying4
  a4 := Try.isAgg4
  z4 := Try.sizeOf4
  v4 := Try.zeroValue4
  t23 := Try.underlying131
  a23 := Try.isAgg131
  z23 := Try.sizeOf131
  v23 := Try.zeroValue131
  t26 := Try.underlying9
  a26 := Try.isAgg9
  z26 := Try.sizeOf9
  v26 := Try.zeroValue9
  t27 := Try.underlying128
  a27 := Try.isAgg128
  z27 := Try.sizeOf128
  v27 := Try.zeroValue128
  t28 := Try.underlying129
  a28 := Try.isAgg129
  z28 := Try.sizeOf129
  v28 := Try.zeroValue129
  t33 := Try.underlying135
  a33 := Try.isAgg135
  z33 := Try.sizeOf135
  v33 := Try.zeroValue135 }
def Try.sorted84_ren : Go.Shelf.Ren := ⟨fun | 6 => 84 | 8 => 120 | 9 => 121 | 11 => 133 | 13 => 135 | 12 => 134 | 23 => 151 | 24 => 152 | 14 => 142 | 15 => 143 | 16 => 144 | 17 => 145 | 18 => 146 | 19 => 147 | 20 => 148 | 21 => 149 | 22 => 150 | 25 => 158 | 26 => 159 | 27 => 160 | 28 => 161 | 29 => 162 | 30 => 163 | 31 => 165 | n => n, fun | 26 => 9 | 28 => 129 | 24 => 55 | 0 => 0 | 3 => 3 | 37 => 184 | 48 => 69 | 50 => 204 | 4 => 4 | 40 => 217 | 39 => 216 | 45 => 222 | 5 => 5 | 9 => 9 | 51 => 239 | 55 => 243 | 57 => 252 | 58 => 253 | 33 => 135 | n => n, fun | n => n⟩
theorem Try.sorted84 : Go.Proofs.SlLaysZ.n6 Try.prog Try.sorted84_ren := {
  mixed := by kernel_rfl
  f6 := ⟨Try.f84.name, by decide, Try.func84.trans (congrArg some (by kernel_rfl))⟩
  f8 := ⟨Try.f120.name, by decide, Try.func120.trans (congrArg some (by kernel_rfl))⟩
  f11 := ⟨Try.f133.name, by decide, Try.func133.trans (congrArg some (by kernel_rfl))⟩
  t0 := Try.underlying0
  a0 := Try.isAgg0
  z0 := Try.sizeOf0
  v0 := Try.zeroValue0
  t24 := Try.underlying55
  a24 := Try.isAgg55
  z24 := Try.sizeOf55
  v24 := Try.zeroValue55
  t26 := Try.underlying9
  a26 := Try.isAgg9
  z26 := Try.sizeOf9
  v26 := Try.zeroValue9
  t28 := Try.underlying129
  a28 := Try.isAgg129
  z28 := Try.sizeOf129
  v28 := Try.zeroValue129
  i26 := by kernel_rfl }
def Try.sort121_ren : Go.Shelf.Ren := ⟨fun | 6 => 121 | 8 => 135 | 9 => 134 | 19 => 151 | 20 => 152 | 21 => 142 | 22 => 143 | 23 => 144 | 24 => 145 | 25 => 146 | 26 => 147 | 27 => 148 | 28 => 149 | 29 => 150 | 36 => 158 | 31 => 159 | 32 => 160 | 37 => 161 | 38 => 162 | 39 => 163 | 41 => 165 | n => n, fun | 27 => 55 | 29 => 9 | 3 => 3 | 32 => 184 | 26 => 55 | 0 => 0 | 44 => 69 | 46 => 204 | 4 => 4 | 36 => 217 | 35 => 216 | 41 => 222 | 5 => 5 | 9 => 9 | 53 => 239 | 57 => 243 | 63 => 252 | 64 => 253 | n => n, fun | n => n⟩
theorem Try.sort121 : Go.Proofs.SlLaysM.n6 Try.prog Try.sort121_ren := {
  mixed := by kernel_rfl
  f6 := ⟨Try.f121.name, by decide, Try.func121.trans (congrArg some (by kernel_rfl))⟩
  f8 := Try.func135.trans (congrArg some (by kernel_rfl))
  f9 := ⟨Try.f134.name, by decide, Try.func134.trans (congrArg some (by kernel_rfl))⟩
  f19 := Try.func151.trans (congrArg some (by kernel_rfl))
  f20 := Try.func152.trans (congrArg some (by kernel_rfl))
  f21 := ⟨Try.f142.name, by decide, Try.func142.trans (congrArg some (by kernel_rfl))⟩
  f22 := ⟨Try.f143.name, by decide, Try.func143.trans (congrArg some (by kernel_rfl))⟩
  f23 := ⟨Try.f144.name, by decide, Try.func144.trans (congrArg some (by kernel_rfl))⟩
  f24 := ⟨Try.f145.name, by decide, Try.func145.trans (congrArg some (by kernel_rfl))⟩
  f25 := ⟨Try.f146.name, by decide, Try.func146.trans (congrArg some (by kernel_rfl))⟩
  f26 := ⟨Try.f147.name, by decide, Try.func147.trans (congrArg some (by kernel_rfl))⟩
  f27 := ⟨Try.f148.name, by decide, Try.func148.trans (congrArg some (by kernel_rfl))⟩
  f28 := ⟨Try.f149.name, by decide, Try.func149.trans (congrArg some (by kernel_rfl))⟩
  f29 := ⟨Try.f150.name, by decide, Try.func150.trans (congrArg some (by kernel_rfl))⟩
  f31 := Try.func159.trans (congrArg some (by kernel_rfl))
  f32 := Try.func160.trans (congrArg some (by kernel_rfl))
  f36 := ⟨Try.f158.name, by decide, Try.func158.trans (congrArg some (by kernel_rfl))⟩
  f37 := ⟨Try.f161.name, by decide, Try.func161.trans (congrArg some (by kernel_rfl))⟩
  f38 := ⟨Try.f162.name, by decide, Try.func162.trans (congrArg some (by kernel_rfl))⟩
  f39 := ⟨Try.f163.name, by decide, Try.func163.trans (congrArg some (by kernel_rfl))⟩
  f41 := ⟨Try.f165.name, by decide, Try.func165.trans (congrArg some (by kernel_rfl))⟩
  t0 := Try.underlying0
  a0 := Try.isAgg0
  z0 := Try.sizeOf0
  v0 := Try.zeroValue0
  t3 := Try.underlying3
  a3 := Try.isAgg3
  z3 := Try.sizeOf3
  v3 := Try.zeroValue3
  t4 := Try.underlying4
  a4 := Try.isAgg4
  z4 := Try.sizeOf4
  v4 := Try.zeroValue4
  t5 := Try.underlying5
  a5 := Try.isAgg5
  z5 := Try.sizeOf5
  v5 := Try.zeroValue5
  t9 := Try.underlying9
  a9 := Try.isAgg9
  z9 := Try.sizeOf9
  v9 := Try.zeroValue9
  t26 := Try.underlying55
  a26 := Try.isAgg55
  z26 := Try.sizeOf55
  v26 := Try.zeroValue55
  t27 := Try.underlying55
  a27 := Try.isAgg55
  z27 := Try.sizeOf55
  v27 := Try.zeroValue55
  t29 := Try.underlying9
  a29 := Try.isAgg9
  z29 := Try.sizeOf9
  v29 := Try.zeroValue9
  t32 := Try.underlying184
  a32 := Try.isAgg184
  z32 := Try.sizeOf184
  v32 := Try.zeroValue184
  t35 := Try.underlying216
  a35 := Try.isAgg216
  z35 := Try.sizeOf216
  v35 := Try.zeroValue216
  t36 := Try.underlying217
  a36 := Try.isAgg217
  z36 := Try.sizeOf217
  v36 := Try.zeroValue217
  t41 := Try.underlying222
  a41 := Try.isAgg222
  z41 := Try.sizeOf222
  v41 := Try.zeroValue222
  t44 := Try.underlying69
  a44 := Try.isAgg69
  z44 := Try.sizeOf69
  v44 := Try.zeroValue69
  t46 := Try.underlying204
  a46 := Try.isAgg204
  z46 := Try.sizeOf204
  v46 := Try.zeroValue204
  t53 := Try.underlying239
  a53 := Try.isAgg239
  z53 := Try.sizeOf239
  v53 := Try.zeroValue239
  t57 := Try.underlying243
  a57 := Try.isAgg243
  z57 := Try.sizeOf243
  v57 := Try.zeroValue243
  t63 := Try.underlying252
  a63 := Try.isAgg252
  z63 := Try.sizeOf252
  v63 := Try.zeroValue252
  t64 := Try.underlying253
  a64 := Try.isAgg253
  z64 := Try.sizeOf253
  v64 := Try.zeroValue253 }

theorem Try.sorts84 (m : Nat) : AnyZ.SortsIn Try.prog Try.sorted84_ren Fence.wide m :=
  ⟨fun blk off cap ss W hH hblk hsz => callsIn_wide.2 (AnyM.slices_Sort_string Try.sort121 blk off cap ss W hH hblk hsz),
   fun p cap W => callsIn_wide.2 (AnyM.slices_Sort_string_none Try.sort121 p cap W)⟩

theorem Try.keysLaw85 : Go.Ab.KeysLaw Try.prog 85 122 := ⟨126, fun mb W => callsIn_wide.1 (AnyZ.keys_in Try.keys85 Fence.wide 5 trivial rfl mb W)⟩
theorem Try.keysLaw96 : Go.Ab.KeysLaw Try.prog 96 125 := ⟨131, fun mb W => callsIn_wide.1 (AnyZ.keys_in Try.keys96 Fence.wide 5 trivial rfl mb W)⟩

set_option maxHeartbeats 1000000 in
theorem Try.sortedLaw122 : Go.Ab.SortedLaw Try.prog 84 122 9 := by
  intro Bm b nn D0 w hBm hcell hown hmax hbytes
  have hseq : SeqGives Fence.wide 2 Try.prog 122 #[.pointer (some ⟨Bm, 0, none⟩)] encStr (fun ss => ss.Perm (strKeys D0)) (Maps.size D0) w :=
    AnyZ.keys_gives (ρ := Try.keys85_ren) { Try.keys85 with } Fence.wide _ trivial rfl (by omega) Bm b nn D0 w hBm hcell hown
  exact callsIn_wide.1 (AnyZ.sorted_in Try.sorted84 Fence.wide 5 trivial trivial trivial trivial rfl (by omega) (Try.sorts84 _) (enters_of Try.func121 (by kernel_rfl) rfl) 122 #[.pointer (some ⟨Bm, 0, none⟩)] trivial (enters_of Try.func122 (by kernel_rfl) rfl) _ _ hmax hbytes _ hseq)

set_option maxHeartbeats 1000000 in
theorem Try.sortedLaw125 : Go.Ab.SortedLaw Try.prog 84 125 9 := by
  intro Bm b nn D0 w hBm hcell hown hmax hbytes
  have hseq : SeqGives Fence.wide 2 Try.prog 125 #[.pointer (some ⟨Bm, 0, none⟩)] encStr (fun ss => ss.Perm (strKeys D0)) (Maps.size D0) w :=
    AnyZ.keys_gives (ρ := Try.keys96_ren) { Try.keys96 with } Fence.wide _ trivial rfl (by omega) Bm b nn D0 w hBm hcell hown
  exact callsIn_wide.1 (AnyZ.sorted_in Try.sorted84 Fence.wide 5 trivial trivial trivial trivial rfl (by omega) (Try.sorts84 _) (enters_of Try.func121 (by kernel_rfl) rfl) 125 #[.pointer (some ⟨Bm, 0, none⟩)] trivial (enters_of Try.func125 (by kernel_rfl) rfl) _ _ hmax hbytes _ hseq)

/-- Both kinds of keys. -/
theorem Try.ovOk : Go.Ab.OvrOK Try.prog (Go.Ab.ovKS [(85, 122), (96, 125)] 84) := Go.Ab.ovKS_ok (kt := 9) {
  str := Try.underlying9
  callS := by kernel_rfl
  callK := by intro x hx; simp at hx; rcases hx with rfl | rfl <;> kernel_rfl
  laws := by intro x hx; simp at hx; rcases hx with rfl | rfl; exact Try.keysLaw85; exact Try.keysLaw96
  sort := by intro x hx; simp at hx; rcases hx with rfl | rfl; exact Try.sortedLaw122; exact Try.sortedLaw125 }
end Go.Proofs
