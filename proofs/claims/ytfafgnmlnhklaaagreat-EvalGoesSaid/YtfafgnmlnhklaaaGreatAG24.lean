/- maps.Keys and slices.Sorted of this program, at keys that are numbers, by the shelf's contracts. -/
import Derived.Test.YtfafgnmlnhklaaaGreatAG23
import Derived.Shelf.SlIterI.Nil
import Derived.Shelf.SortM.Plain
import Derived.Shelf.SortM.SortNone
import Derived.Ground.GgzProg
import Derived.Ground.SlgmProg
import Derived.Test.YtfafgnmlnhklaaaGreatProg
namespace Go.Proofs
open Go.RowKit Go.Maps Go.Sort Go.Shelf

shelf_lay_g SlLaysZI.n7 Ggz 7 at Tryz 64 as Tryz.keys64
shelf_lay_g SlLaysZI.n6 Ggz 6 at Tryz 63 as Tryz.sorted63
shelf_lay_g SlLaysM.n5 Slgm 5 at Tryz 92 as Tryz.sort92

theorem Tryz.sorts92 (m : Nat) : AnyZI.SortsIn Tryz.prog Tryz.sorted63_ren Fence.wide m :=
  ⟨fun blk off cap ss W hH hblk hsz => callsIn_wide.2 (AnyM.slices_Sort_int Tryz.sort92 blk off cap ss W hH hblk hsz),
   fun p cap W => callsIn_wide.2 (AnyM.slices_Sort_int_none Tryz.sort92 p cap W)⟩

theorem Tryz.keysLaw64 : Go.Ab.KeysLaw Tryz.prog 64 93 := ⟨_, fun mb W => callsIn_wide.1 (AnyZI.keys_in Tryz.keys64 Fence.wide 5 trivial rfl mb W)⟩

set_option maxHeartbeats 1000000 in
theorem Tryz.sortedLaw63 : Go.AbI.SortedLaw Tryz.prog 63 93 3 := by
  intro Bm b nn D0 w hBm hcell hown hmax hbytes
  have hseq : SeqGives Fence.wide 2 Tryz.prog 93 #[.pointer (some ⟨Bm, 0, none⟩)] encZ (fun ss => ss.Perm (intKeys D0)) (Maps.size D0) w :=
    AnyZI.keys_gives (ρ := Tryz.keys64_ren) { Tryz.keys64 with } Fence.wide _ trivial rfl (by omega) Bm b nn D0 w hBm hcell hown
  exact callsIn_wide.1 (AnyZI.sorted_in Tryz.sorted63 Fence.wide 5 trivial trivial trivial trivial rfl (by omega) (Tryz.sorts92 _) (enters_of Tryz.func92 (by kernel_rfl) rfl) 93 #[.pointer (some ⟨Bm, 0, none⟩)] trivial (enters_of Tryz.func93 (by kernel_rfl) rfl) _ _ hmax hbytes _ hseq)

/-- The keys of a map of numbers. -/
theorem Tryz.ovOk : Go.Ab.OvrOK Tryz.prog (Go.AbI.ovKS [(64, 93)] 63) := Go.AbI.ovKS_ok (kt := 3) {
  str := Tryz.underlying3
  callS := by kernel_rfl
  callK := by intro x hx; simp at hx; subst hx; kernel_rfl
  laws := by intro x hx; simp at hx; subst hx; exact Tryz.keysLaw64
  sort := by intro x hx; simp at hx; subst hx; exact Tryz.sortedLaw63 }
end Go.Proofs
