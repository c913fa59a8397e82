/- maps.Keys and slices.Sorted of this program, at keys that are numbers, by the shelf's contracts. -/
import Derived.Test.YtfafgnmlnhklaaaAG20
import Derived.Shelf.SlIterI.Nil
import Derived.Shelf.SortM.Plain
import Derived.Shelf.SortM.SortNone
import Derived.Ground.GgzProg
import Derived.Ground.SlgmProg
import Derived.Test.YtfafgnmlnhklaaaProg
namespace Go.Proofs
open Go.RowKit Go.Maps Go.Sort Go.Shelf

shelf_lay_g SlLaysZI.n7 Ggz 7 at Try 33 as Try.keys33
shelf_lay_g SlLaysZI.n6 Ggz 6 at Try 32 as Try.sorted32
shelf_lay_g SlLaysM.n5 Slgm 5 at Try 51 as Try.sort51

theorem Try.sorts51 (m : Nat) : AnyZI.SortsIn Try.prog Try.sorted32_ren Fence.wide m :=
  ⟨fun blk off cap ss W hH hblk hsz => callsIn_wide.2 (AnyM.slices_Sort_int Try.sort51 blk off cap ss W hH hblk hsz),
   fun p cap W => callsIn_wide.2 (AnyM.slices_Sort_int_none Try.sort51 p cap W)⟩

theorem Try.keysLaw33 : Go.Ab.KeysLaw Try.prog 33 52 := ⟨_, fun mb W => callsIn_wide.1 (AnyZI.keys_in Try.keys33 Fence.wide 5 trivial rfl mb W)⟩

set_option maxHeartbeats 1000000 in
theorem Try.sortedLaw32 : Go.AbI.SortedLaw Try.prog 32 52 3 := by
  intro Bm b nn D0 w hBm hcell hown hmax hbytes
  have hseq : SeqGives Fence.wide 2 Try.prog 52 #[.pointer (some ⟨Bm, 0, none⟩)] encZ (fun ss => ss.Perm (intKeys D0)) (Maps.size D0) w :=
    AnyZI.keys_gives (ρ := Try.keys33_ren) { Try.keys33 with } Fence.wide _ trivial rfl (by omega) Bm b nn D0 w hBm hcell hown
  exact callsIn_wide.1 (AnyZI.sorted_in Try.sorted32 Fence.wide 5 trivial trivial trivial trivial rfl (by omega) (Try.sorts51 _) (enters_of Try.func51 (by kernel_rfl) rfl) 52 #[.pointer (some ⟨Bm, 0, none⟩)] trivial (enters_of Try.func52 (by kernel_rfl) rfl) _ _ hmax hbytes _ hseq)

/-- The keys of a map of numbers. -/
theorem Try.ovOk : Go.Ab.OvrOK Try.prog (Go.AbI.ovKS [(33, 52)] 32) := Go.AbI.ovKS_ok (kt := 3) {
  str := Try.underlying3
  callS := by kernel_rfl
  callK := by intro x hx; simp at hx; subst hx; kernel_rfl
  laws := by intro x hx; simp at hx; subst hx; exact Try.keysLaw33
  sort := by intro x hx; simp at hx; subst hx; exact Try.sortedLaw32 }
end Go.Proofs
