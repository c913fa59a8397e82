/- maps.Keys and slices.Sorted of this program, by the shelf's contracts. -/
import Derived.Test.YtceplmmmlindnaaEG14
import Derived.Shelf.SlIter.Nil
import Derived.Shelf.SortM.Plain
import Derived.Shelf.SortM.SortNone
import Derived.Ground.GgzProg
import Derived.Ground.SlgmProg
import Derived.Test.YtceplmmmlindnaaProg
namespace Go.Proofs
open Go.RowKit Go.Maps Go.Sort Go.Shelf

shelf_lay_g SlLaysZ.n7 Ggz 7 at Try 85 as Try.keys85
shelf_lay_g SlLaysZ.n7 Ggz 7 at Try 96 as Try.keys96
shelf_lay_g SlLaysZ.n6 Ggz 6 at Try 84 as Try.sorted84
shelf_lay_g SlLaysM.n6 Slgm 6 at Try 121 as Try.sort121

theorem Try.sorts84 (m : Nat) : AnyZ.SortsIn Try.prog Try.sorted84_ren Fence.wide m :=
  ⟨fun blk off cap ss W hH hblk hsz => callsIn_wide.2 (AnyM.slices_Sort_string Try.sort121 blk off cap ss W hH hblk hsz),
   fun p cap W => callsIn_wide.2 (AnyM.slices_Sort_string_none Try.sort121 p cap W)⟩

theorem Try.keysLaw85 : Go.Ab.KeysLaw Try.prog 85 122 := ⟨126, fun mb W => callsIn_wide.1 (AnyZ.keys_in Try.keys85 Fence.wide 5 trivial rfl mb W)⟩
theorem Try.keysLaw96 : Go.Ab.KeysLaw Try.prog 96 125 := ⟨131, fun mb W => callsIn_wide.1 (AnyZ.keys_in Try.keys96 Fence.wide 5 trivial rfl mb W)⟩

set_option maxHeartbeats 1000000 in
theorem Try.sortedLaw122 : Go.Ab.SortedLaw Try.prog 84 122 9 := by
  intro Bm b nn D0 w hBm hcell hown hmax hbytes
  have hseq : SeqGives Fence.wide 2 Try.prog 122 #[.pointer (some ⟨Bm, 0, none⟩)] encStr (fun ss => ss.Perm (strKeys D0)) (Maps.size D0) w :=
    AnyZ.keys_gives (ρ := Try.keys85_ren) { Try.keys85 with } Fence.wide _ trivial rfl (by omega) Bm b nn D0 w hBm hcell hown
  exact callsIn_wide.1 (AnyZ.sorted_in Try.sorted84 Fence.wide 5 trivial trivial trivial trivial rfl (by omega) (Try.sorts84 _) (enters_of Try.func121 (by kernel_rfl) rfl) 122 #[.pointer (some ⟨Bm, 0, none⟩)] trivial (enters_of Try.func122 (by kernel_rfl) rfl) _ _ hmax hbytes _ hseq)

set_option maxHeartbeats 1000000 in
theorem Try.sortedLaw125 : Go.Ab.SortedLaw Try.prog 84 125 9 := by
  intro Bm b nn D0 w hBm hcell hown hmax hbytes
  have hseq : SeqGives Fence.wide 2 Try.prog 125 #[.pointer (some ⟨Bm, 0, none⟩)] encStr (fun ss => ss.Perm (strKeys D0)) (Maps.size D0) w :=
    AnyZ.keys_gives (ρ := Try.keys96_ren) { Try.keys96 with } Fence.wide _ trivial rfl (by omega) Bm b nn D0 w hBm hcell hown
  exact callsIn_wide.1 (AnyZ.sorted_in Try.sorted84 Fence.wide 5 trivial trivial trivial trivial rfl (by omega) (Try.sorts84 _) (enters_of Try.func121 (by kernel_rfl) rfl) 125 #[.pointer (some ⟨Bm, 0, none⟩)] trivial (enters_of Try.func125 (by kernel_rfl) rfl) _ _ hmax hbytes _ hseq)

/-- Both kinds of keys. -/
theorem Try.ovOk : Go.Ab.OvrOK Try.prog (Go.Ab.ovKS [(85, 122), (96, 125)] 84) := Go.Ab.ovKS_ok (kt := 9) {
  str := Try.underlying9
  callS := by kernel_rfl
  callK := by intro x hx; simp at hx; rcases hx with rfl | rfl <;> kernel_rfl
  laws := by intro x hx; simp at hx; rcases hx with rfl | rfl; exact Try.keysLaw85; exact Try.keysLaw96
  sort := by intro x hx; simp at hx; rcases hx with rfl | rfl; exact Try.sortedLaw122; exact Try.sortedLaw125 }
end Go.Proofs
