import Derived.Test.YtjackggnnjdhmaaGreatDoorAG11
import Derived.Test.YtjackggnnjdhmaaGreatDoorAG24
import Derived.Test.YtjackggnnjdhmaaGreatDoorAG25
import Derived.Test.YtjackggnnjdhmaaGreatDoorAG26
import Derived.Test.YtjackggnnjdhmaaGreatDoorAG27
import Derived.Test.YtjackggnnjdhmaaGreatDoorAG28
import Derived.Test.YtjackggnnjdhmaaGreatDoorAG29
import Derived.Test.YtjackggnnjdhmaaGreatDoorAG30
import Derived.KernelRfl
namespace Go.Proofs.YtjackggnnjdhmaaGreatDoor
open Go.Ab
theorem k48 : Picks Tryz.prog 217 (p 8 0) 32 0 (spH m48.H.length (enumS m48.H 0)) fun h => AC Tryz.prog 217 [p 8 0, .int .i64 32] h fun v h' => v = .bool false ∧ h' = spH n48xz S48xz := (k48a.join (k48b.join (k48c.join (k48d.join (k48e.join (k48f.join k48g (by decide)) (by decide)) (by decide)) (by decide)) (by decide)) (by decide))
theorem m48_ok : EntMOK Tryz.prog 160 m48 := by
 have A := k48
 rw [enumS_eq] at A
 refine entM_of (vL := i 32) (n := n48xz) (S := S48xz) (c160 (p := ⟨8, 0⟩) (t := 1000) (f := 0) (n := 32) (by decide) (by decide) (by decide) ?_) (by kernel_rfl)
 refine A.mono fun h B => AC.mono B fun v h' ⟨h1, h2⟩ => ⟨h1, rfl, h2⟩
end Go.Proofs.YtjackggnnjdhmaaGreatDoor
