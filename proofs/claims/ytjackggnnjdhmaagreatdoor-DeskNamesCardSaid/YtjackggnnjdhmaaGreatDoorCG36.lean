import Derived.Test.YtjackggnnjdhmaaGreatDoorCG11
import Derived.Test.YtjackggnnjdhmaaGreatDoorCG25
import Derived.Test.YtjackggnnjdhmaaGreatDoorCG26
import Derived.Test.YtjackggnnjdhmaaGreatDoorCG27
import Derived.Test.YtjackggnnjdhmaaGreatDoorCG28
import Derived.Test.YtjackggnnjdhmaaGreatDoorCG29
import Derived.Test.YtjackggnnjdhmaaGreatDoorCG30
import Derived.Test.YtjackggnnjdhmaaGreatDoorCG31
import Derived.Test.YtjackggnnjdhmaaGreatDoorCG32
import Derived.Test.YtjackggnnjdhmaaGreatDoorCG33
import Derived.Test.YtjackggnnjdhmaaGreatDoorCG34
import Derived.Test.YtjackggnnjdhmaaGreatDoorCG35
import Derived.KernelRfl
namespace Go.Proofs.YtjackggnnjdhmaaGreatDoor
open Go.Ab
theorem k52 : Picks Tryz.prog 217 (p 8 0) 47 0 (spH m52.H.length (enumS m52.H 0)) fun h => AC Tryz.prog 217 [p 8 0, .int .i64 47] h fun v h' => v = .bool false ∧ h' = spH n52xz S52xz := (k52a.join (k52b.join (k52c.join (k52d.join (k52e.join (k52f.join (k52g.join (k52h.join (k52i.join (k52j.join k52k (by decide)) (by decide)) (by decide)) (by decide)) (by decide)) (by decide)) (by decide)) (by decide)) (by decide)) (by decide))
theorem m52_ok : EntMOK Tryz.prog 160 m52 := by
 have A := k52
 rw [enumS_eq] at A
 refine entM_of (vL := i 47) (n := n52xz) (S := S52xz) (c160 (p := ⟨8, 0⟩) (t := 1000) (f := 0) (n := 47) (by decide) (by decide) (by decide) ?_) (by kernel_rfl)
 refine A.mono fun h B => AC.mono B fun v h' ⟨h1, h2⟩ => ⟨h1, rfl, h2⟩
end Go.Proofs.YtjackggnnjdhmaaGreatDoor
