import Derived.Test.YtjackggnnjdhmaaGreatDoorAG11
import Derived.Test.YtjackggnnjdhmaaGreatDoorAG31
import Derived.Test.YtjackggnnjdhmaaGreatDoorAG32
import Derived.Test.YtjackggnnjdhmaaGreatDoorAG33
import Derived.Test.YtjackggnnjdhmaaGreatDoorAG34
import Derived.Test.YtjackggnnjdhmaaGreatDoorAG35
import Derived.Test.YtjackggnnjdhmaaGreatDoorAG36
import Derived.Test.YtjackggnnjdhmaaGreatDoorAG37
import Derived.Test.YtjackggnnjdhmaaGreatDoorAG38
import Derived.Test.YtjackggnnjdhmaaGreatDoorAG39
import Derived.KernelRfl
namespace Go.Proofs.YtjackggnnjdhmaaGreatDoor
open Go.Ab
theorem k57 : Picks Tryz.prog 217 (p 8 0) 34 0 (spH m57.H.length (enumS m57.H 0)) fun h => AC Tryz.prog 217 [p 8 0, .int .i64 34] h fun v h' => v = .bool false ∧ h' = spH n57xz S57xz := (k57a.join (k57b.join (k57c.join (k57d.join (k57e.join (k57f.join (k57g.join k57h (by decide)) (by decide)) (by decide)) (by decide)) (by decide)) (by decide)) (by decide))
theorem m57_ok : EntMOK Tryz.prog 160 m57 := by
 have A := k57
 rw [enumS_eq] at A
 refine entM_of (vL := i 34) (n := n57xz) (S := S57xz) (c160 (p := ⟨8, 0⟩) (t := 1000) (f := 0) (n := 34) (by decide) (by decide) (by decide) ?_) (by kernel_rfl)
 refine A.mono fun h B => AC.mono B fun v h' ⟨h1, h2⟩ => ⟨h1, rfl, h2⟩
noncomputable def ovV : Ovr := ovAdd 160 (eMemoM [m48, m57] noRun) ovU
theorem ovV_ok : OvrOK Tryz.prog ovV := ovAdd_ok (eMemoM_ok (mm_cons m48_ok (mm_one m57_ok)) (noRun_ok 160)) ovU_ok
theorem m49_ok : EntMOK Tryz.prog 100 m49 := entMR_ok (runOK_grun ovV_ok 60 100) (by kernel_rfl)
theorem m58_ok : EntMOK Tryz.prog 100 m58 := entMR_ok (runOK_grun ovV_ok 60 100) (by kernel_rfl)
end Go.Proofs.YtjackggnnjdhmaaGreatDoor
