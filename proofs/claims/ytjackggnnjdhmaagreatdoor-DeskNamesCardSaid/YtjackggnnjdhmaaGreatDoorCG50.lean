import Derived.Test.YtjackggnnjdhmaaGreatDoorCG49
namespace Go.Proofs.YtjackggnnjdhmaaGreatDoor
open Go
theorem tie9 : ∀ os tape, (DataW.laidRun Tryz.prog (varsWorld Tryz.prog 400 (varsId Tryz.prog) os tape).memory 8 (laidR.map (·.1))).map (fun x => decide x.2.Nodup && laidRowsB Tryz.prog (varsWorld Tryz.prog 400 (varsId Tryz.prog) os tape).memory x.2) = some true := fun _ _ => by kernel_rfl
theorem tie : Tryz.prog.laidByTextLater laidR [.data, .data, .data, .data, .data] true :=
 Program.laidByTextLater_by_run 400 8 tie1 tie2 tie3 tie4 tie5 tie6 tie7 tie8 tie9
theorem pin_first : Tryz.pinned.checked.prog.pinnedFits (Rows.deskNamesRow.named.getD 5 "") = true := by kernel_rfl
theorem noOwnUnsafe : Tryz.pinned.checked.prog.headLifts.contains "ownunsafe" = false := by kernel_rfl
theorem fits2 : Tryz.pinned.checked.prog.listedFits Rows.deskNamesRow.laid = true := by
 unfold Program.listedFits
 rw [noOwnUnsafe]
 kernel_rfl
theorem deskNames_row_tie : Rows.deskNamesRow.laidByTextAt .later Tryz.pinned [.data, .data, .data, .data, .pinned, .data] true :=
 OpenClaim.laidByTextAt_pinned rfl rfl tie rfl rfl rfl rfl (fun y hy _e => by
  simp only [Rows.deskNamesRow, List.zip_cons_cons, List.zip_nil_right, List.mem_cons, List.mem_nil_iff, or_false] at hy
  rcases hy with rfl | rfl | rfl | rfl | rfl | rfl
  ·cases _e
  ·cases _e
  ·cases _e
  ·cases _e
  ·exact ⟨pin_first, by kernel_rfl⟩
  ·cases _e) fits2
end Go.Proofs.YtjackggnnjdhmaaGreatDoor
