import Derived.Test.YtafmabnolelknaaGreatDoorEG23
import Derived.Test.YtafmabnolelknaaGreatDoorEG27
import Derived.Test.YtafmabnolelknaaGreatDoorEG40
import Derived.Laws.Small
namespace Go.Proofs.YtafmabnolelknaaGreatDoor
open Go.Ab
open Go.ChangeShapes Go.WideShapes Go.ChangeAt Go.RowKit
set_option linter.unusedVariables false
set_option linter.unusedSimpArgs false
def LB (h : Heap) : Prop := ∀ i, i < 8 → h[i]? = (laidHs 0 gsAV)[i]?
theorem LB.app (t : Heap) : LB (laidHs 0 gsAV ++ t) := fun i hi => List.getElem?_append_left hi
theorem LB.ext (h h' : Heap) (L : LB h) (x : Ext h h') : LB h' := fun i hi => by
 have h1 := L i hi
 have h2 : (laidHs 0 gsAV)[i]? = some ((laidHs 0 gsAV)[i]'hi) := List.getElem?_eq_getElem hi
 rw [h2] at h1 ⊢
 exact x _ _ h1
theorem LB.over {h : Heap} (L : LB h) : OverL h := by
 have e : h = laidHs 0 gsAV ++ h.drop 8 := by
  apply List.ext_getElem?
  intro i
  by_cases hi : i < 8
  ·rw [List.getElem?_append_left (by exact hi)]; exact L i hi
  ·rw [List.getElem?_append_right (by show 8 ≤ i; omega)]
   show h[i]? = (h.drop 8)[i - 8]?
   rw [List.getElem?_drop]
   congr 1; omega
 rw [e]; exact overL_app _
theorem l40 (h : Heap) (Q : AV → Heap → Prop) (L : LB h) (hQ : Q (.bool true) h) : AC Tryz.prog 40 [] h Q := by
 obtain ⟨e, H, hr⟩ := wlaidE_ok gsAV 0 _ [] _ HFor_nil runw40
 exact AC_frame_gs (gs := gsAV) (v := .bool true) (frun_ok ovS_ok (by simpa using H) (fun x e' h' _ hx => isTrue_ok hx) hr) (fun _ _ _ h => h) (fun _ _ _ h => h) L.over hQ
set_option maxRecDepth 100000 in
theorem three_cells {W : World} {base : Nat} {r : Reach} {v : Value} (hv : Value.okWide Tryz.prog W r base 85 v) : ∃ a b c : Int, v = .agg #[.int .i64 a, .int .i64 b, .int .i64 c] := by
 obtain ⟨cs, rfl, hl, hc⟩ := row_cells (ts := [3, 3, 3]) Tryz.underlying85 (.inl ⟨_, rfl⟩) hv (by kernel_rfl) (by kernel_rfl)
 obtain ⟨x0, g0, h0⟩ := hc 0 3 rfl
 obtain ⟨x1, g1, h1⟩ := hc 1 3 rfl
 obtain ⟨x2, g2, h2⟩ := hc 2 3 rfl
 obtain rfl : cs = [x0, x1, x2] := by
  match cs, hl with
  | [y0, y1, y2], _ => simp at g0 g1 g2; simp_all
 obtain ⟨a, rfl⟩ := cell_int Tryz.underlying3 h0
 obtain ⟨b, rfl⟩ := cell_int Tryz.underlying3 h1
 obtain ⟨c, rfl⟩ := cell_int Tryz.underlying3 h2
 exact ⟨a, b, c, rfl⟩
end Go.Proofs.YtafmabnolelknaaGreatDoor
