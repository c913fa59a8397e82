/- MergeNobody answers yes for every number. -/
import Derived.Test.YtceplmmmlindnaaEv5
import Derived.Test.YtceplmmmlindnaaRows
namespace Go.Proofs.Ytceplmmmlindnaa
open Go.Ab
open Go.ChangeShapes Go.WideShapes Go.ChangeAt Go.RowKit
set_option linter.unusedVariables false

theorem own : ownKnob Try.prog.godebug = none := by kernel_rfl
def slotsTab : List (Nat × List (Nat × List Nat)) := [
 (5, [(0, [7])]),
 (6, [(0, [5]), (2, [7])]),
 (8, [(0, [7])]),
 (10, [(0, [11]), (2, [12]), (4, [19]), (6, [22])]),
 (12, [(0, [3, 4])]),
 (14, [(0, [5, 29])]),
 (16, [(0, [5])]),
 (17, [(0, [3])]),
 (19, [(0, [27])]),
 (20, [(0, [3, 4])]),
 (21, [(0, [7])]),
 (25, [(0, [14])]),
 (26, [(0, [3, 9])]),
 (28, [(0, [5])]),
 (31, [(0, [12]), (2, [19])]),
 (37, [(0, [4])]),
 (39, [(0, [16]), (2, [])]),
 (43, [(0, [29])]),
 (46, [(0, [3, 16])]),
 (47, [(0, [3, 14])]),
 (48, [(0, [3, 9])]),
 (53, [(0, [6])]),
 (55, [(0, [11])]),
 (56, [(0, [22]), (2, [37])]),
 (60, [(0, [3, 10])]),
 (61, [(0, [3, 11]), (2, [6, 27])]),
 (63, [(0, [13])]),
 (74, [(1, [3])]),
 (83, [(0, [3, 5]), (2, [3, 6]), (4, [8])]),
 (92, [(0, [])]),
 (97, [(0, [7])]),
 (101, [(0, [17]), (2, [27])]),
 (103, [(0, [3])]),
 (106, [(0, [5])]),
 (109, [(0, [8])]),
 (110, [(0, [5, 20])]),
 (115, [(0, [0, 7])]),
 (117, [(0, [6, 7])]),
 (122, [(0, [])]),
 (123, [(0, [5, 6])]),
 (125, [(0, [])]),
 (130, [(0, [7])]),
 (131, [(0, [0, 3])]),
 (132, [(0, [11])]),
 (134, [(0, [1, 2, 3, 8, 9])]),
 (136, [(0, [8])]),
 (137, [(0, [1])]),
 (140, [(0, [5])]),
 (142, [(0, [6]), (2, [7])]),
 (143, [(0, [9]), (2, [10])]),
 (144, [(0, [9])]),
 (146, [(0, [6, 7])]),
 (147, [(0, [7, 8]), (2, [7]), (4, [9]), (6, [10])]),
 (149, [(0, [9, 10]), (2, [9]), (4, [10])]),
 (150, [(0, [10]), (2, [11]), (4, [10, 11]), (6, [10]), (8, [11])]),
 (155, [(0, [8])]),
 (158, [(0, [8])]),
 (194, [(0, [])]),
 (199, [(0, [8])]),
 (203, [(0, [4])]),
 (204, [(0, [5, 15])]),
 (212, [(0, [13])]),
 (220, [(0, [5, 12])])]
def slotsOf (f : FuncId) (c : Nat) : List Nat := match slotsTab.find? (fun x => x.1 == f) with | some (_, l) => (match l.find? (fun x => x.1 == c) with | some (_, s) => s | none => []) | none => []
def isTrue (v : AV) (_ : EH) : Bool := match v with | .bool true => true | _ => false
theorem isTrue_ok {v : AV} {e : EH} (h : isTrue v e = true) : v = .bool true := by
  cases v <;> simp only [isTrue, Bool.false_eq_true] at h
  rename_i b
  cases b <;> simp at h ⊢
theorem noOvr : OvrOK Try.prog (fun _ => none) := by intro f g h; cases h
set_option maxRecDepth 100000 in
theorem run11 (n : Int) : erun Try.prog slotsOf (fun _ => none) 60 11 [.int .i64 n] ⟨.e, 0⟩ isTrue = true := by kernel_rfl
theorem s11 (n : Int) : AC Try.prog 11 [.int .i64 n] [] fun v _ => v = .bool true :=
  erun_ok noOvr 60 11 _ _ _ _ _ HFor_nil (fun v e' h' _ hv => isTrue_ok hv) (run11 n)

set_option maxRecDepth 100000 in
theorem merge_lifted (os : Os) (started : os.Started) (H : Type) (enc : TypeId × Value → H) :
    ReturnsInHanded {} Try.checked os 11 .any (Rows.mergeNobodySpec.pre6 enc Try.prog Try.f11 Rows.mergeNobodyRow.domain false) (Rows.mergeNobodySpec.post enc Try.prog Try.f11 false true false false) := by
  refine returnsInHanded_of_change (C := Try.checked) own started (by kernel_rfl) Try.func11
    (ChangeSpec.witness6 (enc := enc) (C := Try.checked) false ⟨#[], #[.int .i64 0], []⟩ 8 (by kernel_rfl) (by kernel_rfl) (by kernel_rfl) (by kernel_rfl)) ?_
  intro W base args ds gs before hval0 hW _ _
  have hval : ∀ (j : Nat) t v, Try.f11.params[j]? = some t → args[j]? = some v → Value.okWide Try.prog W .any base t v := hval0
  have hW' := hW
  obtain ⟨p, q, hA0, hV, rfl, hfz, hnd⟩ := hW
  have hA : DataW.TrodAll enc Try.prog W 0 (fun _ => true) true Try.f11.params.toList args.toList ds p := hA0
  rw [Try.params11] at hA hval
  obtain ⟨v0, vs0, d0, ds0, p0, q0, hargs, rfl, rfl, h0, r0⟩ := trodAll_cons hA
  obtain ⟨rfl, rfl, rfl⟩ := trodAll_nil r0
  obtain rfl : args = #[v0] := by cases args; simp_all
  obtain ⟨rfl, rfl⟩ := trodVars_none hV
  obtain ⟨a, rfl, rfl, rfl, wa⟩ := open_int Try.underlying3 (hval 0 3 v0 rfl rfl) h0
  refine (calls_of_AC (s11 a) (hrel_nil W) (show relL [] [AV.int .i64 a] [Value.int .i64 a] from ⟨_, _, rfl, rfl, rfl⟩) (by simp)).mono fun e W' ⟨he, hb⟩ => ?_
  exact ⟨_, he, post_yes hW' rfl rfl (by kernel_rfl) Try.underlying4 (by kernel_rfl) hb⟩

theorem mergeNobody_holds : Rows.MergeNobodySaid :=
  OpenClaim.holds_of_wide 11 Try.f11 rfl rfl rfl rfl rfl rfl rfl ⟨rfl, rfl, rfl, rfl, rfl⟩ rfl rfl rfl rfl rfl (by kernel_rfl) Try.func11 (by kernel_rfl)
    (of_decide_eq_true (by kernel_rfl)) (by unfold Func.isWrapper; first | (rw [if_pos (by decide +kernel)]; kernel_rfl) | (rw [if_neg (by decide +kernel)]; exact ⟨rfl, rfl⟩))
    (fun os started H enc _ => merge_lifted os started H enc)
end Go.Proofs.Ytceplmmmlindnaa
