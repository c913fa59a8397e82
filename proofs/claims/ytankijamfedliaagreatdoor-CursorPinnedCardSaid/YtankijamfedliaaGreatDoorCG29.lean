/- What goes round in each loop of this program; the words that all runs share. -/
import Derived.Test.YtankijamfedliaaGreatDoorCG12
import Derived.Test.YtankijamfedliaaGreatDoorRows
namespace Go.Proofs.YtankijamfedliaaGreatDoor
open Go.Ab
set_option linter.unusedVariables false

theorem own : ownKnob Tryz.prog.godebug = none := by kernel_rfl
def slotsTab : List (Nat × List (Nat × List Nat)) := [
 (3, [(0, [11])]),
 (4, [(0, [10])]),
 (6, [(0, [12, 13])]),
 (8, [(0, [15])]),
 (10, [(0, [1, 2])]),
 (12, [(0, [5])]),
 (13, [(0, [])]),
 (17, [(0, [4])]),
 (18, [(0, [5])]),
 (26, [(0, [3, 4])]),
 (27, [(0, [3])]),
 (28, [(0, [3])]),
 (30, [(0, [22]), (2, [37])]),
 (32, [(0, [3, 4])]),
 (33, [(0, [5])]),
 (35, [(0, [11])]),
 (39, [(0, [3, 4, 5])]),
 (40, [(0, [38])]),
 (45, [(0, [5, 6])]),
 (49, [(0, [5, 15])]),
 (56, [(0, [])]),
 (59, [(0, [7])]),
 (60, [(0, [3])]),
 (65, [(0, [6])]),
 (67, [(0, [17]), (2, [27])]),
 (69, [(0, [3])]),
 (73, [(0, [42])]),
 (77, [(0, [29])]),
 (80, [(0, [7, 8])]),
 (84, [(0, [8])]),
 (89, [(0, [8])]),
 (93, [(0, [7])]),
 (96, [(0, [5, 6, 17])]),
 (97, [(0, [3, 10])]),
 (98, [(0, [3, 11]), (2, [6, 27])]),
 (99, [(0, [3, 10])]),
 (101, [(0, [5])]),
 (106, [(0, [3, 9])]),
 (108, [(0, [])]),
 (114, [(0, [27])]),
 (116, [(0, [4])]),
 (117, [(0, [1])]),
 (118, [(0, [8])]),
 (124, [(0, [3, 11]), (2, [6, 27])]),
 (126, [(0, [3, 16])]),
 (127, [(0, [5, 6])]),
 (132, [(0, [5, 20])]),
 (144, [(0, [0, 3])]),
 (145, [(0, [11])]),
 (151, [(0, [8])]),
 (153, [(0, [13])]),
 (157, [(0, [5, 12])]),
 (160, [(0, [])]),
 (163, [(0, [1, 2, 3, 8, 9])]),
 (165, [(0, [6]), (2, [7])]),
 (166, [(0, [9]), (2, [10])]),
 (167, [(0, [9])]),
 (169, [(0, [6, 7])]),
 (170, [(0, [7, 8]), (2, [7]), (4, [9]), (6, [10])]),
 (172, [(0, [9, 10]), (2, [9]), (4, [10])]),
 (173, [(0, [10]), (2, [11]), (4, [10, 11]), (6, [10]), (8, [11])]),
 (176, [(0, [8])])]
def slotsOf (f : FuncId) (c : Nat) : List Nat := match slotsTab.find? (fun x => x.1 == f) with | some (_, l) => (match l.find? (fun x => x.1 == c) with | some (_, s) => s | none => []) | none => []
def isTrue (v : AV) (_ : EH) : Bool := match v with | .bool true => true | _ => false
theorem isTrue_ok {v : AV} {e : EH} (h : isTrue v e = true) : v = .bool true := by
  cases v <;> simp only [isTrue, Bool.false_eq_true] at h
  rename_i b
  cases b <;> simp at h ⊢
end Go.Proofs.YtankijamfedliaaGreatDoor
