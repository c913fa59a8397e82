/- What goes round in each loop of this program; the words that all runs share. -/
import Derived.Test.YtceplmmmlindnaaEG12
import Derived.Test.YtceplmmmlindnaaRows
namespace Go.Proofs.Ytceplmmmlindnaa
open Go.Ab
set_option linter.unusedVariables false

theorem own : ownKnob Try.prog.godebug = none := by kernel_rfl
def slotsTab : List (Nat × List (Nat × List Nat)) := [
 (5, [(0, [7])]),
 (6, [(0, [5]), (2, [7])]),
 (8, [(0, [7])]),
 (10, [(0, [11]), (2, [12]), (4, [19]), (6, [22])]),
 (12, [(0, [3, 4])]),
 (14, [(0, [5, 29])]),
 (16, [(0, [5])]),
 (17, [(0, [3])]),
 (19, [(0, [27])]),
 (20, [(0, [3, 4])]),
 (21, [(0, [7])]),
 (25, [(0, [14])]),
 (26, [(0, [3, 9])]),
 (28, [(0, [5])]),
 (31, [(0, [12]), (2, [19])]),
 (37, [(0, [4])]),
 (39, [(0, [16]), (2, [])]),
 (43, [(0, [29])]),
 (46, [(0, [3, 16])]),
 (47, [(0, [3, 14])]),
 (48, [(0, [3, 9])]),
 (53, [(0, [6])]),
 (55, [(0, [11])]),
 (56, [(0, [22]), (2, [37])]),
 (60, [(0, [3, 10])]),
 (61, [(0, [3, 11]), (2, [6, 27])]),
 (63, [(0, [13])]),
 (74, [(1, [3])]),
 (83, [(0, [3, 5]), (2, [3, 6]), (4, [8])]),
 (92, [(0, [])]),
 (97, [(0, [7])]),
 (101, [(0, [17]), (2, [27])]),
 (103, [(0, [3])]),
 (106, [(0, [5])]),
 (109, [(0, [8])]),
 (110, [(0, [5, 20])]),
 (115, [(0, [0, 7])]),
 (117, [(0, [6, 7])]),
 (122, [(0, [])]),
 (123, [(0, [5, 6])]),
 (125, [(0, [])]),
 (130, [(0, [7])]),
 (131, [(0, [0, 3])]),
 (132, [(0, [11])]),
 (134, [(0, [1, 2, 3, 8, 9])]),
 (136, [(0, [8])]),
 (137, [(0, [1])]),
 (140, [(0, [5])]),
 (142, [(0, [6]), (2, [7])]),
 (143, [(0, [9]), (2, [10])]),
 (144, [(0, [9])]),
 (146, [(0, [6, 7])]),
 (147, [(0, [7, 8]), (2, [7]), (4, [9]), (6, [10])]),
 (149, [(0, [9, 10]), (2, [9]), (4, [10])]),
 (150, [(0, [10]), (2, [11]), (4, [10, 11]), (6, [10]), (8, [11])]),
 (155, [(0, [8])]),
 (158, [(0, [8])]),
 (194, [(0, [])]),
 (199, [(0, [8])]),
 (203, [(0, [4])]),
 (204, [(0, [5, 15])]),
 (212, [(0, [13])]),
 (220, [(0, [5, 12])])]
def slotsOf (f : FuncId) (c : Nat) : List Nat := match slotsTab.find? (fun x => x.1 == f) with | some (_, l) => (match l.find? (fun x => x.1 == c) with | some (_, s) => s | none => []) | none => []
def isTrue (v : AV) (_ : EH) : Bool := match v with | .bool true => true | _ => false
theorem isTrue_ok {v : AV} {e : EH} (h : isTrue v e = true) : v = .bool true := by
  cases v <;> simp only [isTrue, Bool.false_eq_true] at h
  rename_i b
  cases b <;> simp at h ⊢
theorem HFor_dead1 : HFor ⟨.n .dead .e .e, 1⟩ (List.replicate 1 .dead) := by
  refine ⟨fun i => ?_, rfl⟩
  cases i with
  | zero => rfl
  | succ i => simp only [T.get]; cases Nat.beq (i % 2) 0 <;> simp [T.get]
theorem HFor_dead2 : HFor ⟨.n .dead (.n .dead .e .e) .e, 2⟩ (List.replicate 2 .dead) := by
  refine ⟨fun i => ?_, rfl⟩
  match i with
  | 0 => rfl
  | 1 => rfl
  | i + 2 =>
    simp only [T.get]
    cases hb : Nat.beq ((i + 1) % 2) 0 with
    | false => simp [T.get]
    | true =>
      obtain ⟨j, hj⟩ : ∃ j, (i + 1) / 2 = j + 1 := ⟨(i + 1) / 2 - 1, by have := T.beq_true hb; omega⟩
      rw [hj]
      simp only
      cases Nat.beq (j % 2) 0 <;> simp [T.get]
end Go.Proofs.Ytceplmmmlindnaa
