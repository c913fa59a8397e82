/- What goes round in each loop of this program; the words that all runs share. -/
import Derived.Test.YtfafgnmlnhklaaaBG12
import Derived.Test.YtfafgnmlnhklaaaRows
namespace Go.Proofs.Ytfafgnmlnhklaaa
open Go.Ab
set_option linter.unusedVariables false

theorem own : ownKnob Try.prog.godebug = none := by kernel_rfl
def slotsTab : List (Nat × List (Nat × List Nat)) := [
 (3, [(0, [5, 6]), (2, [9]), (4, [10]), (6, [11, 12])]),
 (4, [(0, [8, 9]), (2, [10]), (4, [11]), (6, [12])]),
 (5, [(0, [9, 10]), (2, [12, 13])]),
 (6, [(0, [9, 10, 11])]),
 (7, [(0, [5, 6])]),
 (13, [(0, [5])]),
 (18, [(0, [5])]),
 (19, [(0, [5])]),
 (20, [(0, [3])]),
 (21, [(0, [23])]),
 (24, [(0, [3, 4, 5])]),
 (25, [(0, [3])]),
 (27, [(0, [40])]),
 (28, [(0, [22])]),
 (29, [(0, [3, 8])]),
 (34, [(0, [9])]),
 (35, [(0, [5, 6])]),
 (39, [(1, [16])]),
 (47, [(0, [12])]),
 (52, [(0, [])]),
 (53, [(0, [8])]),
 (57, [(0, [19])]),
 (58, [(0, [19]), (2, [28])]),
 (63, [(0, [17])]),
 (64, [(0, [3, 9])]),
 (65, [(0, [8])]),
 (68, [(0, [6, 27])]),
 (74, [(0, [1, 2, 3, 8, 9])]),
 (77, [(0, [6])]),
 (78, [(0, [32])]),
 (80, [(0, [3]), (2, [3, 5])]),
 (83, [(0, [33])]),
 (88, [(0, [5, 11])]),
 (90, [(0, [6]), (2, [7])]),
 (91, [(0, [9]), (2, [10])]),
 (92, [(0, [9])]),
 (94, [(0, [6, 7])]),
 (95, [(0, [7, 8]), (2, [7]), (4, [9]), (6, [10])]),
 (97, [(0, [9, 10]), (2, [9]), (4, [10])]),
 (98, [(0, [10]), (2, [11]), (4, [10, 11]), (6, [10]), (8, [11])]),
 (102, [(0, [16])]),
 (107, [(0, [8])]),
 (108, [(0, [1, 2, 3, 10, 11])]),
 (109, [(0, [8])]),
 (116, [(0, [13])]),
 (117, [(0, [8])]),
 (124, [(0, [8]), (2, [9])]),
 (125, [(0, [11]), (2, [12])]),
 (126, [(0, [11])]),
 (128, [(0, [8, 9])]),
 (129, [(0, [9, 10]), (2, [9]), (4, [11]), (6, [12])]),
 (130, [(0, [11, 12]), (2, [11]), (4, [12])]),
 (131, [(0, [12]), (2, [13]), (4, [12, 13]), (6, [12]), (8, [13])]),
 (132, [(0, [8])]),
 (136, [(0, [10])])]
def slotsOf (f : FuncId) (c : Nat) : List Nat := match slotsTab.find? (fun x => x.1 == f) with | some (_, l) => (match l.find? (fun x => x.1 == c) with | some (_, s) => s | none => []) | none => []
def isTrue (v : AV) (_ : EH) : Bool := match v with | .bool true => true | _ => false
theorem isTrue_ok {v : AV} {e : EH} (h : isTrue v e = true) : v = .bool true := by
  cases v <;> simp only [isTrue, Bool.false_eq_true] at h
  rename_i b
  cases b <;> simp at h ⊢
theorem HFor_dead1 : HFor ⟨.n .dead .e .e, 1⟩ (List.replicate 1 .dead) := by
  refine ⟨fun i => ?_, rfl⟩
  cases i with
  | zero => rfl
  | succ i => simp only [T.get]; cases Nat.beq (i % 2) 0 <;> simp [T.get]
theorem HFor_dead2 : HFor ⟨.n .dead (.n .dead .e .e) .e, 2⟩ (List.replicate 2 .dead) := by
  refine ⟨fun i => ?_, rfl⟩
  match i with
  | 0 => rfl
  | 1 => rfl
  | i + 2 =>
    simp only [T.get]
    cases hb : Nat.beq ((i + 1) % 2) 0 with
    | false => simp [T.get]
    | true =>
      obtain ⟨j, hj⟩ : ∃ j, (i + 1) / 2 = j + 1 := ⟨(i + 1) / 2 - 1, by have := T.beq_true hb; omega⟩
      rw [hj]
      simp only
      cases Nat.beq (j % 2) 0 <;> simp [T.get]
end Go.Proofs.Ytfafgnmlnhklaaa
