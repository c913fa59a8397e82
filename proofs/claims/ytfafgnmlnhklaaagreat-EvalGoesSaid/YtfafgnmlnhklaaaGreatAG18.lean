/- What goes round in each loop of this program; the words that all runs share. -/
import Derived.Test.YtfafgnmlnhklaaaGreatAG11
import Derived.Test.YtfafgnmlnhklaaaGreatRows
namespace Go.Proofs.YtfafgnmlnhklaaaGreat
open Go.Ab
set_option linter.unusedVariables false

theorem own : ownKnob Tryz.prog.godebug = none := by kernel_rfl
def slotsTab : List (Nat × List (Nat × List Nat)) := [
 (4, [(0, [10])]),
 (5, [(0, [5, 6])]),
 (7, [(0, [5])]),
 (13, [(0, [7, 8, 9])]),
 (14, [(0, [5])]),
 (15, [(0, [3])]),
 (16, [(0, [40])]),
 (17, [(0, [5])]),
 (19, [(0, [3, 4, 5])]),
 (20, [(0, [3])]),
 (22, [(0, [23])]),
 (23, [(0, [6])]),
 (26, [(0, [5])]),
 (29, [(0, [22])]),
 (30, [(0, [3, 8])]),
 (31, [(0, [3, 4])]),
 (32, [(0, [3])]),
 (33, [(0, [2, 8, 9])]),
 (34, [(0, [5, 6])]),
 (43, [(1, [16])]),
 (45, [(0, [3])]),
 (46, [(1, [5, 7]), (3, [5, 8])]),
 (52, [(0, [12])]),
 (53, [(0, [7])]),
 (54, [(0, [8, 9])]),
 (55, [(0, [17])]),
 (56, [(0, [3, 9])]),
 (57, [(0, [8])]),
 (65, [(0, [9])]),
 (66, [(0, [5, 6])]),
 (69, [(0, [19])]),
 (70, [(0, [19]), (2, [28])]),
 (76, [(0, [4, 5])]),
 (77, [(0, [6])]),
 (78, [(0, [7, 8]), (2, [7, 9])]),
 (79, [(0, [4, 5])]),
 (84, [(0, [6, 27])]),
 (87, [(0, [5])]),
 (89, [(0, [8])]),
 (93, [(0, [])]),
 (94, [(0, [6])]),
 (95, [(0, [32])]),
 (97, [(0, [3]), (2, [3, 5])]),
 (100, [(0, [33])]),
 (107, [(0, [5, 6])]),
 (110, [(0, [5, 11])]),
 (117, [(0, [1, 2, 3, 8, 9])]),
 (120, [(0, [16])]),
 (125, [(0, [8])]),
 (126, [(0, [1, 2, 3, 10, 11])]),
 (127, [(0, [8])]),
 (129, [(0, [13])]),
 (130, [(0, [8])]),
 (131, [(0, [6]), (2, [7])]),
 (132, [(0, [9]), (2, [10])]),
 (133, [(0, [9])]),
 (135, [(0, [6, 7])]),
 (136, [(0, [7, 8]), (2, [7]), (4, [9]), (6, [10])]),
 (138, [(0, [9, 10]), (2, [9]), (4, [10])]),
 (139, [(0, [10]), (2, [11]), (4, [10, 11]), (6, [10]), (8, [11])]),
 (143, [(0, [8]), (2, [9])]),
 (144, [(0, [11]), (2, [12])]),
 (145, [(0, [11])]),
 (147, [(0, [8, 9])]),
 (148, [(0, [9, 10]), (2, [9]), (4, [11]), (6, [12])]),
 (149, [(0, [11, 12]), (2, [11]), (4, [12])]),
 (150, [(0, [12]), (2, [13]), (4, [12, 13]), (6, [12]), (8, [13])]),
 (152, [(0, [8])]),
 (159, [(0, [10])])]
def slotsOf (f : FuncId) (c : Nat) : List Nat := match slotsTab.find? (fun x => x.1 == f) with | some (_, l) => (match l.find? (fun x => x.1 == c) with | some (_, s) => s | none => []) | none => []
def isTrue (v : AV) (_ : EH) : Bool := match v with | .bool true => true | _ => false
theorem isTrue_ok {v : AV} {e : EH} (h : isTrue v e = true) : v = .bool true := by
  cases v <;> simp only [isTrue, Bool.false_eq_true] at h
  rename_i b
  cases b <;> simp at h ⊢
theorem HFor_dead1 : HFor ⟨.n .dead .e .e, 1⟩ (List.replicate 1 .dead) := by
  refine ⟨fun i => ?_, rfl⟩
  cases i with
  | zero => rfl
  | succ i => simp only [T.get]; cases Nat.beq (i % 2) 0 <;> simp [T.get]
theorem HFor_dead2 : HFor ⟨.n .dead (.n .dead .e .e) .e, 2⟩ (List.replicate 2 .dead) := by
  refine ⟨fun i => ?_, rfl⟩
  match i with
  | 0 => rfl
  | 1 => rfl
  | i + 2 =>
    simp only [T.get]
    cases hb : Nat.beq ((i + 1) % 2) 0 with
    | false => simp [T.get]
    | true =>
      obtain ⟨j, hj⟩ : ∃ j, (i + 1) / 2 = j + 1 := ⟨(i + 1) / 2 - 1, by have := T.beq_true hb; omega⟩
      rw [hj]
      simp only
      cases Nat.beq (j % 2) 0 <;> simp [T.get]
end Go.Proofs.YtfafgnmlnhklaaaGreat
