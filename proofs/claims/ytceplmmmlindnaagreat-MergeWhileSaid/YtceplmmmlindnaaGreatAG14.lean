/- What goes round in each loop of this program; the words that all runs share. -/
import Derived.Test.YtceplmmmlindnaaGreatAG10
import Derived.Test.YtceplmmmlindnaaGreatRows
namespace Go.Proofs.YtceplmmmlindnaaGreat
open Go.Ab
set_option linter.unusedVariables false

theorem own : ownKnob Tryz.prog.godebug = none := by kernel_rfl
def slotsTab : List (Nat × List (Nat × List Nat)) := [
 (4, [(0, [8])]),
 (5, [(0, [8])]),
 (6, [(0, [3, 4])]),
 (9, [(0, [3])]),
 (10, [(0, [5])]),
 (11, [(0, [3, 4])]),
 (12, [(0, [22]), (2, [37])]),
 (17, [(0, [6])]),
 (21, [(0, [3])]),
 (22, [(0, [3, 4, 5])]),
 (23, [(0, [17]), (2, [27])]),
 (25, [(0, [3])]),
 (30, [(0, [7])]),
 (35, [(0, [5])]),
 (37, [(0, [1])]),
 (38, [(0, [8])]),
 (78, [(0, [])]),
 (83, [(0, [8])]),
 (87, [(0, [4])]),
 (88, [(0, [5, 15])]),
 (100, [(0, [13])]),
 (106, [(0, [5, 20])]),
 (109, [(0, [3, 11]), (2, [6, 27])]),
 (117, [(0, [0, 3])]),
 (118, [(0, [11])]),
 (122, [(0, [5, 12])])]
def slotsOf (f : FuncId) (c : Nat) : List Nat := match slotsTab.find? (fun x => x.1 == f) with | some (_, l) => (match l.find? (fun x => x.1 == c) with | some (_, s) => s | none => []) | none => []
def isTrue (v : AV) (_ : EH) : Bool := match v with | .bool true => true | _ => false
theorem isTrue_ok {v : AV} {e : EH} (h : isTrue v e = true) : v = .bool true := by
  cases v <;> simp only [isTrue, Bool.false_eq_true] at h
  rename_i b
  cases b <;> simp at h ⊢
theorem HFor_dead1 : HFor ⟨.n .dead .e .e, 1⟩ (List.replicate 1 .dead) := by
  refine ⟨fun i => ?_, rfl⟩
  cases i with
  | zero => rfl
  | succ i => simp only [T.get]; cases Nat.beq (i % 2) 0 <;> simp [T.get]
theorem HFor_dead2 : HFor ⟨.n .dead (.n .dead .e .e) .e, 2⟩ (List.replicate 2 .dead) := by
  refine ⟨fun i => ?_, rfl⟩
  match i with
  | 0 => rfl
  | 1 => rfl
  | i + 2 =>
    simp only [T.get]
    cases hb : Nat.beq ((i + 1) % 2) 0 with
    | false => simp [T.get]
    | true =>
      obtain ⟨j, hj⟩ : ∃ j, (i + 1) / 2 = j + 1 := ⟨(i + 1) / 2 - 1, by have := T.beq_true hb; omega⟩
      rw [hj]
      simp only
      cases Nat.beq (j % 2) 0 <;> simp [T.get]
end Go.Proofs.YtceplmmmlindnaaGreat
