/-
  NARROWER THAN 'FOR EVERY INPUT', by the rows' own cells (each row's printed sentence says how): EvalTells: loops · EvalGoes: loops · EvalOrder: loops · OperApplies: loops.
  DERIVED. THE GIVEN ROWS OF THIS SEAT. 4 by the template 'for every input the law returns true; each argument reads behind the call as it read before'; 0 by the template 'total and deterministic' (their statements: YtfafgnmlnhklaaaGreatTotals.lean).
  GIVEN WITH THE SEED: the statements are not yours to turn. If you find one false, say at which input.
  Laid BY PROGRAM, IN A SANDBOX (cutbox-rows.mjs): the forced cells as the released guide's own fill.sh prints them over the translation caf3af313cd599b6… (all of the seat's roots in one cut). By AI agents, Wed Nov 11 2026. No macro, syntax, notation, axiom, sorry.
-/
import Derived.Test.YtfafgnmlnhklaaaGreatChecked
import GoSem.Claim
import GoSem.ClaimJoined
import GoSem.ClaimMapViews
import Derived.JoinedTies
import Derived.KernelRfl
namespace Go.Proofs.YtfafgnmlnhklaaaGreat
/- THE CELL 'sum', in the pinned program and in every row, IS THE sha256 OF THE DUMP (.gsa) THAT YtfafgnmlnhklaaaGreatProg.lean LOADS. Nothing in Lean hashes anything: it is a label: what it is worth is what the hold of that sum in a sandbox is worth. -/
noncomputable def Tryz.pinned : Pinned := { name := "ytfafgnmlnhklaaagreat", sum := "caf3af313cd599b65bbc4b178a746c95962530866bb80991be04511b5574dae5", checked := Tryz.checked }
namespace Rows
def none {H : Type} : Left H := { results := [], args := [] }

/-- 'oxbowlaw19.EvalTells': WHATEVER THE INPUT: true; the input reads as it did. -/
def evalTellsSpec : ChangeSpec := { name := "evalTells", fn := fun _ => fun
  | [d1, d2] => { results := [.lit (.bool true)], args := [d1, d2] }
  | _ => none }
def evalTellsRow : OpenClaim := { program := "ytfafgnmlnhklaaagreat", sum := "caf3af313cd599b65bbc4b178a746c95962530866bb80991be04511b5574dae5", func := "oxbow/oxbowlaw19.EvalTells", spec := "evalTells", unfollowed := true, recurses := true, loops := true, apart := false }
def EvalTellsSaid : Prop := evalTellsRow.holds Tryz.pinned (OpenSpec.ofChange evalTellsSpec)

/-- ITS FALSE NEIGHBOUR: 'it returns false'. Refute it at one input. -/
def evalTellsWrong : ChangeSpec := { name := "evalTells", fn := fun _ => fun
  | [d1, d2] => { results := [.lit (.bool false)], args := [d1, d2] }
  | _ => none }
def EvalTellsWrongFalsely : Prop := evalTellsRow.holds Tryz.pinned (OpenSpec.ofChange evalTellsWrong)

/-- 'oxbowlaw19.EvalGoes': WHATEVER THE INPUT: true; the input reads as it did. -/
def evalGoesSpec : ChangeSpec := { name := "evalGoes", fn := fun _ => fun
  | [d1, d2] => { results := [.lit (.bool true)], args := [d1, d2] }
  | _ => none }
def evalGoesRow : OpenClaim := { program := "ytfafgnmlnhklaaagreat", sum := "caf3af313cd599b65bbc4b178a746c95962530866bb80991be04511b5574dae5", func := "oxbow/oxbowlaw19.EvalGoes", spec := "evalGoes", unfollowed := true, recurses := true, loops := true, apart := false }
def EvalGoesSaid : Prop := evalGoesRow.holds Tryz.pinned (OpenSpec.ofChange evalGoesSpec)

/-- ITS FALSE NEIGHBOUR: 'it returns false'. Refute it at one input. -/
def evalGoesWrong : ChangeSpec := { name := "evalGoes", fn := fun _ => fun
  | [d1, d2] => { results := [.lit (.bool false)], args := [d1, d2] }
  | _ => none }
def EvalGoesWrongFalsely : Prop := evalGoesRow.holds Tryz.pinned (OpenSpec.ofChange evalGoesWrong)

/-- 'oxbowlaw19.EvalOrder': WHATEVER THE INPUT: true; the input reads as it did. -/
def evalOrderSpec : ChangeSpec := { name := "evalOrder", fn := fun _ => fun
  | [d1, d2] => { results := [.lit (.bool true)], args := [d1, d2] }
  | _ => none }
def evalOrderRow : OpenClaim := { program := "ytfafgnmlnhklaaagreat", sum := "caf3af313cd599b65bbc4b178a746c95962530866bb80991be04511b5574dae5", func := "oxbow/oxbowlaw19.EvalOrder", spec := "evalOrder", unfollowed := true, recurses := true, loops := true, apart := false }
def EvalOrderSaid : Prop := evalOrderRow.holds Tryz.pinned (OpenSpec.ofChange evalOrderSpec)

/-- ITS FALSE NEIGHBOUR: 'it returns false'. Refute it at one input. -/
def evalOrderWrong : ChangeSpec := { name := "evalOrder", fn := fun _ => fun
  | [d1, d2] => { results := [.lit (.bool false)], args := [d1, d2] }
  | _ => none }
def EvalOrderWrongFalsely : Prop := evalOrderRow.holds Tryz.pinned (OpenSpec.ofChange evalOrderWrong)

/-- 'oxbowlaw18.OperApplies': WHATEVER THE INPUT: true; the input reads as it did. -/
def operAppliesSpec : ChangeSpec := { name := "operApplies", fn := fun _ => fun
  | [d1, d2] => { results := [.lit (.bool true)], args := [d1, d2] }
  | _ => none }
def operAppliesRow : OpenClaim := { program := "ytfafgnmlnhklaaagreat", sum := "caf3af313cd599b65bbc4b178a746c95962530866bb80991be04511b5574dae5", func := "oxbow/oxbowlaw18.OperApplies", spec := "operApplies", unfollowed := true, recurses := true, loops := true, apart := false }
def OperAppliesSaid : Prop := operAppliesRow.holds Tryz.pinned (OpenSpec.ofChange operAppliesSpec)

/-- ITS FALSE NEIGHBOUR: 'it returns false'. Refute it at one input. -/
def operAppliesWrong : ChangeSpec := { name := "operApplies", fn := fun _ => fun
  | [d1, d2] => { results := [.lit (.bool false)], args := [d1, d2] }
  | _ => none }
def OperAppliesWrongFalsely : Prop := operAppliesRow.holds Tryz.pinned (OpenSpec.ofChange operAppliesWrong)

/- THE SECOND FORM. 'bulk': how many values and letters a reading holds, each counted each time it is reached (what is shared counts as often as it is met; a slice's spare places count too). A statement '..UptoSaid' is the law's where the arguments, and the package variables that the reading takes, are together of bulk at most 1048576: NARROWER than '..Said'. Prove '..Said' where nothing that the law and all that it calls make is longer than what came in: it says more and counts as full. Else prove '..UptoSaid'. A law counts once. -/
mutual
def uptoBulk {H : Type} : DataW H → Nat
  | .lit (.string bytes) => bytes.length + 1
  | .lit _ => 1
  | .nil => 1
  | .ptr d => uptoBulk d + 1
  | .slice elems spare => uptoBulkAll elems + uptoBulkAll spare + 1
  | .agg parts => uptoBulkAll parts + 1
  | .iface _ d => uptoBulk d + 1
  | .map entries => uptoBulkEntries entries + 1
  | .held _ => 1
def uptoBulkAll {H : Type} : List (DataW H) → Nat
  | [] => 0
  | d :: r => uptoBulk d + uptoBulkAll r
def uptoBulkEntries {H : Type} : List (Lit × DataW H) → Nat
  | [] => 0
  | x :: r => uptoBulkEntry x + uptoBulkEntries r
def uptoBulkEntry {H : Type} : Lit × DataW H → Nat
  | (.string bytes, d) => bytes.length + uptoBulk d + 1
  | (_, d) => uptoBulk d + 1
 end
def uptoSmall : (H : Type) → List (DataW H) → Bool := fun _ ds => decide (uptoBulkAll ds ≤ 1048576)
def OpenSpec.upto (s : _root_.Go.ChangeSpec) : _root_.Go.OpenSpec := { _root_.Go.OpenSpec.ofChange s with cond := some uptoSmall }

/-- 'oxbowlaw19.EvalTells', WHERE WHAT IT READS IS OF BULK AT MOST 1048576: true; the input reads as it did. -/
def evalTellsUptoRow : OpenClaim := { program := "ytfafgnmlnhklaaagreat", sum := "caf3af313cd599b65bbc4b178a746c95962530866bb80991be04511b5574dae5", func := "oxbow/oxbowlaw19.EvalTells", spec := "evalTells", unfollowed := true, recurses := true, loops := true, apart := false, narrowed := true }
def EvalTellsUptoSaid : Prop := evalTellsUptoRow.holds Tryz.pinned (OpenSpec.upto evalTellsSpec)

/-- 'oxbowlaw19.EvalGoes', WHERE WHAT IT READS IS OF BULK AT MOST 1048576: true; the input reads as it did. -/
def evalGoesUptoRow : OpenClaim := { program := "ytfafgnmlnhklaaagreat", sum := "caf3af313cd599b65bbc4b178a746c95962530866bb80991be04511b5574dae5", func := "oxbow/oxbowlaw19.EvalGoes", spec := "evalGoes", unfollowed := true, recurses := true, loops := true, apart := false, narrowed := true }
def EvalGoesUptoSaid : Prop := evalGoesUptoRow.holds Tryz.pinned (OpenSpec.upto evalGoesSpec)

/-- 'oxbowlaw19.EvalOrder', WHERE WHAT IT READS IS OF BULK AT MOST 1048576: true; the input reads as it did. -/
def evalOrderUptoRow : OpenClaim := { program := "ytfafgnmlnhklaaagreat", sum := "caf3af313cd599b65bbc4b178a746c95962530866bb80991be04511b5574dae5", func := "oxbow/oxbowlaw19.EvalOrder", spec := "evalOrder", unfollowed := true, recurses := true, loops := true, apart := false, narrowed := true }
def EvalOrderUptoSaid : Prop := evalOrderUptoRow.holds Tryz.pinned (OpenSpec.upto evalOrderSpec)

/-- 'oxbowlaw18.OperApplies', WHERE WHAT IT READS IS OF BULK AT MOST 1048576: true; the input reads as it did. -/
def operAppliesUptoRow : OpenClaim := { program := "ytfafgnmlnhklaaagreat", sum := "caf3af313cd599b65bbc4b178a746c95962530866bb80991be04511b5574dae5", func := "oxbow/oxbowlaw18.OperApplies", spec := "operApplies", unfollowed := true, recurses := true, loops := true, apart := false, narrowed := true }
def OperAppliesUptoSaid : Prop := operAppliesUptoRow.holds Tryz.pinned (OpenSpec.upto operAppliesSpec)

end Rows
end Go.Proofs.YtfafgnmlnhklaaaGreat
