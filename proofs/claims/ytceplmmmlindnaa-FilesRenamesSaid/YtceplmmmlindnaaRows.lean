/-
  No cell of these rows narrows 'for every input' (looked for: loops, veiled, ifaces, maps, wideKeys, modest, calm, conditions, laid).
  DERIVED. THE GIVEN ROWS OF THIS SEAT. 9 by the template 'for every input the law returns true; each argument reads behind the call as it read before'; 0 by the template 'total and deterministic' (their statements: YtceplmmmlindnaaTotals.lean).
  GIVEN WITH THE SEED: the statements are not yours to turn. If you find one false, say at which input.
  Laid BY PROGRAM, IN A SANDBOX (cutbox-rows.mjs): the forced cells as the released guide's own fill.sh prints them over the translation f162fe2e0f138369… (all of the seat's roots in one cut). By AI agents, Wed Nov 11 2026. No macro, syntax, notation, axiom, sorry.
-/
import Derived.Test.YtceplmmmlindnaaChecked
import GoSem.Claim
import GoSem.ClaimJoined
import GoSem.ClaimMapViews
import Derived.JoinedTies
import Derived.KernelRfl
namespace Go.Proofs.Ytceplmmmlindnaa
/- THE CELL 'sum', in the pinned program and in every row, IS THE sha256 OF THE DUMP (.gsa) THAT YtceplmmmlindnaaProg.lean LOADS. Nothing in Lean hashes anything: it is a label: what it is worth is what the hold of that sum in a sandbox is worth. -/
noncomputable def Try.pinned : Pinned := { name := "ytceplmmmlindnaa", sum := "f162fe2e0f138369a02763a344fe2354247bb28eae4d933a45ffc265e43eb50a", checked := Try.checked }
namespace Rows
def none {H : Type} : Left H := { results := [], args := [] }

/-- 'oxbowlaw14.EditCodes': WHATEVER THE INPUT: true; the input reads as it did. -/
def editCodesSpec : ChangeSpec := { name := "editCodes", fn := fun _ => fun
  | [d1, d2] => { results := [.lit (.bool true)], args := [d1, d2] }
  | _ => none }
def editCodesRow : OpenClaim := { program := "ytceplmmmlindnaa", sum := "f162fe2e0f138369a02763a344fe2354247bb28eae4d933a45ffc265e43eb50a", func := "oxbow/oxbowlaw14.EditCodes", spec := "editCodes", unfollowed := true, recurses := true, plainKeys := false, apart := false }
def EditCodesSaid : Prop := editCodesRow.holds Try.pinned (OpenSpec.ofChange editCodesSpec)

/-- ITS FALSE NEIGHBOUR: 'it returns false'. Refute it at one input. -/
def editCodesWrong : ChangeSpec := { name := "editCodes", fn := fun _ => fun
  | [d1, d2] => { results := [.lit (.bool false)], args := [d1, d2] }
  | _ => none }
def EditCodesWrongFalsely : Prop := editCodesRow.holds Try.pinned (OpenSpec.ofChange editCodesWrong)

/-- 'oxbowlaw14.EditGets': WHATEVER THE INPUT: true; the input reads as it did. -/
def editGetsSpec : ChangeSpec := { name := "editGets", fn := fun _ => fun
  | [d] => { results := [.lit (.bool true)], args := [d] }
  | _ => none }
def editGetsRow : OpenClaim := { program := "ytceplmmmlindnaa", sum := "f162fe2e0f138369a02763a344fe2354247bb28eae4d933a45ffc265e43eb50a", func := "oxbow/oxbowlaw14.EditGets", spec := "editGets", unfollowed := true, recurses := true, plainKeys := false, apart := false }
def EditGetsSaid : Prop := editGetsRow.holds Try.pinned (OpenSpec.ofChange editGetsSpec)

/-- ITS FALSE NEIGHBOUR: 'it returns false'. Refute it at one input. -/
def editGetsWrong : ChangeSpec := { name := "editGets", fn := fun _ => fun
  | [d] => { results := [.lit (.bool false)], args := [d] }
  | _ => none }
def EditGetsWrongFalsely : Prop := editGetsRow.holds Try.pinned (OpenSpec.ofChange editGetsWrong)

/-- 'oxbowlaw14.EditApplies': WHATEVER THE INPUT: true; the input reads as it did. -/
def editAppliesSpec : ChangeSpec := { name := "editApplies", fn := fun _ => fun
  | [d1, d2] => { results := [.lit (.bool true)], args := [d1, d2] }
  | _ => none }
def editAppliesRow : OpenClaim := { program := "ytceplmmmlindnaa", sum := "f162fe2e0f138369a02763a344fe2354247bb28eae4d933a45ffc265e43eb50a", func := "oxbow/oxbowlaw14.EditApplies", spec := "editApplies", unfollowed := true, recurses := true, plainKeys := false, apart := false }
def EditAppliesSaid : Prop := editAppliesRow.holds Try.pinned (OpenSpec.ofChange editAppliesSpec)

/-- ITS FALSE NEIGHBOUR: 'it returns false'. Refute it at one input. -/
def editAppliesWrong : ChangeSpec := { name := "editApplies", fn := fun _ => fun
  | [d1, d2] => { results := [.lit (.bool false)], args := [d1, d2] }
  | _ => none }
def EditAppliesWrongFalsely : Prop := editAppliesRow.holds Try.pinned (OpenSpec.ofChange editAppliesWrong)

/-- 'oxbowlaw14.EditMakes': WHATEVER THE INPUT: true; the input reads as it did. -/
def editMakesSpec : ChangeSpec := { name := "editMakes", fn := fun _ => fun
  | [d] => { results := [.lit (.bool true)], args := [d] }
  | _ => none }
def editMakesRow : OpenClaim := { program := "ytceplmmmlindnaa", sum := "f162fe2e0f138369a02763a344fe2354247bb28eae4d933a45ffc265e43eb50a", func := "oxbow/oxbowlaw14.EditMakes", spec := "editMakes", unfollowed := true, recurses := true, plainKeys := false, apart := false }
def EditMakesSaid : Prop := editMakesRow.holds Try.pinned (OpenSpec.ofChange editMakesSpec)

/-- ITS FALSE NEIGHBOUR: 'it returns false'. Refute it at one input. -/
def editMakesWrong : ChangeSpec := { name := "editMakes", fn := fun _ => fun
  | [d] => { results := [.lit (.bool false)], args := [d] }
  | _ => none }
def EditMakesWrongFalsely : Prop := editMakesRow.holds Try.pinned (OpenSpec.ofChange editMakesWrong)

/-- 'oxbowlaw14.EditNobody': WHATEVER THE INPUT: true; the input reads as it did. -/
def editNobodySpec : ChangeSpec := { name := "editNobody", fn := fun _ => fun
  | [d1, d2] => { results := [.lit (.bool true)], args := [d1, d2] }
  | _ => none }
def editNobodyRow : OpenClaim := { program := "ytceplmmmlindnaa", sum := "f162fe2e0f138369a02763a344fe2354247bb28eae4d933a45ffc265e43eb50a", func := "oxbow/oxbowlaw14.EditNobody", spec := "editNobody", unfollowed := true, recurses := true, plainKeys := false, apart := false }
def EditNobodySaid : Prop := editNobodyRow.holds Try.pinned (OpenSpec.ofChange editNobodySpec)

/-- ITS FALSE NEIGHBOUR: 'it returns false'. Refute it at one input. -/
def editNobodyWrong : ChangeSpec := { name := "editNobody", fn := fun _ => fun
  | [d1, d2] => { results := [.lit (.bool false)], args := [d1, d2] }
  | _ => none }
def EditNobodyWrongFalsely : Prop := editNobodyRow.holds Try.pinned (OpenSpec.ofChange editNobodyWrong)

/-- 'oxbowlaw05.FilesStops': WHATEVER THE INPUT: true; the input reads as it did. -/
def filesStopsSpec : ChangeSpec := { name := "filesStops", fn := fun _ => fun
  | [d1, d2] => { results := [.lit (.bool true)], args := [d1, d2] }
  | _ => none }
def filesStopsRow : OpenClaim := { program := "ytceplmmmlindnaa", sum := "f162fe2e0f138369a02763a344fe2354247bb28eae4d933a45ffc265e43eb50a", func := "oxbow/oxbowlaw05.FilesStops", spec := "filesStops", unfollowed := true, recurses := true, plainKeys := false, apart := false }
def FilesStopsSaid : Prop := filesStopsRow.holds Try.pinned (OpenSpec.ofChange filesStopsSpec)

/-- ITS FALSE NEIGHBOUR: 'it returns false'. Refute it at one input. -/
def filesStopsWrong : ChangeSpec := { name := "filesStops", fn := fun _ => fun
  | [d1, d2] => { results := [.lit (.bool false)], args := [d1, d2] }
  | _ => none }
def FilesStopsWrongFalsely : Prop := filesStopsRow.holds Try.pinned (OpenSpec.ofChange filesStopsWrong)

/-- 'oxbowlaw05.FilesNobody': WHATEVER THE INPUT: true; the input reads as it did. -/
def filesNobodySpec : ChangeSpec := { name := "filesNobody", fn := fun _ => fun
  | [d] => { results := [.lit (.bool true)], args := [d] }
  | _ => none }
def filesNobodyRow : OpenClaim := { program := "ytceplmmmlindnaa", sum := "f162fe2e0f138369a02763a344fe2354247bb28eae4d933a45ffc265e43eb50a", func := "oxbow/oxbowlaw05.FilesNobody", spec := "filesNobody", unfollowed := true, recurses := true, plainKeys := false, apart := false }
def FilesNobodySaid : Prop := filesNobodyRow.holds Try.pinned (OpenSpec.ofChange filesNobodySpec)

/-- ITS FALSE NEIGHBOUR: 'it returns false'. Refute it at one input. -/
def filesNobodyWrong : ChangeSpec := { name := "filesNobody", fn := fun _ => fun
  | [d] => { results := [.lit (.bool false)], args := [d] }
  | _ => none }
def FilesNobodyWrongFalsely : Prop := filesNobodyRow.holds Try.pinned (OpenSpec.ofChange filesNobodyWrong)

/-- 'oxbowlaw05.FilesRenames': WHATEVER THE INPUT: true; the input reads as it did. -/
def filesRenamesSpec : ChangeSpec := { name := "filesRenames", fn := fun _ => fun
  | [d1, d2, d3, d4] => { results := [.lit (.bool true)], args := [d1, d2, d3, d4] }
  | _ => none }
def filesRenamesRow : OpenClaim := { program := "ytceplmmmlindnaa", sum := "f162fe2e0f138369a02763a344fe2354247bb28eae4d933a45ffc265e43eb50a", func := "oxbow/oxbowlaw05.FilesRenames", spec := "filesRenames", unfollowed := true, recurses := true, plainKeys := false, apart := false }
def FilesRenamesSaid : Prop := filesRenamesRow.holds Try.pinned (OpenSpec.ofChange filesRenamesSpec)

/-- ITS FALSE NEIGHBOUR: 'it returns false'. Refute it at one input. -/
def filesRenamesWrong : ChangeSpec := { name := "filesRenames", fn := fun _ => fun
  | [d1, d2, d3, d4] => { results := [.lit (.bool false)], args := [d1, d2, d3, d4] }
  | _ => none }
def FilesRenamesWrongFalsely : Prop := filesRenamesRow.holds Try.pinned (OpenSpec.ofChange filesRenamesWrong)

/-- 'oxbowlaw11.MergeNobody': WHATEVER THE INPUT: true; the input reads as it did. -/
def mergeNobodySpec : ChangeSpec := { name := "mergeNobody", fn := fun _ => fun
  | [d] => { results := [.lit (.bool true)], args := [d] }
  | _ => none }
def mergeNobodyRow : OpenClaim := { program := "ytceplmmmlindnaa", sum := "f162fe2e0f138369a02763a344fe2354247bb28eae4d933a45ffc265e43eb50a", func := "oxbow/oxbowlaw11.MergeNobody", spec := "mergeNobody", unfollowed := true, recurses := true, plainKeys := false, apart := false }
def MergeNobodySaid : Prop := mergeNobodyRow.holds Try.pinned (OpenSpec.ofChange mergeNobodySpec)

/-- ITS FALSE NEIGHBOUR: 'it returns false'. Refute it at one input. -/
def mergeNobodyWrong : ChangeSpec := { name := "mergeNobody", fn := fun _ => fun
  | [d] => { results := [.lit (.bool false)], args := [d] }
  | _ => none }
def MergeNobodyWrongFalsely : Prop := mergeNobodyRow.holds Try.pinned (OpenSpec.ofChange mergeNobodyWrong)

/- THE SECOND FORM. 'bulk': how many values and letters a reading holds, each counted each time it is reached (what is shared counts as often as it is met; a slice's spare places count too). A statement '..UptoSaid' is the law's where the arguments, and the package variables that the reading takes, are together of bulk at most 1048576: NARROWER than '..Said'. Prove '..Said' where nothing that the law and all that it calls make is longer than what came in: it says more and counts as full. Else prove '..UptoSaid'. A law counts once. -/
mutual
def uptoBulk {H : Type} : DataW H → Nat
  | .lit (.string bytes) => bytes.length + 1
  | .lit _ => 1
  | .nil => 1
  | .ptr d => uptoBulk d + 1
  | .slice elems spare => uptoBulkAll elems + uptoBulkAll spare + 1
  | .agg parts => uptoBulkAll parts + 1
  | .iface _ d => uptoBulk d + 1
  | .map entries => uptoBulkEntries entries + 1
  | .held _ => 1
def uptoBulkAll {H : Type} : List (DataW H) → Nat
  | [] => 0
  | d :: r => uptoBulk d + uptoBulkAll r
def uptoBulkEntries {H : Type} : List (Lit × DataW H) → Nat
  | [] => 0
  | x :: r => uptoBulkEntry x + uptoBulkEntries r
def uptoBulkEntry {H : Type} : Lit × DataW H → Nat
  | (.string bytes, d) => bytes.length + uptoBulk d + 1
  | (_, d) => uptoBulk d + 1
 end
def uptoSmall : (H : Type) → List (DataW H) → Bool := fun _ ds => decide (uptoBulkAll ds ≤ 1048576)
def OpenSpec.upto (s : _root_.Go.ChangeSpec) : _root_.Go.OpenSpec := { _root_.Go.OpenSpec.ofChange s with cond := some uptoSmall }

/-- 'oxbowlaw14.EditCodes', WHERE WHAT IT READS IS OF BULK AT MOST 1048576: true; the input reads as it did. -/
def editCodesUptoRow : OpenClaim := { program := "ytceplmmmlindnaa", sum := "f162fe2e0f138369a02763a344fe2354247bb28eae4d933a45ffc265e43eb50a", func := "oxbow/oxbowlaw14.EditCodes", spec := "editCodes", unfollowed := true, recurses := true, plainKeys := false, apart := false, narrowed := true }
def EditCodesUptoSaid : Prop := editCodesUptoRow.holds Try.pinned (OpenSpec.upto editCodesSpec)

/-- 'oxbowlaw14.EditGets', WHERE WHAT IT READS IS OF BULK AT MOST 1048576: true; the input reads as it did. -/
def editGetsUptoRow : OpenClaim := { program := "ytceplmmmlindnaa", sum := "f162fe2e0f138369a02763a344fe2354247bb28eae4d933a45ffc265e43eb50a", func := "oxbow/oxbowlaw14.EditGets", spec := "editGets", unfollowed := true, recurses := true, plainKeys := false, apart := false, narrowed := true }
def EditGetsUptoSaid : Prop := editGetsUptoRow.holds Try.pinned (OpenSpec.upto editGetsSpec)

/-- 'oxbowlaw14.EditApplies', WHERE WHAT IT READS IS OF BULK AT MOST 1048576: true; the input reads as it did. -/
def editAppliesUptoRow : OpenClaim := { program := "ytceplmmmlindnaa", sum := "f162fe2e0f138369a02763a344fe2354247bb28eae4d933a45ffc265e43eb50a", func := "oxbow/oxbowlaw14.EditApplies", spec := "editApplies", unfollowed := true, recurses := true, plainKeys := false, apart := false, narrowed := true }
def EditAppliesUptoSaid : Prop := editAppliesUptoRow.holds Try.pinned (OpenSpec.upto editAppliesSpec)

/-- 'oxbowlaw14.EditMakes', WHERE WHAT IT READS IS OF BULK AT MOST 1048576: true; the input reads as it did. -/
def editMakesUptoRow : OpenClaim := { program := "ytceplmmmlindnaa", sum := "f162fe2e0f138369a02763a344fe2354247bb28eae4d933a45ffc265e43eb50a", func := "oxbow/oxbowlaw14.EditMakes", spec := "editMakes", unfollowed := true, recurses := true, plainKeys := false, apart := false, narrowed := true }
def EditMakesUptoSaid : Prop := editMakesUptoRow.holds Try.pinned (OpenSpec.upto editMakesSpec)

/-- 'oxbowlaw14.EditNobody', WHERE WHAT IT READS IS OF BULK AT MOST 1048576: true; the input reads as it did. -/
def editNobodyUptoRow : OpenClaim := { program := "ytceplmmmlindnaa", sum := "f162fe2e0f138369a02763a344fe2354247bb28eae4d933a45ffc265e43eb50a", func := "oxbow/oxbowlaw14.EditNobody", spec := "editNobody", unfollowed := true, recurses := true, plainKeys := false, apart := false, narrowed := true }
def EditNobodyUptoSaid : Prop := editNobodyUptoRow.holds Try.pinned (OpenSpec.upto editNobodySpec)

/-- 'oxbowlaw05.FilesStops', WHERE WHAT IT READS IS OF BULK AT MOST 1048576: true; the input reads as it did. -/
def filesStopsUptoRow : OpenClaim := { program := "ytceplmmmlindnaa", sum := "f162fe2e0f138369a02763a344fe2354247bb28eae4d933a45ffc265e43eb50a", func := "oxbow/oxbowlaw05.FilesStops", spec := "filesStops", unfollowed := true, recurses := true, plainKeys := false, apart := false, narrowed := true }
def FilesStopsUptoSaid : Prop := filesStopsUptoRow.holds Try.pinned (OpenSpec.upto filesStopsSpec)

/-- 'oxbowlaw05.FilesNobody', WHERE WHAT IT READS IS OF BULK AT MOST 1048576: true; the input reads as it did. -/
def filesNobodyUptoRow : OpenClaim := { program := "ytceplmmmlindnaa", sum := "f162fe2e0f138369a02763a344fe2354247bb28eae4d933a45ffc265e43eb50a", func := "oxbow/oxbowlaw05.FilesNobody", spec := "filesNobody", unfollowed := true, recurses := true, plainKeys := false, apart := false, narrowed := true }
def FilesNobodyUptoSaid : Prop := filesNobodyUptoRow.holds Try.pinned (OpenSpec.upto filesNobodySpec)

/-- 'oxbowlaw05.FilesRenames', WHERE WHAT IT READS IS OF BULK AT MOST 1048576: true; the input reads as it did. -/
def filesRenamesUptoRow : OpenClaim := { program := "ytceplmmmlindnaa", sum := "f162fe2e0f138369a02763a344fe2354247bb28eae4d933a45ffc265e43eb50a", func := "oxbow/oxbowlaw05.FilesRenames", spec := "filesRenames", unfollowed := true, recurses := true, plainKeys := false, apart := false, narrowed := true }
def FilesRenamesUptoSaid : Prop := filesRenamesUptoRow.holds Try.pinned (OpenSpec.upto filesRenamesSpec)

/-- 'oxbowlaw11.MergeNobody', WHERE WHAT IT READS IS OF BULK AT MOST 1048576: true; the input reads as it did. -/
def mergeNobodyUptoRow : OpenClaim := { program := "ytceplmmmlindnaa", sum := "f162fe2e0f138369a02763a344fe2354247bb28eae4d933a45ffc265e43eb50a", func := "oxbow/oxbowlaw11.MergeNobody", spec := "mergeNobody", unfollowed := true, recurses := true, plainKeys := false, apart := false, narrowed := true }
def MergeNobodyUptoSaid : Prop := mergeNobodyUptoRow.holds Try.pinned (OpenSpec.upto mergeNobodySpec)

end Rows
end Go.Proofs.Ytceplmmmlindnaa
