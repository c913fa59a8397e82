/-
  No cell of these rows narrows 'for every input' (looked for: loops, veiled, ifaces, maps, wideKeys, modest, calm, conditions, laid).
  DERIVED. THE GIVEN ROWS OF THIS SEAT. 5 by the template 'for every input the law returns true; each argument reads behind the call as it read before'; 0 by the template 'total and deterministic' (their statements: YtkbfifpbplfcfaaTotals.lean).
  GIVEN WITH THE SEED: the statements are not yours to turn. If you find one false, say at which input.
  Laid BY PROGRAM, IN A SANDBOX (cutbox-rows.mjs): the forced cells as the released guide's own fill.sh prints them over the translation 087d39944cdbe121… (all of the seat's roots in one cut). By AI agents, Wed Nov 11 2026. No macro, syntax, notation, axiom, sorry.
-/
import Derived.Test.YtkbfifpbplfcfaaChecked
import GoSem.Claim
import GoSem.ClaimJoined
import GoSem.ClaimMapViews
import Derived.JoinedTies
import Derived.KernelRfl
namespace Go.Proofs.Ytkbfifpbplfcfaa
/- THE CELL 'sum', in the pinned program and in every row, IS THE sha256 OF THE DUMP (.gsa) THAT YtkbfifpbplfcfaaProg.lean LOADS. Nothing in Lean hashes anything: it is a label: what it is worth is what the hold of that sum in a sandbox is worth. -/
noncomputable def Try.pinned : Pinned := { name := "ytkbfifpbplfcfaa", sum := "087d39944cdbe121f3c1a98d090000ba6353cb4c542b4dbef57f8cd6a9f6db7c", checked := Try.checked }
namespace Rows
def none {H : Type} : Left H := { results := [], args := [] }

/-- 'oxbowlaw16.FnMaps': WHATEVER THE INPUT: true; the input reads as it did. -/
def fnMapsSpec : ChangeSpec := { name := "fnMaps", fn := fun _ => fun
  | [d1, d2] => { results := [.lit (.bool true)], args := [d1, d2] }
  | _ => none }
def fnMapsRow : OpenClaim := { program := "ytkbfifpbplfcfaa", sum := "087d39944cdbe121f3c1a98d090000ba6353cb4c542b4dbef57f8cd6a9f6db7c", func := "oxbow/oxbowlaw16.FnMaps", spec := "fnMaps", unfollowed := true, recurses := true, apart := false }
def FnMapsSaid : Prop := fnMapsRow.holds Try.pinned (OpenSpec.ofChange fnMapsSpec)

/-- ITS FALSE NEIGHBOUR: 'it returns false'. Refute it at one input. -/
def fnMapsWrong : ChangeSpec := { name := "fnMaps", fn := fun _ => fun
  | [d1, d2] => { results := [.lit (.bool false)], args := [d1, d2] }
  | _ => none }
def FnMapsWrongFalsely : Prop := fnMapsRow.holds Try.pinned (OpenSpec.ofChange fnMapsWrong)

/-- 'oxbowlaw16.FnTests': WHATEVER THE INPUT: true; the input reads as it did. -/
def fnTestsSpec : ChangeSpec := { name := "fnTests", fn := fun _ => fun
  | [d1, d2] => { results := [.lit (.bool true)], args := [d1, d2] }
  | _ => none }
def fnTestsRow : OpenClaim := { program := "ytkbfifpbplfcfaa", sum := "087d39944cdbe121f3c1a98d090000ba6353cb4c542b4dbef57f8cd6a9f6db7c", func := "oxbow/oxbowlaw16.FnTests", spec := "fnTests", unfollowed := true, recurses := true, apart := false }
def FnTestsSaid : Prop := fnTestsRow.holds Try.pinned (OpenSpec.ofChange fnTestsSpec)

/-- ITS FALSE NEIGHBOUR: 'it returns false'. Refute it at one input. -/
def fnTestsWrong : ChangeSpec := { name := "fnTests", fn := fun _ => fun
  | [d1, d2] => { results := [.lit (.bool false)], args := [d1, d2] }
  | _ => none }
def FnTestsWrongFalsely : Prop := fnTestsRow.holds Try.pinned (OpenSpec.ofChange fnTestsWrong)

/-- 'oxbowlaw16.FnSpreads': WHATEVER THE INPUT: true; the input reads as it did. -/
def fnSpreadsSpec : ChangeSpec := { name := "fnSpreads", fn := fun _ => fun
  | [d1, d2] => { results := [.lit (.bool true)], args := [d1, d2] }
  | _ => none }
def fnSpreadsRow : OpenClaim := { program := "ytkbfifpbplfcfaa", sum := "087d39944cdbe121f3c1a98d090000ba6353cb4c542b4dbef57f8cd6a9f6db7c", func := "oxbow/oxbowlaw16.FnSpreads", spec := "fnSpreads", unfollowed := true, recurses := true, apart := false }
def FnSpreadsSaid : Prop := fnSpreadsRow.holds Try.pinned (OpenSpec.ofChange fnSpreadsSpec)

/-- ITS FALSE NEIGHBOUR: 'it returns false'. Refute it at one input. -/
def fnSpreadsWrong : ChangeSpec := { name := "fnSpreads", fn := fun _ => fun
  | [d1, d2] => { results := [.lit (.bool false)], args := [d1, d2] }
  | _ => none }
def FnSpreadsWrongFalsely : Prop := fnSpreadsRow.holds Try.pinned (OpenSpec.ofChange fnSpreadsWrong)

/-- 'oxbowlaw16.FnFolds': WHATEVER THE INPUT: true; the input reads as it did. -/
def fnFoldsSpec : ChangeSpec := { name := "fnFolds", fn := fun _ => fun
  | [d1, d2] => { results := [.lit (.bool true)], args := [d1, d2] }
  | _ => none }
def fnFoldsRow : OpenClaim := { program := "ytkbfifpbplfcfaa", sum := "087d39944cdbe121f3c1a98d090000ba6353cb4c542b4dbef57f8cd6a9f6db7c", func := "oxbow/oxbowlaw16.FnFolds", spec := "fnFolds", unfollowed := true, recurses := true, apart := false }
def FnFoldsSaid : Prop := fnFoldsRow.holds Try.pinned (OpenSpec.ofChange fnFoldsSpec)

/-- ITS FALSE NEIGHBOUR: 'it returns false'. Refute it at one input. -/
def fnFoldsWrong : ChangeSpec := { name := "fnFolds", fn := fun _ => fun
  | [d1, d2] => { results := [.lit (.bool false)], args := [d1, d2] }
  | _ => none }
def FnFoldsWrongFalsely : Prop := fnFoldsRow.holds Try.pinned (OpenSpec.ofChange fnFoldsWrong)

/-- 'oxbowlaw16.FnPairs': WHATEVER THE INPUT: true; the input reads as it did. -/
def fnPairsSpec : ChangeSpec := { name := "fnPairs", fn := fun _ => fun
  | [d1, d2, d3] => { results := [.lit (.bool true)], args := [d1, d2, d3] }
  | _ => none }
def fnPairsRow : OpenClaim := { program := "ytkbfifpbplfcfaa", sum := "087d39944cdbe121f3c1a98d090000ba6353cb4c542b4dbef57f8cd6a9f6db7c", func := "oxbow/oxbowlaw16.FnPairs", spec := "fnPairs", unfollowed := true, recurses := true, apart := false }
def FnPairsSaid : Prop := fnPairsRow.holds Try.pinned (OpenSpec.ofChange fnPairsSpec)

/-- ITS FALSE NEIGHBOUR: 'it returns false'. Refute it at one input. -/
def fnPairsWrong : ChangeSpec := { name := "fnPairs", fn := fun _ => fun
  | [d1, d2, d3] => { results := [.lit (.bool false)], args := [d1, d2, d3] }
  | _ => none }
def FnPairsWrongFalsely : Prop := fnPairsRow.holds Try.pinned (OpenSpec.ofChange fnPairsWrong)

/- THE SECOND FORM. 'bulk': how many values and letters a reading holds, each counted each time it is reached (what is shared counts as often as it is met; a slice's spare places count too). A statement '..UptoSaid' is the law's where the arguments, and the package variables that the reading takes, are together of bulk at most 1048576: NARROWER than '..Said'. Prove '..Said' where nothing that the law and all that it calls make is longer than what came in: it says more and counts as full. Else prove '..UptoSaid'. A law counts once. -/
mutual
def uptoBulk {H : Type} : DataW H → Nat
  | .lit (.string bytes) => bytes.length + 1
  | .lit _ => 1
  | .nil => 1
  | .ptr d => uptoBulk d + 1
  | .slice elems spare => uptoBulkAll elems + uptoBulkAll spare + 1
  | .agg parts => uptoBulkAll parts + 1
  | .iface _ d => uptoBulk d + 1
  | .map entries => uptoBulkEntries entries + 1
  | .held _ => 1
def uptoBulkAll {H : Type} : List (DataW H) → Nat
  | [] => 0
  | d :: r => uptoBulk d + uptoBulkAll r
def uptoBulkEntries {H : Type} : List (Lit × DataW H) → Nat
  | [] => 0
  | x :: r => uptoBulkEntry x + uptoBulkEntries r
def uptoBulkEntry {H : Type} : Lit × DataW H → Nat
  | (.string bytes, d) => bytes.length + uptoBulk d + 1
  | (_, d) => uptoBulk d + 1
 end
def uptoSmall : (H : Type) → List (DataW H) → Bool := fun _ ds => decide (uptoBulkAll ds ≤ 1048576)
def OpenSpec.upto (s : _root_.Go.ChangeSpec) : _root_.Go.OpenSpec := { _root_.Go.OpenSpec.ofChange s with cond := some uptoSmall }

/-- 'oxbowlaw16.FnMaps', WHERE WHAT IT READS IS OF BULK AT MOST 1048576: true; the input reads as it did. -/
def fnMapsUptoRow : OpenClaim := { program := "ytkbfifpbplfcfaa", sum := "087d39944cdbe121f3c1a98d090000ba6353cb4c542b4dbef57f8cd6a9f6db7c", func := "oxbow/oxbowlaw16.FnMaps", spec := "fnMaps", unfollowed := true, recurses := true, apart := false, narrowed := true }
def FnMapsUptoSaid : Prop := fnMapsUptoRow.holds Try.pinned (OpenSpec.upto fnMapsSpec)

/-- 'oxbowlaw16.FnTests', WHERE WHAT IT READS IS OF BULK AT MOST 1048576: true; the input reads as it did. -/
def fnTestsUptoRow : OpenClaim := { program := "ytkbfifpbplfcfaa", sum := "087d39944cdbe121f3c1a98d090000ba6353cb4c542b4dbef57f8cd6a9f6db7c", func := "oxbow/oxbowlaw16.FnTests", spec := "fnTests", unfollowed := true, recurses := true, apart := false, narrowed := true }
def FnTestsUptoSaid : Prop := fnTestsUptoRow.holds Try.pinned (OpenSpec.upto fnTestsSpec)

/-- 'oxbowlaw16.FnSpreads', WHERE WHAT IT READS IS OF BULK AT MOST 1048576: true; the input reads as it did. -/
def fnSpreadsUptoRow : OpenClaim := { program := "ytkbfifpbplfcfaa", sum := "087d39944cdbe121f3c1a98d090000ba6353cb4c542b4dbef57f8cd6a9f6db7c", func := "oxbow/oxbowlaw16.FnSpreads", spec := "fnSpreads", unfollowed := true, recurses := true, apart := false, narrowed := true }
def FnSpreadsUptoSaid : Prop := fnSpreadsUptoRow.holds Try.pinned (OpenSpec.upto fnSpreadsSpec)

/-- 'oxbowlaw16.FnFolds', WHERE WHAT IT READS IS OF BULK AT MOST 1048576: true; the input reads as it did. -/
def fnFoldsUptoRow : OpenClaim := { program := "ytkbfifpbplfcfaa", sum := "087d39944cdbe121f3c1a98d090000ba6353cb4c542b4dbef57f8cd6a9f6db7c", func := "oxbow/oxbowlaw16.FnFolds", spec := "fnFolds", unfollowed := true, recurses := true, apart := false, narrowed := true }
def FnFoldsUptoSaid : Prop := fnFoldsUptoRow.holds Try.pinned (OpenSpec.upto fnFoldsSpec)

/-- 'oxbowlaw16.FnPairs', WHERE WHAT IT READS IS OF BULK AT MOST 1048576: true; the input reads as it did. -/
def fnPairsUptoRow : OpenClaim := { program := "ytkbfifpbplfcfaa", sum := "087d39944cdbe121f3c1a98d090000ba6353cb4c542b4dbef57f8cd6a9f6db7c", func := "oxbow/oxbowlaw16.FnPairs", spec := "fnPairs", unfollowed := true, recurses := true, apart := false, narrowed := true }
def FnPairsUptoSaid : Prop := fnPairsUptoRow.holds Try.pinned (OpenSpec.upto fnPairsSpec)

end Rows
end Go.Proofs.Ytkbfifpbplfcfaa
