/-
  NARROWER THAN 'FOR EVERY INPUT', by the rows' own cells (each row's printed sentence says how): CursorTells: laid · CursorCloses: laid · CursorPinned: laid · CursorRot: laid · MergeCursors: laid · MergeRot: laid.
  DERIVED. THE GIVEN ROWS OF THIS SEAT. 6 by the template 'for every input the law returns true; each argument reads behind the call as it read before'; 0 by the template 'total and deterministic' (their statements: YtankijamfedliaaGreatDoorTotals.lean).
  GIVEN WITH THE SEED: the statements are not yours to turn. If you find one false, say at which input.
  Laid BY PROGRAM, IN A SANDBOX (cutbox-rows.mjs): the forced cells as the released guide's own fill.sh prints them over the translation 3e84b2bc5c843b8a… (all of the seat's roots in one cut). By AI agents, Wed Nov 11 2026. No macro, syntax, notation, axiom, sorry.
-/
import Derived.Test.YtankijamfedliaaGreatDoorChecked
import GoSem.Claim
import GoSem.ClaimJoined
import GoSem.ClaimMapViews
import Derived.JoinedTies
import Derived.KernelRfl
namespace Go.Proofs.YtankijamfedliaaGreatDoor
/- THE CELL 'sum', in the pinned program and in every row, IS THE sha256 OF THE DUMP (.gsa) THAT YtankijamfedliaaGreatDoorProg.lean LOADS. Nothing in Lean hashes anything: it is a label: what it is worth is what the hold of that sum in a sandbox is worth. -/
noncomputable def Tryz.pinned : Pinned := { name := "ytankijamfedliaagreatdoor", sum := "3e84b2bc5c843b8a48e34668ffd5642ac9d98899ae02c52e904e04f97be833fc", checked := Tryz.checked }
namespace Rows
def none {H : Type} : Left H := { results := [], args := [] }

/- WHAT THE LISTED PACKAGE-LEVEL VARIABLES READ AS WHEN THE CALL BEGINS. Each datum BY PROGRAM (the guide's laid-datum.mjs) off the statement by which the dump's own 'gosem.cut.vars' lays the variable. In a bare row this is a premise. The card (YtankijamfedliaaGreatDoorCards.lean) ties it to the program's text. -/
def laid_oxbow_crc_halves {H : Type} : DataW H := .agg [.lit (.int .u32 0), .lit (.int .u32 498536548), .lit (.int .u32 997073096), .lit (.int .u32 651767980), .lit (.int .u32 1994146192), .lit (.int .u32 1802195444), .lit (.int .u32 1303535960), .lit (.int .u32 1342533948), .lit (.int .u32 3988292384), .lit (.int .u32 4027552580), .lit (.int .u32 3604390888), .lit (.int .u32 3412177804), .lit (.int .u32 2607071920), .lit (.int .u32 2262029012), .lit (.int .u32 2685067896), .lit (.int .u32 3183342108)]

/-- 'oxbowlaw10.CursorTells': WHATEVER THE INPUT: true; the input reads as it did. -/
def cursorTellsSpec : ChangeSpec := { name := "cursorTells", fn := fun _ => fun
  | [d1, d2, d3] => { results := [.lit (.bool true)], args := [d1, d2, d3] }
  | _ => none }
def cursorTellsRow : OpenClaim := { program := "ytankijamfedliaagreatdoor", sum := "3e84b2bc5c843b8a48e34668ffd5642ac9d98899ae02c52e904e04f97be833fc", func := "oxbow/oxbowlaw10.CursorTells", spec := "cursorTells", unfollowed := true, recurses := true, named := ["oxbow/crc.halves"], plainKeys := false, apart := false, laid := [("oxbow/crc.halves", laid_oxbow_crc_halves)] }
def CursorTellsSaid : Prop := cursorTellsRow.holds Tryz.pinned (OpenSpec.ofChange cursorTellsSpec)

/-- ITS FALSE NEIGHBOUR: 'it returns false'. Refute it at one input. -/
def cursorTellsWrong : ChangeSpec := { name := "cursorTells", fn := fun _ => fun
  | [d1, d2, d3] => { results := [.lit (.bool false)], args := [d1, d2, d3] }
  | _ => none }
def CursorTellsWrongFalsely : Prop := cursorTellsRow.holds Tryz.pinned (OpenSpec.ofChange cursorTellsWrong)

/-- 'oxbowlaw10.CursorCloses': WHATEVER THE INPUT: true; the input reads as it did. -/
def cursorClosesSpec : ChangeSpec := { name := "cursorCloses", fn := fun _ => fun
  | [d1, d2, d3] => { results := [.lit (.bool true)], args := [d1, d2, d3] }
  | _ => none }
def cursorClosesRow : OpenClaim := { program := "ytankijamfedliaagreatdoor", sum := "3e84b2bc5c843b8a48e34668ffd5642ac9d98899ae02c52e904e04f97be833fc", func := "oxbow/oxbowlaw10.CursorCloses", spec := "cursorCloses", unfollowed := true, recurses := true, named := ["oxbow/crc.halves"], plainKeys := false, apart := false, laid := [("oxbow/crc.halves", laid_oxbow_crc_halves)] }
def CursorClosesSaid : Prop := cursorClosesRow.holds Tryz.pinned (OpenSpec.ofChange cursorClosesSpec)

/-- ITS FALSE NEIGHBOUR: 'it returns false'. Refute it at one input. -/
def cursorClosesWrong : ChangeSpec := { name := "cursorCloses", fn := fun _ => fun
  | [d1, d2, d3] => { results := [.lit (.bool false)], args := [d1, d2, d3] }
  | _ => none }
def CursorClosesWrongFalsely : Prop := cursorClosesRow.holds Tryz.pinned (OpenSpec.ofChange cursorClosesWrong)

/-- 'oxbowlaw10.CursorPinned': WHATEVER THE INPUT: true; the input reads as it did. -/
def cursorPinnedSpec : ChangeSpec := { name := "cursorPinned", fn := fun _ => fun
  | [d1, d2, d3] => { results := [.lit (.bool true)], args := [d1, d2, d3] }
  | _ => none }
def cursorPinnedRow : OpenClaim := { program := "ytankijamfedliaagreatdoor", sum := "3e84b2bc5c843b8a48e34668ffd5642ac9d98899ae02c52e904e04f97be833fc", func := "oxbow/oxbowlaw10.CursorPinned", spec := "cursorPinned", unfollowed := true, recurses := true, named := ["oxbow/crc.halves"], plainKeys := false, apart := false, laid := [("oxbow/crc.halves", laid_oxbow_crc_halves)] }
def CursorPinnedSaid : Prop := cursorPinnedRow.holds Tryz.pinned (OpenSpec.ofChange cursorPinnedSpec)

/-- ITS FALSE NEIGHBOUR: 'it returns false'. Refute it at one input. -/
def cursorPinnedWrong : ChangeSpec := { name := "cursorPinned", fn := fun _ => fun
  | [d1, d2, d3] => { results := [.lit (.bool false)], args := [d1, d2, d3] }
  | _ => none }
def CursorPinnedWrongFalsely : Prop := cursorPinnedRow.holds Tryz.pinned (OpenSpec.ofChange cursorPinnedWrong)

/-- 'oxbowlaw10.CursorRot': WHATEVER THE INPUT: true; the input reads as it did. -/
def cursorRotSpec : ChangeSpec := { name := "cursorRot", fn := fun _ => fun
  | [d1, d2, d3, d4] => { results := [.lit (.bool true)], args := [d1, d2, d3, d4] }
  | _ => none }
def cursorRotRow : OpenClaim := { program := "ytankijamfedliaagreatdoor", sum := "3e84b2bc5c843b8a48e34668ffd5642ac9d98899ae02c52e904e04f97be833fc", func := "oxbow/oxbowlaw10.CursorRot", spec := "cursorRot", unfollowed := true, recurses := true, named := ["oxbow/crc.halves"], plainKeys := false, apart := false, laid := [("oxbow/crc.halves", laid_oxbow_crc_halves)] }
def CursorRotSaid : Prop := cursorRotRow.holds Tryz.pinned (OpenSpec.ofChange cursorRotSpec)

/-- ITS FALSE NEIGHBOUR: 'it returns false'. Refute it at one input. -/
def cursorRotWrong : ChangeSpec := { name := "cursorRot", fn := fun _ => fun
  | [d1, d2, d3, d4] => { results := [.lit (.bool false)], args := [d1, d2, d3, d4] }
  | _ => none }
def CursorRotWrongFalsely : Prop := cursorRotRow.holds Tryz.pinned (OpenSpec.ofChange cursorRotWrong)

/-- 'oxbowlaw11.MergeCursors': WHATEVER THE INPUT: true; the input reads as it did. -/
def mergeCursorsSpec : ChangeSpec := { name := "mergeCursors", fn := fun _ => fun
  | [d1, d2, d3, d4] => { results := [.lit (.bool true)], args := [d1, d2, d3, d4] }
  | _ => none }
def mergeCursorsRow : OpenClaim := { program := "ytankijamfedliaagreatdoor", sum := "3e84b2bc5c843b8a48e34668ffd5642ac9d98899ae02c52e904e04f97be833fc", func := "oxbow/oxbowlaw11.MergeCursors", spec := "mergeCursors", unfollowed := true, recurses := true, named := ["oxbow/crc.halves"], plainKeys := false, apart := false, laid := [("oxbow/crc.halves", laid_oxbow_crc_halves)] }
def MergeCursorsSaid : Prop := mergeCursorsRow.holds Tryz.pinned (OpenSpec.ofChange mergeCursorsSpec)

/-- ITS FALSE NEIGHBOUR: 'it returns false'. Refute it at one input. -/
def mergeCursorsWrong : ChangeSpec := { name := "mergeCursors", fn := fun _ => fun
  | [d1, d2, d3, d4] => { results := [.lit (.bool false)], args := [d1, d2, d3, d4] }
  | _ => none }
def MergeCursorsWrongFalsely : Prop := mergeCursorsRow.holds Tryz.pinned (OpenSpec.ofChange mergeCursorsWrong)

/-- 'oxbowlaw11.MergeRot': WHATEVER THE INPUT: true; the input reads as it did. -/
def mergeRotSpec : ChangeSpec := { name := "mergeRot", fn := fun _ => fun
  | [d1, d2, d3, d4] => { results := [.lit (.bool true)], args := [d1, d2, d3, d4] }
  | _ => none }
def mergeRotRow : OpenClaim := { program := "ytankijamfedliaagreatdoor", sum := "3e84b2bc5c843b8a48e34668ffd5642ac9d98899ae02c52e904e04f97be833fc", func := "oxbow/oxbowlaw11.MergeRot", spec := "mergeRot", unfollowed := true, recurses := true, named := ["oxbow/crc.halves"], plainKeys := false, apart := false, laid := [("oxbow/crc.halves", laid_oxbow_crc_halves)] }
def MergeRotSaid : Prop := mergeRotRow.holds Tryz.pinned (OpenSpec.ofChange mergeRotSpec)

/-- ITS FALSE NEIGHBOUR: 'it returns false'. Refute it at one input. -/
def mergeRotWrong : ChangeSpec := { name := "mergeRot", fn := fun _ => fun
  | [d1, d2, d3, d4] => { results := [.lit (.bool false)], args := [d1, d2, d3, d4] }
  | _ => none }
def MergeRotWrongFalsely : Prop := mergeRotRow.holds Tryz.pinned (OpenSpec.ofChange mergeRotWrong)

/- THE SECOND FORM. 'bulk': how many values and letters a reading holds, each counted each time it is reached (what is shared counts as often as it is met; a slice's spare places count too). A statement '..UptoSaid' is the law's where the arguments, and the package variables that the reading takes, are together of bulk at most 1048576: NARROWER than '..Said'. Prove '..Said' where nothing that the law and all that it calls make is longer than what came in: it says more and counts as full. Else prove '..UptoSaid'. A law counts once. -/
mutual
def uptoBulk {H : Type} : DataW H → Nat
  | .lit (.string bytes) => bytes.length + 1
  | .lit _ => 1
  | .nil => 1
  | .ptr d => uptoBulk d + 1
  | .slice elems spare => uptoBulkAll elems + uptoBulkAll spare + 1
  | .agg parts => uptoBulkAll parts + 1
  | .iface _ d => uptoBulk d + 1
  | .map entries => uptoBulkEntries entries + 1
  | .held _ => 1
def uptoBulkAll {H : Type} : List (DataW H) → Nat
  | [] => 0
  | d :: r => uptoBulk d + uptoBulkAll r
def uptoBulkEntries {H : Type} : List (Lit × DataW H) → Nat
  | [] => 0
  | x :: r => uptoBulkEntry x + uptoBulkEntries r
def uptoBulkEntry {H : Type} : Lit × DataW H → Nat
  | (.string bytes, d) => bytes.length + uptoBulk d + 1
  | (_, d) => uptoBulk d + 1
 end
def uptoSmall : (H : Type) → List (DataW H) → Bool := fun _ ds => decide (uptoBulkAll ds ≤ 1048576)
def OpenSpec.upto (s : _root_.Go.ChangeSpec) : _root_.Go.OpenSpec := { _root_.Go.OpenSpec.ofChange s with cond := some uptoSmall }

/-- 'oxbowlaw10.CursorTells', WHERE WHAT IT READS IS OF BULK AT MOST 1048576: true; the input reads as it did. -/
def cursorTellsUptoRow : OpenClaim := { program := "ytankijamfedliaagreatdoor", sum := "3e84b2bc5c843b8a48e34668ffd5642ac9d98899ae02c52e904e04f97be833fc", func := "oxbow/oxbowlaw10.CursorTells", spec := "cursorTells", unfollowed := true, recurses := true, named := ["oxbow/crc.halves"], plainKeys := false, apart := false, laid := [("oxbow/crc.halves", laid_oxbow_crc_halves)], narrowed := true }
def CursorTellsUptoSaid : Prop := cursorTellsUptoRow.holds Tryz.pinned (OpenSpec.upto cursorTellsSpec)

/-- 'oxbowlaw10.CursorCloses', WHERE WHAT IT READS IS OF BULK AT MOST 1048576: true; the input reads as it did. -/
def cursorClosesUptoRow : OpenClaim := { program := "ytankijamfedliaagreatdoor", sum := "3e84b2bc5c843b8a48e34668ffd5642ac9d98899ae02c52e904e04f97be833fc", func := "oxbow/oxbowlaw10.CursorCloses", spec := "cursorCloses", unfollowed := true, recurses := true, named := ["oxbow/crc.halves"], plainKeys := false, apart := false, laid := [("oxbow/crc.halves", laid_oxbow_crc_halves)], narrowed := true }
def CursorClosesUptoSaid : Prop := cursorClosesUptoRow.holds Tryz.pinned (OpenSpec.upto cursorClosesSpec)

/-- 'oxbowlaw10.CursorPinned', WHERE WHAT IT READS IS OF BULK AT MOST 1048576: true; the input reads as it did. -/
def cursorPinnedUptoRow : OpenClaim := { program := "ytankijamfedliaagreatdoor", sum := "3e84b2bc5c843b8a48e34668ffd5642ac9d98899ae02c52e904e04f97be833fc", func := "oxbow/oxbowlaw10.CursorPinned", spec := "cursorPinned", unfollowed := true, recurses := true, named := ["oxbow/crc.halves"], plainKeys := false, apart := false, laid := [("oxbow/crc.halves", laid_oxbow_crc_halves)], narrowed := true }
def CursorPinnedUptoSaid : Prop := cursorPinnedUptoRow.holds Tryz.pinned (OpenSpec.upto cursorPinnedSpec)

/-- 'oxbowlaw10.CursorRot', WHERE WHAT IT READS IS OF BULK AT MOST 1048576: true; the input reads as it did. -/
def cursorRotUptoRow : OpenClaim := { program := "ytankijamfedliaagreatdoor", sum := "3e84b2bc5c843b8a48e34668ffd5642ac9d98899ae02c52e904e04f97be833fc", func := "oxbow/oxbowlaw10.CursorRot", spec := "cursorRot", unfollowed := true, recurses := true, named := ["oxbow/crc.halves"], plainKeys := false, apart := false, laid := [("oxbow/crc.halves", laid_oxbow_crc_halves)], narrowed := true }
def CursorRotUptoSaid : Prop := cursorRotUptoRow.holds Tryz.pinned (OpenSpec.upto cursorRotSpec)

/-- 'oxbowlaw11.MergeCursors', WHERE WHAT IT READS IS OF BULK AT MOST 1048576: true; the input reads as it did. -/
def mergeCursorsUptoRow : OpenClaim := { program := "ytankijamfedliaagreatdoor", sum := "3e84b2bc5c843b8a48e34668ffd5642ac9d98899ae02c52e904e04f97be833fc", func := "oxbow/oxbowlaw11.MergeCursors", spec := "mergeCursors", unfollowed := true, recurses := true, named := ["oxbow/crc.halves"], plainKeys := false, apart := false, laid := [("oxbow/crc.halves", laid_oxbow_crc_halves)], narrowed := true }
def MergeCursorsUptoSaid : Prop := mergeCursorsUptoRow.holds Tryz.pinned (OpenSpec.upto mergeCursorsSpec)

/-- 'oxbowlaw11.MergeRot', WHERE WHAT IT READS IS OF BULK AT MOST 1048576: true; the input reads as it did. -/
def mergeRotUptoRow : OpenClaim := { program := "ytankijamfedliaagreatdoor", sum := "3e84b2bc5c843b8a48e34668ffd5642ac9d98899ae02c52e904e04f97be833fc", func := "oxbow/oxbowlaw11.MergeRot", spec := "mergeRot", unfollowed := true, recurses := true, named := ["oxbow/crc.halves"], plainKeys := false, apart := false, laid := [("oxbow/crc.halves", laid_oxbow_crc_halves)], narrowed := true }
def MergeRotUptoSaid : Prop := mergeRotUptoRow.holds Tryz.pinned (OpenSpec.upto mergeRotSpec)

end Rows
end Go.Proofs.YtankijamfedliaaGreatDoor
