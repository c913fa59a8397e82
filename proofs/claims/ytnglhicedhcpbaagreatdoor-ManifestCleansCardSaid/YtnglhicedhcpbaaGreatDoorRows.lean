/-
  NARROWER THAN 'FOR EVERY INPUT', by the rows' own cells (each row's printed sentence says how): SegmentNobody: laid · ManifestRecovers: laid · ManifestCleans: laid · ManifestNobody: laid · ManifestRenews: laid · SegmentWrites: laid · SegmentBack: laid · SegmentTurned: laid · PoolKeeps: laid · PoolNobody: laid · PoolCircles: laid · PoolDoes: laid.
  DERIVED. THE GIVEN ROWS OF THIS SEAT. 12 by the template 'for every input the law returns true; each argument reads behind the call as it read before'; 0 by the template 'total and deterministic' (their statements: YtnglhicedhcpbaaGreatDoorTotals.lean).
  GIVEN WITH THE SEED: the statements are not yours to turn. If you find one false, say at which input.
  Laid BY PROGRAM, IN A SANDBOX (cutbox-rows.mjs): the forced cells as the released guide's own fill.sh prints them over the translation f9ae614e4778eeea… (all of the seat's roots in one cut). By AI agents, Wed Nov 11 2026. No macro, syntax, notation, axiom, sorry.
-/
import Derived.Test.YtnglhicedhcpbaaGreatDoorChecked
import GoSem.Claim
import GoSem.ClaimJoined
import GoSem.ClaimMapViews
import Derived.JoinedTies
import Derived.KernelRfl
namespace Go.Proofs.YtnglhicedhcpbaaGreatDoor
/- THE CELL 'sum', in the pinned program and in every row, IS THE sha256 OF THE DUMP (.gsa) THAT YtnglhicedhcpbaaGreatDoorProg.lean LOADS. Nothing in Lean hashes anything: it is a label: what it is worth is what the hold of that sum in a sandbox is worth. -/
noncomputable def Tryz.pinned : Pinned := { name := "ytnglhicedhcpbaagreatdoor", sum := "f9ae614e4778eeea522f63717333c2880fb33419d9ae13de2d359fa11c57fc58", checked := Tryz.checked }
namespace Rows
def none {H : Type} : Left H := { results := [], args := [] }

/- WHAT THE LISTED PACKAGE-LEVEL VARIABLES READ AS WHEN THE CALL BEGINS. Each datum BY PROGRAM (the guide's laid-datum.mjs) off the statement by which the dump's own 'gosem.cut.vars' lays the variable. In a bare row this is a premise. The card (YtnglhicedhcpbaaGreatDoorCards.lean) ties it to the program's text. -/
def laid_oxbow_crc_halves {H : Type} : DataW H := .agg [.lit (.int .u32 0), .lit (.int .u32 498536548), .lit (.int .u32 997073096), .lit (.int .u32 651767980), .lit (.int .u32 1994146192), .lit (.int .u32 1802195444), .lit (.int .u32 1303535960), .lit (.int .u32 1342533948), .lit (.int .u32 3988292384), .lit (.int .u32 4027552580), .lit (.int .u32 3604390888), .lit (.int .u32 3412177804), .lit (.int .u32 2607071920), .lit (.int .u32 2262029012), .lit (.int .u32 2685067896), .lit (.int .u32 3183342108)]

/-- 'oxbowlaw08.SegmentNobody': WHATEVER THE INPUT: true; the input reads as it did. -/
def segmentNobodySpec : ChangeSpec := { name := "segmentNobody", fn := fun _ => fun
  | [d1, d2] => { results := [.lit (.bool true)], args := [d1, d2] }
  | _ => none }
def segmentNobodyRow : OpenClaim := { program := "ytnglhicedhcpbaagreatdoor", sum := "f9ae614e4778eeea522f63717333c2880fb33419d9ae13de2d359fa11c57fc58", func := "oxbow/oxbowlaw08.SegmentNobody", spec := "segmentNobody", unfollowed := true, recurses := true, named := ["oxbow/crc.halves"], plainKeys := false, apart := false, laid := [("oxbow/crc.halves", laid_oxbow_crc_halves)] }
def SegmentNobodySaid : Prop := segmentNobodyRow.holds Tryz.pinned (OpenSpec.ofChange segmentNobodySpec)

/-- ITS FALSE NEIGHBOUR: 'it returns false'. Refute it at one input. -/
def segmentNobodyWrong : ChangeSpec := { name := "segmentNobody", fn := fun _ => fun
  | [d1, d2] => { results := [.lit (.bool false)], args := [d1, d2] }
  | _ => none }
def SegmentNobodyWrongFalsely : Prop := segmentNobodyRow.holds Tryz.pinned (OpenSpec.ofChange segmentNobodyWrong)

/-- 'oxbowlaw15.ManifestRecovers': WHATEVER THE INPUT: true; the input reads as it did. -/
def manifestRecoversSpec : ChangeSpec := { name := "manifestRecovers", fn := fun _ => fun
  | [d1, d2, d3, d4] => { results := [.lit (.bool true)], args := [d1, d2, d3, d4] }
  | _ => none }
def manifestRecoversRow : OpenClaim := { program := "ytnglhicedhcpbaagreatdoor", sum := "f9ae614e4778eeea522f63717333c2880fb33419d9ae13de2d359fa11c57fc58", func := "oxbow/oxbowlaw15.ManifestRecovers", spec := "manifestRecovers", unfollowed := true, recurses := true, named := ["oxbow/crc.halves"], plainKeys := false, apart := false, laid := [("oxbow/crc.halves", laid_oxbow_crc_halves)] }
def ManifestRecoversSaid : Prop := manifestRecoversRow.holds Tryz.pinned (OpenSpec.ofChange manifestRecoversSpec)

/-- ITS FALSE NEIGHBOUR: 'it returns false'. Refute it at one input. -/
def manifestRecoversWrong : ChangeSpec := { name := "manifestRecovers", fn := fun _ => fun
  | [d1, d2, d3, d4] => { results := [.lit (.bool false)], args := [d1, d2, d3, d4] }
  | _ => none }
def ManifestRecoversWrongFalsely : Prop := manifestRecoversRow.holds Tryz.pinned (OpenSpec.ofChange manifestRecoversWrong)

/-- 'oxbowlaw15.ManifestCleans': WHATEVER THE INPUT: true; the input reads as it did. -/
def manifestCleansSpec : ChangeSpec := { name := "manifestCleans", fn := fun _ => fun
  | [d] => { results := [.lit (.bool true)], args := [d] }
  | _ => none }
def manifestCleansRow : OpenClaim := { program := "ytnglhicedhcpbaagreatdoor", sum := "f9ae614e4778eeea522f63717333c2880fb33419d9ae13de2d359fa11c57fc58", func := "oxbow/oxbowlaw15.ManifestCleans", spec := "manifestCleans", unfollowed := true, recurses := true, named := ["oxbow/crc.halves"], plainKeys := false, apart := false, laid := [("oxbow/crc.halves", laid_oxbow_crc_halves)] }
def ManifestCleansSaid : Prop := manifestCleansRow.holds Tryz.pinned (OpenSpec.ofChange manifestCleansSpec)

/-- ITS FALSE NEIGHBOUR: 'it returns false'. Refute it at one input. -/
def manifestCleansWrong : ChangeSpec := { name := "manifestCleans", fn := fun _ => fun
  | [d] => { results := [.lit (.bool false)], args := [d] }
  | _ => none }
def ManifestCleansWrongFalsely : Prop := manifestCleansRow.holds Tryz.pinned (OpenSpec.ofChange manifestCleansWrong)

/-- 'oxbowlaw15.ManifestNobody': WHATEVER THE INPUT: true; the input reads as it did. -/
def manifestNobodySpec : ChangeSpec := { name := "manifestNobody", fn := fun _ => fun
  | [d] => { results := [.lit (.bool true)], args := [d] }
  | _ => none }
def manifestNobodyRow : OpenClaim := { program := "ytnglhicedhcpbaagreatdoor", sum := "f9ae614e4778eeea522f63717333c2880fb33419d9ae13de2d359fa11c57fc58", func := "oxbow/oxbowlaw15.ManifestNobody", spec := "manifestNobody", unfollowed := true, recurses := true, named := ["oxbow/crc.halves"], plainKeys := false, apart := false, laid := [("oxbow/crc.halves", laid_oxbow_crc_halves)] }
def ManifestNobodySaid : Prop := manifestNobodyRow.holds Tryz.pinned (OpenSpec.ofChange manifestNobodySpec)

/-- ITS FALSE NEIGHBOUR: 'it returns false'. Refute it at one input. -/
def manifestNobodyWrong : ChangeSpec := { name := "manifestNobody", fn := fun _ => fun
  | [d] => { results := [.lit (.bool false)], args := [d] }
  | _ => none }
def ManifestNobodyWrongFalsely : Prop := manifestNobodyRow.holds Tryz.pinned (OpenSpec.ofChange manifestNobodyWrong)

/-- 'oxbowlaw15.ManifestRenews': WHATEVER THE INPUT: true; the input reads as it did. -/
def manifestRenewsSpec : ChangeSpec := { name := "manifestRenews", fn := fun _ => fun
  | [d1, d2] => { results := [.lit (.bool true)], args := [d1, d2] }
  | _ => none }
def manifestRenewsRow : OpenClaim := { program := "ytnglhicedhcpbaagreatdoor", sum := "f9ae614e4778eeea522f63717333c2880fb33419d9ae13de2d359fa11c57fc58", func := "oxbow/oxbowlaw15.ManifestRenews", spec := "manifestRenews", unfollowed := true, recurses := true, named := ["oxbow/crc.halves"], plainKeys := false, apart := false, laid := [("oxbow/crc.halves", laid_oxbow_crc_halves)] }
def ManifestRenewsSaid : Prop := manifestRenewsRow.holds Tryz.pinned (OpenSpec.ofChange manifestRenewsSpec)

/-- ITS FALSE NEIGHBOUR: 'it returns false'. Refute it at one input. -/
def manifestRenewsWrong : ChangeSpec := { name := "manifestRenews", fn := fun _ => fun
  | [d1, d2] => { results := [.lit (.bool false)], args := [d1, d2] }
  | _ => none }
def ManifestRenewsWrongFalsely : Prop := manifestRenewsRow.holds Tryz.pinned (OpenSpec.ofChange manifestRenewsWrong)

/-- 'oxbowlaw08.SegmentWrites': WHATEVER THE INPUT: true; the input reads as it did. -/
def segmentWritesSpec : ChangeSpec := { name := "segmentWrites", fn := fun _ => fun
  | [d1, d2, d3] => { results := [.lit (.bool true)], args := [d1, d2, d3] }
  | _ => none }
def segmentWritesRow : OpenClaim := { program := "ytnglhicedhcpbaagreatdoor", sum := "f9ae614e4778eeea522f63717333c2880fb33419d9ae13de2d359fa11c57fc58", func := "oxbow/oxbowlaw08.SegmentWrites", spec := "segmentWrites", unfollowed := true, recurses := true, named := ["oxbow/crc.halves"], plainKeys := false, apart := false, laid := [("oxbow/crc.halves", laid_oxbow_crc_halves)] }
def SegmentWritesSaid : Prop := segmentWritesRow.holds Tryz.pinned (OpenSpec.ofChange segmentWritesSpec)

/-- ITS FALSE NEIGHBOUR: 'it returns false'. Refute it at one input. -/
def segmentWritesWrong : ChangeSpec := { name := "segmentWrites", fn := fun _ => fun
  | [d1, d2, d3] => { results := [.lit (.bool false)], args := [d1, d2, d3] }
  | _ => none }
def SegmentWritesWrongFalsely : Prop := segmentWritesRow.holds Tryz.pinned (OpenSpec.ofChange segmentWritesWrong)

/-- 'oxbowlaw08.SegmentBack': WHATEVER THE INPUT: true; the input reads as it did. -/
def segmentBackSpec : ChangeSpec := { name := "segmentBack", fn := fun _ => fun
  | [d1, d2, d3] => { results := [.lit (.bool true)], args := [d1, d2, d3] }
  | _ => none }
def segmentBackRow : OpenClaim := { program := "ytnglhicedhcpbaagreatdoor", sum := "f9ae614e4778eeea522f63717333c2880fb33419d9ae13de2d359fa11c57fc58", func := "oxbow/oxbowlaw08.SegmentBack", spec := "segmentBack", unfollowed := true, recurses := true, named := ["oxbow/crc.halves"], plainKeys := false, apart := false, laid := [("oxbow/crc.halves", laid_oxbow_crc_halves)] }
def SegmentBackSaid : Prop := segmentBackRow.holds Tryz.pinned (OpenSpec.ofChange segmentBackSpec)

/-- ITS FALSE NEIGHBOUR: 'it returns false'. Refute it at one input. -/
def segmentBackWrong : ChangeSpec := { name := "segmentBack", fn := fun _ => fun
  | [d1, d2, d3] => { results := [.lit (.bool false)], args := [d1, d2, d3] }
  | _ => none }
def SegmentBackWrongFalsely : Prop := segmentBackRow.holds Tryz.pinned (OpenSpec.ofChange segmentBackWrong)

/-- 'oxbowlaw08.SegmentTurned': WHATEVER THE INPUT: true; the input reads as it did. -/
def segmentTurnedSpec : ChangeSpec := { name := "segmentTurned", fn := fun _ => fun
  | [d1, d2, d3, d4, d5] => { results := [.lit (.bool true)], args := [d1, d2, d3, d4, d5] }
  | _ => none }
def segmentTurnedRow : OpenClaim := { program := "ytnglhicedhcpbaagreatdoor", sum := "f9ae614e4778eeea522f63717333c2880fb33419d9ae13de2d359fa11c57fc58", func := "oxbow/oxbowlaw08.SegmentTurned", spec := "segmentTurned", unfollowed := true, recurses := true, named := ["oxbow/crc.halves"], plainKeys := false, apart := false, laid := [("oxbow/crc.halves", laid_oxbow_crc_halves)] }
def SegmentTurnedSaid : Prop := segmentTurnedRow.holds Tryz.pinned (OpenSpec.ofChange segmentTurnedSpec)

/-- ITS FALSE NEIGHBOUR: 'it returns false'. Refute it at one input. -/
def segmentTurnedWrong : ChangeSpec := { name := "segmentTurned", fn := fun _ => fun
  | [d1, d2, d3, d4, d5] => { results := [.lit (.bool false)], args := [d1, d2, d3, d4, d5] }
  | _ => none }
def SegmentTurnedWrongFalsely : Prop := segmentTurnedRow.holds Tryz.pinned (OpenSpec.ofChange segmentTurnedWrong)

/-- 'oxbowlaw09.PoolKeeps': WHATEVER THE INPUT: true; the input reads as it did. -/
def poolKeepsSpec : ChangeSpec := { name := "poolKeeps", fn := fun _ => fun
  | [d1, d2, d3] => { results := [.lit (.bool true)], args := [d1, d2, d3] }
  | _ => none }
def poolKeepsRow : OpenClaim := { program := "ytnglhicedhcpbaagreatdoor", sum := "f9ae614e4778eeea522f63717333c2880fb33419d9ae13de2d359fa11c57fc58", func := "oxbow/oxbowlaw09.PoolKeeps", spec := "poolKeeps", unfollowed := true, recurses := true, named := ["oxbow/crc.halves"], plainKeys := false, apart := false, laid := [("oxbow/crc.halves", laid_oxbow_crc_halves)] }
def PoolKeepsSaid : Prop := poolKeepsRow.holds Tryz.pinned (OpenSpec.ofChange poolKeepsSpec)

/-- ITS FALSE NEIGHBOUR: 'it returns false'. Refute it at one input. -/
def poolKeepsWrong : ChangeSpec := { name := "poolKeeps", fn := fun _ => fun
  | [d1, d2, d3] => { results := [.lit (.bool false)], args := [d1, d2, d3] }
  | _ => none }
def PoolKeepsWrongFalsely : Prop := poolKeepsRow.holds Tryz.pinned (OpenSpec.ofChange poolKeepsWrong)

/-- 'oxbowlaw09.PoolNobody': WHATEVER THE INPUT: true; the input reads as it did. -/
def poolNobodySpec : ChangeSpec := { name := "poolNobody", fn := fun _ => fun
  | [d] => { results := [.lit (.bool true)], args := [d] }
  | _ => none }
def poolNobodyRow : OpenClaim := { program := "ytnglhicedhcpbaagreatdoor", sum := "f9ae614e4778eeea522f63717333c2880fb33419d9ae13de2d359fa11c57fc58", func := "oxbow/oxbowlaw09.PoolNobody", spec := "poolNobody", unfollowed := true, recurses := true, named := ["oxbow/crc.halves"], plainKeys := false, apart := false, laid := [("oxbow/crc.halves", laid_oxbow_crc_halves)] }
def PoolNobodySaid : Prop := poolNobodyRow.holds Tryz.pinned (OpenSpec.ofChange poolNobodySpec)

/-- ITS FALSE NEIGHBOUR: 'it returns false'. Refute it at one input. -/
def poolNobodyWrong : ChangeSpec := { name := "poolNobody", fn := fun _ => fun
  | [d] => { results := [.lit (.bool false)], args := [d] }
  | _ => none }
def PoolNobodyWrongFalsely : Prop := poolNobodyRow.holds Tryz.pinned (OpenSpec.ofChange poolNobodyWrong)

/-- 'oxbowlaw09.PoolCircles': WHATEVER THE INPUT: true; the input reads as it did. -/
def poolCirclesSpec : ChangeSpec := { name := "poolCircles", fn := fun _ => fun
  | [d1, d2, d3] => { results := [.lit (.bool true)], args := [d1, d2, d3] }
  | _ => none }
def poolCirclesRow : OpenClaim := { program := "ytnglhicedhcpbaagreatdoor", sum := "f9ae614e4778eeea522f63717333c2880fb33419d9ae13de2d359fa11c57fc58", func := "oxbow/oxbowlaw09.PoolCircles", spec := "poolCircles", unfollowed := true, recurses := true, named := ["oxbow/crc.halves"], plainKeys := false, apart := false, laid := [("oxbow/crc.halves", laid_oxbow_crc_halves)] }
def PoolCirclesSaid : Prop := poolCirclesRow.holds Tryz.pinned (OpenSpec.ofChange poolCirclesSpec)

/-- ITS FALSE NEIGHBOUR: 'it returns false'. Refute it at one input. -/
def poolCirclesWrong : ChangeSpec := { name := "poolCircles", fn := fun _ => fun
  | [d1, d2, d3] => { results := [.lit (.bool false)], args := [d1, d2, d3] }
  | _ => none }
def PoolCirclesWrongFalsely : Prop := poolCirclesRow.holds Tryz.pinned (OpenSpec.ofChange poolCirclesWrong)

/-- 'oxbowlaw09.PoolDoes': WHATEVER THE INPUT: true; the input reads as it did. -/
def poolDoesSpec : ChangeSpec := { name := "poolDoes", fn := fun _ => fun
  | [d1, d2] => { results := [.lit (.bool true)], args := [d1, d2] }
  | _ => none }
def poolDoesRow : OpenClaim := { program := "ytnglhicedhcpbaagreatdoor", sum := "f9ae614e4778eeea522f63717333c2880fb33419d9ae13de2d359fa11c57fc58", func := "oxbow/oxbowlaw09.PoolDoes", spec := "poolDoes", unfollowed := true, recurses := true, named := ["oxbow/crc.halves"], plainKeys := false, apart := false, laid := [("oxbow/crc.halves", laid_oxbow_crc_halves)] }
def PoolDoesSaid : Prop := poolDoesRow.holds Tryz.pinned (OpenSpec.ofChange poolDoesSpec)

/-- ITS FALSE NEIGHBOUR: 'it returns false'. Refute it at one input. -/
def poolDoesWrong : ChangeSpec := { name := "poolDoes", fn := fun _ => fun
  | [d1, d2] => { results := [.lit (.bool false)], args := [d1, d2] }
  | _ => none }
def PoolDoesWrongFalsely : Prop := poolDoesRow.holds Tryz.pinned (OpenSpec.ofChange poolDoesWrong)

/- THE SECOND FORM. 'bulk': how many values and letters a reading holds, each counted each time it is reached (what is shared counts as often as it is met; a slice's spare places count too). A statement '..UptoSaid' is the law's where the arguments, and the package variables that the reading takes, are together of bulk at most 1048576: NARROWER than '..Said'. Prove '..Said' where nothing that the law and all that it calls make is longer than what came in: it says more and counts as full. Else prove '..UptoSaid'. A law counts once. -/
mutual
def uptoBulk {H : Type} : DataW H → Nat
  | .lit (.string bytes) => bytes.length + 1
  | .lit _ => 1
  | .nil => 1
  | .ptr d => uptoBulk d + 1
  | .slice elems spare => uptoBulkAll elems + uptoBulkAll spare + 1
  | .agg parts => uptoBulkAll parts + 1
  | .iface _ d => uptoBulk d + 1
  | .map entries => uptoBulkEntries entries + 1
  | .held _ => 1
def uptoBulkAll {H : Type} : List (DataW H) → Nat
  | [] => 0
  | d :: r => uptoBulk d + uptoBulkAll r
def uptoBulkEntries {H : Type} : List (Lit × DataW H) → Nat
  | [] => 0
  | x :: r => uptoBulkEntry x + uptoBulkEntries r
def uptoBulkEntry {H : Type} : Lit × DataW H → Nat
  | (.string bytes, d) => bytes.length + uptoBulk d + 1
  | (_, d) => uptoBulk d + 1
 end
def uptoSmall : (H : Type) → List (DataW H) → Bool := fun _ ds => decide (uptoBulkAll ds ≤ 1048576)
def OpenSpec.upto (s : _root_.Go.ChangeSpec) : _root_.Go.OpenSpec := { _root_.Go.OpenSpec.ofChange s with cond := some uptoSmall }

/-- 'oxbowlaw08.SegmentNobody', WHERE WHAT IT READS IS OF BULK AT MOST 1048576: true; the input reads as it did. -/
def segmentNobodyUptoRow : OpenClaim := { program := "ytnglhicedhcpbaagreatdoor", sum := "f9ae614e4778eeea522f63717333c2880fb33419d9ae13de2d359fa11c57fc58", func := "oxbow/oxbowlaw08.SegmentNobody", spec := "segmentNobody", unfollowed := true, recurses := true, named := ["oxbow/crc.halves"], plainKeys := false, apart := false, laid := [("oxbow/crc.halves", laid_oxbow_crc_halves)], narrowed := true }
def SegmentNobodyUptoSaid : Prop := segmentNobodyUptoRow.holds Tryz.pinned (OpenSpec.upto segmentNobodySpec)

/-- 'oxbowlaw15.ManifestRecovers', WHERE WHAT IT READS IS OF BULK AT MOST 1048576: true; the input reads as it did. -/
def manifestRecoversUptoRow : OpenClaim := { program := "ytnglhicedhcpbaagreatdoor", sum := "f9ae614e4778eeea522f63717333c2880fb33419d9ae13de2d359fa11c57fc58", func := "oxbow/oxbowlaw15.ManifestRecovers", spec := "manifestRecovers", unfollowed := true, recurses := true, named := ["oxbow/crc.halves"], plainKeys := false, apart := false, laid := [("oxbow/crc.halves", laid_oxbow_crc_halves)], narrowed := true }
def ManifestRecoversUptoSaid : Prop := manifestRecoversUptoRow.holds Tryz.pinned (OpenSpec.upto manifestRecoversSpec)

/-- 'oxbowlaw15.ManifestCleans', WHERE WHAT IT READS IS OF BULK AT MOST 1048576: true; the input reads as it did. -/
def manifestCleansUptoRow : OpenClaim := { program := "ytnglhicedhcpbaagreatdoor", sum := "f9ae614e4778eeea522f63717333c2880fb33419d9ae13de2d359fa11c57fc58", func := "oxbow/oxbowlaw15.ManifestCleans", spec := "manifestCleans", unfollowed := true, recurses := true, named := ["oxbow/crc.halves"], plainKeys := false, apart := false, laid := [("oxbow/crc.halves", laid_oxbow_crc_halves)], narrowed := true }
def ManifestCleansUptoSaid : Prop := manifestCleansUptoRow.holds Tryz.pinned (OpenSpec.upto manifestCleansSpec)

/-- 'oxbowlaw15.ManifestNobody', WHERE WHAT IT READS IS OF BULK AT MOST 1048576: true; the input reads as it did. -/
def manifestNobodyUptoRow : OpenClaim := { program := "ytnglhicedhcpbaagreatdoor", sum := "f9ae614e4778eeea522f63717333c2880fb33419d9ae13de2d359fa11c57fc58", func := "oxbow/oxbowlaw15.ManifestNobody", spec := "manifestNobody", unfollowed := true, recurses := true, named := ["oxbow/crc.halves"], plainKeys := false, apart := false, laid := [("oxbow/crc.halves", laid_oxbow_crc_halves)], narrowed := true }
def ManifestNobodyUptoSaid : Prop := manifestNobodyUptoRow.holds Tryz.pinned (OpenSpec.upto manifestNobodySpec)

/-- 'oxbowlaw15.ManifestRenews', WHERE WHAT IT READS IS OF BULK AT MOST 1048576: true; the input reads as it did. -/
def manifestRenewsUptoRow : OpenClaim := { program := "ytnglhicedhcpbaagreatdoor", sum := "f9ae614e4778eeea522f63717333c2880fb33419d9ae13de2d359fa11c57fc58", func := "oxbow/oxbowlaw15.ManifestRenews", spec := "manifestRenews", unfollowed := true, recurses := true, named := ["oxbow/crc.halves"], plainKeys := false, apart := false, laid := [("oxbow/crc.halves", laid_oxbow_crc_halves)], narrowed := true }
def ManifestRenewsUptoSaid : Prop := manifestRenewsUptoRow.holds Tryz.pinned (OpenSpec.upto manifestRenewsSpec)

/-- 'oxbowlaw08.SegmentWrites', WHERE WHAT IT READS IS OF BULK AT MOST 1048576: true; the input reads as it did. -/
def segmentWritesUptoRow : OpenClaim := { program := "ytnglhicedhcpbaagreatdoor", sum := "f9ae614e4778eeea522f63717333c2880fb33419d9ae13de2d359fa11c57fc58", func := "oxbow/oxbowlaw08.SegmentWrites", spec := "segmentWrites", unfollowed := true, recurses := true, named := ["oxbow/crc.halves"], plainKeys := false, apart := false, laid := [("oxbow/crc.halves", laid_oxbow_crc_halves)], narrowed := true }
def SegmentWritesUptoSaid : Prop := segmentWritesUptoRow.holds Tryz.pinned (OpenSpec.upto segmentWritesSpec)

/-- 'oxbowlaw08.SegmentBack', WHERE WHAT IT READS IS OF BULK AT MOST 1048576: true; the input reads as it did. -/
def segmentBackUptoRow : OpenClaim := { program := "ytnglhicedhcpbaagreatdoor", sum := "f9ae614e4778eeea522f63717333c2880fb33419d9ae13de2d359fa11c57fc58", func := "oxbow/oxbowlaw08.SegmentBack", spec := "segmentBack", unfollowed := true, recurses := true, named := ["oxbow/crc.halves"], plainKeys := false, apart := false, laid := [("oxbow/crc.halves", laid_oxbow_crc_halves)], narrowed := true }
def SegmentBackUptoSaid : Prop := segmentBackUptoRow.holds Tryz.pinned (OpenSpec.upto segmentBackSpec)

/-- 'oxbowlaw08.SegmentTurned', WHERE WHAT IT READS IS OF BULK AT MOST 1048576: true; the input reads as it did. -/
def segmentTurnedUptoRow : OpenClaim := { program := "ytnglhicedhcpbaagreatdoor", sum := "f9ae614e4778eeea522f63717333c2880fb33419d9ae13de2d359fa11c57fc58", func := "oxbow/oxbowlaw08.SegmentTurned", spec := "segmentTurned", unfollowed := true, recurses := true, named := ["oxbow/crc.halves"], plainKeys := false, apart := false, laid := [("oxbow/crc.halves", laid_oxbow_crc_halves)], narrowed := true }
def SegmentTurnedUptoSaid : Prop := segmentTurnedUptoRow.holds Tryz.pinned (OpenSpec.upto segmentTurnedSpec)

/-- 'oxbowlaw09.PoolKeeps', WHERE WHAT IT READS IS OF BULK AT MOST 1048576: true; the input reads as it did. -/
def poolKeepsUptoRow : OpenClaim := { program := "ytnglhicedhcpbaagreatdoor", sum := "f9ae614e4778eeea522f63717333c2880fb33419d9ae13de2d359fa11c57fc58", func := "oxbow/oxbowlaw09.PoolKeeps", spec := "poolKeeps", unfollowed := true, recurses := true, named := ["oxbow/crc.halves"], plainKeys := false, apart := false, laid := [("oxbow/crc.halves", laid_oxbow_crc_halves)], narrowed := true }
def PoolKeepsUptoSaid : Prop := poolKeepsUptoRow.holds Tryz.pinned (OpenSpec.upto poolKeepsSpec)

/-- 'oxbowlaw09.PoolNobody', WHERE WHAT IT READS IS OF BULK AT MOST 1048576: true; the input reads as it did. -/
def poolNobodyUptoRow : OpenClaim := { program := "ytnglhicedhcpbaagreatdoor", sum := "f9ae614e4778eeea522f63717333c2880fb33419d9ae13de2d359fa11c57fc58", func := "oxbow/oxbowlaw09.PoolNobody", spec := "poolNobody", unfollowed := true, recurses := true, named := ["oxbow/crc.halves"], plainKeys := false, apart := false, laid := [("oxbow/crc.halves", laid_oxbow_crc_halves)], narrowed := true }
def PoolNobodyUptoSaid : Prop := poolNobodyUptoRow.holds Tryz.pinned (OpenSpec.upto poolNobodySpec)

/-- 'oxbowlaw09.PoolCircles', WHERE WHAT IT READS IS OF BULK AT MOST 1048576: true; the input reads as it did. -/
def poolCirclesUptoRow : OpenClaim := { program := "ytnglhicedhcpbaagreatdoor", sum := "f9ae614e4778eeea522f63717333c2880fb33419d9ae13de2d359fa11c57fc58", func := "oxbow/oxbowlaw09.PoolCircles", spec := "poolCircles", unfollowed := true, recurses := true, named := ["oxbow/crc.halves"], plainKeys := false, apart := false, laid := [("oxbow/crc.halves", laid_oxbow_crc_halves)], narrowed := true }
def PoolCirclesUptoSaid : Prop := poolCirclesUptoRow.holds Tryz.pinned (OpenSpec.upto poolCirclesSpec)

/-- 'oxbowlaw09.PoolDoes', WHERE WHAT IT READS IS OF BULK AT MOST 1048576: true; the input reads as it did. -/
def poolDoesUptoRow : OpenClaim := { program := "ytnglhicedhcpbaagreatdoor", sum := "f9ae614e4778eeea522f63717333c2880fb33419d9ae13de2d359fa11c57fc58", func := "oxbow/oxbowlaw09.PoolDoes", spec := "poolDoes", unfollowed := true, recurses := true, named := ["oxbow/crc.halves"], plainKeys := false, apart := false, laid := [("oxbow/crc.halves", laid_oxbow_crc_halves)], narrowed := true }
def PoolDoesUptoSaid : Prop := poolDoesUptoRow.holds Tryz.pinned (OpenSpec.upto poolDoesSpec)

end Rows
end Go.Proofs.YtnglhicedhcpbaaGreatDoor
