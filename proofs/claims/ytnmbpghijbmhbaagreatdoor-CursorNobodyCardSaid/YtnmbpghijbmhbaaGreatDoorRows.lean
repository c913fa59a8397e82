/-
  NARROWER THAN 'FOR EVERY INPUT', by the rows' own cells (each row's printed sentence says how): CursorTells: laid · CursorCloses: laid · CursorPinned: laid · CursorNobody: laid · CursorRot: laid · MergeCursors: laid · MergeRot: laid · StoreKeeps: laid · StoreSpills: laid · StoreNobody: laid · StoreAdopts: laid · StoreRot: laid.
  DERIVED. THE GIVEN ROWS OF THIS SEAT. 12 by the template 'for every input the law returns true; each argument reads behind the call as it read before'; 0 by the template 'total and deterministic' (their statements: YtnmbpghijbmhbaaGreatDoorTotals.lean).
  GIVEN WITH THE SEED: the statements are not yours to turn. If you find one false, say at which input.
  Laid BY PROGRAM, IN A SANDBOX (cutbox-rows.mjs): the forced cells as the released guide's own fill.sh prints them over the translation 18e07d5f836cfd96… (all of the seat's roots in one cut). By AI agents, Wed Nov 11 2026. No macro, syntax, notation, axiom, sorry.
-/
import Derived.Test.YtnmbpghijbmhbaaGreatDoorChecked
import GoSem.Claim
import GoSem.ClaimJoined
import GoSem.ClaimMapViews
import Derived.JoinedTies
import Derived.KernelRfl
namespace Go.Proofs.YtnmbpghijbmhbaaGreatDoor
/- THE CELL 'sum', in the pinned program and in every row, IS THE sha256 OF THE DUMP (.gsa) THAT YtnmbpghijbmhbaaGreatDoorProg.lean LOADS. Nothing in Lean hashes anything: it is a label: what it is worth is what the hold of that sum in a sandbox is worth. -/
noncomputable def Tryz.pinned : Pinned := { name := "ytnmbpghijbmhbaagreatdoor", sum := "18e07d5f836cfd964b01819ea7195302bfc43c41b7af7354952631bbae543b59", checked := Tryz.checked }
namespace Rows
def none {H : Type} : Left H := { results := [], args := [] }

/- WHAT THE LISTED PACKAGE-LEVEL VARIABLES READ AS WHEN THE CALL BEGINS. Each datum BY PROGRAM (the guide's laid-datum.mjs) off the statement by which the dump's own 'gosem.cut.vars' lays the variable. In a bare row this is a premise. The card (YtnmbpghijbmhbaaGreatDoorCards.lean) ties it to the program's text. -/
def laid_oxbow_crc_halves {H : Type} : DataW H := .agg [.lit (.int .u32 0), .lit (.int .u32 498536548), .lit (.int .u32 997073096), .lit (.int .u32 651767980), .lit (.int .u32 1994146192), .lit (.int .u32 1802195444), .lit (.int .u32 1303535960), .lit (.int .u32 1342533948), .lit (.int .u32 3988292384), .lit (.int .u32 4027552580), .lit (.int .u32 3604390888), .lit (.int .u32 3412177804), .lit (.int .u32 2607071920), .lit (.int .u32 2262029012), .lit (.int .u32 2685067896), .lit (.int .u32 3183342108)]
def laid_math_bits_deBruijn32tab {H : Type} : DataW H := .agg [.lit (.int .u8 0), .lit (.int .u8 1), .lit (.int .u8 28), .lit (.int .u8 2), .lit (.int .u8 29), .lit (.int .u8 14), .lit (.int .u8 24), .lit (.int .u8 3), .lit (.int .u8 30), .lit (.int .u8 22), .lit (.int .u8 20), .lit (.int .u8 15), .lit (.int .u8 25), .lit (.int .u8 17), .lit (.int .u8 4), .lit (.int .u8 8), .lit (.int .u8 31), .lit (.int .u8 27), .lit (.int .u8 13), .lit (.int .u8 23), .lit (.int .u8 21), .lit (.int .u8 19), .lit (.int .u8 16), .lit (.int .u8 7), .lit (.int .u8 26), .lit (.int .u8 12), .lit (.int .u8 18), .lit (.int .u8 6), .lit (.int .u8 11), .lit (.int .u8 5), .lit (.int .u8 10), .lit (.int .u8 9)]
def laid_math_bits_deBruijn64tab {H : Type} : DataW H := .agg [.lit (.int .u8 0), .lit (.int .u8 1), .lit (.int .u8 56), .lit (.int .u8 2), .lit (.int .u8 57), .lit (.int .u8 49), .lit (.int .u8 28), .lit (.int .u8 3), .lit (.int .u8 61), .lit (.int .u8 58), .lit (.int .u8 42), .lit (.int .u8 50), .lit (.int .u8 38), .lit (.int .u8 29), .lit (.int .u8 17), .lit (.int .u8 4), .lit (.int .u8 62), .lit (.int .u8 47), .lit (.int .u8 59), .lit (.int .u8 36), .lit (.int .u8 45), .lit (.int .u8 43), .lit (.int .u8 51), .lit (.int .u8 22), .lit (.int .u8 53), .lit (.int .u8 39), .lit (.int .u8 33), .lit (.int .u8 30), .lit (.int .u8 24), .lit (.int .u8 18), .lit (.int .u8 12), .lit (.int .u8 5), .lit (.int .u8 63), .lit (.int .u8 55), .lit (.int .u8 48), .lit (.int .u8 27), .lit (.int .u8 60), .lit (.int .u8 41), .lit (.int .u8 37), .lit (.int .u8 16), .lit (.int .u8 46), .lit (.int .u8 35), .lit (.int .u8 44), .lit (.int .u8 21), .lit (.int .u8 52), .lit (.int .u8 32), .lit (.int .u8 23), .lit (.int .u8 11), .lit (.int .u8 54), .lit (.int .u8 26), .lit (.int .u8 40), .lit (.int .u8 15), .lit (.int .u8 34), .lit (.int .u8 20), .lit (.int .u8 31), .lit (.int .u8 10), .lit (.int .u8 25), .lit (.int .u8 14), .lit (.int .u8 19), .lit (.int .u8 9), .lit (.int .u8 13), .lit (.int .u8 8), .lit (.int .u8 7), .lit (.int .u8 6)]
def laid_internal_strconv_uint64pow10 {H : Type} : DataW H := .agg [.lit (.int .u64 1), .lit (.int .u64 10), .lit (.int .u64 100), .lit (.int .u64 1000), .lit (.int .u64 10000), .lit (.int .u64 100000), .lit (.int .u64 1000000), .lit (.int .u64 10000000), .lit (.int .u64 100000000), .lit (.int .u64 1000000000), .lit (.int .u64 10000000000), .lit (.int .u64 100000000000), .lit (.int .u64 1000000000000), .lit (.int .u64 10000000000000), .lit (.int .u64 100000000000000), .lit (.int .u64 1000000000000000), .lit (.int .u64 10000000000000000), .lit (.int .u64 100000000000000000), .lit (.int .u64 1000000000000000000), .lit (.int .u64 10000000000000000000)]

/-- 'oxbowlaw10.CursorTells': WHATEVER THE INPUT: true; the input reads as it did. -/
def cursorTellsSpec : ChangeSpec := { name := "cursorTells", fn := fun _ => fun
  | [d1, d2, d3] => { results := [.lit (.bool true)], args := [d1, d2, d3] }
  | _ => none }
def cursorTellsRow : OpenClaim := { program := "ytnmbpghijbmhbaagreatdoor", sum := "18e07d5f836cfd964b01819ea7195302bfc43c41b7af7354952631bbae543b59", func := "oxbow/oxbowlaw10.CursorTells", spec := "cursorTells", unfollowed := true, recurses := true, named := ["oxbow/crc.halves"], plainKeys := false, apart := false, laid := [("oxbow/crc.halves", laid_oxbow_crc_halves)] }
def CursorTellsSaid : Prop := cursorTellsRow.holds Tryz.pinned (OpenSpec.ofChange cursorTellsSpec)

/-- ITS FALSE NEIGHBOUR: 'it returns false'. Refute it at one input. -/
def cursorTellsWrong : ChangeSpec := { name := "cursorTells", fn := fun _ => fun
  | [d1, d2, d3] => { results := [.lit (.bool false)], args := [d1, d2, d3] }
  | _ => none }
def CursorTellsWrongFalsely : Prop := cursorTellsRow.holds Tryz.pinned (OpenSpec.ofChange cursorTellsWrong)

/-- 'oxbowlaw10.CursorCloses': WHATEVER THE INPUT: true; the input reads as it did. -/
def cursorClosesSpec : ChangeSpec := { name := "cursorCloses", fn := fun _ => fun
  | [d1, d2, d3] => { results := [.lit (.bool true)], args := [d1, d2, d3] }
  | _ => none }
def cursorClosesRow : OpenClaim := { program := "ytnmbpghijbmhbaagreatdoor", sum := "18e07d5f836cfd964b01819ea7195302bfc43c41b7af7354952631bbae543b59", func := "oxbow/oxbowlaw10.CursorCloses", spec := "cursorCloses", unfollowed := true, recurses := true, named := ["oxbow/crc.halves"], plainKeys := false, apart := false, laid := [("oxbow/crc.halves", laid_oxbow_crc_halves)] }
def CursorClosesSaid : Prop := cursorClosesRow.holds Tryz.pinned (OpenSpec.ofChange cursorClosesSpec)

/-- ITS FALSE NEIGHBOUR: 'it returns false'. Refute it at one input. -/
def cursorClosesWrong : ChangeSpec := { name := "cursorCloses", fn := fun _ => fun
  | [d1, d2, d3] => { results := [.lit (.bool false)], args := [d1, d2, d3] }
  | _ => none }
def CursorClosesWrongFalsely : Prop := cursorClosesRow.holds Tryz.pinned (OpenSpec.ofChange cursorClosesWrong)

/-- 'oxbowlaw10.CursorPinned': WHATEVER THE INPUT: true; the input reads as it did. -/
def cursorPinnedSpec : ChangeSpec := { name := "cursorPinned", fn := fun _ => fun
  | [d1, d2, d3] => { results := [.lit (.bool true)], args := [d1, d2, d3] }
  | _ => none }
def cursorPinnedRow : OpenClaim := { program := "ytnmbpghijbmhbaagreatdoor", sum := "18e07d5f836cfd964b01819ea7195302bfc43c41b7af7354952631bbae543b59", func := "oxbow/oxbowlaw10.CursorPinned", spec := "cursorPinned", unfollowed := true, recurses := true, named := ["oxbow/crc.halves"], plainKeys := false, apart := false, laid := [("oxbow/crc.halves", laid_oxbow_crc_halves)] }
def CursorPinnedSaid : Prop := cursorPinnedRow.holds Tryz.pinned (OpenSpec.ofChange cursorPinnedSpec)

/-- ITS FALSE NEIGHBOUR: 'it returns false'. Refute it at one input. -/
def cursorPinnedWrong : ChangeSpec := { name := "cursorPinned", fn := fun _ => fun
  | [d1, d2, d3] => { results := [.lit (.bool false)], args := [d1, d2, d3] }
  | _ => none }
def CursorPinnedWrongFalsely : Prop := cursorPinnedRow.holds Tryz.pinned (OpenSpec.ofChange cursorPinnedWrong)

/-- 'oxbowlaw10.CursorNobody': WHATEVER THE INPUT: true; the input reads as it did. -/
def cursorNobodySpec : ChangeSpec := { name := "cursorNobody", fn := fun _ => fun
  | [d] => { results := [.lit (.bool true)], args := [d] }
  | _ => none }
def cursorNobodyRow : OpenClaim := { program := "ytnmbpghijbmhbaagreatdoor", sum := "18e07d5f836cfd964b01819ea7195302bfc43c41b7af7354952631bbae543b59", func := "oxbow/oxbowlaw10.CursorNobody", spec := "cursorNobody", unfollowed := true, recurses := true, named := ["oxbow/crc.halves"], plainKeys := false, apart := false, laid := [("oxbow/crc.halves", laid_oxbow_crc_halves)] }
def CursorNobodySaid : Prop := cursorNobodyRow.holds Tryz.pinned (OpenSpec.ofChange cursorNobodySpec)

/-- ITS FALSE NEIGHBOUR: 'it returns false'. Refute it at one input. -/
def cursorNobodyWrong : ChangeSpec := { name := "cursorNobody", fn := fun _ => fun
  | [d] => { results := [.lit (.bool false)], args := [d] }
  | _ => none }
def CursorNobodyWrongFalsely : Prop := cursorNobodyRow.holds Tryz.pinned (OpenSpec.ofChange cursorNobodyWrong)

/-- 'oxbowlaw10.CursorRot': WHATEVER THE INPUT: true; the input reads as it did. -/
def cursorRotSpec : ChangeSpec := { name := "cursorRot", fn := fun _ => fun
  | [d1, d2, d3, d4] => { results := [.lit (.bool true)], args := [d1, d2, d3, d4] }
  | _ => none }
def cursorRotRow : OpenClaim := { program := "ytnmbpghijbmhbaagreatdoor", sum := "18e07d5f836cfd964b01819ea7195302bfc43c41b7af7354952631bbae543b59", func := "oxbow/oxbowlaw10.CursorRot", spec := "cursorRot", unfollowed := true, recurses := true, named := ["oxbow/crc.halves"], plainKeys := false, apart := false, laid := [("oxbow/crc.halves", laid_oxbow_crc_halves)] }
def CursorRotSaid : Prop := cursorRotRow.holds Tryz.pinned (OpenSpec.ofChange cursorRotSpec)

/-- ITS FALSE NEIGHBOUR: 'it returns false'. Refute it at one input. -/
def cursorRotWrong : ChangeSpec := { name := "cursorRot", fn := fun _ => fun
  | [d1, d2, d3, d4] => { results := [.lit (.bool false)], args := [d1, d2, d3, d4] }
  | _ => none }
def CursorRotWrongFalsely : Prop := cursorRotRow.holds Tryz.pinned (OpenSpec.ofChange cursorRotWrong)

/-- 'oxbowlaw11.MergeCursors': WHATEVER THE INPUT: true; the input reads as it did. -/
def mergeCursorsSpec : ChangeSpec := { name := "mergeCursors", fn := fun _ => fun
  | [d1, d2, d3, d4] => { results := [.lit (.bool true)], args := [d1, d2, d3, d4] }
  | _ => none }
def mergeCursorsRow : OpenClaim := { program := "ytnmbpghijbmhbaagreatdoor", sum := "18e07d5f836cfd964b01819ea7195302bfc43c41b7af7354952631bbae543b59", func := "oxbow/oxbowlaw11.MergeCursors", spec := "mergeCursors", unfollowed := true, recurses := true, named := ["oxbow/crc.halves"], plainKeys := false, apart := false, laid := [("oxbow/crc.halves", laid_oxbow_crc_halves)] }
def MergeCursorsSaid : Prop := mergeCursorsRow.holds Tryz.pinned (OpenSpec.ofChange mergeCursorsSpec)

/-- ITS FALSE NEIGHBOUR: 'it returns false'. Refute it at one input. -/
def mergeCursorsWrong : ChangeSpec := { name := "mergeCursors", fn := fun _ => fun
  | [d1, d2, d3, d4] => { results := [.lit (.bool false)], args := [d1, d2, d3, d4] }
  | _ => none }
def MergeCursorsWrongFalsely : Prop := mergeCursorsRow.holds Tryz.pinned (OpenSpec.ofChange mergeCursorsWrong)

/-- 'oxbowlaw11.MergeRot': WHATEVER THE INPUT: true; the input reads as it did. -/
def mergeRotSpec : ChangeSpec := { name := "mergeRot", fn := fun _ => fun
  | [d1, d2, d3, d4] => { results := [.lit (.bool true)], args := [d1, d2, d3, d4] }
  | _ => none }
def mergeRotRow : OpenClaim := { program := "ytnmbpghijbmhbaagreatdoor", sum := "18e07d5f836cfd964b01819ea7195302bfc43c41b7af7354952631bbae543b59", func := "oxbow/oxbowlaw11.MergeRot", spec := "mergeRot", unfollowed := true, recurses := true, named := ["oxbow/crc.halves"], plainKeys := false, apart := false, laid := [("oxbow/crc.halves", laid_oxbow_crc_halves)] }
def MergeRotSaid : Prop := mergeRotRow.holds Tryz.pinned (OpenSpec.ofChange mergeRotSpec)

/-- ITS FALSE NEIGHBOUR: 'it returns false'. Refute it at one input. -/
def mergeRotWrong : ChangeSpec := { name := "mergeRot", fn := fun _ => fun
  | [d1, d2, d3, d4] => { results := [.lit (.bool false)], args := [d1, d2, d3, d4] }
  | _ => none }
def MergeRotWrongFalsely : Prop := mergeRotRow.holds Tryz.pinned (OpenSpec.ofChange mergeRotWrong)

/-- 'oxbowlaw13.StoreKeeps': WHATEVER THE INPUT: true; the input reads as it did. -/
def storeKeepsSpec : ChangeSpec := { name := "storeKeeps", fn := fun _ => fun
  | [d1, d2, d3] => { results := [.lit (.bool true)], args := [d1, d2, d3] }
  | _ => none }
def storeKeepsRow : OpenClaim := { program := "ytnmbpghijbmhbaagreatdoor", sum := "18e07d5f836cfd964b01819ea7195302bfc43c41b7af7354952631bbae543b59", func := "oxbow/oxbowlaw13.StoreKeeps", spec := "storeKeeps", unfollowed := true, recurses := true, named := ["internal/strconv.uint64pow10", "math/bits.deBruijn32tab", "math/bits.deBruijn64tab", "oxbow/crc.halves"], plainKeys := false, apart := false, laid := [("math/bits.deBruijn32tab", laid_math_bits_deBruijn32tab), ("math/bits.deBruijn64tab", laid_math_bits_deBruijn64tab), ("internal/strconv.uint64pow10", laid_internal_strconv_uint64pow10), ("oxbow/crc.halves", laid_oxbow_crc_halves)] }
def StoreKeepsSaid : Prop := storeKeepsRow.holds Tryz.pinned (OpenSpec.ofChange storeKeepsSpec)

/-- ITS FALSE NEIGHBOUR: 'it returns false'. Refute it at one input. -/
def storeKeepsWrong : ChangeSpec := { name := "storeKeeps", fn := fun _ => fun
  | [d1, d2, d3] => { results := [.lit (.bool false)], args := [d1, d2, d3] }
  | _ => none }
def StoreKeepsWrongFalsely : Prop := storeKeepsRow.holds Tryz.pinned (OpenSpec.ofChange storeKeepsWrong)

/-- 'oxbowlaw13.StoreSpills': WHATEVER THE INPUT: true; the input reads as it did. -/
def storeSpillsSpec : ChangeSpec := { name := "storeSpills", fn := fun _ => fun
  | [d1, d2, d3, d4] => { results := [.lit (.bool true)], args := [d1, d2, d3, d4] }
  | _ => none }
def storeSpillsRow : OpenClaim := { program := "ytnmbpghijbmhbaagreatdoor", sum := "18e07d5f836cfd964b01819ea7195302bfc43c41b7af7354952631bbae543b59", func := "oxbow/oxbowlaw13.StoreSpills", spec := "storeSpills", unfollowed := true, recurses := true, named := ["internal/strconv.uint64pow10", "math/bits.deBruijn32tab", "math/bits.deBruijn64tab", "oxbow/crc.halves"], plainKeys := false, apart := false, laid := [("math/bits.deBruijn32tab", laid_math_bits_deBruijn32tab), ("math/bits.deBruijn64tab", laid_math_bits_deBruijn64tab), ("internal/strconv.uint64pow10", laid_internal_strconv_uint64pow10), ("oxbow/crc.halves", laid_oxbow_crc_halves)] }
def StoreSpillsSaid : Prop := storeSpillsRow.holds Tryz.pinned (OpenSpec.ofChange storeSpillsSpec)

/-- ITS FALSE NEIGHBOUR: 'it returns false'. Refute it at one input. -/
def storeSpillsWrong : ChangeSpec := { name := "storeSpills", fn := fun _ => fun
  | [d1, d2, d3, d4] => { results := [.lit (.bool false)], args := [d1, d2, d3, d4] }
  | _ => none }
def StoreSpillsWrongFalsely : Prop := storeSpillsRow.holds Tryz.pinned (OpenSpec.ofChange storeSpillsWrong)

/-- 'oxbowlaw13.StoreNobody': WHATEVER THE INPUT: true; the input reads as it did. -/
def storeNobodySpec : ChangeSpec := { name := "storeNobody", fn := fun _ => fun
  | [d] => { results := [.lit (.bool true)], args := [d] }
  | _ => none }
def storeNobodyRow : OpenClaim := { program := "ytnmbpghijbmhbaagreatdoor", sum := "18e07d5f836cfd964b01819ea7195302bfc43c41b7af7354952631bbae543b59", func := "oxbow/oxbowlaw13.StoreNobody", spec := "storeNobody", unfollowed := true, recurses := true, named := ["oxbow/crc.halves", "internal/strconv.uint64pow10", "math/bits.deBruijn32tab", "math/bits.deBruijn64tab"], plainKeys := false, apart := false, laid := [("math/bits.deBruijn32tab", laid_math_bits_deBruijn32tab), ("math/bits.deBruijn64tab", laid_math_bits_deBruijn64tab), ("internal/strconv.uint64pow10", laid_internal_strconv_uint64pow10), ("oxbow/crc.halves", laid_oxbow_crc_halves)] }
def StoreNobodySaid : Prop := storeNobodyRow.holds Tryz.pinned (OpenSpec.ofChange storeNobodySpec)

/-- ITS FALSE NEIGHBOUR: 'it returns false'. Refute it at one input. -/
def storeNobodyWrong : ChangeSpec := { name := "storeNobody", fn := fun _ => fun
  | [d] => { results := [.lit (.bool false)], args := [d] }
  | _ => none }
def StoreNobodyWrongFalsely : Prop := storeNobodyRow.holds Tryz.pinned (OpenSpec.ofChange storeNobodyWrong)

/-- 'oxbowlaw13.StoreAdopts': WHATEVER THE INPUT: true; the input reads as it did. -/
def storeAdoptsSpec : ChangeSpec := { name := "storeAdopts", fn := fun _ => fun
  | [d1, d2, d3] => { results := [.lit (.bool true)], args := [d1, d2, d3] }
  | _ => none }
def storeAdoptsRow : OpenClaim := { program := "ytnmbpghijbmhbaagreatdoor", sum := "18e07d5f836cfd964b01819ea7195302bfc43c41b7af7354952631bbae543b59", func := "oxbow/oxbowlaw13.StoreAdopts", spec := "storeAdopts", unfollowed := true, recurses := true, named := ["internal/strconv.uint64pow10", "math/bits.deBruijn32tab", "math/bits.deBruijn64tab", "oxbow/crc.halves"], plainKeys := false, apart := false, laid := [("math/bits.deBruijn32tab", laid_math_bits_deBruijn32tab), ("math/bits.deBruijn64tab", laid_math_bits_deBruijn64tab), ("internal/strconv.uint64pow10", laid_internal_strconv_uint64pow10), ("oxbow/crc.halves", laid_oxbow_crc_halves)] }
def StoreAdoptsSaid : Prop := storeAdoptsRow.holds Tryz.pinned (OpenSpec.ofChange storeAdoptsSpec)

/-- ITS FALSE NEIGHBOUR: 'it returns false'. Refute it at one input. -/
def storeAdoptsWrong : ChangeSpec := { name := "storeAdopts", fn := fun _ => fun
  | [d1, d2, d3] => { results := [.lit (.bool false)], args := [d1, d2, d3] }
  | _ => none }
def StoreAdoptsWrongFalsely : Prop := storeAdoptsRow.holds Tryz.pinned (OpenSpec.ofChange storeAdoptsWrong)

/-- 'oxbowlaw13.StoreRot': WHATEVER THE INPUT: true; the input reads as it did. -/
def storeRotSpec : ChangeSpec := { name := "storeRot", fn := fun _ => fun
  | [d1, d2, d3, d4, d5, d6, d7] => { results := [.lit (.bool true)], args := [d1, d2, d3, d4, d5, d6, d7] }
  | _ => none }
def storeRotRow : OpenClaim := { program := "ytnmbpghijbmhbaagreatdoor", sum := "18e07d5f836cfd964b01819ea7195302bfc43c41b7af7354952631bbae543b59", func := "oxbow/oxbowlaw13.StoreRot", spec := "storeRot", unfollowed := true, recurses := true, named := ["internal/strconv.uint64pow10", "math/bits.deBruijn32tab", "math/bits.deBruijn64tab", "oxbow/crc.halves"], plainKeys := false, apart := false, laid := [("math/bits.deBruijn32tab", laid_math_bits_deBruijn32tab), ("math/bits.deBruijn64tab", laid_math_bits_deBruijn64tab), ("internal/strconv.uint64pow10", laid_internal_strconv_uint64pow10), ("oxbow/crc.halves", laid_oxbow_crc_halves)] }
def StoreRotSaid : Prop := storeRotRow.holds Tryz.pinned (OpenSpec.ofChange storeRotSpec)

/-- ITS FALSE NEIGHBOUR: 'it returns false'. Refute it at one input. -/
def storeRotWrong : ChangeSpec := { name := "storeRot", fn := fun _ => fun
  | [d1, d2, d3, d4, d5, d6, d7] => { results := [.lit (.bool false)], args := [d1, d2, d3, d4, d5, d6, d7] }
  | _ => none }
def StoreRotWrongFalsely : Prop := storeRotRow.holds Tryz.pinned (OpenSpec.ofChange storeRotWrong)

/- THE SECOND FORM. 'bulk': how many values and letters a reading holds, each counted each time it is reached (what is shared counts as often as it is met; a slice's spare places count too). A statement '..UptoSaid' is the law's where the arguments, and the package variables that the reading takes, are together of bulk at most 1048576: NARROWER than '..Said'. Prove '..Said' where nothing that the law and all that it calls make is longer than what came in: it says more and counts as full. Else prove '..UptoSaid'. A law counts once. -/
mutual
def uptoBulk {H : Type} : DataW H → Nat
  | .lit (.string bytes) => bytes.length + 1
  | .lit _ => 1
  | .nil => 1
  | .ptr d => uptoBulk d + 1
  | .slice elems spare => uptoBulkAll elems + uptoBulkAll spare + 1
  | .agg parts => uptoBulkAll parts + 1
  | .iface _ d => uptoBulk d + 1
  | .map entries => uptoBulkEntries entries + 1
  | .held _ => 1
def uptoBulkAll {H : Type} : List (DataW H) → Nat
  | [] => 0
  | d :: r => uptoBulk d + uptoBulkAll r
def uptoBulkEntries {H : Type} : List (Lit × DataW H) → Nat
  | [] => 0
  | x :: r => uptoBulkEntry x + uptoBulkEntries r
def uptoBulkEntry {H : Type} : Lit × DataW H → Nat
  | (.string bytes, d) => bytes.length + uptoBulk d + 1
  | (_, d) => uptoBulk d + 1
 end
def uptoSmall : (H : Type) → List (DataW H) → Bool := fun _ ds => decide (uptoBulkAll ds ≤ 1048576)
def OpenSpec.upto (s : _root_.Go.ChangeSpec) : _root_.Go.OpenSpec := { _root_.Go.OpenSpec.ofChange s with cond := some uptoSmall }

/-- 'oxbowlaw10.CursorTells', WHERE WHAT IT READS IS OF BULK AT MOST 1048576: true; the input reads as it did. -/
def cursorTellsUptoRow : OpenClaim := { program := "ytnmbpghijbmhbaagreatdoor", sum := "18e07d5f836cfd964b01819ea7195302bfc43c41b7af7354952631bbae543b59", func := "oxbow/oxbowlaw10.CursorTells", spec := "cursorTells", unfollowed := true, recurses := true, named := ["oxbow/crc.halves"], plainKeys := false, apart := false, laid := [("oxbow/crc.halves", laid_oxbow_crc_halves)], narrowed := true }
def CursorTellsUptoSaid : Prop := cursorTellsUptoRow.holds Tryz.pinned (OpenSpec.upto cursorTellsSpec)

/-- 'oxbowlaw10.CursorCloses', WHERE WHAT IT READS IS OF BULK AT MOST 1048576: true; the input reads as it did. -/
def cursorClosesUptoRow : OpenClaim := { program := "ytnmbpghijbmhbaagreatdoor", sum := "18e07d5f836cfd964b01819ea7195302bfc43c41b7af7354952631bbae543b59", func := "oxbow/oxbowlaw10.CursorCloses", spec := "cursorCloses", unfollowed := true, recurses := true, named := ["oxbow/crc.halves"], plainKeys := false, apart := false, laid := [("oxbow/crc.halves", laid_oxbow_crc_halves)], narrowed := true }
def CursorClosesUptoSaid : Prop := cursorClosesUptoRow.holds Tryz.pinned (OpenSpec.upto cursorClosesSpec)

/-- 'oxbowlaw10.CursorPinned', WHERE WHAT IT READS IS OF BULK AT MOST 1048576: true; the input reads as it did. -/
def cursorPinnedUptoRow : OpenClaim := { program := "ytnmbpghijbmhbaagreatdoor", sum := "18e07d5f836cfd964b01819ea7195302bfc43c41b7af7354952631bbae543b59", func := "oxbow/oxbowlaw10.CursorPinned", spec := "cursorPinned", unfollowed := true, recurses := true, named := ["oxbow/crc.halves"], plainKeys := false, apart := false, laid := [("oxbow/crc.halves", laid_oxbow_crc_halves)], narrowed := true }
def CursorPinnedUptoSaid : Prop := cursorPinnedUptoRow.holds Tryz.pinned (OpenSpec.upto cursorPinnedSpec)

/-- 'oxbowlaw10.CursorNobody', WHERE WHAT IT READS IS OF BULK AT MOST 1048576: true; the input reads as it did. -/
def cursorNobodyUptoRow : OpenClaim := { program := "ytnmbpghijbmhbaagreatdoor", sum := "18e07d5f836cfd964b01819ea7195302bfc43c41b7af7354952631bbae543b59", func := "oxbow/oxbowlaw10.CursorNobody", spec := "cursorNobody", unfollowed := true, recurses := true, named := ["oxbow/crc.halves"], plainKeys := false, apart := false, laid := [("oxbow/crc.halves", laid_oxbow_crc_halves)], narrowed := true }
def CursorNobodyUptoSaid : Prop := cursorNobodyUptoRow.holds Tryz.pinned (OpenSpec.upto cursorNobodySpec)

/-- 'oxbowlaw10.CursorRot', WHERE WHAT IT READS IS OF BULK AT MOST 1048576: true; the input reads as it did. -/
def cursorRotUptoRow : OpenClaim := { program := "ytnmbpghijbmhbaagreatdoor", sum := "18e07d5f836cfd964b01819ea7195302bfc43c41b7af7354952631bbae543b59", func := "oxbow/oxbowlaw10.CursorRot", spec := "cursorRot", unfollowed := true, recurses := true, named := ["oxbow/crc.halves"], plainKeys := false, apart := false, laid := [("oxbow/crc.halves", laid_oxbow_crc_halves)], narrowed := true }
def CursorRotUptoSaid : Prop := cursorRotUptoRow.holds Tryz.pinned (OpenSpec.upto cursorRotSpec)

/-- 'oxbowlaw11.MergeCursors', WHERE WHAT IT READS IS OF BULK AT MOST 1048576: true; the input reads as it did. -/
def mergeCursorsUptoRow : OpenClaim := { program := "ytnmbpghijbmhbaagreatdoor", sum := "18e07d5f836cfd964b01819ea7195302bfc43c41b7af7354952631bbae543b59", func := "oxbow/oxbowlaw11.MergeCursors", spec := "mergeCursors", unfollowed := true, recurses := true, named := ["oxbow/crc.halves"], plainKeys := false, apart := false, laid := [("oxbow/crc.halves", laid_oxbow_crc_halves)], narrowed := true }
def MergeCursorsUptoSaid : Prop := mergeCursorsUptoRow.holds Tryz.pinned (OpenSpec.upto mergeCursorsSpec)

/-- 'oxbowlaw11.MergeRot', WHERE WHAT IT READS IS OF BULK AT MOST 1048576: true; the input reads as it did. -/
def mergeRotUptoRow : OpenClaim := { program := "ytnmbpghijbmhbaagreatdoor", sum := "18e07d5f836cfd964b01819ea7195302bfc43c41b7af7354952631bbae543b59", func := "oxbow/oxbowlaw11.MergeRot", spec := "mergeRot", unfollowed := true, recurses := true, named := ["oxbow/crc.halves"], plainKeys := false, apart := false, laid := [("oxbow/crc.halves", laid_oxbow_crc_halves)], narrowed := true }
def MergeRotUptoSaid : Prop := mergeRotUptoRow.holds Tryz.pinned (OpenSpec.upto mergeRotSpec)

/-- 'oxbowlaw13.StoreKeeps', WHERE WHAT IT READS IS OF BULK AT MOST 1048576: true; the input reads as it did. -/
def storeKeepsUptoRow : OpenClaim := { program := "ytnmbpghijbmhbaagreatdoor", sum := "18e07d5f836cfd964b01819ea7195302bfc43c41b7af7354952631bbae543b59", func := "oxbow/oxbowlaw13.StoreKeeps", spec := "storeKeeps", unfollowed := true, recurses := true, named := ["internal/strconv.uint64pow10", "math/bits.deBruijn32tab", "math/bits.deBruijn64tab", "oxbow/crc.halves"], plainKeys := false, apart := false, laid := [("math/bits.deBruijn32tab", laid_math_bits_deBruijn32tab), ("math/bits.deBruijn64tab", laid_math_bits_deBruijn64tab), ("internal/strconv.uint64pow10", laid_internal_strconv_uint64pow10), ("oxbow/crc.halves", laid_oxbow_crc_halves)], narrowed := true }
def StoreKeepsUptoSaid : Prop := storeKeepsUptoRow.holds Tryz.pinned (OpenSpec.upto storeKeepsSpec)

/-- 'oxbowlaw13.StoreSpills', WHERE WHAT IT READS IS OF BULK AT MOST 1048576: true; the input reads as it did. -/
def storeSpillsUptoRow : OpenClaim := { program := "ytnmbpghijbmhbaagreatdoor", sum := "18e07d5f836cfd964b01819ea7195302bfc43c41b7af7354952631bbae543b59", func := "oxbow/oxbowlaw13.StoreSpills", spec := "storeSpills", unfollowed := true, recurses := true, named := ["internal/strconv.uint64pow10", "math/bits.deBruijn32tab", "math/bits.deBruijn64tab", "oxbow/crc.halves"], plainKeys := false, apart := false, laid := [("math/bits.deBruijn32tab", laid_math_bits_deBruijn32tab), ("math/bits.deBruijn64tab", laid_math_bits_deBruijn64tab), ("internal/strconv.uint64pow10", laid_internal_strconv_uint64pow10), ("oxbow/crc.halves", laid_oxbow_crc_halves)], narrowed := true }
def StoreSpillsUptoSaid : Prop := storeSpillsUptoRow.holds Tryz.pinned (OpenSpec.upto storeSpillsSpec)

/-- 'oxbowlaw13.StoreNobody', WHERE WHAT IT READS IS OF BULK AT MOST 1048576: true; the input reads as it did. -/
def storeNobodyUptoRow : OpenClaim := { program := "ytnmbpghijbmhbaagreatdoor", sum := "18e07d5f836cfd964b01819ea7195302bfc43c41b7af7354952631bbae543b59", func := "oxbow/oxbowlaw13.StoreNobody", spec := "storeNobody", unfollowed := true, recurses := true, named := ["oxbow/crc.halves", "internal/strconv.uint64pow10", "math/bits.deBruijn32tab", "math/bits.deBruijn64tab"], plainKeys := false, apart := false, laid := [("math/bits.deBruijn32tab", laid_math_bits_deBruijn32tab), ("math/bits.deBruijn64tab", laid_math_bits_deBruijn64tab), ("internal/strconv.uint64pow10", laid_internal_strconv_uint64pow10), ("oxbow/crc.halves", laid_oxbow_crc_halves)], narrowed := true }
def StoreNobodyUptoSaid : Prop := storeNobodyUptoRow.holds Tryz.pinned (OpenSpec.upto storeNobodySpec)

/-- 'oxbowlaw13.StoreAdopts', WHERE WHAT IT READS IS OF BULK AT MOST 1048576: true; the input reads as it did. -/
def storeAdoptsUptoRow : OpenClaim := { program := "ytnmbpghijbmhbaagreatdoor", sum := "18e07d5f836cfd964b01819ea7195302bfc43c41b7af7354952631bbae543b59", func := "oxbow/oxbowlaw13.StoreAdopts", spec := "storeAdopts", unfollowed := true, recurses := true, named := ["internal/strconv.uint64pow10", "math/bits.deBruijn32tab", "math/bits.deBruijn64tab", "oxbow/crc.halves"], plainKeys := false, apart := false, laid := [("math/bits.deBruijn32tab", laid_math_bits_deBruijn32tab), ("math/bits.deBruijn64tab", laid_math_bits_deBruijn64tab), ("internal/strconv.uint64pow10", laid_internal_strconv_uint64pow10), ("oxbow/crc.halves", laid_oxbow_crc_halves)], narrowed := true }
def StoreAdoptsUptoSaid : Prop := storeAdoptsUptoRow.holds Tryz.pinned (OpenSpec.upto storeAdoptsSpec)

/-- 'oxbowlaw13.StoreRot', WHERE WHAT IT READS IS OF BULK AT MOST 1048576: true; the input reads as it did. -/
def storeRotUptoRow : OpenClaim := { program := "ytnmbpghijbmhbaagreatdoor", sum := "18e07d5f836cfd964b01819ea7195302bfc43c41b7af7354952631bbae543b59", func := "oxbow/oxbowlaw13.StoreRot", spec := "storeRot", unfollowed := true, recurses := true, named := ["internal/strconv.uint64pow10", "math/bits.deBruijn32tab", "math/bits.deBruijn64tab", "oxbow/crc.halves"], plainKeys := false, apart := false, laid := [("math/bits.deBruijn32tab", laid_math_bits_deBruijn32tab), ("math/bits.deBruijn64tab", laid_math_bits_deBruijn64tab), ("internal/strconv.uint64pow10", laid_internal_strconv_uint64pow10), ("oxbow/crc.halves", laid_oxbow_crc_halves)], narrowed := true }
def StoreRotUptoSaid : Prop := storeRotUptoRow.holds Tryz.pinned (OpenSpec.upto storeRotSpec)

end Rows
end Go.Proofs.YtnmbpghijbmhbaaGreatDoor
