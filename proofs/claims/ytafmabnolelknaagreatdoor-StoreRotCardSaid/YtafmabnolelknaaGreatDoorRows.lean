/-
  NARROWER THAN 'FOR EVERY INPUT', by the rows' own cells (each row's printed sentence says how): StoreKeeps: laid · StoreSpills: laid · StoreNobody: laid · StoreAdopts: laid · StoreRot: laid · ShardDoes: loops, laid · ShardNames: loops, laid · ShardNobody: laid · ShardLimits: laid.
  DERIVED. THE GIVEN ROWS OF THIS SEAT. 9 by the template 'for every input the law returns true; each argument reads behind the call as it read before'; 0 by the template 'total and deterministic' (their statements: YtafmabnolelknaaGreatDoorTotals.lean).
  GIVEN WITH THE SEED: the statements are not yours to turn. If you find one false, say at which input.
  Laid BY PROGRAM, IN A SANDBOX (cutbox-rows.mjs): the forced cells as the released guide's own fill.sh prints them over the translation 99b7f2bac2054387… (all of the seat's roots in one cut). By AI agents, Wed Nov 11 2026. No macro, syntax, notation, axiom, sorry.
-/
import Derived.Test.YtafmabnolelknaaGreatDoorChecked
import GoSem.Claim
import GoSem.ClaimJoined
import GoSem.ClaimMapViews
import Derived.JoinedTies
import Derived.KernelRfl
namespace Go.Proofs.YtafmabnolelknaaGreatDoor
/- THE CELL 'sum', in the pinned program and in every row, IS THE sha256 OF THE DUMP (.gsa) THAT YtafmabnolelknaaGreatDoorProg.lean LOADS. Nothing in Lean hashes anything: it is a label: what it is worth is what the hold of that sum in a sandbox is worth. -/
noncomputable def Tryz.pinned : Pinned := { name := "ytafmabnolelknaagreatdoor", sum := "99b7f2bac2054387804b7816270b9574b4fcf75647e242cd409cc9a50378e3d4", checked := Tryz.checked }
namespace Rows
def none {H : Type} : Left H := { results := [], args := [] }

/- WHAT THE LISTED PACKAGE-LEVEL VARIABLES READ AS WHEN THE CALL BEGINS. Each datum BY PROGRAM (the guide's laid-datum.mjs) off the statement by which the dump's own 'gosem.cut.vars' lays the variable. In a bare row this is a premise. The card (YtafmabnolelknaaGreatDoorCards.lean) ties it to the program's text. -/
def laid_math_bits_deBruijn32tab {H : Type} : DataW H := .agg [.lit (.int .u8 0), .lit (.int .u8 1), .lit (.int .u8 28), .lit (.int .u8 2), .lit (.int .u8 29), .lit (.int .u8 14), .lit (.int .u8 24), .lit (.int .u8 3), .lit (.int .u8 30), .lit (.int .u8 22), .lit (.int .u8 20), .lit (.int .u8 15), .lit (.int .u8 25), .lit (.int .u8 17), .lit (.int .u8 4), .lit (.int .u8 8), .lit (.int .u8 31), .lit (.int .u8 27), .lit (.int .u8 13), .lit (.int .u8 23), .lit (.int .u8 21), .lit (.int .u8 19), .lit (.int .u8 16), .lit (.int .u8 7), .lit (.int .u8 26), .lit (.int .u8 12), .lit (.int .u8 18), .lit (.int .u8 6), .lit (.int .u8 11), .lit (.int .u8 5), .lit (.int .u8 10), .lit (.int .u8 9)]
def laid_math_bits_deBruijn64tab {H : Type} : DataW H := .agg [.lit (.int .u8 0), .lit (.int .u8 1), .lit (.int .u8 56), .lit (.int .u8 2), .lit (.int .u8 57), .lit (.int .u8 49), .lit (.int .u8 28), .lit (.int .u8 3), .lit (.int .u8 61), .lit (.int .u8 58), .lit (.int .u8 42), .lit (.int .u8 50), .lit (.int .u8 38), .lit (.int .u8 29), .lit (.int .u8 17), .lit (.int .u8 4), .lit (.int .u8 62), .lit (.int .u8 47), .lit (.int .u8 59), .lit (.int .u8 36), .lit (.int .u8 45), .lit (.int .u8 43), .lit (.int .u8 51), .lit (.int .u8 22), .lit (.int .u8 53), .lit (.int .u8 39), .lit (.int .u8 33), .lit (.int .u8 30), .lit (.int .u8 24), .lit (.int .u8 18), .lit (.int .u8 12), .lit (.int .u8 5), .lit (.int .u8 63), .lit (.int .u8 55), .lit (.int .u8 48), .lit (.int .u8 27), .lit (.int .u8 60), .lit (.int .u8 41), .lit (.int .u8 37), .lit (.int .u8 16), .lit (.int .u8 46), .lit (.int .u8 35), .lit (.int .u8 44), .lit (.int .u8 21), .lit (.int .u8 52), .lit (.int .u8 32), .lit (.int .u8 23), .lit (.int .u8 11), .lit (.int .u8 54), .lit (.int .u8 26), .lit (.int .u8 40), .lit (.int .u8 15), .lit (.int .u8 34), .lit (.int .u8 20), .lit (.int .u8 31), .lit (.int .u8 10), .lit (.int .u8 25), .lit (.int .u8 14), .lit (.int .u8 19), .lit (.int .u8 9), .lit (.int .u8 13), .lit (.int .u8 8), .lit (.int .u8 7), .lit (.int .u8 6)]
def laid_internal_strconv_uint64pow10 {H : Type} : DataW H := .agg [.lit (.int .u64 1), .lit (.int .u64 10), .lit (.int .u64 100), .lit (.int .u64 1000), .lit (.int .u64 10000), .lit (.int .u64 100000), .lit (.int .u64 1000000), .lit (.int .u64 10000000), .lit (.int .u64 100000000), .lit (.int .u64 1000000000), .lit (.int .u64 10000000000), .lit (.int .u64 100000000000), .lit (.int .u64 1000000000000), .lit (.int .u64 10000000000000), .lit (.int .u64 100000000000000), .lit (.int .u64 1000000000000000), .lit (.int .u64 10000000000000000), .lit (.int .u64 100000000000000000), .lit (.int .u64 1000000000000000000), .lit (.int .u64 10000000000000000000)]
def laid_oxbow_crc_halves {H : Type} : DataW H := .agg [.lit (.int .u32 0), .lit (.int .u32 498536548), .lit (.int .u32 997073096), .lit (.int .u32 651767980), .lit (.int .u32 1994146192), .lit (.int .u32 1802195444), .lit (.int .u32 1303535960), .lit (.int .u32 1342533948), .lit (.int .u32 3988292384), .lit (.int .u32 4027552580), .lit (.int .u32 3604390888), .lit (.int .u32 3412177804), .lit (.int .u32 2607071920), .lit (.int .u32 2262029012), .lit (.int .u32 2685067896), .lit (.int .u32 3183342108)]

/-- 'oxbowlaw13.StoreKeeps': WHATEVER THE INPUT: true; the input reads as it did. -/
def storeKeepsSpec : ChangeSpec := { name := "storeKeeps", fn := fun _ => fun
  | [d1, d2, d3] => { results := [.lit (.bool true)], args := [d1, d2, d3] }
  | _ => none }
def storeKeepsRow : OpenClaim := { program := "ytafmabnolelknaagreatdoor", sum := "99b7f2bac2054387804b7816270b9574b4fcf75647e242cd409cc9a50378e3d4", func := "oxbow/oxbowlaw13.StoreKeeps", spec := "storeKeeps", unfollowed := true, recurses := true, named := ["internal/strconv.uint64pow10", "math/bits.deBruijn32tab", "math/bits.deBruijn64tab", "oxbow/crc.halves"], plainKeys := false, apart := false, laid := [("math/bits.deBruijn32tab", laid_math_bits_deBruijn32tab), ("math/bits.deBruijn64tab", laid_math_bits_deBruijn64tab), ("internal/strconv.uint64pow10", laid_internal_strconv_uint64pow10), ("oxbow/crc.halves", laid_oxbow_crc_halves)] }
def StoreKeepsSaid : Prop := storeKeepsRow.holds Tryz.pinned (OpenSpec.ofChange storeKeepsSpec)

/-- ITS FALSE NEIGHBOUR: 'it returns false'. Refute it at one input. -/
def storeKeepsWrong : ChangeSpec := { name := "storeKeeps", fn := fun _ => fun
  | [d1, d2, d3] => { results := [.lit (.bool false)], args := [d1, d2, d3] }
  | _ => none }
def StoreKeepsWrongFalsely : Prop := storeKeepsRow.holds Tryz.pinned (OpenSpec.ofChange storeKeepsWrong)

/-- 'oxbowlaw13.StoreSpills': WHATEVER THE INPUT: true; the input reads as it did. -/
def storeSpillsSpec : ChangeSpec := { name := "storeSpills", fn := fun _ => fun
  | [d1, d2, d3, d4] => { results := [.lit (.bool true)], args := [d1, d2, d3, d4] }
  | _ => none }
def storeSpillsRow : OpenClaim := { program := "ytafmabnolelknaagreatdoor", sum := "99b7f2bac2054387804b7816270b9574b4fcf75647e242cd409cc9a50378e3d4", func := "oxbow/oxbowlaw13.StoreSpills", spec := "storeSpills", unfollowed := true, recurses := true, named := ["internal/strconv.uint64pow10", "math/bits.deBruijn32tab", "math/bits.deBruijn64tab", "oxbow/crc.halves"], plainKeys := false, apart := false, laid := [("math/bits.deBruijn32tab", laid_math_bits_deBruijn32tab), ("math/bits.deBruijn64tab", laid_math_bits_deBruijn64tab), ("internal/strconv.uint64pow10", laid_internal_strconv_uint64pow10), ("oxbow/crc.halves", laid_oxbow_crc_halves)] }
def StoreSpillsSaid : Prop := storeSpillsRow.holds Tryz.pinned (OpenSpec.ofChange storeSpillsSpec)

/-- ITS FALSE NEIGHBOUR: 'it returns false'. Refute it at one input. -/
def storeSpillsWrong : ChangeSpec := { name := "storeSpills", fn := fun _ => fun
  | [d1, d2, d3, d4] => { results := [.lit (.bool false)], args := [d1, d2, d3, d4] }
  | _ => none }
def StoreSpillsWrongFalsely : Prop := storeSpillsRow.holds Tryz.pinned (OpenSpec.ofChange storeSpillsWrong)

/-- 'oxbowlaw13.StoreNobody': WHATEVER THE INPUT: true; the input reads as it did. -/
def storeNobodySpec : ChangeSpec := { name := "storeNobody", fn := fun _ => fun
  | [d] => { results := [.lit (.bool true)], args := [d] }
  | _ => none }
def storeNobodyRow : OpenClaim := { program := "ytafmabnolelknaagreatdoor", sum := "99b7f2bac2054387804b7816270b9574b4fcf75647e242cd409cc9a50378e3d4", func := "oxbow/oxbowlaw13.StoreNobody", spec := "storeNobody", unfollowed := true, recurses := true, named := ["oxbow/crc.halves", "internal/strconv.uint64pow10", "math/bits.deBruijn32tab", "math/bits.deBruijn64tab"], plainKeys := false, apart := false, laid := [("math/bits.deBruijn32tab", laid_math_bits_deBruijn32tab), ("math/bits.deBruijn64tab", laid_math_bits_deBruijn64tab), ("internal/strconv.uint64pow10", laid_internal_strconv_uint64pow10), ("oxbow/crc.halves", laid_oxbow_crc_halves)] }
def StoreNobodySaid : Prop := storeNobodyRow.holds Tryz.pinned (OpenSpec.ofChange storeNobodySpec)

/-- ITS FALSE NEIGHBOUR: 'it returns false'. Refute it at one input. -/
def storeNobodyWrong : ChangeSpec := { name := "storeNobody", fn := fun _ => fun
  | [d] => { results := [.lit (.bool false)], args := [d] }
  | _ => none }
def StoreNobodyWrongFalsely : Prop := storeNobodyRow.holds Tryz.pinned (OpenSpec.ofChange storeNobodyWrong)

/-- 'oxbowlaw13.StoreAdopts': WHATEVER THE INPUT: true; the input reads as it did. -/
def storeAdoptsSpec : ChangeSpec := { name := "storeAdopts", fn := fun _ => fun
  | [d1, d2, d3] => { results := [.lit (.bool true)], args := [d1, d2, d3] }
  | _ => none }
def storeAdoptsRow : OpenClaim := { program := "ytafmabnolelknaagreatdoor", sum := "99b7f2bac2054387804b7816270b9574b4fcf75647e242cd409cc9a50378e3d4", func := "oxbow/oxbowlaw13.StoreAdopts", spec := "storeAdopts", unfollowed := true, recurses := true, named := ["internal/strconv.uint64pow10", "math/bits.deBruijn32tab", "math/bits.deBruijn64tab", "oxbow/crc.halves"], plainKeys := false, apart := false, laid := [("math/bits.deBruijn32tab", laid_math_bits_deBruijn32tab), ("math/bits.deBruijn64tab", laid_math_bits_deBruijn64tab), ("internal/strconv.uint64pow10", laid_internal_strconv_uint64pow10), ("oxbow/crc.halves", laid_oxbow_crc_halves)] }
def StoreAdoptsSaid : Prop := storeAdoptsRow.holds Tryz.pinned (OpenSpec.ofChange storeAdoptsSpec)

/-- ITS FALSE NEIGHBOUR: 'it returns false'. Refute it at one input. -/
def storeAdoptsWrong : ChangeSpec := { name := "storeAdopts", fn := fun _ => fun
  | [d1, d2, d3] => { results := [.lit (.bool false)], args := [d1, d2, d3] }
  | _ => none }
def StoreAdoptsWrongFalsely : Prop := storeAdoptsRow.holds Tryz.pinned (OpenSpec.ofChange storeAdoptsWrong)

/-- 'oxbowlaw13.StoreRot': WHATEVER THE INPUT: true; the input reads as it did. -/
def storeRotSpec : ChangeSpec := { name := "storeRot", fn := fun _ => fun
  | [d1, d2, d3, d4, d5, d6, d7] => { results := [.lit (.bool true)], args := [d1, d2, d3, d4, d5, d6, d7] }
  | _ => none }
def storeRotRow : OpenClaim := { program := "ytafmabnolelknaagreatdoor", sum := "99b7f2bac2054387804b7816270b9574b4fcf75647e242cd409cc9a50378e3d4", func := "oxbow/oxbowlaw13.StoreRot", spec := "storeRot", unfollowed := true, recurses := true, named := ["internal/strconv.uint64pow10", "math/bits.deBruijn32tab", "math/bits.deBruijn64tab", "oxbow/crc.halves"], plainKeys := false, apart := false, laid := [("math/bits.deBruijn32tab", laid_math_bits_deBruijn32tab), ("math/bits.deBruijn64tab", laid_math_bits_deBruijn64tab), ("internal/strconv.uint64pow10", laid_internal_strconv_uint64pow10), ("oxbow/crc.halves", laid_oxbow_crc_halves)] }
def StoreRotSaid : Prop := storeRotRow.holds Tryz.pinned (OpenSpec.ofChange storeRotSpec)

/-- ITS FALSE NEIGHBOUR: 'it returns false'. Refute it at one input. -/
def storeRotWrong : ChangeSpec := { name := "storeRot", fn := fun _ => fun
  | [d1, d2, d3, d4, d5, d6, d7] => { results := [.lit (.bool false)], args := [d1, d2, d3, d4, d5, d6, d7] }
  | _ => none }
def StoreRotWrongFalsely : Prop := storeRotRow.holds Tryz.pinned (OpenSpec.ofChange storeRotWrong)

/-- 'oxbowlaw24.ShardDoes': WHATEVER THE INPUT: true; the input reads as it did. -/
def shardDoesSpec : ChangeSpec := { name := "shardDoes", fn := fun _ => fun
  | [d1, d2, d3, d4] => { results := [.lit (.bool true)], args := [d1, d2, d3, d4] }
  | _ => none }
def shardDoesRow : OpenClaim := { program := "ytafmabnolelknaagreatdoor", sum := "99b7f2bac2054387804b7816270b9574b4fcf75647e242cd409cc9a50378e3d4", func := "oxbow/oxbowlaw24.ShardDoes", spec := "shardDoes", unfollowed := true, recurses := true, named := ["internal/strconv.uint64pow10", "math/bits.deBruijn32tab", "math/bits.deBruijn64tab", "oxbow/crc.halves"], loops := true, plainKeys := false, apart := false, laid := [("math/bits.deBruijn32tab", laid_math_bits_deBruijn32tab), ("math/bits.deBruijn64tab", laid_math_bits_deBruijn64tab), ("internal/strconv.uint64pow10", laid_internal_strconv_uint64pow10), ("oxbow/crc.halves", laid_oxbow_crc_halves)] }
def ShardDoesSaid : Prop := shardDoesRow.holds Tryz.pinned (OpenSpec.ofChange shardDoesSpec)

/-- ITS FALSE NEIGHBOUR: 'it returns false'. Refute it at one input. -/
def shardDoesWrong : ChangeSpec := { name := "shardDoes", fn := fun _ => fun
  | [d1, d2, d3, d4] => { results := [.lit (.bool false)], args := [d1, d2, d3, d4] }
  | _ => none }
def ShardDoesWrongFalsely : Prop := shardDoesRow.holds Tryz.pinned (OpenSpec.ofChange shardDoesWrong)

/-- 'oxbowlaw24.ShardNames': WHATEVER THE INPUT: true; the input reads as it did. -/
def shardNamesSpec : ChangeSpec := { name := "shardNames", fn := fun _ => fun
  | [d1, d2, d3, d4, d5] => { results := [.lit (.bool true)], args := [d1, d2, d3, d4, d5] }
  | _ => none }
def shardNamesRow : OpenClaim := { program := "ytafmabnolelknaagreatdoor", sum := "99b7f2bac2054387804b7816270b9574b4fcf75647e242cd409cc9a50378e3d4", func := "oxbow/oxbowlaw24.ShardNames", spec := "shardNames", unfollowed := true, recurses := true, named := ["internal/strconv.uint64pow10", "math/bits.deBruijn32tab", "math/bits.deBruijn64tab", "oxbow/crc.halves"], loops := true, plainKeys := false, apart := false, laid := [("math/bits.deBruijn32tab", laid_math_bits_deBruijn32tab), ("math/bits.deBruijn64tab", laid_math_bits_deBruijn64tab), ("internal/strconv.uint64pow10", laid_internal_strconv_uint64pow10), ("oxbow/crc.halves", laid_oxbow_crc_halves)] }
def ShardNamesSaid : Prop := shardNamesRow.holds Tryz.pinned (OpenSpec.ofChange shardNamesSpec)

/-- ITS FALSE NEIGHBOUR: 'it returns false'. Refute it at one input. -/
def shardNamesWrong : ChangeSpec := { name := "shardNames", fn := fun _ => fun
  | [d1, d2, d3, d4, d5] => { results := [.lit (.bool false)], args := [d1, d2, d3, d4, d5] }
  | _ => none }
def ShardNamesWrongFalsely : Prop := shardNamesRow.holds Tryz.pinned (OpenSpec.ofChange shardNamesWrong)

/-- 'oxbowlaw24.ShardNobody': WHATEVER THE INPUT: true; the input reads as it did. -/
def shardNobodySpec : ChangeSpec := { name := "shardNobody", fn := fun _ => fun
  | [d] => { results := [.lit (.bool true)], args := [d] }
  | _ => none }
def shardNobodyRow : OpenClaim := { program := "ytafmabnolelknaagreatdoor", sum := "99b7f2bac2054387804b7816270b9574b4fcf75647e242cd409cc9a50378e3d4", func := "oxbow/oxbowlaw24.ShardNobody", spec := "shardNobody", unfollowed := true, recurses := true, named := ["internal/strconv.uint64pow10", "math/bits.deBruijn32tab", "math/bits.deBruijn64tab", "oxbow/crc.halves"], plainKeys := false, apart := false, laid := [("math/bits.deBruijn32tab", laid_math_bits_deBruijn32tab), ("math/bits.deBruijn64tab", laid_math_bits_deBruijn64tab), ("internal/strconv.uint64pow10", laid_internal_strconv_uint64pow10), ("oxbow/crc.halves", laid_oxbow_crc_halves)] }
def ShardNobodySaid : Prop := shardNobodyRow.holds Tryz.pinned (OpenSpec.ofChange shardNobodySpec)

/-- ITS FALSE NEIGHBOUR: 'it returns false'. Refute it at one input. -/
def shardNobodyWrong : ChangeSpec := { name := "shardNobody", fn := fun _ => fun
  | [d] => { results := [.lit (.bool false)], args := [d] }
  | _ => none }
def ShardNobodyWrongFalsely : Prop := shardNobodyRow.holds Tryz.pinned (OpenSpec.ofChange shardNobodyWrong)

/-- 'oxbowlaw24.ShardLimits': WHATEVER THE INPUT: true; the input reads as it did. -/
def shardLimitsSpec : ChangeSpec := { name := "shardLimits", fn := fun _ => fun
  | [d1, d2, d3] => { results := [.lit (.bool true)], args := [d1, d2, d3] }
  | _ => none }
def shardLimitsRow : OpenClaim := { program := "ytafmabnolelknaagreatdoor", sum := "99b7f2bac2054387804b7816270b9574b4fcf75647e242cd409cc9a50378e3d4", func := "oxbow/oxbowlaw24.ShardLimits", spec := "shardLimits", unfollowed := true, recurses := true, named := ["internal/strconv.uint64pow10", "math/bits.deBruijn32tab", "math/bits.deBruijn64tab", "oxbow/crc.halves"], plainKeys := false, apart := false, laid := [("math/bits.deBruijn32tab", laid_math_bits_deBruijn32tab), ("math/bits.deBruijn64tab", laid_math_bits_deBruijn64tab), ("internal/strconv.uint64pow10", laid_internal_strconv_uint64pow10), ("oxbow/crc.halves", laid_oxbow_crc_halves)] }
def ShardLimitsSaid : Prop := shardLimitsRow.holds Tryz.pinned (OpenSpec.ofChange shardLimitsSpec)

/-- ITS FALSE NEIGHBOUR: 'it returns false'. Refute it at one input. -/
def shardLimitsWrong : ChangeSpec := { name := "shardLimits", fn := fun _ => fun
  | [d1, d2, d3] => { results := [.lit (.bool false)], args := [d1, d2, d3] }
  | _ => none }
def ShardLimitsWrongFalsely : Prop := shardLimitsRow.holds Tryz.pinned (OpenSpec.ofChange shardLimitsWrong)

/- THE SECOND FORM. 'bulk': how many values and letters a reading holds, each counted each time it is reached (what is shared counts as often as it is met; a slice's spare places count too). A statement '..UptoSaid' is the law's where the arguments, and the package variables that the reading takes, are together of bulk at most 1048576: NARROWER than '..Said'. Prove '..Said' where nothing that the law and all that it calls make is longer than what came in: it says more and counts as full. Else prove '..UptoSaid'. A law counts once. -/
mutual
def uptoBulk {H : Type} : DataW H → Nat
  | .lit (.string bytes) => bytes.length + 1
  | .lit _ => 1
  | .nil => 1
  | .ptr d => uptoBulk d + 1
  | .slice elems spare => uptoBulkAll elems + uptoBulkAll spare + 1
  | .agg parts => uptoBulkAll parts + 1
  | .iface _ d => uptoBulk d + 1
  | .map entries => uptoBulkEntries entries + 1
  | .held _ => 1
def uptoBulkAll {H : Type} : List (DataW H) → Nat
  | [] => 0
  | d :: r => uptoBulk d + uptoBulkAll r
def uptoBulkEntries {H : Type} : List (Lit × DataW H) → Nat
  | [] => 0
  | x :: r => uptoBulkEntry x + uptoBulkEntries r
def uptoBulkEntry {H : Type} : Lit × DataW H → Nat
  | (.string bytes, d) => bytes.length + uptoBulk d + 1
  | (_, d) => uptoBulk d + 1
 end
def uptoSmall : (H : Type) → List (DataW H) → Bool := fun _ ds => decide (uptoBulkAll ds ≤ 1048576)
def OpenSpec.upto (s : _root_.Go.ChangeSpec) : _root_.Go.OpenSpec := { _root_.Go.OpenSpec.ofChange s with cond := some uptoSmall }

/-- 'oxbowlaw13.StoreKeeps', WHERE WHAT IT READS IS OF BULK AT MOST 1048576: true; the input reads as it did. -/
def storeKeepsUptoRow : OpenClaim := { program := "ytafmabnolelknaagreatdoor", sum := "99b7f2bac2054387804b7816270b9574b4fcf75647e242cd409cc9a50378e3d4", func := "oxbow/oxbowlaw13.StoreKeeps", spec := "storeKeeps", unfollowed := true, recurses := true, named := ["internal/strconv.uint64pow10", "math/bits.deBruijn32tab", "math/bits.deBruijn64tab", "oxbow/crc.halves"], plainKeys := false, apart := false, laid := [("math/bits.deBruijn32tab", laid_math_bits_deBruijn32tab), ("math/bits.deBruijn64tab", laid_math_bits_deBruijn64tab), ("internal/strconv.uint64pow10", laid_internal_strconv_uint64pow10), ("oxbow/crc.halves", laid_oxbow_crc_halves)], narrowed := true }
def StoreKeepsUptoSaid : Prop := storeKeepsUptoRow.holds Tryz.pinned (OpenSpec.upto storeKeepsSpec)

/-- 'oxbowlaw13.StoreSpills', WHERE WHAT IT READS IS OF BULK AT MOST 1048576: true; the input reads as it did. -/
def storeSpillsUptoRow : OpenClaim := { program := "ytafmabnolelknaagreatdoor", sum := "99b7f2bac2054387804b7816270b9574b4fcf75647e242cd409cc9a50378e3d4", func := "oxbow/oxbowlaw13.StoreSpills", spec := "storeSpills", unfollowed := true, recurses := true, named := ["internal/strconv.uint64pow10", "math/bits.deBruijn32tab", "math/bits.deBruijn64tab", "oxbow/crc.halves"], plainKeys := false, apart := false, laid := [("math/bits.deBruijn32tab", laid_math_bits_deBruijn32tab), ("math/bits.deBruijn64tab", laid_math_bits_deBruijn64tab), ("internal/strconv.uint64pow10", laid_internal_strconv_uint64pow10), ("oxbow/crc.halves", laid_oxbow_crc_halves)], narrowed := true }
def StoreSpillsUptoSaid : Prop := storeSpillsUptoRow.holds Tryz.pinned (OpenSpec.upto storeSpillsSpec)

/-- 'oxbowlaw13.StoreNobody', WHERE WHAT IT READS IS OF BULK AT MOST 1048576: true; the input reads as it did. -/
def storeNobodyUptoRow : OpenClaim := { program := "ytafmabnolelknaagreatdoor", sum := "99b7f2bac2054387804b7816270b9574b4fcf75647e242cd409cc9a50378e3d4", func := "oxbow/oxbowlaw13.StoreNobody", spec := "storeNobody", unfollowed := true, recurses := true, named := ["oxbow/crc.halves", "internal/strconv.uint64pow10", "math/bits.deBruijn32tab", "math/bits.deBruijn64tab"], plainKeys := false, apart := false, laid := [("math/bits.deBruijn32tab", laid_math_bits_deBruijn32tab), ("math/bits.deBruijn64tab", laid_math_bits_deBruijn64tab), ("internal/strconv.uint64pow10", laid_internal_strconv_uint64pow10), ("oxbow/crc.halves", laid_oxbow_crc_halves)], narrowed := true }
def StoreNobodyUptoSaid : Prop := storeNobodyUptoRow.holds Tryz.pinned (OpenSpec.upto storeNobodySpec)

/-- 'oxbowlaw13.StoreAdopts', WHERE WHAT IT READS IS OF BULK AT MOST 1048576: true; the input reads as it did. -/
def storeAdoptsUptoRow : OpenClaim := { program := "ytafmabnolelknaagreatdoor", sum := "99b7f2bac2054387804b7816270b9574b4fcf75647e242cd409cc9a50378e3d4", func := "oxbow/oxbowlaw13.StoreAdopts", spec := "storeAdopts", unfollowed := true, recurses := true, named := ["internal/strconv.uint64pow10", "math/bits.deBruijn32tab", "math/bits.deBruijn64tab", "oxbow/crc.halves"], plainKeys := false, apart := false, laid := [("math/bits.deBruijn32tab", laid_math_bits_deBruijn32tab), ("math/bits.deBruijn64tab", laid_math_bits_deBruijn64tab), ("internal/strconv.uint64pow10", laid_internal_strconv_uint64pow10), ("oxbow/crc.halves", laid_oxbow_crc_halves)], narrowed := true }
def StoreAdoptsUptoSaid : Prop := storeAdoptsUptoRow.holds Tryz.pinned (OpenSpec.upto storeAdoptsSpec)

/-- 'oxbowlaw13.StoreRot', WHERE WHAT IT READS IS OF BULK AT MOST 1048576: true; the input reads as it did. -/
def storeRotUptoRow : OpenClaim := { program := "ytafmabnolelknaagreatdoor", sum := "99b7f2bac2054387804b7816270b9574b4fcf75647e242cd409cc9a50378e3d4", func := "oxbow/oxbowlaw13.StoreRot", spec := "storeRot", unfollowed := true, recurses := true, named := ["internal/strconv.uint64pow10", "math/bits.deBruijn32tab", "math/bits.deBruijn64tab", "oxbow/crc.halves"], plainKeys := false, apart := false, laid := [("math/bits.deBruijn32tab", laid_math_bits_deBruijn32tab), ("math/bits.deBruijn64tab", laid_math_bits_deBruijn64tab), ("internal/strconv.uint64pow10", laid_internal_strconv_uint64pow10), ("oxbow/crc.halves", laid_oxbow_crc_halves)], narrowed := true }
def StoreRotUptoSaid : Prop := storeRotUptoRow.holds Tryz.pinned (OpenSpec.upto storeRotSpec)

/-- 'oxbowlaw24.ShardDoes', WHERE WHAT IT READS IS OF BULK AT MOST 1048576: true; the input reads as it did. -/
def shardDoesUptoRow : OpenClaim := { program := "ytafmabnolelknaagreatdoor", sum := "99b7f2bac2054387804b7816270b9574b4fcf75647e242cd409cc9a50378e3d4", func := "oxbow/oxbowlaw24.ShardDoes", spec := "shardDoes", unfollowed := true, recurses := true, named := ["internal/strconv.uint64pow10", "math/bits.deBruijn32tab", "math/bits.deBruijn64tab", "oxbow/crc.halves"], loops := true, plainKeys := false, apart := false, laid := [("math/bits.deBruijn32tab", laid_math_bits_deBruijn32tab), ("math/bits.deBruijn64tab", laid_math_bits_deBruijn64tab), ("internal/strconv.uint64pow10", laid_internal_strconv_uint64pow10), ("oxbow/crc.halves", laid_oxbow_crc_halves)], narrowed := true }
def ShardDoesUptoSaid : Prop := shardDoesUptoRow.holds Tryz.pinned (OpenSpec.upto shardDoesSpec)

/-- 'oxbowlaw24.ShardNames', WHERE WHAT IT READS IS OF BULK AT MOST 1048576: true; the input reads as it did. -/
def shardNamesUptoRow : OpenClaim := { program := "ytafmabnolelknaagreatdoor", sum := "99b7f2bac2054387804b7816270b9574b4fcf75647e242cd409cc9a50378e3d4", func := "oxbow/oxbowlaw24.ShardNames", spec := "shardNames", unfollowed := true, recurses := true, named := ["internal/strconv.uint64pow10", "math/bits.deBruijn32tab", "math/bits.deBruijn64tab", "oxbow/crc.halves"], loops := true, plainKeys := false, apart := false, laid := [("math/bits.deBruijn32tab", laid_math_bits_deBruijn32tab), ("math/bits.deBruijn64tab", laid_math_bits_deBruijn64tab), ("internal/strconv.uint64pow10", laid_internal_strconv_uint64pow10), ("oxbow/crc.halves", laid_oxbow_crc_halves)], narrowed := true }
def ShardNamesUptoSaid : Prop := shardNamesUptoRow.holds Tryz.pinned (OpenSpec.upto shardNamesSpec)

/-- 'oxbowlaw24.ShardNobody', WHERE WHAT IT READS IS OF BULK AT MOST 1048576: true; the input reads as it did. -/
def shardNobodyUptoRow : OpenClaim := { program := "ytafmabnolelknaagreatdoor", sum := "99b7f2bac2054387804b7816270b9574b4fcf75647e242cd409cc9a50378e3d4", func := "oxbow/oxbowlaw24.ShardNobody", spec := "shardNobody", unfollowed := true, recurses := true, named := ["internal/strconv.uint64pow10", "math/bits.deBruijn32tab", "math/bits.deBruijn64tab", "oxbow/crc.halves"], plainKeys := false, apart := false, laid := [("math/bits.deBruijn32tab", laid_math_bits_deBruijn32tab), ("math/bits.deBruijn64tab", laid_math_bits_deBruijn64tab), ("internal/strconv.uint64pow10", laid_internal_strconv_uint64pow10), ("oxbow/crc.halves", laid_oxbow_crc_halves)], narrowed := true }
def ShardNobodyUptoSaid : Prop := shardNobodyUptoRow.holds Tryz.pinned (OpenSpec.upto shardNobodySpec)

/-- 'oxbowlaw24.ShardLimits', WHERE WHAT IT READS IS OF BULK AT MOST 1048576: true; the input reads as it did. -/
def shardLimitsUptoRow : OpenClaim := { program := "ytafmabnolelknaagreatdoor", sum := "99b7f2bac2054387804b7816270b9574b4fcf75647e242cd409cc9a50378e3d4", func := "oxbow/oxbowlaw24.ShardLimits", spec := "shardLimits", unfollowed := true, recurses := true, named := ["internal/strconv.uint64pow10", "math/bits.deBruijn32tab", "math/bits.deBruijn64tab", "oxbow/crc.halves"], plainKeys := false, apart := false, laid := [("math/bits.deBruijn32tab", laid_math_bits_deBruijn32tab), ("math/bits.deBruijn64tab", laid_math_bits_deBruijn64tab), ("internal/strconv.uint64pow10", laid_internal_strconv_uint64pow10), ("oxbow/crc.halves", laid_oxbow_crc_halves)], narrowed := true }
def ShardLimitsUptoSaid : Prop := shardLimitsUptoRow.holds Tryz.pinned (OpenSpec.upto shardLimitsSpec)

end Rows
end Go.Proofs.YtafmabnolelknaaGreatDoor
