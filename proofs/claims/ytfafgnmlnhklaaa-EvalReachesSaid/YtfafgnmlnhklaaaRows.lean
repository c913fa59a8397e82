/-
  NARROWER THAN 'FOR EVERY INPUT', by the rows' own cells (each row's printed sentence says how): OperShards: loops · OperCuts: loops · OperOrder: loops.
  DERIVED. THE GIVEN ROWS OF THIS SEAT. 6 by the template 'for every input the law returns true; each argument reads behind the call as it read before'; 0 by the template 'total and deterministic' (their statements: YtfafgnmlnhklaaaTotals.lean).
  GIVEN WITH THE SEED: the statements are not yours to turn. If you find one false, say at which input.
  Laid BY PROGRAM, IN A SANDBOX (cutbox-rows.mjs): the forced cells as the released guide's own fill.sh prints them over the translation 88a6f480abdea420… (all of the seat's roots in one cut). By AI agents, Wed Nov 11 2026. No macro, syntax, notation, axiom, sorry.
-/
import Derived.Test.YtfafgnmlnhklaaaChecked
import GoSem.Claim
import GoSem.ClaimJoined
import GoSem.ClaimMapViews
import Derived.JoinedTies
import Derived.KernelRfl
namespace Go.Proofs.Ytfafgnmlnhklaaa
/- THE CELL 'sum', in the pinned program and in every row, IS THE sha256 OF THE DUMP (.gsa) THAT YtfafgnmlnhklaaaProg.lean LOADS. Nothing in Lean hashes anything: it is a label: what it is worth is what the hold of that sum in a sandbox is worth. -/
noncomputable def Try.pinned : Pinned := { name := "ytfafgnmlnhklaaa", sum := "88a6f480abdea420d822e4494dc6e1bc2c97419a64f0fa7959b57422f9886eff", checked := Try.checked }
namespace Rows
def none {H : Type} : Left H := { results := [], args := [] }

/-- 'oxbowlaw19.EvalReaches': WHATEVER THE INPUT: true; the input reads as it did. -/
def evalReachesSpec : ChangeSpec := { name := "evalReaches", fn := fun _ => fun
  | [d1, d2] => { results := [.lit (.bool true)], args := [d1, d2] }
  | _ => none }
def evalReachesRow : OpenClaim := { program := "ytfafgnmlnhklaaa", sum := "88a6f480abdea420d822e4494dc6e1bc2c97419a64f0fa7959b57422f9886eff", func := "oxbow/oxbowlaw19.EvalReaches", spec := "evalReaches", unfollowed := true, recurses := true, apart := false }
def EvalReachesSaid : Prop := evalReachesRow.holds Try.pinned (OpenSpec.ofChange evalReachesSpec)

/-- ITS FALSE NEIGHBOUR: 'it returns false'. Refute it at one input. -/
def evalReachesWrong : ChangeSpec := { name := "evalReaches", fn := fun _ => fun
  | [d1, d2] => { results := [.lit (.bool false)], args := [d1, d2] }
  | _ => none }
def EvalReachesWrongFalsely : Prop := evalReachesRow.holds Try.pinned (OpenSpec.ofChange evalReachesWrong)

/-- 'oxbowlaw18.OperParts': WHATEVER THE INPUT: true; the input reads as it did. -/
def operPartsSpec : ChangeSpec := { name := "operParts", fn := fun _ => fun
  | [d1, d2] => { results := [.lit (.bool true)], args := [d1, d2] }
  | _ => none }
def operPartsRow : OpenClaim := { program := "ytfafgnmlnhklaaa", sum := "88a6f480abdea420d822e4494dc6e1bc2c97419a64f0fa7959b57422f9886eff", func := "oxbow/oxbowlaw18.OperParts", spec := "operParts", unfollowed := true, recurses := true, apart := false }
def OperPartsSaid : Prop := operPartsRow.holds Try.pinned (OpenSpec.ofChange operPartsSpec)

/-- ITS FALSE NEIGHBOUR: 'it returns false'. Refute it at one input. -/
def operPartsWrong : ChangeSpec := { name := "operParts", fn := fun _ => fun
  | [d1, d2] => { results := [.lit (.bool false)], args := [d1, d2] }
  | _ => none }
def OperPartsWrongFalsely : Prop := operPartsRow.holds Try.pinned (OpenSpec.ofChange operPartsWrong)

/-- 'oxbowlaw18.OperShards': WHATEVER THE INPUT: true; the input reads as it did. -/
def operShardsSpec : ChangeSpec := { name := "operShards", fn := fun _ => fun
  | [d1, d2, d3] => { results := [.lit (.bool true)], args := [d1, d2, d3] }
  | _ => none }
def operShardsRow : OpenClaim := { program := "ytfafgnmlnhklaaa", sum := "88a6f480abdea420d822e4494dc6e1bc2c97419a64f0fa7959b57422f9886eff", func := "oxbow/oxbowlaw18.OperShards", spec := "operShards", unfollowed := true, recurses := true, loops := true, apart := false }
def OperShardsSaid : Prop := operShardsRow.holds Try.pinned (OpenSpec.ofChange operShardsSpec)

/-- ITS FALSE NEIGHBOUR: 'it returns false'. Refute it at one input. -/
def operShardsWrong : ChangeSpec := { name := "operShards", fn := fun _ => fun
  | [d1, d2, d3] => { results := [.lit (.bool false)], args := [d1, d2, d3] }
  | _ => none }
def OperShardsWrongFalsely : Prop := operShardsRow.holds Try.pinned (OpenSpec.ofChange operShardsWrong)

/-- 'oxbowlaw18.OperCuts': WHATEVER THE INPUT: true; the input reads as it did. -/
def operCutsSpec : ChangeSpec := { name := "operCuts", fn := fun _ => fun
  | [d1, d2, d3] => { results := [.lit (.bool true)], args := [d1, d2, d3] }
  | _ => none }
def operCutsRow : OpenClaim := { program := "ytfafgnmlnhklaaa", sum := "88a6f480abdea420d822e4494dc6e1bc2c97419a64f0fa7959b57422f9886eff", func := "oxbow/oxbowlaw18.OperCuts", spec := "operCuts", unfollowed := true, recurses := true, loops := true, apart := false }
def OperCutsSaid : Prop := operCutsRow.holds Try.pinned (OpenSpec.ofChange operCutsSpec)

/-- ITS FALSE NEIGHBOUR: 'it returns false'. Refute it at one input. -/
def operCutsWrong : ChangeSpec := { name := "operCuts", fn := fun _ => fun
  | [d1, d2, d3] => { results := [.lit (.bool false)], args := [d1, d2, d3] }
  | _ => none }
def OperCutsWrongFalsely : Prop := operCutsRow.holds Try.pinned (OpenSpec.ofChange operCutsWrong)

/-- 'oxbowlaw18.OperOrder': WHATEVER THE INPUT: true; the input reads as it did. -/
def operOrderSpec : ChangeSpec := { name := "operOrder", fn := fun _ => fun
  | [d1, d2] => { results := [.lit (.bool true)], args := [d1, d2] }
  | _ => none }
def operOrderRow : OpenClaim := { program := "ytfafgnmlnhklaaa", sum := "88a6f480abdea420d822e4494dc6e1bc2c97419a64f0fa7959b57422f9886eff", func := "oxbow/oxbowlaw18.OperOrder", spec := "operOrder", unfollowed := true, recurses := true, loops := true, apart := false }
def OperOrderSaid : Prop := operOrderRow.holds Try.pinned (OpenSpec.ofChange operOrderSpec)

/-- ITS FALSE NEIGHBOUR: 'it returns false'. Refute it at one input. -/
def operOrderWrong : ChangeSpec := { name := "operOrder", fn := fun _ => fun
  | [d1, d2] => { results := [.lit (.bool false)], args := [d1, d2] }
  | _ => none }
def OperOrderWrongFalsely : Prop := operOrderRow.holds Try.pinned (OpenSpec.ofChange operOrderWrong)

/-- 'oxbowlaw18.OperOnce': WHATEVER THE INPUT: true; the input reads as it did. -/
def operOnceSpec : ChangeSpec := { name := "operOnce", fn := fun _ => fun
  | [d1, d2] => { results := [.lit (.bool true)], args := [d1, d2] }
  | _ => none }
def operOnceRow : OpenClaim := { program := "ytfafgnmlnhklaaa", sum := "88a6f480abdea420d822e4494dc6e1bc2c97419a64f0fa7959b57422f9886eff", func := "oxbow/oxbowlaw18.OperOnce", spec := "operOnce", unfollowed := true, recurses := true, apart := false }
def OperOnceSaid : Prop := operOnceRow.holds Try.pinned (OpenSpec.ofChange operOnceSpec)

/-- ITS FALSE NEIGHBOUR: 'it returns false'. Refute it at one input. -/
def operOnceWrong : ChangeSpec := { name := "operOnce", fn := fun _ => fun
  | [d1, d2] => { results := [.lit (.bool false)], args := [d1, d2] }
  | _ => none }
def OperOnceWrongFalsely : Prop := operOnceRow.holds Try.pinned (OpenSpec.ofChange operOnceWrong)

/- THE SECOND FORM. 'bulk': how many values and letters a reading holds, each counted each time it is reached (what is shared counts as often as it is met; a slice's spare places count too). A statement '..UptoSaid' is the law's where the arguments, and the package variables that the reading takes, are together of bulk at most 1048576: NARROWER than '..Said'. Prove '..Said' where nothing that the law and all that it calls make is longer than what came in: it says more and counts as full. Else prove '..UptoSaid'. A law counts once. -/
mutual
def uptoBulk {H : Type} : DataW H → Nat
  | .lit (.string bytes) => bytes.length + 1
  | .lit _ => 1
  | .nil => 1
  | .ptr d => uptoBulk d + 1
  | .slice elems spare => uptoBulkAll elems + uptoBulkAll spare + 1
  | .agg parts => uptoBulkAll parts + 1
  | .iface _ d => uptoBulk d + 1
  | .map entries => uptoBulkEntries entries + 1
  | .held _ => 1
def uptoBulkAll {H : Type} : List (DataW H) → Nat
  | [] => 0
  | d :: r => uptoBulk d + uptoBulkAll r
def uptoBulkEntries {H : Type} : List (Lit × DataW H) → Nat
  | [] => 0
  | x :: r => uptoBulkEntry x + uptoBulkEntries r
def uptoBulkEntry {H : Type} : Lit × DataW H → Nat
  | (.string bytes, d) => bytes.length + uptoBulk d + 1
  | (_, d) => uptoBulk d + 1
 end
def uptoSmall : (H : Type) → List (DataW H) → Bool := fun _ ds => decide (uptoBulkAll ds ≤ 1048576)
def OpenSpec.upto (s : _root_.Go.ChangeSpec) : _root_.Go.OpenSpec := { _root_.Go.OpenSpec.ofChange s with cond := some uptoSmall }

/-- 'oxbowlaw19.EvalReaches', WHERE WHAT IT READS IS OF BULK AT MOST 1048576: true; the input reads as it did. -/
def evalReachesUptoRow : OpenClaim := { program := "ytfafgnmlnhklaaa", sum := "88a6f480abdea420d822e4494dc6e1bc2c97419a64f0fa7959b57422f9886eff", func := "oxbow/oxbowlaw19.EvalReaches", spec := "evalReaches", unfollowed := true, recurses := true, apart := false, narrowed := true }
def EvalReachesUptoSaid : Prop := evalReachesUptoRow.holds Try.pinned (OpenSpec.upto evalReachesSpec)

/-- 'oxbowlaw18.OperParts', WHERE WHAT IT READS IS OF BULK AT MOST 1048576: true; the input reads as it did. -/
def operPartsUptoRow : OpenClaim := { program := "ytfafgnmlnhklaaa", sum := "88a6f480abdea420d822e4494dc6e1bc2c97419a64f0fa7959b57422f9886eff", func := "oxbow/oxbowlaw18.OperParts", spec := "operParts", unfollowed := true, recurses := true, apart := false, narrowed := true }
def OperPartsUptoSaid : Prop := operPartsUptoRow.holds Try.pinned (OpenSpec.upto operPartsSpec)

/-- 'oxbowlaw18.OperShards', WHERE WHAT IT READS IS OF BULK AT MOST 1048576: true; the input reads as it did. -/
def operShardsUptoRow : OpenClaim := { program := "ytfafgnmlnhklaaa", sum := "88a6f480abdea420d822e4494dc6e1bc2c97419a64f0fa7959b57422f9886eff", func := "oxbow/oxbowlaw18.OperShards", spec := "operShards", unfollowed := true, recurses := true, loops := true, apart := false, narrowed := true }
def OperShardsUptoSaid : Prop := operShardsUptoRow.holds Try.pinned (OpenSpec.upto operShardsSpec)

/-- 'oxbowlaw18.OperCuts', WHERE WHAT IT READS IS OF BULK AT MOST 1048576: true; the input reads as it did. -/
def operCutsUptoRow : OpenClaim := { program := "ytfafgnmlnhklaaa", sum := "88a6f480abdea420d822e4494dc6e1bc2c97419a64f0fa7959b57422f9886eff", func := "oxbow/oxbowlaw18.OperCuts", spec := "operCuts", unfollowed := true, recurses := true, loops := true, apart := false, narrowed := true }
def OperCutsUptoSaid : Prop := operCutsUptoRow.holds Try.pinned (OpenSpec.upto operCutsSpec)

/-- 'oxbowlaw18.OperOrder', WHERE WHAT IT READS IS OF BULK AT MOST 1048576: true; the input reads as it did. -/
def operOrderUptoRow : OpenClaim := { program := "ytfafgnmlnhklaaa", sum := "88a6f480abdea420d822e4494dc6e1bc2c97419a64f0fa7959b57422f9886eff", func := "oxbow/oxbowlaw18.OperOrder", spec := "operOrder", unfollowed := true, recurses := true, loops := true, apart := false, narrowed := true }
def OperOrderUptoSaid : Prop := operOrderUptoRow.holds Try.pinned (OpenSpec.upto operOrderSpec)

/-- 'oxbowlaw18.OperOnce', WHERE WHAT IT READS IS OF BULK AT MOST 1048576: true; the input reads as it did. -/
def operOnceUptoRow : OpenClaim := { program := "ytfafgnmlnhklaaa", sum := "88a6f480abdea420d822e4494dc6e1bc2c97419a64f0fa7959b57422f9886eff", func := "oxbow/oxbowlaw18.OperOnce", spec := "operOnce", unfollowed := true, recurses := true, apart := false, narrowed := true }
def OperOnceUptoSaid : Prop := operOnceUptoRow.holds Try.pinned (OpenSpec.upto operOnceSpec)

end Rows
end Go.Proofs.Ytfafgnmlnhklaaa
