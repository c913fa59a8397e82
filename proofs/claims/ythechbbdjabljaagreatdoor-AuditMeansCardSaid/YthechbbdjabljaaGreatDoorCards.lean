/-
  DERIVED. GIVEN WITH THE SEED: THE CARDS: each row of YthechbbdjabljaaGreatDoorRows.lean that lists a variable, with what it lists TIED to the program's text (the seventh form; the later family's looks); each row that meets fmt, with fmt's text TOLD by the authors' own Lean function (tested against real Go, not proved from fmt's source: count such statements apart). THE CARD IS WHAT COUNTS. Prove the row's statement (the work); the ties are given (YthechbbdjabljaaGreatDoorTie.lean); close each card by the builder's one call (the guide's Derived/Test/ToyasCard.lean, 'card_holds'). Laid BY PROGRAM, IN A SANDBOX (cutbox-door.mjs). By AI agents, Wed Nov 11 2026. No macro, syntax, notation, axiom, sorry.
-/
import Derived.Test.YthechbbdjabljaaGreatDoorRows
import GoSem.ClaimSeven
namespace Go.Proofs.YthechbbdjabljaaGreatDoor
namespace Rows

/-- THE TIED CARD OF 'oxbowlaw28.AuditMeans'. -/
def auditMeansCard : Claim7 := { stood := { row := auditMeansRow, standIns := [], harness := (true, "04af38e6d994046ee2a0ab266d455f3dc8f49c2954db86a729523a669ae50df8"), looks := false }, kinds := [], alts := [], laidByText := true, laidKinds := [.data, .data, .data, .data], laidTests := true, laidLooks := .later }
def AuditMeansCardSaid : Prop := Claim7.holds Tryz.pinned (.plain (OpenSpec.ofChange auditMeansSpec)) auditMeansCard

/-- THE SECOND FORM's CARD OF 'oxbowlaw28.AuditMeans'. -/
def auditMeansUptoCard : Claim7 := { stood := { row := auditMeansUptoRow, standIns := [], harness := (true, "04af38e6d994046ee2a0ab266d455f3dc8f49c2954db86a729523a669ae50df8"), looks := false }, kinds := [], alts := [], laidByText := true, laidKinds := [.data, .data, .data, .data], laidTests := true, laidLooks := .later }
def AuditMeansUptoCardSaid : Prop := Claim7.holds Tryz.pinned (.plain (OpenSpec.upto auditMeansSpec)) auditMeansUptoCard
end Rows
end Go.Proofs.YthechbbdjabljaaGreatDoor
