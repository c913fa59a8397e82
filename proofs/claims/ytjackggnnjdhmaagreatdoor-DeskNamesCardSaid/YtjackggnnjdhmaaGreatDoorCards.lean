/-
  DERIVED. GIVEN WITH THE SEED: THE CARDS: each row of YtjackggnnjdhmaaGreatDoorRows.lean that lists a variable, with what it lists TIED to the program's text (the seventh form; the later family's looks); each row that meets fmt, with fmt's text TOLD by the authors' own Lean function (tested against real Go, not proved from fmt's source: count such statements apart). THE CARD IS WHAT COUNTS. Prove the row's statement (the work); the ties are given (YtjackggnnjdhmaaGreatDoorTie.lean); close each card by the builder's one call (the guide's Derived/Test/ToyasCard.lean, 'card_holds'). Laid BY PROGRAM, IN A SANDBOX (cutbox-door.mjs). By AI agents, Wed Nov 11 2026. No macro, syntax, notation, axiom, sorry.
-/
import Derived.Test.YtjackggnnjdhmaaGreatDoorRows
import GoSem.ClaimSeven
namespace Go.Proofs.YtjackggnnjdhmaaGreatDoor
namespace Rows

/-- THE TIED CARD OF 'oxbowtop.TopNames'. -/
def topNamesCard : Claim7 := { stood := { row := topNamesRow, standIns := [], harness := (true, "40381def2742567bc3a9cc1c54b9a4c9b41f5d6dd63baaf5fe68423d58e14348"), looks := true }, kinds := [], alts := [], laidByText := true, laidKinds := [.data, .data, .data, .data], laidTests := true, laidLooks := .later }
def TopNamesCardSaid : Prop := Claim7.holds Tryz.pinned (.plain (OpenSpec.ofChange topNamesSpec)) topNamesCard

/-- THE TIED CARD OF 'oxbowlaw30.DeskNames'. -/
def deskNamesCard : Claim7 := { stood := { row := deskNamesRow, standIns := [], harness := (true, "40381def2742567bc3a9cc1c54b9a4c9b41f5d6dd63baaf5fe68423d58e14348"), looks := true }, kinds := [], alts := [], laidByText := true, laidKinds := [.data, .data, .data, .data, .pinned, .data], laidTests := true, laidLooks := .later }
def DeskNamesCardSaid : Prop := Claim7.holds Tryz.pinned (.plain (OpenSpec.ofChange deskNamesSpec)) deskNamesCard

/-- THE TIED CARD OF 'oxbowlaw30.DeskNobody'. -/
def deskNobodyCard : Claim7 := { stood := { row := deskNobodyRow, standIns := [], harness := (true, "40381def2742567bc3a9cc1c54b9a4c9b41f5d6dd63baaf5fe68423d58e14348"), looks := true }, kinds := [], alts := [], laidByText := true, laidKinds := [.data, .data, .data, .data, .pinned, .data], laidTests := true, laidLooks := .later }
def DeskNobodyCardSaid : Prop := Claim7.holds Tryz.pinned (.plain (OpenSpec.ofChange deskNobodySpec)) deskNobodyCard

/-- THE SECOND FORM's CARD OF 'oxbowtop.TopNames'. -/
def topNamesUptoCard : Claim7 := { stood := { row := topNamesUptoRow, standIns := [], harness := (true, "40381def2742567bc3a9cc1c54b9a4c9b41f5d6dd63baaf5fe68423d58e14348"), looks := true }, kinds := [], alts := [], laidByText := true, laidKinds := [.data, .data, .data, .data], laidTests := true, laidLooks := .later }
def TopNamesUptoCardSaid : Prop := Claim7.holds Tryz.pinned (.plain (OpenSpec.upto topNamesSpec)) topNamesUptoCard

/-- THE SECOND FORM's CARD OF 'oxbowlaw30.DeskNames'. -/
def deskNamesUptoCard : Claim7 := { stood := { row := deskNamesUptoRow, standIns := [], harness := (true, "40381def2742567bc3a9cc1c54b9a4c9b41f5d6dd63baaf5fe68423d58e14348"), looks := true }, kinds := [], alts := [], laidByText := true, laidKinds := [.data, .data, .data, .data, .pinned, .data], laidTests := true, laidLooks := .later }
def DeskNamesUptoCardSaid : Prop := Claim7.holds Tryz.pinned (.plain (OpenSpec.upto deskNamesSpec)) deskNamesUptoCard

/-- THE SECOND FORM's CARD OF 'oxbowlaw30.DeskNobody'. -/
def deskNobodyUptoCard : Claim7 := { stood := { row := deskNobodyUptoRow, standIns := [], harness := (true, "40381def2742567bc3a9cc1c54b9a4c9b41f5d6dd63baaf5fe68423d58e14348"), looks := true }, kinds := [], alts := [], laidByText := true, laidKinds := [.data, .data, .data, .data, .pinned, .data], laidTests := true, laidLooks := .later }
def DeskNobodyUptoCardSaid : Prop := Claim7.holds Tryz.pinned (.plain (OpenSpec.upto deskNobodySpec)) deskNobodyUptoCard
end Rows
end Go.Proofs.YtjackggnnjdhmaaGreatDoor
