/-
  DERIVED. GIVEN WITH THE SEED: THE CARDS: each row of YtankijamfedliaaGreatDoorRows.lean that lists a variable, with what it lists TIED to the program's text (the seventh form; the later family's looks); each row that meets fmt, with fmt's text TOLD by the authors' own Lean function (tested against real Go, not proved from fmt's source: count such statements apart). THE CARD IS WHAT COUNTS. Prove the row's statement (the work); the ties are given (YtankijamfedliaaGreatDoorTie.lean); close each card by the builder's one call (the guide's Derived/Test/ToyasCard.lean, 'card_holds'). Laid BY PROGRAM, IN A SANDBOX (cutbox-door.mjs). By AI agents, Wed Nov 11 2026. No macro, syntax, notation, axiom, sorry.
-/
import Derived.Test.YtankijamfedliaaGreatDoorRows
import GoSem.ClaimSeven
namespace Go.Proofs.YtankijamfedliaaGreatDoor
namespace Rows

/-- THE TIED CARD OF 'oxbowlaw10.CursorTells'. -/
def cursorTellsCard : Claim7 := { stood := { row := cursorTellsRow, standIns := [], harness := (true, "18365f5a93ff598673c21bc59ddc5742b661c98bd67e498692b9d0eab22a8e53"), looks := false }, kinds := [], alts := [], laidByText := true, laidKinds := [.data], laidTests := true, laidLooks := .later }
def CursorTellsCardSaid : Prop := Claim7.holds Tryz.pinned (.plain (OpenSpec.ofChange cursorTellsSpec)) cursorTellsCard

/-- THE TIED CARD OF 'oxbowlaw10.CursorCloses'. -/
def cursorClosesCard : Claim7 := { stood := { row := cursorClosesRow, standIns := [], harness := (true, "18365f5a93ff598673c21bc59ddc5742b661c98bd67e498692b9d0eab22a8e53"), looks := false }, kinds := [], alts := [], laidByText := true, laidKinds := [.data], laidTests := true, laidLooks := .later }
def CursorClosesCardSaid : Prop := Claim7.holds Tryz.pinned (.plain (OpenSpec.ofChange cursorClosesSpec)) cursorClosesCard

/-- THE TIED CARD OF 'oxbowlaw10.CursorPinned'. -/
def cursorPinnedCard : Claim7 := { stood := { row := cursorPinnedRow, standIns := [], harness := (true, "18365f5a93ff598673c21bc59ddc5742b661c98bd67e498692b9d0eab22a8e53"), looks := false }, kinds := [], alts := [], laidByText := true, laidKinds := [.data], laidTests := true, laidLooks := .later }
def CursorPinnedCardSaid : Prop := Claim7.holds Tryz.pinned (.plain (OpenSpec.ofChange cursorPinnedSpec)) cursorPinnedCard

/-- THE TIED CARD OF 'oxbowlaw10.CursorRot'. -/
def cursorRotCard : Claim7 := { stood := { row := cursorRotRow, standIns := [], harness := (true, "18365f5a93ff598673c21bc59ddc5742b661c98bd67e498692b9d0eab22a8e53"), looks := false }, kinds := [], alts := [], laidByText := true, laidKinds := [.data], laidTests := true, laidLooks := .later }
def CursorRotCardSaid : Prop := Claim7.holds Tryz.pinned (.plain (OpenSpec.ofChange cursorRotSpec)) cursorRotCard

/-- THE TIED CARD OF 'oxbowlaw11.MergeCursors'. -/
def mergeCursorsCard : Claim7 := { stood := { row := mergeCursorsRow, standIns := [], harness := (true, "18365f5a93ff598673c21bc59ddc5742b661c98bd67e498692b9d0eab22a8e53"), looks := false }, kinds := [], alts := [], laidByText := true, laidKinds := [.data], laidTests := true, laidLooks := .later }
def MergeCursorsCardSaid : Prop := Claim7.holds Tryz.pinned (.plain (OpenSpec.ofChange mergeCursorsSpec)) mergeCursorsCard

/-- THE TIED CARD OF 'oxbowlaw11.MergeRot'. -/
def mergeRotCard : Claim7 := { stood := { row := mergeRotRow, standIns := [], harness := (true, "18365f5a93ff598673c21bc59ddc5742b661c98bd67e498692b9d0eab22a8e53"), looks := false }, kinds := [], alts := [], laidByText := true, laidKinds := [.data], laidTests := true, laidLooks := .later }
def MergeRotCardSaid : Prop := Claim7.holds Tryz.pinned (.plain (OpenSpec.ofChange mergeRotSpec)) mergeRotCard

/-- THE SECOND FORM's CARD OF 'oxbowlaw10.CursorTells'. -/
def cursorTellsUptoCard : Claim7 := { stood := { row := cursorTellsUptoRow, standIns := [], harness := (true, "18365f5a93ff598673c21bc59ddc5742b661c98bd67e498692b9d0eab22a8e53"), looks := false }, kinds := [], alts := [], laidByText := true, laidKinds := [.data], laidTests := true, laidLooks := .later }
def CursorTellsUptoCardSaid : Prop := Claim7.holds Tryz.pinned (.plain (OpenSpec.upto cursorTellsSpec)) cursorTellsUptoCard

/-- THE SECOND FORM's CARD OF 'oxbowlaw10.CursorCloses'. -/
def cursorClosesUptoCard : Claim7 := { stood := { row := cursorClosesUptoRow, standIns := [], harness := (true, "18365f5a93ff598673c21bc59ddc5742b661c98bd67e498692b9d0eab22a8e53"), looks := false }, kinds := [], alts := [], laidByText := true, laidKinds := [.data], laidTests := true, laidLooks := .later }
def CursorClosesUptoCardSaid : Prop := Claim7.holds Tryz.pinned (.plain (OpenSpec.upto cursorClosesSpec)) cursorClosesUptoCard

/-- THE SECOND FORM's CARD OF 'oxbowlaw10.CursorPinned'. -/
def cursorPinnedUptoCard : Claim7 := { stood := { row := cursorPinnedUptoRow, standIns := [], harness := (true, "18365f5a93ff598673c21bc59ddc5742b661c98bd67e498692b9d0eab22a8e53"), looks := false }, kinds := [], alts := [], laidByText := true, laidKinds := [.data], laidTests := true, laidLooks := .later }
def CursorPinnedUptoCardSaid : Prop := Claim7.holds Tryz.pinned (.plain (OpenSpec.upto cursorPinnedSpec)) cursorPinnedUptoCard

/-- THE SECOND FORM's CARD OF 'oxbowlaw10.CursorRot'. -/
def cursorRotUptoCard : Claim7 := { stood := { row := cursorRotUptoRow, standIns := [], harness := (true, "18365f5a93ff598673c21bc59ddc5742b661c98bd67e498692b9d0eab22a8e53"), looks := false }, kinds := [], alts := [], laidByText := true, laidKinds := [.data], laidTests := true, laidLooks := .later }
def CursorRotUptoCardSaid : Prop := Claim7.holds Tryz.pinned (.plain (OpenSpec.upto cursorRotSpec)) cursorRotUptoCard

/-- THE SECOND FORM's CARD OF 'oxbowlaw11.MergeCursors'. -/
def mergeCursorsUptoCard : Claim7 := { stood := { row := mergeCursorsUptoRow, standIns := [], harness := (true, "18365f5a93ff598673c21bc59ddc5742b661c98bd67e498692b9d0eab22a8e53"), looks := false }, kinds := [], alts := [], laidByText := true, laidKinds := [.data], laidTests := true, laidLooks := .later }
def MergeCursorsUptoCardSaid : Prop := Claim7.holds Tryz.pinned (.plain (OpenSpec.upto mergeCursorsSpec)) mergeCursorsUptoCard

/-- THE SECOND FORM's CARD OF 'oxbowlaw11.MergeRot'. -/
def mergeRotUptoCard : Claim7 := { stood := { row := mergeRotUptoRow, standIns := [], harness := (true, "18365f5a93ff598673c21bc59ddc5742b661c98bd67e498692b9d0eab22a8e53"), looks := false }, kinds := [], alts := [], laidByText := true, laidKinds := [.data], laidTests := true, laidLooks := .later }
def MergeRotUptoCardSaid : Prop := Claim7.holds Tryz.pinned (.plain (OpenSpec.upto mergeRotSpec)) mergeRotUptoCard
end Rows
end Go.Proofs.YtankijamfedliaaGreatDoor
