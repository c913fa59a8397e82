/-
  DERIVED. GIVEN WITH THE SEED: THE CARDS: each row of YtnglhicedhcpbaaGreatDoorRows.lean that lists a variable, with what it lists TIED to the program's text (the seventh form; the later family's looks); each row that meets fmt, with fmt's text TOLD by the authors' own Lean function (tested against real Go, not proved from fmt's source: count such statements apart). THE CARD IS WHAT COUNTS. Prove the row's statement (the work); the ties are given (YtnglhicedhcpbaaGreatDoorTie.lean); close each card by the builder's one call (the guide's Derived/Test/ToyasCard.lean, 'card_holds'). Laid BY PROGRAM, IN A SANDBOX (cutbox-door.mjs). By AI agents, Wed Nov 11 2026. No macro, syntax, notation, axiom, sorry.
-/
import Derived.Test.YtnglhicedhcpbaaGreatDoorRows
import GoSem.ClaimSeven
namespace Go.Proofs.YtnglhicedhcpbaaGreatDoor
namespace Rows

/-- THE TIED CARD OF 'oxbowlaw08.SegmentNobody'. -/
def segmentNobodyCard : Claim7 := { stood := { row := segmentNobodyRow, standIns := [], harness := (true, "167e363518a68182c5c761e88d2ab89c747fc052803a2d80bb731255294a9900"), looks := false }, kinds := [], alts := [], laidByText := true, laidKinds := [.data], laidTests := true, laidLooks := .later }
def SegmentNobodyCardSaid : Prop := Claim7.holds Tryz.pinned (.plain (OpenSpec.ofChange segmentNobodySpec)) segmentNobodyCard

/-- THE TIED CARD OF 'oxbowlaw15.ManifestRecovers'. -/
def manifestRecoversCard : Claim7 := { stood := { row := manifestRecoversRow, standIns := [], harness := (true, "167e363518a68182c5c761e88d2ab89c747fc052803a2d80bb731255294a9900"), looks := false }, kinds := [], alts := [], laidByText := true, laidKinds := [.data], laidTests := true, laidLooks := .later }
def ManifestRecoversCardSaid : Prop := Claim7.holds Tryz.pinned (.plain (OpenSpec.ofChange manifestRecoversSpec)) manifestRecoversCard

/-- THE TIED CARD OF 'oxbowlaw15.ManifestCleans'. -/
def manifestCleansCard : Claim7 := { stood := { row := manifestCleansRow, standIns := [], harness := (true, "167e363518a68182c5c761e88d2ab89c747fc052803a2d80bb731255294a9900"), looks := false }, kinds := [], alts := [], laidByText := true, laidKinds := [.data], laidTests := true, laidLooks := .later }
def ManifestCleansCardSaid : Prop := Claim7.holds Tryz.pinned (.plain (OpenSpec.ofChange manifestCleansSpec)) manifestCleansCard

/-- THE TIED CARD OF 'oxbowlaw15.ManifestNobody'. -/
def manifestNobodyCard : Claim7 := { stood := { row := manifestNobodyRow, standIns := [], harness := (true, "167e363518a68182c5c761e88d2ab89c747fc052803a2d80bb731255294a9900"), looks := false }, kinds := [], alts := [], laidByText := true, laidKinds := [.data], laidTests := true, laidLooks := .later }
def ManifestNobodyCardSaid : Prop := Claim7.holds Tryz.pinned (.plain (OpenSpec.ofChange manifestNobodySpec)) manifestNobodyCard

/-- THE TIED CARD OF 'oxbowlaw15.ManifestRenews'. -/
def manifestRenewsCard : Claim7 := { stood := { row := manifestRenewsRow, standIns := [], harness := (true, "167e363518a68182c5c761e88d2ab89c747fc052803a2d80bb731255294a9900"), looks := false }, kinds := [], alts := [], laidByText := true, laidKinds := [.data], laidTests := true, laidLooks := .later }
def ManifestRenewsCardSaid : Prop := Claim7.holds Tryz.pinned (.plain (OpenSpec.ofChange manifestRenewsSpec)) manifestRenewsCard

/-- THE TIED CARD OF 'oxbowlaw08.SegmentWrites'. -/
def segmentWritesCard : Claim7 := { stood := { row := segmentWritesRow, standIns := [], harness := (true, "167e363518a68182c5c761e88d2ab89c747fc052803a2d80bb731255294a9900"), looks := false }, kinds := [], alts := [], laidByText := true, laidKinds := [.data], laidTests := true, laidLooks := .later }
def SegmentWritesCardSaid : Prop := Claim7.holds Tryz.pinned (.plain (OpenSpec.ofChange segmentWritesSpec)) segmentWritesCard

/-- THE TIED CARD OF 'oxbowlaw08.SegmentBack'. -/
def segmentBackCard : Claim7 := { stood := { row := segmentBackRow, standIns := [], harness := (true, "167e363518a68182c5c761e88d2ab89c747fc052803a2d80bb731255294a9900"), looks := false }, kinds := [], alts := [], laidByText := true, laidKinds := [.data], laidTests := true, laidLooks := .later }
def SegmentBackCardSaid : Prop := Claim7.holds Tryz.pinned (.plain (OpenSpec.ofChange segmentBackSpec)) segmentBackCard

/-- THE TIED CARD OF 'oxbowlaw08.SegmentTurned'. -/
def segmentTurnedCard : Claim7 := { stood := { row := segmentTurnedRow, standIns := [], harness := (true, "167e363518a68182c5c761e88d2ab89c747fc052803a2d80bb731255294a9900"), looks := false }, kinds := [], alts := [], laidByText := true, laidKinds := [.data], laidTests := true, laidLooks := .later }
def SegmentTurnedCardSaid : Prop := Claim7.holds Tryz.pinned (.plain (OpenSpec.ofChange segmentTurnedSpec)) segmentTurnedCard

/-- THE TIED CARD OF 'oxbowlaw09.PoolKeeps'. -/
def poolKeepsCard : Claim7 := { stood := { row := poolKeepsRow, standIns := [], harness := (true, "167e363518a68182c5c761e88d2ab89c747fc052803a2d80bb731255294a9900"), looks := false }, kinds := [], alts := [], laidByText := true, laidKinds := [.data], laidTests := true, laidLooks := .later }
def PoolKeepsCardSaid : Prop := Claim7.holds Tryz.pinned (.plain (OpenSpec.ofChange poolKeepsSpec)) poolKeepsCard

/-- THE TIED CARD OF 'oxbowlaw09.PoolNobody'. -/
def poolNobodyCard : Claim7 := { stood := { row := poolNobodyRow, standIns := [], harness := (true, "167e363518a68182c5c761e88d2ab89c747fc052803a2d80bb731255294a9900"), looks := false }, kinds := [], alts := [], laidByText := true, laidKinds := [.data], laidTests := true, laidLooks := .later }
def PoolNobodyCardSaid : Prop := Claim7.holds Tryz.pinned (.plain (OpenSpec.ofChange poolNobodySpec)) poolNobodyCard

/-- THE TIED CARD OF 'oxbowlaw09.PoolCircles'. -/
def poolCirclesCard : Claim7 := { stood := { row := poolCirclesRow, standIns := [], harness := (true, "167e363518a68182c5c761e88d2ab89c747fc052803a2d80bb731255294a9900"), looks := false }, kinds := [], alts := [], laidByText := true, laidKinds := [.data], laidTests := true, laidLooks := .later }
def PoolCirclesCardSaid : Prop := Claim7.holds Tryz.pinned (.plain (OpenSpec.ofChange poolCirclesSpec)) poolCirclesCard

/-- THE TIED CARD OF 'oxbowlaw09.PoolDoes'. -/
def poolDoesCard : Claim7 := { stood := { row := poolDoesRow, standIns := [], harness := (true, "167e363518a68182c5c761e88d2ab89c747fc052803a2d80bb731255294a9900"), looks := false }, kinds := [], alts := [], laidByText := true, laidKinds := [.data], laidTests := true, laidLooks := .later }
def PoolDoesCardSaid : Prop := Claim7.holds Tryz.pinned (.plain (OpenSpec.ofChange poolDoesSpec)) poolDoesCard

/-- THE SECOND FORM's CARD OF 'oxbowlaw08.SegmentNobody'. -/
def segmentNobodyUptoCard : Claim7 := { stood := { row := segmentNobodyUptoRow, standIns := [], harness := (true, "167e363518a68182c5c761e88d2ab89c747fc052803a2d80bb731255294a9900"), looks := false }, kinds := [], alts := [], laidByText := true, laidKinds := [.data], laidTests := true, laidLooks := .later }
def SegmentNobodyUptoCardSaid : Prop := Claim7.holds Tryz.pinned (.plain (OpenSpec.upto segmentNobodySpec)) segmentNobodyUptoCard

/-- THE SECOND FORM's CARD OF 'oxbowlaw15.ManifestRecovers'. -/
def manifestRecoversUptoCard : Claim7 := { stood := { row := manifestRecoversUptoRow, standIns := [], harness := (true, "167e363518a68182c5c761e88d2ab89c747fc052803a2d80bb731255294a9900"), looks := false }, kinds := [], alts := [], laidByText := true, laidKinds := [.data], laidTests := true, laidLooks := .later }
def ManifestRecoversUptoCardSaid : Prop := Claim7.holds Tryz.pinned (.plain (OpenSpec.upto manifestRecoversSpec)) manifestRecoversUptoCard

/-- THE SECOND FORM's CARD OF 'oxbowlaw15.ManifestCleans'. -/
def manifestCleansUptoCard : Claim7 := { stood := { row := manifestCleansUptoRow, standIns := [], harness := (true, "167e363518a68182c5c761e88d2ab89c747fc052803a2d80bb731255294a9900"), looks := false }, kinds := [], alts := [], laidByText := true, laidKinds := [.data], laidTests := true, laidLooks := .later }
def ManifestCleansUptoCardSaid : Prop := Claim7.holds Tryz.pinned (.plain (OpenSpec.upto manifestCleansSpec)) manifestCleansUptoCard

/-- THE SECOND FORM's CARD OF 'oxbowlaw15.ManifestNobody'. -/
def manifestNobodyUptoCard : Claim7 := { stood := { row := manifestNobodyUptoRow, standIns := [], harness := (true, "167e363518a68182c5c761e88d2ab89c747fc052803a2d80bb731255294a9900"), looks := false }, kinds := [], alts := [], laidByText := true, laidKinds := [.data], laidTests := true, laidLooks := .later }
def ManifestNobodyUptoCardSaid : Prop := Claim7.holds Tryz.pinned (.plain (OpenSpec.upto manifestNobodySpec)) manifestNobodyUptoCard

/-- THE SECOND FORM's CARD OF 'oxbowlaw15.ManifestRenews'. -/
def manifestRenewsUptoCard : Claim7 := { stood := { row := manifestRenewsUptoRow, standIns := [], harness := (true, "167e363518a68182c5c761e88d2ab89c747fc052803a2d80bb731255294a9900"), looks := false }, kinds := [], alts := [], laidByText := true, laidKinds := [.data], laidTests := true, laidLooks := .later }
def ManifestRenewsUptoCardSaid : Prop := Claim7.holds Tryz.pinned (.plain (OpenSpec.upto manifestRenewsSpec)) manifestRenewsUptoCard

/-- THE SECOND FORM's CARD OF 'oxbowlaw08.SegmentWrites'. -/
def segmentWritesUptoCard : Claim7 := { stood := { row := segmentWritesUptoRow, standIns := [], harness := (true, "167e363518a68182c5c761e88d2ab89c747fc052803a2d80bb731255294a9900"), looks := false }, kinds := [], alts := [], laidByText := true, laidKinds := [.data], laidTests := true, laidLooks := .later }
def SegmentWritesUptoCardSaid : Prop := Claim7.holds Tryz.pinned (.plain (OpenSpec.upto segmentWritesSpec)) segmentWritesUptoCard

/-- THE SECOND FORM's CARD OF 'oxbowlaw08.SegmentBack'. -/
def segmentBackUptoCard : Claim7 := { stood := { row := segmentBackUptoRow, standIns := [], harness := (true, "167e363518a68182c5c761e88d2ab89c747fc052803a2d80bb731255294a9900"), looks := false }, kinds := [], alts := [], laidByText := true, laidKinds := [.data], laidTests := true, laidLooks := .later }
def SegmentBackUptoCardSaid : Prop := Claim7.holds Tryz.pinned (.plain (OpenSpec.upto segmentBackSpec)) segmentBackUptoCard

/-- THE SECOND FORM's CARD OF 'oxbowlaw08.SegmentTurned'. -/
def segmentTurnedUptoCard : Claim7 := { stood := { row := segmentTurnedUptoRow, standIns := [], harness := (true, "167e363518a68182c5c761e88d2ab89c747fc052803a2d80bb731255294a9900"), looks := false }, kinds := [], alts := [], laidByText := true, laidKinds := [.data], laidTests := true, laidLooks := .later }
def SegmentTurnedUptoCardSaid : Prop := Claim7.holds Tryz.pinned (.plain (OpenSpec.upto segmentTurnedSpec)) segmentTurnedUptoCard

/-- THE SECOND FORM's CARD OF 'oxbowlaw09.PoolKeeps'. -/
def poolKeepsUptoCard : Claim7 := { stood := { row := poolKeepsUptoRow, standIns := [], harness := (true, "167e363518a68182c5c761e88d2ab89c747fc052803a2d80bb731255294a9900"), looks := false }, kinds := [], alts := [], laidByText := true, laidKinds := [.data], laidTests := true, laidLooks := .later }
def PoolKeepsUptoCardSaid : Prop := Claim7.holds Tryz.pinned (.plain (OpenSpec.upto poolKeepsSpec)) poolKeepsUptoCard

/-- THE SECOND FORM's CARD OF 'oxbowlaw09.PoolNobody'. -/
def poolNobodyUptoCard : Claim7 := { stood := { row := poolNobodyUptoRow, standIns := [], harness := (true, "167e363518a68182c5c761e88d2ab89c747fc052803a2d80bb731255294a9900"), looks := false }, kinds := [], alts := [], laidByText := true, laidKinds := [.data], laidTests := true, laidLooks := .later }
def PoolNobodyUptoCardSaid : Prop := Claim7.holds Tryz.pinned (.plain (OpenSpec.upto poolNobodySpec)) poolNobodyUptoCard

/-- THE SECOND FORM's CARD OF 'oxbowlaw09.PoolCircles'. -/
def poolCirclesUptoCard : Claim7 := { stood := { row := poolCirclesUptoRow, standIns := [], harness := (true, "167e363518a68182c5c761e88d2ab89c747fc052803a2d80bb731255294a9900"), looks := false }, kinds := [], alts := [], laidByText := true, laidKinds := [.data], laidTests := true, laidLooks := .later }
def PoolCirclesUptoCardSaid : Prop := Claim7.holds Tryz.pinned (.plain (OpenSpec.upto poolCirclesSpec)) poolCirclesUptoCard

/-- THE SECOND FORM's CARD OF 'oxbowlaw09.PoolDoes'. -/
def poolDoesUptoCard : Claim7 := { stood := { row := poolDoesUptoRow, standIns := [], harness := (true, "167e363518a68182c5c761e88d2ab89c747fc052803a2d80bb731255294a9900"), looks := false }, kinds := [], alts := [], laidByText := true, laidKinds := [.data], laidTests := true, laidLooks := .later }
def PoolDoesUptoCardSaid : Prop := Claim7.holds Tryz.pinned (.plain (OpenSpec.upto poolDoesSpec)) poolDoesUptoCard
end Rows
end Go.Proofs.YtnglhicedhcpbaaGreatDoor
