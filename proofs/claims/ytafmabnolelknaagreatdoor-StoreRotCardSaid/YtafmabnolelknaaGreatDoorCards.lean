/-
  DERIVED. GIVEN WITH THE SEED: THE CARDS: each row of YtafmabnolelknaaGreatDoorRows.lean that lists a variable, with what it lists TIED to the program's text (the seventh form; the later family's looks); each row that meets fmt, with fmt's text TOLD by the authors' own Lean function (tested against real Go, not proved from fmt's source: count such statements apart). THE CARD IS WHAT COUNTS. Prove the row's statement (the work); the ties are given (YtafmabnolelknaaGreatDoorTie.lean); close each card by the builder's one call (the guide's Derived/Test/ToyasCard.lean, 'card_holds'). Laid BY PROGRAM, IN A SANDBOX (cutbox-door.mjs). By AI agents, Wed Nov 11 2026. No macro, syntax, notation, axiom, sorry.
-/
import Derived.Test.YtafmabnolelknaaGreatDoorRows
import GoSem.ClaimSeven
namespace Go.Proofs.YtafmabnolelknaaGreatDoor
namespace Rows

/-- THE TIED CARD OF 'oxbowlaw13.StoreKeeps'. -/
def storeKeepsCard : Claim7 := { stood := { row := storeKeepsRow, standIns := [], harness := (true, "a135674dfacc129f112544c4b8fa39b787132e786b4bf04053af45495352e943"), looks := false }, kinds := [], alts := [], laidByText := true, laidKinds := [.data, .data, .data, .data], laidTests := true, laidLooks := .later }
def StoreKeepsCardSaid : Prop := Claim7.holds Tryz.pinned (.plain (OpenSpec.ofChange storeKeepsSpec)) storeKeepsCard

/-- THE TIED CARD OF 'oxbowlaw13.StoreSpills'. -/
def storeSpillsCard : Claim7 := { stood := { row := storeSpillsRow, standIns := [], harness := (true, "a135674dfacc129f112544c4b8fa39b787132e786b4bf04053af45495352e943"), looks := false }, kinds := [], alts := [], laidByText := true, laidKinds := [.data, .data, .data, .data], laidTests := true, laidLooks := .later }
def StoreSpillsCardSaid : Prop := Claim7.holds Tryz.pinned (.plain (OpenSpec.ofChange storeSpillsSpec)) storeSpillsCard

/-- THE TIED CARD OF 'oxbowlaw13.StoreNobody'. -/
def storeNobodyCard : Claim7 := { stood := { row := storeNobodyRow, standIns := [], harness := (true, "a135674dfacc129f112544c4b8fa39b787132e786b4bf04053af45495352e943"), looks := false }, kinds := [], alts := [], laidByText := true, laidKinds := [.data, .data, .data, .data], laidTests := true, laidLooks := .later }
def StoreNobodyCardSaid : Prop := Claim7.holds Tryz.pinned (.plain (OpenSpec.ofChange storeNobodySpec)) storeNobodyCard

/-- THE TIED CARD OF 'oxbowlaw13.StoreAdopts'. -/
def storeAdoptsCard : Claim7 := { stood := { row := storeAdoptsRow, standIns := [], harness := (true, "a135674dfacc129f112544c4b8fa39b787132e786b4bf04053af45495352e943"), looks := false }, kinds := [], alts := [], laidByText := true, laidKinds := [.data, .data, .data, .data], laidTests := true, laidLooks := .later }
def StoreAdoptsCardSaid : Prop := Claim7.holds Tryz.pinned (.plain (OpenSpec.ofChange storeAdoptsSpec)) storeAdoptsCard

/-- THE TIED CARD OF 'oxbowlaw13.StoreRot'. -/
def storeRotCard : Claim7 := { stood := { row := storeRotRow, standIns := [], harness := (true, "a135674dfacc129f112544c4b8fa39b787132e786b4bf04053af45495352e943"), looks := false }, kinds := [], alts := [], laidByText := true, laidKinds := [.data, .data, .data, .data], laidTests := true, laidLooks := .later }
def StoreRotCardSaid : Prop := Claim7.holds Tryz.pinned (.plain (OpenSpec.ofChange storeRotSpec)) storeRotCard

/-- THE TIED CARD OF 'oxbowlaw24.ShardDoes'. -/
def shardDoesCard : Claim7 := { stood := { row := shardDoesRow, standIns := [], harness := (true, "a135674dfacc129f112544c4b8fa39b787132e786b4bf04053af45495352e943"), looks := false }, kinds := [], alts := [], laidByText := true, laidKinds := [.data, .data, .data, .data], laidTests := true, laidLooks := .later }
def ShardDoesCardSaid : Prop := Claim7.holds Tryz.pinned (.plain (OpenSpec.ofChange shardDoesSpec)) shardDoesCard

/-- THE TIED CARD OF 'oxbowlaw24.ShardNames'. -/
def shardNamesCard : Claim7 := { stood := { row := shardNamesRow, standIns := [], harness := (true, "a135674dfacc129f112544c4b8fa39b787132e786b4bf04053af45495352e943"), looks := false }, kinds := [], alts := [], laidByText := true, laidKinds := [.data, .data, .data, .data], laidTests := true, laidLooks := .later }
def ShardNamesCardSaid : Prop := Claim7.holds Tryz.pinned (.plain (OpenSpec.ofChange shardNamesSpec)) shardNamesCard

/-- THE TIED CARD OF 'oxbowlaw24.ShardNobody'. -/
def shardNobodyCard : Claim7 := { stood := { row := shardNobodyRow, standIns := [], harness := (true, "a135674dfacc129f112544c4b8fa39b787132e786b4bf04053af45495352e943"), looks := false }, kinds := [], alts := [], laidByText := true, laidKinds := [.data, .data, .data, .data], laidTests := true, laidLooks := .later }
def ShardNobodyCardSaid : Prop := Claim7.holds Tryz.pinned (.plain (OpenSpec.ofChange shardNobodySpec)) shardNobodyCard

/-- THE TIED CARD OF 'oxbowlaw24.ShardLimits'. -/
def shardLimitsCard : Claim7 := { stood := { row := shardLimitsRow, standIns := [], harness := (true, "a135674dfacc129f112544c4b8fa39b787132e786b4bf04053af45495352e943"), looks := false }, kinds := [], alts := [], laidByText := true, laidKinds := [.data, .data, .data, .data], laidTests := true, laidLooks := .later }
def ShardLimitsCardSaid : Prop := Claim7.holds Tryz.pinned (.plain (OpenSpec.ofChange shardLimitsSpec)) shardLimitsCard

/-- THE SECOND FORM's CARD OF 'oxbowlaw13.StoreKeeps'. -/
def storeKeepsUptoCard : Claim7 := { stood := { row := storeKeepsUptoRow, standIns := [], harness := (true, "a135674dfacc129f112544c4b8fa39b787132e786b4bf04053af45495352e943"), looks := false }, kinds := [], alts := [], laidByText := true, laidKinds := [.data, .data, .data, .data], laidTests := true, laidLooks := .later }
def StoreKeepsUptoCardSaid : Prop := Claim7.holds Tryz.pinned (.plain (OpenSpec.upto storeKeepsSpec)) storeKeepsUptoCard

/-- THE SECOND FORM's CARD OF 'oxbowlaw13.StoreSpills'. -/
def storeSpillsUptoCard : Claim7 := { stood := { row := storeSpillsUptoRow, standIns := [], harness := (true, "a135674dfacc129f112544c4b8fa39b787132e786b4bf04053af45495352e943"), looks := false }, kinds := [], alts := [], laidByText := true, laidKinds := [.data, .data, .data, .data], laidTests := true, laidLooks := .later }
def StoreSpillsUptoCardSaid : Prop := Claim7.holds Tryz.pinned (.plain (OpenSpec.upto storeSpillsSpec)) storeSpillsUptoCard

/-- THE SECOND FORM's CARD OF 'oxbowlaw13.StoreNobody'. -/
def storeNobodyUptoCard : Claim7 := { stood := { row := storeNobodyUptoRow, standIns := [], harness := (true, "a135674dfacc129f112544c4b8fa39b787132e786b4bf04053af45495352e943"), looks := false }, kinds := [], alts := [], laidByText := true, laidKinds := [.data, .data, .data, .data], laidTests := true, laidLooks := .later }
def StoreNobodyUptoCardSaid : Prop := Claim7.holds Tryz.pinned (.plain (OpenSpec.upto storeNobodySpec)) storeNobodyUptoCard

/-- THE SECOND FORM's CARD OF 'oxbowlaw13.StoreAdopts'. -/
def storeAdoptsUptoCard : Claim7 := { stood := { row := storeAdoptsUptoRow, standIns := [], harness := (true, "a135674dfacc129f112544c4b8fa39b787132e786b4bf04053af45495352e943"), looks := false }, kinds := [], alts := [], laidByText := true, laidKinds := [.data, .data, .data, .data], laidTests := true, laidLooks := .later }
def StoreAdoptsUptoCardSaid : Prop := Claim7.holds Tryz.pinned (.plain (OpenSpec.upto storeAdoptsSpec)) storeAdoptsUptoCard

/-- THE SECOND FORM's CARD OF 'oxbowlaw13.StoreRot'. -/
def storeRotUptoCard : Claim7 := { stood := { row := storeRotUptoRow, standIns := [], harness := (true, "a135674dfacc129f112544c4b8fa39b787132e786b4bf04053af45495352e943"), looks := false }, kinds := [], alts := [], laidByText := true, laidKinds := [.data, .data, .data, .data], laidTests := true, laidLooks := .later }
def StoreRotUptoCardSaid : Prop := Claim7.holds Tryz.pinned (.plain (OpenSpec.upto storeRotSpec)) storeRotUptoCard

/-- THE SECOND FORM's CARD OF 'oxbowlaw24.ShardDoes'. -/
def shardDoesUptoCard : Claim7 := { stood := { row := shardDoesUptoRow, standIns := [], harness := (true, "a135674dfacc129f112544c4b8fa39b787132e786b4bf04053af45495352e943"), looks := false }, kinds := [], alts := [], laidByText := true, laidKinds := [.data, .data, .data, .data], laidTests := true, laidLooks := .later }
def ShardDoesUptoCardSaid : Prop := Claim7.holds Tryz.pinned (.plain (OpenSpec.upto shardDoesSpec)) shardDoesUptoCard

/-- THE SECOND FORM's CARD OF 'oxbowlaw24.ShardNames'. -/
def shardNamesUptoCard : Claim7 := { stood := { row := shardNamesUptoRow, standIns := [], harness := (true, "a135674dfacc129f112544c4b8fa39b787132e786b4bf04053af45495352e943"), looks := false }, kinds := [], alts := [], laidByText := true, laidKinds := [.data, .data, .data, .data], laidTests := true, laidLooks := .later }
def ShardNamesUptoCardSaid : Prop := Claim7.holds Tryz.pinned (.plain (OpenSpec.upto shardNamesSpec)) shardNamesUptoCard

/-- THE SECOND FORM's CARD OF 'oxbowlaw24.ShardNobody'. -/
def shardNobodyUptoCard : Claim7 := { stood := { row := shardNobodyUptoRow, standIns := [], harness := (true, "a135674dfacc129f112544c4b8fa39b787132e786b4bf04053af45495352e943"), looks := false }, kinds := [], alts := [], laidByText := true, laidKinds := [.data, .data, .data, .data], laidTests := true, laidLooks := .later }
def ShardNobodyUptoCardSaid : Prop := Claim7.holds Tryz.pinned (.plain (OpenSpec.upto shardNobodySpec)) shardNobodyUptoCard

/-- THE SECOND FORM's CARD OF 'oxbowlaw24.ShardLimits'. -/
def shardLimitsUptoCard : Claim7 := { stood := { row := shardLimitsUptoRow, standIns := [], harness := (true, "a135674dfacc129f112544c4b8fa39b787132e786b4bf04053af45495352e943"), looks := false }, kinds := [], alts := [], laidByText := true, laidKinds := [.data, .data, .data, .data], laidTests := true, laidLooks := .later }
def ShardLimitsUptoCardSaid : Prop := Claim7.holds Tryz.pinned (.plain (OpenSpec.upto shardLimitsSpec)) shardLimitsUptoCard
end Rows
end Go.Proofs.YtafmabnolelknaaGreatDoor
