/-
  DERIVED. GIVEN WITH THE SEED: THE CARDS: each row of YtjjnkobkjdopbaaGreatDoorRows.lean that lists a variable, with what it lists TIED to the program's text (the seventh form; the later family's looks); each row that meets fmt, with fmt's text TOLD by the authors' own Lean function (tested against real Go, not proved from fmt's source: count such statements apart). THE CARD IS WHAT COUNTS. Prove the row's statement (the work); the ties are given (YtjjnkobkjdopbaaGreatDoorTie.lean); close each card by the builder's one call (the guide's Derived/Test/ToyasCard.lean, 'card_holds'). Laid BY PROGRAM, IN A SANDBOX (cutbox-door.mjs). By AI agents, Wed Nov 11 2026. No macro, syntax, notation, axiom, sorry.
-/
import Derived.Test.YtjjnkobkjdopbaaGreatDoorRows
import GoSem.ClaimSeven
namespace Go.Proofs.YtjjnkobkjdopbaaGreatDoor
namespace Rows

/-- THE TIED CARD OF 'gonglaw27.JournalBack'. -/
def journalBackCard : Claim7 := { stood := { row := journalBackRow, standIns := [], harness := (true, "07a62ff63194b9fa41dd6674b666ef876398120534f88cdc4f7e76e31e45be77"), looks := true }, kinds := [], alts := [], laidByText := true, laidKinds := [.data, .data, .data, .data, .sentinel, .sentinel], laidTests := true, laidLooks := .later }
def JournalBackCardSaid : Prop := Claim7.holds Tryz.pinned (.plain (OpenSpec.ofChange journalBackSpec)) journalBackCard

/-- THE TIED CARD OF 'gonglaw27.JournalStops'. -/
def journalStopsCard : Claim7 := { stood := { row := journalStopsRow, standIns := [], harness := (true, "07a62ff63194b9fa41dd6674b666ef876398120534f88cdc4f7e76e31e45be77"), looks := true }, kinds := [], alts := [], laidByText := true, laidKinds := [.data, .data, .data, .data, .sentinel, .sentinel], laidTests := true, laidLooks := .later }
def JournalStopsCardSaid : Prop := Claim7.holds Tryz.pinned (.plain (OpenSpec.ofChange journalStopsSpec)) journalStopsCard

/-- THE SECOND FORM's CARD OF 'gonglaw27.JournalBack'. -/
def journalBackUptoCard : Claim7 := { stood := { row := journalBackUptoRow, standIns := [], harness := (true, "07a62ff63194b9fa41dd6674b666ef876398120534f88cdc4f7e76e31e45be77"), looks := true }, kinds := [], alts := [], laidByText := true, laidKinds := [.data, .data, .data, .data, .sentinel, .sentinel], laidTests := true, laidLooks := .later }
def JournalBackUptoCardSaid : Prop := Claim7.holds Tryz.pinned (.plain (OpenSpec.upto journalBackSpec)) journalBackUptoCard

/-- THE SECOND FORM's CARD OF 'gonglaw27.JournalStops'. -/
def journalStopsUptoCard : Claim7 := { stood := { row := journalStopsUptoRow, standIns := [], harness := (true, "07a62ff63194b9fa41dd6674b666ef876398120534f88cdc4f7e76e31e45be77"), looks := true }, kinds := [], alts := [], laidByText := true, laidKinds := [.data, .data, .data, .data, .sentinel, .sentinel], laidTests := true, laidLooks := .later }
def JournalStopsUptoCardSaid : Prop := Claim7.holds Tryz.pinned (.plain (OpenSpec.upto journalStopsSpec)) journalStopsUptoCard
end Rows
end Go.Proofs.YtjjnkobkjdopbaaGreatDoor
