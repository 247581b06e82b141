/-
  DERIVED. GIVEN WITH THE SEED: THE CARDS: each row of YtbbfjgmnemlolaaGreatDoorRows.lean that lists a variable, with what it lists TIED to the program's text (the seventh form; the later family's looks); each row that meets fmt, with fmt's text TOLD by the authors' own Lean function (tested against real Go, not proved from fmt's source: count such statements apart). THE CARD IS WHAT COUNTS. Prove the row's statement (the work); the ties are given (YtbbfjgmnemlolaaGreatDoorTie.lean); close each card by the builder's one call (the guide's Derived/Test/ToyasCard.lean, 'card_holds'). Laid BY PROGRAM, IN A SANDBOX (cutbox-door.mjs). By AI agents, Wed Nov 11 2026. No macro, syntax, notation, axiom, sorry.
-/
import Derived.Test.YtbbfjgmnemlolaaGreatDoorRows
import GoSem.ClaimSeven
namespace Go.Proofs.YtbbfjgmnemlolaaGreatDoor
namespace Rows

/-- THE TIED CARD OF 'gonglaw30.QueryShows'. -/
def queryShowsCard : Claim7 := { stood := { row := queryShowsRow, standIns := [], harness := (true, "ad4808a086cb9dbdd34d4e1b17086e532c6d8258cb9a4dfb911f3f229ef26f2b"), looks := true }, kinds := [], alts := [], laidByText := true, laidKinds := [.data, .data, .data, .data, .sentinel, .sentinel, .data, .widerDeep, .widerDeep, .widerDeep, .pinned], laidTests := true, laidLooks := .later }
def QueryShowsCardSaid : Prop := Claim7.holds Tryz.pinned (.plain (OpenSpec.ofChange queryShowsSpec)) queryShowsCard

/-- THE SECOND FORM's CARD OF 'gonglaw30.QueryShows'. -/
def queryShowsUptoCard : Claim7 := { stood := { row := queryShowsUptoRow, standIns := [], harness := (true, "ad4808a086cb9dbdd34d4e1b17086e532c6d8258cb9a4dfb911f3f229ef26f2b"), looks := true }, kinds := [], alts := [], laidByText := true, laidKinds := [.data, .data, .data, .data, .sentinel, .sentinel, .data, .widerDeep, .widerDeep, .widerDeep, .pinned], laidTests := true, laidLooks := .later }
def QueryShowsUptoCardSaid : Prop := Claim7.holds Tryz.pinned (.plain (OpenSpec.upto queryShowsSpec)) queryShowsUptoCard
end Rows
end Go.Proofs.YtbbfjgmnemlolaaGreatDoor
