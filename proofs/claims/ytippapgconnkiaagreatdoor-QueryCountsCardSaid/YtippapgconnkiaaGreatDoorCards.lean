/-
  DERIVED. GIVEN WITH THE SEED: THE CARDS: each row of YtippapgconnkiaaGreatDoorRows.lean that lists a variable, with what it lists TIED to the program's text (the seventh form; the later family's looks); each row that meets fmt, with fmt's text TOLD by the authors' own Lean function (tested against real Go, not proved from fmt's source: count such statements apart). THE CARD IS WHAT COUNTS. Prove the row's statement (the work); the ties are given (YtippapgconnkiaaGreatDoorTie.lean); close each card by the builder's one call (the guide's Derived/Test/ToyasCard.lean, 'card_holds'). Laid BY PROGRAM, IN A SANDBOX (cutbox-door.mjs). By AI agents, Wed Nov 11 2026. No macro, syntax, notation, axiom, sorry.
-/
import Derived.Test.YtippapgconnkiaaGreatDoorRows
import GoSem.ClaimSeven
namespace Go.Proofs.YtippapgconnkiaaGreatDoor
namespace Rows

/-- THE TIED CARD OF 'gonglaw30.QueryCounts'. -/
def queryCountsCard : Claim7 := { stood := { row := queryCountsRow, standIns := [], harness := (true, "512d0f7b00dec216e084460602bb37d275fcdca3fbddf06dece8831026d9c5da"), looks := true }, kinds := [], alts := [], laidByText := true, laidKinds := [.data, .data, .data, .data, .sentinel, .sentinel, .data, .widerDeep, .widerDeep, .widerDeep, .pinned], laidTests := true, laidLooks := .later }
def QueryCountsCardSaid : Prop := Claim7.holds Tryz.pinned (.plain (OpenSpec.ofChange queryCountsSpec)) queryCountsCard

/-- THE SECOND FORM's CARD OF 'gonglaw30.QueryCounts'. -/
def queryCountsUptoCard : Claim7 := { stood := { row := queryCountsUptoRow, standIns := [], harness := (true, "512d0f7b00dec216e084460602bb37d275fcdca3fbddf06dece8831026d9c5da"), looks := true }, kinds := [], alts := [], laidByText := true, laidKinds := [.data, .data, .data, .data, .sentinel, .sentinel, .data, .widerDeep, .widerDeep, .widerDeep, .pinned], laidTests := true, laidLooks := .later }
def QueryCountsUptoCardSaid : Prop := Claim7.holds Tryz.pinned (.plain (OpenSpec.upto queryCountsSpec)) queryCountsUptoCard
end Rows
end Go.Proofs.YtippapgconnkiaaGreatDoor
