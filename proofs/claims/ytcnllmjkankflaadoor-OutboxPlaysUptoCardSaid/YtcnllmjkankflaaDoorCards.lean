/-
  DERIVED. GIVEN WITH THE SEED: THE CARDS: each row of YtcnllmjkankflaaDoorRows.lean that lists a variable, with what it lists TIED to the program's text (the seventh form; the later family's looks); each row that meets fmt, with fmt's text TOLD by the authors' own Lean function (tested against real Go, not proved from fmt's source: count such statements apart). THE CARD IS WHAT COUNTS. Prove the row's statement (the work); the ties are given (YtcnllmjkankflaaDoorTie.lean); close each card by the builder's one call (the guide's Derived/Test/ToyasCard.lean, 'card_holds'). Laid BY PROGRAM, IN A SANDBOX (cutbox-door.mjs). By AI agents, Wed Nov 11 2026. No macro, syntax, notation, axiom, sorry.
-/
import Derived.Test.YtcnllmjkankflaaDoorRows
import GoSem.ClaimSeven
namespace Go.Proofs.YtcnllmjkankflaaDoor
namespace Rows

/-- THE TIED CARD OF 'gonglaw24.OutboxLoads'. -/
def outboxLoadsCard : Claim7 := { stood := { row := outboxLoadsRow, standIns := [], harness := (true, "25ae6d106035dd2f51737dd8372f8578b95ae090033818873dc39abe54bb1a98"), looks := true }, kinds := [], alts := [], laidByText := true, laidKinds := [.data], laidTests := true, laidLooks := .later }
def OutboxLoadsCardSaid : Prop := Claim7.holds Tryd.pinned (.plain (OpenSpec.ofChange outboxLoadsSpec)) outboxLoadsCard

/-- THE TIED CARD OF 'gonglaw24.OutboxPlays'. -/
def outboxPlaysCard : Claim7 := { stood := { row := outboxPlaysRow, standIns := [], harness := (true, "25ae6d106035dd2f51737dd8372f8578b95ae090033818873dc39abe54bb1a98"), looks := true }, kinds := [], alts := [], laidByText := true, laidKinds := [.data], laidTests := true, laidLooks := .later }
def OutboxPlaysCardSaid : Prop := Claim7.holds Tryd.pinned (.plain (OpenSpec.ofChange outboxPlaysSpec)) outboxPlaysCard

/-- THE SECOND FORM's CARD OF 'gonglaw24.OutboxLoads'. -/
def outboxLoadsUptoCard : Claim7 := { stood := { row := outboxLoadsUptoRow, standIns := [], harness := (true, "25ae6d106035dd2f51737dd8372f8578b95ae090033818873dc39abe54bb1a98"), looks := true }, kinds := [], alts := [], laidByText := true, laidKinds := [.data], laidTests := true, laidLooks := .later }
def OutboxLoadsUptoCardSaid : Prop := Claim7.holds Tryd.pinned (.plain (OpenSpec.upto outboxLoadsSpec)) outboxLoadsUptoCard

/-- THE SECOND FORM's CARD OF 'gonglaw24.OutboxPlays'. -/
def outboxPlaysUptoCard : Claim7 := { stood := { row := outboxPlaysUptoRow, standIns := [], harness := (true, "25ae6d106035dd2f51737dd8372f8578b95ae090033818873dc39abe54bb1a98"), looks := true }, kinds := [], alts := [], laidByText := true, laidKinds := [.data], laidTests := true, laidLooks := .later }
def OutboxPlaysUptoCardSaid : Prop := Claim7.holds Tryd.pinned (.plain (OpenSpec.upto outboxPlaysSpec)) outboxPlaysUptoCard
end Rows
end Go.Proofs.YtcnllmjkankflaaDoor
