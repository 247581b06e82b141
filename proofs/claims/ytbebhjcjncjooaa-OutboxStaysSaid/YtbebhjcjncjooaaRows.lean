/-
  No cell of these rows narrows 'for every input' (looked for: loops, veiled, ifaces, maps, wideKeys, modest, calm, conditions, laid).
  DERIVED. THE GIVEN ROWS OF THIS SEAT. 5 by the template 'for every input the law returns true; each argument reads behind the call as it read before'; 0 by the template 'total and deterministic' (their statements: YtbebhjcjncjooaaTotals.lean).
  GIVEN WITH THE SEED: the statements are not yours to turn. If you find one false, say at which input.
  Laid BY PROGRAM, IN A SANDBOX (cutbox-rows.mjs): the forced cells as the released guide's own fill.sh prints them over the translation 82f891dd29bd6395… (all of the seat's roots in one cut). By AI agents, Wed Nov 11 2026. No macro, syntax, notation, axiom, sorry.
-/
import Derived.Test.YtbebhjcjncjooaaChecked
import GoSem.Claim
import GoSem.ClaimJoined
import GoSem.ClaimMapViews
import Derived.JoinedTies
import Derived.KernelRfl
namespace Go.Proofs.Ytbebhjcjncjooaa
/- THE CELL 'sum', in the pinned program and in every row, IS THE sha256 OF THE DUMP (.gsa) THAT YtbebhjcjncjooaaProg.lean LOADS. Nothing in Lean hashes anything: it is a label: what it is worth is what the hold of that sum in a sandbox is worth. -/
noncomputable def Try.pinned : Pinned := { name := "ytbebhjcjncjooaa", sum := "82f891dd29bd6395f5a7f31ce47ea211d507484ed1e689f88442830baf8ad45d", checked := Try.checked }
namespace Rows
def none {H : Type} : Left H := { results := [], args := [] }

/-- 'gonglaw25.DiskStops': WHATEVER THE INPUT: true; the input reads as it did. -/
def diskStopsSpec : ChangeSpec := { name := "diskStops", fn := fun _ => fun
  | [d1, d2] => { results := [.lit (.bool true)], args := [d1, d2] }
  | _ => none }
def diskStopsRow : OpenClaim := { program := "ytbebhjcjncjooaa", sum := "82f891dd29bd6395f5a7f31ce47ea211d507484ed1e689f88442830baf8ad45d", func := "gong/gonglaw25.DiskStops", spec := "diskStops", unfollowed := true, recurses := true, apart := false }
def DiskStopsSaid : Prop := diskStopsRow.holds Try.pinned (OpenSpec.ofChange diskStopsSpec)

/-- ITS FALSE NEIGHBOUR: 'it returns false'. Refute it at one input. -/
def diskStopsWrong : ChangeSpec := { name := "diskStops", fn := fun _ => fun
  | [d1, d2] => { results := [.lit (.bool false)], args := [d1, d2] }
  | _ => none }
def DiskStopsWrongFalsely : Prop := diskStopsRow.holds Try.pinned (OpenSpec.ofChange diskStopsWrong)

/-- 'gonglaw25.DiskSafe': WHATEVER THE INPUT: true; the input reads as it did. -/
def diskSafeSpec : ChangeSpec := { name := "diskSafe", fn := fun _ => fun
  | [d1, d2, d3] => { results := [.lit (.bool true)], args := [d1, d2, d3] }
  | _ => none }
def diskSafeRow : OpenClaim := { program := "ytbebhjcjncjooaa", sum := "82f891dd29bd6395f5a7f31ce47ea211d507484ed1e689f88442830baf8ad45d", func := "gong/gonglaw25.DiskSafe", spec := "diskSafe", inPlace := ["maps.clone"], unfollowed := true, recurses := true, apart := false }
def DiskSafeSaid : Prop := diskSafeRow.holds Try.pinned (OpenSpec.ofChange diskSafeSpec)

/-- ITS FALSE NEIGHBOUR: 'it returns false'. Refute it at one input. -/
def diskSafeWrong : ChangeSpec := { name := "diskSafe", fn := fun _ => fun
  | [d1, d2, d3] => { results := [.lit (.bool false)], args := [d1, d2, d3] }
  | _ => none }
def DiskSafeWrongFalsely : Prop := diskSafeRow.holds Try.pinned (OpenSpec.ofChange diskSafeWrong)

/-- 'gonglaw24.OutboxAgain': WHATEVER THE INPUT: true; the input reads as it did. -/
def outboxAgainSpec : ChangeSpec := { name := "outboxAgain", fn := fun _ => fun
  | [d1, d2, d3] => { results := [.lit (.bool true)], args := [d1, d2, d3] }
  | _ => none }
def outboxAgainRow : OpenClaim := { program := "ytbebhjcjncjooaa", sum := "82f891dd29bd6395f5a7f31ce47ea211d507484ed1e689f88442830baf8ad45d", func := "gong/gonglaw24.OutboxAgain", spec := "outboxAgain", unfollowed := true, recurses := true, apart := false }
def OutboxAgainSaid : Prop := outboxAgainRow.holds Try.pinned (OpenSpec.ofChange outboxAgainSpec)

/-- ITS FALSE NEIGHBOUR: 'it returns false'. Refute it at one input. -/
def outboxAgainWrong : ChangeSpec := { name := "outboxAgain", fn := fun _ => fun
  | [d1, d2, d3] => { results := [.lit (.bool false)], args := [d1, d2, d3] }
  | _ => none }
def OutboxAgainWrongFalsely : Prop := outboxAgainRow.holds Try.pinned (OpenSpec.ofChange outboxAgainWrong)

/-- 'gonglaw25.DiskPlays': WHATEVER THE INPUT: true; the input reads as it did. -/
def diskPlaysSpec : ChangeSpec := { name := "diskPlays", fn := fun _ => fun
  | [d1, d2] => { results := [.lit (.bool true)], args := [d1, d2] }
  | _ => none }
def diskPlaysRow : OpenClaim := { program := "ytbebhjcjncjooaa", sum := "82f891dd29bd6395f5a7f31ce47ea211d507484ed1e689f88442830baf8ad45d", func := "gong/gonglaw25.DiskPlays", spec := "diskPlays", inPlace := ["maps.clone"], unfollowed := true, recurses := true, apart := false }
def DiskPlaysSaid : Prop := diskPlaysRow.holds Try.pinned (OpenSpec.ofChange diskPlaysSpec)

/-- ITS FALSE NEIGHBOUR: 'it returns false'. Refute it at one input. -/
def diskPlaysWrong : ChangeSpec := { name := "diskPlays", fn := fun _ => fun
  | [d1, d2] => { results := [.lit (.bool false)], args := [d1, d2] }
  | _ => none }
def DiskPlaysWrongFalsely : Prop := diskPlaysRow.holds Try.pinned (OpenSpec.ofChange diskPlaysWrong)

/-- 'gonglaw24.OutboxStays': WHATEVER THE INPUT: true; the input reads as it did. -/
def outboxStaysSpec : ChangeSpec := { name := "outboxStays", fn := fun _ => fun
  | [d] => { results := [.lit (.bool true)], args := [d] }
  | _ => none }
def outboxStaysRow : OpenClaim := { program := "ytbebhjcjncjooaa", sum := "82f891dd29bd6395f5a7f31ce47ea211d507484ed1e689f88442830baf8ad45d", func := "gong/gonglaw24.OutboxStays", spec := "outboxStays", unfollowed := true, recurses := true, apart := false }
def OutboxStaysSaid : Prop := outboxStaysRow.holds Try.pinned (OpenSpec.ofChange outboxStaysSpec)

/-- ITS FALSE NEIGHBOUR: 'it returns false'. Refute it at one input. -/
def outboxStaysWrong : ChangeSpec := { name := "outboxStays", fn := fun _ => fun
  | [d] => { results := [.lit (.bool false)], args := [d] }
  | _ => none }
def OutboxStaysWrongFalsely : Prop := outboxStaysRow.holds Try.pinned (OpenSpec.ofChange outboxStaysWrong)

/- THE SECOND FORM. 'bulk': how many values and letters a reading holds, each counted each time it is reached (what is shared counts as often as it is met; a slice's spare places count too). A statement '..UptoSaid' is the law's where the arguments, and the package variables that the reading takes, are together of bulk at most 1048576: NARROWER than '..Said'. Prove '..Said' where nothing that the law and all that it calls make is longer than what came in: it says more and counts as full. Else prove '..UptoSaid'. A law counts once. -/
mutual
def uptoBulk {H : Type} : DataW H → Nat
  | .lit (.string bytes) => bytes.length + 1
  | .lit _ => 1
  | .nil => 1
  | .ptr d => uptoBulk d + 1
  | .slice elems spare => uptoBulkAll elems + uptoBulkAll spare + 1
  | .agg parts => uptoBulkAll parts + 1
  | .iface _ d => uptoBulk d + 1
  | .map entries => uptoBulkEntries entries + 1
  | .held _ => 1
def uptoBulkAll {H : Type} : List (DataW H) → Nat
  | [] => 0
  | d :: r => uptoBulk d + uptoBulkAll r
def uptoBulkEntries {H : Type} : List (Lit × DataW H) → Nat
  | [] => 0
  | x :: r => uptoBulkEntry x + uptoBulkEntries r
def uptoBulkEntry {H : Type} : Lit × DataW H → Nat
  | (.string bytes, d) => bytes.length + uptoBulk d + 1
  | (_, d) => uptoBulk d + 1
 end
def uptoSmall : (H : Type) → List (DataW H) → Bool := fun _ ds => decide (uptoBulkAll ds ≤ 1048576)
def OpenSpec.upto (s : _root_.Go.ChangeSpec) : _root_.Go.OpenSpec := { _root_.Go.OpenSpec.ofChange s with cond := some uptoSmall }

/-- 'gonglaw25.DiskStops', WHERE WHAT IT READS IS OF BULK AT MOST 1048576: true; the input reads as it did. -/
def diskStopsUptoRow : OpenClaim := { program := "ytbebhjcjncjooaa", sum := "82f891dd29bd6395f5a7f31ce47ea211d507484ed1e689f88442830baf8ad45d", func := "gong/gonglaw25.DiskStops", spec := "diskStops", unfollowed := true, recurses := true, apart := false, narrowed := true }
def DiskStopsUptoSaid : Prop := diskStopsUptoRow.holds Try.pinned (OpenSpec.upto diskStopsSpec)

/-- 'gonglaw25.DiskSafe', WHERE WHAT IT READS IS OF BULK AT MOST 1048576: true; the input reads as it did. -/
def diskSafeUptoRow : OpenClaim := { program := "ytbebhjcjncjooaa", sum := "82f891dd29bd6395f5a7f31ce47ea211d507484ed1e689f88442830baf8ad45d", func := "gong/gonglaw25.DiskSafe", spec := "diskSafe", inPlace := ["maps.clone"], unfollowed := true, recurses := true, apart := false, narrowed := true }
def DiskSafeUptoSaid : Prop := diskSafeUptoRow.holds Try.pinned (OpenSpec.upto diskSafeSpec)

/-- 'gonglaw24.OutboxAgain', WHERE WHAT IT READS IS OF BULK AT MOST 1048576: true; the input reads as it did. -/
def outboxAgainUptoRow : OpenClaim := { program := "ytbebhjcjncjooaa", sum := "82f891dd29bd6395f5a7f31ce47ea211d507484ed1e689f88442830baf8ad45d", func := "gong/gonglaw24.OutboxAgain", spec := "outboxAgain", unfollowed := true, recurses := true, apart := false, narrowed := true }
def OutboxAgainUptoSaid : Prop := outboxAgainUptoRow.holds Try.pinned (OpenSpec.upto outboxAgainSpec)

/-- 'gonglaw25.DiskPlays', WHERE WHAT IT READS IS OF BULK AT MOST 1048576: true; the input reads as it did. -/
def diskPlaysUptoRow : OpenClaim := { program := "ytbebhjcjncjooaa", sum := "82f891dd29bd6395f5a7f31ce47ea211d507484ed1e689f88442830baf8ad45d", func := "gong/gonglaw25.DiskPlays", spec := "diskPlays", inPlace := ["maps.clone"], unfollowed := true, recurses := true, apart := false, narrowed := true }
def DiskPlaysUptoSaid : Prop := diskPlaysUptoRow.holds Try.pinned (OpenSpec.upto diskPlaysSpec)

/-- 'gonglaw24.OutboxStays', WHERE WHAT IT READS IS OF BULK AT MOST 1048576: true; the input reads as it did. -/
def outboxStaysUptoRow : OpenClaim := { program := "ytbebhjcjncjooaa", sum := "82f891dd29bd6395f5a7f31ce47ea211d507484ed1e689f88442830baf8ad45d", func := "gong/gonglaw24.OutboxStays", spec := "outboxStays", unfollowed := true, recurses := true, apart := false, narrowed := true }
def OutboxStaysUptoSaid : Prop := outboxStaysUptoRow.holds Try.pinned (OpenSpec.upto outboxStaysSpec)

end Rows
end Go.Proofs.Ytbebhjcjncjooaa
