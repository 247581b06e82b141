/-
  No cell of these rows narrows 'for every input' (looked for: loops, veiled, ifaces, maps, wideKeys, modest, calm, conditions, laid).
  DERIVED. THE GIVEN ROWS OF THIS SEAT. 10 by the template 'for every input the law returns true; each argument reads behind the call as it read before'; 0 by the template 'total and deterministic' (their statements: YtpbfmiphjcmjjaaTotals.lean).
  GIVEN WITH THE SEED: the statements are not yours to turn. If you find one false, say at which input.
  Laid BY PROGRAM, IN A SANDBOX (cutbox-rows.mjs): the forced cells as the released guide's own fill.sh prints them over the translation c59379720b251596… (all of the seat's roots in one cut). By AI agents, Wed Nov 11 2026. No macro, syntax, notation, axiom, sorry.
-/
import Derived.Test.YtpbfmiphjcmjjaaChecked
import GoSem.Claim
import GoSem.ClaimJoined
import GoSem.ClaimMapViews
import Derived.JoinedTies
import Derived.KernelRfl
namespace Go.Proofs.Ytpbfmiphjcmjjaa
/- THE CELL 'sum', in the pinned program and in every row, IS THE sha256 OF THE DUMP (.gsa) THAT YtpbfmiphjcmjjaaProg.lean LOADS. Nothing in Lean hashes anything: it is a label: what it is worth is what the hold of that sum in a sandbox is worth. -/
noncomputable def Try.pinned : Pinned := { name := "ytpbfmiphjcmjjaa", sum := "c59379720b2515966584a93e49cab8e757174f19645744e77720d33c7e1e3a3a", checked := Try.checked }
namespace Rows
def none {H : Type} : Left H := { results := [], args := [] }

/-- 'gonglaw20.BoardTally': WHATEVER THE INPUT: true; the input reads as it did. -/
def boardTallySpec : ChangeSpec := { name := "boardTally", fn := fun _ => fun
  | [d] => { results := [.lit (.bool true)], args := [d] }
  | _ => none }
def boardTallyRow : OpenClaim := { program := "ytpbfmiphjcmjjaa", sum := "c59379720b2515966584a93e49cab8e757174f19645744e77720d33c7e1e3a3a", func := "gong/gonglaw20.BoardTally", spec := "boardTally", unfollowed := true, recurses := true, plainKeys := false, apart := false }
def BoardTallySaid : Prop := boardTallyRow.holds Try.pinned (OpenSpec.ofChange boardTallySpec)

/-- ITS FALSE NEIGHBOUR: 'it returns false'. Refute it at one input. -/
def boardTallyWrong : ChangeSpec := { name := "boardTally", fn := fun _ => fun
  | [d] => { results := [.lit (.bool false)], args := [d] }
  | _ => none }
def BoardTallyWrongFalsely : Prop := boardTallyRow.holds Try.pinned (OpenSpec.ofChange boardTallyWrong)

/-- 'gonglaw20.BoardChecks': WHATEVER THE INPUT: true; the input reads as it did. -/
def boardChecksSpec : ChangeSpec := { name := "boardChecks", fn := fun _ => fun
  | [d] => { results := [.lit (.bool true)], args := [d] }
  | _ => none }
def boardChecksRow : OpenClaim := { program := "ytpbfmiphjcmjjaa", sum := "c59379720b2515966584a93e49cab8e757174f19645744e77720d33c7e1e3a3a", func := "gong/gonglaw20.BoardChecks", spec := "boardChecks", unfollowed := true, recurses := true, plainKeys := false, apart := false }
def BoardChecksSaid : Prop := boardChecksRow.holds Try.pinned (OpenSpec.ofChange boardChecksSpec)

/-- ITS FALSE NEIGHBOUR: 'it returns false'. Refute it at one input. -/
def boardChecksWrong : ChangeSpec := { name := "boardChecks", fn := fun _ => fun
  | [d] => { results := [.lit (.bool false)], args := [d] }
  | _ => none }
def BoardChecksWrongFalsely : Prop := boardChecksRow.holds Try.pinned (OpenSpec.ofChange boardChecksWrong)

/-- 'gonglaw21.HoldChecks': WHATEVER THE INPUT: true; the input reads as it did. -/
def holdChecksSpec : ChangeSpec := { name := "holdChecks", fn := fun _ => fun
  | [d1, d2] => { results := [.lit (.bool true)], args := [d1, d2] }
  | _ => none }
def holdChecksRow : OpenClaim := { program := "ytpbfmiphjcmjjaa", sum := "c59379720b2515966584a93e49cab8e757174f19645744e77720d33c7e1e3a3a", func := "gong/gonglaw21.HoldChecks", spec := "holdChecks", unfollowed := true, recurses := true, plainKeys := false, apart := false }
def HoldChecksSaid : Prop := holdChecksRow.holds Try.pinned (OpenSpec.ofChange holdChecksSpec)

/-- ITS FALSE NEIGHBOUR: 'it returns false'. Refute it at one input. -/
def holdChecksWrong : ChangeSpec := { name := "holdChecks", fn := fun _ => fun
  | [d1, d2] => { results := [.lit (.bool false)], args := [d1, d2] }
  | _ => none }
def HoldChecksWrongFalsely : Prop := holdChecksRow.holds Try.pinned (OpenSpec.ofChange holdChecksWrong)

/-- 'gonglaw19.HeapSame': WHATEVER THE INPUT: true; the input reads as it did. -/
def heapSameSpec : ChangeSpec := { name := "heapSame", fn := fun _ => fun
  | [d1, d2] => { results := [.lit (.bool true)], args := [d1, d2] }
  | _ => none }
def heapSameRow : OpenClaim := { program := "ytpbfmiphjcmjjaa", sum := "c59379720b2515966584a93e49cab8e757174f19645744e77720d33c7e1e3a3a", func := "gong/gonglaw19.HeapSame", spec := "heapSame", unfollowed := true, recurses := true, plainKeys := false, apart := false }
def HeapSameSaid : Prop := heapSameRow.holds Try.pinned (OpenSpec.ofChange heapSameSpec)

/-- ITS FALSE NEIGHBOUR: 'it returns false'. Refute it at one input. -/
def heapSameWrong : ChangeSpec := { name := "heapSame", fn := fun _ => fun
  | [d1, d2] => { results := [.lit (.bool false)], args := [d1, d2] }
  | _ => none }
def HeapSameWrongFalsely : Prop := heapSameRow.holds Try.pinned (OpenSpec.ofChange heapSameWrong)

/-- 'gonglaw19.HeapPlays': WHATEVER THE INPUT: true; the input reads as it did. -/
def heapPlaysSpec : ChangeSpec := { name := "heapPlays", fn := fun _ => fun
  | [d1, d2] => { results := [.lit (.bool true)], args := [d1, d2] }
  | _ => none }
def heapPlaysRow : OpenClaim := { program := "ytpbfmiphjcmjjaa", sum := "c59379720b2515966584a93e49cab8e757174f19645744e77720d33c7e1e3a3a", func := "gong/gonglaw19.HeapPlays", spec := "heapPlays", inPlace := ["maps.clone"], unfollowed := true, recurses := true, plainKeys := false, apart := false }
def HeapPlaysSaid : Prop := heapPlaysRow.holds Try.pinned (OpenSpec.ofChange heapPlaysSpec)

/-- ITS FALSE NEIGHBOUR: 'it returns false'. Refute it at one input. -/
def heapPlaysWrong : ChangeSpec := { name := "heapPlays", fn := fun _ => fun
  | [d1, d2] => { results := [.lit (.bool false)], args := [d1, d2] }
  | _ => none }
def HeapPlaysWrongFalsely : Prop := heapPlaysRow.holds Try.pinned (OpenSpec.ofChange heapPlaysWrong)

/-- 'gonglaw20.BoardOnce': WHATEVER THE INPUT: true; the input reads as it did. -/
def boardOnceSpec : ChangeSpec := { name := "boardOnce", fn := fun _ => fun
  | [d1, d2] => { results := [.lit (.bool true)], args := [d1, d2] }
  | _ => none }
def boardOnceRow : OpenClaim := { program := "ytpbfmiphjcmjjaa", sum := "c59379720b2515966584a93e49cab8e757174f19645744e77720d33c7e1e3a3a", func := "gong/gonglaw20.BoardOnce", spec := "boardOnce", unfollowed := true, recurses := true, plainKeys := false, apart := false }
def BoardOnceSaid : Prop := boardOnceRow.holds Try.pinned (OpenSpec.ofChange boardOnceSpec)

/-- ITS FALSE NEIGHBOUR: 'it returns false'. Refute it at one input. -/
def boardOnceWrong : ChangeSpec := { name := "boardOnce", fn := fun _ => fun
  | [d1, d2] => { results := [.lit (.bool false)], args := [d1, d2] }
  | _ => none }
def BoardOnceWrongFalsely : Prop := boardOnceRow.holds Try.pinned (OpenSpec.ofChange boardOnceWrong)

/-- 'gonglaw20.BoardLoads': WHATEVER THE INPUT: true; the input reads as it did. -/
def boardLoadsSpec : ChangeSpec := { name := "boardLoads", fn := fun _ => fun
  | [d1, d2, d3] => { results := [.lit (.bool true)], args := [d1, d2, d3] }
  | _ => none }
def boardLoadsRow : OpenClaim := { program := "ytpbfmiphjcmjjaa", sum := "c59379720b2515966584a93e49cab8e757174f19645744e77720d33c7e1e3a3a", func := "gong/gonglaw20.BoardLoads", spec := "boardLoads", unfollowed := true, recurses := true, plainKeys := false, apart := false }
def BoardLoadsSaid : Prop := boardLoadsRow.holds Try.pinned (OpenSpec.ofChange boardLoadsSpec)

/-- ITS FALSE NEIGHBOUR: 'it returns false'. Refute it at one input. -/
def boardLoadsWrong : ChangeSpec := { name := "boardLoads", fn := fun _ => fun
  | [d1, d2, d3] => { results := [.lit (.bool false)], args := [d1, d2, d3] }
  | _ => none }
def BoardLoadsWrongFalsely : Prop := boardLoadsRow.holds Try.pinned (OpenSpec.ofChange boardLoadsWrong)

/-- 'gonglaw20.BoardPlays': WHATEVER THE INPUT: true; the input reads as it did. -/
def boardPlaysSpec : ChangeSpec := { name := "boardPlays", fn := fun _ => fun
  | [d1, d2] => { results := [.lit (.bool true)], args := [d1, d2] }
  | _ => none }
def boardPlaysRow : OpenClaim := { program := "ytpbfmiphjcmjjaa", sum := "c59379720b2515966584a93e49cab8e757174f19645744e77720d33c7e1e3a3a", func := "gong/gonglaw20.BoardPlays", spec := "boardPlays", inPlace := ["maps.clone"], unfollowed := true, recurses := true, plainKeys := false, apart := false }
def BoardPlaysSaid : Prop := boardPlaysRow.holds Try.pinned (OpenSpec.ofChange boardPlaysSpec)

/-- ITS FALSE NEIGHBOUR: 'it returns false'. Refute it at one input. -/
def boardPlaysWrong : ChangeSpec := { name := "boardPlays", fn := fun _ => fun
  | [d1, d2] => { results := [.lit (.bool false)], args := [d1, d2] }
  | _ => none }
def BoardPlaysWrongFalsely : Prop := boardPlaysRow.holds Try.pinned (OpenSpec.ofChange boardPlaysWrong)

/-- 'gonglaw21.HoldOrder': WHATEVER THE INPUT: true; the input reads as it did. -/
def holdOrderSpec : ChangeSpec := { name := "holdOrder", fn := fun _ => fun
  | [d1, d2] => { results := [.lit (.bool true)], args := [d1, d2] }
  | _ => none }
def holdOrderRow : OpenClaim := { program := "ytpbfmiphjcmjjaa", sum := "c59379720b2515966584a93e49cab8e757174f19645744e77720d33c7e1e3a3a", func := "gong/gonglaw21.HoldOrder", spec := "holdOrder", unfollowed := true, recurses := true, plainKeys := false, apart := false }
def HoldOrderSaid : Prop := holdOrderRow.holds Try.pinned (OpenSpec.ofChange holdOrderSpec)

/-- ITS FALSE NEIGHBOUR: 'it returns false'. Refute it at one input. -/
def holdOrderWrong : ChangeSpec := { name := "holdOrder", fn := fun _ => fun
  | [d1, d2] => { results := [.lit (.bool false)], args := [d1, d2] }
  | _ => none }
def HoldOrderWrongFalsely : Prop := holdOrderRow.holds Try.pinned (OpenSpec.ofChange holdOrderWrong)

/-- 'gonglaw21.HoldLoads': WHATEVER THE INPUT: true; the input reads as it did. -/
def holdLoadsSpec : ChangeSpec := { name := "holdLoads", fn := fun _ => fun
  | [d1, d2, d3] => { results := [.lit (.bool true)], args := [d1, d2, d3] }
  | _ => none }
def holdLoadsRow : OpenClaim := { program := "ytpbfmiphjcmjjaa", sum := "c59379720b2515966584a93e49cab8e757174f19645744e77720d33c7e1e3a3a", func := "gong/gonglaw21.HoldLoads", spec := "holdLoads", unfollowed := true, recurses := true, plainKeys := false, apart := false }
def HoldLoadsSaid : Prop := holdLoadsRow.holds Try.pinned (OpenSpec.ofChange holdLoadsSpec)

/-- ITS FALSE NEIGHBOUR: 'it returns false'. Refute it at one input. -/
def holdLoadsWrong : ChangeSpec := { name := "holdLoads", fn := fun _ => fun
  | [d1, d2, d3] => { results := [.lit (.bool false)], args := [d1, d2, d3] }
  | _ => none }
def HoldLoadsWrongFalsely : Prop := holdLoadsRow.holds Try.pinned (OpenSpec.ofChange holdLoadsWrong)

/- THE SECOND FORM. 'bulk': how many values and letters a reading holds, each counted each time it is reached (what is shared counts as often as it is met; a slice's spare places count too). A statement '..UptoSaid' is the law's where the arguments, and the package variables that the reading takes, are together of bulk at most 1048576: NARROWER than '..Said'. Prove '..Said' where nothing that the law and all that it calls make is longer than what came in: it says more and counts as full. Else prove '..UptoSaid'. A law counts once. -/
mutual
def uptoBulk {H : Type} : DataW H → Nat
  | .lit (.string bytes) => bytes.length + 1
  | .lit _ => 1
  | .nil => 1
  | .ptr d => uptoBulk d + 1
  | .slice elems spare => uptoBulkAll elems + uptoBulkAll spare + 1
  | .agg parts => uptoBulkAll parts + 1
  | .iface _ d => uptoBulk d + 1
  | .map entries => uptoBulkEntries entries + 1
  | .held _ => 1
def uptoBulkAll {H : Type} : List (DataW H) → Nat
  | [] => 0
  | d :: r => uptoBulk d + uptoBulkAll r
def uptoBulkEntries {H : Type} : List (Lit × DataW H) → Nat
  | [] => 0
  | x :: r => uptoBulkEntry x + uptoBulkEntries r
def uptoBulkEntry {H : Type} : Lit × DataW H → Nat
  | (.string bytes, d) => bytes.length + uptoBulk d + 1
  | (_, d) => uptoBulk d + 1
 end
def uptoSmall : (H : Type) → List (DataW H) → Bool := fun _ ds => decide (uptoBulkAll ds ≤ 1048576)
def OpenSpec.upto (s : _root_.Go.ChangeSpec) : _root_.Go.OpenSpec := { _root_.Go.OpenSpec.ofChange s with cond := some uptoSmall }

/-- 'gonglaw20.BoardTally', WHERE WHAT IT READS IS OF BULK AT MOST 1048576: true; the input reads as it did. -/
def boardTallyUptoRow : OpenClaim := { program := "ytpbfmiphjcmjjaa", sum := "c59379720b2515966584a93e49cab8e757174f19645744e77720d33c7e1e3a3a", func := "gong/gonglaw20.BoardTally", spec := "boardTally", unfollowed := true, recurses := true, plainKeys := false, apart := false, narrowed := true }
def BoardTallyUptoSaid : Prop := boardTallyUptoRow.holds Try.pinned (OpenSpec.upto boardTallySpec)

/-- 'gonglaw20.BoardChecks', WHERE WHAT IT READS IS OF BULK AT MOST 1048576: true; the input reads as it did. -/
def boardChecksUptoRow : OpenClaim := { program := "ytpbfmiphjcmjjaa", sum := "c59379720b2515966584a93e49cab8e757174f19645744e77720d33c7e1e3a3a", func := "gong/gonglaw20.BoardChecks", spec := "boardChecks", unfollowed := true, recurses := true, plainKeys := false, apart := false, narrowed := true }
def BoardChecksUptoSaid : Prop := boardChecksUptoRow.holds Try.pinned (OpenSpec.upto boardChecksSpec)

/-- 'gonglaw21.HoldChecks', WHERE WHAT IT READS IS OF BULK AT MOST 1048576: true; the input reads as it did. -/
def holdChecksUptoRow : OpenClaim := { program := "ytpbfmiphjcmjjaa", sum := "c59379720b2515966584a93e49cab8e757174f19645744e77720d33c7e1e3a3a", func := "gong/gonglaw21.HoldChecks", spec := "holdChecks", unfollowed := true, recurses := true, plainKeys := false, apart := false, narrowed := true }
def HoldChecksUptoSaid : Prop := holdChecksUptoRow.holds Try.pinned (OpenSpec.upto holdChecksSpec)

/-- 'gonglaw19.HeapSame', WHERE WHAT IT READS IS OF BULK AT MOST 1048576: true; the input reads as it did. -/
def heapSameUptoRow : OpenClaim := { program := "ytpbfmiphjcmjjaa", sum := "c59379720b2515966584a93e49cab8e757174f19645744e77720d33c7e1e3a3a", func := "gong/gonglaw19.HeapSame", spec := "heapSame", unfollowed := true, recurses := true, plainKeys := false, apart := false, narrowed := true }
def HeapSameUptoSaid : Prop := heapSameUptoRow.holds Try.pinned (OpenSpec.upto heapSameSpec)

/-- 'gonglaw19.HeapPlays', WHERE WHAT IT READS IS OF BULK AT MOST 1048576: true; the input reads as it did. -/
def heapPlaysUptoRow : OpenClaim := { program := "ytpbfmiphjcmjjaa", sum := "c59379720b2515966584a93e49cab8e757174f19645744e77720d33c7e1e3a3a", func := "gong/gonglaw19.HeapPlays", spec := "heapPlays", inPlace := ["maps.clone"], unfollowed := true, recurses := true, plainKeys := false, apart := false, narrowed := true }
def HeapPlaysUptoSaid : Prop := heapPlaysUptoRow.holds Try.pinned (OpenSpec.upto heapPlaysSpec)

/-- 'gonglaw20.BoardOnce', WHERE WHAT IT READS IS OF BULK AT MOST 1048576: true; the input reads as it did. -/
def boardOnceUptoRow : OpenClaim := { program := "ytpbfmiphjcmjjaa", sum := "c59379720b2515966584a93e49cab8e757174f19645744e77720d33c7e1e3a3a", func := "gong/gonglaw20.BoardOnce", spec := "boardOnce", unfollowed := true, recurses := true, plainKeys := false, apart := false, narrowed := true }
def BoardOnceUptoSaid : Prop := boardOnceUptoRow.holds Try.pinned (OpenSpec.upto boardOnceSpec)

/-- 'gonglaw20.BoardLoads', WHERE WHAT IT READS IS OF BULK AT MOST 1048576: true; the input reads as it did. -/
def boardLoadsUptoRow : OpenClaim := { program := "ytpbfmiphjcmjjaa", sum := "c59379720b2515966584a93e49cab8e757174f19645744e77720d33c7e1e3a3a", func := "gong/gonglaw20.BoardLoads", spec := "boardLoads", unfollowed := true, recurses := true, plainKeys := false, apart := false, narrowed := true }
def BoardLoadsUptoSaid : Prop := boardLoadsUptoRow.holds Try.pinned (OpenSpec.upto boardLoadsSpec)

/-- 'gonglaw20.BoardPlays', WHERE WHAT IT READS IS OF BULK AT MOST 1048576: true; the input reads as it did. -/
def boardPlaysUptoRow : OpenClaim := { program := "ytpbfmiphjcmjjaa", sum := "c59379720b2515966584a93e49cab8e757174f19645744e77720d33c7e1e3a3a", func := "gong/gonglaw20.BoardPlays", spec := "boardPlays", inPlace := ["maps.clone"], unfollowed := true, recurses := true, plainKeys := false, apart := false, narrowed := true }
def BoardPlaysUptoSaid : Prop := boardPlaysUptoRow.holds Try.pinned (OpenSpec.upto boardPlaysSpec)

/-- 'gonglaw21.HoldOrder', WHERE WHAT IT READS IS OF BULK AT MOST 1048576: true; the input reads as it did. -/
def holdOrderUptoRow : OpenClaim := { program := "ytpbfmiphjcmjjaa", sum := "c59379720b2515966584a93e49cab8e757174f19645744e77720d33c7e1e3a3a", func := "gong/gonglaw21.HoldOrder", spec := "holdOrder", unfollowed := true, recurses := true, plainKeys := false, apart := false, narrowed := true }
def HoldOrderUptoSaid : Prop := holdOrderUptoRow.holds Try.pinned (OpenSpec.upto holdOrderSpec)

/-- 'gonglaw21.HoldLoads', WHERE WHAT IT READS IS OF BULK AT MOST 1048576: true; the input reads as it did. -/
def holdLoadsUptoRow : OpenClaim := { program := "ytpbfmiphjcmjjaa", sum := "c59379720b2515966584a93e49cab8e757174f19645744e77720d33c7e1e3a3a", func := "gong/gonglaw21.HoldLoads", spec := "holdLoads", unfollowed := true, recurses := true, plainKeys := false, apart := false, narrowed := true }
def HoldLoadsUptoSaid : Prop := holdLoadsUptoRow.holds Try.pinned (OpenSpec.upto holdLoadsSpec)

end Rows
end Go.Proofs.Ytpbfmiphjcmjjaa
