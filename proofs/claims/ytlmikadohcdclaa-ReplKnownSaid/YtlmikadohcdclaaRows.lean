/-
  No cell of these rows narrows 'for every input' (looked for: loops, veiled, ifaces, maps, wideKeys, modest, calm, conditions, laid).
  DERIVED. THE GIVEN ROWS OF THIS SEAT. 5 by the template 'for every input the law returns true; each argument reads behind the call as it read before'; 0 by the template 'total and deterministic' (their statements: YtlmikadohcdclaaTotals.lean).
  GIVEN WITH THE SEED: the statements are not yours to turn. If you find one false, say at which input.
  Laid BY PROGRAM, IN A SANDBOX (cutbox-rows.mjs): the forced cells as the released guide's own fill.sh prints them over the translation d53f4cf91c658261… (all of the seat's roots in one cut). By AI agents, Wed Nov 11 2026. No macro, syntax, notation, axiom, sorry.
-/
import Derived.Test.YtlmikadohcdclaaChecked
import GoSem.Claim
import GoSem.ClaimJoined
import GoSem.ClaimMapViews
import Derived.JoinedTies
import Derived.KernelRfl
namespace Go.Proofs.Ytlmikadohcdclaa
/- THE CELL 'sum', in the pinned program and in every row, IS THE sha256 OF THE DUMP (.gsa) THAT YtlmikadohcdclaaProg.lean LOADS. Nothing in Lean hashes anything: it is a label: what it is worth is what the hold of that sum in a sandbox is worth. -/
noncomputable def Try.pinned : Pinned := { name := "ytlmikadohcdclaa", sum := "d53f4cf91c658261fc4d651ae108b5bc1dab3442c16da2a91336d4e63e03e8c3", checked := Try.checked }
namespace Rows
def none {H : Type} : Left H := { results := [], args := [] }

/-- 'semaphorelaw25.ReplDiffs': WHATEVER THE INPUT: true; the input reads as it did. -/
def replDiffsSpec : ChangeSpec := { name := "replDiffs", fn := fun _ => fun
  | [d1, d2, d3] => { results := [.lit (.bool true)], args := [d1, d2, d3] }
  | _ => none }
def replDiffsRow : OpenClaim := { program := "ytlmikadohcdclaa", sum := "d53f4cf91c658261fc4d651ae108b5bc1dab3442c16da2a91336d4e63e03e8c3", func := "semaphore/semaphorelaw25.ReplDiffs", spec := "replDiffs", unfollowed := true, recurses := true, apart := false }
def ReplDiffsSaid : Prop := replDiffsRow.holds Try.pinned (OpenSpec.ofChange replDiffsSpec)

/-- ITS FALSE NEIGHBOUR: 'it returns false'. Refute it at one input. -/
def replDiffsWrong : ChangeSpec := { name := "replDiffs", fn := fun _ => fun
  | [d1, d2, d3] => { results := [.lit (.bool false)], args := [d1, d2, d3] }
  | _ => none }
def ReplDiffsWrongFalsely : Prop := replDiffsRow.holds Try.pinned (OpenSpec.ofChange replDiffsWrong)

/-- 'semaphorelaw25.ReplFollows': WHATEVER THE INPUT: true; the input reads as it did. -/
def replFollowsSpec : ChangeSpec := { name := "replFollows", fn := fun _ => fun
  | [d] => { results := [.lit (.bool true)], args := [d] }
  | _ => none }
def replFollowsRow : OpenClaim := { program := "ytlmikadohcdclaa", sum := "d53f4cf91c658261fc4d651ae108b5bc1dab3442c16da2a91336d4e63e03e8c3", func := "semaphore/semaphorelaw25.ReplFollows", spec := "replFollows", unfollowed := true, recurses := true, apart := false }
def ReplFollowsSaid : Prop := replFollowsRow.holds Try.pinned (OpenSpec.ofChange replFollowsSpec)

/-- ITS FALSE NEIGHBOUR: 'it returns false'. Refute it at one input. -/
def replFollowsWrong : ChangeSpec := { name := "replFollows", fn := fun _ => fun
  | [d] => { results := [.lit (.bool false)], args := [d] }
  | _ => none }
def ReplFollowsWrongFalsely : Prop := replFollowsRow.holds Try.pinned (OpenSpec.ofChange replFollowsWrong)

/-- 'semaphorelaw25.ReplPlays': WHATEVER THE INPUT: true; the input reads as it did. -/
def replPlaysSpec : ChangeSpec := { name := "replPlays", fn := fun _ => fun
  | [d] => { results := [.lit (.bool true)], args := [d] }
  | _ => none }
def replPlaysRow : OpenClaim := { program := "ytlmikadohcdclaa", sum := "d53f4cf91c658261fc4d651ae108b5bc1dab3442c16da2a91336d4e63e03e8c3", func := "semaphore/semaphorelaw25.ReplPlays", spec := "replPlays", unfollowed := true, recurses := true, apart := false }
def ReplPlaysSaid : Prop := replPlaysRow.holds Try.pinned (OpenSpec.ofChange replPlaysSpec)

/-- ITS FALSE NEIGHBOUR: 'it returns false'. Refute it at one input. -/
def replPlaysWrong : ChangeSpec := { name := "replPlays", fn := fun _ => fun
  | [d] => { results := [.lit (.bool false)], args := [d] }
  | _ => none }
def ReplPlaysWrongFalsely : Prop := replPlaysRow.holds Try.pinned (OpenSpec.ofChange replPlaysWrong)

/-- 'semaphorelaw25.ReplBytes': WHATEVER THE INPUT: true; the input reads as it did. -/
def replBytesSpec : ChangeSpec := { name := "replBytes", fn := fun _ => fun
  | [d1, d2] => { results := [.lit (.bool true)], args := [d1, d2] }
  | _ => none }
def replBytesRow : OpenClaim := { program := "ytlmikadohcdclaa", sum := "d53f4cf91c658261fc4d651ae108b5bc1dab3442c16da2a91336d4e63e03e8c3", func := "semaphore/semaphorelaw25.ReplBytes", spec := "replBytes", unfollowed := true, recurses := true, apart := false }
def ReplBytesSaid : Prop := replBytesRow.holds Try.pinned (OpenSpec.ofChange replBytesSpec)

/-- ITS FALSE NEIGHBOUR: 'it returns false'. Refute it at one input. -/
def replBytesWrong : ChangeSpec := { name := "replBytes", fn := fun _ => fun
  | [d1, d2] => { results := [.lit (.bool false)], args := [d1, d2] }
  | _ => none }
def ReplBytesWrongFalsely : Prop := replBytesRow.holds Try.pinned (OpenSpec.ofChange replBytesWrong)

/-- 'semaphorelaw25.ReplKnown': WHATEVER THE INPUT: true; the input reads as it did. -/
def replKnownSpec : ChangeSpec := { name := "replKnown", fn := fun _ => fun
  | [] => { results := [.lit (.bool true)], args := [] }
  | _ => none }
def replKnownRow : OpenClaim := { program := "ytlmikadohcdclaa", sum := "d53f4cf91c658261fc4d651ae108b5bc1dab3442c16da2a91336d4e63e03e8c3", func := "semaphore/semaphorelaw25.ReplKnown", spec := "replKnown", unfollowed := true, recurses := true, apart := false }
def ReplKnownSaid : Prop := replKnownRow.holds Try.pinned (OpenSpec.ofChange replKnownSpec)

/-- ITS FALSE NEIGHBOUR: 'it returns false'. Refute it at one input. -/
def replKnownWrong : ChangeSpec := { name := "replKnown", fn := fun _ => fun
  | [] => { results := [.lit (.bool false)], args := [] }
  | _ => none }
def ReplKnownWrongFalsely : Prop := replKnownRow.holds Try.pinned (OpenSpec.ofChange replKnownWrong)

/- THE SECOND FORM. 'bulk': how many values and letters a reading holds, each counted each time it is reached (what is shared counts as often as it is met; a slice's spare places count too). A statement '..UptoSaid' is the law's where the arguments, and the package variables that the reading takes, are together of bulk at most 1048576: NARROWER than '..Said'. Prove '..Said' where nothing that the law and all that it calls make is longer than what came in: it says more and counts as full. Else prove '..UptoSaid'. A law counts once. -/
mutual
def uptoBulk {H : Type} : DataW H → Nat
  | .lit (.string bytes) => bytes.length + 1
  | .lit _ => 1
  | .nil => 1
  | .ptr d => uptoBulk d + 1
  | .slice elems spare => uptoBulkAll elems + uptoBulkAll spare + 1
  | .agg parts => uptoBulkAll parts + 1
  | .iface _ d => uptoBulk d + 1
  | .map entries => uptoBulkEntries entries + 1
  | .held _ => 1
def uptoBulkAll {H : Type} : List (DataW H) → Nat
  | [] => 0
  | d :: r => uptoBulk d + uptoBulkAll r
def uptoBulkEntries {H : Type} : List (Lit × DataW H) → Nat
  | [] => 0
  | x :: r => uptoBulkEntry x + uptoBulkEntries r
def uptoBulkEntry {H : Type} : Lit × DataW H → Nat
  | (.string bytes, d) => bytes.length + uptoBulk d + 1
  | (_, d) => uptoBulk d + 1
 end
def uptoSmall : (H : Type) → List (DataW H) → Bool := fun _ ds => decide (uptoBulkAll ds ≤ 1048576)
def OpenSpec.upto (s : _root_.Go.ChangeSpec) : _root_.Go.OpenSpec := { _root_.Go.OpenSpec.ofChange s with cond := some uptoSmall }

/-- 'semaphorelaw25.ReplDiffs', WHERE WHAT IT READS IS OF BULK AT MOST 1048576: true; the input reads as it did. -/
def replDiffsUptoRow : OpenClaim := { program := "ytlmikadohcdclaa", sum := "d53f4cf91c658261fc4d651ae108b5bc1dab3442c16da2a91336d4e63e03e8c3", func := "semaphore/semaphorelaw25.ReplDiffs", spec := "replDiffs", unfollowed := true, recurses := true, apart := false, narrowed := true }
def ReplDiffsUptoSaid : Prop := replDiffsUptoRow.holds Try.pinned (OpenSpec.upto replDiffsSpec)

/-- 'semaphorelaw25.ReplFollows', WHERE WHAT IT READS IS OF BULK AT MOST 1048576: true; the input reads as it did. -/
def replFollowsUptoRow : OpenClaim := { program := "ytlmikadohcdclaa", sum := "d53f4cf91c658261fc4d651ae108b5bc1dab3442c16da2a91336d4e63e03e8c3", func := "semaphore/semaphorelaw25.ReplFollows", spec := "replFollows", unfollowed := true, recurses := true, apart := false, narrowed := true }
def ReplFollowsUptoSaid : Prop := replFollowsUptoRow.holds Try.pinned (OpenSpec.upto replFollowsSpec)

/-- 'semaphorelaw25.ReplPlays', WHERE WHAT IT READS IS OF BULK AT MOST 1048576: true; the input reads as it did. -/
def replPlaysUptoRow : OpenClaim := { program := "ytlmikadohcdclaa", sum := "d53f4cf91c658261fc4d651ae108b5bc1dab3442c16da2a91336d4e63e03e8c3", func := "semaphore/semaphorelaw25.ReplPlays", spec := "replPlays", unfollowed := true, recurses := true, apart := false, narrowed := true }
def ReplPlaysUptoSaid : Prop := replPlaysUptoRow.holds Try.pinned (OpenSpec.upto replPlaysSpec)

/-- 'semaphorelaw25.ReplBytes', WHERE WHAT IT READS IS OF BULK AT MOST 1048576: true; the input reads as it did. -/
def replBytesUptoRow : OpenClaim := { program := "ytlmikadohcdclaa", sum := "d53f4cf91c658261fc4d651ae108b5bc1dab3442c16da2a91336d4e63e03e8c3", func := "semaphore/semaphorelaw25.ReplBytes", spec := "replBytes", unfollowed := true, recurses := true, apart := false, narrowed := true }
def ReplBytesUptoSaid : Prop := replBytesUptoRow.holds Try.pinned (OpenSpec.upto replBytesSpec)

/-- 'semaphorelaw25.ReplKnown', WHERE WHAT IT READS IS OF BULK AT MOST 1048576: true; the input reads as it did. -/
def replKnownUptoRow : OpenClaim := { program := "ytlmikadohcdclaa", sum := "d53f4cf91c658261fc4d651ae108b5bc1dab3442c16da2a91336d4e63e03e8c3", func := "semaphore/semaphorelaw25.ReplKnown", spec := "replKnown", unfollowed := true, recurses := true, apart := false, narrowed := true }
def ReplKnownUptoSaid : Prop := replKnownUptoRow.holds Try.pinned (OpenSpec.upto replKnownSpec)

end Rows
end Go.Proofs.Ytlmikadohcdclaa
