/-
  No cell of these rows narrows 'for every input' (looked for: loops, veiled, ifaces, maps, wideKeys, modest, calm, conditions, laid).
  DERIVED. THE GIVEN ROWS OF THIS SEAT. 4 by the template 'for every input the law returns true; each argument reads behind the call as it read before'; 0 by the template 'total and deterministic' (their statements: YtpfnjeiiajeigaaGreatTotals.lean).
  GIVEN WITH THE SEED: the statements are not yours to turn. If you find one false, say at which input.
  Laid BY PROGRAM, IN A SANDBOX (cutbox-rows.mjs): the forced cells as the released guide's own fill.sh prints them over the translation 102ed6cd3b460d45… (all of the seat's roots in one cut). By AI agents, Wed Nov 11 2026. No macro, syntax, notation, axiom, sorry.
-/
import Derived.Test.YtpfnjeiiajeigaaGreatChecked
import GoSem.Claim
import GoSem.ClaimJoined
import GoSem.ClaimMapViews
import Derived.JoinedTies
import Derived.KernelRfl
namespace Go.Proofs.YtpfnjeiiajeigaaGreat
/- THE CELL 'sum', in the pinned program and in every row, IS THE sha256 OF THE DUMP (.gsa) THAT YtpfnjeiiajeigaaGreatProg.lean LOADS. Nothing in Lean hashes anything: it is a label: what it is worth is what the hold of that sum in a sandbox is worth. -/
noncomputable def Tryz.pinned : Pinned := { name := "ytpfnjeiiajeigaagreat", sum := "102ed6cd3b460d4542303d648f3dfa16975e133ba59a1d34fc9f26646616772e", checked := Tryz.checked }
namespace Rows
def none {H : Type} : Left H := { results := [], args := [] }

/-- 'semaphorelaw21.ChannelSame': WHATEVER THE INPUT: true; the input reads as it did. -/
def channelSameSpec : ChangeSpec := { name := "channelSame", fn := fun _ => fun
  | [d1, d2, d3, d4] => { results := [.lit (.bool true)], args := [d1, d2, d3, d4] }
  | _ => none }
def channelSameRow : OpenClaim := { program := "ytpfnjeiiajeigaagreat", sum := "102ed6cd3b460d4542303d648f3dfa16975e133ba59a1d34fc9f26646616772e", func := "semaphore/semaphorelaw21.ChannelSame", spec := "channelSame", unfollowed := true, recurses := true, apart := false }
def ChannelSameSaid : Prop := channelSameRow.holds Tryz.pinned (OpenSpec.ofChange channelSameSpec)

/-- ITS FALSE NEIGHBOUR: 'it returns false'. Refute it at one input. -/
def channelSameWrong : ChangeSpec := { name := "channelSame", fn := fun _ => fun
  | [d1, d2, d3, d4] => { results := [.lit (.bool false)], args := [d1, d2, d3, d4] }
  | _ => none }
def ChannelSameWrongFalsely : Prop := channelSameRow.holds Tryz.pinned (OpenSpec.ofChange channelSameWrong)

/-- 'semaphorelaw21.ChannelPlays': WHATEVER THE INPUT: true; the input reads as it did. -/
def channelPlaysSpec : ChangeSpec := { name := "channelPlays", fn := fun _ => fun
  | [d1, d2, d3] => { results := [.lit (.bool true)], args := [d1, d2, d3] }
  | _ => none }
def channelPlaysRow : OpenClaim := { program := "ytpfnjeiiajeigaagreat", sum := "102ed6cd3b460d4542303d648f3dfa16975e133ba59a1d34fc9f26646616772e", func := "semaphore/semaphorelaw21.ChannelPlays", spec := "channelPlays", unfollowed := true, recurses := true, apart := false }
def ChannelPlaysSaid : Prop := channelPlaysRow.holds Tryz.pinned (OpenSpec.ofChange channelPlaysSpec)

/-- ITS FALSE NEIGHBOUR: 'it returns false'. Refute it at one input. -/
def channelPlaysWrong : ChangeSpec := { name := "channelPlays", fn := fun _ => fun
  | [d1, d2, d3] => { results := [.lit (.bool false)], args := [d1, d2, d3] }
  | _ => none }
def ChannelPlaysWrongFalsely : Prop := channelPlaysRow.holds Tryz.pinned (OpenSpec.ofChange channelPlaysWrong)

/-- 'semaphorelaw21.ChannelNone': WHATEVER THE INPUT: true; the input reads as it did. -/
def channelNoneSpec : ChangeSpec := { name := "channelNone", fn := fun _ => fun
  | [d1, d2] => { results := [.lit (.bool true)], args := [d1, d2] }
  | _ => none }
def channelNoneRow : OpenClaim := { program := "ytpfnjeiiajeigaagreat", sum := "102ed6cd3b460d4542303d648f3dfa16975e133ba59a1d34fc9f26646616772e", func := "semaphore/semaphorelaw21.ChannelNone", spec := "channelNone", unfollowed := true, recurses := true, apart := false }
def ChannelNoneSaid : Prop := channelNoneRow.holds Tryz.pinned (OpenSpec.ofChange channelNoneSpec)

/-- ITS FALSE NEIGHBOUR: 'it returns false'. Refute it at one input. -/
def channelNoneWrong : ChangeSpec := { name := "channelNone", fn := fun _ => fun
  | [d1, d2] => { results := [.lit (.bool false)], args := [d1, d2] }
  | _ => none }
def ChannelNoneWrongFalsely : Prop := channelNoneRow.holds Tryz.pinned (OpenSpec.ofChange channelNoneWrong)

/-- 'semaphorelaw21.ChannelKnown': WHATEVER THE INPUT: true; the input reads as it did. -/
def channelKnownSpec : ChangeSpec := { name := "channelKnown", fn := fun _ => fun
  | [] => { results := [.lit (.bool true)], args := [] }
  | _ => none }
def channelKnownRow : OpenClaim := { program := "ytpfnjeiiajeigaagreat", sum := "102ed6cd3b460d4542303d648f3dfa16975e133ba59a1d34fc9f26646616772e", func := "semaphore/semaphorelaw21.ChannelKnown", spec := "channelKnown", unfollowed := true, recurses := true, apart := false }
def ChannelKnownSaid : Prop := channelKnownRow.holds Tryz.pinned (OpenSpec.ofChange channelKnownSpec)

/-- ITS FALSE NEIGHBOUR: 'it returns false'. Refute it at one input. -/
def channelKnownWrong : ChangeSpec := { name := "channelKnown", fn := fun _ => fun
  | [] => { results := [.lit (.bool false)], args := [] }
  | _ => none }
def ChannelKnownWrongFalsely : Prop := channelKnownRow.holds Tryz.pinned (OpenSpec.ofChange channelKnownWrong)

/- THE SECOND FORM. 'bulk': how many values and letters a reading holds, each counted each time it is reached (what is shared counts as often as it is met; a slice's spare places count too). A statement '..UptoSaid' is the law's where the arguments, and the package variables that the reading takes, are together of bulk at most 1048576: NARROWER than '..Said'. Prove '..Said' where nothing that the law and all that it calls make is longer than what came in: it says more and counts as full. Else prove '..UptoSaid'. A law counts once. -/
mutual
def uptoBulk {H : Type} : DataW H → Nat
  | .lit (.string bytes) => bytes.length + 1
  | .lit _ => 1
  | .nil => 1
  | .ptr d => uptoBulk d + 1
  | .slice elems spare => uptoBulkAll elems + uptoBulkAll spare + 1
  | .agg parts => uptoBulkAll parts + 1
  | .iface _ d => uptoBulk d + 1
  | .map entries => uptoBulkEntries entries + 1
  | .held _ => 1
def uptoBulkAll {H : Type} : List (DataW H) → Nat
  | [] => 0
  | d :: r => uptoBulk d + uptoBulkAll r
def uptoBulkEntries {H : Type} : List (Lit × DataW H) → Nat
  | [] => 0
  | x :: r => uptoBulkEntry x + uptoBulkEntries r
def uptoBulkEntry {H : Type} : Lit × DataW H → Nat
  | (.string bytes, d) => bytes.length + uptoBulk d + 1
  | (_, d) => uptoBulk d + 1
 end
def uptoSmall : (H : Type) → List (DataW H) → Bool := fun _ ds => decide (uptoBulkAll ds ≤ 1048576)
def OpenSpec.upto (s : _root_.Go.ChangeSpec) : _root_.Go.OpenSpec := { _root_.Go.OpenSpec.ofChange s with cond := some uptoSmall }

/-- 'semaphorelaw21.ChannelSame', WHERE WHAT IT READS IS OF BULK AT MOST 1048576: true; the input reads as it did. -/
def channelSameUptoRow : OpenClaim := { program := "ytpfnjeiiajeigaagreat", sum := "102ed6cd3b460d4542303d648f3dfa16975e133ba59a1d34fc9f26646616772e", func := "semaphore/semaphorelaw21.ChannelSame", spec := "channelSame", unfollowed := true, recurses := true, apart := false, narrowed := true }
def ChannelSameUptoSaid : Prop := channelSameUptoRow.holds Tryz.pinned (OpenSpec.upto channelSameSpec)

/-- 'semaphorelaw21.ChannelPlays', WHERE WHAT IT READS IS OF BULK AT MOST 1048576: true; the input reads as it did. -/
def channelPlaysUptoRow : OpenClaim := { program := "ytpfnjeiiajeigaagreat", sum := "102ed6cd3b460d4542303d648f3dfa16975e133ba59a1d34fc9f26646616772e", func := "semaphore/semaphorelaw21.ChannelPlays", spec := "channelPlays", unfollowed := true, recurses := true, apart := false, narrowed := true }
def ChannelPlaysUptoSaid : Prop := channelPlaysUptoRow.holds Tryz.pinned (OpenSpec.upto channelPlaysSpec)

/-- 'semaphorelaw21.ChannelNone', WHERE WHAT IT READS IS OF BULK AT MOST 1048576: true; the input reads as it did. -/
def channelNoneUptoRow : OpenClaim := { program := "ytpfnjeiiajeigaagreat", sum := "102ed6cd3b460d4542303d648f3dfa16975e133ba59a1d34fc9f26646616772e", func := "semaphore/semaphorelaw21.ChannelNone", spec := "channelNone", unfollowed := true, recurses := true, apart := false, narrowed := true }
def ChannelNoneUptoSaid : Prop := channelNoneUptoRow.holds Tryz.pinned (OpenSpec.upto channelNoneSpec)

/-- 'semaphorelaw21.ChannelKnown', WHERE WHAT IT READS IS OF BULK AT MOST 1048576: true; the input reads as it did. -/
def channelKnownUptoRow : OpenClaim := { program := "ytpfnjeiiajeigaagreat", sum := "102ed6cd3b460d4542303d648f3dfa16975e133ba59a1d34fc9f26646616772e", func := "semaphore/semaphorelaw21.ChannelKnown", spec := "channelKnown", unfollowed := true, recurses := true, apart := false, narrowed := true }
def ChannelKnownUptoSaid : Prop := channelKnownUptoRow.holds Tryz.pinned (OpenSpec.upto channelKnownSpec)

end Rows
end Go.Proofs.YtpfnjeiiajeigaaGreat
