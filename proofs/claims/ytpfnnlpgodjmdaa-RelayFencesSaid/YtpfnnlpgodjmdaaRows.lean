/-
  No cell of these rows narrows 'for every input' (looked for: loops, veiled, ifaces, maps, wideKeys, modest, calm, conditions, laid).
  DERIVED. THE GIVEN ROWS OF THIS SEAT. 3 by the template 'for every input the law returns true; each argument reads behind the call as it read before'; 0 by the template 'total and deterministic' (their statements: YtpfnnlpgodjmdaaTotals.lean).
  GIVEN WITH THE SEED: the statements are not yours to turn. If you find one false, say at which input.
  Laid BY PROGRAM, IN A SANDBOX (cutbox-rows.mjs): the forced cells as the released guide's own fill.sh prints them over the translation 31b63faf91dcf5a0… (all of the seat's roots in one cut). By AI agents, Wed Nov 11 2026. No macro, syntax, notation, axiom, sorry.
-/
import Derived.Test.YtpfnnlpgodjmdaaChecked
import GoSem.Claim
import GoSem.ClaimJoined
import GoSem.ClaimMapViews
import Derived.JoinedTies
import Derived.KernelRfl
namespace Go.Proofs.Ytpfnnlpgodjmdaa
/- THE CELL 'sum', in the pinned program and in every row, IS THE sha256 OF THE DUMP (.gsa) THAT YtpfnnlpgodjmdaaProg.lean LOADS. Nothing in Lean hashes anything: it is a label: what it is worth is what the hold of that sum in a sandbox is worth. -/
noncomputable def Try.pinned : Pinned := { name := "ytpfnnlpgodjmdaa", sum := "31b63faf91dcf5a013ace2765eabb892c8636a0e81fa3c08fc1cba3088a522b6", checked := Try.checked }
namespace Rows
def none {H : Type} : Left H := { results := [], args := [] }

/-- 'semaphorelaw24.RelayPlays': WHATEVER THE INPUT: true; the input reads as it did. -/
def relayPlaysSpec : ChangeSpec := { name := "relayPlays", fn := fun _ => fun
  | [d1, d2] => { results := [.lit (.bool true)], args := [d1, d2] }
  | _ => none }
def relayPlaysRow : OpenClaim := { program := "ytpfnnlpgodjmdaa", sum := "31b63faf91dcf5a013ace2765eabb892c8636a0e81fa3c08fc1cba3088a522b6", func := "semaphore/semaphorelaw24.RelayPlays", spec := "relayPlays", apart := false }
def RelayPlaysSaid : Prop := relayPlaysRow.holds Try.pinned (OpenSpec.ofChange relayPlaysSpec)

/-- ITS FALSE NEIGHBOUR: 'it returns false'. Refute it at one input. -/
def relayPlaysWrong : ChangeSpec := { name := "relayPlays", fn := fun _ => fun
  | [d1, d2] => { results := [.lit (.bool false)], args := [d1, d2] }
  | _ => none }
def RelayPlaysWrongFalsely : Prop := relayPlaysRow.holds Try.pinned (OpenSpec.ofChange relayPlaysWrong)

/-- 'semaphorelaw24.RelayFences': WHATEVER THE INPUT: true; the input reads as it did. -/
def relayFencesSpec : ChangeSpec := { name := "relayFences", fn := fun _ => fun
  | [d1, d2] => { results := [.lit (.bool true)], args := [d1, d2] }
  | _ => none }
def relayFencesRow : OpenClaim := { program := "ytpfnnlpgodjmdaa", sum := "31b63faf91dcf5a013ace2765eabb892c8636a0e81fa3c08fc1cba3088a522b6", func := "semaphore/semaphorelaw24.RelayFences", spec := "relayFences", apart := false }
def RelayFencesSaid : Prop := relayFencesRow.holds Try.pinned (OpenSpec.ofChange relayFencesSpec)

/-- ITS FALSE NEIGHBOUR: 'it returns false'. Refute it at one input. -/
def relayFencesWrong : ChangeSpec := { name := "relayFences", fn := fun _ => fun
  | [d1, d2] => { results := [.lit (.bool false)], args := [d1, d2] }
  | _ => none }
def RelayFencesWrongFalsely : Prop := relayFencesRow.holds Try.pinned (OpenSpec.ofChange relayFencesWrong)

/-- 'semaphorelaw24.RelayKnown': WHATEVER THE INPUT: true; the input reads as it did. -/
def relayKnownSpec : ChangeSpec := { name := "relayKnown", fn := fun _ => fun
  | [] => { results := [.lit (.bool true)], args := [] }
  | _ => none }
def relayKnownRow : OpenClaim := { program := "ytpfnnlpgodjmdaa", sum := "31b63faf91dcf5a013ace2765eabb892c8636a0e81fa3c08fc1cba3088a522b6", func := "semaphore/semaphorelaw24.RelayKnown", spec := "relayKnown", apart := false }
def RelayKnownSaid : Prop := relayKnownRow.holds Try.pinned (OpenSpec.ofChange relayKnownSpec)

/-- ITS FALSE NEIGHBOUR: 'it returns false'. Refute it at one input. -/
def relayKnownWrong : ChangeSpec := { name := "relayKnown", fn := fun _ => fun
  | [] => { results := [.lit (.bool false)], args := [] }
  | _ => none }
def RelayKnownWrongFalsely : Prop := relayKnownRow.holds Try.pinned (OpenSpec.ofChange relayKnownWrong)

/- THE SECOND FORM. 'bulk': how many values and letters a reading holds, each counted each time it is reached (what is shared counts as often as it is met; a slice's spare places count too). A statement '..UptoSaid' is the law's where the arguments, and the package variables that the reading takes, are together of bulk at most 1048576: NARROWER than '..Said'. Prove '..Said' where nothing that the law and all that it calls make is longer than what came in: it says more and counts as full. Else prove '..UptoSaid'. A law counts once. -/
mutual
def uptoBulk {H : Type} : DataW H → Nat
  | .lit (.string bytes) => bytes.length + 1
  | .lit _ => 1
  | .nil => 1
  | .ptr d => uptoBulk d + 1
  | .slice elems spare => uptoBulkAll elems + uptoBulkAll spare + 1
  | .agg parts => uptoBulkAll parts + 1
  | .iface _ d => uptoBulk d + 1
  | .map entries => uptoBulkEntries entries + 1
  | .held _ => 1
def uptoBulkAll {H : Type} : List (DataW H) → Nat
  | [] => 0
  | d :: r => uptoBulk d + uptoBulkAll r
def uptoBulkEntries {H : Type} : List (Lit × DataW H) → Nat
  | [] => 0
  | x :: r => uptoBulkEntry x + uptoBulkEntries r
def uptoBulkEntry {H : Type} : Lit × DataW H → Nat
  | (.string bytes, d) => bytes.length + uptoBulk d + 1
  | (_, d) => uptoBulk d + 1
 end
def uptoSmall : (H : Type) → List (DataW H) → Bool := fun _ ds => decide (uptoBulkAll ds ≤ 1048576)
def OpenSpec.upto (s : _root_.Go.ChangeSpec) : _root_.Go.OpenSpec := { _root_.Go.OpenSpec.ofChange s with cond := some uptoSmall }

/-- 'semaphorelaw24.RelayPlays', WHERE WHAT IT READS IS OF BULK AT MOST 1048576: true; the input reads as it did. -/
def relayPlaysUptoRow : OpenClaim := { program := "ytpfnnlpgodjmdaa", sum := "31b63faf91dcf5a013ace2765eabb892c8636a0e81fa3c08fc1cba3088a522b6", func := "semaphore/semaphorelaw24.RelayPlays", spec := "relayPlays", apart := false, narrowed := true }
def RelayPlaysUptoSaid : Prop := relayPlaysUptoRow.holds Try.pinned (OpenSpec.upto relayPlaysSpec)

/-- 'semaphorelaw24.RelayFences', WHERE WHAT IT READS IS OF BULK AT MOST 1048576: true; the input reads as it did. -/
def relayFencesUptoRow : OpenClaim := { program := "ytpfnnlpgodjmdaa", sum := "31b63faf91dcf5a013ace2765eabb892c8636a0e81fa3c08fc1cba3088a522b6", func := "semaphore/semaphorelaw24.RelayFences", spec := "relayFences", apart := false, narrowed := true }
def RelayFencesUptoSaid : Prop := relayFencesUptoRow.holds Try.pinned (OpenSpec.upto relayFencesSpec)

/-- 'semaphorelaw24.RelayKnown', WHERE WHAT IT READS IS OF BULK AT MOST 1048576: true; the input reads as it did. -/
def relayKnownUptoRow : OpenClaim := { program := "ytpfnnlpgodjmdaa", sum := "31b63faf91dcf5a013ace2765eabb892c8636a0e81fa3c08fc1cba3088a522b6", func := "semaphore/semaphorelaw24.RelayKnown", spec := "relayKnown", apart := false, narrowed := true }
def RelayKnownUptoSaid : Prop := relayKnownUptoRow.holds Try.pinned (OpenSpec.upto relayKnownSpec)

end Rows
end Go.Proofs.Ytpfnnlpgodjmdaa
