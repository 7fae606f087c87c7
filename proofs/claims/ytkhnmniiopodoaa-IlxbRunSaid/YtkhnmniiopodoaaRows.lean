/-
  No cell of these rows narrows 'for every input' (looked for: loops, veiled, ifaces, maps, wideKeys, modest, calm, conditions, laid).
  DERIVED. THE GIVEN ROWS OF THIS SEAT. 4 by the template 'for every input the law returns true; each argument reads behind the call as it read before'; 0 by the template 'total and deterministic' (their statements: YtkhnmniiopodoaaTotals.lean).
  GIVEN WITH THE SEED: the statements are not yours to turn. If you find one false, say at which input.
  Laid BY PROGRAM, IN A SANDBOX (cutbox-rows.mjs): the forced cells as the released guide's own fill.sh prints them over the translation 8be11a34ad6581bc… (all of the seat's roots in one cut). By AI agents, Wed Nov 11 2026. No macro, syntax, notation, axiom, sorry.
-/
import Derived.Test.YtkhnmniiopodoaaChecked
import GoSem.Claim
import GoSem.ClaimJoined
import GoSem.ClaimMapViews
import Derived.JoinedTies
import Derived.KernelRfl
namespace Go.Proofs.Ytkhnmniiopodoaa
/- THE CELL 'sum', in the pinned program and in every row, IS THE sha256 OF THE DUMP (.gsa) THAT YtkhnmniiopodoaaProg.lean LOADS. Nothing in Lean hashes anything: it is a label: what it is worth is what the hold of that sum in a sandbox is worth. -/
noncomputable def Try.pinned : Pinned := { name := "ytkhnmniiopodoaa", sum := "8be11a34ad6581bcaa7d1975df17427005d8169a9f3a84f62af59ced3e9d4dfa", checked := Try.checked }
namespace Rows
def none {H : Type} : Left H := { results := [], args := [] }

/-- 'semaphorelaw11.IlxbTidy': WHATEVER THE INPUT: true; the input reads as it did. -/
def ilxbTidySpec : ChangeSpec := { name := "ilxbTidy", fn := fun _ => fun
  | [d1, d2] => { results := [.lit (.bool true)], args := [d1, d2] }
  | _ => none }
def ilxbTidyRow : OpenClaim := { program := "ytkhnmniiopodoaa", sum := "8be11a34ad6581bcaa7d1975df17427005d8169a9f3a84f62af59ced3e9d4dfa", func := "semaphore/semaphorelaw11.IlxbTidy", spec := "ilxbTidy", unfollowed := true, recurses := true, apart := false }
def IlxbTidySaid : Prop := ilxbTidyRow.holds Try.pinned (OpenSpec.ofChange ilxbTidySpec)

/-- ITS FALSE NEIGHBOUR: 'it returns false'. Refute it at one input. -/
def ilxbTidyWrong : ChangeSpec := { name := "ilxbTidy", fn := fun _ => fun
  | [d1, d2] => { results := [.lit (.bool false)], args := [d1, d2] }
  | _ => none }
def IlxbTidyWrongFalsely : Prop := ilxbTidyRow.holds Try.pinned (OpenSpec.ofChange ilxbTidyWrong)

/-- 'semaphorelaw11.IlxbStep': WHATEVER THE INPUT: true; the input reads as it did. -/
def ilxbStepSpec : ChangeSpec := { name := "ilxbStep", fn := fun _ => fun
  | [d1, d2, d3] => { results := [.lit (.bool true)], args := [d1, d2, d3] }
  | _ => none }
def ilxbStepRow : OpenClaim := { program := "ytkhnmniiopodoaa", sum := "8be11a34ad6581bcaa7d1975df17427005d8169a9f3a84f62af59ced3e9d4dfa", func := "semaphore/semaphorelaw11.IlxbStep", spec := "ilxbStep", unfollowed := true, recurses := true, apart := false }
def IlxbStepSaid : Prop := ilxbStepRow.holds Try.pinned (OpenSpec.ofChange ilxbStepSpec)

/-- ITS FALSE NEIGHBOUR: 'it returns false'. Refute it at one input. -/
def ilxbStepWrong : ChangeSpec := { name := "ilxbStep", fn := fun _ => fun
  | [d1, d2, d3] => { results := [.lit (.bool false)], args := [d1, d2, d3] }
  | _ => none }
def IlxbStepWrongFalsely : Prop := ilxbStepRow.holds Try.pinned (OpenSpec.ofChange ilxbStepWrong)

/-- 'semaphorelaw11.IlxbRun': WHATEVER THE INPUT: true; the input reads as it did. -/
def ilxbRunSpec : ChangeSpec := { name := "ilxbRun", fn := fun _ => fun
  | [d1, d2] => { results := [.lit (.bool true)], args := [d1, d2] }
  | _ => none }
def ilxbRunRow : OpenClaim := { program := "ytkhnmniiopodoaa", sum := "8be11a34ad6581bcaa7d1975df17427005d8169a9f3a84f62af59ced3e9d4dfa", func := "semaphore/semaphorelaw11.IlxbRun", spec := "ilxbRun", unfollowed := true, recurses := true, apart := false }
def IlxbRunSaid : Prop := ilxbRunRow.holds Try.pinned (OpenSpec.ofChange ilxbRunSpec)

/-- ITS FALSE NEIGHBOUR: 'it returns false'. Refute it at one input. -/
def ilxbRunWrong : ChangeSpec := { name := "ilxbRun", fn := fun _ => fun
  | [d1, d2] => { results := [.lit (.bool false)], args := [d1, d2] }
  | _ => none }
def IlxbRunWrongFalsely : Prop := ilxbRunRow.holds Try.pinned (OpenSpec.ofChange ilxbRunWrong)

/-- 'semaphorelaw11.IlxbSame': WHATEVER THE INPUT: true; the input reads as it did. -/
def ilxbSameSpec : ChangeSpec := { name := "ilxbSame", fn := fun _ => fun
  | [d1, d2, d3] => { results := [.lit (.bool true)], args := [d1, d2, d3] }
  | _ => none }
def ilxbSameRow : OpenClaim := { program := "ytkhnmniiopodoaa", sum := "8be11a34ad6581bcaa7d1975df17427005d8169a9f3a84f62af59ced3e9d4dfa", func := "semaphore/semaphorelaw11.IlxbSame", spec := "ilxbSame", unfollowed := true, recurses := true, apart := false }
def IlxbSameSaid : Prop := ilxbSameRow.holds Try.pinned (OpenSpec.ofChange ilxbSameSpec)

/-- ITS FALSE NEIGHBOUR: 'it returns false'. Refute it at one input. -/
def ilxbSameWrong : ChangeSpec := { name := "ilxbSame", fn := fun _ => fun
  | [d1, d2, d3] => { results := [.lit (.bool false)], args := [d1, d2, d3] }
  | _ => none }
def IlxbSameWrongFalsely : Prop := ilxbSameRow.holds Try.pinned (OpenSpec.ofChange ilxbSameWrong)

/- THE SECOND FORM. 'bulk': how many values and letters a reading holds, each counted each time it is reached (what is shared counts as often as it is met; a slice's spare places count too). A statement '..UptoSaid' is the law's where the arguments, and the package variables that the reading takes, are together of bulk at most 1048576: NARROWER than '..Said'. Prove '..Said' where nothing that the law and all that it calls make is longer than what came in: it says more and counts as full. Else prove '..UptoSaid'. A law counts once. -/
mutual
def uptoBulk {H : Type} : DataW H → Nat
  | .lit (.string bytes) => bytes.length + 1
  | .lit _ => 1
  | .nil => 1
  | .ptr d => uptoBulk d + 1
  | .slice elems spare => uptoBulkAll elems + uptoBulkAll spare + 1
  | .agg parts => uptoBulkAll parts + 1
  | .iface _ d => uptoBulk d + 1
  | .map entries => uptoBulkEntries entries + 1
  | .held _ => 1
def uptoBulkAll {H : Type} : List (DataW H) → Nat
  | [] => 0
  | d :: r => uptoBulk d + uptoBulkAll r
def uptoBulkEntries {H : Type} : List (Lit × DataW H) → Nat
  | [] => 0
  | x :: r => uptoBulkEntry x + uptoBulkEntries r
def uptoBulkEntry {H : Type} : Lit × DataW H → Nat
  | (.string bytes, d) => bytes.length + uptoBulk d + 1
  | (_, d) => uptoBulk d + 1
 end
def uptoSmall : (H : Type) → List (DataW H) → Bool := fun _ ds => decide (uptoBulkAll ds ≤ 1048576)
def OpenSpec.upto (s : _root_.Go.ChangeSpec) : _root_.Go.OpenSpec := { _root_.Go.OpenSpec.ofChange s with cond := some uptoSmall }

/-- 'semaphorelaw11.IlxbTidy', WHERE WHAT IT READS IS OF BULK AT MOST 1048576: true; the input reads as it did. -/
def ilxbTidyUptoRow : OpenClaim := { program := "ytkhnmniiopodoaa", sum := "8be11a34ad6581bcaa7d1975df17427005d8169a9f3a84f62af59ced3e9d4dfa", func := "semaphore/semaphorelaw11.IlxbTidy", spec := "ilxbTidy", unfollowed := true, recurses := true, apart := false, narrowed := true }
def IlxbTidyUptoSaid : Prop := ilxbTidyUptoRow.holds Try.pinned (OpenSpec.upto ilxbTidySpec)

/-- 'semaphorelaw11.IlxbStep', WHERE WHAT IT READS IS OF BULK AT MOST 1048576: true; the input reads as it did. -/
def ilxbStepUptoRow : OpenClaim := { program := "ytkhnmniiopodoaa", sum := "8be11a34ad6581bcaa7d1975df17427005d8169a9f3a84f62af59ced3e9d4dfa", func := "semaphore/semaphorelaw11.IlxbStep", spec := "ilxbStep", unfollowed := true, recurses := true, apart := false, narrowed := true }
def IlxbStepUptoSaid : Prop := ilxbStepUptoRow.holds Try.pinned (OpenSpec.upto ilxbStepSpec)

/-- 'semaphorelaw11.IlxbRun', WHERE WHAT IT READS IS OF BULK AT MOST 1048576: true; the input reads as it did. -/
def ilxbRunUptoRow : OpenClaim := { program := "ytkhnmniiopodoaa", sum := "8be11a34ad6581bcaa7d1975df17427005d8169a9f3a84f62af59ced3e9d4dfa", func := "semaphore/semaphorelaw11.IlxbRun", spec := "ilxbRun", unfollowed := true, recurses := true, apart := false, narrowed := true }
def IlxbRunUptoSaid : Prop := ilxbRunUptoRow.holds Try.pinned (OpenSpec.upto ilxbRunSpec)

/-- 'semaphorelaw11.IlxbSame', WHERE WHAT IT READS IS OF BULK AT MOST 1048576: true; the input reads as it did. -/
def ilxbSameUptoRow : OpenClaim := { program := "ytkhnmniiopodoaa", sum := "8be11a34ad6581bcaa7d1975df17427005d8169a9f3a84f62af59ced3e9d4dfa", func := "semaphore/semaphorelaw11.IlxbSame", spec := "ilxbSame", unfollowed := true, recurses := true, apart := false, narrowed := true }
def IlxbSameUptoSaid : Prop := ilxbSameUptoRow.holds Try.pinned (OpenSpec.upto ilxbSameSpec)

end Rows
end Go.Proofs.Ytkhnmniiopodoaa
