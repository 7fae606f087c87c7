/-
  No cell of these rows narrows 'for every input' (looked for: loops, veiled, ifaces, maps, wideKeys, modest, calm, conditions, laid).
  DERIVED. THE GIVEN ROWS OF THIS SEAT. 6 by the template 'for every input the law returns true; each argument reads behind the call as it read before'; 0 by the template 'total and deterministic' (their statements: YtfjdehnnfljjfaaGreatTotals.lean).
  GIVEN WITH THE SEED: the statements are not yours to turn. If you find one false, say at which input.
  Laid BY PROGRAM, IN A SANDBOX (cutbox-rows.mjs): the forced cells as the released guide's own fill.sh prints them over the translation 2c8e373760728bb5… (all of the seat's roots in one cut). By AI agents, Wed Nov 11 2026. No macro, syntax, notation, axiom, sorry.
-/
import Derived.Test.YtfjdehnnfljjfaaGreatChecked
import GoSem.Claim
import GoSem.ClaimJoined
import GoSem.ClaimMapViews
import Derived.JoinedTies
import Derived.KernelRfl
namespace Go.Proofs.YtfjdehnnfljjfaaGreat
/- THE CELL 'sum', in the pinned program and in every row, IS THE sha256 OF THE DUMP (.gsa) THAT YtfjdehnnfljjfaaGreatProg.lean LOADS. Nothing in Lean hashes anything: it is a label: what it is worth is what the hold of that sum in a sandbox is worth. -/
noncomputable def Tryz.pinned : Pinned := { name := "ytfjdehnnfljjfaagreat", sum := "2c8e373760728bb520bacd99bead85fded5bd560ec48bd56aecaf6b3f3849bba", checked := Tryz.checked }
namespace Rows
def none {H : Type} : Left H := { results := [], args := [] }

/-- 'semaphorelaw15.WalPlays': WHATEVER THE INPUT: true; the input reads as it did. -/
def walPlaysSpec : ChangeSpec := { name := "walPlays", fn := fun _ => fun
  | [d1, d2] => { results := [.lit (.bool true)], args := [d1, d2] }
  | _ => none }
def walPlaysRow : OpenClaim := { program := "ytfjdehnnfljjfaagreat", sum := "2c8e373760728bb520bacd99bead85fded5bd560ec48bd56aecaf6b3f3849bba", func := "semaphore/semaphorelaw15.WalPlays", spec := "walPlays", inPlace := ["internal/bytealg.Count", "internal/bytealg.IndexByte", "internal/bytealg.Index"], unfollowed := true, recurses := true, named := ["internal/bytealg.MaxLen"], apart := false }
def WalPlaysSaid : Prop := walPlaysRow.holds Tryz.pinned (OpenSpec.ofChange walPlaysSpec)

/-- ITS FALSE NEIGHBOUR: 'it returns false'. Refute it at one input. -/
def walPlaysWrong : ChangeSpec := { name := "walPlays", fn := fun _ => fun
  | [d1, d2] => { results := [.lit (.bool false)], args := [d1, d2] }
  | _ => none }
def WalPlaysWrongFalsely : Prop := walPlaysRow.holds Tryz.pinned (OpenSpec.ofChange walPlaysWrong)

/-- 'semaphorelaw15.WalKnown': WHATEVER THE INPUT: true; the input reads as it did. -/
def walKnownSpec : ChangeSpec := { name := "walKnown", fn := fun _ => fun
  | [] => { results := [.lit (.bool true)], args := [] }
  | _ => none }
def walKnownRow : OpenClaim := { program := "ytfjdehnnfljjfaagreat", sum := "2c8e373760728bb520bacd99bead85fded5bd560ec48bd56aecaf6b3f3849bba", func := "semaphore/semaphorelaw15.WalKnown", spec := "walKnown", inPlace := ["internal/bytealg.Count", "internal/bytealg.IndexByte", "internal/bytealg.Index"], unfollowed := true, recurses := true, named := ["internal/bytealg.MaxLen"], apart := false }
def WalKnownSaid : Prop := walKnownRow.holds Tryz.pinned (OpenSpec.ofChange walKnownSpec)

/-- ITS FALSE NEIGHBOUR: 'it returns false'. Refute it at one input. -/
def walKnownWrong : ChangeSpec := { name := "walKnown", fn := fun _ => fun
  | [] => { results := [.lit (.bool false)], args := [] }
  | _ => none }
def WalKnownWrongFalsely : Prop := walKnownRow.holds Tryz.pinned (OpenSpec.ofChange walKnownWrong)

/-- 'semaphorelaw16.CkptPlays': WHATEVER THE INPUT: true; the input reads as it did. -/
def ckptPlaysSpec : ChangeSpec := { name := "ckptPlays", fn := fun _ => fun
  | [d1, d2] => { results := [.lit (.bool true)], args := [d1, d2] }
  | _ => none }
def ckptPlaysRow : OpenClaim := { program := "ytfjdehnnfljjfaagreat", sum := "2c8e373760728bb520bacd99bead85fded5bd560ec48bd56aecaf6b3f3849bba", func := "semaphore/semaphorelaw16.CkptPlays", spec := "ckptPlays", inPlace := ["internal/bytealg.Count", "internal/bytealg.IndexByte", "internal/bytealg.Index"], unfollowed := true, recurses := true, named := ["internal/bytealg.MaxLen"], apart := false }
def CkptPlaysSaid : Prop := ckptPlaysRow.holds Tryz.pinned (OpenSpec.ofChange ckptPlaysSpec)

/-- ITS FALSE NEIGHBOUR: 'it returns false'. Refute it at one input. -/
def ckptPlaysWrong : ChangeSpec := { name := "ckptPlays", fn := fun _ => fun
  | [d1, d2] => { results := [.lit (.bool false)], args := [d1, d2] }
  | _ => none }
def CkptPlaysWrongFalsely : Prop := ckptPlaysRow.holds Tryz.pinned (OpenSpec.ofChange ckptPlaysWrong)

/-- 'semaphorelaw16.CkptKnown': WHATEVER THE INPUT: true; the input reads as it did. -/
def ckptKnownSpec : ChangeSpec := { name := "ckptKnown", fn := fun _ => fun
  | [] => { results := [.lit (.bool true)], args := [] }
  | _ => none }
def ckptKnownRow : OpenClaim := { program := "ytfjdehnnfljjfaagreat", sum := "2c8e373760728bb520bacd99bead85fded5bd560ec48bd56aecaf6b3f3849bba", func := "semaphore/semaphorelaw16.CkptKnown", spec := "ckptKnown", inPlace := ["internal/bytealg.Count", "internal/bytealg.IndexByte", "internal/bytealg.Index"], unfollowed := true, recurses := true, named := ["internal/bytealg.MaxLen"], apart := false }
def CkptKnownSaid : Prop := ckptKnownRow.holds Tryz.pinned (OpenSpec.ofChange ckptKnownSpec)

/-- ITS FALSE NEIGHBOUR: 'it returns false'. Refute it at one input. -/
def ckptKnownWrong : ChangeSpec := { name := "ckptKnown", fn := fun _ => fun
  | [] => { results := [.lit (.bool false)], args := [] }
  | _ => none }
def CkptKnownWrongFalsely : Prop := ckptKnownRow.holds Tryz.pinned (OpenSpec.ofChange ckptKnownWrong)

/-- 'semaphorelaw17.LockstorePlays': WHATEVER THE INPUT: true; the input reads as it did. -/
def lockstorePlaysSpec : ChangeSpec := { name := "lockstorePlays", fn := fun _ => fun
  | [d1, d2] => { results := [.lit (.bool true)], args := [d1, d2] }
  | _ => none }
def lockstorePlaysRow : OpenClaim := { program := "ytfjdehnnfljjfaagreat", sum := "2c8e373760728bb520bacd99bead85fded5bd560ec48bd56aecaf6b3f3849bba", func := "semaphore/semaphorelaw17.LockstorePlays", spec := "lockstorePlays", inPlace := ["internal/bytealg.Count", "internal/bytealg.IndexByte", "internal/bytealg.Index"], unfollowed := true, recurses := true, named := ["internal/bytealg.MaxLen"], apart := false }
def LockstorePlaysSaid : Prop := lockstorePlaysRow.holds Tryz.pinned (OpenSpec.ofChange lockstorePlaysSpec)

/-- ITS FALSE NEIGHBOUR: 'it returns false'. Refute it at one input. -/
def lockstorePlaysWrong : ChangeSpec := { name := "lockstorePlays", fn := fun _ => fun
  | [d1, d2] => { results := [.lit (.bool false)], args := [d1, d2] }
  | _ => none }
def LockstorePlaysWrongFalsely : Prop := lockstorePlaysRow.holds Tryz.pinned (OpenSpec.ofChange lockstorePlaysWrong)

/-- 'semaphorelaw17.LockstoreKnown': WHATEVER THE INPUT: true; the input reads as it did. -/
def lockstoreKnownSpec : ChangeSpec := { name := "lockstoreKnown", fn := fun _ => fun
  | [] => { results := [.lit (.bool true)], args := [] }
  | _ => none }
def lockstoreKnownRow : OpenClaim := { program := "ytfjdehnnfljjfaagreat", sum := "2c8e373760728bb520bacd99bead85fded5bd560ec48bd56aecaf6b3f3849bba", func := "semaphore/semaphorelaw17.LockstoreKnown", spec := "lockstoreKnown", inPlace := ["internal/bytealg.Count", "internal/bytealg.IndexByte", "internal/bytealg.Index"], unfollowed := true, recurses := true, named := ["internal/bytealg.MaxLen"], apart := false }
def LockstoreKnownSaid : Prop := lockstoreKnownRow.holds Tryz.pinned (OpenSpec.ofChange lockstoreKnownSpec)

/-- ITS FALSE NEIGHBOUR: 'it returns false'. Refute it at one input. -/
def lockstoreKnownWrong : ChangeSpec := { name := "lockstoreKnown", fn := fun _ => fun
  | [] => { results := [.lit (.bool false)], args := [] }
  | _ => none }
def LockstoreKnownWrongFalsely : Prop := lockstoreKnownRow.holds Tryz.pinned (OpenSpec.ofChange lockstoreKnownWrong)

/- THE SECOND FORM. 'bulk': how many values and letters a reading holds, each counted each time it is reached (what is shared counts as often as it is met; a slice's spare places count too). A statement '..UptoSaid' is the law's where the arguments, and the package variables that the reading takes, are together of bulk at most 1048576: NARROWER than '..Said'. Prove '..Said' where nothing that the law and all that it calls make is longer than what came in: it says more and counts as full. Else prove '..UptoSaid'. A law counts once. -/
mutual
def uptoBulk {H : Type} : DataW H → Nat
  | .lit (.string bytes) => bytes.length + 1
  | .lit _ => 1
  | .nil => 1
  | .ptr d => uptoBulk d + 1
  | .slice elems spare => uptoBulkAll elems + uptoBulkAll spare + 1
  | .agg parts => uptoBulkAll parts + 1
  | .iface _ d => uptoBulk d + 1
  | .map entries => uptoBulkEntries entries + 1
  | .held _ => 1
def uptoBulkAll {H : Type} : List (DataW H) → Nat
  | [] => 0
  | d :: r => uptoBulk d + uptoBulkAll r
def uptoBulkEntries {H : Type} : List (Lit × DataW H) → Nat
  | [] => 0
  | x :: r => uptoBulkEntry x + uptoBulkEntries r
def uptoBulkEntry {H : Type} : Lit × DataW H → Nat
  | (.string bytes, d) => bytes.length + uptoBulk d + 1
  | (_, d) => uptoBulk d + 1
 end
def uptoSmall : (H : Type) → List (DataW H) → Bool := fun _ ds => decide (uptoBulkAll ds ≤ 1048576)
def OpenSpec.upto (s : _root_.Go.ChangeSpec) : _root_.Go.OpenSpec := { _root_.Go.OpenSpec.ofChange s with cond := some uptoSmall }

/-- 'semaphorelaw15.WalPlays', WHERE WHAT IT READS IS OF BULK AT MOST 1048576: true; the input reads as it did. -/
def walPlaysUptoRow : OpenClaim := { program := "ytfjdehnnfljjfaagreat", sum := "2c8e373760728bb520bacd99bead85fded5bd560ec48bd56aecaf6b3f3849bba", func := "semaphore/semaphorelaw15.WalPlays", spec := "walPlays", inPlace := ["internal/bytealg.Count", "internal/bytealg.IndexByte", "internal/bytealg.Index"], unfollowed := true, recurses := true, named := ["internal/bytealg.MaxLen"], apart := false, narrowed := true }
def WalPlaysUptoSaid : Prop := walPlaysUptoRow.holds Tryz.pinned (OpenSpec.upto walPlaysSpec)

/-- 'semaphorelaw15.WalKnown', WHERE WHAT IT READS IS OF BULK AT MOST 1048576: true; the input reads as it did. -/
def walKnownUptoRow : OpenClaim := { program := "ytfjdehnnfljjfaagreat", sum := "2c8e373760728bb520bacd99bead85fded5bd560ec48bd56aecaf6b3f3849bba", func := "semaphore/semaphorelaw15.WalKnown", spec := "walKnown", inPlace := ["internal/bytealg.Count", "internal/bytealg.IndexByte", "internal/bytealg.Index"], unfollowed := true, recurses := true, named := ["internal/bytealg.MaxLen"], apart := false, narrowed := true }
def WalKnownUptoSaid : Prop := walKnownUptoRow.holds Tryz.pinned (OpenSpec.upto walKnownSpec)

/-- 'semaphorelaw16.CkptPlays', WHERE WHAT IT READS IS OF BULK AT MOST 1048576: true; the input reads as it did. -/
def ckptPlaysUptoRow : OpenClaim := { program := "ytfjdehnnfljjfaagreat", sum := "2c8e373760728bb520bacd99bead85fded5bd560ec48bd56aecaf6b3f3849bba", func := "semaphore/semaphorelaw16.CkptPlays", spec := "ckptPlays", inPlace := ["internal/bytealg.Count", "internal/bytealg.IndexByte", "internal/bytealg.Index"], unfollowed := true, recurses := true, named := ["internal/bytealg.MaxLen"], apart := false, narrowed := true }
def CkptPlaysUptoSaid : Prop := ckptPlaysUptoRow.holds Tryz.pinned (OpenSpec.upto ckptPlaysSpec)

/-- 'semaphorelaw16.CkptKnown', WHERE WHAT IT READS IS OF BULK AT MOST 1048576: true; the input reads as it did. -/
def ckptKnownUptoRow : OpenClaim := { program := "ytfjdehnnfljjfaagreat", sum := "2c8e373760728bb520bacd99bead85fded5bd560ec48bd56aecaf6b3f3849bba", func := "semaphore/semaphorelaw16.CkptKnown", spec := "ckptKnown", inPlace := ["internal/bytealg.Count", "internal/bytealg.IndexByte", "internal/bytealg.Index"], unfollowed := true, recurses := true, named := ["internal/bytealg.MaxLen"], apart := false, narrowed := true }
def CkptKnownUptoSaid : Prop := ckptKnownUptoRow.holds Tryz.pinned (OpenSpec.upto ckptKnownSpec)

/-- 'semaphorelaw17.LockstorePlays', WHERE WHAT IT READS IS OF BULK AT MOST 1048576: true; the input reads as it did. -/
def lockstorePlaysUptoRow : OpenClaim := { program := "ytfjdehnnfljjfaagreat", sum := "2c8e373760728bb520bacd99bead85fded5bd560ec48bd56aecaf6b3f3849bba", func := "semaphore/semaphorelaw17.LockstorePlays", spec := "lockstorePlays", inPlace := ["internal/bytealg.Count", "internal/bytealg.IndexByte", "internal/bytealg.Index"], unfollowed := true, recurses := true, named := ["internal/bytealg.MaxLen"], apart := false, narrowed := true }
def LockstorePlaysUptoSaid : Prop := lockstorePlaysUptoRow.holds Tryz.pinned (OpenSpec.upto lockstorePlaysSpec)

/-- 'semaphorelaw17.LockstoreKnown', WHERE WHAT IT READS IS OF BULK AT MOST 1048576: true; the input reads as it did. -/
def lockstoreKnownUptoRow : OpenClaim := { program := "ytfjdehnnfljjfaagreat", sum := "2c8e373760728bb520bacd99bead85fded5bd560ec48bd56aecaf6b3f3849bba", func := "semaphore/semaphorelaw17.LockstoreKnown", spec := "lockstoreKnown", inPlace := ["internal/bytealg.Count", "internal/bytealg.IndexByte", "internal/bytealg.Index"], unfollowed := true, recurses := true, named := ["internal/bytealg.MaxLen"], apart := false, narrowed := true }
def LockstoreKnownUptoSaid : Prop := lockstoreKnownUptoRow.holds Tryz.pinned (OpenSpec.upto lockstoreKnownSpec)

end Rows
end Go.Proofs.YtfjdehnnfljjfaaGreat
