/-
  NARROWER THAN 'FOR EVERY INPUT', by the rows' own cells (each row's printed sentence says how): NamesSigns: laid · NamesRight: laid · NamesWords: laid · NamesAgain: laid · NamesGroups: laid · NamesLines: laid · NamesKnown: laid.
  DERIVED. THE GIVEN ROWS OF THIS SEAT. 7 by the template 'for every input the law returns true; each argument reads behind the call as it read before'; 0 by the template 'total and deterministic' (their statements: YtijnnihkbebkkaaDoorTotals.lean).
  GIVEN WITH THE SEED: the statements are not yours to turn. If you find one false, say at which input.
  Laid BY PROGRAM, IN A SANDBOX (cutbox-rows.mjs): the forced cells as the released guide's own fill.sh prints them over the translation 7f55a25b1868cbf0… (all of the seat's roots in one cut). By AI agents, Wed Nov 11 2026. No macro, syntax, notation, axiom, sorry.
-/
import Derived.Test.YtijnnihkbebkkaaDoorChecked
import GoSem.PinnedTables
import GoSem.Claim
import GoSem.ClaimJoined
import GoSem.ClaimMapViews
import Derived.JoinedTies
import Derived.KernelRfl
namespace Go.Proofs.YtijnnihkbebkkaaDoor
/- THE CELL 'sum', in the pinned program and in every row, IS THE sha256 OF THE DUMP (.gsa) THAT YtijnnihkbebkkaaDoorProg.lean LOADS. Nothing in Lean hashes anything: it is a label: what it is worth is what the hold of that sum in a sandbox is worth. -/
noncomputable def Tryd.pinned : Pinned := { name := "ytijnnihkbebkkaadoor", sum := "7f55a25b1868cbf02c5a5f928a5f8fa8404c9fe9bb9cf284f508af6d78199ea6", checked := Tryd.checked }
namespace Rows
def none {H : Type} : Left H := { results := [], args := [] }

/- WHAT THE LISTED PACKAGE-LEVEL VARIABLES READ AS WHEN THE CALL BEGINS. Each datum BY PROGRAM (the guide's laid-datum.mjs) off the statement by which the dump's own 'gosem.cut.vars' lays the variable. In a bare row this is a premise. The card (YtijnnihkbebkkaaDoorCards.lean) ties it to the program's text. -/
def laid_unicode_utf8_acceptRanges {H : Type} : DataW H := .agg [.agg [.lit (.int .u8 128), .lit (.int .u8 191)], .agg [.lit (.int .u8 160), .lit (.int .u8 191)], .agg [.lit (.int .u8 128), .lit (.int .u8 159)], .agg [.lit (.int .u8 144), .lit (.int .u8 191)], .agg [.lit (.int .u8 128), .lit (.int .u8 143)], .agg [.lit (.int .u8 0), .lit (.int .u8 0)], .agg [.lit (.int .u8 0), .lit (.int .u8 0)], .agg [.lit (.int .u8 0), .lit (.int .u8 0)], .agg [.lit (.int .u8 0), .lit (.int .u8 0)], .agg [.lit (.int .u8 0), .lit (.int .u8 0)], .agg [.lit (.int .u8 0), .lit (.int .u8 0)], .agg [.lit (.int .u8 0), .lit (.int .u8 0)], .agg [.lit (.int .u8 0), .lit (.int .u8 0)], .agg [.lit (.int .u8 0), .lit (.int .u8 0)], .agg [.lit (.int .u8 0), .lit (.int .u8 0)], .agg [.lit (.int .u8 0), .lit (.int .u8 0)]]
/-- One of Go's own tables, pinned by name: the form's constant. -/
def laid_unicode_utf8_first : DataW Unit := Go.Pinned.utf8First

/-- 'semaphorelaw03.NamesSigns': WHATEVER THE INPUT: true; the input reads as it did. -/
def namesSignsSpec : ChangeSpec := { name := "namesSigns", fn := fun _ => fun
  | [d] => { results := [.lit (.bool true)], args := [d] }
  | _ => none }
def namesSignsRow : OpenClaim := { program := "ytijnnihkbebkkaadoor", sum := "7f55a25b1868cbf02c5a5f928a5f8fa8404c9fe9bb9cf284f508af6d78199ea6", func := "semaphore/semaphorelaw03.NamesSigns", spec := "namesSigns", inPlace := ["internal/bytealg.IndexByteString", "internal/bytealg.IndexString"], unfollowed := true, recurses := true, named := ["internal/bytealg.MaxLen", "unicode/utf8.first", "unicode/utf8.acceptRanges"], apart := false, laid := [("unicode/utf8.acceptRanges", laid_unicode_utf8_acceptRanges), ("unicode/utf8.first", laid_unicode_utf8_first)] }
def NamesSignsSaid : Prop := namesSignsRow.holds Tryd.pinned (OpenSpec.ofChange namesSignsSpec)

/-- ITS FALSE NEIGHBOUR: 'it returns false'. Refute it at one input. -/
def namesSignsWrong : ChangeSpec := { name := "namesSigns", fn := fun _ => fun
  | [d] => { results := [.lit (.bool false)], args := [d] }
  | _ => none }
def NamesSignsWrongFalsely : Prop := namesSignsRow.holds Tryd.pinned (OpenSpec.ofChange namesSignsWrong)

/-- 'semaphorelaw03.NamesRight': WHATEVER THE INPUT: true; the input reads as it did. -/
def namesRightSpec : ChangeSpec := { name := "namesRight", fn := fun _ => fun
  | [d] => { results := [.lit (.bool true)], args := [d] }
  | _ => none }
def namesRightRow : OpenClaim := { program := "ytijnnihkbebkkaadoor", sum := "7f55a25b1868cbf02c5a5f928a5f8fa8404c9fe9bb9cf284f508af6d78199ea6", func := "semaphore/semaphorelaw03.NamesRight", spec := "namesRight", inPlace := ["internal/bytealg.IndexByteString", "internal/bytealg.IndexString"], unfollowed := true, recurses := true, named := ["internal/bytealg.MaxLen", "unicode/utf8.first", "unicode/utf8.acceptRanges"], apart := false, laid := [("unicode/utf8.acceptRanges", laid_unicode_utf8_acceptRanges), ("unicode/utf8.first", laid_unicode_utf8_first)] }
def NamesRightSaid : Prop := namesRightRow.holds Tryd.pinned (OpenSpec.ofChange namesRightSpec)

/-- ITS FALSE NEIGHBOUR: 'it returns false'. Refute it at one input. -/
def namesRightWrong : ChangeSpec := { name := "namesRight", fn := fun _ => fun
  | [d] => { results := [.lit (.bool false)], args := [d] }
  | _ => none }
def NamesRightWrongFalsely : Prop := namesRightRow.holds Tryd.pinned (OpenSpec.ofChange namesRightWrong)

/-- 'semaphorelaw03.NamesWords': WHATEVER THE INPUT: true; the input reads as it did. -/
def namesWordsSpec : ChangeSpec := { name := "namesWords", fn := fun _ => fun
  | [d] => { results := [.lit (.bool true)], args := [d] }
  | _ => none }
def namesWordsRow : OpenClaim := { program := "ytijnnihkbebkkaadoor", sum := "7f55a25b1868cbf02c5a5f928a5f8fa8404c9fe9bb9cf284f508af6d78199ea6", func := "semaphore/semaphorelaw03.NamesWords", spec := "namesWords", inPlace := ["internal/bytealg.IndexByteString", "internal/bytealg.IndexString"], unfollowed := true, recurses := true, named := ["internal/bytealg.MaxLen", "unicode/utf8.first", "unicode/utf8.acceptRanges"], apart := false, laid := [("unicode/utf8.acceptRanges", laid_unicode_utf8_acceptRanges), ("unicode/utf8.first", laid_unicode_utf8_first)] }
def NamesWordsSaid : Prop := namesWordsRow.holds Tryd.pinned (OpenSpec.ofChange namesWordsSpec)

/-- ITS FALSE NEIGHBOUR: 'it returns false'. Refute it at one input. -/
def namesWordsWrong : ChangeSpec := { name := "namesWords", fn := fun _ => fun
  | [d] => { results := [.lit (.bool false)], args := [d] }
  | _ => none }
def NamesWordsWrongFalsely : Prop := namesWordsRow.holds Tryd.pinned (OpenSpec.ofChange namesWordsWrong)

/-- 'semaphorelaw03.NamesAgain': WHATEVER THE INPUT: true; the input reads as it did. -/
def namesAgainSpec : ChangeSpec := { name := "namesAgain", fn := fun _ => fun
  | [d] => { results := [.lit (.bool true)], args := [d] }
  | _ => none }
def namesAgainRow : OpenClaim := { program := "ytijnnihkbebkkaadoor", sum := "7f55a25b1868cbf02c5a5f928a5f8fa8404c9fe9bb9cf284f508af6d78199ea6", func := "semaphore/semaphorelaw03.NamesAgain", spec := "namesAgain", inPlace := ["internal/bytealg.IndexByteString", "internal/bytealg.IndexString"], unfollowed := true, recurses := true, named := ["internal/bytealg.MaxLen", "unicode/utf8.first", "unicode/utf8.acceptRanges"], apart := false, laid := [("unicode/utf8.acceptRanges", laid_unicode_utf8_acceptRanges), ("unicode/utf8.first", laid_unicode_utf8_first)] }
def NamesAgainSaid : Prop := namesAgainRow.holds Tryd.pinned (OpenSpec.ofChange namesAgainSpec)

/-- ITS FALSE NEIGHBOUR: 'it returns false'. Refute it at one input. -/
def namesAgainWrong : ChangeSpec := { name := "namesAgain", fn := fun _ => fun
  | [d] => { results := [.lit (.bool false)], args := [d] }
  | _ => none }
def NamesAgainWrongFalsely : Prop := namesAgainRow.holds Tryd.pinned (OpenSpec.ofChange namesAgainWrong)

/-- 'semaphorelaw03.NamesGroups': WHATEVER THE INPUT: true; the input reads as it did. -/
def namesGroupsSpec : ChangeSpec := { name := "namesGroups", fn := fun _ => fun
  | [d] => { results := [.lit (.bool true)], args := [d] }
  | _ => none }
def namesGroupsRow : OpenClaim := { program := "ytijnnihkbebkkaadoor", sum := "7f55a25b1868cbf02c5a5f928a5f8fa8404c9fe9bb9cf284f508af6d78199ea6", func := "semaphore/semaphorelaw03.NamesGroups", spec := "namesGroups", inPlace := ["internal/bytealg.IndexByteString", "internal/bytealg.IndexString"], unfollowed := true, recurses := true, named := ["internal/bytealg.MaxLen", "unicode/utf8.first", "unicode/utf8.acceptRanges"], apart := false, laid := [("unicode/utf8.acceptRanges", laid_unicode_utf8_acceptRanges), ("unicode/utf8.first", laid_unicode_utf8_first)] }
def NamesGroupsSaid : Prop := namesGroupsRow.holds Tryd.pinned (OpenSpec.ofChange namesGroupsSpec)

/-- ITS FALSE NEIGHBOUR: 'it returns false'. Refute it at one input. -/
def namesGroupsWrong : ChangeSpec := { name := "namesGroups", fn := fun _ => fun
  | [d] => { results := [.lit (.bool false)], args := [d] }
  | _ => none }
def NamesGroupsWrongFalsely : Prop := namesGroupsRow.holds Tryd.pinned (OpenSpec.ofChange namesGroupsWrong)

/-- 'semaphorelaw03.NamesLines': WHATEVER THE INPUT: true; the input reads as it did. -/
def namesLinesSpec : ChangeSpec := { name := "namesLines", fn := fun _ => fun
  | [d] => { results := [.lit (.bool true)], args := [d] }
  | _ => none }
def namesLinesRow : OpenClaim := { program := "ytijnnihkbebkkaadoor", sum := "7f55a25b1868cbf02c5a5f928a5f8fa8404c9fe9bb9cf284f508af6d78199ea6", func := "semaphore/semaphorelaw03.NamesLines", spec := "namesLines", inPlace := ["internal/bytealg.IndexByteString", "internal/bytealg.IndexString", "internal/bytealg.CountString"], unfollowed := true, recurses := true, named := ["internal/bytealg.MaxLen", "unicode/utf8.first", "unicode/utf8.acceptRanges"], apart := false, laid := [("unicode/utf8.acceptRanges", laid_unicode_utf8_acceptRanges), ("unicode/utf8.first", laid_unicode_utf8_first)] }
def NamesLinesSaid : Prop := namesLinesRow.holds Tryd.pinned (OpenSpec.ofChange namesLinesSpec)

/-- ITS FALSE NEIGHBOUR: 'it returns false'. Refute it at one input. -/
def namesLinesWrong : ChangeSpec := { name := "namesLines", fn := fun _ => fun
  | [d] => { results := [.lit (.bool false)], args := [d] }
  | _ => none }
def NamesLinesWrongFalsely : Prop := namesLinesRow.holds Tryd.pinned (OpenSpec.ofChange namesLinesWrong)

/-- 'semaphorelaw03.NamesKnown': WHATEVER THE INPUT: true; the input reads as it did. -/
def namesKnownSpec : ChangeSpec := { name := "namesKnown", fn := fun _ => fun
  | [] => { results := [.lit (.bool true)], args := [] }
  | _ => none }
def namesKnownRow : OpenClaim := { program := "ytijnnihkbebkkaadoor", sum := "7f55a25b1868cbf02c5a5f928a5f8fa8404c9fe9bb9cf284f508af6d78199ea6", func := "semaphore/semaphorelaw03.NamesKnown", spec := "namesKnown", inPlace := ["internal/bytealg.IndexByteString", "internal/bytealg.IndexString", "internal/bytealg.CountString"], unfollowed := true, recurses := true, named := ["internal/bytealg.MaxLen", "unicode/utf8.first", "unicode/utf8.acceptRanges"], apart := false, laid := [("unicode/utf8.acceptRanges", laid_unicode_utf8_acceptRanges), ("unicode/utf8.first", laid_unicode_utf8_first)] }
def NamesKnownSaid : Prop := namesKnownRow.holds Tryd.pinned (OpenSpec.ofChange namesKnownSpec)

/-- ITS FALSE NEIGHBOUR: 'it returns false'. Refute it at one input. -/
def namesKnownWrong : ChangeSpec := { name := "namesKnown", fn := fun _ => fun
  | [] => { results := [.lit (.bool false)], args := [] }
  | _ => none }
def NamesKnownWrongFalsely : Prop := namesKnownRow.holds Tryd.pinned (OpenSpec.ofChange namesKnownWrong)

/- THE SECOND FORM. 'bulk': how many values and letters a reading holds, each counted each time it is reached (what is shared counts as often as it is met; a slice's spare places count too). A statement '..UptoSaid' is the law's where the arguments, and the package variables that the reading takes, are together of bulk at most 1048576: NARROWER than '..Said'. Prove '..Said' where nothing that the law and all that it calls make is longer than what came in: it says more and counts as full. Else prove '..UptoSaid'. A law counts once. -/
mutual
def uptoBulk {H : Type} : DataW H → Nat
  | .lit (.string bytes) => bytes.length + 1
  | .lit _ => 1
  | .nil => 1
  | .ptr d => uptoBulk d + 1
  | .slice elems spare => uptoBulkAll elems + uptoBulkAll spare + 1
  | .agg parts => uptoBulkAll parts + 1
  | .iface _ d => uptoBulk d + 1
  | .map entries => uptoBulkEntries entries + 1
  | .held _ => 1
def uptoBulkAll {H : Type} : List (DataW H) → Nat
  | [] => 0
  | d :: r => uptoBulk d + uptoBulkAll r
def uptoBulkEntries {H : Type} : List (Lit × DataW H) → Nat
  | [] => 0
  | x :: r => uptoBulkEntry x + uptoBulkEntries r
def uptoBulkEntry {H : Type} : Lit × DataW H → Nat
  | (.string bytes, d) => bytes.length + uptoBulk d + 1
  | (_, d) => uptoBulk d + 1
 end
def uptoSmall : (H : Type) → List (DataW H) → Bool := fun _ ds => decide (uptoBulkAll ds ≤ 1048576)
def OpenSpec.upto (s : _root_.Go.ChangeSpec) : _root_.Go.OpenSpec := { _root_.Go.OpenSpec.ofChange s with cond := some uptoSmall }

/-- 'semaphorelaw03.NamesSigns', WHERE WHAT IT READS IS OF BULK AT MOST 1048576: true; the input reads as it did. -/
def namesSignsUptoRow : OpenClaim := { program := "ytijnnihkbebkkaadoor", sum := "7f55a25b1868cbf02c5a5f928a5f8fa8404c9fe9bb9cf284f508af6d78199ea6", func := "semaphore/semaphorelaw03.NamesSigns", spec := "namesSigns", inPlace := ["internal/bytealg.IndexByteString", "internal/bytealg.IndexString"], unfollowed := true, recurses := true, named := ["internal/bytealg.MaxLen", "unicode/utf8.first", "unicode/utf8.acceptRanges"], apart := false, laid := [("unicode/utf8.acceptRanges", laid_unicode_utf8_acceptRanges), ("unicode/utf8.first", laid_unicode_utf8_first)], narrowed := true }
def NamesSignsUptoSaid : Prop := namesSignsUptoRow.holds Tryd.pinned (OpenSpec.upto namesSignsSpec)

/-- 'semaphorelaw03.NamesRight', WHERE WHAT IT READS IS OF BULK AT MOST 1048576: true; the input reads as it did. -/
def namesRightUptoRow : OpenClaim := { program := "ytijnnihkbebkkaadoor", sum := "7f55a25b1868cbf02c5a5f928a5f8fa8404c9fe9bb9cf284f508af6d78199ea6", func := "semaphore/semaphorelaw03.NamesRight", spec := "namesRight", inPlace := ["internal/bytealg.IndexByteString", "internal/bytealg.IndexString"], unfollowed := true, recurses := true, named := ["internal/bytealg.MaxLen", "unicode/utf8.first", "unicode/utf8.acceptRanges"], apart := false, laid := [("unicode/utf8.acceptRanges", laid_unicode_utf8_acceptRanges), ("unicode/utf8.first", laid_unicode_utf8_first)], narrowed := true }
def NamesRightUptoSaid : Prop := namesRightUptoRow.holds Tryd.pinned (OpenSpec.upto namesRightSpec)

/-- 'semaphorelaw03.NamesWords', WHERE WHAT IT READS IS OF BULK AT MOST 1048576: true; the input reads as it did. -/
def namesWordsUptoRow : OpenClaim := { program := "ytijnnihkbebkkaadoor", sum := "7f55a25b1868cbf02c5a5f928a5f8fa8404c9fe9bb9cf284f508af6d78199ea6", func := "semaphore/semaphorelaw03.NamesWords", spec := "namesWords", inPlace := ["internal/bytealg.IndexByteString", "internal/bytealg.IndexString"], unfollowed := true, recurses := true, named := ["internal/bytealg.MaxLen", "unicode/utf8.first", "unicode/utf8.acceptRanges"], apart := false, laid := [("unicode/utf8.acceptRanges", laid_unicode_utf8_acceptRanges), ("unicode/utf8.first", laid_unicode_utf8_first)], narrowed := true }
def NamesWordsUptoSaid : Prop := namesWordsUptoRow.holds Tryd.pinned (OpenSpec.upto namesWordsSpec)

/-- 'semaphorelaw03.NamesAgain', WHERE WHAT IT READS IS OF BULK AT MOST 1048576: true; the input reads as it did. -/
def namesAgainUptoRow : OpenClaim := { program := "ytijnnihkbebkkaadoor", sum := "7f55a25b1868cbf02c5a5f928a5f8fa8404c9fe9bb9cf284f508af6d78199ea6", func := "semaphore/semaphorelaw03.NamesAgain", spec := "namesAgain", inPlace := ["internal/bytealg.IndexByteString", "internal/bytealg.IndexString"], unfollowed := true, recurses := true, named := ["internal/bytealg.MaxLen", "unicode/utf8.first", "unicode/utf8.acceptRanges"], apart := false, laid := [("unicode/utf8.acceptRanges", laid_unicode_utf8_acceptRanges), ("unicode/utf8.first", laid_unicode_utf8_first)], narrowed := true }
def NamesAgainUptoSaid : Prop := namesAgainUptoRow.holds Tryd.pinned (OpenSpec.upto namesAgainSpec)

/-- 'semaphorelaw03.NamesGroups', WHERE WHAT IT READS IS OF BULK AT MOST 1048576: true; the input reads as it did. -/
def namesGroupsUptoRow : OpenClaim := { program := "ytijnnihkbebkkaadoor", sum := "7f55a25b1868cbf02c5a5f928a5f8fa8404c9fe9bb9cf284f508af6d78199ea6", func := "semaphore/semaphorelaw03.NamesGroups", spec := "namesGroups", inPlace := ["internal/bytealg.IndexByteString", "internal/bytealg.IndexString"], unfollowed := true, recurses := true, named := ["internal/bytealg.MaxLen", "unicode/utf8.first", "unicode/utf8.acceptRanges"], apart := false, laid := [("unicode/utf8.acceptRanges", laid_unicode_utf8_acceptRanges), ("unicode/utf8.first", laid_unicode_utf8_first)], narrowed := true }
def NamesGroupsUptoSaid : Prop := namesGroupsUptoRow.holds Tryd.pinned (OpenSpec.upto namesGroupsSpec)

/-- 'semaphorelaw03.NamesLines', WHERE WHAT IT READS IS OF BULK AT MOST 1048576: true; the input reads as it did. -/
def namesLinesUptoRow : OpenClaim := { program := "ytijnnihkbebkkaadoor", sum := "7f55a25b1868cbf02c5a5f928a5f8fa8404c9fe9bb9cf284f508af6d78199ea6", func := "semaphore/semaphorelaw03.NamesLines", spec := "namesLines", inPlace := ["internal/bytealg.IndexByteString", "internal/bytealg.IndexString", "internal/bytealg.CountString"], unfollowed := true, recurses := true, named := ["internal/bytealg.MaxLen", "unicode/utf8.first", "unicode/utf8.acceptRanges"], apart := false, laid := [("unicode/utf8.acceptRanges", laid_unicode_utf8_acceptRanges), ("unicode/utf8.first", laid_unicode_utf8_first)], narrowed := true }
def NamesLinesUptoSaid : Prop := namesLinesUptoRow.holds Tryd.pinned (OpenSpec.upto namesLinesSpec)

/-- 'semaphorelaw03.NamesKnown', WHERE WHAT IT READS IS OF BULK AT MOST 1048576: true; the input reads as it did. -/
def namesKnownUptoRow : OpenClaim := { program := "ytijnnihkbebkkaadoor", sum := "7f55a25b1868cbf02c5a5f928a5f8fa8404c9fe9bb9cf284f508af6d78199ea6", func := "semaphore/semaphorelaw03.NamesKnown", spec := "namesKnown", inPlace := ["internal/bytealg.IndexByteString", "internal/bytealg.IndexString", "internal/bytealg.CountString"], unfollowed := true, recurses := true, named := ["internal/bytealg.MaxLen", "unicode/utf8.first", "unicode/utf8.acceptRanges"], apart := false, laid := [("unicode/utf8.acceptRanges", laid_unicode_utf8_acceptRanges), ("unicode/utf8.first", laid_unicode_utf8_first)], narrowed := true }
def NamesKnownUptoSaid : Prop := namesKnownUptoRow.holds Tryd.pinned (OpenSpec.upto namesKnownSpec)

end Rows
end Go.Proofs.YtijnnihkbebkkaaDoor
