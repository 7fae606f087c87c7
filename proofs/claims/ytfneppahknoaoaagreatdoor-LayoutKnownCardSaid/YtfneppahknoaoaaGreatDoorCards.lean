/-
  DERIVED. GIVEN WITH THE SEED: THE CARDS: each row of YtfneppahknoaoaaGreatDoorRows.lean that lists a variable, with what it lists TIED to the program's text (the seventh form; the later family's looks); each row that meets fmt, with fmt's text TOLD by the authors' own Lean function (tested against real Go, not proved from fmt's source: count such statements apart). THE CARD IS WHAT COUNTS. Prove the row's statement (the work); the ties are given (YtfneppahknoaoaaGreatDoorTie.lean); close each card by the builder's one call (the guide's Derived/Test/ToyasCard.lean, 'card_holds'). Laid BY PROGRAM, IN A SANDBOX (cutbox-door.mjs). By AI agents, Wed Nov 11 2026. No macro, syntax, notation, axiom, sorry.
-/
import Derived.Test.YtfneppahknoaoaaGreatDoorRows
import GoSem.ClaimSeven
namespace Go.Proofs.YtfneppahknoaoaaGreatDoor
namespace Rows

/-- THE TIED CARD OF 'semaphorelaw04.LayoutKnown'. -/
def layoutKnownCard : Claim7 := { stood := { row := layoutKnownRow, standIns := [], harness := (true, "d7db46db6694de5e3ab59a46f65644eee72c77f9a21f3323802bef85e025ea07"), looks := true }, kinds := [], alts := [], laidByText := true, laidKinds := [.data, .sentinel, .pinned], laidTests := true, laidLooks := .later }
def LayoutKnownCardSaid : Prop := Claim7.holds Tryz.pinned (.plain (OpenSpec.ofChange layoutKnownSpec)) layoutKnownCard

/-- THE SECOND FORM's CARD OF 'semaphorelaw04.LayoutKnown'. -/
def layoutKnownUptoCard : Claim7 := { stood := { row := layoutKnownUptoRow, standIns := [], harness := (true, "d7db46db6694de5e3ab59a46f65644eee72c77f9a21f3323802bef85e025ea07"), looks := true }, kinds := [], alts := [], laidByText := true, laidKinds := [.data, .sentinel, .pinned], laidTests := true, laidLooks := .later }
def LayoutKnownUptoCardSaid : Prop := Claim7.holds Tryz.pinned (.plain (OpenSpec.upto layoutKnownSpec)) layoutKnownUptoCard
end Rows
end Go.Proofs.YtfneppahknoaoaaGreatDoor
