/-
  DERIVED. GIVEN WITH THE SEED: THE CARDS: each row of YtfneppahknoaoaaDoorRows.lean that lists a variable, with what it lists TIED to the program's text (the seventh form; the later family's looks); each row that meets fmt, with fmt's text TOLD by the authors' own Lean function (tested against real Go, not proved from fmt's source: count such statements apart). THE CARD IS WHAT COUNTS. Prove the row's statement (the work); the ties are given (YtfneppahknoaoaaDoorTie.lean); close each card by the builder's one call (the guide's Derived/Test/ToyasCard.lean, 'card_holds'). Laid BY PROGRAM, IN A SANDBOX (cutbox-door.mjs). By AI agents, Wed Nov 11 2026. No macro, syntax, notation, axiom, sorry.
-/
import Derived.Test.YtfneppahknoaoaaDoorRows
import GoSem.ClaimSeven
namespace Go.Proofs.YtfneppahknoaoaaDoor
namespace Rows

/-- THE TIED CARD OF 'semaphorelaw04.LayoutParses'. -/
def layoutParsesCard : Claim7 := { stood := { row := layoutParsesRow, standIns := [], harness := (true, "87ff0f6e19aaf5273d2c2450aac52086c97de0ac8a8b8789b3e39843d501dbf0"), looks := true }, kinds := [], alts := [], laidByText := true, laidKinds := [.data, .pinned], laidTests := true, laidLooks := .later }
def LayoutParsesCardSaid : Prop := Claim7.holds Tryd.pinned (.plain (OpenSpec.ofChange layoutParsesSpec)) layoutParsesCard

/-- THE TIED CARD OF 'semaphorelaw04.LayoutNotes'. -/
def layoutNotesCard : Claim7 := { stood := { row := layoutNotesRow, standIns := [], harness := (true, "87ff0f6e19aaf5273d2c2450aac52086c97de0ac8a8b8789b3e39843d501dbf0"), looks := true }, kinds := [], alts := [], laidByText := true, laidKinds := [.data, .pinned], laidTests := true, laidLooks := .later }
def LayoutNotesCardSaid : Prop := Claim7.holds Tryd.pinned (.plain (OpenSpec.ofChange layoutNotesSpec)) layoutNotesCard

/-- THE TIED CARD OF 'semaphorelaw04.LayoutMay'. -/
def layoutMayCard : Claim7 := { stood := { row := layoutMayRow, standIns := [], harness := (true, "87ff0f6e19aaf5273d2c2450aac52086c97de0ac8a8b8789b3e39843d501dbf0"), looks := true }, kinds := [], alts := [], laidByText := true, laidKinds := [.data, .pinned], laidTests := true, laidLooks := .later }
def LayoutMayCardSaid : Prop := Claim7.holds Tryd.pinned (.plain (OpenSpec.ofChange layoutMaySpec)) layoutMayCard

/-- THE TIED CARD OF 'semaphorelaw04.LayoutPrints'. -/
def layoutPrintsCard : Claim7 := { stood := { row := layoutPrintsRow, standIns := [], harness := (true, "87ff0f6e19aaf5273d2c2450aac52086c97de0ac8a8b8789b3e39843d501dbf0"), looks := true }, kinds := [], alts := [], laidByText := true, laidKinds := [.data, .sentinel, .pinned], laidTests := true, laidLooks := .later }
def LayoutPrintsCardSaid : Prop := Claim7.holds Tryd.pinned (.plain (OpenSpec.ofChange layoutPrintsSpec)) layoutPrintsCard

/-- THE TIED CARD OF 'semaphorelaw04.LayoutBack'. -/
def layoutBackCard : Claim7 := { stood := { row := layoutBackRow, standIns := [], harness := (true, "87ff0f6e19aaf5273d2c2450aac52086c97de0ac8a8b8789b3e39843d501dbf0"), looks := true }, kinds := [], alts := [], laidByText := true, laidKinds := [.data, .sentinel, .pinned], laidTests := true, laidLooks := .later }
def LayoutBackCardSaid : Prop := Claim7.holds Tryd.pinned (.plain (OpenSpec.ofChange layoutBackSpec)) layoutBackCard

/-- THE SECOND FORM's CARD OF 'semaphorelaw04.LayoutParses'. -/
def layoutParsesUptoCard : Claim7 := { stood := { row := layoutParsesUptoRow, standIns := [], harness := (true, "87ff0f6e19aaf5273d2c2450aac52086c97de0ac8a8b8789b3e39843d501dbf0"), looks := true }, kinds := [], alts := [], laidByText := true, laidKinds := [.data, .pinned], laidTests := true, laidLooks := .later }
def LayoutParsesUptoCardSaid : Prop := Claim7.holds Tryd.pinned (.plain (OpenSpec.upto layoutParsesSpec)) layoutParsesUptoCard

/-- THE SECOND FORM's CARD OF 'semaphorelaw04.LayoutNotes'. -/
def layoutNotesUptoCard : Claim7 := { stood := { row := layoutNotesUptoRow, standIns := [], harness := (true, "87ff0f6e19aaf5273d2c2450aac52086c97de0ac8a8b8789b3e39843d501dbf0"), looks := true }, kinds := [], alts := [], laidByText := true, laidKinds := [.data, .pinned], laidTests := true, laidLooks := .later }
def LayoutNotesUptoCardSaid : Prop := Claim7.holds Tryd.pinned (.plain (OpenSpec.upto layoutNotesSpec)) layoutNotesUptoCard

/-- THE SECOND FORM's CARD OF 'semaphorelaw04.LayoutMay'. -/
def layoutMayUptoCard : Claim7 := { stood := { row := layoutMayUptoRow, standIns := [], harness := (true, "87ff0f6e19aaf5273d2c2450aac52086c97de0ac8a8b8789b3e39843d501dbf0"), looks := true }, kinds := [], alts := [], laidByText := true, laidKinds := [.data, .pinned], laidTests := true, laidLooks := .later }
def LayoutMayUptoCardSaid : Prop := Claim7.holds Tryd.pinned (.plain (OpenSpec.upto layoutMaySpec)) layoutMayUptoCard

/-- THE SECOND FORM's CARD OF 'semaphorelaw04.LayoutPrints'. -/
def layoutPrintsUptoCard : Claim7 := { stood := { row := layoutPrintsUptoRow, standIns := [], harness := (true, "87ff0f6e19aaf5273d2c2450aac52086c97de0ac8a8b8789b3e39843d501dbf0"), looks := true }, kinds := [], alts := [], laidByText := true, laidKinds := [.data, .sentinel, .pinned], laidTests := true, laidLooks := .later }
def LayoutPrintsUptoCardSaid : Prop := Claim7.holds Tryd.pinned (.plain (OpenSpec.upto layoutPrintsSpec)) layoutPrintsUptoCard

/-- THE SECOND FORM's CARD OF 'semaphorelaw04.LayoutBack'. -/
def layoutBackUptoCard : Claim7 := { stood := { row := layoutBackUptoRow, standIns := [], harness := (true, "87ff0f6e19aaf5273d2c2450aac52086c97de0ac8a8b8789b3e39843d501dbf0"), looks := true }, kinds := [], alts := [], laidByText := true, laidKinds := [.data, .sentinel, .pinned], laidTests := true, laidLooks := .later }
def LayoutBackUptoCardSaid : Prop := Claim7.holds Tryd.pinned (.plain (OpenSpec.upto layoutBackSpec)) layoutBackUptoCard
end Rows
end Go.Proofs.YtfneppahknoaoaaDoor
