/-
  DERIVED. GIVEN WITH THE SEED: THE CARDS: each row of YtijnnihkbebkkaaDoorRows.lean that lists a variable, with what it lists TIED to the program's text (the seventh form; the later family's looks); each row that meets fmt, with fmt's text TOLD by the authors' own Lean function (tested against real Go, not proved from fmt's source: count such statements apart). THE CARD IS WHAT COUNTS. Prove the row's statement (the work); the ties are given (YtijnnihkbebkkaaDoorTie.lean); close each card by the builder's one call (the guide's Derived/Test/ToyasCard.lean, 'card_holds'). Laid BY PROGRAM, IN A SANDBOX (cutbox-door.mjs). By AI agents, Wed Nov 11 2026. No macro, syntax, notation, axiom, sorry.
-/
import Derived.Test.YtijnnihkbebkkaaDoorRows
import GoSem.ClaimSeven
namespace Go.Proofs.YtijnnihkbebkkaaDoor
namespace Rows

/-- THE TIED CARD OF 'semaphorelaw03.NamesSigns'. -/
def namesSignsCard : Claim7 := { stood := { row := namesSignsRow, standIns := [], harness := (true, "5ad2744867bf2cddcabd2b142fec5177d809653d9190f395f29902e905c8f547"), looks := false }, kinds := [], alts := [], laidByText := true, laidKinds := [.data, .pinned], laidTests := true, laidLooks := .later }
def NamesSignsCardSaid : Prop := Claim7.holds Tryd.pinned (.plain (OpenSpec.ofChange namesSignsSpec)) namesSignsCard

/-- THE TIED CARD OF 'semaphorelaw03.NamesRight'. -/
def namesRightCard : Claim7 := { stood := { row := namesRightRow, standIns := [], harness := (true, "5ad2744867bf2cddcabd2b142fec5177d809653d9190f395f29902e905c8f547"), looks := false }, kinds := [], alts := [], laidByText := true, laidKinds := [.data, .pinned], laidTests := true, laidLooks := .later }
def NamesRightCardSaid : Prop := Claim7.holds Tryd.pinned (.plain (OpenSpec.ofChange namesRightSpec)) namesRightCard

/-- THE TIED CARD OF 'semaphorelaw03.NamesWords'. -/
def namesWordsCard : Claim7 := { stood := { row := namesWordsRow, standIns := [], harness := (true, "5ad2744867bf2cddcabd2b142fec5177d809653d9190f395f29902e905c8f547"), looks := false }, kinds := [], alts := [], laidByText := true, laidKinds := [.data, .pinned], laidTests := true, laidLooks := .later }
def NamesWordsCardSaid : Prop := Claim7.holds Tryd.pinned (.plain (OpenSpec.ofChange namesWordsSpec)) namesWordsCard

/-- THE TIED CARD OF 'semaphorelaw03.NamesAgain'. -/
def namesAgainCard : Claim7 := { stood := { row := namesAgainRow, standIns := [], harness := (true, "5ad2744867bf2cddcabd2b142fec5177d809653d9190f395f29902e905c8f547"), looks := false }, kinds := [], alts := [], laidByText := true, laidKinds := [.data, .pinned], laidTests := true, laidLooks := .later }
def NamesAgainCardSaid : Prop := Claim7.holds Tryd.pinned (.plain (OpenSpec.ofChange namesAgainSpec)) namesAgainCard

/-- THE TIED CARD OF 'semaphorelaw03.NamesGroups'. -/
def namesGroupsCard : Claim7 := { stood := { row := namesGroupsRow, standIns := [], harness := (true, "5ad2744867bf2cddcabd2b142fec5177d809653d9190f395f29902e905c8f547"), looks := false }, kinds := [], alts := [], laidByText := true, laidKinds := [.data, .pinned], laidTests := true, laidLooks := .later }
def NamesGroupsCardSaid : Prop := Claim7.holds Tryd.pinned (.plain (OpenSpec.ofChange namesGroupsSpec)) namesGroupsCard

/-- THE TIED CARD OF 'semaphorelaw03.NamesLines'. -/
def namesLinesCard : Claim7 := { stood := { row := namesLinesRow, standIns := [], harness := (true, "5ad2744867bf2cddcabd2b142fec5177d809653d9190f395f29902e905c8f547"), looks := false }, kinds := [], alts := [], laidByText := true, laidKinds := [.data, .pinned], laidTests := true, laidLooks := .later }
def NamesLinesCardSaid : Prop := Claim7.holds Tryd.pinned (.plain (OpenSpec.ofChange namesLinesSpec)) namesLinesCard

/-- THE TIED CARD OF 'semaphorelaw03.NamesKnown'. -/
def namesKnownCard : Claim7 := { stood := { row := namesKnownRow, standIns := [], harness := (true, "5ad2744867bf2cddcabd2b142fec5177d809653d9190f395f29902e905c8f547"), looks := false }, kinds := [], alts := [], laidByText := true, laidKinds := [.data, .pinned], laidTests := true, laidLooks := .later }
def NamesKnownCardSaid : Prop := Claim7.holds Tryd.pinned (.plain (OpenSpec.ofChange namesKnownSpec)) namesKnownCard

/-- THE SECOND FORM's CARD OF 'semaphorelaw03.NamesSigns'. -/
def namesSignsUptoCard : Claim7 := { stood := { row := namesSignsUptoRow, standIns := [], harness := (true, "5ad2744867bf2cddcabd2b142fec5177d809653d9190f395f29902e905c8f547"), looks := false }, kinds := [], alts := [], laidByText := true, laidKinds := [.data, .pinned], laidTests := true, laidLooks := .later }
def NamesSignsUptoCardSaid : Prop := Claim7.holds Tryd.pinned (.plain (OpenSpec.upto namesSignsSpec)) namesSignsUptoCard

/-- THE SECOND FORM's CARD OF 'semaphorelaw03.NamesRight'. -/
def namesRightUptoCard : Claim7 := { stood := { row := namesRightUptoRow, standIns := [], harness := (true, "5ad2744867bf2cddcabd2b142fec5177d809653d9190f395f29902e905c8f547"), looks := false }, kinds := [], alts := [], laidByText := true, laidKinds := [.data, .pinned], laidTests := true, laidLooks := .later }
def NamesRightUptoCardSaid : Prop := Claim7.holds Tryd.pinned (.plain (OpenSpec.upto namesRightSpec)) namesRightUptoCard

/-- THE SECOND FORM's CARD OF 'semaphorelaw03.NamesWords'. -/
def namesWordsUptoCard : Claim7 := { stood := { row := namesWordsUptoRow, standIns := [], harness := (true, "5ad2744867bf2cddcabd2b142fec5177d809653d9190f395f29902e905c8f547"), looks := false }, kinds := [], alts := [], laidByText := true, laidKinds := [.data, .pinned], laidTests := true, laidLooks := .later }
def NamesWordsUptoCardSaid : Prop := Claim7.holds Tryd.pinned (.plain (OpenSpec.upto namesWordsSpec)) namesWordsUptoCard

/-- THE SECOND FORM's CARD OF 'semaphorelaw03.NamesAgain'. -/
def namesAgainUptoCard : Claim7 := { stood := { row := namesAgainUptoRow, standIns := [], harness := (true, "5ad2744867bf2cddcabd2b142fec5177d809653d9190f395f29902e905c8f547"), looks := false }, kinds := [], alts := [], laidByText := true, laidKinds := [.data, .pinned], laidTests := true, laidLooks := .later }
def NamesAgainUptoCardSaid : Prop := Claim7.holds Tryd.pinned (.plain (OpenSpec.upto namesAgainSpec)) namesAgainUptoCard

/-- THE SECOND FORM's CARD OF 'semaphorelaw03.NamesGroups'. -/
def namesGroupsUptoCard : Claim7 := { stood := { row := namesGroupsUptoRow, standIns := [], harness := (true, "5ad2744867bf2cddcabd2b142fec5177d809653d9190f395f29902e905c8f547"), looks := false }, kinds := [], alts := [], laidByText := true, laidKinds := [.data, .pinned], laidTests := true, laidLooks := .later }
def NamesGroupsUptoCardSaid : Prop := Claim7.holds Tryd.pinned (.plain (OpenSpec.upto namesGroupsSpec)) namesGroupsUptoCard

/-- THE SECOND FORM's CARD OF 'semaphorelaw03.NamesLines'. -/
def namesLinesUptoCard : Claim7 := { stood := { row := namesLinesUptoRow, standIns := [], harness := (true, "5ad2744867bf2cddcabd2b142fec5177d809653d9190f395f29902e905c8f547"), looks := false }, kinds := [], alts := [], laidByText := true, laidKinds := [.data, .pinned], laidTests := true, laidLooks := .later }
def NamesLinesUptoCardSaid : Prop := Claim7.holds Tryd.pinned (.plain (OpenSpec.upto namesLinesSpec)) namesLinesUptoCard

/-- THE SECOND FORM's CARD OF 'semaphorelaw03.NamesKnown'. -/
def namesKnownUptoCard : Claim7 := { stood := { row := namesKnownUptoRow, standIns := [], harness := (true, "5ad2744867bf2cddcabd2b142fec5177d809653d9190f395f29902e905c8f547"), looks := false }, kinds := [], alts := [], laidByText := true, laidKinds := [.data, .pinned], laidTests := true, laidLooks := .later }
def NamesKnownUptoCardSaid : Prop := Claim7.holds Tryd.pinned (.plain (OpenSpec.upto namesKnownSpec)) namesKnownUptoCard
end Rows
end Go.Proofs.YtijnnihkbebkkaaDoor
