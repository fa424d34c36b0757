/-
  DERIVED. GIVEN WITH THE SEED: THE CARDS: each row of YtkofimhnehkdoaaGreatDoorRows.lean that lists a variable, with what it lists TIED to the program's text (the seventh form; the later family's looks); each row that meets fmt, with fmt's text TOLD by the authors' own Lean function (tested against real Go, not proved from fmt's source: count such statements apart). THE CARD IS WHAT COUNTS. Prove the row's statement (the work); the ties are given (YtkofimhnehkdoaaGreatDoorTie.lean); close each card by the builder's one call (the guide's Derived/Test/ToyasCard.lean, 'card_holds'). Laid BY PROGRAM, IN A SANDBOX (cutbox-door.mjs). By AI agents, Wed Nov 11 2026. No macro, syntax, notation, axiom, sorry.
-/
import Derived.Test.YtkofimhnehkdoaaGreatDoorRows
import GoSem.ClaimSeven
namespace Go.Proofs.YtkofimhnehkdoaaGreatDoor
namespace Rows

/-- THE TIED CARD OF 'saturatelaw07.TermtextReads'. -/
def termtextReadsCard : Claim7 := { stood := { row := termtextReadsRow, standIns := [], harness := (true, "47b0547453ba5297b8b5f6c05dfe5d8331b08409be87db24528895b189c89477"), looks := true }, kinds := [], alts := [], laidByText := true, laidKinds := [.data, .data, .data, .data, .sentinel, .sentinel], laidTests := true, laidLooks := .later }
def TermtextReadsCardSaid : Prop := Claim7.holds Tryz.pinned (.plain (OpenSpec.ofChange termtextReadsSpec)) termtextReadsCard

/-- THE TIED CARD OF 'saturatelaw07.TermtextParses'. -/
def termtextParsesCard : Claim7 := { stood := { row := termtextParsesRow, standIns := [], harness := (true, "47b0547453ba5297b8b5f6c05dfe5d8331b08409be87db24528895b189c89477"), looks := true }, kinds := [], alts := [], laidByText := true, laidKinds := [.data, .data, .data, .data, .sentinel, .sentinel], laidTests := true, laidLooks := .later }
def TermtextParsesCardSaid : Prop := Claim7.holds Tryz.pinned (.plain (OpenSpec.ofChange termtextParsesSpec)) termtextParsesCard

/-- THE TIED CARD OF 'saturatelaw07.TermtextWrites'. -/
def termtextWritesCard : Claim7 := { stood := { row := termtextWritesRow, standIns := [], harness := (true, "47b0547453ba5297b8b5f6c05dfe5d8331b08409be87db24528895b189c89477"), looks := true }, kinds := [], alts := [], laidByText := true, laidKinds := [.data, .data, .data, .data, .sentinel, .sentinel], laidTests := true, laidLooks := .later }
def TermtextWritesCardSaid : Prop := Claim7.holds Tryz.pinned (.plain (OpenSpec.ofChange termtextWritesSpec)) termtextWritesCard

/-- THE TIED CARD OF 'saturatelaw07.TermtextBack'. -/
def termtextBackCard : Claim7 := { stood := { row := termtextBackRow, standIns := [], harness := (true, "47b0547453ba5297b8b5f6c05dfe5d8331b08409be87db24528895b189c89477"), looks := true }, kinds := [], alts := [], laidByText := true, laidKinds := [.data, .data, .data, .data, .sentinel, .sentinel], laidTests := true, laidLooks := .later }
def TermtextBackCardSaid : Prop := Claim7.holds Tryz.pinned (.plain (OpenSpec.ofChange termtextBackSpec)) termtextBackCard

/-- THE TIED CARD OF 'saturatelaw07.TermtextDiffers'. -/
def termtextDiffersCard : Claim7 := { stood := { row := termtextDiffersRow, standIns := [], harness := (true, "47b0547453ba5297b8b5f6c05dfe5d8331b08409be87db24528895b189c89477"), looks := true }, kinds := [], alts := [], laidByText := true, laidKinds := [.data, .data, .data, .data, .sentinel, .sentinel], laidTests := true, laidLooks := .later }
def TermtextDiffersCardSaid : Prop := Claim7.holds Tryz.pinned (.plain (OpenSpec.ofChange termtextDiffersSpec)) termtextDiffersCard

/-- THE TIED CARD OF 'saturatelaw36.ProoftextParses'. -/
def prooftextParsesCard : Claim7 := { stood := { row := prooftextParsesRow, standIns := [], harness := (true, "47b0547453ba5297b8b5f6c05dfe5d8331b08409be87db24528895b189c89477"), looks := true }, kinds := [], alts := [], laidByText := true, laidKinds := [.data, .data, .data, .data, .sentinel, .sentinel, .data], laidTests := true, laidLooks := .later }
def ProoftextParsesCardSaid : Prop := Claim7.holds Tryz.pinned (.plain (OpenSpec.ofChange prooftextParsesSpec)) prooftextParsesCard

/-- THE TIED CARD OF 'saturatelaw36.ProoftextPrints'. -/
def prooftextPrintsCard : Claim7 := { stood := { row := prooftextPrintsRow, standIns := [], harness := (true, "47b0547453ba5297b8b5f6c05dfe5d8331b08409be87db24528895b189c89477"), looks := true }, kinds := [], alts := [], laidByText := true, laidKinds := [.data, .data, .data, .data, .sentinel, .sentinel, .data], laidTests := true, laidLooks := .later }
def ProoftextPrintsCardSaid : Prop := Claim7.holds Tryz.pinned (.plain (OpenSpec.ofChange prooftextPrintsSpec)) prooftextPrintsCard

/-- THE TIED CARD OF 'saturatelaw36.ProoftextBack'. -/
def prooftextBackCard : Claim7 := { stood := { row := prooftextBackRow, standIns := [], harness := (true, "47b0547453ba5297b8b5f6c05dfe5d8331b08409be87db24528895b189c89477"), looks := true }, kinds := [], alts := [], laidByText := true, laidKinds := [.data, .data, .data, .data, .sentinel, .sentinel, .data], laidTests := true, laidLooks := .later }
def ProoftextBackCardSaid : Prop := Claim7.holds Tryz.pinned (.plain (OpenSpec.ofChange prooftextBackSpec)) prooftextBackCard

/-- THE TIED CARD OF 'saturatelaw36.ProoftextTwice'. -/
def prooftextTwiceCard : Claim7 := { stood := { row := prooftextTwiceRow, standIns := [], harness := (true, "47b0547453ba5297b8b5f6c05dfe5d8331b08409be87db24528895b189c89477"), looks := true }, kinds := [], alts := [], laidByText := true, laidKinds := [.data, .data, .data, .data, .sentinel, .sentinel, .data], laidTests := true, laidLooks := .later }
def ProoftextTwiceCardSaid : Prop := Claim7.holds Tryz.pinned (.plain (OpenSpec.ofChange prooftextTwiceSpec)) prooftextTwiceCard

/-- THE TIED CARD OF 'saturatelaw36.ProoftextConcls'. -/
def prooftextConclsCard : Claim7 := { stood := { row := prooftextConclsRow, standIns := [], harness := (true, "47b0547453ba5297b8b5f6c05dfe5d8331b08409be87db24528895b189c89477"), looks := true }, kinds := [], alts := [], laidByText := true, laidKinds := [.data, .data, .data, .data, .sentinel, .sentinel, .data], laidTests := true, laidLooks := .later }
def ProoftextConclsCardSaid : Prop := Claim7.holds Tryz.pinned (.plain (OpenSpec.ofChange prooftextConclsSpec)) prooftextConclsCard

/-- THE TIED CARD OF 'saturatelaw36.ProoftextExplains'. -/
def prooftextExplainsCard : Claim7 := { stood := { row := prooftextExplainsRow, standIns := [], harness := (true, "47b0547453ba5297b8b5f6c05dfe5d8331b08409be87db24528895b189c89477"), looks := true }, kinds := [], alts := [], laidByText := true, laidKinds := [.data, .data, .data, .data, .sentinel, .sentinel, .data], laidTests := true, laidLooks := .later }
def ProoftextExplainsCardSaid : Prop := Claim7.holds Tryz.pinned (.plain (OpenSpec.ofChange prooftextExplainsSpec)) prooftextExplainsCard

/-- THE SECOND FORM's CARD OF 'saturatelaw07.TermtextReads'. -/
def termtextReadsUptoCard : Claim7 := { stood := { row := termtextReadsUptoRow, standIns := [], harness := (true, "47b0547453ba5297b8b5f6c05dfe5d8331b08409be87db24528895b189c89477"), looks := true }, kinds := [], alts := [], laidByText := true, laidKinds := [.data, .data, .data, .data, .sentinel, .sentinel], laidTests := true, laidLooks := .later }
def TermtextReadsUptoCardSaid : Prop := Claim7.holds Tryz.pinned (.plain (OpenSpec.upto termtextReadsSpec)) termtextReadsUptoCard

/-- THE SECOND FORM's CARD OF 'saturatelaw07.TermtextParses'. -/
def termtextParsesUptoCard : Claim7 := { stood := { row := termtextParsesUptoRow, standIns := [], harness := (true, "47b0547453ba5297b8b5f6c05dfe5d8331b08409be87db24528895b189c89477"), looks := true }, kinds := [], alts := [], laidByText := true, laidKinds := [.data, .data, .data, .data, .sentinel, .sentinel], laidTests := true, laidLooks := .later }
def TermtextParsesUptoCardSaid : Prop := Claim7.holds Tryz.pinned (.plain (OpenSpec.upto termtextParsesSpec)) termtextParsesUptoCard

/-- THE SECOND FORM's CARD OF 'saturatelaw07.TermtextWrites'. -/
def termtextWritesUptoCard : Claim7 := { stood := { row := termtextWritesUptoRow, standIns := [], harness := (true, "47b0547453ba5297b8b5f6c05dfe5d8331b08409be87db24528895b189c89477"), looks := true }, kinds := [], alts := [], laidByText := true, laidKinds := [.data, .data, .data, .data, .sentinel, .sentinel], laidTests := true, laidLooks := .later }
def TermtextWritesUptoCardSaid : Prop := Claim7.holds Tryz.pinned (.plain (OpenSpec.upto termtextWritesSpec)) termtextWritesUptoCard

/-- THE SECOND FORM's CARD OF 'saturatelaw07.TermtextBack'. -/
def termtextBackUptoCard : Claim7 := { stood := { row := termtextBackUptoRow, standIns := [], harness := (true, "47b0547453ba5297b8b5f6c05dfe5d8331b08409be87db24528895b189c89477"), looks := true }, kinds := [], alts := [], laidByText := true, laidKinds := [.data, .data, .data, .data, .sentinel, .sentinel], laidTests := true, laidLooks := .later }
def TermtextBackUptoCardSaid : Prop := Claim7.holds Tryz.pinned (.plain (OpenSpec.upto termtextBackSpec)) termtextBackUptoCard

/-- THE SECOND FORM's CARD OF 'saturatelaw07.TermtextDiffers'. -/
def termtextDiffersUptoCard : Claim7 := { stood := { row := termtextDiffersUptoRow, standIns := [], harness := (true, "47b0547453ba5297b8b5f6c05dfe5d8331b08409be87db24528895b189c89477"), looks := true }, kinds := [], alts := [], laidByText := true, laidKinds := [.data, .data, .data, .data, .sentinel, .sentinel], laidTests := true, laidLooks := .later }
def TermtextDiffersUptoCardSaid : Prop := Claim7.holds Tryz.pinned (.plain (OpenSpec.upto termtextDiffersSpec)) termtextDiffersUptoCard

/-- THE SECOND FORM's CARD OF 'saturatelaw36.ProoftextParses'. -/
def prooftextParsesUptoCard : Claim7 := { stood := { row := prooftextParsesUptoRow, standIns := [], harness := (true, "47b0547453ba5297b8b5f6c05dfe5d8331b08409be87db24528895b189c89477"), looks := true }, kinds := [], alts := [], laidByText := true, laidKinds := [.data, .data, .data, .data, .sentinel, .sentinel, .data], laidTests := true, laidLooks := .later }
def ProoftextParsesUptoCardSaid : Prop := Claim7.holds Tryz.pinned (.plain (OpenSpec.upto prooftextParsesSpec)) prooftextParsesUptoCard

/-- THE SECOND FORM's CARD OF 'saturatelaw36.ProoftextPrints'. -/
def prooftextPrintsUptoCard : Claim7 := { stood := { row := prooftextPrintsUptoRow, standIns := [], harness := (true, "47b0547453ba5297b8b5f6c05dfe5d8331b08409be87db24528895b189c89477"), looks := true }, kinds := [], alts := [], laidByText := true, laidKinds := [.data, .data, .data, .data, .sentinel, .sentinel, .data], laidTests := true, laidLooks := .later }
def ProoftextPrintsUptoCardSaid : Prop := Claim7.holds Tryz.pinned (.plain (OpenSpec.upto prooftextPrintsSpec)) prooftextPrintsUptoCard

/-- THE SECOND FORM's CARD OF 'saturatelaw36.ProoftextBack'. -/
def prooftextBackUptoCard : Claim7 := { stood := { row := prooftextBackUptoRow, standIns := [], harness := (true, "47b0547453ba5297b8b5f6c05dfe5d8331b08409be87db24528895b189c89477"), looks := true }, kinds := [], alts := [], laidByText := true, laidKinds := [.data, .data, .data, .data, .sentinel, .sentinel, .data], laidTests := true, laidLooks := .later }
def ProoftextBackUptoCardSaid : Prop := Claim7.holds Tryz.pinned (.plain (OpenSpec.upto prooftextBackSpec)) prooftextBackUptoCard

/-- THE SECOND FORM's CARD OF 'saturatelaw36.ProoftextTwice'. -/
def prooftextTwiceUptoCard : Claim7 := { stood := { row := prooftextTwiceUptoRow, standIns := [], harness := (true, "47b0547453ba5297b8b5f6c05dfe5d8331b08409be87db24528895b189c89477"), looks := true }, kinds := [], alts := [], laidByText := true, laidKinds := [.data, .data, .data, .data, .sentinel, .sentinel, .data], laidTests := true, laidLooks := .later }
def ProoftextTwiceUptoCardSaid : Prop := Claim7.holds Tryz.pinned (.plain (OpenSpec.upto prooftextTwiceSpec)) prooftextTwiceUptoCard

/-- THE SECOND FORM's CARD OF 'saturatelaw36.ProoftextConcls'. -/
def prooftextConclsUptoCard : Claim7 := { stood := { row := prooftextConclsUptoRow, standIns := [], harness := (true, "47b0547453ba5297b8b5f6c05dfe5d8331b08409be87db24528895b189c89477"), looks := true }, kinds := [], alts := [], laidByText := true, laidKinds := [.data, .data, .data, .data, .sentinel, .sentinel, .data], laidTests := true, laidLooks := .later }
def ProoftextConclsUptoCardSaid : Prop := Claim7.holds Tryz.pinned (.plain (OpenSpec.upto prooftextConclsSpec)) prooftextConclsUptoCard

/-- THE SECOND FORM's CARD OF 'saturatelaw36.ProoftextExplains'. -/
def prooftextExplainsUptoCard : Claim7 := { stood := { row := prooftextExplainsUptoRow, standIns := [], harness := (true, "47b0547453ba5297b8b5f6c05dfe5d8331b08409be87db24528895b189c89477"), looks := true }, kinds := [], alts := [], laidByText := true, laidKinds := [.data, .data, .data, .data, .sentinel, .sentinel, .data], laidTests := true, laidLooks := .later }
def ProoftextExplainsUptoCardSaid : Prop := Claim7.holds Tryz.pinned (.plain (OpenSpec.upto prooftextExplainsSpec)) prooftextExplainsUptoCard
end Rows
end Go.Proofs.YtkofimhnehkdoaaGreatDoor
