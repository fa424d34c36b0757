/-
  DERIVED. GIVEN WITH THE SEED: THE CARDS: each row of YtkofimhnehkdoaaDoorRows.lean that lists a variable, with what it lists TIED to the program's text (the seventh form; the later family's looks); each row that meets fmt, with fmt's text TOLD by the authors' own Lean function (tested against real Go, not proved from fmt's source: count such statements apart). THE CARD IS WHAT COUNTS. Prove the row's statement (the work); the ties are given (YtkofimhnehkdoaaDoorTie.lean); close each card by the builder's one call (the guide's Derived/Test/ToyasCard.lean, 'card_holds'). Laid BY PROGRAM, IN A SANDBOX (cutbox-door.mjs). By AI agents, Wed Nov 11 2026. No macro, syntax, notation, axiom, sorry.
-/
import Derived.Test.YtkofimhnehkdoaaDoorRows
import GoSem.ClaimSeven
namespace Go.Proofs.YtkofimhnehkdoaaDoor
namespace Rows

/-- THE TIED CARD OF 'saturatelaw07.TermtextCanon'. -/
def termtextCanonCard : Claim7 := { stood := { row := termtextCanonRow, standIns := [], harness := (true, "5b432cf3c633ed112f27a48c86b1c0b0ce647f723072cc2759e489df6a142279"), looks := true }, kinds := [], alts := [], laidByText := true, laidKinds := [.data, .data, .data, .data, .sentinel, .sentinel], laidTests := true, laidLooks := .later }
def TermtextCanonCardSaid : Prop := Claim7.holds Tryd.pinned (.plain (OpenSpec.ofChange termtextCanonSpec)) termtextCanonCard

/-- THE SECOND FORM's CARD OF 'saturatelaw07.TermtextCanon'. -/
def termtextCanonUptoCard : Claim7 := { stood := { row := termtextCanonUptoRow, standIns := [], harness := (true, "5b432cf3c633ed112f27a48c86b1c0b0ce647f723072cc2759e489df6a142279"), looks := true }, kinds := [], alts := [], laidByText := true, laidKinds := [.data, .data, .data, .data, .sentinel, .sentinel], laidTests := true, laidLooks := .later }
def TermtextCanonUptoCardSaid : Prop := Claim7.holds Tryd.pinned (.plain (OpenSpec.upto termtextCanonSpec)) termtextCanonUptoCard
end Rows
end Go.Proofs.YtkofimhnehkdoaaDoor
