/-
  DERIVED. GIVEN WITH THE SEED: THE CARDS: each row of YtlfeckimhaegbaaDoorRows.lean that lists a variable, with what it lists TIED to the program's text (the seventh form; the later family's looks); each row that meets fmt, with fmt's text TOLD by the authors' own Lean function (tested against real Go, not proved from fmt's source: count such statements apart). THE CARD IS WHAT COUNTS. Prove the row's statement (the work); the ties are given (YtlfeckimhaegbaaDoorTie.lean); close each card by the builder's one call (the guide's Derived/Test/ToyasCard.lean, 'card_holds'). Laid BY PROGRAM, IN A SANDBOX (cutbox-door.mjs). By AI agents, Wed Nov 11 2026. No macro, syntax, notation, axiom, sorry.
-/
import Derived.Test.YtlfeckimhaegbaaDoorRows
import GoSem.ClaimSeven
namespace Go.Proofs.YtlfeckimhaegbaaDoor
namespace Rows

/-- THE TIED CARD OF 'isthmuslaw21.FilterAnswers'. -/
def filterAnswersCard : Claim7 := { stood := { row := filterAnswersRow, standIns := [], harness := (true, "61e2a4cd82ead956ab0c4c209e6ac16af62f6d7d1189cab18b5f65fa6b07b6c3"), looks := false }, kinds := [], alts := [], laidByText := true, laidKinds := [.data, .data, .data], laidTests := true, laidLooks := .later }
def FilterAnswersCardSaid : Prop := Claim7.holds Tryd.pinned (.plain (OpenSpec.ofChange filterAnswersSpec)) filterAnswersCard

/-- THE TIED CARD OF 'isthmuslaw21.FilterApart'. -/
def filterApartCard : Claim7 := { stood := { row := filterApartRow, standIns := [], harness := (true, "61e2a4cd82ead956ab0c4c209e6ac16af62f6d7d1189cab18b5f65fa6b07b6c3"), looks := false }, kinds := [], alts := [], laidByText := true, laidKinds := [.data, .data, .data], laidTests := true, laidLooks := .later }
def FilterApartCardSaid : Prop := Claim7.holds Tryd.pinned (.plain (OpenSpec.ofChange filterApartSpec)) filterApartCard

/-- THE SECOND FORM's CARD OF 'isthmuslaw21.FilterAnswers'. -/
def filterAnswersUptoCard : Claim7 := { stood := { row := filterAnswersUptoRow, standIns := [], harness := (true, "61e2a4cd82ead956ab0c4c209e6ac16af62f6d7d1189cab18b5f65fa6b07b6c3"), looks := false }, kinds := [], alts := [], laidByText := true, laidKinds := [.data, .data, .data], laidTests := true, laidLooks := .later }
def FilterAnswersUptoCardSaid : Prop := Claim7.holds Tryd.pinned (.plain (OpenSpec.upto filterAnswersSpec)) filterAnswersUptoCard

/-- THE SECOND FORM's CARD OF 'isthmuslaw21.FilterApart'. -/
def filterApartUptoCard : Claim7 := { stood := { row := filterApartUptoRow, standIns := [], harness := (true, "61e2a4cd82ead956ab0c4c209e6ac16af62f6d7d1189cab18b5f65fa6b07b6c3"), looks := false }, kinds := [], alts := [], laidByText := true, laidKinds := [.data, .data, .data], laidTests := true, laidLooks := .later }
def FilterApartUptoCardSaid : Prop := Claim7.holds Tryd.pinned (.plain (OpenSpec.upto filterApartSpec)) filterApartUptoCard
end Rows
end Go.Proofs.YtlfeckimhaegbaaDoor
