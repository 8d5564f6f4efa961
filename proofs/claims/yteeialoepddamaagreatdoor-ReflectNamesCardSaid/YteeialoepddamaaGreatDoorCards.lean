/-
  DERIVED. GIVEN WITH THE SEED: THE CARDS: each row of YteeialoepddamaaGreatDoorRows.lean that lists a variable, with what it lists TIED to the program's text (the seventh form; the later family's looks); each row that meets fmt, with fmt's text TOLD by the authors' own Lean function (tested against real Go, not proved from fmt's source: count such statements apart). THE CARD IS WHAT COUNTS. Prove the row's statement (the work); the ties are given (YteeialoepddamaaGreatDoorTie.lean); close each card by the builder's one call (the guide's Derived/Test/ToyasCard.lean, 'card_holds'). Laid BY PROGRAM, IN A SANDBOX (cutbox-door.mjs). By AI agents, Wed Nov 11 2026. No macro, syntax, notation, axiom, sorry.
-/
import Derived.Test.YteeialoepddamaaGreatDoorRows
import GoSem.ClaimSeven
namespace Go.Proofs.YteeialoepddamaaGreatDoor
namespace Rows

/-- THE TIED CARD OF 'bailifflaw22.ReflectNames'. -/
def reflectNamesCard : Claim7 := { stood := { row := reflectNamesRow, standIns := [], harness := (true, "d6b47c123d7d981f4a027b2fc8a14176b66220cebc694d5a8d05363c6d50196d"), looks := false }, kinds := [], alts := [], laidByText := true, laidKinds := [.data, .data, .data], laidTests := true, laidLooks := .later }
def ReflectNamesCardSaid : Prop := Claim7.holds Tryz.pinned (.plain (OpenSpec.ofChange reflectNamesSpec)) reflectNamesCard

/-- THE TIED CARD OF 'bailifflaw22.ReflectLeads'. -/
def reflectLeadsCard : Claim7 := { stood := { row := reflectLeadsRow, standIns := [], harness := (true, "d6b47c123d7d981f4a027b2fc8a14176b66220cebc694d5a8d05363c6d50196d"), looks := false }, kinds := [], alts := [], laidByText := true, laidKinds := [.data, .data, .data], laidTests := true, laidLooks := .later }
def ReflectLeadsCardSaid : Prop := Claim7.holds Tryz.pinned (.plain (OpenSpec.ofChange reflectLeadsSpec)) reflectLeadsCard

/-- THE TIED CARD OF 'bailifflaw22.ReflectAnswers'. -/
def reflectAnswersCard : Claim7 := { stood := { row := reflectAnswersRow, standIns := [], harness := (true, "d6b47c123d7d981f4a027b2fc8a14176b66220cebc694d5a8d05363c6d50196d"), looks := false }, kinds := [], alts := [], laidByText := true, laidKinds := [.data, .data, .data], laidTests := true, laidLooks := .later }
def ReflectAnswersCardSaid : Prop := Claim7.holds Tryz.pinned (.plain (OpenSpec.ofChange reflectAnswersSpec)) reflectAnswersCard

/-- THE SECOND FORM's CARD OF 'bailifflaw22.ReflectNames'. -/
def reflectNamesUptoCard : Claim7 := { stood := { row := reflectNamesUptoRow, standIns := [], harness := (true, "d6b47c123d7d981f4a027b2fc8a14176b66220cebc694d5a8d05363c6d50196d"), looks := false }, kinds := [], alts := [], laidByText := true, laidKinds := [.data, .data, .data], laidTests := true, laidLooks := .later }
def ReflectNamesUptoCardSaid : Prop := Claim7.holds Tryz.pinned (.plain (OpenSpec.upto reflectNamesSpec)) reflectNamesUptoCard

/-- THE SECOND FORM's CARD OF 'bailifflaw22.ReflectLeads'. -/
def reflectLeadsUptoCard : Claim7 := { stood := { row := reflectLeadsUptoRow, standIns := [], harness := (true, "d6b47c123d7d981f4a027b2fc8a14176b66220cebc694d5a8d05363c6d50196d"), looks := false }, kinds := [], alts := [], laidByText := true, laidKinds := [.data, .data, .data], laidTests := true, laidLooks := .later }
def ReflectLeadsUptoCardSaid : Prop := Claim7.holds Tryz.pinned (.plain (OpenSpec.upto reflectLeadsSpec)) reflectLeadsUptoCard

/-- THE SECOND FORM's CARD OF 'bailifflaw22.ReflectAnswers'. -/
def reflectAnswersUptoCard : Claim7 := { stood := { row := reflectAnswersUptoRow, standIns := [], harness := (true, "d6b47c123d7d981f4a027b2fc8a14176b66220cebc694d5a8d05363c6d50196d"), looks := false }, kinds := [], alts := [], laidByText := true, laidKinds := [.data, .data, .data], laidTests := true, laidLooks := .later }
def ReflectAnswersUptoCardSaid : Prop := Claim7.holds Tryz.pinned (.plain (OpenSpec.upto reflectAnswersSpec)) reflectAnswersUptoCard
end Rows
end Go.Proofs.YteeialoepddamaaGreatDoor
