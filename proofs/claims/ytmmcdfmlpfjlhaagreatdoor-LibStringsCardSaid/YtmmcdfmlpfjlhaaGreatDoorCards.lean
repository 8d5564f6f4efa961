/-
  DERIVED. GIVEN WITH THE SEED: THE CARDS: each row of YtmmcdfmlpfjlhaaGreatDoorRows.lean that lists a variable, with what it lists TIED to the program's text (the seventh form; the later family's looks); each row that meets fmt, with fmt's text TOLD by the authors' own Lean function (tested against real Go, not proved from fmt's source: count such statements apart). THE CARD IS WHAT COUNTS. Prove the row's statement (the work); the ties are given (YtmmcdfmlpfjlhaaGreatDoorTie.lean); close each card by the builder's one call (the guide's Derived/Test/ToyasCard.lean, 'card_holds'). Laid BY PROGRAM, IN A SANDBOX (cutbox-door.mjs). By AI agents, Wed Nov 11 2026. No macro, syntax, notation, axiom, sorry.
-/
import Derived.Test.YtmmcdfmlpfjlhaaGreatDoorRows
import GoSem.ClaimSeven
namespace Go.Proofs.YtmmcdfmlpfjlhaaGreatDoor
namespace Rows

/-- THE TIED CARD OF 'bailifflaw23.LibPlain'. -/
def libPlainCard : Claim7 := { stood := { row := libPlainRow, standIns := [], harness := (true, "6e152c99dd68d3486c10157028dadd4f9541c0699921b29ef5ebbc24fead8867"), looks := false }, kinds := [], alts := [], laidByText := true, laidKinds := [.data, .data, .data], laidTests := true, laidLooks := .later }
def LibPlainCardSaid : Prop := Claim7.holds Tryz.pinned (.plain (OpenSpec.ofChange libPlainSpec)) libPlainCard

/-- THE TIED CARD OF 'bailifflaw23.LibStrings'. -/
def libStringsCard : Claim7 := { stood := { row := libStringsRow, standIns := [], harness := (true, "6e152c99dd68d3486c10157028dadd4f9541c0699921b29ef5ebbc24fead8867"), looks := false }, kinds := [], alts := [], laidByText := true, laidKinds := [.data, .data, .data], laidTests := true, laidLooks := .later }
def LibStringsCardSaid : Prop := Claim7.holds Tryz.pinned (.plain (OpenSpec.ofChange libStringsSpec)) libStringsCard

/-- THE TIED CARD OF 'bailifflaw23.LibNames'. -/
def libNamesCard : Claim7 := { stood := { row := libNamesRow, standIns := [], harness := (true, "6e152c99dd68d3486c10157028dadd4f9541c0699921b29ef5ebbc24fead8867"), looks := false }, kinds := [], alts := [], laidByText := true, laidKinds := [.data, .data, .data], laidTests := true, laidLooks := .later }
def LibNamesCardSaid : Prop := Claim7.holds Tryz.pinned (.plain (OpenSpec.ofChange libNamesSpec)) libNamesCard

/-- THE TIED CARD OF 'bailifflaw23.LibLeads'. -/
def libLeadsCard : Claim7 := { stood := { row := libLeadsRow, standIns := [], harness := (true, "6e152c99dd68d3486c10157028dadd4f9541c0699921b29ef5ebbc24fead8867"), looks := false }, kinds := [], alts := [], laidByText := true, laidKinds := [.data, .data, .data], laidTests := true, laidLooks := .later }
def LibLeadsCardSaid : Prop := Claim7.holds Tryz.pinned (.plain (OpenSpec.ofChange libLeadsSpec)) libLeadsCard

/-- THE SECOND FORM's CARD OF 'bailifflaw23.LibPlain'. -/
def libPlainUptoCard : Claim7 := { stood := { row := libPlainUptoRow, standIns := [], harness := (true, "6e152c99dd68d3486c10157028dadd4f9541c0699921b29ef5ebbc24fead8867"), looks := false }, kinds := [], alts := [], laidByText := true, laidKinds := [.data, .data, .data], laidTests := true, laidLooks := .later }
def LibPlainUptoCardSaid : Prop := Claim7.holds Tryz.pinned (.plain (OpenSpec.upto libPlainSpec)) libPlainUptoCard

/-- THE SECOND FORM's CARD OF 'bailifflaw23.LibStrings'. -/
def libStringsUptoCard : Claim7 := { stood := { row := libStringsUptoRow, standIns := [], harness := (true, "6e152c99dd68d3486c10157028dadd4f9541c0699921b29ef5ebbc24fead8867"), looks := false }, kinds := [], alts := [], laidByText := true, laidKinds := [.data, .data, .data], laidTests := true, laidLooks := .later }
def LibStringsUptoCardSaid : Prop := Claim7.holds Tryz.pinned (.plain (OpenSpec.upto libStringsSpec)) libStringsUptoCard

/-- THE SECOND FORM's CARD OF 'bailifflaw23.LibNames'. -/
def libNamesUptoCard : Claim7 := { stood := { row := libNamesUptoRow, standIns := [], harness := (true, "6e152c99dd68d3486c10157028dadd4f9541c0699921b29ef5ebbc24fead8867"), looks := false }, kinds := [], alts := [], laidByText := true, laidKinds := [.data, .data, .data], laidTests := true, laidLooks := .later }
def LibNamesUptoCardSaid : Prop := Claim7.holds Tryz.pinned (.plain (OpenSpec.upto libNamesSpec)) libNamesUptoCard

/-- THE SECOND FORM's CARD OF 'bailifflaw23.LibLeads'. -/
def libLeadsUptoCard : Claim7 := { stood := { row := libLeadsUptoRow, standIns := [], harness := (true, "6e152c99dd68d3486c10157028dadd4f9541c0699921b29ef5ebbc24fead8867"), looks := false }, kinds := [], alts := [], laidByText := true, laidKinds := [.data, .data, .data], laidTests := true, laidLooks := .later }
def LibLeadsUptoCardSaid : Prop := Claim7.holds Tryz.pinned (.plain (OpenSpec.upto libLeadsSpec)) libLeadsUptoCard
end Rows
end Go.Proofs.YtmmcdfmlpfjlhaaGreatDoor
