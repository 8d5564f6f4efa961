/-
  DERIVED. GIVEN WITH THE SEED: THE CARDS: each row of YtnlenfednghmmaaGreatDoorRows.lean that lists a variable, with what it lists TIED to the program's text (the seventh form; the later family's looks); each row that meets fmt, with fmt's text TOLD by the authors' own Lean function (tested against real Go, not proved from fmt's source: count such statements apart). THE CARD IS WHAT COUNTS. Prove the row's statement (the work); the ties are given (YtnlenfednghmmaaGreatDoorTie.lean); close each card by the builder's one call (the guide's Derived/Test/ToyasCard.lean, 'card_holds'). Laid BY PROGRAM, IN A SANDBOX (cutbox-door.mjs). By AI agents, Wed Nov 11 2026. No macro, syntax, notation, axiom, sorry.
-/
import Derived.Test.YtnlenfednghmmaaGreatDoorRows
import GoSem.ClaimSeven
namespace Go.Proofs.YtnlenfednghmmaaGreatDoor
namespace Rows

/-- THE TIED CARD OF 'bailifflaw21.ObjectEnds'. -/
def objectEndsCard : Claim7 := { stood := { row := objectEndsRow, standIns := [], harness := (true, "94e651056bba3f5238b297799c1534d9987c4ec142bd2ffce56f5086fb835f96"), looks := false }, kinds := [], alts := [], laidByText := true, laidKinds := [.data, .data, .data], laidTests := true, laidLooks := .later }
def ObjectEndsCardSaid : Prop := Claim7.holds Tryz.pinned (.plain (OpenSpec.ofChange objectEndsSpec)) objectEndsCard

/-- THE TIED CARD OF 'bailifflaw21.ObjectNames'. -/
def objectNamesCard : Claim7 := { stood := { row := objectNamesRow, standIns := [], harness := (true, "94e651056bba3f5238b297799c1534d9987c4ec142bd2ffce56f5086fb835f96"), looks := false }, kinds := [], alts := [], laidByText := true, laidKinds := [.data, .data, .data], laidTests := true, laidLooks := .later }
def ObjectNamesCardSaid : Prop := Claim7.holds Tryz.pinned (.plain (OpenSpec.ofChange objectNamesSpec)) objectNamesCard

/-- THE SECOND FORM's CARD OF 'bailifflaw21.ObjectEnds'. -/
def objectEndsUptoCard : Claim7 := { stood := { row := objectEndsUptoRow, standIns := [], harness := (true, "94e651056bba3f5238b297799c1534d9987c4ec142bd2ffce56f5086fb835f96"), looks := false }, kinds := [], alts := [], laidByText := true, laidKinds := [.data, .data, .data], laidTests := true, laidLooks := .later }
def ObjectEndsUptoCardSaid : Prop := Claim7.holds Tryz.pinned (.plain (OpenSpec.upto objectEndsSpec)) objectEndsUptoCard

/-- THE SECOND FORM's CARD OF 'bailifflaw21.ObjectNames'. -/
def objectNamesUptoCard : Claim7 := { stood := { row := objectNamesUptoRow, standIns := [], harness := (true, "94e651056bba3f5238b297799c1534d9987c4ec142bd2ffce56f5086fb835f96"), looks := false }, kinds := [], alts := [], laidByText := true, laidKinds := [.data, .data, .data], laidTests := true, laidLooks := .later }
def ObjectNamesUptoCardSaid : Prop := Claim7.holds Tryz.pinned (.plain (OpenSpec.upto objectNamesSpec)) objectNamesUptoCard
end Rows
end Go.Proofs.YtnlenfednghmmaaGreatDoor
