/- ObjectFields: the law at what a descriptor has that may be. -/
import Derived.Test.YtobghgfmdjknlaaObjectFieldsC0
namespace Go.Proofs.Ytobghgfmdjknlaa.objectFields
open Go Go.RowKit Sx
set_option linter.unusedSectionVars false
set_option linter.unusedVariables false
set_option maxRecDepth 100000
theorem law0_ok : LemOk (cl 0) 3 (lawLem 0) := lem_of_run (s := sokl chkP0_ok chkR0_ok) (n := 400) (by kernel_rfl)
theorem good0 : Good 0 := good_of rfl (fun _ => trivial) rfl law0_ok
theorem law4_ok : LemOk (cl 4) 3 (lawLem 4) := lem_of_run (s := sokl chkP4_ok chkR4_ok) (n := 400) (by kernel_rfl)
theorem good4 : Good 4 := good_of rfl (fun _ => trivial) rfl law4_ok
theorem law17_ok : LemOk (cl 17) 3 (lawLem 17) := lem_of_run (s := sokl chkP17_ok chkR17_ok) (n := 400) (by kernel_rfl)
theorem good17 : Good 17 := good_of rfl (fun _ => trivial) rfl law17_ok
theorem law24_ok : LemOk (cl 24) 3 (lawLem 24) := lem_of_run (s := sokl chkP24_ok chkR24_ok) (n := 400) (by kernel_rfl)
theorem good24 : Good 24 := good_of rfl (fun _ => trivial) rfl law24_ok
theorem law34_ok : LemOk (cl 34) 3 (lawLem 34) := lem_of_run (s := sokl chkP34_ok chkR34_ok) (n := 400) (by kernel_rfl)
theorem good34 : Good 34 := good_of rfl (fun _ => trivial) rfl law34_ok
theorem law44_ok : LemOk (cl 44) 3 (lawLem 44) := lem_of_run (s := sokl chkP44_ok chkR44_ok) (n := 400) (by kernel_rfl)
theorem good44 : Good 44 := good_of rfl (fun _ => trivial) rfl law44_ok
theorem law51_ok : LemOk (cl 51) 3 (lawLem 51) := lem_of_run (s := sokl chkP51_ok chkR51_ok) (n := 400) (by kernel_rfl)
theorem good51 : Good 51 := good_of rfl (fun _ => trivial) rfl law51_ok
end Go.Proofs.Ytobghgfmdjknlaa.objectFields
