/- ObjectFields: the law at what a descriptor has that may be. -/
import Derived.Test.YtobghgfmdjknlaaObjectFieldsC1
namespace Go.Proofs.Ytobghgfmdjknlaa.objectFields
open Go Go.RowKit Sx
set_option linter.unusedSectionVars false
set_option linter.unusedVariables false
set_option maxRecDepth 100000
theorem law1_ok : LemOk (cl 1) 3 (lawLem 1) := lem_of_run (s := sokl chkP1_ok chkR1_ok) (n := 400) (by kernel_rfl)
theorem good1 : Good 1 := good_of rfl (fun _ => trivial) rfl law1_ok
theorem law8_ok : LemOk (cl 8) 3 (lawLem 8) := lem_of_run (s := sokl chkP8_ok chkR8_ok) (n := 400) (by kernel_rfl)
theorem good8 : Good 8 := good_of rfl (fun _ => trivial) rfl law8_ok
theorem law18_ok : LemOk (cl 18) 3 (lawLem 18) := lem_of_run (s := sokl chkP18_ok chkR18_ok) (n := 400) (by kernel_rfl)
theorem good18 : Good 18 := good_of rfl (fun _ => trivial) rfl law18_ok
theorem law28_ok : LemOk (cl 28) 3 (lawLem 28) := lem_of_run (s := sokl chkP28_ok chkR28_ok) (n := 400) (by kernel_rfl)
theorem good28 : Good 28 := good_of rfl (fun _ => trivial) rfl law28_ok
theorem law35_ok : LemOk (cl 35) 3 (lawLem 35) := lem_of_run (s := sokl chkP35_ok chkR35_ok) (n := 400) (by kernel_rfl)
theorem good35 : Good 35 := good_of rfl (fun _ => trivial) rfl law35_ok
theorem law48_ok : LemOk (cl 48) 3 (lawLem 48) := lem_of_run (s := sokl chkP48_ok chkR48_ok) (n := 400) (by kernel_rfl)
theorem good48 : Good 48 := good_of rfl (fun _ => trivial) rfl law48_ok
theorem law52_ok : LemOk (cl 52) 3 (lawLem 52) := lem_of_run (s := sokl chkP52_ok chkR52_ok) (n := 400) (by kernel_rfl)
theorem good52 : Good 52 := good_of rfl (fun _ => trivial) rfl law52_ok
end Go.Proofs.Ytobghgfmdjknlaa.objectFields
