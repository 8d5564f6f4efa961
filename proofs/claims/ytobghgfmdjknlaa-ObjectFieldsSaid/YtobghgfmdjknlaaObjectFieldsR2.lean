/- ObjectFields: the law at what a descriptor has that may be. -/
import Derived.Test.YtobghgfmdjknlaaObjectFieldsC2
namespace Go.Proofs.Ytobghgfmdjknlaa.objectFields
open Go Go.RowKit Sx
set_option linter.unusedSectionVars false
set_option linter.unusedVariables false
set_option maxRecDepth 100000
theorem law2_ok : LemOk (cl 2) 3 (lawLem 2) := lem_of_run (s := sokl chkP2_ok chkR2_ok) (n := 400) (by kernel_rfl)
theorem good2 : Good 2 := good_of rfl (fun _ => trivial) rfl law2_ok
theorem law12_ok : LemOk (cl 12) 3 (lawLem 12) := lem_of_run (s := sokl chkP12_ok chkR12_ok) (n := 400) (by kernel_rfl)
theorem good12 : Good 12 := good_of rfl (fun _ => trivial) rfl law12_ok
theorem law19_ok : LemOk (cl 19) 3 (lawLem 19) := lem_of_run (s := sokl chkP19_ok chkR19_ok) (n := 400) (by kernel_rfl)
theorem good19 : Good 19 := good_of rfl (fun _ => trivial) rfl law19_ok
theorem law32_ok : LemOk (cl 32) 3 (lawLem 32) := lem_of_run (s := sokl chkP32_ok chkR32_ok) (n := 400) (by kernel_rfl)
theorem good32 : Good 32 := good_of rfl (fun _ => trivial) rfl law32_ok
theorem law36_ok : LemOk (cl 36) 3 (lawLem 36) := lem_of_run (s := sokl chkP36_ok chkR36_ok) (n := 400) (by kernel_rfl)
theorem good36 : Good 36 := good_of rfl (fun _ => trivial) rfl law36_ok
theorem law49_ok : LemOk (cl 49) 3 (lawLem 49) := lem_of_run (s := sokl chkP49_ok chkR49_ok) (n := 400) (by kernel_rfl)
theorem good49 : Good 49 := good_of rfl (fun _ => trivial) rfl law49_ok
theorem law56_ok : LemOk (cl 56) 3 (lawLem 56) := lem_of_run (s := sokl chkP56_ok chkR56_ok) (n := 400) (by kernel_rfl)
theorem good56 : Good 56 := good_of rfl (fun _ => trivial) rfl law56_ok
end Go.Proofs.Ytobghgfmdjknlaa.objectFields
