/- ObjectFields: the law at what a descriptor has that may be. -/
import Derived.Test.YtobghgfmdjknlaaObjectFieldsC3
namespace Go.Proofs.Ytobghgfmdjknlaa.objectFields
open Go Go.RowKit Sx
set_option linter.unusedSectionVars false
set_option linter.unusedVariables false
set_option maxRecDepth 100000
theorem law3_ok : LemOk (cl 3) 3 (lawLem 3) := lem_of_run (s := sokl chkP3_ok chkR3_ok) (n := 400) (by kernel_rfl)
theorem good3 : Good 3 := good_of rfl (fun _ => trivial) rfl law3_ok
theorem law16_ok : LemOk (cl 16) 3 (lawLem 16) := lem_of_run (s := sokl chkP16_ok chkR16_ok) (n := 400) (by kernel_rfl)
theorem good16 : Good 16 := good_of rfl (fun _ => trivial) rfl law16_ok
theorem law20_ok : LemOk (cl 20) 3 (lawLem 20) := lem_of_run (s := sokl chkP20_ok chkR20_ok) (n := 400) (by kernel_rfl)
theorem good20 : Good 20 := good_of rfl (fun _ => trivial) rfl law20_ok
theorem law33_ok : LemOk (cl 33) 3 (lawLem 33) := lem_of_run (s := sokl chkP33_ok chkR33_ok) (n := 400) (by kernel_rfl)
theorem good33 : Good 33 := good_of rfl (fun _ => trivial) rfl law33_ok
theorem law40_ok : LemOk (cl 40) 3 (lawLem 40) := lem_of_run (s := sokl chkP40_ok chkR40_ok) (n := 400) (by kernel_rfl)
theorem good40 : Good 40 := good_of rfl (fun _ => trivial) rfl law40_ok
theorem law50_ok : LemOk (cl 50) 3 (lawLem 50) := lem_of_run (s := sokl chkP50_ok chkR50_ok) (n := 400) (by kernel_rfl)
theorem good50 : Good 50 := good_of rfl (fun _ => trivial) rfl law50_ok
theorem law60_ok : LemOk (cl 60) 3 (lawLem 60) := lem_of_run (s := sokl chkP60_ok chkR60_ok) (n := 400) (by kernel_rfl)
theorem good60 : Good 60 := good_of rfl (fun _ => trivial) rfl law60_ok
end Go.Proofs.Ytobghgfmdjknlaa.objectFields
