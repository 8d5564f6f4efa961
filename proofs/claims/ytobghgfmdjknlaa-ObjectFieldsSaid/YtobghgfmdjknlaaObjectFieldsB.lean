/- ObjectFields: the law at what no descriptor may have. -/
import Derived.Test.YtobghgfmdjknlaaObjectFieldsBase
namespace Go.Proofs.Ytobghgfmdjknlaa.objectFields
open Go Go.RowKit Sx
set_option linter.unusedSectionVars false
set_option linter.unusedVariables false
set_option maxRecDepth 100000
def bad0 : List Nat := [5, 6, 7, 9, 10, 11, 13, 14, 15, 21, 22, 23, 25, 26, 27, 29, 30, 31, 37, 38, 39, 41, 42, 43, 45, 46, 47, 53, 54, 55, 57, 58, 59, 61, 62, 63, 64, 65]
theorem bad0_good : ∀ n, n ∈ bad0 → Good n := runs_good (by kernel_rfl)
def bad1 : List Nat := [66, 67, 68, 69, 70, 71, 72, 73, 74, 75, 76, 77, 78, 79, 80, 81, 82, 83, 84, 85, 86, 87, 88, 89, 90, 91, 92, 93, 94, 95, 96, 97, 98, 99, 100, 101, 102, 103]
theorem bad1_good : ∀ n, n ∈ bad1 → Good n := runs_good (by kernel_rfl)
def bad2 : List Nat := [104, 105, 106, 107, 108, 109, 110, 111, 112, 113, 114, 115, 116, 117, 118, 119, 120, 121, 122, 123, 124, 125, 126, 127, 128, 129, 130, 131, 132, 133, 134, 135, 136, 137, 138, 139, 140, 141]
theorem bad2_good : ∀ n, n ∈ bad2 → Good n := runs_good (by kernel_rfl)
def bad3 : List Nat := [142, 143, 144, 145, 146, 147, 148, 149, 150, 151, 152, 153, 154, 155, 156, 157, 158, 159, 160, 161, 162, 163, 164, 165, 166, 167, 168, 169, 170, 171, 172, 173, 174, 175, 176, 177, 178, 179]
theorem bad3_good : ∀ n, n ∈ bad3 → Good n := runs_good (by kernel_rfl)
def bad4 : List Nat := [180, 181, 182, 183, 184, 185, 186, 187, 188, 189, 190, 191, 192, 193, 194, 195, 196, 197, 198, 199, 200, 201, 202, 203, 204, 205, 206, 207, 208, 209, 210, 211, 212, 213, 214, 215, 216, 217]
theorem bad4_good : ∀ n, n ∈ bad4 → Good n := runs_good (by kernel_rfl)
def bad5 : List Nat := [218, 219, 220, 221, 222, 223, 224, 225, 226, 227, 228, 229, 230, 231, 232, 233, 234, 235, 236, 237, 238, 239, 240, 241, 242, 243, 244, 245, 246, 247, 248, 249, 250, 251, 252, 253, 254, 255]
theorem bad5_good : ∀ n, n ∈ bad5 → Good n := runs_good (by kernel_rfl)
end Go.Proofs.Ytobghgfmdjknlaa.objectFields
