/- OpNames answers true, in whatever memory: the errors' numbers, the operations' names and the examples of the chapter are so. No condition. -/
import Derived.Test.YtfhkjlncblnnmaaGreatRows
import Derived.WalkKit
import Derived.ProofKit
import Derived.OpenShut
import Derived.Test.YtfhkjlncblnnmaaGreatSxLem
import Derived.Test.YtfhkjlncblnnmaaGreatSxSorted
import Derived.Test.YtfhkjlncblnnmaaGreatSxTab
import Derived.Test.YtfhkjlncblnnmaaGreatSorts
namespace Go.Proofs.YtfhkjlncblnnmaaGreat.opNames
open Go.ChangeShapes Go.WideShapes Go.ChangeAt Go.RowKit
set_option linter.unusedVariables false      -- a walk need not use every 'w<i>' (that an integer argument fits its kind)

theorem own : ownKnob Tryz.prog.godebug = none := by kernel_rfl

/-! ### STEP 1: THE WALK: the Go text returns true. 'Grown w w'': the world has at most new blocks (Derived/RowKit3.lean). Part the cases AHEAD of 'go_enter' where a test parts the walk; take each callee by a contract of your own. -/
open Sx in
noncomputable def sums0 := sumL [(44, sortedX 84 9)]
open Sx in
instance sok0 (F : Wd) : SOk (cfgOf sums0) F := sumL_ok (c := cfgOf sums0) rfl (fun x hx => by
  simp only [List.mem_cons, List.not_mem_nil, or_false] at hx
  rcases hx with rfl
  · exact TrOk.cfg (c := cfgOf fun _ => none) (c' := cfgOf sums0) rfl rfl (sorted_tr (c := cfgOf fun _ => none) sorts))

open Sx in
noncomputable def lem0 : Lem := ⟨[], [([(.k (.int .u8 4)), (.k (.float .f64 0)), (.k (.string ⟨#[55]⟩)), (.k (.int .i64 0)), (.k (.int .u8 3)), (.k (.float .f64 4611686018427387904)), (.k (.string ⟨#[]⟩)), (.k (.int .i64 0))], 33)], [], [(.k (.string ⟨#[45]⟩)), (.slice 0 0 (.k (.int .i64 2)) (.k (.int .i64 2)))], [⟨[], [], (.agg (.cons (.k (.int .u8 1)) (.cons (.k (.int .u8 3)) (.cons (.k (.float .f64 4617315517961601024)) (.cons (.k (.string ⟨#[]⟩)) (.cons (.k (.int .i64 0)) (.cons (.k (.bool false)) (.cons (.k (.bool false)) (.cons (.k (.int .u8 0)) (.cons (.k (.int .u8 0)) (.cons (.k (.float .f64 0)) (.cons (.k (.string ⟨#[]⟩)) (.cons (.k (.int .i64 0)) (.cons (.k (.int .u8 0)) (.cons (.k (.float .f64 0)) (.cons (.k (.string ⟨#[]⟩)) (.cons (.k (.int .i64 0)) (.cons (.k (.int .u8 0)) (.cons (.k (.float .f64 0)) (.cons (.k (.string ⟨#[]⟩)) (.cons (.k (.int .i64 0)) (.cons (.k (.bool false)) (.cons (.k (.bool false)) (.cons (.k (.bool false)) (.cons (.k (.slice none 0 0)) (.cons (.k (.int .u8 0)) (.cons (.k (.string ⟨#[]⟩)) .nil)))))))))))))))))))))))))))⟩]⟩
open Sx in
set_option maxRecDepth 100000 in
theorem lem0_ok : LemOk (cfgOf sums0) 24 lem0 := lem_of_run (n := 400) (by kernel_rfl)
open Sx in
noncomputable def lem1 : Lem := ⟨[], [([(.k (.int .u8 3)), (.k (.float .f64 4607182418800017408)), (.k (.string ⟨#[]⟩)), (.k (.int .i64 0)), (.k (.int .u8 3)), (.k (.float .f64 4611686018427387904)), (.k (.string ⟨#[]⟩)), (.k (.int .i64 0))], 33)], [], [(.k (.string ⟨#[47]⟩)), (.slice 0 0 (.k (.int .i64 2)) (.k (.int .i64 2)))], [⟨[], [], (.agg (.cons (.k (.int .u8 3)) (.cons (.k (.int .u8 0)) (.cons (.k (.float .f64 0)) (.cons (.k (.string ⟨#[]⟩)) (.cons (.k (.int .i64 0)) (.cons (.k (.bool false)) (.cons (.k (.bool false)) (.cons (.k (.int .u8 0)) (.cons (.k (.int .u8 0)) (.cons (.k (.float .f64 0)) (.cons (.k (.string ⟨#[]⟩)) (.cons (.k (.int .i64 0)) (.cons (.k (.int .u8 0)) (.cons (.k (.float .f64 0)) (.cons (.k (.string ⟨#[]⟩)) (.cons (.k (.int .i64 0)) (.cons (.k (.int .u8 0)) (.cons (.k (.float .f64 0)) (.cons (.k (.string ⟨#[]⟩)) (.cons (.k (.int .i64 0)) (.cons (.k (.bool false)) (.cons (.k (.bool false)) (.cons (.k (.bool false)) (.cons (.k (.slice none 0 0)) (.cons (.k (.int .u8 2)) (.cons (.k (.string ⟨#[105, 110, 101, 120, 97, 99, 116]⟩)) .nil)))))))))))))))))))))))))))⟩]⟩
open Sx in
set_option maxRecDepth 100000 in
theorem lem1_ok : LemOk (cfgOf sums0) 24 lem1 := lem_of_run (n := 400) (by kernel_rfl)
open Sx in
noncomputable def lem2 : Lem := ⟨[], [([(.k (.int .u8 3)), (.k (.float .f64 0)), (.k (.string ⟨#[]⟩)), (.k (.int .i64 0))], 33)], [], [(.k (.string ⟨#[110, 101, 103]⟩)), (.slice 0 0 (.k (.int .i64 1)) (.k (.int .i64 1)))], [⟨[], [], (.agg (.cons (.k (.int .u8 3)) (.cons (.k (.int .u8 0)) (.cons (.k (.float .f64 0)) (.cons (.k (.string ⟨#[]⟩)) (.cons (.k (.int .i64 0)) (.cons (.k (.bool false)) (.cons (.k (.bool false)) (.cons (.k (.int .u8 0)) (.cons (.k (.int .u8 0)) (.cons (.k (.float .f64 0)) (.cons (.k (.string ⟨#[]⟩)) (.cons (.k (.int .i64 0)) (.cons (.k (.int .u8 0)) (.cons (.k (.float .f64 0)) (.cons (.k (.string ⟨#[]⟩)) (.cons (.k (.int .i64 0)) (.cons (.k (.int .u8 0)) (.cons (.k (.float .f64 0)) (.cons (.k (.string ⟨#[]⟩)) (.cons (.k (.int .i64 0)) (.cons (.k (.bool false)) (.cons (.k (.bool false)) (.cons (.k (.bool false)) (.cons (.k (.slice none 0 0)) (.cons (.k (.int .u8 2)) (.cons (.k (.string ⟨#[105, 110, 101, 120, 97, 99, 116]⟩)) .nil)))))))))))))))))))))))))))⟩]⟩
open Sx in
set_option maxRecDepth 100000 in
theorem lem2_ok : LemOk (cfgOf sums0) 24 lem2 := lem_of_run (n := 400) (by kernel_rfl)
open Sx in
noncomputable def lem3 : Lem := ⟨[], [([(.k (.int .u8 3)), (.k (.float .f64 13830554455654793216)), (.k (.string ⟨#[]⟩)), (.k (.int .i64 0)), (.k (.int .u8 3)), (.k (.float .f64 0)), (.k (.string ⟨#[]⟩)), (.k (.int .i64 0))], 33)], [], [(.k (.string ⟨#[62, 62, 62]⟩)), (.slice 0 0 (.k (.int .i64 2)) (.k (.int .i64 2)))], [⟨[], [], (.agg (.cons (.k (.int .u8 1)) (.cons (.k (.int .u8 3)) (.cons (.k (.float .f64 4751297606873776128)) (.cons (.k (.string ⟨#[]⟩)) (.cons (.k (.int .i64 0)) (.cons (.k (.bool false)) (.cons (.k (.bool false)) (.cons (.k (.int .u8 0)) (.cons (.k (.int .u8 0)) (.cons (.k (.float .f64 0)) (.cons (.k (.string ⟨#[]⟩)) (.cons (.k (.int .i64 0)) (.cons (.k (.int .u8 0)) (.cons (.k (.float .f64 0)) (.cons (.k (.string ⟨#[]⟩)) (.cons (.k (.int .i64 0)) (.cons (.k (.int .u8 0)) (.cons (.k (.float .f64 0)) (.cons (.k (.string ⟨#[]⟩)) (.cons (.k (.int .i64 0)) (.cons (.k (.bool false)) (.cons (.k (.bool false)) (.cons (.k (.bool false)) (.cons (.k (.slice none 0 0)) (.cons (.k (.int .u8 0)) (.cons (.k (.string ⟨#[]⟩)) .nil)))))))))))))))))))))))))))⟩]⟩
open Sx in
set_option maxRecDepth 100000 in
theorem lem3_ok : LemOk (cfgOf sums0) 24 lem3 := lem_of_run (n := 400) (by kernel_rfl)
open Sx in
noncomputable def lem4 : Lem := ⟨[], [([(.k (.int .u8 0)), (.k (.float .f64 0)), (.k (.string ⟨#[]⟩)), (.k (.int .i64 0))], 33)], [], [(.k (.string ⟨#[112, 111, 115]⟩)), (.slice 0 0 (.k (.int .i64 1)) (.k (.int .i64 1)))], [⟨[], [], (.agg (.cons (.k (.int .u8 1)) (.cons (.k (.int .u8 3)) (.cons (.k (.float .f64 9221120237041090561)) (.cons (.k (.string ⟨#[]⟩)) (.cons (.k (.int .i64 0)) (.cons (.k (.bool false)) (.cons (.k (.bool false)) (.cons (.k (.int .u8 0)) (.cons (.k (.int .u8 0)) (.cons (.k (.float .f64 0)) (.cons (.k (.string ⟨#[]⟩)) (.cons (.k (.int .i64 0)) (.cons (.k (.int .u8 0)) (.cons (.k (.float .f64 0)) (.cons (.k (.string ⟨#[]⟩)) (.cons (.k (.int .i64 0)) (.cons (.k (.int .u8 0)) (.cons (.k (.float .f64 0)) (.cons (.k (.string ⟨#[]⟩)) (.cons (.k (.int .i64 0)) (.cons (.k (.bool false)) (.cons (.k (.bool false)) (.cons (.k (.bool false)) (.cons (.k (.slice none 0 0)) (.cons (.k (.int .u8 0)) (.cons (.k (.string ⟨#[]⟩)) .nil)))))))))))))))))))))))))))⟩]⟩
open Sx in
set_option maxRecDepth 100000 in
theorem lem4_ok : LemOk (cfgOf sums0) 24 lem4 := lem_of_run (n := 400) (by kernel_rfl)
open Sx in
noncomputable def lem5 : Lem := ⟨[], [([(.k (.int .u8 4)), (.k (.float .f64 0)), (.k (.string ⟨#[97]⟩)), (.k (.int .i64 0)), (.k (.int .u8 4)), (.k (.float .f64 0)), (.k (.string ⟨#[98]⟩)), (.k (.int .i64 0))], 33)], [], [(.k (.string ⟨#[60]⟩)), (.slice 0 0 (.k (.int .i64 2)) (.k (.int .i64 2)))], [⟨[], [], (.agg (.cons (.k (.int .u8 1)) (.cons (.k (.int .u8 2)) (.cons (.k (.float .f64 4607182418800017408)) (.cons (.k (.string ⟨#[]⟩)) (.cons (.k (.int .i64 0)) (.cons (.k (.bool false)) (.cons (.k (.bool false)) (.cons (.k (.int .u8 0)) (.cons (.k (.int .u8 0)) (.cons (.k (.float .f64 0)) (.cons (.k (.string ⟨#[]⟩)) (.cons (.k (.int .i64 0)) (.cons (.k (.int .u8 0)) (.cons (.k (.float .f64 0)) (.cons (.k (.string ⟨#[]⟩)) (.cons (.k (.int .i64 0)) (.cons (.k (.int .u8 0)) (.cons (.k (.float .f64 0)) (.cons (.k (.string ⟨#[]⟩)) (.cons (.k (.int .i64 0)) (.cons (.k (.bool false)) (.cons (.k (.bool false)) (.cons (.k (.bool false)) (.cons (.k (.slice none 0 0)) (.cons (.k (.int .u8 0)) (.cons (.k (.string ⟨#[]⟩)) .nil)))))))))))))))))))))))))))⟩]⟩
open Sx in
set_option maxRecDepth 100000 in
theorem lem5_ok : LemOk (cfgOf sums0) 24 lem5 := lem_of_run (n := 400) (by kernel_rfl)
open Sx in
noncomputable def lem6 : Lem := ⟨[], [([(.k (.int .u8 3)), (.k (.float .f64 9221120237041090561)), (.k (.string ⟨#[]⟩)), (.k (.int .i64 0)), (.k (.int .u8 3)), (.k (.float .f64 4607182418800017408)), (.k (.string ⟨#[]⟩)), (.k (.int .i64 0))], 33)], [], [(.k (.string ⟨#[62, 61]⟩)), (.slice 0 0 (.k (.int .i64 2)) (.k (.int .i64 2)))], [⟨[], [], (.agg (.cons (.k (.int .u8 1)) (.cons (.k (.int .u8 2)) (.cons (.k (.float .f64 0)) (.cons (.k (.string ⟨#[]⟩)) (.cons (.k (.int .i64 0)) (.cons (.k (.bool false)) (.cons (.k (.bool false)) (.cons (.k (.int .u8 0)) (.cons (.k (.int .u8 0)) (.cons (.k (.float .f64 0)) (.cons (.k (.string ⟨#[]⟩)) (.cons (.k (.int .i64 0)) (.cons (.k (.int .u8 0)) (.cons (.k (.float .f64 0)) (.cons (.k (.string ⟨#[]⟩)) (.cons (.k (.int .i64 0)) (.cons (.k (.int .u8 0)) (.cons (.k (.float .f64 0)) (.cons (.k (.string ⟨#[]⟩)) (.cons (.k (.int .i64 0)) (.cons (.k (.bool false)) (.cons (.k (.bool false)) (.cons (.k (.bool false)) (.cons (.k (.slice none 0 0)) (.cons (.k (.int .u8 0)) (.cons (.k (.string ⟨#[]⟩)) .nil)))))))))))))))))))))))))))⟩]⟩
open Sx in
set_option maxRecDepth 100000 in
theorem lem6_ok : LemOk (cfgOf sums0) 24 lem6 := lem_of_run (n := 400) (by kernel_rfl)
open Sx in
noncomputable def lem7 : Lem := ⟨[], [([(.k (.int .u8 3)), (.k (.float .f64 9221120237041090561)), (.k (.string ⟨#[]⟩)), (.k (.int .i64 0)), (.k (.int .u8 3)), (.k (.float .f64 4607182418800017408)), (.k (.string ⟨#[]⟩)), (.k (.int .i64 0))], 33)], [], [(.k (.string ⟨#[60, 61]⟩)), (.slice 0 0 (.k (.int .i64 2)) (.k (.int .i64 2)))], [⟨[], [], (.agg (.cons (.k (.int .u8 1)) (.cons (.k (.int .u8 2)) (.cons (.k (.float .f64 0)) (.cons (.k (.string ⟨#[]⟩)) (.cons (.k (.int .i64 0)) (.cons (.k (.bool false)) (.cons (.k (.bool false)) (.cons (.k (.int .u8 0)) (.cons (.k (.int .u8 0)) (.cons (.k (.float .f64 0)) (.cons (.k (.string ⟨#[]⟩)) (.cons (.k (.int .i64 0)) (.cons (.k (.int .u8 0)) (.cons (.k (.float .f64 0)) (.cons (.k (.string ⟨#[]⟩)) (.cons (.k (.int .i64 0)) (.cons (.k (.int .u8 0)) (.cons (.k (.float .f64 0)) (.cons (.k (.string ⟨#[]⟩)) (.cons (.k (.int .i64 0)) (.cons (.k (.bool false)) (.cons (.k (.bool false)) (.cons (.k (.bool false)) (.cons (.k (.slice none 0 0)) (.cons (.k (.int .u8 0)) (.cons (.k (.string ⟨#[]⟩)) .nil)))))))))))))))))))))))))))⟩]⟩
open Sx in
set_option maxRecDepth 100000 in
theorem lem7_ok : LemOk (cfgOf sums0) 24 lem7 := lem_of_run (n := 400) (by kernel_rfl)
open Sx in
noncomputable def lem8 : Lem := ⟨[], [([(.k (.int .u8 1)), (.k (.float .f64 0)), (.k (.string ⟨#[]⟩)), (.k (.int .i64 0)), (.k (.int .u8 0)), (.k (.float .f64 0)), (.k (.string ⟨#[]⟩)), (.k (.int .i64 0))], 33)], [], [(.k (.string ⟨#[61, 61]⟩)), (.slice 0 0 (.k (.int .i64 2)) (.k (.int .i64 2)))], [⟨[], [], (.agg (.cons (.k (.int .u8 1)) (.cons (.k (.int .u8 2)) (.cons (.k (.float .f64 4607182418800017408)) (.cons (.k (.string ⟨#[]⟩)) (.cons (.k (.int .i64 0)) (.cons (.k (.bool false)) (.cons (.k (.bool false)) (.cons (.k (.int .u8 0)) (.cons (.k (.int .u8 0)) (.cons (.k (.float .f64 0)) (.cons (.k (.string ⟨#[]⟩)) (.cons (.k (.int .i64 0)) (.cons (.k (.int .u8 0)) (.cons (.k (.float .f64 0)) (.cons (.k (.string ⟨#[]⟩)) (.cons (.k (.int .i64 0)) (.cons (.k (.int .u8 0)) (.cons (.k (.float .f64 0)) (.cons (.k (.string ⟨#[]⟩)) (.cons (.k (.int .i64 0)) (.cons (.k (.bool false)) (.cons (.k (.bool false)) (.cons (.k (.bool false)) (.cons (.k (.slice none 0 0)) (.cons (.k (.int .u8 0)) (.cons (.k (.string ⟨#[]⟩)) .nil)))))))))))))))))))))))))))⟩]⟩
open Sx in
set_option maxRecDepth 100000 in
theorem lem8_ok : LemOk (cfgOf sums0) 24 lem8 := lem_of_run (n := 400) (by kernel_rfl)
open Sx in
noncomputable def lem9 : Lem := ⟨[], [([(.k (.int .u8 7)), (.k (.float .f64 0)), (.k (.string ⟨#[]⟩)), (.k (.int .i64 3))], 33)], [], [(.k (.string ⟨#[116, 121, 112, 101, 111, 102]⟩)), (.slice 0 0 (.k (.int .i64 1)) (.k (.int .i64 1)))], [⟨[], [], (.agg (.cons (.k (.int .u8 1)) (.cons (.k (.int .u8 4)) (.cons (.k (.float .f64 0)) (.cons (.k (.string ⟨#[102, 117, 110, 99, 116, 105, 111, 110]⟩)) (.cons (.k (.int .i64 0)) (.cons (.k (.bool false)) (.cons (.k (.bool false)) (.cons (.k (.int .u8 0)) (.cons (.k (.int .u8 0)) (.cons (.k (.float .f64 0)) (.cons (.k (.string ⟨#[]⟩)) (.cons (.k (.int .i64 0)) (.cons (.k (.int .u8 0)) (.cons (.k (.float .f64 0)) (.cons (.k (.string ⟨#[]⟩)) (.cons (.k (.int .i64 0)) (.cons (.k (.int .u8 0)) (.cons (.k (.float .f64 0)) (.cons (.k (.string ⟨#[]⟩)) (.cons (.k (.int .i64 0)) (.cons (.k (.bool false)) (.cons (.k (.bool false)) (.cons (.k (.bool false)) (.cons (.k (.slice none 0 0)) (.cons (.k (.int .u8 0)) (.cons (.k (.string ⟨#[]⟩)) .nil)))))))))))))))))))))))))))⟩]⟩
open Sx in
set_option maxRecDepth 100000 in
theorem lem9_ok : LemOk (cfgOf sums0) 24 lem9 := lem_of_run (n := 400) (by kernel_rfl)
open Sx in
noncomputable def lem10 : Lem := ⟨[], [([(.k (.int .u8 4)), (.k (.float .f64 0)), (.k (.string ⟨#[97, 98, 99]⟩)), (.k (.int .i64 0)), (.k (.int .u8 4)), (.k (.float .f64 0)), (.k (.string ⟨#[108, 101, 110, 103, 116, 104]⟩)), (.k (.int .i64 0))], 33)], [], [(.k (.string ⟨#[103, 101, 116]⟩)), (.slice 0 0 (.k (.int .i64 2)) (.k (.int .i64 2)))], [⟨[], [], (.agg (.cons (.k (.int .u8 1)) (.cons (.k (.int .u8 3)) (.cons (.k (.float .f64 4613937818241073152)) (.cons (.k (.string ⟨#[]⟩)) (.cons (.k (.int .i64 0)) (.cons (.k (.bool false)) (.cons (.k (.bool false)) (.cons (.k (.int .u8 0)) (.cons (.k (.int .u8 0)) (.cons (.k (.float .f64 0)) (.cons (.k (.string ⟨#[]⟩)) (.cons (.k (.int .i64 0)) (.cons (.k (.int .u8 0)) (.cons (.k (.float .f64 0)) (.cons (.k (.string ⟨#[]⟩)) (.cons (.k (.int .i64 0)) (.cons (.k (.int .u8 0)) (.cons (.k (.float .f64 0)) (.cons (.k (.string ⟨#[]⟩)) (.cons (.k (.int .i64 0)) (.cons (.k (.bool false)) (.cons (.k (.bool false)) (.cons (.k (.bool false)) (.cons (.k (.slice none 0 0)) (.cons (.k (.int .u8 0)) (.cons (.k (.string ⟨#[]⟩)) .nil)))))))))))))))))))))))))))⟩]⟩
open Sx in
set_option maxRecDepth 100000 in
theorem lem10_ok : LemOk (cfgOf sums0) 24 lem10 := lem_of_run (n := 400) (by kernel_rfl)
open Sx in
noncomputable def lem11 : Lem := ⟨[], [([(.k (.int .u8 1)), (.k (.float .f64 0)), (.k (.string ⟨#[]⟩)), (.k (.int .i64 0)), (.k (.int .u8 3)), (.k (.float .f64 4607182418800017408)), (.k (.string ⟨#[]⟩)), (.k (.int .i64 0))], 33)], [], [(.k (.string ⟨#[103, 101, 116]⟩)), (.slice 0 0 (.k (.int .i64 2)) (.k (.int .i64 2)))], [⟨[], [], (.agg (.cons (.k (.int .u8 3)) (.cons (.k (.int .u8 0)) (.cons (.k (.float .f64 0)) (.cons (.k (.string ⟨#[]⟩)) (.cons (.k (.int .i64 0)) (.cons (.k (.bool false)) (.cons (.k (.bool false)) (.cons (.k (.int .u8 0)) (.cons (.k (.int .u8 0)) (.cons (.k (.float .f64 0)) (.cons (.k (.string ⟨#[]⟩)) (.cons (.k (.int .i64 0)) (.cons (.k (.int .u8 0)) (.cons (.k (.float .f64 0)) (.cons (.k (.string ⟨#[]⟩)) (.cons (.k (.int .i64 0)) (.cons (.k (.int .u8 0)) (.cons (.k (.float .f64 0)) (.cons (.k (.string ⟨#[]⟩)) (.cons (.k (.int .i64 0)) (.cons (.k (.bool false)) (.cons (.k (.bool false)) (.cons (.k (.bool false)) (.cons (.k (.slice none 0 0)) (.cons (.k (.int .u8 1)) (.cons (.k (.string ⟨#[116, 121, 112, 101]⟩)) .nil)))))))))))))))))))))))))))⟩]⟩
open Sx in
set_option maxRecDepth 100000 in
theorem lem11_ok : LemOk (cfgOf sums0) 24 lem11 := lem_of_run (n := 400) (by kernel_rfl)
open Sx in
noncomputable def lem12 : Lem := ⟨[], [([(.k (.int .u8 3)), (.k (.float .f64 4619567317775286272)), (.k (.string ⟨#[]⟩)), (.k (.int .i64 0)), (.k (.int .u8 4)), (.k (.float .f64 0)), (.k (.string ⟨#[97]⟩)), (.k (.int .i64 0)), (.k (.int .u8 3)), (.k (.float .f64 4607182418800017408)), (.k (.string ⟨#[]⟩)), (.k (.int .i64 0))], 33)], [], [(.k (.string ⟨#[115, 101, 116]⟩)), (.slice 0 0 (.k (.int .i64 3)) (.k (.int .i64 3)))], [⟨[], [], (.agg (.cons (.k (.int .u8 3)) (.cons (.k (.int .u8 0)) (.cons (.k (.float .f64 0)) (.cons (.k (.string ⟨#[]⟩)) (.cons (.k (.int .i64 0)) (.cons (.k (.bool false)) (.cons (.k (.bool false)) (.cons (.k (.int .u8 0)) (.cons (.k (.int .u8 0)) (.cons (.k (.float .f64 0)) (.cons (.k (.string ⟨#[]⟩)) (.cons (.k (.int .i64 0)) (.cons (.k (.int .u8 0)) (.cons (.k (.float .f64 0)) (.cons (.k (.string ⟨#[]⟩)) (.cons (.k (.int .i64 0)) (.cons (.k (.int .u8 0)) (.cons (.k (.float .f64 0)) (.cons (.k (.string ⟨#[]⟩)) (.cons (.k (.int .i64 0)) (.cons (.k (.bool false)) (.cons (.k (.bool false)) (.cons (.k (.bool false)) (.cons (.k (.slice none 0 0)) (.cons (.k (.int .u8 1)) (.cons (.k (.string ⟨#[116, 121, 112, 101]⟩)) .nil)))))))))))))))))))))))))))⟩]⟩
open Sx in
set_option maxRecDepth 100000 in
theorem lem12_ok : LemOk (cfgOf sums0) 24 lem12 := lem_of_run (n := 400) (by kernel_rfl)

open Sx in
/-- What is known of functions: the calls that were run before, and the shelf's. -/
noncomputable def sums := sumL [(24, lemsX (cfgOf sums0) [lem0, lem1, lem2, lem3, lem4, lem5, lem6, lem7, lem8, lem9, lem10, lem11, lem12]), (44, sortedX 84 9)]
open Sx in
instance sok (w : World) : SOk (cfgOf sums) (wd w) := sumL_ok (c := cfgOf sums) rfl (fun x hx => by
  simp only [List.mem_cons, List.not_mem_nil, or_false] at hx
  rcases hx with rfl | rfl
  · refine TrOk.cfg (c := cfgOf sums0) (c' := cfgOf sums) rfl rfl (lemsX_tr (fun L hL => ?_))
    simp only [List.mem_cons, List.not_mem_nil, or_false] at hL
    rcases hL with rfl | rfl | rfl | rfl | rfl | rfl | rfl | rfl | rfl | rfl | rfl | rfl | rfl
    · exact lem0_ok
    · exact lem1_ok
    · exact lem2_ok
    · exact lem3_ok
    · exact lem4_ok
    · exact lem5_ok
    · exact lem6_ok
    · exact lem7_ok
    · exact lem8_ok
    · exact lem9_ok
    · exact lem10_ok
    · exact lem11_ok
    · exact lem12_ok
  · exact TrOk.cfg (c := cfgOf fun _ => none) (c' := cfgOf sums) rfl rfl (sorted_tr (c := cfgOf fun _ => none) sorts))

open Sx in
set_option maxRecDepth 100000 in
theorem runs : leadsTo (.bool true) (exec (cfgOf sums) 400 (.call 7 []) St0) = true := by kernel_rfl

theorem walk (w : World) :
    Calls Tryz.prog 7 #[] w fun e w' => e = .returned (.bool true) ∧ Below w.heap.size w w' :=
  Sx.closed_call (c := Sx.cfgOf sums) (args := []) runs w

/-! ### THE ROW's STEP: WRITTEN OUT: LEAVE IT -/
set_option maxRecDepth 100000 in
theorem lifted (os : Os) (started : os.Started) (H : Type) (enc : TypeId × Value → H) :
    ReturnsInHanded {} Tryz.checked os 7 .any (Rows.opNamesSpec.pre6 enc Tryz.prog Tryz.f7 Rows.opNamesRow.domain false) (Rows.opNamesSpec.post enc Tryz.prog Tryz.f7 false true false false) := by
  refine returnsInHanded_of_change (C := Tryz.checked) own started (by kernel_rfl) Tryz.func7
    (ChangeSpec.witness6 (enc := enc) (C := Tryz.checked) false ⟨#[], #[], []⟩ 8 (by kernel_rfl) (by kernel_rfl) (by kernel_rfl) (by kernel_rfl)) ?_
  intro W base args ds gs before hval0 hW hcnd _
  have hval : ∀ (j : Nat) t v, Tryz.f7.params[j]? = some t → args[j]? = some v → Value.okWide Tryz.prog W .any base t v := hval0
  have hW' := hW
  obtain ⟨p, q, hA0, hV, rfl, hfz, hnd⟩ := hW
  have hA : DataW.TrodAll enc Tryz.prog W 0 (fun _ => true) true Tryz.f7.params.toList args.toList ds p := hA0
  rw [Tryz.params7] at hA hval
  obtain ⟨rfl, rfl, rfl⟩ := trodAll_none hA
  obtain ⟨rfl, rfl⟩ := trodVars_none hV
  clear hA0 hval0
  simp only [List.append_nil] at hW'
  refine (walk  W).mono fun e W' ⟨he, hg⟩ => ?_
  subst he
  exact ⟨_, rfl, [], [], [], [], [], [], hW', trodAll_cons_mk (shut_bool Tryz.underlying4 _) trodAll_mk0, rfl, rfl, hg.frame _, fun h => by cases h⟩

theorem over : Rows.opNamesRow.holds Tryz.pinned (OpenSpec.ofChange Rows.opNamesSpec) :=
  OpenClaim.holds_of_wide 7 Tryz.f7 rfl rfl rfl rfl rfl rfl rfl ⟨rfl, rfl, rfl, rfl, rfl⟩ rfl rfl rfl rfl rfl (by kernel_rfl) Tryz.func7 (by kernel_rfl)
    (of_decide_eq_true (by kernel_rfl)) (by unfold Func.isWrapper; first | (rw [if_pos (by decide +kernel)]; kernel_rfl) | (rw [if_neg (by decide +kernel)]; exact ⟨rfl, rfl⟩))
    (fun os started H enc _ => lifted os started H enc)

/-- ████ THE STATEMENT ████ -/
theorem proved : Rows.OpNamesSaid :=
  over
#print axioms proved
end Go.Proofs.YtfhkjlncblnnmaaGreat.opNames
