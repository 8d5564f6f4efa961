/- OpMembers: the calls of member, each as a form. -/
import Derived.Test.YtfhkjlncblnnmaaGreatOpMembersBase
namespace Go.Proofs.YtfhkjlncblnnmaaGreat.opMembers
open Go Go.RowKit
set_option linter.unusedVariables false
open Sx in
noncomputable def m8_0 : Lem := ⟨[.str, .f64, .str, (.int .i64 (-9223372036854775808) (some 9223372036854775807)), .bool], [([(.k (.int .u8 6)), (.k (.float .f64 0)), (.k (.string ⟨#[]⟩)), (.k (.int .i64 4)), (.k (.int .u8 4)), (.k (.float .f64 0)), (.var 0), (.k (.int .i64 0))], 33)], [((.app 0 (.cons (.var 1) .nil)), true), ((.prim (.bin .eql 0 false) (.cons (.var 2) (.cons (.k (.string ⟨#[]⟩)) .nil))), true), ((.prim (.bin .eql 0 false) (.cons (.var 1) (.cons (.k (.float .f64 0)) .nil))), true), ((.prim (.bin .lss 0 false) (.cons (.k (.int .i64 4096)) (.cons (.prim (.len 9) (.cons (.var 2) .nil)) .nil))), false), ((.prim (.bin .lss 0 false) (.cons (.var 3) (.cons (.k (.int .i64 0)) .nil))), false), ((.prim (.bin .lss 0 false) (.cons (.k (.int .i64 4096)) (.cons (.prim (.len 9) (.cons (.var 0) .nil)) .nil))), false)], [(.k (.string ⟨#[103, 101, 116]⟩)), (.k (.int .u8 8)), (.var 0), (.agg (.cons (.k (.int .u8 8)) (.cons (.var 1) (.cons (.var 2) (.cons (.var 3) .nil))))), (.var 4), (.slice 5 0 (.k (.int .i64 2)) (.k (.int .i64 2)))], [⟨[], [], (.k (.bool true))⟩]⟩
open Sx in
set_option maxRecDepth 100000 in
theorem m8_0_ok : LemOk c1 22 m8_0 := lem_of_run (n := 200) (by kernel_rfl)
open Sx in
noncomputable def m8_1 : Lem := ⟨[.str, .f64, .str, (.int .i64 (-9223372036854775808) (some 9223372036854775807)), .bool], [([(.k (.int .u8 6)), (.k (.float .f64 0)), (.k (.string ⟨#[]⟩)), (.k (.int .i64 4)), (.k (.int .u8 4)), (.k (.float .f64 0)), (.var 0), (.k (.int .i64 0)), (.k (.int .u8 8)), (.var 1), (.var 2), (.var 3)], 33)], [((.app 0 (.cons (.var 1) .nil)), true), ((.prim (.bin .eql 0 false) (.cons (.var 2) (.cons (.k (.string ⟨#[]⟩)) .nil))), true), ((.prim (.bin .eql 0 false) (.cons (.var 1) (.cons (.k (.float .f64 0)) .nil))), true), ((.prim (.bin .lss 0 false) (.cons (.k (.int .i64 4096)) (.cons (.prim (.len 9) (.cons (.var 2) .nil)) .nil))), false), ((.prim (.bin .lss 0 false) (.cons (.var 3) (.cons (.k (.int .i64 0)) .nil))), false), ((.prim (.bin .lss 0 false) (.cons (.k (.int .i64 4096)) (.cons (.prim (.len 9) (.cons (.var 0) .nil)) .nil))), false)], [(.k (.string ⟨#[115, 101, 116]⟩)), (.k (.int .u8 9)), (.var 0), (.agg (.cons (.k (.int .u8 8)) (.cons (.var 1) (.cons (.var 2) (.cons (.var 3) .nil))))), (.var 4), (.slice 5 0 (.k (.int .i64 3)) (.k (.int .i64 3)))], [⟨[], [], (.k (.bool true))⟩]⟩
open Sx in
set_option maxRecDepth 100000 in
theorem m8_1_ok : LemOk c1 22 m8_1 := lem_of_run (n := 200) (by kernel_rfl)
open Sx in
noncomputable def m8_2 : Lem := ⟨[.str, .f64, .str, (.int .i64 (-9223372036854775808) (some 9223372036854775807)), .bool], [([(.k (.int .u8 6)), (.k (.float .f64 0)), (.k (.string ⟨#[]⟩)), (.k (.int .i64 4)), (.k (.int .u8 4)), (.k (.float .f64 0)), (.var 0), (.k (.int .i64 0))], 33)], [((.app 0 (.cons (.var 1) .nil)), true), ((.prim (.bin .eql 0 false) (.cons (.var 2) (.cons (.k (.string ⟨#[]⟩)) .nil))), true), ((.prim (.bin .eql 0 false) (.cons (.var 1) (.cons (.k (.float .f64 0)) .nil))), true), ((.prim (.bin .lss 0 false) (.cons (.k (.int .i64 4096)) (.cons (.prim (.len 9) (.cons (.var 2) .nil)) .nil))), false), ((.prim (.bin .lss 0 false) (.cons (.var 3) (.cons (.k (.int .i64 0)) .nil))), false), ((.prim (.bin .lss 0 false) (.cons (.k (.int .i64 4096)) (.cons (.prim (.len 9) (.cons (.var 0) .nil)) .nil))), false)], [(.k (.string ⟨#[100, 101, 108, 101, 116, 101]⟩)), (.k (.int .u8 10)), (.var 0), (.agg (.cons (.k (.int .u8 8)) (.cons (.var 1) (.cons (.var 2) (.cons (.var 3) .nil))))), (.var 4), (.slice 5 0 (.k (.int .i64 2)) (.k (.int .i64 2)))], [⟨[], [], (.k (.bool true))⟩]⟩
open Sx in
set_option maxRecDepth 100000 in
theorem m8_2_ok : LemOk c1 22 m8_2 := lem_of_run (n := 200) (by kernel_rfl)
open Sx in
noncomputable def m8_3 : Lem := ⟨[.str, .f64, .str, (.int .i64 (-9223372036854775808) (some 9223372036854775807)), .bool], [([(.k (.int .u8 4)), (.k (.float .f64 0)), (.var 0), (.k (.int .i64 0)), (.k (.int .u8 6)), (.k (.float .f64 0)), (.k (.string ⟨#[]⟩)), (.k (.int .i64 4))], 33)], [((.app 0 (.cons (.var 1) .nil)), true), ((.prim (.bin .eql 0 false) (.cons (.var 2) (.cons (.k (.string ⟨#[]⟩)) .nil))), true), ((.prim (.bin .eql 0 false) (.cons (.var 1) (.cons (.k (.float .f64 0)) .nil))), true), ((.prim (.bin .lss 0 false) (.cons (.k (.int .i64 4096)) (.cons (.prim (.len 9) (.cons (.var 2) .nil)) .nil))), false), ((.prim (.bin .lss 0 false) (.cons (.var 3) (.cons (.k (.int .i64 0)) .nil))), false), ((.prim (.bin .lss 0 false) (.cons (.k (.int .i64 4096)) (.cons (.prim (.len 9) (.cons (.var 0) .nil)) .nil))), false)], [(.k (.string ⟨#[105, 110]⟩)), (.k (.int .u8 7)), (.var 0), (.agg (.cons (.k (.int .u8 8)) (.cons (.var 1) (.cons (.var 2) (.cons (.var 3) .nil))))), (.var 4), (.slice 5 0 (.k (.int .i64 2)) (.k (.int .i64 2)))], [⟨[], [], (.k (.bool true))⟩]⟩
open Sx in
set_option maxRecDepth 100000 in
theorem m8_3_ok : LemOk c1 22 m8_3 := lem_of_run (n := 200) (by kernel_rfl)
end Go.Proofs.YtfhkjlncblnnmaaGreat.opMembers
