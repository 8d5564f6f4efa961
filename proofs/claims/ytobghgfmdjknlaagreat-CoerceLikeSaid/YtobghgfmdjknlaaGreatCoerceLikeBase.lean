/- CoerceLike: what its forms stand on: num.May and num.Read as named functions, value.May at each kind, and alive. -/
import Derived.Test.YtobghgfmdjknlaaGreatSxRead
namespace Go.Proofs.YtobghgfmdjknlaaGreat.coerceLike
open Go Go.RowKit
set_option linter.unusedVariables false
open Sx in
noncomputable abbrev c00 := cfgB baseRead (fun _ => none) fun _ => none
open Sx in
theorem mayTr (c : Cfg) (hP : c.P = Tryz.prog) (hΦ : c.Φ = baseRead.Φ) (F : Wd) : TrOk c F 47 (lemsX c00 [lemMay]) :=
  TrOk.cfg (c := c00) (c' := c) hP.symm hΦ.symm (lemsX_tr (fun L hL => by
    simp only [List.mem_singleton] at hL; subst hL; exact lemMay_ok rfl rfl))
open Sx in
theorem readTr (c : Cfg) (hP : c.P = Tryz.prog) (hΦ : c.Φ = baseRead.Φ) (F : Wd) : TrOk c F 145 (lemsX c00 [lemRead]) :=
  TrOk.cfg (c := c00) (c' := c) hP.symm hΦ.symm (lemsX_tr (fun L hL => by
    simp only [List.mem_singleton] at hL; subst hL; exact lemRead_ok rfl rfl rfl))
open Sx in
noncomputable def s0 := sumL [(47, lemsX c00 [lemMay])]
open Sx in
noncomputable abbrev c0 := cfgB baseRead s0 fun _ => none
open Sx in
instance sok0 (F : Wd) : SOk c0 F := sumL_ok (c := c0) rfl (fun x hx => by
  simp only [List.mem_singleton] at hx; subst hx; exact mayTr c0 rfl rfl F)
open Sx in
noncomputable def alive : Lem := ⟨[], [], [], [], [⟨[], [], .k (.bool true)⟩]⟩
open Sx in
set_option maxRecDepth 100000 in
theorem alive_ok : LemOk c0 16 alive := lem_of_run (n := 400) (by kernel_rfl)
open Sx in
noncomputable def t0 : Lem := ⟨[.f64, .str, fullTy .i64], [], [((.app 0 (.cons (.var 0) .nil)), true), ((.prim (.bin .eql 0 false) (.cons (.var 2) (.cons (.k (.int .i64 0)) .nil))), true), ((.prim (.bin .eql 0 false) (.cons (.var 1) (.cons (.k (.string ⟨#[]⟩)) .nil))), true), ((.prim (.bin .eql 0 false) (.cons (.var 0) (.cons (.k (.float .f64 0)) .nil))), true), ((.prim (.bin .lss 0 false) (.cons (.k (.int .i64 4096)) (.cons (.prim (.len 9) (.cons (.var 1) .nil)) .nil))), false), ((.prim (.bin .lss 0 false) (.cons (.var 2) (.cons (.k (.int .i64 0)) .nil))), false)], [(.agg (.cons (.k (.int .u8 0)) (.cons (.var 0) (.cons (.var 1) (.cons (.var 2) .nil)))))], [⟨[], [], (.app 0 (.cons (.var 0) .nil))⟩]⟩
open Sx in
set_option maxRecDepth 100000 in
theorem t0_ok : LemOk c0 23 t0 := lem_of_run (n := 200) (by kernel_rfl)
open Sx in
noncomputable def m0 : Lem := ⟨[.f64, .str, fullTy .i64], [], [], [(.agg (.cons (.k (.int .u8 0)) (.cons (.var 0) (.cons (.var 1) (.cons (.var 2) .nil)))))], [⟨[], [((.prim (.bin .lss 0 false) (.cons (.var 2) (.cons (.k (.int .i64 0)) .nil))), false), ((.prim (.bin .lss 0 false) (.cons (.k (.int .i64 4096)) (.cons (.prim (.len 9) (.cons (.var 1) .nil)) .nil))), false), ((.prim (.bin .eql 0 false) (.cons (.var 0) (.cons (.k (.float .f64 0)) .nil))), true), ((.prim (.bin .eql 0 false) (.cons (.var 1) (.cons (.k (.string ⟨#[]⟩)) .nil))), true), ((.prim (.bin .eql 0 false) (.cons (.var 2) (.cons (.k (.int .i64 0)) .nil))), true)], (.app 0 (.cons (.var 0) .nil))⟩, ⟨[], [], (.k (.bool false))⟩]⟩
open Sx in
set_option maxRecDepth 100000 in
theorem m0_ok : LemOk c0 23 m0 := lem_of_run (n := 200) (by kernel_rfl)
open Sx in
noncomputable def t1 : Lem := ⟨[.f64, .str, fullTy .i64], [], [((.app 0 (.cons (.var 0) .nil)), true), ((.prim (.bin .eql 0 false) (.cons (.var 2) (.cons (.k (.int .i64 0)) .nil))), true), ((.prim (.bin .eql 0 false) (.cons (.var 1) (.cons (.k (.string ⟨#[]⟩)) .nil))), true), ((.prim (.bin .eql 0 false) (.cons (.var 0) (.cons (.k (.float .f64 0)) .nil))), true), ((.prim (.bin .lss 0 false) (.cons (.k (.int .i64 4096)) (.cons (.prim (.len 9) (.cons (.var 1) .nil)) .nil))), false), ((.prim (.bin .lss 0 false) (.cons (.var 2) (.cons (.k (.int .i64 0)) .nil))), false)], [(.agg (.cons (.k (.int .u8 1)) (.cons (.var 0) (.cons (.var 1) (.cons (.var 2) .nil)))))], [⟨[], [], (.app 0 (.cons (.var 0) .nil))⟩]⟩
open Sx in
set_option maxRecDepth 100000 in
theorem t1_ok : LemOk c0 23 t1 := lem_of_run (n := 200) (by kernel_rfl)
open Sx in
noncomputable def m1 : Lem := ⟨[.f64, .str, fullTy .i64], [], [], [(.agg (.cons (.k (.int .u8 1)) (.cons (.var 0) (.cons (.var 1) (.cons (.var 2) .nil)))))], [⟨[], [((.prim (.bin .lss 0 false) (.cons (.var 2) (.cons (.k (.int .i64 0)) .nil))), false), ((.prim (.bin .lss 0 false) (.cons (.k (.int .i64 4096)) (.cons (.prim (.len 9) (.cons (.var 1) .nil)) .nil))), false), ((.prim (.bin .eql 0 false) (.cons (.var 0) (.cons (.k (.float .f64 0)) .nil))), true), ((.prim (.bin .eql 0 false) (.cons (.var 1) (.cons (.k (.string ⟨#[]⟩)) .nil))), true), ((.prim (.bin .eql 0 false) (.cons (.var 2) (.cons (.k (.int .i64 0)) .nil))), true)], (.app 0 (.cons (.var 0) .nil))⟩, ⟨[], [], (.k (.bool false))⟩]⟩
open Sx in
set_option maxRecDepth 100000 in
theorem m1_ok : LemOk c0 23 m1 := lem_of_run (n := 200) (by kernel_rfl)
open Sx in
noncomputable def m2n : Lem := ⟨[.nan, .str, fullTy .i64], [], [], [(.agg (.cons (.k (.int .u8 2)) (.cons (.var 0) (.cons (.var 1) (.cons (.var 2) .nil)))))], [⟨[], [], (.k (.bool false))⟩]⟩
open Sx in
set_option maxRecDepth 100000 in
theorem m2n_ok : LemOk c0 23 m2n := lem_of_run (n := 200) (by kernel_rfl)
open Sx in
noncomputable def t2o : Lem := ⟨[.str, fullTy .i64], [], [((.prim (.bin .eql 0 false) (.cons (.var 1) (.cons (.k (.int .i64 0)) .nil))), true), ((.prim (.bin .eql 0 false) (.cons (.var 0) (.cons (.k (.string ⟨#[]⟩)) .nil))), true), ((.prim (.bin .lss 0 false) (.cons (.k (.int .i64 4096)) (.cons (.prim (.len 9) (.cons (.var 0) .nil)) .nil))), false), ((.prim (.bin .lss 0 false) (.cons (.var 1) (.cons (.k (.int .i64 0)) .nil))), false)], [(.agg (.cons (.k (.int .u8 2)) (.cons (.k (.float .f64 4607182418800017408)) (.cons (.var 0) (.cons (.var 1) .nil)))))], [⟨[], [], (.k (.bool true))⟩]⟩
open Sx in
set_option maxRecDepth 100000 in
theorem t2o_ok : LemOk c0 23 t2o := lem_of_run (n := 200) (by kernel_rfl)
open Sx in
noncomputable def m2o : Lem := ⟨[.str, fullTy .i64], [], [], [(.agg (.cons (.k (.int .u8 2)) (.cons (.k (.float .f64 4607182418800017408)) (.cons (.var 0) (.cons (.var 1) .nil)))))], [⟨[], [((.prim (.bin .lss 0 false) (.cons (.var 1) (.cons (.k (.int .i64 0)) .nil))), false), ((.prim (.bin .lss 0 false) (.cons (.k (.int .i64 4096)) (.cons (.prim (.len 9) (.cons (.var 0) .nil)) .nil))), false), ((.prim (.bin .eql 0 false) (.cons (.var 0) (.cons (.k (.string ⟨#[]⟩)) .nil))), true), ((.prim (.bin .eql 0 false) (.cons (.var 1) (.cons (.k (.int .i64 0)) .nil))), true)], (.k (.bool true))⟩, ⟨[], [], (.k (.bool false))⟩]⟩
open Sx in
set_option maxRecDepth 100000 in
theorem m2o_ok : LemOk c0 23 m2o := lem_of_run (n := 200) (by kernel_rfl)
open Sx in
noncomputable def t2 : Lem := ⟨[.num, .str, fullTy .i64], [], [((.prim (.bin .eql 0 false) (.cons (.var 2) (.cons (.k (.int .i64 0)) .nil))), true), ((.prim (.bin .eql 0 false) (.cons (.var 1) (.cons (.k (.string ⟨#[]⟩)) .nil))), true), ((.app 0 (.cons (.var 0) .nil)), true), ((.prim (.bin .eql 0 false) (.cons (.var 0) (.cons (.k (.float .f64 0)) .nil))), true), ((.prim (.bin .lss 0 false) (.cons (.k (.int .i64 4096)) (.cons (.prim (.len 9) (.cons (.var 1) .nil)) .nil))), false), ((.prim (.bin .lss 0 false) (.cons (.var 2) (.cons (.k (.int .i64 0)) .nil))), false), ((.prim (.bin .eql 0 false) (.cons (.var 0) (.cons (.k (.float .f64 4607182418800017408)) .nil))), false)], [(.agg (.cons (.k (.int .u8 2)) (.cons (.var 0) (.cons (.var 1) (.cons (.var 2) .nil)))))], [⟨[], [], (.k (.bool true))⟩]⟩
open Sx in
set_option maxRecDepth 100000 in
theorem t2_ok : LemOk c0 23 t2 := lem_of_run (n := 200) (by kernel_rfl)
open Sx in
noncomputable def m2 : Lem := ⟨[.num, .str, fullTy .i64], [], [((.prim (.bin .eql 0 false) (.cons (.var 0) (.cons (.k (.float .f64 4607182418800017408)) .nil))), false)], [(.agg (.cons (.k (.int .u8 2)) (.cons (.var 0) (.cons (.var 1) (.cons (.var 2) .nil)))))], [⟨[], [((.prim (.bin .lss 0 false) (.cons (.var 2) (.cons (.k (.int .i64 0)) .nil))), false), ((.prim (.bin .lss 0 false) (.cons (.k (.int .i64 4096)) (.cons (.prim (.len 9) (.cons (.var 1) .nil)) .nil))), false), ((.prim (.bin .eql 0 false) (.cons (.var 0) (.cons (.k (.float .f64 0)) .nil))), true), ((.app 0 (.cons (.var 0) .nil)), true), ((.prim (.bin .eql 0 false) (.cons (.var 1) (.cons (.k (.string ⟨#[]⟩)) .nil))), true), ((.prim (.bin .eql 0 false) (.cons (.var 2) (.cons (.k (.int .i64 0)) .nil))), true)], (.k (.bool true))⟩, ⟨[], [], (.k (.bool false))⟩]⟩
open Sx in
set_option maxRecDepth 100000 in
theorem m2_ok : LemOk c0 23 m2 := lem_of_run (n := 200) (by kernel_rfl)
open Sx in
noncomputable def t3n : Lem := ⟨[.nan, .str, fullTy .i64], [], [((.prim (.bin .eql 0 false) (.cons (.var 2) (.cons (.k (.int .i64 0)) .nil))), true), ((.prim (.bin .eql 0 false) (.cons (.var 1) (.cons (.k (.string ⟨#[]⟩)) .nil))), true), ((.app 0 (.cons (.var 0) .nil)), true), ((.prim (.bin .lss 0 false) (.cons (.k (.int .i64 4096)) (.cons (.prim (.len 9) (.cons (.var 1) .nil)) .nil))), false), ((.prim (.bin .lss 0 false) (.cons (.var 2) (.cons (.k (.int .i64 0)) .nil))), false)], [(.agg (.cons (.k (.int .u8 3)) (.cons (.var 0) (.cons (.var 1) (.cons (.var 2) .nil)))))], [⟨[], [], (.k (.bool true))⟩]⟩
open Sx in
set_option maxRecDepth 100000 in
theorem t3n_ok : LemOk c0 23 t3n := lem_of_run (n := 200) (by kernel_rfl)
open Sx in
noncomputable def m3n : Lem := ⟨[.nan, .str, fullTy .i64], [], [], [(.agg (.cons (.k (.int .u8 3)) (.cons (.var 0) (.cons (.var 1) (.cons (.var 2) .nil)))))], [⟨[], [((.prim (.bin .lss 0 false) (.cons (.var 2) (.cons (.k (.int .i64 0)) .nil))), false), ((.prim (.bin .lss 0 false) (.cons (.k (.int .i64 4096)) (.cons (.prim (.len 9) (.cons (.var 1) .nil)) .nil))), false), ((.app 0 (.cons (.var 0) .nil)), true), ((.prim (.bin .eql 0 false) (.cons (.var 1) (.cons (.k (.string ⟨#[]⟩)) .nil))), true), ((.prim (.bin .eql 0 false) (.cons (.var 2) (.cons (.k (.int .i64 0)) .nil))), true)], (.k (.bool true))⟩, ⟨[], [], (.k (.bool false))⟩]⟩
open Sx in
set_option maxRecDepth 100000 in
theorem m3n_ok : LemOk c0 23 m3n := lem_of_run (n := 200) (by kernel_rfl)
open Sx in
noncomputable def t3 : Lem := ⟨[.num, .str, fullTy .i64], [], [((.prim (.bin .eql 0 false) (.cons (.var 2) (.cons (.k (.int .i64 0)) .nil))), true), ((.prim (.bin .eql 0 false) (.cons (.var 1) (.cons (.k (.string ⟨#[]⟩)) .nil))), true), ((.app 0 (.cons (.var 0) .nil)), true), ((.prim (.bin .lss 0 false) (.cons (.k (.int .i64 4096)) (.cons (.prim (.len 9) (.cons (.var 1) .nil)) .nil))), false), ((.prim (.bin .lss 0 false) (.cons (.var 2) (.cons (.k (.int .i64 0)) .nil))), false)], [(.agg (.cons (.k (.int .u8 3)) (.cons (.var 0) (.cons (.var 1) (.cons (.var 2) .nil)))))], [⟨[], [], (.k (.bool true))⟩]⟩
open Sx in
set_option maxRecDepth 100000 in
theorem t3_ok : LemOk c0 23 t3 := lem_of_run (n := 200) (by kernel_rfl)
open Sx in
noncomputable def m3 : Lem := ⟨[.num, .str, fullTy .i64], [], [], [(.agg (.cons (.k (.int .u8 3)) (.cons (.var 0) (.cons (.var 1) (.cons (.var 2) .nil)))))], [⟨[], [((.prim (.bin .lss 0 false) (.cons (.var 2) (.cons (.k (.int .i64 0)) .nil))), false), ((.prim (.bin .lss 0 false) (.cons (.k (.int .i64 4096)) (.cons (.prim (.len 9) (.cons (.var 1) .nil)) .nil))), false), ((.app 0 (.cons (.var 0) .nil)), true), ((.prim (.bin .eql 0 false) (.cons (.var 1) (.cons (.k (.string ⟨#[]⟩)) .nil))), true), ((.prim (.bin .eql 0 false) (.cons (.var 2) (.cons (.k (.int .i64 0)) .nil))), true)], (.k (.bool true))⟩, ⟨[], [], (.k (.bool false))⟩]⟩
open Sx in
set_option maxRecDepth 100000 in
theorem m3_ok : LemOk c0 23 m3 := lem_of_run (n := 200) (by kernel_rfl)
open Sx in
noncomputable def t4 : Lem := ⟨[.f64, .str, fullTy .i64], [], [((.app 0 (.cons (.var 0) .nil)), true), ((.prim (.bin .eql 0 false) (.cons (.var 2) (.cons (.k (.int .i64 0)) .nil))), true), ((.prim (.bin .eql 0 false) (.cons (.var 0) (.cons (.k (.float .f64 0)) .nil))), true), ((.prim (.bin .lss 0 false) (.cons (.k (.int .i64 4096)) (.cons (.prim (.len 9) (.cons (.var 1) .nil)) .nil))), false), ((.prim (.bin .lss 0 false) (.cons (.var 2) (.cons (.k (.int .i64 0)) .nil))), false)], [(.agg (.cons (.k (.int .u8 4)) (.cons (.var 0) (.cons (.var 1) (.cons (.var 2) .nil)))))], [⟨[], [], (.app 0 (.cons (.var 0) .nil))⟩]⟩
open Sx in
set_option maxRecDepth 100000 in
theorem t4_ok : LemOk c0 23 t4 := lem_of_run (n := 200) (by kernel_rfl)
open Sx in
noncomputable def m4 : Lem := ⟨[.f64, .str, fullTy .i64], [], [], [(.agg (.cons (.k (.int .u8 4)) (.cons (.var 0) (.cons (.var 1) (.cons (.var 2) .nil)))))], [⟨[], [((.prim (.bin .lss 0 false) (.cons (.var 2) (.cons (.k (.int .i64 0)) .nil))), false), ((.prim (.bin .lss 0 false) (.cons (.k (.int .i64 4096)) (.cons (.prim (.len 9) (.cons (.var 1) .nil)) .nil))), false), ((.prim (.bin .eql 0 false) (.cons (.var 0) (.cons (.k (.float .f64 0)) .nil))), true), ((.prim (.bin .eql 0 false) (.cons (.var 2) (.cons (.k (.int .i64 0)) .nil))), true)], (.app 0 (.cons (.var 0) .nil))⟩, ⟨[], [], (.k (.bool false))⟩]⟩
open Sx in
set_option maxRecDepth 100000 in
theorem m4_ok : LemOk c0 23 m4 := lem_of_run (n := 200) (by kernel_rfl)
open Sx in
noncomputable def t5 : Lem := ⟨[.f64, .str, fullTy .i64], [], [((.app 0 (.cons (.var 0) .nil)), true), ((.prim (.bin .eql 0 false) (.cons (.var 1) (.cons (.k (.string ⟨#[]⟩)) .nil))), true), ((.prim (.bin .eql 0 false) (.cons (.var 0) (.cons (.k (.float .f64 0)) .nil))), true), ((.prim (.bin .lss 0 false) (.cons (.k (.int .i64 4096)) (.cons (.prim (.len 9) (.cons (.var 1) .nil)) .nil))), false), ((.prim (.bin .lss 0 false) (.cons (.var 2) (.cons (.k (.int .i64 0)) .nil))), false)], [(.agg (.cons (.k (.int .u8 5)) (.cons (.var 0) (.cons (.var 1) (.cons (.var 2) .nil)))))], [⟨[], [], (.app 0 (.cons (.var 0) .nil))⟩]⟩
open Sx in
set_option maxRecDepth 100000 in
theorem t5_ok : LemOk c0 23 t5 := lem_of_run (n := 200) (by kernel_rfl)
open Sx in
noncomputable def m5 : Lem := ⟨[.f64, .str, fullTy .i64], [], [], [(.agg (.cons (.k (.int .u8 5)) (.cons (.var 0) (.cons (.var 1) (.cons (.var 2) .nil)))))], [⟨[], [((.prim (.bin .lss 0 false) (.cons (.var 2) (.cons (.k (.int .i64 0)) .nil))), false), ((.prim (.bin .lss 0 false) (.cons (.k (.int .i64 4096)) (.cons (.prim (.len 9) (.cons (.var 1) .nil)) .nil))), false), ((.prim (.bin .eql 0 false) (.cons (.var 0) (.cons (.k (.float .f64 0)) .nil))), true), ((.prim (.bin .eql 0 false) (.cons (.var 1) (.cons (.k (.string ⟨#[]⟩)) .nil))), true)], (.app 0 (.cons (.var 0) .nil))⟩, ⟨[], [], (.k (.bool false))⟩]⟩
open Sx in
set_option maxRecDepth 100000 in
theorem m5_ok : LemOk c0 23 m5 := lem_of_run (n := 200) (by kernel_rfl)
open Sx in
noncomputable def t6 : Lem := ⟨[.f64, .str, fullTy .i64], [], [((.app 0 (.cons (.var 0) .nil)), true), ((.prim (.bin .eql 0 false) (.cons (.var 1) (.cons (.k (.string ⟨#[]⟩)) .nil))), true), ((.prim (.bin .eql 0 false) (.cons (.var 0) (.cons (.k (.float .f64 0)) .nil))), true), ((.prim (.bin .lss 0 false) (.cons (.k (.int .i64 4096)) (.cons (.prim (.len 9) (.cons (.var 1) .nil)) .nil))), false), ((.prim (.bin .lss 0 false) (.cons (.var 2) (.cons (.k (.int .i64 0)) .nil))), false)], [(.agg (.cons (.k (.int .u8 6)) (.cons (.var 0) (.cons (.var 1) (.cons (.var 2) .nil)))))], [⟨[], [], (.app 0 (.cons (.var 0) .nil))⟩]⟩
open Sx in
set_option maxRecDepth 100000 in
theorem t6_ok : LemOk c0 23 t6 := lem_of_run (n := 200) (by kernel_rfl)
open Sx in
noncomputable def m6 : Lem := ⟨[.f64, .str, fullTy .i64], [], [], [(.agg (.cons (.k (.int .u8 6)) (.cons (.var 0) (.cons (.var 1) (.cons (.var 2) .nil)))))], [⟨[], [((.prim (.bin .lss 0 false) (.cons (.var 2) (.cons (.k (.int .i64 0)) .nil))), false), ((.prim (.bin .lss 0 false) (.cons (.k (.int .i64 4096)) (.cons (.prim (.len 9) (.cons (.var 1) .nil)) .nil))), false), ((.prim (.bin .eql 0 false) (.cons (.var 0) (.cons (.k (.float .f64 0)) .nil))), true), ((.prim (.bin .eql 0 false) (.cons (.var 1) (.cons (.k (.string ⟨#[]⟩)) .nil))), true)], (.app 0 (.cons (.var 0) .nil))⟩, ⟨[], [], (.k (.bool false))⟩]⟩
open Sx in
set_option maxRecDepth 100000 in
theorem m6_ok : LemOk c0 23 m6 := lem_of_run (n := 200) (by kernel_rfl)
open Sx in
noncomputable def t7 : Lem := ⟨[.f64, .str, fullTy .i64], [], [((.app 0 (.cons (.var 0) .nil)), true), ((.prim (.bin .eql 0 false) (.cons (.var 1) (.cons (.k (.string ⟨#[]⟩)) .nil))), true), ((.prim (.bin .eql 0 false) (.cons (.var 0) (.cons (.k (.float .f64 0)) .nil))), true), ((.prim (.bin .lss 0 false) (.cons (.k (.int .i64 4096)) (.cons (.prim (.len 9) (.cons (.var 1) .nil)) .nil))), false), ((.prim (.bin .lss 0 false) (.cons (.var 2) (.cons (.k (.int .i64 0)) .nil))), false)], [(.agg (.cons (.k (.int .u8 7)) (.cons (.var 0) (.cons (.var 1) (.cons (.var 2) .nil)))))], [⟨[], [], (.app 0 (.cons (.var 0) .nil))⟩]⟩
open Sx in
set_option maxRecDepth 100000 in
theorem t7_ok : LemOk c0 23 t7 := lem_of_run (n := 200) (by kernel_rfl)
open Sx in
noncomputable def m7 : Lem := ⟨[.f64, .str, fullTy .i64], [], [], [(.agg (.cons (.k (.int .u8 7)) (.cons (.var 0) (.cons (.var 1) (.cons (.var 2) .nil)))))], [⟨[], [((.prim (.bin .lss 0 false) (.cons (.var 2) (.cons (.k (.int .i64 0)) .nil))), false), ((.prim (.bin .lss 0 false) (.cons (.k (.int .i64 4096)) (.cons (.prim (.len 9) (.cons (.var 1) .nil)) .nil))), false), ((.prim (.bin .eql 0 false) (.cons (.var 0) (.cons (.k (.float .f64 0)) .nil))), true), ((.prim (.bin .eql 0 false) (.cons (.var 1) (.cons (.k (.string ⟨#[]⟩)) .nil))), true)], (.app 0 (.cons (.var 0) .nil))⟩, ⟨[], [], (.k (.bool false))⟩]⟩
open Sx in
set_option maxRecDepth 100000 in
theorem m7_ok : LemOk c0 23 m7 := lem_of_run (n := 200) (by kernel_rfl)
open Sx in
noncomputable def t8 : Lem := ⟨[.f64, .str, fullTy .i64], [], [((.app 0 (.cons (.var 0) .nil)), true), ((.prim (.bin .eql 0 false) (.cons (.var 1) (.cons (.k (.string ⟨#[]⟩)) .nil))), true), ((.prim (.bin .eql 0 false) (.cons (.var 0) (.cons (.k (.float .f64 0)) .nil))), true), ((.prim (.bin .lss 0 false) (.cons (.k (.int .i64 4096)) (.cons (.prim (.len 9) (.cons (.var 1) .nil)) .nil))), false), ((.prim (.bin .lss 0 false) (.cons (.var 2) (.cons (.k (.int .i64 0)) .nil))), false)], [(.agg (.cons (.k (.int .u8 8)) (.cons (.var 0) (.cons (.var 1) (.cons (.var 2) .nil)))))], [⟨[], [], (.app 0 (.cons (.var 0) .nil))⟩]⟩
open Sx in
set_option maxRecDepth 100000 in
theorem t8_ok : LemOk c0 23 t8 := lem_of_run (n := 200) (by kernel_rfl)
open Sx in
noncomputable def m8 : Lem := ⟨[.f64, .str, fullTy .i64], [], [], [(.agg (.cons (.k (.int .u8 8)) (.cons (.var 0) (.cons (.var 1) (.cons (.var 2) .nil)))))], [⟨[], [((.prim (.bin .lss 0 false) (.cons (.var 2) (.cons (.k (.int .i64 0)) .nil))), false), ((.prim (.bin .lss 0 false) (.cons (.k (.int .i64 4096)) (.cons (.prim (.len 9) (.cons (.var 1) .nil)) .nil))), false), ((.prim (.bin .eql 0 false) (.cons (.var 0) (.cons (.k (.float .f64 0)) .nil))), true), ((.prim (.bin .eql 0 false) (.cons (.var 1) (.cons (.k (.string ⟨#[]⟩)) .nil))), true)], (.app 0 (.cons (.var 0) .nil))⟩, ⟨[], [], (.k (.bool false))⟩]⟩
open Sx in
set_option maxRecDepth 100000 in
theorem m8_ok : LemOk c0 23 m8 := lem_of_run (n := 200) (by kernel_rfl)
open Sx in
noncomputable def m9 : Lem := ⟨[.f64, .str, fullTy .i64, (.int .u8 9 (some 255))], [], [], [(.agg (.cons (.var 3) (.cons (.var 0) (.cons (.var 1) (.cons (.var 2) .nil)))))], [⟨[], [], (.k (.bool false))⟩]⟩
open Sx in
set_option maxRecDepth 100000 in
theorem m9_ok : LemOk c0 23 m9 := lem_of_run (n := 200) (by kernel_rfl)
open Sx in
noncomputable def mays : List Lem := [t0, m0, t1, m1, m2n, t2o, m2o, t2, m2, t3n, m3n, t3, m3, t4, m4, t5, m5, t6, m6, t7, m7, t8, m8, m9]
open Sx in
theorem mays_ok (L : Lem) (hL : L ∈ mays) : LemOk c0 23 L := by
  simp only [mays, List.mem_cons, List.not_mem_nil, or_false] at hL
  rcases hL with rfl | rfl | rfl | rfl | rfl | rfl | rfl | rfl | rfl | rfl | rfl | rfl | rfl | rfl | rfl | rfl | rfl | rfl | rfl | rfl | rfl | rfl | rfl | rfl
  · exact t0_ok
  · exact m0_ok
  · exact t1_ok
  · exact m1_ok
  · exact m2n_ok
  · exact t2o_ok
  · exact m2o_ok
  · exact t2_ok
  · exact m2_ok
  · exact t3n_ok
  · exact m3n_ok
  · exact t3_ok
  · exact m3_ok
  · exact t4_ok
  · exact m4_ok
  · exact t5_ok
  · exact m5_ok
  · exact t6_ok
  · exact m6_ok
  · exact t7_ok
  · exact m7_ok
  · exact t8_ok
  · exact m8_ok
  · exact m9_ok
open Sx in
noncomputable def s1 := sumL [(47, lemsX c00 [lemMay]), (145, lemsX c00 [lemRead]), (23, lemsX c0 mays)]
open Sx in
noncomputable abbrev c1 := cfgB baseRead s1 fun f => bif Nat.beq f 8 then some false else none
open Sx in
instance sok1 (F : Wd) : SOk c1 F := sumL_ok (c := c1) rfl (fun x hx => by
  simp only [List.mem_cons, List.not_mem_nil, or_false] at hx
  rcases hx with rfl | rfl | rfl
  · exact mayTr c1 rfl rfl F
  · exact readTr c1 rfl rfl F
  · exact TrOk.cfg (c := c0) (c' := c1) rfl rfl (lemsX_tr mays_ok))
end Go.Proofs.YtobghgfmdjknlaaGreat.coerceLike
