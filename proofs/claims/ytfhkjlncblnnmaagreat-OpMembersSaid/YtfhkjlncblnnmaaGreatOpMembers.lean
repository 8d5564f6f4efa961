/- OpMembers answers true whatever the string, the value and the boolean; all memory that was there reads as it did. No condition. -/
import Derived.Test.YtfhkjlncblnnmaaGreatRows
import Derived.WalkKit
import Derived.ProofKit
import Derived.OpenShut
import Derived.Test.YtfhkjlncblnnmaaGreatSxLaw
import Derived.Test.YtfhkjlncblnnmaaGreatOpMembersM0
import Derived.Test.YtfhkjlncblnnmaaGreatOpMembersM1
import Derived.Test.YtfhkjlncblnnmaaGreatOpMembersM2
import Derived.Test.YtfhkjlncblnnmaaGreatOpMembersM3
import Derived.Test.YtfhkjlncblnnmaaGreatOpMembersM4
namespace Go.Proofs.YtfhkjlncblnnmaaGreat.opMembers
open Go.ChangeShapes Go.WideShapes Go.ChangeAt Go.RowKit
set_option linter.unusedVariables false

theorem own : ownKnob Tryz.prog.godebug = none := by kernel_rfl
open Sx in
noncomputable abbrev c0_2 := cfgB baseMay (sumL [(43, lemsX c00 [lemMay]), (14, lemsX c0 [alive]), (22, lemsX c1 [m0_0, m0_1, m0_2, m0_3])]) fun _ => none
open Sx in
instance sok0_2 (F : Wd) : SOk c0_2 F := sumL_ok (c := c0_2) rfl (fun x hx => by
  simp only [List.mem_cons, List.not_mem_nil, or_false] at hx
  rcases hx with rfl | rfl | rfl
  · exact mayTr c0_2 rfl rfl F
  · exact TrOk.cfg (c := c0) (c' := c0_2) rfl rfl (lemsX_tr (fun L hL => by simp only [List.mem_singleton] at hL; subst hL; exact alive_ok))
  · refine TrOk.cfg (c := c1) (c' := c0_2) rfl rfl (lemsX_tr (fun L hL => ?_))
    simp only [List.mem_cons, List.not_mem_nil, or_false] at hL
    rcases hL with rfl | rfl | rfl | rfl
    · exact m0_0_ok
    · exact m0_1_ok
    · exact m0_2_ok
    · exact m0_3_ok
    )
open Sx in
noncomputable def k0 : Lem := ⟨[.str, .f64, .str, fullTy .i64, .bool], [], [], [.var 0, .agg (chain [.k (.int .u8 0), .var 1, .var 2, .var 3]), .var 4], [⟨[], [], .k (.bool true)⟩]⟩
open Sx in
set_option maxRecDepth 100000 in
theorem k0_ok : LemOk c0_2 6 k0 := lem_of_run (n := 200) (by kernel_rfl)
open Sx in
noncomputable abbrev c1_2 := cfgB baseMay (sumL [(43, lemsX c00 [lemMay]), (14, lemsX c0 [alive]), (22, lemsX c1 [m1_0, m1_1, m1_2, m1_3])]) fun _ => none
open Sx in
instance sok1_2 (F : Wd) : SOk c1_2 F := sumL_ok (c := c1_2) rfl (fun x hx => by
  simp only [List.mem_cons, List.not_mem_nil, or_false] at hx
  rcases hx with rfl | rfl | rfl
  · exact mayTr c1_2 rfl rfl F
  · exact TrOk.cfg (c := c0) (c' := c1_2) rfl rfl (lemsX_tr (fun L hL => by simp only [List.mem_singleton] at hL; subst hL; exact alive_ok))
  · refine TrOk.cfg (c := c1) (c' := c1_2) rfl rfl (lemsX_tr (fun L hL => ?_))
    simp only [List.mem_cons, List.not_mem_nil, or_false] at hL
    rcases hL with rfl | rfl | rfl | rfl
    · exact m1_0_ok
    · exact m1_1_ok
    · exact m1_2_ok
    · exact m1_3_ok
    )
open Sx in
noncomputable def k1 : Lem := ⟨[.str, .f64, .str, fullTy .i64, .bool], [], [], [.var 0, .agg (chain [.k (.int .u8 1), .var 1, .var 2, .var 3]), .var 4], [⟨[], [], .k (.bool true)⟩]⟩
open Sx in
set_option maxRecDepth 100000 in
theorem k1_ok : LemOk c1_2 6 k1 := lem_of_run (n := 200) (by kernel_rfl)
open Sx in
noncomputable def k2n : Lem := ⟨[.str, .nan, .str, fullTy .i64, .bool], [], [], [.var 0, .agg (chain [.k (.int .u8 2), .var 1, .var 2, .var 3]), .var 4], [⟨[], [], .k (.bool true)⟩]⟩
open Sx in
set_option maxRecDepth 100000 in
theorem k2n_ok : LemOk c1 6 k2n := lem_of_run (n := 200) (by kernel_rfl)
open Sx in
noncomputable abbrev c2_2 := cfgB baseMay (sumL [(43, lemsX c00 [lemMay]), (14, lemsX c0 [alive]), (22, lemsX c1 [m2_0, m2_1, m2_2, m2_3, m2_4, m2_5, m2_6, m2_7])]) fun _ => none
open Sx in
instance sok2_2 (F : Wd) : SOk c2_2 F := sumL_ok (c := c2_2) rfl (fun x hx => by
  simp only [List.mem_cons, List.not_mem_nil, or_false] at hx
  rcases hx with rfl | rfl | rfl
  · exact mayTr c2_2 rfl rfl F
  · exact TrOk.cfg (c := c0) (c' := c2_2) rfl rfl (lemsX_tr (fun L hL => by simp only [List.mem_singleton] at hL; subst hL; exact alive_ok))
  · refine TrOk.cfg (c := c1) (c' := c2_2) rfl rfl (lemsX_tr (fun L hL => ?_))
    simp only [List.mem_cons, List.not_mem_nil, or_false] at hL
    rcases hL with rfl | rfl | rfl | rfl | rfl | rfl | rfl | rfl
    · exact m2_0_ok
    · exact m2_1_ok
    · exact m2_2_ok
    · exact m2_3_ok
    · exact m2_4_ok
    · exact m2_5_ok
    · exact m2_6_ok
    · exact m2_7_ok
    )
open Sx in
noncomputable def k2 : Lem := ⟨[.str, .num, .str, fullTy .i64, .bool], [], [], [.var 0, .agg (chain [.k (.int .u8 2), .var 1, .var 2, .var 3]), .var 4], [⟨[], [], .k (.bool true)⟩]⟩
open Sx in
set_option maxRecDepth 100000 in
theorem k2_ok : LemOk c2_2 6 k2 := lem_of_run (n := 200) (by kernel_rfl)
open Sx in
noncomputable abbrev c3n_2 := cfgB baseMay (sumL [(43, lemsX c00 [lemMay]), (14, lemsX c0 [alive]), (22, lemsX c1 [m3n_0, m3n_1, m3n_2, m3n_3])]) fun _ => none
open Sx in
instance sok3n_2 (F : Wd) : SOk c3n_2 F := sumL_ok (c := c3n_2) rfl (fun x hx => by
  simp only [List.mem_cons, List.not_mem_nil, or_false] at hx
  rcases hx with rfl | rfl | rfl
  · exact mayTr c3n_2 rfl rfl F
  · exact TrOk.cfg (c := c0) (c' := c3n_2) rfl rfl (lemsX_tr (fun L hL => by simp only [List.mem_singleton] at hL; subst hL; exact alive_ok))
  · refine TrOk.cfg (c := c1) (c' := c3n_2) rfl rfl (lemsX_tr (fun L hL => ?_))
    simp only [List.mem_cons, List.not_mem_nil, or_false] at hL
    rcases hL with rfl | rfl | rfl | rfl
    · exact m3n_0_ok
    · exact m3n_1_ok
    · exact m3n_2_ok
    · exact m3n_3_ok
    )
open Sx in
noncomputable def k3n : Lem := ⟨[.str, .nan, .str, fullTy .i64, .bool], [], [], [.var 0, .agg (chain [.k (.int .u8 3), .var 1, .var 2, .var 3]), .var 4], [⟨[], [], .k (.bool true)⟩]⟩
open Sx in
set_option maxRecDepth 100000 in
theorem k3n_ok : LemOk c3n_2 6 k3n := lem_of_run (n := 200) (by kernel_rfl)
open Sx in
noncomputable abbrev c3_2 := cfgB baseMay (sumL [(43, lemsX c00 [lemMay]), (14, lemsX c0 [alive]), (22, lemsX c1 [m3_0, m3_1, m3_2, m3_3])]) fun _ => none
open Sx in
instance sok3_2 (F : Wd) : SOk c3_2 F := sumL_ok (c := c3_2) rfl (fun x hx => by
  simp only [List.mem_cons, List.not_mem_nil, or_false] at hx
  rcases hx with rfl | rfl | rfl
  · exact mayTr c3_2 rfl rfl F
  · exact TrOk.cfg (c := c0) (c' := c3_2) rfl rfl (lemsX_tr (fun L hL => by simp only [List.mem_singleton] at hL; subst hL; exact alive_ok))
  · refine TrOk.cfg (c := c1) (c' := c3_2) rfl rfl (lemsX_tr (fun L hL => ?_))
    simp only [List.mem_cons, List.not_mem_nil, or_false] at hL
    rcases hL with rfl | rfl | rfl | rfl
    · exact m3_0_ok
    · exact m3_1_ok
    · exact m3_2_ok
    · exact m3_3_ok
    )
open Sx in
noncomputable def k3 : Lem := ⟨[.str, .num, .str, fullTy .i64, .bool], [], [], [.var 0, .agg (chain [.k (.int .u8 3), .var 1, .var 2, .var 3]), .var 4], [⟨[], [], .k (.bool true)⟩]⟩
open Sx in
set_option maxRecDepth 100000 in
theorem k3_ok : LemOk c3_2 6 k3 := lem_of_run (n := 200) (by kernel_rfl)
open Sx in
noncomputable abbrev c4_2 := cfgB baseMay (sumL [(43, lemsX c00 [lemMay]), (14, lemsX c0 [alive]), (22, lemsX c1 [m4_0, m4_1, m4_2, m4_3])]) fun _ => none
open Sx in
instance sok4_2 (F : Wd) : SOk c4_2 F := sumL_ok (c := c4_2) rfl (fun x hx => by
  simp only [List.mem_cons, List.not_mem_nil, or_false] at hx
  rcases hx with rfl | rfl | rfl
  · exact mayTr c4_2 rfl rfl F
  · exact TrOk.cfg (c := c0) (c' := c4_2) rfl rfl (lemsX_tr (fun L hL => by simp only [List.mem_singleton] at hL; subst hL; exact alive_ok))
  · refine TrOk.cfg (c := c1) (c' := c4_2) rfl rfl (lemsX_tr (fun L hL => ?_))
    simp only [List.mem_cons, List.not_mem_nil, or_false] at hL
    rcases hL with rfl | rfl | rfl | rfl
    · exact m4_0_ok
    · exact m4_1_ok
    · exact m4_2_ok
    · exact m4_3_ok
    )
open Sx in
noncomputable def k4 : Lem := ⟨[.str, .f64, .str, fullTy .i64, .bool], [], [], [.var 0, .agg (chain [.k (.int .u8 4), .var 1, .var 2, .var 3]), .var 4], [⟨[], [], .k (.bool true)⟩]⟩
open Sx in
set_option maxRecDepth 100000 in
theorem k4_ok : LemOk c4_2 6 k4 := lem_of_run (n := 200) (by kernel_rfl)
open Sx in
noncomputable abbrev c5_2 := cfgB baseMay (sumL [(43, lemsX c00 [lemMay]), (14, lemsX c0 [alive]), (22, lemsX c1 [m5_0, m5_1, m5_2, m5_3])]) fun _ => none
open Sx in
instance sok5_2 (F : Wd) : SOk c5_2 F := sumL_ok (c := c5_2) rfl (fun x hx => by
  simp only [List.mem_cons, List.not_mem_nil, or_false] at hx
  rcases hx with rfl | rfl | rfl
  · exact mayTr c5_2 rfl rfl F
  · exact TrOk.cfg (c := c0) (c' := c5_2) rfl rfl (lemsX_tr (fun L hL => by simp only [List.mem_singleton] at hL; subst hL; exact alive_ok))
  · refine TrOk.cfg (c := c1) (c' := c5_2) rfl rfl (lemsX_tr (fun L hL => ?_))
    simp only [List.mem_cons, List.not_mem_nil, or_false] at hL
    rcases hL with rfl | rfl | rfl | rfl
    · exact m5_0_ok
    · exact m5_1_ok
    · exact m5_2_ok
    · exact m5_3_ok
    )
open Sx in
noncomputable def k5 : Lem := ⟨[.str, .f64, .str, fullTy .i64, .bool], [], [], [.var 0, .agg (chain [.k (.int .u8 5), .var 1, .var 2, .var 3]), .var 4], [⟨[], [], .k (.bool true)⟩]⟩
open Sx in
set_option maxRecDepth 100000 in
theorem k5_ok : LemOk c5_2 6 k5 := lem_of_run (n := 200) (by kernel_rfl)
open Sx in
noncomputable abbrev c6_2 := cfgB baseMay (sumL [(43, lemsX c00 [lemMay]), (14, lemsX c0 [alive]), (22, lemsX c1 [m6_0, m6_1, m6_2, m6_3])]) fun _ => none
open Sx in
instance sok6_2 (F : Wd) : SOk c6_2 F := sumL_ok (c := c6_2) rfl (fun x hx => by
  simp only [List.mem_cons, List.not_mem_nil, or_false] at hx
  rcases hx with rfl | rfl | rfl
  · exact mayTr c6_2 rfl rfl F
  · exact TrOk.cfg (c := c0) (c' := c6_2) rfl rfl (lemsX_tr (fun L hL => by simp only [List.mem_singleton] at hL; subst hL; exact alive_ok))
  · refine TrOk.cfg (c := c1) (c' := c6_2) rfl rfl (lemsX_tr (fun L hL => ?_))
    simp only [List.mem_cons, List.not_mem_nil, or_false] at hL
    rcases hL with rfl | rfl | rfl | rfl
    · exact m6_0_ok
    · exact m6_1_ok
    · exact m6_2_ok
    · exact m6_3_ok
    )
open Sx in
noncomputable def k6 : Lem := ⟨[.str, .f64, .str, fullTy .i64, .bool], [], [], [.var 0, .agg (chain [.k (.int .u8 6), .var 1, .var 2, .var 3]), .var 4], [⟨[], [], .k (.bool true)⟩]⟩
open Sx in
set_option maxRecDepth 100000 in
theorem k6_ok : LemOk c6_2 6 k6 := lem_of_run (n := 200) (by kernel_rfl)
open Sx in
noncomputable abbrev c7_2 := cfgB baseMay (sumL [(43, lemsX c00 [lemMay]), (14, lemsX c0 [alive]), (22, lemsX c1 [m7_0, m7_1, m7_2, m7_3])]) fun _ => none
open Sx in
instance sok7_2 (F : Wd) : SOk c7_2 F := sumL_ok (c := c7_2) rfl (fun x hx => by
  simp only [List.mem_cons, List.not_mem_nil, or_false] at hx
  rcases hx with rfl | rfl | rfl
  · exact mayTr c7_2 rfl rfl F
  · exact TrOk.cfg (c := c0) (c' := c7_2) rfl rfl (lemsX_tr (fun L hL => by simp only [List.mem_singleton] at hL; subst hL; exact alive_ok))
  · refine TrOk.cfg (c := c1) (c' := c7_2) rfl rfl (lemsX_tr (fun L hL => ?_))
    simp only [List.mem_cons, List.not_mem_nil, or_false] at hL
    rcases hL with rfl | rfl | rfl | rfl
    · exact m7_0_ok
    · exact m7_1_ok
    · exact m7_2_ok
    · exact m7_3_ok
    )
open Sx in
noncomputable def k7 : Lem := ⟨[.str, .f64, .str, fullTy .i64, .bool], [], [], [.var 0, .agg (chain [.k (.int .u8 7), .var 1, .var 2, .var 3]), .var 4], [⟨[], [], .k (.bool true)⟩]⟩
open Sx in
set_option maxRecDepth 100000 in
theorem k7_ok : LemOk c7_2 6 k7 := lem_of_run (n := 200) (by kernel_rfl)
open Sx in
noncomputable abbrev c8_2 := cfgB baseMay (sumL [(43, lemsX c00 [lemMay]), (14, lemsX c0 [alive]), (22, lemsX c1 [m8_0, m8_1, m8_2, m8_3])]) fun _ => none
open Sx in
instance sok8_2 (F : Wd) : SOk c8_2 F := sumL_ok (c := c8_2) rfl (fun x hx => by
  simp only [List.mem_cons, List.not_mem_nil, or_false] at hx
  rcases hx with rfl | rfl | rfl
  · exact mayTr c8_2 rfl rfl F
  · exact TrOk.cfg (c := c0) (c' := c8_2) rfl rfl (lemsX_tr (fun L hL => by simp only [List.mem_singleton] at hL; subst hL; exact alive_ok))
  · refine TrOk.cfg (c := c1) (c' := c8_2) rfl rfl (lemsX_tr (fun L hL => ?_))
    simp only [List.mem_cons, List.not_mem_nil, or_false] at hL
    rcases hL with rfl | rfl | rfl | rfl
    · exact m8_0_ok
    · exact m8_1_ok
    · exact m8_2_ok
    · exact m8_3_ok
    )
open Sx in
noncomputable def k8 : Lem := ⟨[.str, .f64, .str, fullTy .i64, .bool], [], [], [.var 0, .agg (chain [.k (.int .u8 8), .var 1, .var 2, .var 3]), .var 4], [⟨[], [], .k (.bool true)⟩]⟩
open Sx in
set_option maxRecDepth 100000 in
theorem k8_ok : LemOk c8_2 6 k8 := lem_of_run (n := 200) (by kernel_rfl)
open Sx in
noncomputable def k9 : Lem := ⟨[.str, .f64, .str, fullTy .i64, .bool, .int .u8 9 (some 255)], [], [], [.var 0, .agg (chain [.var 5, .var 1, .var 2, .var 3]), .var 4], [⟨[], [], .k (.bool true)⟩]⟩
open Sx in
set_option maxRecDepth 100000 in
theorem k9_ok : LemOk c1 6 k9 := lem_of_run (n := 200) (by kernel_rfl)

open Sx in
theorem walk (c0_0 : ByteArray) (c1_0 : Int) (c1_1 : Nat) (c1_2 : ByteArray) (c1_3 : Int) (c2_0 : Bool) (lc1_0 : IntKind.u8.min ≤ c1_0) (uc1_0 : c1_0 ≤ IntKind.u8.max) (lc1_3 : IntKind.i64.min ≤ c1_3) (uc1_3 : c1_3 ≤ IntKind.i64.max) (w : World) :
    Calls Tryz.prog 6 #[.string c0_0, .agg #[.int .u8 c1_0, .float .f64 c1_1, .string c1_2, .int .i64 c1_3], .bool c2_0] w fun e w' => e = .returned (.bool true) ∧ Below w.heap.size w w' := by
  have hr : hasTy (.int .i64 c1_3) (fullTy .i64) := ⟨_, rfl, lc1_3, fun _ e => by cases e; exact uc1_3⟩
  have h8 : c1_0 = 0 ∨ c1_0 = 1 ∨ c1_0 = 2 ∨ c1_0 = 3 ∨ c1_0 = 4 ∨ c1_0 = 5 ∨ c1_0 = 6 ∨ c1_0 = 7 ∨ c1_0 = 8 ∨ 9 ≤ c1_0 := by
    have h0 : (0 : Int) ≤ c1_0 := lc1_0
    omega
  have u : c1_0 ≤ 255 := uc1_0
  rcases h8 with rfl | rfl | rfl | rfl | rfl | rfl | rfl | rfl | rfl | h9
  · exact lem_true k0_ok rfl rfl rfl [.string c0_0, .float .f64 c1_1, .string c1_2, .int .i64 c1_3, .bool c2_0] (.cons ⟨_, rfl⟩ (.cons ⟨_, rfl⟩ (.cons ⟨_, rfl⟩ (.cons hr (.cons ⟨_, rfl⟩ .nil))))) rfl w
  · exact lem_true k1_ok rfl rfl rfl [.string c0_0, .float .f64 c1_1, .string c1_2, .int .i64 c1_3, .bool c2_0] (.cons ⟨_, rfl⟩ (.cons ⟨_, rfl⟩ (.cons ⟨_, rfl⟩ (.cons hr (.cons ⟨_, rfl⟩ .nil))))) rfl w
  · rcases float_cases c1_1 with hf | hf
    · exact lem_true k2n_ok rfl rfl rfl [.string c0_0, .float .f64 c1_1, .string c1_2, .int .i64 c1_3, .bool c2_0] (.cons ⟨_, rfl⟩ (.cons hf (.cons ⟨_, rfl⟩ (.cons hr (.cons ⟨_, rfl⟩ .nil))))) rfl w
    · exact lem_true k2_ok rfl rfl rfl [.string c0_0, .float .f64 c1_1, .string c1_2, .int .i64 c1_3, .bool c2_0] (.cons ⟨_, rfl⟩ (.cons hf (.cons ⟨_, rfl⟩ (.cons hr (.cons ⟨_, rfl⟩ .nil))))) rfl w
  · rcases float_cases c1_1 with hf | hf
    · exact lem_true k3n_ok rfl rfl rfl [.string c0_0, .float .f64 c1_1, .string c1_2, .int .i64 c1_3, .bool c2_0] (.cons ⟨_, rfl⟩ (.cons hf (.cons ⟨_, rfl⟩ (.cons hr (.cons ⟨_, rfl⟩ .nil))))) rfl w
    · exact lem_true k3_ok rfl rfl rfl [.string c0_0, .float .f64 c1_1, .string c1_2, .int .i64 c1_3, .bool c2_0] (.cons ⟨_, rfl⟩ (.cons hf (.cons ⟨_, rfl⟩ (.cons hr (.cons ⟨_, rfl⟩ .nil))))) rfl w
  · exact lem_true k4_ok rfl rfl rfl [.string c0_0, .float .f64 c1_1, .string c1_2, .int .i64 c1_3, .bool c2_0] (.cons ⟨_, rfl⟩ (.cons ⟨_, rfl⟩ (.cons ⟨_, rfl⟩ (.cons hr (.cons ⟨_, rfl⟩ .nil))))) rfl w
  · exact lem_true k5_ok rfl rfl rfl [.string c0_0, .float .f64 c1_1, .string c1_2, .int .i64 c1_3, .bool c2_0] (.cons ⟨_, rfl⟩ (.cons ⟨_, rfl⟩ (.cons ⟨_, rfl⟩ (.cons hr (.cons ⟨_, rfl⟩ .nil))))) rfl w
  · exact lem_true k6_ok rfl rfl rfl [.string c0_0, .float .f64 c1_1, .string c1_2, .int .i64 c1_3, .bool c2_0] (.cons ⟨_, rfl⟩ (.cons ⟨_, rfl⟩ (.cons ⟨_, rfl⟩ (.cons hr (.cons ⟨_, rfl⟩ .nil))))) rfl w
  · exact lem_true k7_ok rfl rfl rfl [.string c0_0, .float .f64 c1_1, .string c1_2, .int .i64 c1_3, .bool c2_0] (.cons ⟨_, rfl⟩ (.cons ⟨_, rfl⟩ (.cons ⟨_, rfl⟩ (.cons hr (.cons ⟨_, rfl⟩ .nil))))) rfl w
  · exact lem_true k8_ok rfl rfl rfl [.string c0_0, .float .f64 c1_1, .string c1_2, .int .i64 c1_3, .bool c2_0] (.cons ⟨_, rfl⟩ (.cons ⟨_, rfl⟩ (.cons ⟨_, rfl⟩ (.cons hr (.cons ⟨_, rfl⟩ .nil))))) rfl w
  · exact lem_true k9_ok rfl rfl rfl [.string c0_0, .float .f64 c1_1, .string c1_2, .int .i64 c1_3, .bool c2_0, .int .u8 c1_0] (.cons ⟨_, rfl⟩ (.cons ⟨_, rfl⟩ (.cons ⟨_, rfl⟩ (.cons hr (.cons ⟨_, rfl⟩ (.cons ⟨_, rfl, h9, fun _ e => by cases e; exact u⟩ .nil)))))) rfl w

/-! ### THE ROW's STEP -/
set_option maxRecDepth 100000 in
theorem lifted (os : Os) (started : os.Started) (H : Type) (enc : TypeId × Value → H) :
    ReturnsInHanded {} Tryz.checked os 6 .any (Rows.opMembersSpec.pre6 enc Tryz.prog Tryz.f6 Rows.opMembersRow.domain false) (Rows.opMembersSpec.post enc Tryz.prog Tryz.f6 false true false false) := by
  refine returnsInHanded_of_change (C := Tryz.checked) own started (by kernel_rfl) Tryz.func6
    (ChangeSpec.witness6 (enc := enc) (C := Tryz.checked) false ⟨#[], #[.string ⟨#[]⟩, .agg #[.int .u8 0, .float .f64 0, .string ⟨#[]⟩, .int .i64 0], .bool false], []⟩ 8 (by kernel_rfl) (by kernel_rfl) (by kernel_rfl) (by kernel_rfl)) ?_
  intro W base args ds gs before hval0 hW hcnd _
  have hval : ∀ (j : Nat) t v, Tryz.f6.params[j]? = some t → args[j]? = some v → Value.okWide Tryz.prog W .any base t v := hval0
  have hW' := hW
  obtain ⟨p, q, hA0, hV, rfl, hfz, hnd⟩ := hW
  have hA : DataW.TrodAll enc Tryz.prog W 0 (fun _ => true) true Tryz.f6.params.toList args.toList ds p := hA0
  rw [Tryz.params6] at hA hval
  obtain ⟨v0, vs0, d0, ds0, p0, q0, hargs, rfl, rfl, h0, r0⟩ := trodAll_cons hA
  obtain ⟨v1, vs1, d1, ds1, p1, q1, rfl, rfl, rfl, h1, r1⟩ := trodAll_cons r0
  obtain ⟨v2, vs2, d2, ds2, p2, q2, rfl, rfl, rfl, h2, r2⟩ := trodAll_cons r1
  obtain ⟨rfl, rfl, rfl⟩ := trodAll_nil r2
  obtain rfl : args = #[v0, v1, v2] := by cases args; simp_all
  obtain ⟨rfl, rfl⟩ := trodVars_none hV
  obtain ⟨f0, g0⟩ := Sx.open_flat (d := 10) (hval 0 9 v0 rfl rfl) h0 (tys := [.str]) (by kernel_rfl)
  obtain ⟨x0_0, y0_0, e0_0, ⟨c0_0, rfl⟩, f0_0⟩ := Sx.all2_cons f0
  obtain rfl := Sx.all2_nil f0_0
  have a0 : v0.cells.toList = [.string c0_0] := by rw [e0_0]
  have b0 : v0 = .string c0_0 := by
    rcases g0 with ⟨⟨fs, g⟩, _⟩ | ⟨_, g⟩
    · rw [Tryz.underlying9] at g; cases g
    · rw [g] at a0; simpa using a0
  subst b0
  obtain ⟨f1, g1⟩ := Sx.open_flat (d := 10) (hval 1 33 v1 rfl rfl) h1 (tys := [Sx.fullTy .u8, .f64, .str, Sx.fullTy .i64]) (by kernel_rfl)
  obtain ⟨x1_0, y1_0, e1_0, ⟨c1_0, rfl, l1_0, u1_0⟩, f1_0⟩ := Sx.all2_cons f1
  obtain ⟨x1_1, y1_1, e1_1, ⟨c1_1, rfl⟩, f1_1⟩ := Sx.all2_cons f1_0
  obtain ⟨x1_2, y1_2, e1_2, ⟨c1_2, rfl⟩, f1_2⟩ := Sx.all2_cons f1_1
  obtain ⟨x1_3, y1_3, e1_3, ⟨c1_3, rfl, l1_3, u1_3⟩, f1_3⟩ := Sx.all2_cons f1_2
  obtain rfl := Sx.all2_nil f1_3
  have a1 : v1.cells.toList = [.int .u8 c1_0, .float .f64 c1_1, .string c1_2, .int .i64 c1_3] := by rw [e1_0, e1_1, e1_2, e1_3]
  have b1 : v1 = .agg #[.int .u8 c1_0, .float .f64 c1_1, .string c1_2, .int .i64 c1_3] := by
    rcases g1 with ⟨_, g⟩ | ⟨hn, _⟩
    · rw [g, ← Array.toArray_toList (xs := v1.cells), a1]
    · exact absurd Tryz.underlying33 (hn _)
  subst b1
  obtain ⟨f2, g2⟩ := Sx.open_flat (d := 10) (hval 2 4 v2 rfl rfl) h2 (tys := [.bool]) (by kernel_rfl)
  obtain ⟨x2_0, y2_0, e2_0, ⟨c2_0, rfl⟩, f2_0⟩ := Sx.all2_cons f2
  obtain rfl := Sx.all2_nil f2_0
  have a2 : v2.cells.toList = [.bool c2_0] := by rw [e2_0]
  have b2 : v2 = .bool c2_0 := by
    rcases g2 with ⟨⟨fs, g⟩, _⟩ | ⟨_, g⟩
    · rw [Tryz.underlying4] at g; cases g
    · rw [g] at a2; simpa using a2
  subst b2
  refine (walk c0_0 c1_0 c1_1 c1_2 c1_3 c2_0 l1_0 (u1_0 _ rfl) l1_3 (u1_3 _ rfl) W).mono fun e W' ⟨he, hg⟩ => ?_
  subst he
  refine ⟨_, rfl, Sx.law_post (tb := 4) (by kernel_rfl) ?_ rfl Tryz.underlying4 rfl rfl rfl rfl hW' hg⟩
  intro t ht
  rw [Tryz.params6] at ht
  simp only [List.mem_cons, List.not_mem_nil, or_false] at ht
  rcases ht with rfl | rfl | rfl <;> exact ⟨by kernel_rfl, of_decide_eq_true (by kernel_rfl)⟩

theorem over : Rows.opMembersRow.holds Tryz.pinned (OpenSpec.ofChange Rows.opMembersSpec) :=
  OpenClaim.holds_of_wide 6 Tryz.f6 rfl rfl rfl rfl rfl rfl rfl ⟨rfl, rfl, rfl, rfl, rfl⟩ rfl rfl rfl rfl rfl (by kernel_rfl) Tryz.func6 (by kernel_rfl)
    (of_decide_eq_true (by kernel_rfl)) (by unfold Func.isWrapper; first | (rw [if_pos (by decide +kernel)]; kernel_rfl) | (rw [if_neg (by decide +kernel)]; exact ⟨rfl, rfl⟩))
    (fun os started H enc _ => lifted os started H enc)

/-- THE STATEMENT -/
theorem proved : Rows.OpMembersSaid :=
  over
#print axioms proved
end Go.Proofs.YtfhkjlncblnnmaaGreat.opMembers
