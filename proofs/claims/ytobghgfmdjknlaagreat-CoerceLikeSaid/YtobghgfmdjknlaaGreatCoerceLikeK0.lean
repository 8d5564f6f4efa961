/- CoerceLike: the law where the first value is of one kind: each pair a form, and the row. -/
import Derived.Test.YtobghgfmdjknlaaGreatSxLaw
import Derived.Test.YtobghgfmdjknlaaGreatCoerceLikeE0
import Derived.Test.YtobghgfmdjknlaaGreatCoerceLikeE1
import Derived.Test.YtobghgfmdjknlaaGreatCoerceLikeE2
import Derived.Test.YtobghgfmdjknlaaGreatCoerceLikeE3
import Derived.Test.YtobghgfmdjknlaaGreatCoerceLikeE4
namespace Go.Proofs.YtobghgfmdjknlaaGreat.coerceLike
open Go Go.RowKit
set_option linter.unusedVariables false
open Sx in
noncomputable abbrev c0_2 := cfgB baseRead (sumL [(16, lemsX c0 [alive]), (23, lemsX c0 mays), (8, lemsX c1 [e0_0, e0_1, e0_2, e0_2o, e0_3, e0_3n, e0_4, e0_5, e0_6, e0_7, e0_8, e1_0, e2_0, e2o_0, e3_0, e3n_0, e4_0, e5_0, e6_0, e7_0, e8_0])]) fun _ => none
open Sx in
instance sok0_2 (F : Wd) : SOk c0_2 F := sumL_ok (c := c0_2) rfl (fun x hx => by
  simp only [List.mem_cons, List.not_mem_nil, or_false] at hx
  rcases hx with rfl | rfl | rfl
  · exact TrOk.cfg (c := c0) (c' := c0_2) rfl rfl (lemsX_tr (fun L hL => by simp only [List.mem_singleton] at hL; subst hL; exact alive_ok))
  · exact TrOk.cfg (c := c0) (c' := c0_2) rfl rfl (lemsX_tr mays_ok)
  · refine TrOk.cfg (c := c1) (c' := c0_2) rfl rfl (lemsX_tr (fun L hL => ?_))
    simp only [List.mem_cons, List.not_mem_nil, or_false] at hL
    rcases hL with rfl | rfl | rfl | rfl | rfl | rfl | rfl | rfl | rfl | rfl | rfl | rfl | rfl | rfl | rfl | rfl | rfl | rfl | rfl | rfl | rfl
    · exact e0_0_ok
    · exact e0_1_ok
    · exact e0_2_ok
    · exact e0_2o_ok
    · exact e0_3_ok
    · exact e0_3n_ok
    · exact e0_4_ok
    · exact e0_5_ok
    · exact e0_6_ok
    · exact e0_7_ok
    · exact e0_8_ok
    · exact e1_0_ok
    · exact e2_0_ok
    · exact e2o_0_ok
    · exact e3_0_ok
    · exact e3n_0_ok
    · exact e4_0_ok
    · exact e5_0_ok
    · exact e6_0_ok
    · exact e7_0_ok
    · exact e8_0_ok
  )
open Sx in
noncomputable def k0_0 : Lem := ⟨[.f64, .str, fullTy .i64, .f64, .str, fullTy .i64], [], [], [(.agg (.cons (.k (.int .u8 0)) (.cons (.var 0) (.cons (.var 1) (.cons (.var 2) .nil))))), (.agg (.cons (.k (.int .u8 0)) (.cons (.var 3) (.cons (.var 4) (.cons (.var 5) .nil)))))], [⟨[], [], (.k (.bool true))⟩]⟩
open Sx in
set_option maxRecDepth 100000 in
theorem k0_0_ok : LemOk c0_2 7 k0_0 := lem_of_run (n := 200) (by kernel_rfl)
open Sx in
noncomputable def k0_1 : Lem := ⟨[.f64, .str, fullTy .i64, .f64, .str, fullTy .i64], [], [], [(.agg (.cons (.k (.int .u8 0)) (.cons (.var 0) (.cons (.var 1) (.cons (.var 2) .nil))))), (.agg (.cons (.k (.int .u8 1)) (.cons (.var 3) (.cons (.var 4) (.cons (.var 5) .nil)))))], [⟨[], [], (.k (.bool true))⟩]⟩
open Sx in
set_option maxRecDepth 100000 in
theorem k0_1_ok : LemOk c0_2 7 k0_1 := lem_of_run (n := 200) (by kernel_rfl)
open Sx in
noncomputable def k0_2n : Lem := ⟨[.f64, .str, fullTy .i64, .nan, .str, fullTy .i64], [], [], [(.agg (.cons (.k (.int .u8 0)) (.cons (.var 0) (.cons (.var 1) (.cons (.var 2) .nil))))), (.agg (.cons (.k (.int .u8 2)) (.cons (.var 3) (.cons (.var 4) (.cons (.var 5) .nil)))))], [⟨[], [], (.k (.bool true))⟩]⟩
open Sx in
set_option maxRecDepth 100000 in
theorem k0_2n_ok : LemOk c0_2 7 k0_2n := lem_of_run (n := 200) (by kernel_rfl)
open Sx in
noncomputable def k0_2o : Lem := ⟨[.f64, .str, fullTy .i64, .str, fullTy .i64], [], [], [(.agg (.cons (.k (.int .u8 0)) (.cons (.var 0) (.cons (.var 1) (.cons (.var 2) .nil))))), (.agg (.cons (.k (.int .u8 2)) (.cons (.k (.float .f64 4607182418800017408)) (.cons (.var 3) (.cons (.var 4) .nil)))))], [⟨[], [], (.k (.bool true))⟩]⟩
open Sx in
set_option maxRecDepth 100000 in
theorem k0_2o_ok : LemOk c0_2 7 k0_2o := lem_of_run (n := 200) (by kernel_rfl)
open Sx in
noncomputable def k0_2 : Lem := ⟨[.f64, .str, fullTy .i64, .num, .str, fullTy .i64], [], [((.prim (.bin .eql 0 false) (.cons (.var 3) (.cons (.k (.float .f64 4607182418800017408)) .nil))), false)], [(.agg (.cons (.k (.int .u8 0)) (.cons (.var 0) (.cons (.var 1) (.cons (.var 2) .nil))))), (.agg (.cons (.k (.int .u8 2)) (.cons (.var 3) (.cons (.var 4) (.cons (.var 5) .nil)))))], [⟨[], [], (.k (.bool true))⟩]⟩
open Sx in
set_option maxRecDepth 100000 in
theorem k0_2_ok : LemOk c0_2 7 k0_2 := lem_of_run (n := 200) (by kernel_rfl)
open Sx in
noncomputable def k0_3n : Lem := ⟨[.f64, .str, fullTy .i64, .nan, .str, fullTy .i64], [], [], [(.agg (.cons (.k (.int .u8 0)) (.cons (.var 0) (.cons (.var 1) (.cons (.var 2) .nil))))), (.agg (.cons (.k (.int .u8 3)) (.cons (.var 3) (.cons (.var 4) (.cons (.var 5) .nil)))))], [⟨[], [], (.k (.bool true))⟩]⟩
open Sx in
set_option maxRecDepth 100000 in
theorem k0_3n_ok : LemOk c0_2 7 k0_3n := lem_of_run (n := 200) (by kernel_rfl)
open Sx in
noncomputable def k0_3 : Lem := ⟨[.f64, .str, fullTy .i64, .num, .str, fullTy .i64], [], [], [(.agg (.cons (.k (.int .u8 0)) (.cons (.var 0) (.cons (.var 1) (.cons (.var 2) .nil))))), (.agg (.cons (.k (.int .u8 3)) (.cons (.var 3) (.cons (.var 4) (.cons (.var 5) .nil)))))], [⟨[], [], (.k (.bool true))⟩]⟩
open Sx in
set_option maxRecDepth 100000 in
theorem k0_3_ok : LemOk c0_2 7 k0_3 := lem_of_run (n := 200) (by kernel_rfl)
open Sx in
noncomputable def k0_4 : Lem := ⟨[.f64, .str, fullTy .i64, .f64, .str, fullTy .i64], [], [], [(.agg (.cons (.k (.int .u8 0)) (.cons (.var 0) (.cons (.var 1) (.cons (.var 2) .nil))))), (.agg (.cons (.k (.int .u8 4)) (.cons (.var 3) (.cons (.var 4) (.cons (.var 5) .nil)))))], [⟨[], [], (.k (.bool true))⟩]⟩
open Sx in
set_option maxRecDepth 100000 in
theorem k0_4_ok : LemOk c0_2 7 k0_4 := lem_of_run (n := 200) (by kernel_rfl)
open Sx in
noncomputable def k0_5 : Lem := ⟨[.f64, .str, fullTy .i64, .f64, .str, fullTy .i64], [], [], [(.agg (.cons (.k (.int .u8 0)) (.cons (.var 0) (.cons (.var 1) (.cons (.var 2) .nil))))), (.agg (.cons (.k (.int .u8 5)) (.cons (.var 3) (.cons (.var 4) (.cons (.var 5) .nil)))))], [⟨[], [], (.k (.bool true))⟩]⟩
open Sx in
set_option maxRecDepth 100000 in
theorem k0_5_ok : LemOk c0_2 7 k0_5 := lem_of_run (n := 200) (by kernel_rfl)
open Sx in
noncomputable def k0_6 : Lem := ⟨[.f64, .str, fullTy .i64, .f64, .str, fullTy .i64], [], [], [(.agg (.cons (.k (.int .u8 0)) (.cons (.var 0) (.cons (.var 1) (.cons (.var 2) .nil))))), (.agg (.cons (.k (.int .u8 6)) (.cons (.var 3) (.cons (.var 4) (.cons (.var 5) .nil)))))], [⟨[], [], (.k (.bool true))⟩]⟩
open Sx in
set_option maxRecDepth 100000 in
theorem k0_6_ok : LemOk c0_2 7 k0_6 := lem_of_run (n := 200) (by kernel_rfl)
open Sx in
noncomputable def k0_7 : Lem := ⟨[.f64, .str, fullTy .i64, .f64, .str, fullTy .i64], [], [], [(.agg (.cons (.k (.int .u8 0)) (.cons (.var 0) (.cons (.var 1) (.cons (.var 2) .nil))))), (.agg (.cons (.k (.int .u8 7)) (.cons (.var 3) (.cons (.var 4) (.cons (.var 5) .nil)))))], [⟨[], [], (.k (.bool true))⟩]⟩
open Sx in
set_option maxRecDepth 100000 in
theorem k0_7_ok : LemOk c0_2 7 k0_7 := lem_of_run (n := 200) (by kernel_rfl)
open Sx in
noncomputable def k0_8 : Lem := ⟨[.f64, .str, fullTy .i64, .f64, .str, fullTy .i64], [], [], [(.agg (.cons (.k (.int .u8 0)) (.cons (.var 0) (.cons (.var 1) (.cons (.var 2) .nil))))), (.agg (.cons (.k (.int .u8 8)) (.cons (.var 3) (.cons (.var 4) (.cons (.var 5) .nil)))))], [⟨[], [], (.k (.bool true))⟩]⟩
open Sx in
set_option maxRecDepth 100000 in
theorem k0_8_ok : LemOk c0_2 7 k0_8 := lem_of_run (n := 200) (by kernel_rfl)
open Sx in
noncomputable def k0_9 : Lem := ⟨[.f64, .str, fullTy .i64, .f64, .str, fullTy .i64, (.int .u8 9 (some 255))], [], [], [(.agg (.cons (.k (.int .u8 0)) (.cons (.var 0) (.cons (.var 1) (.cons (.var 2) .nil))))), (.agg (.cons (.var 6) (.cons (.var 3) (.cons (.var 4) (.cons (.var 5) .nil)))))], [⟨[], [], (.k (.bool true))⟩]⟩
open Sx in
set_option maxRecDepth 100000 in
theorem k0_9_ok : LemOk c0_2 7 k0_9 := lem_of_run (n := 200) (by kernel_rfl)
theorem row0 (f0 : Nat) (s0 : ByteArray) (r0 : Int) (k1 : Int) (f1 : Nat) (s1 : ByteArray) (r1 : Int) (hr0 : Sx.hasTy (.int .i64 r0) (Sx.fullTy .i64)) (hr1 : Sx.hasTy (.int .i64 r1) (Sx.fullTy .i64)) (l1 : 0 ≤ k1) (u1 : k1 ≤ 255) (b0 : f0 < 2 ^ 64) (b1 : f1 < 2 ^ 64)
    (h0 : True) (w : World) :
    Calls Tryz.prog 7 #[.agg #[.int .u8 0, .float .f64 f0, .string s0, .int .i64 r0], .agg #[.int .u8 k1, .float .f64 f1, .string s1, .int .i64 r1]] w fun e w' => e = .returned (.bool true) ∧ Below w.heap.size w w' := by
  have q1 : k1 = 0 ∨ k1 = 1 ∨ k1 = 2 ∨ k1 = 3 ∨ k1 = 4 ∨ k1 = 5 ∨ k1 = 6 ∨ k1 = 7 ∨ k1 = 8 ∨ 9 ≤ k1 := by omega
  rcases q1 with rfl | rfl | rfl | rfl | rfl | rfl | rfl | rfl | rfl | h91
  · have h1 : True := trivial; exact Sx.lem_true_pre k0_0_ok rfl rfl [.float .f64 f0, .string s0, .int .i64 r0, .float .f64 f1, .string s1, .int .i64 r1] (.cons ⟨_, rfl⟩ (.cons ⟨_, rfl⟩ (.cons hr0 (.cons ⟨_, rfl⟩ (.cons ⟨_, rfl⟩ (.cons hr1 .nil)))))) (fun g hg => by cases hg) rfl w
  · have h1 : True := trivial; exact Sx.lem_true_pre k0_1_ok rfl rfl [.float .f64 f0, .string s0, .int .i64 r0, .float .f64 f1, .string s1, .int .i64 r1] (.cons ⟨_, rfl⟩ (.cons ⟨_, rfl⟩ (.cons hr0 (.cons ⟨_, rfl⟩ (.cons ⟨_, rfl⟩ (.cons hr1 .nil)))))) (fun g hg => by cases hg) rfl w
  · rcases Sx.float_cases f1 with hf | hf
    · have h1 : Sx.hasTy (.float .f64 f1) .nan := hf; exact Sx.lem_true_pre k0_2n_ok rfl rfl [.float .f64 f0, .string s0, .int .i64 r0, .float .f64 f1, .string s1, .int .i64 r1] (.cons ⟨_, rfl⟩ (.cons ⟨_, rfl⟩ (.cons hr0 (.cons h1 (.cons ⟨_, rfl⟩ (.cons hr1 .nil)))))) (fun g hg => by cases hg) rfl w
    · by_cases ho : f1 = 4607182418800017408
      · subst ho; exact Sx.lem_true_pre k0_2o_ok rfl rfl [.float .f64 f0, .string s0, .int .i64 r0, .string s1, .int .i64 r1] (.cons ⟨_, rfl⟩ (.cons ⟨_, rfl⟩ (.cons hr0 (.cons ⟨_, rfl⟩ (.cons hr1 .nil))))) (fun g hg => by cases hg) rfl w
      · have h1 : Sx.hasTy (.float .f64 f1) .num ∧ f1 ≠ 4607182418800017408 := ⟨hf, ho⟩; exact Sx.lem_true_pre k0_2_ok rfl rfl [.float .f64 f0, .string s0, .int .i64 r0, .float .f64 f1, .string s1, .int .i64 r1] (.cons ⟨_, rfl⟩ (.cons ⟨_, rfl⟩ (.cons hr0 (.cons h1.1 (.cons ⟨_, rfl⟩ (.cons hr1 .nil)))))) (fun g hg z hz => by obtain rfl := List.mem_singleton.1 hg; exact Sx.notOne_ok (c := c0_2) (n := 3) rfl b1 h1.2 z hz) rfl w
  · rcases Sx.float_cases f1 with hf | hf
    · have h1 : Sx.hasTy (.float .f64 f1) .nan := hf; exact Sx.lem_true_pre k0_3n_ok rfl rfl [.float .f64 f0, .string s0, .int .i64 r0, .float .f64 f1, .string s1, .int .i64 r1] (.cons ⟨_, rfl⟩ (.cons ⟨_, rfl⟩ (.cons hr0 (.cons h1 (.cons ⟨_, rfl⟩ (.cons hr1 .nil)))))) (fun g hg => by cases hg) rfl w
    · have h1 : Sx.hasTy (.float .f64 f1) .num ∧ True := ⟨hf, trivial⟩; exact Sx.lem_true_pre k0_3_ok rfl rfl [.float .f64 f0, .string s0, .int .i64 r0, .float .f64 f1, .string s1, .int .i64 r1] (.cons ⟨_, rfl⟩ (.cons ⟨_, rfl⟩ (.cons hr0 (.cons h1.1 (.cons ⟨_, rfl⟩ (.cons hr1 .nil)))))) (fun g hg => by cases hg) rfl w
  · have h1 : True := trivial; exact Sx.lem_true_pre k0_4_ok rfl rfl [.float .f64 f0, .string s0, .int .i64 r0, .float .f64 f1, .string s1, .int .i64 r1] (.cons ⟨_, rfl⟩ (.cons ⟨_, rfl⟩ (.cons hr0 (.cons ⟨_, rfl⟩ (.cons ⟨_, rfl⟩ (.cons hr1 .nil)))))) (fun g hg => by cases hg) rfl w
  · have h1 : True := trivial; exact Sx.lem_true_pre k0_5_ok rfl rfl [.float .f64 f0, .string s0, .int .i64 r0, .float .f64 f1, .string s1, .int .i64 r1] (.cons ⟨_, rfl⟩ (.cons ⟨_, rfl⟩ (.cons hr0 (.cons ⟨_, rfl⟩ (.cons ⟨_, rfl⟩ (.cons hr1 .nil)))))) (fun g hg => by cases hg) rfl w
  · have h1 : True := trivial; exact Sx.lem_true_pre k0_6_ok rfl rfl [.float .f64 f0, .string s0, .int .i64 r0, .float .f64 f1, .string s1, .int .i64 r1] (.cons ⟨_, rfl⟩ (.cons ⟨_, rfl⟩ (.cons hr0 (.cons ⟨_, rfl⟩ (.cons ⟨_, rfl⟩ (.cons hr1 .nil)))))) (fun g hg => by cases hg) rfl w
  · have h1 : True := trivial; exact Sx.lem_true_pre k0_7_ok rfl rfl [.float .f64 f0, .string s0, .int .i64 r0, .float .f64 f1, .string s1, .int .i64 r1] (.cons ⟨_, rfl⟩ (.cons ⟨_, rfl⟩ (.cons hr0 (.cons ⟨_, rfl⟩ (.cons ⟨_, rfl⟩ (.cons hr1 .nil)))))) (fun g hg => by cases hg) rfl w
  · have h1 : True := trivial; exact Sx.lem_true_pre k0_8_ok rfl rfl [.float .f64 f0, .string s0, .int .i64 r0, .float .f64 f1, .string s1, .int .i64 r1] (.cons ⟨_, rfl⟩ (.cons ⟨_, rfl⟩ (.cons hr0 (.cons ⟨_, rfl⟩ (.cons ⟨_, rfl⟩ (.cons hr1 .nil)))))) (fun g hg => by cases hg) rfl w
  · have h1 : 9 ≤ k1 ∧ k1 ≤ 255 := ⟨h91, by omega⟩; exact Sx.lem_true_pre k0_9_ok rfl rfl [.float .f64 f0, .string s0, .int .i64 r0, .float .f64 f1, .string s1, .int .i64 r1, .int .u8 k1] (.cons ⟨_, rfl⟩ (.cons ⟨_, rfl⟩ (.cons hr0 (.cons ⟨_, rfl⟩ (.cons ⟨_, rfl⟩ (.cons hr1 (.cons ⟨_, rfl, h1.1, fun _ e => by cases e; exact h1.2⟩ .nil))))))) (fun g hg => by cases hg) rfl w
open Sx in
noncomputable abbrev c1_2 := cfgB baseRead (sumL [(16, lemsX c0 [alive]), (23, lemsX c0 mays), (8, lemsX c1 [e0_1, e1_0, e1_1, e1_2, e1_2o, e1_3, e1_3n, e1_4, e1_5, e1_6, e1_7, e1_8, e2_1, e2o_1, e3_1, e3n_1, e4_1, e5_1, e6_1, e7_1, e8_1])]) fun _ => none
open Sx in
instance sok1_2 (F : Wd) : SOk c1_2 F := sumL_ok (c := c1_2) rfl (fun x hx => by
  simp only [List.mem_cons, List.not_mem_nil, or_false] at hx
  rcases hx with rfl | rfl | rfl
  · exact TrOk.cfg (c := c0) (c' := c1_2) rfl rfl (lemsX_tr (fun L hL => by simp only [List.mem_singleton] at hL; subst hL; exact alive_ok))
  · exact TrOk.cfg (c := c0) (c' := c1_2) rfl rfl (lemsX_tr mays_ok)
  · refine TrOk.cfg (c := c1) (c' := c1_2) rfl rfl (lemsX_tr (fun L hL => ?_))
    simp only [List.mem_cons, List.not_mem_nil, or_false] at hL
    rcases hL with rfl | rfl | rfl | rfl | rfl | rfl | rfl | rfl | rfl | rfl | rfl | rfl | rfl | rfl | rfl | rfl | rfl | rfl | rfl | rfl | rfl
    · exact e0_1_ok
    · exact e1_0_ok
    · exact e1_1_ok
    · exact e1_2_ok
    · exact e1_2o_ok
    · exact e1_3_ok
    · exact e1_3n_ok
    · exact e1_4_ok
    · exact e1_5_ok
    · exact e1_6_ok
    · exact e1_7_ok
    · exact e1_8_ok
    · exact e2_1_ok
    · exact e2o_1_ok
    · exact e3_1_ok
    · exact e3n_1_ok
    · exact e4_1_ok
    · exact e5_1_ok
    · exact e6_1_ok
    · exact e7_1_ok
    · exact e8_1_ok
  )
open Sx in
noncomputable def k1_0 : Lem := ⟨[.f64, .str, fullTy .i64, .f64, .str, fullTy .i64], [], [], [(.agg (.cons (.k (.int .u8 1)) (.cons (.var 0) (.cons (.var 1) (.cons (.var 2) .nil))))), (.agg (.cons (.k (.int .u8 0)) (.cons (.var 3) (.cons (.var 4) (.cons (.var 5) .nil)))))], [⟨[], [], (.k (.bool true))⟩]⟩
open Sx in
set_option maxRecDepth 100000 in
theorem k1_0_ok : LemOk c1_2 7 k1_0 := lem_of_run (n := 200) (by kernel_rfl)
open Sx in
noncomputable def k1_1 : Lem := ⟨[.f64, .str, fullTy .i64, .f64, .str, fullTy .i64], [], [], [(.agg (.cons (.k (.int .u8 1)) (.cons (.var 0) (.cons (.var 1) (.cons (.var 2) .nil))))), (.agg (.cons (.k (.int .u8 1)) (.cons (.var 3) (.cons (.var 4) (.cons (.var 5) .nil)))))], [⟨[], [], (.k (.bool true))⟩]⟩
open Sx in
set_option maxRecDepth 100000 in
theorem k1_1_ok : LemOk c1_2 7 k1_1 := lem_of_run (n := 200) (by kernel_rfl)
open Sx in
noncomputable def k1_2n : Lem := ⟨[.f64, .str, fullTy .i64, .nan, .str, fullTy .i64], [], [], [(.agg (.cons (.k (.int .u8 1)) (.cons (.var 0) (.cons (.var 1) (.cons (.var 2) .nil))))), (.agg (.cons (.k (.int .u8 2)) (.cons (.var 3) (.cons (.var 4) (.cons (.var 5) .nil)))))], [⟨[], [], (.k (.bool true))⟩]⟩
open Sx in
set_option maxRecDepth 100000 in
theorem k1_2n_ok : LemOk c1_2 7 k1_2n := lem_of_run (n := 200) (by kernel_rfl)
open Sx in
noncomputable def k1_2o : Lem := ⟨[.f64, .str, fullTy .i64, .str, fullTy .i64], [], [], [(.agg (.cons (.k (.int .u8 1)) (.cons (.var 0) (.cons (.var 1) (.cons (.var 2) .nil))))), (.agg (.cons (.k (.int .u8 2)) (.cons (.k (.float .f64 4607182418800017408)) (.cons (.var 3) (.cons (.var 4) .nil)))))], [⟨[], [], (.k (.bool true))⟩]⟩
open Sx in
set_option maxRecDepth 100000 in
theorem k1_2o_ok : LemOk c1_2 7 k1_2o := lem_of_run (n := 200) (by kernel_rfl)
open Sx in
noncomputable def k1_2 : Lem := ⟨[.f64, .str, fullTy .i64, .num, .str, fullTy .i64], [], [((.prim (.bin .eql 0 false) (.cons (.var 3) (.cons (.k (.float .f64 4607182418800017408)) .nil))), false)], [(.agg (.cons (.k (.int .u8 1)) (.cons (.var 0) (.cons (.var 1) (.cons (.var 2) .nil))))), (.agg (.cons (.k (.int .u8 2)) (.cons (.var 3) (.cons (.var 4) (.cons (.var 5) .nil)))))], [⟨[], [], (.k (.bool true))⟩]⟩
open Sx in
set_option maxRecDepth 100000 in
theorem k1_2_ok : LemOk c1_2 7 k1_2 := lem_of_run (n := 200) (by kernel_rfl)
open Sx in
noncomputable def k1_3n : Lem := ⟨[.f64, .str, fullTy .i64, .nan, .str, fullTy .i64], [], [], [(.agg (.cons (.k (.int .u8 1)) (.cons (.var 0) (.cons (.var 1) (.cons (.var 2) .nil))))), (.agg (.cons (.k (.int .u8 3)) (.cons (.var 3) (.cons (.var 4) (.cons (.var 5) .nil)))))], [⟨[], [], (.k (.bool true))⟩]⟩
open Sx in
set_option maxRecDepth 100000 in
theorem k1_3n_ok : LemOk c1_2 7 k1_3n := lem_of_run (n := 200) (by kernel_rfl)
open Sx in
noncomputable def k1_3 : Lem := ⟨[.f64, .str, fullTy .i64, .num, .str, fullTy .i64], [], [], [(.agg (.cons (.k (.int .u8 1)) (.cons (.var 0) (.cons (.var 1) (.cons (.var 2) .nil))))), (.agg (.cons (.k (.int .u8 3)) (.cons (.var 3) (.cons (.var 4) (.cons (.var 5) .nil)))))], [⟨[], [], (.k (.bool true))⟩]⟩
open Sx in
set_option maxRecDepth 100000 in
theorem k1_3_ok : LemOk c1_2 7 k1_3 := lem_of_run (n := 200) (by kernel_rfl)
open Sx in
noncomputable def k1_4 : Lem := ⟨[.f64, .str, fullTy .i64, .f64, .str, fullTy .i64], [], [], [(.agg (.cons (.k (.int .u8 1)) (.cons (.var 0) (.cons (.var 1) (.cons (.var 2) .nil))))), (.agg (.cons (.k (.int .u8 4)) (.cons (.var 3) (.cons (.var 4) (.cons (.var 5) .nil)))))], [⟨[], [], (.k (.bool true))⟩]⟩
open Sx in
set_option maxRecDepth 100000 in
theorem k1_4_ok : LemOk c1_2 7 k1_4 := lem_of_run (n := 200) (by kernel_rfl)
open Sx in
noncomputable def k1_5 : Lem := ⟨[.f64, .str, fullTy .i64, .f64, .str, fullTy .i64], [], [], [(.agg (.cons (.k (.int .u8 1)) (.cons (.var 0) (.cons (.var 1) (.cons (.var 2) .nil))))), (.agg (.cons (.k (.int .u8 5)) (.cons (.var 3) (.cons (.var 4) (.cons (.var 5) .nil)))))], [⟨[], [], (.k (.bool true))⟩]⟩
open Sx in
set_option maxRecDepth 100000 in
theorem k1_5_ok : LemOk c1_2 7 k1_5 := lem_of_run (n := 200) (by kernel_rfl)
open Sx in
noncomputable def k1_6 : Lem := ⟨[.f64, .str, fullTy .i64, .f64, .str, fullTy .i64], [], [], [(.agg (.cons (.k (.int .u8 1)) (.cons (.var 0) (.cons (.var 1) (.cons (.var 2) .nil))))), (.agg (.cons (.k (.int .u8 6)) (.cons (.var 3) (.cons (.var 4) (.cons (.var 5) .nil)))))], [⟨[], [], (.k (.bool true))⟩]⟩
open Sx in
set_option maxRecDepth 100000 in
theorem k1_6_ok : LemOk c1_2 7 k1_6 := lem_of_run (n := 200) (by kernel_rfl)
open Sx in
noncomputable def k1_7 : Lem := ⟨[.f64, .str, fullTy .i64, .f64, .str, fullTy .i64], [], [], [(.agg (.cons (.k (.int .u8 1)) (.cons (.var 0) (.cons (.var 1) (.cons (.var 2) .nil))))), (.agg (.cons (.k (.int .u8 7)) (.cons (.var 3) (.cons (.var 4) (.cons (.var 5) .nil)))))], [⟨[], [], (.k (.bool true))⟩]⟩
open Sx in
set_option maxRecDepth 100000 in
theorem k1_7_ok : LemOk c1_2 7 k1_7 := lem_of_run (n := 200) (by kernel_rfl)
open Sx in
noncomputable def k1_8 : Lem := ⟨[.f64, .str, fullTy .i64, .f64, .str, fullTy .i64], [], [], [(.agg (.cons (.k (.int .u8 1)) (.cons (.var 0) (.cons (.var 1) (.cons (.var 2) .nil))))), (.agg (.cons (.k (.int .u8 8)) (.cons (.var 3) (.cons (.var 4) (.cons (.var 5) .nil)))))], [⟨[], [], (.k (.bool true))⟩]⟩
open Sx in
set_option maxRecDepth 100000 in
theorem k1_8_ok : LemOk c1_2 7 k1_8 := lem_of_run (n := 200) (by kernel_rfl)
open Sx in
noncomputable def k1_9 : Lem := ⟨[.f64, .str, fullTy .i64, .f64, .str, fullTy .i64, (.int .u8 9 (some 255))], [], [], [(.agg (.cons (.k (.int .u8 1)) (.cons (.var 0) (.cons (.var 1) (.cons (.var 2) .nil))))), (.agg (.cons (.var 6) (.cons (.var 3) (.cons (.var 4) (.cons (.var 5) .nil)))))], [⟨[], [], (.k (.bool true))⟩]⟩
open Sx in
set_option maxRecDepth 100000 in
theorem k1_9_ok : LemOk c1_2 7 k1_9 := lem_of_run (n := 200) (by kernel_rfl)
theorem row1 (f0 : Nat) (s0 : ByteArray) (r0 : Int) (k1 : Int) (f1 : Nat) (s1 : ByteArray) (r1 : Int) (hr0 : Sx.hasTy (.int .i64 r0) (Sx.fullTy .i64)) (hr1 : Sx.hasTy (.int .i64 r1) (Sx.fullTy .i64)) (l1 : 0 ≤ k1) (u1 : k1 ≤ 255) (b0 : f0 < 2 ^ 64) (b1 : f1 < 2 ^ 64)
    (h0 : True) (w : World) :
    Calls Tryz.prog 7 #[.agg #[.int .u8 1, .float .f64 f0, .string s0, .int .i64 r0], .agg #[.int .u8 k1, .float .f64 f1, .string s1, .int .i64 r1]] w fun e w' => e = .returned (.bool true) ∧ Below w.heap.size w w' := by
  have q1 : k1 = 0 ∨ k1 = 1 ∨ k1 = 2 ∨ k1 = 3 ∨ k1 = 4 ∨ k1 = 5 ∨ k1 = 6 ∨ k1 = 7 ∨ k1 = 8 ∨ 9 ≤ k1 := by omega
  rcases q1 with rfl | rfl | rfl | rfl | rfl | rfl | rfl | rfl | rfl | h91
  · have h1 : True := trivial; exact Sx.lem_true_pre k1_0_ok rfl rfl [.float .f64 f0, .string s0, .int .i64 r0, .float .f64 f1, .string s1, .int .i64 r1] (.cons ⟨_, rfl⟩ (.cons ⟨_, rfl⟩ (.cons hr0 (.cons ⟨_, rfl⟩ (.cons ⟨_, rfl⟩ (.cons hr1 .nil)))))) (fun g hg => by cases hg) rfl w
  · have h1 : True := trivial; exact Sx.lem_true_pre k1_1_ok rfl rfl [.float .f64 f0, .string s0, .int .i64 r0, .float .f64 f1, .string s1, .int .i64 r1] (.cons ⟨_, rfl⟩ (.cons ⟨_, rfl⟩ (.cons hr0 (.cons ⟨_, rfl⟩ (.cons ⟨_, rfl⟩ (.cons hr1 .nil)))))) (fun g hg => by cases hg) rfl w
  · rcases Sx.float_cases f1 with hf | hf
    · have h1 : Sx.hasTy (.float .f64 f1) .nan := hf; exact Sx.lem_true_pre k1_2n_ok rfl rfl [.float .f64 f0, .string s0, .int .i64 r0, .float .f64 f1, .string s1, .int .i64 r1] (.cons ⟨_, rfl⟩ (.cons ⟨_, rfl⟩ (.cons hr0 (.cons h1 (.cons ⟨_, rfl⟩ (.cons hr1 .nil)))))) (fun g hg => by cases hg) rfl w
    · by_cases ho : f1 = 4607182418800017408
      · subst ho; exact Sx.lem_true_pre k1_2o_ok rfl rfl [.float .f64 f0, .string s0, .int .i64 r0, .string s1, .int .i64 r1] (.cons ⟨_, rfl⟩ (.cons ⟨_, rfl⟩ (.cons hr0 (.cons ⟨_, rfl⟩ (.cons hr1 .nil))))) (fun g hg => by cases hg) rfl w
      · have h1 : Sx.hasTy (.float .f64 f1) .num ∧ f1 ≠ 4607182418800017408 := ⟨hf, ho⟩; exact Sx.lem_true_pre k1_2_ok rfl rfl [.float .f64 f0, .string s0, .int .i64 r0, .float .f64 f1, .string s1, .int .i64 r1] (.cons ⟨_, rfl⟩ (.cons ⟨_, rfl⟩ (.cons hr0 (.cons h1.1 (.cons ⟨_, rfl⟩ (.cons hr1 .nil)))))) (fun g hg z hz => by obtain rfl := List.mem_singleton.1 hg; exact Sx.notOne_ok (c := c1_2) (n := 3) rfl b1 h1.2 z hz) rfl w
  · rcases Sx.float_cases f1 with hf | hf
    · have h1 : Sx.hasTy (.float .f64 f1) .nan := hf; exact Sx.lem_true_pre k1_3n_ok rfl rfl [.float .f64 f0, .string s0, .int .i64 r0, .float .f64 f1, .string s1, .int .i64 r1] (.cons ⟨_, rfl⟩ (.cons ⟨_, rfl⟩ (.cons hr0 (.cons h1 (.cons ⟨_, rfl⟩ (.cons hr1 .nil)))))) (fun g hg => by cases hg) rfl w
    · have h1 : Sx.hasTy (.float .f64 f1) .num ∧ True := ⟨hf, trivial⟩; exact Sx.lem_true_pre k1_3_ok rfl rfl [.float .f64 f0, .string s0, .int .i64 r0, .float .f64 f1, .string s1, .int .i64 r1] (.cons ⟨_, rfl⟩ (.cons ⟨_, rfl⟩ (.cons hr0 (.cons h1.1 (.cons ⟨_, rfl⟩ (.cons hr1 .nil)))))) (fun g hg => by cases hg) rfl w
  · have h1 : True := trivial; exact Sx.lem_true_pre k1_4_ok rfl rfl [.float .f64 f0, .string s0, .int .i64 r0, .float .f64 f1, .string s1, .int .i64 r1] (.cons ⟨_, rfl⟩ (.cons ⟨_, rfl⟩ (.cons hr0 (.cons ⟨_, rfl⟩ (.cons ⟨_, rfl⟩ (.cons hr1 .nil)))))) (fun g hg => by cases hg) rfl w
  · have h1 : True := trivial; exact Sx.lem_true_pre k1_5_ok rfl rfl [.float .f64 f0, .string s0, .int .i64 r0, .float .f64 f1, .string s1, .int .i64 r1] (.cons ⟨_, rfl⟩ (.cons ⟨_, rfl⟩ (.cons hr0 (.cons ⟨_, rfl⟩ (.cons ⟨_, rfl⟩ (.cons hr1 .nil)))))) (fun g hg => by cases hg) rfl w
  · have h1 : True := trivial; exact Sx.lem_true_pre k1_6_ok rfl rfl [.float .f64 f0, .string s0, .int .i64 r0, .float .f64 f1, .string s1, .int .i64 r1] (.cons ⟨_, rfl⟩ (.cons ⟨_, rfl⟩ (.cons hr0 (.cons ⟨_, rfl⟩ (.cons ⟨_, rfl⟩ (.cons hr1 .nil)))))) (fun g hg => by cases hg) rfl w
  · have h1 : True := trivial; exact Sx.lem_true_pre k1_7_ok rfl rfl [.float .f64 f0, .string s0, .int .i64 r0, .float .f64 f1, .string s1, .int .i64 r1] (.cons ⟨_, rfl⟩ (.cons ⟨_, rfl⟩ (.cons hr0 (.cons ⟨_, rfl⟩ (.cons ⟨_, rfl⟩ (.cons hr1 .nil)))))) (fun g hg => by cases hg) rfl w
  · have h1 : True := trivial; exact Sx.lem_true_pre k1_8_ok rfl rfl [.float .f64 f0, .string s0, .int .i64 r0, .float .f64 f1, .string s1, .int .i64 r1] (.cons ⟨_, rfl⟩ (.cons ⟨_, rfl⟩ (.cons hr0 (.cons ⟨_, rfl⟩ (.cons ⟨_, rfl⟩ (.cons hr1 .nil)))))) (fun g hg => by cases hg) rfl w
  · have h1 : 9 ≤ k1 ∧ k1 ≤ 255 := ⟨h91, by omega⟩; exact Sx.lem_true_pre k1_9_ok rfl rfl [.float .f64 f0, .string s0, .int .i64 r0, .float .f64 f1, .string s1, .int .i64 r1, .int .u8 k1] (.cons ⟨_, rfl⟩ (.cons ⟨_, rfl⟩ (.cons hr0 (.cons ⟨_, rfl⟩ (.cons ⟨_, rfl⟩ (.cons hr1 (.cons ⟨_, rfl, h1.1, fun _ e => by cases e; exact h1.2⟩ .nil))))))) (fun g hg => by cases hg) rfl w
end Go.Proofs.YtobghgfmdjknlaaGreat.coerceLike
