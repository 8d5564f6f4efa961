/- CoerceLike: the law where the first value is of one kind: each pair a form, and the row. -/
import Derived.Test.YtobghgfmdjknlaaGreatSxLaw
import Derived.Test.YtobghgfmdjknlaaGreatCoerceLikeE0
import Derived.Test.YtobghgfmdjknlaaGreatCoerceLikeE1
import Derived.Test.YtobghgfmdjknlaaGreatCoerceLikeE2
import Derived.Test.YtobghgfmdjknlaaGreatCoerceLikeE3
import Derived.Test.YtobghgfmdjknlaaGreatCoerceLikeE4
namespace Go.Proofs.YtobghgfmdjknlaaGreat.coerceLike
open Go Go.RowKit
set_option linter.unusedVariables false
open Sx in
noncomputable abbrev c4_2 := cfgB baseRead (sumL [(16, lemsX c0 [alive]), (23, lemsX c0 mays), (8, lemsX c1 [e0_4, e1_4, e2_4, e2o_4, e3_4, e3n_4, e4_0, e4_1, e4_2, e4_2o, e4_3, e4_3n, e4_4, e4_5, e4_6, e4_7, e4_8, e5_4, e6_4, e7_4, e8_4])]) fun _ => none
open Sx in
instance sok4_2 (F : Wd) : SOk c4_2 F := sumL_ok (c := c4_2) rfl (fun x hx => by
  simp only [List.mem_cons, List.not_mem_nil, or_false] at hx
  rcases hx with rfl | rfl | rfl
  · exact TrOk.cfg (c := c0) (c' := c4_2) rfl rfl (lemsX_tr (fun L hL => by simp only [List.mem_singleton] at hL; subst hL; exact alive_ok))
  · exact TrOk.cfg (c := c0) (c' := c4_2) rfl rfl (lemsX_tr mays_ok)
  · refine TrOk.cfg (c := c1) (c' := c4_2) rfl rfl (lemsX_tr (fun L hL => ?_))
    simp only [List.mem_cons, List.not_mem_nil, or_false] at hL
    rcases hL with rfl | rfl | rfl | rfl | rfl | rfl | rfl | rfl | rfl | rfl | rfl | rfl | rfl | rfl | rfl | rfl | rfl | rfl | rfl | rfl | rfl
    · exact e0_4_ok
    · exact e1_4_ok
    · exact e2_4_ok
    · exact e2o_4_ok
    · exact e3_4_ok
    · exact e3n_4_ok
    · exact e4_0_ok
    · exact e4_1_ok
    · exact e4_2_ok
    · exact e4_2o_ok
    · exact e4_3_ok
    · exact e4_3n_ok
    · exact e4_4_ok
    · exact e4_5_ok
    · exact e4_6_ok
    · exact e4_7_ok
    · exact e4_8_ok
    · exact e5_4_ok
    · exact e6_4_ok
    · exact e7_4_ok
    · exact e8_4_ok
  )
open Sx in
noncomputable def k4_0 : Lem := ⟨[.f64, .str, fullTy .i64, .f64, .str, fullTy .i64], [], [], [(.agg (.cons (.k (.int .u8 4)) (.cons (.var 0) (.cons (.var 1) (.cons (.var 2) .nil))))), (.agg (.cons (.k (.int .u8 0)) (.cons (.var 3) (.cons (.var 4) (.cons (.var 5) .nil)))))], [⟨[], [], (.k (.bool true))⟩]⟩
open Sx in
set_option maxRecDepth 100000 in
theorem k4_0_ok : LemOk c4_2 7 k4_0 := lem_of_run (n := 200) (by kernel_rfl)
open Sx in
noncomputable def k4_1 : Lem := ⟨[.f64, .str, fullTy .i64, .f64, .str, fullTy .i64], [], [], [(.agg (.cons (.k (.int .u8 4)) (.cons (.var 0) (.cons (.var 1) (.cons (.var 2) .nil))))), (.agg (.cons (.k (.int .u8 1)) (.cons (.var 3) (.cons (.var 4) (.cons (.var 5) .nil)))))], [⟨[], [], (.k (.bool true))⟩]⟩
open Sx in
set_option maxRecDepth 100000 in
theorem k4_1_ok : LemOk c4_2 7 k4_1 := lem_of_run (n := 200) (by kernel_rfl)
open Sx in
noncomputable def k4_2n : Lem := ⟨[.f64, .str, fullTy .i64, .nan, .str, fullTy .i64], [], [], [(.agg (.cons (.k (.int .u8 4)) (.cons (.var 0) (.cons (.var 1) (.cons (.var 2) .nil))))), (.agg (.cons (.k (.int .u8 2)) (.cons (.var 3) (.cons (.var 4) (.cons (.var 5) .nil)))))], [⟨[], [], (.k (.bool true))⟩]⟩
open Sx in
set_option maxRecDepth 100000 in
theorem k4_2n_ok : LemOk c4_2 7 k4_2n := lem_of_run (n := 200) (by kernel_rfl)
open Sx in
noncomputable def k4_2o : Lem := ⟨[.f64, .str, fullTy .i64, .str, fullTy .i64], [], [], [(.agg (.cons (.k (.int .u8 4)) (.cons (.var 0) (.cons (.var 1) (.cons (.var 2) .nil))))), (.agg (.cons (.k (.int .u8 2)) (.cons (.k (.float .f64 4607182418800017408)) (.cons (.var 3) (.cons (.var 4) .nil)))))], [⟨[], [], (.k (.bool true))⟩]⟩
open Sx in
set_option maxRecDepth 100000 in
theorem k4_2o_ok : LemOk c4_2 7 k4_2o := lem_of_run (n := 200) (by kernel_rfl)
open Sx in
noncomputable def k4_2 : Lem := ⟨[.f64, .str, fullTy .i64, .num, .str, fullTy .i64], [], [((.prim (.bin .eql 0 false) (.cons (.var 3) (.cons (.k (.float .f64 4607182418800017408)) .nil))), false)], [(.agg (.cons (.k (.int .u8 4)) (.cons (.var 0) (.cons (.var 1) (.cons (.var 2) .nil))))), (.agg (.cons (.k (.int .u8 2)) (.cons (.var 3) (.cons (.var 4) (.cons (.var 5) .nil)))))], [⟨[], [], (.k (.bool true))⟩]⟩
open Sx in
set_option maxRecDepth 100000 in
theorem k4_2_ok : LemOk c4_2 7 k4_2 := lem_of_run (n := 200) (by kernel_rfl)
open Sx in
noncomputable def k4_3n : Lem := ⟨[.f64, .str, fullTy .i64, .nan, .str, fullTy .i64], [], [], [(.agg (.cons (.k (.int .u8 4)) (.cons (.var 0) (.cons (.var 1) (.cons (.var 2) .nil))))), (.agg (.cons (.k (.int .u8 3)) (.cons (.var 3) (.cons (.var 4) (.cons (.var 5) .nil)))))], [⟨[], [], (.k (.bool true))⟩]⟩
open Sx in
set_option maxRecDepth 100000 in
theorem k4_3n_ok : LemOk c4_2 7 k4_3n := lem_of_run (n := 200) (by kernel_rfl)
open Sx in
noncomputable def k4_3 : Lem := ⟨[.f64, .str, fullTy .i64, .num, .str, fullTy .i64], [], [], [(.agg (.cons (.k (.int .u8 4)) (.cons (.var 0) (.cons (.var 1) (.cons (.var 2) .nil))))), (.agg (.cons (.k (.int .u8 3)) (.cons (.var 3) (.cons (.var 4) (.cons (.var 5) .nil)))))], [⟨[], [], (.k (.bool true))⟩]⟩
open Sx in
set_option maxRecDepth 100000 in
theorem k4_3_ok : LemOk c4_2 7 k4_3 := lem_of_run (n := 200) (by kernel_rfl)
open Sx in
noncomputable def k4_4 : Lem := ⟨[.f64, .str, fullTy .i64, .f64, .str, fullTy .i64], [], [], [(.agg (.cons (.k (.int .u8 4)) (.cons (.var 0) (.cons (.var 1) (.cons (.var 2) .nil))))), (.agg (.cons (.k (.int .u8 4)) (.cons (.var 3) (.cons (.var 4) (.cons (.var 5) .nil)))))], [⟨[], [], (.k (.bool true))⟩]⟩
open Sx in
set_option maxRecDepth 100000 in
theorem k4_4_ok : LemOk c4_2 7 k4_4 := lem_of_run (n := 200) (by kernel_rfl)
open Sx in
noncomputable def k4_5 : Lem := ⟨[.f64, .str, fullTy .i64, .f64, .str, fullTy .i64], [], [], [(.agg (.cons (.k (.int .u8 4)) (.cons (.var 0) (.cons (.var 1) (.cons (.var 2) .nil))))), (.agg (.cons (.k (.int .u8 5)) (.cons (.var 3) (.cons (.var 4) (.cons (.var 5) .nil)))))], [⟨[], [], (.k (.bool true))⟩]⟩
open Sx in
set_option maxRecDepth 100000 in
theorem k4_5_ok : LemOk c4_2 7 k4_5 := lem_of_run (n := 200) (by kernel_rfl)
open Sx in
noncomputable def k4_6 : Lem := ⟨[.f64, .str, fullTy .i64, .f64, .str, fullTy .i64], [], [], [(.agg (.cons (.k (.int .u8 4)) (.cons (.var 0) (.cons (.var 1) (.cons (.var 2) .nil))))), (.agg (.cons (.k (.int .u8 6)) (.cons (.var 3) (.cons (.var 4) (.cons (.var 5) .nil)))))], [⟨[], [], (.k (.bool true))⟩]⟩
open Sx in
set_option maxRecDepth 100000 in
theorem k4_6_ok : LemOk c4_2 7 k4_6 := lem_of_run (n := 200) (by kernel_rfl)
open Sx in
noncomputable def k4_7 : Lem := ⟨[.f64, .str, fullTy .i64, .f64, .str, fullTy .i64], [], [], [(.agg (.cons (.k (.int .u8 4)) (.cons (.var 0) (.cons (.var 1) (.cons (.var 2) .nil))))), (.agg (.cons (.k (.int .u8 7)) (.cons (.var 3) (.cons (.var 4) (.cons (.var 5) .nil)))))], [⟨[], [], (.k (.bool true))⟩]⟩
open Sx in
set_option maxRecDepth 100000 in
theorem k4_7_ok : LemOk c4_2 7 k4_7 := lem_of_run (n := 200) (by kernel_rfl)
open Sx in
noncomputable def k4_8 : Lem := ⟨[.f64, .str, fullTy .i64, .f64, .str, fullTy .i64], [], [], [(.agg (.cons (.k (.int .u8 4)) (.cons (.var 0) (.cons (.var 1) (.cons (.var 2) .nil))))), (.agg (.cons (.k (.int .u8 8)) (.cons (.var 3) (.cons (.var 4) (.cons (.var 5) .nil)))))], [⟨[], [], (.k (.bool true))⟩]⟩
open Sx in
set_option maxRecDepth 100000 in
theorem k4_8_ok : LemOk c4_2 7 k4_8 := lem_of_run (n := 200) (by kernel_rfl)
open Sx in
noncomputable def k4_9 : Lem := ⟨[.f64, .str, fullTy .i64, .f64, .str, fullTy .i64, (.int .u8 9 (some 255))], [], [], [(.agg (.cons (.k (.int .u8 4)) (.cons (.var 0) (.cons (.var 1) (.cons (.var 2) .nil))))), (.agg (.cons (.var 6) (.cons (.var 3) (.cons (.var 4) (.cons (.var 5) .nil)))))], [⟨[], [], (.k (.bool true))⟩]⟩
open Sx in
set_option maxRecDepth 100000 in
theorem k4_9_ok : LemOk c4_2 7 k4_9 := lem_of_run (n := 200) (by kernel_rfl)
theorem row4 (f0 : Nat) (s0 : ByteArray) (r0 : Int) (k1 : Int) (f1 : Nat) (s1 : ByteArray) (r1 : Int) (hr0 : Sx.hasTy (.int .i64 r0) (Sx.fullTy .i64)) (hr1 : Sx.hasTy (.int .i64 r1) (Sx.fullTy .i64)) (l1 : 0 ≤ k1) (u1 : k1 ≤ 255) (b0 : f0 < 2 ^ 64) (b1 : f1 < 2 ^ 64)
    (h0 : True) (w : World) :
    Calls Tryz.prog 7 #[.agg #[.int .u8 4, .float .f64 f0, .string s0, .int .i64 r0], .agg #[.int .u8 k1, .float .f64 f1, .string s1, .int .i64 r1]] w fun e w' => e = .returned (.bool true) ∧ Below w.heap.size w w' := by
  have q1 : k1 = 0 ∨ k1 = 1 ∨ k1 = 2 ∨ k1 = 3 ∨ k1 = 4 ∨ k1 = 5 ∨ k1 = 6 ∨ k1 = 7 ∨ k1 = 8 ∨ 9 ≤ k1 := by omega
  rcases q1 with rfl | rfl | rfl | rfl | rfl | rfl | rfl | rfl | rfl | h91
  · have h1 : True := trivial; exact Sx.lem_true_pre k4_0_ok rfl rfl [.float .f64 f0, .string s0, .int .i64 r0, .float .f64 f1, .string s1, .int .i64 r1] (.cons ⟨_, rfl⟩ (.cons ⟨_, rfl⟩ (.cons hr0 (.cons ⟨_, rfl⟩ (.cons ⟨_, rfl⟩ (.cons hr1 .nil)))))) (fun g hg => by cases hg) rfl w
  · have h1 : True := trivial; exact Sx.lem_true_pre k4_1_ok rfl rfl [.float .f64 f0, .string s0, .int .i64 r0, .float .f64 f1, .string s1, .int .i64 r1] (.cons ⟨_, rfl⟩ (.cons ⟨_, rfl⟩ (.cons hr0 (.cons ⟨_, rfl⟩ (.cons ⟨_, rfl⟩ (.cons hr1 .nil)))))) (fun g hg => by cases hg) rfl w
  · rcases Sx.float_cases f1 with hf | hf
    · have h1 : Sx.hasTy (.float .f64 f1) .nan := hf; exact Sx.lem_true_pre k4_2n_ok rfl rfl [.float .f64 f0, .string s0, .int .i64 r0, .float .f64 f1, .string s1, .int .i64 r1] (.cons ⟨_, rfl⟩ (.cons ⟨_, rfl⟩ (.cons hr0 (.cons h1 (.cons ⟨_, rfl⟩ (.cons hr1 .nil)))))) (fun g hg => by cases hg) rfl w
    · by_cases ho : f1 = 4607182418800017408
      · subst ho; exact Sx.lem_true_pre k4_2o_ok rfl rfl [.float .f64 f0, .string s0, .int .i64 r0, .string s1, .int .i64 r1] (.cons ⟨_, rfl⟩ (.cons ⟨_, rfl⟩ (.cons hr0 (.cons ⟨_, rfl⟩ (.cons hr1 .nil))))) (fun g hg => by cases hg) rfl w
      · have h1 : Sx.hasTy (.float .f64 f1) .num ∧ f1 ≠ 4607182418800017408 := ⟨hf, ho⟩; exact Sx.lem_true_pre k4_2_ok rfl rfl [.float .f64 f0, .string s0, .int .i64 r0, .float .f64 f1, .string s1, .int .i64 r1] (.cons ⟨_, rfl⟩ (.cons ⟨_, rfl⟩ (.cons hr0 (.cons h1.1 (.cons ⟨_, rfl⟩ (.cons hr1 .nil)))))) (fun g hg z hz => by obtain rfl := List.mem_singleton.1 hg; exact Sx.notOne_ok (c := c4_2) (n := 3) rfl b1 h1.2 z hz) rfl w
  · rcases Sx.float_cases f1 with hf | hf
    · have h1 : Sx.hasTy (.float .f64 f1) .nan := hf; exact Sx.lem_true_pre k4_3n_ok rfl rfl [.float .f64 f0, .string s0, .int .i64 r0, .float .f64 f1, .string s1, .int .i64 r1] (.cons ⟨_, rfl⟩ (.cons ⟨_, rfl⟩ (.cons hr0 (.cons h1 (.cons ⟨_, rfl⟩ (.cons hr1 .nil)))))) (fun g hg => by cases hg) rfl w
    · have h1 : Sx.hasTy (.float .f64 f1) .num ∧ True := ⟨hf, trivial⟩; exact Sx.lem_true_pre k4_3_ok rfl rfl [.float .f64 f0, .string s0, .int .i64 r0, .float .f64 f1, .string s1, .int .i64 r1] (.cons ⟨_, rfl⟩ (.cons ⟨_, rfl⟩ (.cons hr0 (.cons h1.1 (.cons ⟨_, rfl⟩ (.cons hr1 .nil)))))) (fun g hg => by cases hg) rfl w
  · have h1 : True := trivial; exact Sx.lem_true_pre k4_4_ok rfl rfl [.float .f64 f0, .string s0, .int .i64 r0, .float .f64 f1, .string s1, .int .i64 r1] (.cons ⟨_, rfl⟩ (.cons ⟨_, rfl⟩ (.cons hr0 (.cons ⟨_, rfl⟩ (.cons ⟨_, rfl⟩ (.cons hr1 .nil)))))) (fun g hg => by cases hg) rfl w
  · have h1 : True := trivial; exact Sx.lem_true_pre k4_5_ok rfl rfl [.float .f64 f0, .string s0, .int .i64 r0, .float .f64 f1, .string s1, .int .i64 r1] (.cons ⟨_, rfl⟩ (.cons ⟨_, rfl⟩ (.cons hr0 (.cons ⟨_, rfl⟩ (.cons ⟨_, rfl⟩ (.cons hr1 .nil)))))) (fun g hg => by cases hg) rfl w
  · have h1 : True := trivial; exact Sx.lem_true_pre k4_6_ok rfl rfl [.float .f64 f0, .string s0, .int .i64 r0, .float .f64 f1, .string s1, .int .i64 r1] (.cons ⟨_, rfl⟩ (.cons ⟨_, rfl⟩ (.cons hr0 (.cons ⟨_, rfl⟩ (.cons ⟨_, rfl⟩ (.cons hr1 .nil)))))) (fun g hg => by cases hg) rfl w
  · have h1 : True := trivial; exact Sx.lem_true_pre k4_7_ok rfl rfl [.float .f64 f0, .string s0, .int .i64 r0, .float .f64 f1, .string s1, .int .i64 r1] (.cons ⟨_, rfl⟩ (.cons ⟨_, rfl⟩ (.cons hr0 (.cons ⟨_, rfl⟩ (.cons ⟨_, rfl⟩ (.cons hr1 .nil)))))) (fun g hg => by cases hg) rfl w
  · have h1 : True := trivial; exact Sx.lem_true_pre k4_8_ok rfl rfl [.float .f64 f0, .string s0, .int .i64 r0, .float .f64 f1, .string s1, .int .i64 r1] (.cons ⟨_, rfl⟩ (.cons ⟨_, rfl⟩ (.cons hr0 (.cons ⟨_, rfl⟩ (.cons ⟨_, rfl⟩ (.cons hr1 .nil)))))) (fun g hg => by cases hg) rfl w
  · have h1 : 9 ≤ k1 ∧ k1 ≤ 255 := ⟨h91, by omega⟩; exact Sx.lem_true_pre k4_9_ok rfl rfl [.float .f64 f0, .string s0, .int .i64 r0, .float .f64 f1, .string s1, .int .i64 r1, .int .u8 k1] (.cons ⟨_, rfl⟩ (.cons ⟨_, rfl⟩ (.cons hr0 (.cons ⟨_, rfl⟩ (.cons ⟨_, rfl⟩ (.cons hr1 (.cons ⟨_, rfl, h1.1, fun _ e => by cases e; exact h1.2⟩ .nil))))))) (fun g hg => by cases hg) rfl w
open Sx in
noncomputable abbrev c5_2 := cfgB baseRead (sumL [(16, lemsX c0 [alive]), (23, lemsX c0 mays), (8, lemsX c1 [e0_5, e1_5, e2_5, e2o_5, e3_5, e3n_5, e4_5, e5_0, e5_1, e5_2, e5_2o, e5_3, e5_3n, e5_4, e5_5, e5_6, e5_7, e5_8, e6_5, e7_5, e8_5])]) fun _ => none
open Sx in
instance sok5_2 (F : Wd) : SOk c5_2 F := sumL_ok (c := c5_2) rfl (fun x hx => by
  simp only [List.mem_cons, List.not_mem_nil, or_false] at hx
  rcases hx with rfl | rfl | rfl
  · exact TrOk.cfg (c := c0) (c' := c5_2) rfl rfl (lemsX_tr (fun L hL => by simp only [List.mem_singleton] at hL; subst hL; exact alive_ok))
  · exact TrOk.cfg (c := c0) (c' := c5_2) rfl rfl (lemsX_tr mays_ok)
  · refine TrOk.cfg (c := c1) (c' := c5_2) rfl rfl (lemsX_tr (fun L hL => ?_))
    simp only [List.mem_cons, List.not_mem_nil, or_false] at hL
    rcases hL with rfl | rfl | rfl | rfl | rfl | rfl | rfl | rfl | rfl | rfl | rfl | rfl | rfl | rfl | rfl | rfl | rfl | rfl | rfl | rfl | rfl
    · exact e0_5_ok
    · exact e1_5_ok
    · exact e2_5_ok
    · exact e2o_5_ok
    · exact e3_5_ok
    · exact e3n_5_ok
    · exact e4_5_ok
    · exact e5_0_ok
    · exact e5_1_ok
    · exact e5_2_ok
    · exact e5_2o_ok
    · exact e5_3_ok
    · exact e5_3n_ok
    · exact e5_4_ok
    · exact e5_5_ok
    · exact e5_6_ok
    · exact e5_7_ok
    · exact e5_8_ok
    · exact e6_5_ok
    · exact e7_5_ok
    · exact e8_5_ok
  )
open Sx in
noncomputable def k5_0 : Lem := ⟨[.f64, .str, fullTy .i64, .f64, .str, fullTy .i64], [], [], [(.agg (.cons (.k (.int .u8 5)) (.cons (.var 0) (.cons (.var 1) (.cons (.var 2) .nil))))), (.agg (.cons (.k (.int .u8 0)) (.cons (.var 3) (.cons (.var 4) (.cons (.var 5) .nil)))))], [⟨[], [], (.k (.bool true))⟩]⟩
open Sx in
set_option maxRecDepth 100000 in
theorem k5_0_ok : LemOk c5_2 7 k5_0 := lem_of_run (n := 200) (by kernel_rfl)
open Sx in
noncomputable def k5_1 : Lem := ⟨[.f64, .str, fullTy .i64, .f64, .str, fullTy .i64], [], [], [(.agg (.cons (.k (.int .u8 5)) (.cons (.var 0) (.cons (.var 1) (.cons (.var 2) .nil))))), (.agg (.cons (.k (.int .u8 1)) (.cons (.var 3) (.cons (.var 4) (.cons (.var 5) .nil)))))], [⟨[], [], (.k (.bool true))⟩]⟩
open Sx in
set_option maxRecDepth 100000 in
theorem k5_1_ok : LemOk c5_2 7 k5_1 := lem_of_run (n := 200) (by kernel_rfl)
open Sx in
noncomputable def k5_2n : Lem := ⟨[.f64, .str, fullTy .i64, .nan, .str, fullTy .i64], [], [], [(.agg (.cons (.k (.int .u8 5)) (.cons (.var 0) (.cons (.var 1) (.cons (.var 2) .nil))))), (.agg (.cons (.k (.int .u8 2)) (.cons (.var 3) (.cons (.var 4) (.cons (.var 5) .nil)))))], [⟨[], [], (.k (.bool true))⟩]⟩
open Sx in
set_option maxRecDepth 100000 in
theorem k5_2n_ok : LemOk c5_2 7 k5_2n := lem_of_run (n := 200) (by kernel_rfl)
open Sx in
noncomputable def k5_2o : Lem := ⟨[.f64, .str, fullTy .i64, .str, fullTy .i64], [], [], [(.agg (.cons (.k (.int .u8 5)) (.cons (.var 0) (.cons (.var 1) (.cons (.var 2) .nil))))), (.agg (.cons (.k (.int .u8 2)) (.cons (.k (.float .f64 4607182418800017408)) (.cons (.var 3) (.cons (.var 4) .nil)))))], [⟨[], [], (.k (.bool true))⟩]⟩
open Sx in
set_option maxRecDepth 100000 in
theorem k5_2o_ok : LemOk c5_2 7 k5_2o := lem_of_run (n := 200) (by kernel_rfl)
open Sx in
noncomputable def k5_2 : Lem := ⟨[.f64, .str, fullTy .i64, .num, .str, fullTy .i64], [], [((.prim (.bin .eql 0 false) (.cons (.var 3) (.cons (.k (.float .f64 4607182418800017408)) .nil))), false)], [(.agg (.cons (.k (.int .u8 5)) (.cons (.var 0) (.cons (.var 1) (.cons (.var 2) .nil))))), (.agg (.cons (.k (.int .u8 2)) (.cons (.var 3) (.cons (.var 4) (.cons (.var 5) .nil)))))], [⟨[], [], (.k (.bool true))⟩]⟩
open Sx in
set_option maxRecDepth 100000 in
theorem k5_2_ok : LemOk c5_2 7 k5_2 := lem_of_run (n := 200) (by kernel_rfl)
open Sx in
noncomputable def k5_3n : Lem := ⟨[.f64, .str, fullTy .i64, .nan, .str, fullTy .i64], [], [], [(.agg (.cons (.k (.int .u8 5)) (.cons (.var 0) (.cons (.var 1) (.cons (.var 2) .nil))))), (.agg (.cons (.k (.int .u8 3)) (.cons (.var 3) (.cons (.var 4) (.cons (.var 5) .nil)))))], [⟨[], [], (.k (.bool true))⟩]⟩
open Sx in
set_option maxRecDepth 100000 in
theorem k5_3n_ok : LemOk c5_2 7 k5_3n := lem_of_run (n := 200) (by kernel_rfl)
open Sx in
noncomputable def k5_3 : Lem := ⟨[.f64, .str, fullTy .i64, .num, .str, fullTy .i64], [], [], [(.agg (.cons (.k (.int .u8 5)) (.cons (.var 0) (.cons (.var 1) (.cons (.var 2) .nil))))), (.agg (.cons (.k (.int .u8 3)) (.cons (.var 3) (.cons (.var 4) (.cons (.var 5) .nil)))))], [⟨[], [], (.k (.bool true))⟩]⟩
open Sx in
set_option maxRecDepth 100000 in
theorem k5_3_ok : LemOk c5_2 7 k5_3 := lem_of_run (n := 200) (by kernel_rfl)
open Sx in
noncomputable def k5_4 : Lem := ⟨[.f64, .str, fullTy .i64, .f64, .str, fullTy .i64], [], [], [(.agg (.cons (.k (.int .u8 5)) (.cons (.var 0) (.cons (.var 1) (.cons (.var 2) .nil))))), (.agg (.cons (.k (.int .u8 4)) (.cons (.var 3) (.cons (.var 4) (.cons (.var 5) .nil)))))], [⟨[], [], (.k (.bool true))⟩]⟩
open Sx in
set_option maxRecDepth 100000 in
theorem k5_4_ok : LemOk c5_2 7 k5_4 := lem_of_run (n := 200) (by kernel_rfl)
open Sx in
noncomputable def k5_5 : Lem := ⟨[.f64, .str, fullTy .i64, .f64, .str, fullTy .i64], [], [], [(.agg (.cons (.k (.int .u8 5)) (.cons (.var 0) (.cons (.var 1) (.cons (.var 2) .nil))))), (.agg (.cons (.k (.int .u8 5)) (.cons (.var 3) (.cons (.var 4) (.cons (.var 5) .nil)))))], [⟨[], [], (.k (.bool true))⟩]⟩
open Sx in
set_option maxRecDepth 100000 in
theorem k5_5_ok : LemOk c5_2 7 k5_5 := lem_of_run (n := 200) (by kernel_rfl)
open Sx in
noncomputable def k5_6 : Lem := ⟨[.f64, .str, fullTy .i64, .f64, .str, fullTy .i64], [], [], [(.agg (.cons (.k (.int .u8 5)) (.cons (.var 0) (.cons (.var 1) (.cons (.var 2) .nil))))), (.agg (.cons (.k (.int .u8 6)) (.cons (.var 3) (.cons (.var 4) (.cons (.var 5) .nil)))))], [⟨[], [], (.k (.bool true))⟩]⟩
open Sx in
set_option maxRecDepth 100000 in
theorem k5_6_ok : LemOk c5_2 7 k5_6 := lem_of_run (n := 200) (by kernel_rfl)
open Sx in
noncomputable def k5_7 : Lem := ⟨[.f64, .str, fullTy .i64, .f64, .str, fullTy .i64], [], [], [(.agg (.cons (.k (.int .u8 5)) (.cons (.var 0) (.cons (.var 1) (.cons (.var 2) .nil))))), (.agg (.cons (.k (.int .u8 7)) (.cons (.var 3) (.cons (.var 4) (.cons (.var 5) .nil)))))], [⟨[], [], (.k (.bool true))⟩]⟩
open Sx in
set_option maxRecDepth 100000 in
theorem k5_7_ok : LemOk c5_2 7 k5_7 := lem_of_run (n := 200) (by kernel_rfl)
open Sx in
noncomputable def k5_8 : Lem := ⟨[.f64, .str, fullTy .i64, .f64, .str, fullTy .i64], [], [], [(.agg (.cons (.k (.int .u8 5)) (.cons (.var 0) (.cons (.var 1) (.cons (.var 2) .nil))))), (.agg (.cons (.k (.int .u8 8)) (.cons (.var 3) (.cons (.var 4) (.cons (.var 5) .nil)))))], [⟨[], [], (.k (.bool true))⟩]⟩
open Sx in
set_option maxRecDepth 100000 in
theorem k5_8_ok : LemOk c5_2 7 k5_8 := lem_of_run (n := 200) (by kernel_rfl)
open Sx in
noncomputable def k5_9 : Lem := ⟨[.f64, .str, fullTy .i64, .f64, .str, fullTy .i64, (.int .u8 9 (some 255))], [], [], [(.agg (.cons (.k (.int .u8 5)) (.cons (.var 0) (.cons (.var 1) (.cons (.var 2) .nil))))), (.agg (.cons (.var 6) (.cons (.var 3) (.cons (.var 4) (.cons (.var 5) .nil)))))], [⟨[], [], (.k (.bool true))⟩]⟩
open Sx in
set_option maxRecDepth 100000 in
theorem k5_9_ok : LemOk c5_2 7 k5_9 := lem_of_run (n := 200) (by kernel_rfl)
theorem row5 (f0 : Nat) (s0 : ByteArray) (r0 : Int) (k1 : Int) (f1 : Nat) (s1 : ByteArray) (r1 : Int) (hr0 : Sx.hasTy (.int .i64 r0) (Sx.fullTy .i64)) (hr1 : Sx.hasTy (.int .i64 r1) (Sx.fullTy .i64)) (l1 : 0 ≤ k1) (u1 : k1 ≤ 255) (b0 : f0 < 2 ^ 64) (b1 : f1 < 2 ^ 64)
    (h0 : True) (w : World) :
    Calls Tryz.prog 7 #[.agg #[.int .u8 5, .float .f64 f0, .string s0, .int .i64 r0], .agg #[.int .u8 k1, .float .f64 f1, .string s1, .int .i64 r1]] w fun e w' => e = .returned (.bool true) ∧ Below w.heap.size w w' := by
  have q1 : k1 = 0 ∨ k1 = 1 ∨ k1 = 2 ∨ k1 = 3 ∨ k1 = 4 ∨ k1 = 5 ∨ k1 = 6 ∨ k1 = 7 ∨ k1 = 8 ∨ 9 ≤ k1 := by omega
  rcases q1 with rfl | rfl | rfl | rfl | rfl | rfl | rfl | rfl | rfl | h91
  · have h1 : True := trivial; exact Sx.lem_true_pre k5_0_ok rfl rfl [.float .f64 f0, .string s0, .int .i64 r0, .float .f64 f1, .string s1, .int .i64 r1] (.cons ⟨_, rfl⟩ (.cons ⟨_, rfl⟩ (.cons hr0 (.cons ⟨_, rfl⟩ (.cons ⟨_, rfl⟩ (.cons hr1 .nil)))))) (fun g hg => by cases hg) rfl w
  · have h1 : True := trivial; exact Sx.lem_true_pre k5_1_ok rfl rfl [.float .f64 f0, .string s0, .int .i64 r0, .float .f64 f1, .string s1, .int .i64 r1] (.cons ⟨_, rfl⟩ (.cons ⟨_, rfl⟩ (.cons hr0 (.cons ⟨_, rfl⟩ (.cons ⟨_, rfl⟩ (.cons hr1 .nil)))))) (fun g hg => by cases hg) rfl w
  · rcases Sx.float_cases f1 with hf | hf
    · have h1 : Sx.hasTy (.float .f64 f1) .nan := hf; exact Sx.lem_true_pre k5_2n_ok rfl rfl [.float .f64 f0, .string s0, .int .i64 r0, .float .f64 f1, .string s1, .int .i64 r1] (.cons ⟨_, rfl⟩ (.cons ⟨_, rfl⟩ (.cons hr0 (.cons h1 (.cons ⟨_, rfl⟩ (.cons hr1 .nil)))))) (fun g hg => by cases hg) rfl w
    · by_cases ho : f1 = 4607182418800017408
      · subst ho; exact Sx.lem_true_pre k5_2o_ok rfl rfl [.float .f64 f0, .string s0, .int .i64 r0, .string s1, .int .i64 r1] (.cons ⟨_, rfl⟩ (.cons ⟨_, rfl⟩ (.cons hr0 (.cons ⟨_, rfl⟩ (.cons hr1 .nil))))) (fun g hg => by cases hg) rfl w
      · have h1 : Sx.hasTy (.float .f64 f1) .num ∧ f1 ≠ 4607182418800017408 := ⟨hf, ho⟩; exact Sx.lem_true_pre k5_2_ok rfl rfl [.float .f64 f0, .string s0, .int .i64 r0, .float .f64 f1, .string s1, .int .i64 r1] (.cons ⟨_, rfl⟩ (.cons ⟨_, rfl⟩ (.cons hr0 (.cons h1.1 (.cons ⟨_, rfl⟩ (.cons hr1 .nil)))))) (fun g hg z hz => by obtain rfl := List.mem_singleton.1 hg; exact Sx.notOne_ok (c := c5_2) (n := 3) rfl b1 h1.2 z hz) rfl w
  · rcases Sx.float_cases f1 with hf | hf
    · have h1 : Sx.hasTy (.float .f64 f1) .nan := hf; exact Sx.lem_true_pre k5_3n_ok rfl rfl [.float .f64 f0, .string s0, .int .i64 r0, .float .f64 f1, .string s1, .int .i64 r1] (.cons ⟨_, rfl⟩ (.cons ⟨_, rfl⟩ (.cons hr0 (.cons h1 (.cons ⟨_, rfl⟩ (.cons hr1 .nil)))))) (fun g hg => by cases hg) rfl w
    · have h1 : Sx.hasTy (.float .f64 f1) .num ∧ True := ⟨hf, trivial⟩; exact Sx.lem_true_pre k5_3_ok rfl rfl [.float .f64 f0, .string s0, .int .i64 r0, .float .f64 f1, .string s1, .int .i64 r1] (.cons ⟨_, rfl⟩ (.cons ⟨_, rfl⟩ (.cons hr0 (.cons h1.1 (.cons ⟨_, rfl⟩ (.cons hr1 .nil)))))) (fun g hg => by cases hg) rfl w
  · have h1 : True := trivial; exact Sx.lem_true_pre k5_4_ok rfl rfl [.float .f64 f0, .string s0, .int .i64 r0, .float .f64 f1, .string s1, .int .i64 r1] (.cons ⟨_, rfl⟩ (.cons ⟨_, rfl⟩ (.cons hr0 (.cons ⟨_, rfl⟩ (.cons ⟨_, rfl⟩ (.cons hr1 .nil)))))) (fun g hg => by cases hg) rfl w
  · have h1 : True := trivial; exact Sx.lem_true_pre k5_5_ok rfl rfl [.float .f64 f0, .string s0, .int .i64 r0, .float .f64 f1, .string s1, .int .i64 r1] (.cons ⟨_, rfl⟩ (.cons ⟨_, rfl⟩ (.cons hr0 (.cons ⟨_, rfl⟩ (.cons ⟨_, rfl⟩ (.cons hr1 .nil)))))) (fun g hg => by cases hg) rfl w
  · have h1 : True := trivial; exact Sx.lem_true_pre k5_6_ok rfl rfl [.float .f64 f0, .string s0, .int .i64 r0, .float .f64 f1, .string s1, .int .i64 r1] (.cons ⟨_, rfl⟩ (.cons ⟨_, rfl⟩ (.cons hr0 (.cons ⟨_, rfl⟩ (.cons ⟨_, rfl⟩ (.cons hr1 .nil)))))) (fun g hg => by cases hg) rfl w
  · have h1 : True := trivial; exact Sx.lem_true_pre k5_7_ok rfl rfl [.float .f64 f0, .string s0, .int .i64 r0, .float .f64 f1, .string s1, .int .i64 r1] (.cons ⟨_, rfl⟩ (.cons ⟨_, rfl⟩ (.cons hr0 (.cons ⟨_, rfl⟩ (.cons ⟨_, rfl⟩ (.cons hr1 .nil)))))) (fun g hg => by cases hg) rfl w
  · have h1 : True := trivial; exact Sx.lem_true_pre k5_8_ok rfl rfl [.float .f64 f0, .string s0, .int .i64 r0, .float .f64 f1, .string s1, .int .i64 r1] (.cons ⟨_, rfl⟩ (.cons ⟨_, rfl⟩ (.cons hr0 (.cons ⟨_, rfl⟩ (.cons ⟨_, rfl⟩ (.cons hr1 .nil)))))) (fun g hg => by cases hg) rfl w
  · have h1 : 9 ≤ k1 ∧ k1 ≤ 255 := ⟨h91, by omega⟩; exact Sx.lem_true_pre k5_9_ok rfl rfl [.float .f64 f0, .string s0, .int .i64 r0, .float .f64 f1, .string s1, .int .i64 r1, .int .u8 k1] (.cons ⟨_, rfl⟩ (.cons ⟨_, rfl⟩ (.cons hr0 (.cons ⟨_, rfl⟩ (.cons ⟨_, rfl⟩ (.cons hr1 (.cons ⟨_, rfl, h1.1, fun _ e => by cases e; exact h1.2⟩ .nil))))))) (fun g hg => by cases hg) rfl w
end Go.Proofs.YtobghgfmdjknlaaGreat.coerceLike
