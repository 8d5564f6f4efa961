/- CoerceLike: the law where the first value is of one kind: each pair a form, and the row. -/
import Derived.Test.YtobghgfmdjknlaaGreatSxLaw
import Derived.Test.YtobghgfmdjknlaaGreatCoerceLikeE0
import Derived.Test.YtobghgfmdjknlaaGreatCoerceLikeE1
import Derived.Test.YtobghgfmdjknlaaGreatCoerceLikeE2
import Derived.Test.YtobghgfmdjknlaaGreatCoerceLikeE3
import Derived.Test.YtobghgfmdjknlaaGreatCoerceLikeE4
namespace Go.Proofs.YtobghgfmdjknlaaGreat.coerceLike
open Go Go.RowKit
set_option linter.unusedVariables false
open Sx in
noncomputable abbrev c2n_2 := cfgB baseRead (sumL [(16, lemsX c0 [alive]), (23, lemsX c0 mays)]) fun _ => none
open Sx in
instance sok2n_2 (F : Wd) : SOk c2n_2 F := sumL_ok (c := c2n_2) rfl (fun x hx => by
  simp only [List.mem_cons, List.not_mem_nil, or_false] at hx
  rcases hx with rfl | rfl
  · exact TrOk.cfg (c := c0) (c' := c2n_2) rfl rfl (lemsX_tr (fun L hL => by simp only [List.mem_singleton] at hL; subst hL; exact alive_ok))
  · exact TrOk.cfg (c := c0) (c' := c2n_2) rfl rfl (lemsX_tr mays_ok)
  )
open Sx in
noncomputable def k2n_0 : Lem := ⟨[.nan, .str, fullTy .i64, .f64, .str, fullTy .i64], [], [], [(.agg (.cons (.k (.int .u8 2)) (.cons (.var 0) (.cons (.var 1) (.cons (.var 2) .nil))))), (.agg (.cons (.k (.int .u8 0)) (.cons (.var 3) (.cons (.var 4) (.cons (.var 5) .nil)))))], [⟨[], [], (.k (.bool true))⟩]⟩
open Sx in
set_option maxRecDepth 100000 in
theorem k2n_0_ok : LemOk c2n_2 7 k2n_0 := lem_of_run (n := 200) (by kernel_rfl)
open Sx in
noncomputable def k2n_1 : Lem := ⟨[.nan, .str, fullTy .i64, .f64, .str, fullTy .i64], [], [], [(.agg (.cons (.k (.int .u8 2)) (.cons (.var 0) (.cons (.var 1) (.cons (.var 2) .nil))))), (.agg (.cons (.k (.int .u8 1)) (.cons (.var 3) (.cons (.var 4) (.cons (.var 5) .nil)))))], [⟨[], [], (.k (.bool true))⟩]⟩
open Sx in
set_option maxRecDepth 100000 in
theorem k2n_1_ok : LemOk c2n_2 7 k2n_1 := lem_of_run (n := 200) (by kernel_rfl)
open Sx in
noncomputable def k2n_2n : Lem := ⟨[.nan, .str, fullTy .i64, .nan, .str, fullTy .i64], [], [], [(.agg (.cons (.k (.int .u8 2)) (.cons (.var 0) (.cons (.var 1) (.cons (.var 2) .nil))))), (.agg (.cons (.k (.int .u8 2)) (.cons (.var 3) (.cons (.var 4) (.cons (.var 5) .nil)))))], [⟨[], [], (.k (.bool true))⟩]⟩
open Sx in
set_option maxRecDepth 100000 in
theorem k2n_2n_ok : LemOk c2n_2 7 k2n_2n := lem_of_run (n := 200) (by kernel_rfl)
open Sx in
noncomputable def k2n_2o : Lem := ⟨[.nan, .str, fullTy .i64, .str, fullTy .i64], [], [], [(.agg (.cons (.k (.int .u8 2)) (.cons (.var 0) (.cons (.var 1) (.cons (.var 2) .nil))))), (.agg (.cons (.k (.int .u8 2)) (.cons (.k (.float .f64 4607182418800017408)) (.cons (.var 3) (.cons (.var 4) .nil)))))], [⟨[], [], (.k (.bool true))⟩]⟩
open Sx in
set_option maxRecDepth 100000 in
theorem k2n_2o_ok : LemOk c2n_2 7 k2n_2o := lem_of_run (n := 200) (by kernel_rfl)
open Sx in
noncomputable def k2n_2 : Lem := ⟨[.nan, .str, fullTy .i64, .num, .str, fullTy .i64], [], [((.prim (.bin .eql 0 false) (.cons (.var 3) (.cons (.k (.float .f64 4607182418800017408)) .nil))), false)], [(.agg (.cons (.k (.int .u8 2)) (.cons (.var 0) (.cons (.var 1) (.cons (.var 2) .nil))))), (.agg (.cons (.k (.int .u8 2)) (.cons (.var 3) (.cons (.var 4) (.cons (.var 5) .nil)))))], [⟨[], [], (.k (.bool true))⟩]⟩
open Sx in
set_option maxRecDepth 100000 in
theorem k2n_2_ok : LemOk c2n_2 7 k2n_2 := lem_of_run (n := 200) (by kernel_rfl)
open Sx in
noncomputable def k2n_3n : Lem := ⟨[.nan, .str, fullTy .i64, .nan, .str, fullTy .i64], [], [], [(.agg (.cons (.k (.int .u8 2)) (.cons (.var 0) (.cons (.var 1) (.cons (.var 2) .nil))))), (.agg (.cons (.k (.int .u8 3)) (.cons (.var 3) (.cons (.var 4) (.cons (.var 5) .nil)))))], [⟨[], [], (.k (.bool true))⟩]⟩
open Sx in
set_option maxRecDepth 100000 in
theorem k2n_3n_ok : LemOk c2n_2 7 k2n_3n := lem_of_run (n := 200) (by kernel_rfl)
open Sx in
noncomputable def k2n_3 : Lem := ⟨[.nan, .str, fullTy .i64, .num, .str, fullTy .i64], [], [], [(.agg (.cons (.k (.int .u8 2)) (.cons (.var 0) (.cons (.var 1) (.cons (.var 2) .nil))))), (.agg (.cons (.k (.int .u8 3)) (.cons (.var 3) (.cons (.var 4) (.cons (.var 5) .nil)))))], [⟨[], [], (.k (.bool true))⟩]⟩
open Sx in
set_option maxRecDepth 100000 in
theorem k2n_3_ok : LemOk c2n_2 7 k2n_3 := lem_of_run (n := 200) (by kernel_rfl)
open Sx in
noncomputable def k2n_4 : Lem := ⟨[.nan, .str, fullTy .i64, .f64, .str, fullTy .i64], [], [], [(.agg (.cons (.k (.int .u8 2)) (.cons (.var 0) (.cons (.var 1) (.cons (.var 2) .nil))))), (.agg (.cons (.k (.int .u8 4)) (.cons (.var 3) (.cons (.var 4) (.cons (.var 5) .nil)))))], [⟨[], [], (.k (.bool true))⟩]⟩
open Sx in
set_option maxRecDepth 100000 in
theorem k2n_4_ok : LemOk c2n_2 7 k2n_4 := lem_of_run (n := 200) (by kernel_rfl)
open Sx in
noncomputable def k2n_5 : Lem := ⟨[.nan, .str, fullTy .i64, .f64, .str, fullTy .i64], [], [], [(.agg (.cons (.k (.int .u8 2)) (.cons (.var 0) (.cons (.var 1) (.cons (.var 2) .nil))))), (.agg (.cons (.k (.int .u8 5)) (.cons (.var 3) (.cons (.var 4) (.cons (.var 5) .nil)))))], [⟨[], [], (.k (.bool true))⟩]⟩
open Sx in
set_option maxRecDepth 100000 in
theorem k2n_5_ok : LemOk c2n_2 7 k2n_5 := lem_of_run (n := 200) (by kernel_rfl)
open Sx in
noncomputable def k2n_6 : Lem := ⟨[.nan, .str, fullTy .i64, .f64, .str, fullTy .i64], [], [], [(.agg (.cons (.k (.int .u8 2)) (.cons (.var 0) (.cons (.var 1) (.cons (.var 2) .nil))))), (.agg (.cons (.k (.int .u8 6)) (.cons (.var 3) (.cons (.var 4) (.cons (.var 5) .nil)))))], [⟨[], [], (.k (.bool true))⟩]⟩
open Sx in
set_option maxRecDepth 100000 in
theorem k2n_6_ok : LemOk c2n_2 7 k2n_6 := lem_of_run (n := 200) (by kernel_rfl)
open Sx in
noncomputable def k2n_7 : Lem := ⟨[.nan, .str, fullTy .i64, .f64, .str, fullTy .i64], [], [], [(.agg (.cons (.k (.int .u8 2)) (.cons (.var 0) (.cons (.var 1) (.cons (.var 2) .nil))))), (.agg (.cons (.k (.int .u8 7)) (.cons (.var 3) (.cons (.var 4) (.cons (.var 5) .nil)))))], [⟨[], [], (.k (.bool true))⟩]⟩
open Sx in
set_option maxRecDepth 100000 in
theorem k2n_7_ok : LemOk c2n_2 7 k2n_7 := lem_of_run (n := 200) (by kernel_rfl)
open Sx in
noncomputable def k2n_8 : Lem := ⟨[.nan, .str, fullTy .i64, .f64, .str, fullTy .i64], [], [], [(.agg (.cons (.k (.int .u8 2)) (.cons (.var 0) (.cons (.var 1) (.cons (.var 2) .nil))))), (.agg (.cons (.k (.int .u8 8)) (.cons (.var 3) (.cons (.var 4) (.cons (.var 5) .nil)))))], [⟨[], [], (.k (.bool true))⟩]⟩
open Sx in
set_option maxRecDepth 100000 in
theorem k2n_8_ok : LemOk c2n_2 7 k2n_8 := lem_of_run (n := 200) (by kernel_rfl)
open Sx in
noncomputable def k2n_9 : Lem := ⟨[.nan, .str, fullTy .i64, .f64, .str, fullTy .i64, (.int .u8 9 (some 255))], [], [], [(.agg (.cons (.k (.int .u8 2)) (.cons (.var 0) (.cons (.var 1) (.cons (.var 2) .nil))))), (.agg (.cons (.var 6) (.cons (.var 3) (.cons (.var 4) (.cons (.var 5) .nil)))))], [⟨[], [], (.k (.bool true))⟩]⟩
open Sx in
set_option maxRecDepth 100000 in
theorem k2n_9_ok : LemOk c2n_2 7 k2n_9 := lem_of_run (n := 200) (by kernel_rfl)
theorem row2n (f0 : Nat) (s0 : ByteArray) (r0 : Int) (k1 : Int) (f1 : Nat) (s1 : ByteArray) (r1 : Int) (hr0 : Sx.hasTy (.int .i64 r0) (Sx.fullTy .i64)) (hr1 : Sx.hasTy (.int .i64 r1) (Sx.fullTy .i64)) (l1 : 0 ≤ k1) (u1 : k1 ≤ 255) (b0 : f0 < 2 ^ 64) (b1 : f1 < 2 ^ 64)
    (h0 : Sx.hasTy (.float .f64 f0) .nan) (w : World) :
    Calls Tryz.prog 7 #[.agg #[.int .u8 2, .float .f64 f0, .string s0, .int .i64 r0], .agg #[.int .u8 k1, .float .f64 f1, .string s1, .int .i64 r1]] w fun e w' => e = .returned (.bool true) ∧ Below w.heap.size w w' := by
  have q1 : k1 = 0 ∨ k1 = 1 ∨ k1 = 2 ∨ k1 = 3 ∨ k1 = 4 ∨ k1 = 5 ∨ k1 = 6 ∨ k1 = 7 ∨ k1 = 8 ∨ 9 ≤ k1 := by omega
  rcases q1 with rfl | rfl | rfl | rfl | rfl | rfl | rfl | rfl | rfl | h91
  · have h1 : True := trivial; exact Sx.lem_true_pre k2n_0_ok rfl rfl [.float .f64 f0, .string s0, .int .i64 r0, .float .f64 f1, .string s1, .int .i64 r1] (.cons h0 (.cons ⟨_, rfl⟩ (.cons hr0 (.cons ⟨_, rfl⟩ (.cons ⟨_, rfl⟩ (.cons hr1 .nil)))))) (fun g hg => by cases hg) rfl w
  · have h1 : True := trivial; exact Sx.lem_true_pre k2n_1_ok rfl rfl [.float .f64 f0, .string s0, .int .i64 r0, .float .f64 f1, .string s1, .int .i64 r1] (.cons h0 (.cons ⟨_, rfl⟩ (.cons hr0 (.cons ⟨_, rfl⟩ (.cons ⟨_, rfl⟩ (.cons hr1 .nil)))))) (fun g hg => by cases hg) rfl w
  · rcases Sx.float_cases f1 with hf | hf
    · have h1 : Sx.hasTy (.float .f64 f1) .nan := hf; exact Sx.lem_true_pre k2n_2n_ok rfl rfl [.float .f64 f0, .string s0, .int .i64 r0, .float .f64 f1, .string s1, .int .i64 r1] (.cons h0 (.cons ⟨_, rfl⟩ (.cons hr0 (.cons h1 (.cons ⟨_, rfl⟩ (.cons hr1 .nil)))))) (fun g hg => by cases hg) rfl w
    · by_cases ho : f1 = 4607182418800017408
      · subst ho; exact Sx.lem_true_pre k2n_2o_ok rfl rfl [.float .f64 f0, .string s0, .int .i64 r0, .string s1, .int .i64 r1] (.cons h0 (.cons ⟨_, rfl⟩ (.cons hr0 (.cons ⟨_, rfl⟩ (.cons hr1 .nil))))) (fun g hg => by cases hg) rfl w
      · have h1 : Sx.hasTy (.float .f64 f1) .num ∧ f1 ≠ 4607182418800017408 := ⟨hf, ho⟩; exact Sx.lem_true_pre k2n_2_ok rfl rfl [.float .f64 f0, .string s0, .int .i64 r0, .float .f64 f1, .string s1, .int .i64 r1] (.cons h0 (.cons ⟨_, rfl⟩ (.cons hr0 (.cons h1.1 (.cons ⟨_, rfl⟩ (.cons hr1 .nil)))))) (fun g hg z hz => by obtain rfl := List.mem_singleton.1 hg; exact Sx.notOne_ok (c := c2n_2) (n := 3) rfl b1 h1.2 z hz) rfl w
  · rcases Sx.float_cases f1 with hf | hf
    · have h1 : Sx.hasTy (.float .f64 f1) .nan := hf; exact Sx.lem_true_pre k2n_3n_ok rfl rfl [.float .f64 f0, .string s0, .int .i64 r0, .float .f64 f1, .string s1, .int .i64 r1] (.cons h0 (.cons ⟨_, rfl⟩ (.cons hr0 (.cons h1 (.cons ⟨_, rfl⟩ (.cons hr1 .nil)))))) (fun g hg => by cases hg) rfl w
    · have h1 : Sx.hasTy (.float .f64 f1) .num ∧ True := ⟨hf, trivial⟩; exact Sx.lem_true_pre k2n_3_ok rfl rfl [.float .f64 f0, .string s0, .int .i64 r0, .float .f64 f1, .string s1, .int .i64 r1] (.cons h0 (.cons ⟨_, rfl⟩ (.cons hr0 (.cons h1.1 (.cons ⟨_, rfl⟩ (.cons hr1 .nil)))))) (fun g hg => by cases hg) rfl w
  · have h1 : True := trivial; exact Sx.lem_true_pre k2n_4_ok rfl rfl [.float .f64 f0, .string s0, .int .i64 r0, .float .f64 f1, .string s1, .int .i64 r1] (.cons h0 (.cons ⟨_, rfl⟩ (.cons hr0 (.cons ⟨_, rfl⟩ (.cons ⟨_, rfl⟩ (.cons hr1 .nil)))))) (fun g hg => by cases hg) rfl w
  · have h1 : True := trivial; exact Sx.lem_true_pre k2n_5_ok rfl rfl [.float .f64 f0, .string s0, .int .i64 r0, .float .f64 f1, .string s1, .int .i64 r1] (.cons h0 (.cons ⟨_, rfl⟩ (.cons hr0 (.cons ⟨_, rfl⟩ (.cons ⟨_, rfl⟩ (.cons hr1 .nil)))))) (fun g hg => by cases hg) rfl w
  · have h1 : True := trivial; exact Sx.lem_true_pre k2n_6_ok rfl rfl [.float .f64 f0, .string s0, .int .i64 r0, .float .f64 f1, .string s1, .int .i64 r1] (.cons h0 (.cons ⟨_, rfl⟩ (.cons hr0 (.cons ⟨_, rfl⟩ (.cons ⟨_, rfl⟩ (.cons hr1 .nil)))))) (fun g hg => by cases hg) rfl w
  · have h1 : True := trivial; exact Sx.lem_true_pre k2n_7_ok rfl rfl [.float .f64 f0, .string s0, .int .i64 r0, .float .f64 f1, .string s1, .int .i64 r1] (.cons h0 (.cons ⟨_, rfl⟩ (.cons hr0 (.cons ⟨_, rfl⟩ (.cons ⟨_, rfl⟩ (.cons hr1 .nil)))))) (fun g hg => by cases hg) rfl w
  · have h1 : True := trivial; exact Sx.lem_true_pre k2n_8_ok rfl rfl [.float .f64 f0, .string s0, .int .i64 r0, .float .f64 f1, .string s1, .int .i64 r1] (.cons h0 (.cons ⟨_, rfl⟩ (.cons hr0 (.cons ⟨_, rfl⟩ (.cons ⟨_, rfl⟩ (.cons hr1 .nil)))))) (fun g hg => by cases hg) rfl w
  · have h1 : 9 ≤ k1 ∧ k1 ≤ 255 := ⟨h91, by omega⟩; exact Sx.lem_true_pre k2n_9_ok rfl rfl [.float .f64 f0, .string s0, .int .i64 r0, .float .f64 f1, .string s1, .int .i64 r1, .int .u8 k1] (.cons h0 (.cons ⟨_, rfl⟩ (.cons hr0 (.cons ⟨_, rfl⟩ (.cons ⟨_, rfl⟩ (.cons hr1 (.cons ⟨_, rfl, h1.1, fun _ e => by cases e; exact h1.2⟩ .nil))))))) (fun g hg => by cases hg) rfl w
open Sx in
noncomputable abbrev c2o_2 := cfgB baseRead (sumL [(16, lemsX c0 [alive]), (23, lemsX c0 mays), (8, lemsX c1 [e0_2o, e1_2o, e2_2o, e2o_0, e2o_1, e2o_2, e2o_2o, e2o_3, e2o_3n, e2o_4, e2o_5, e2o_6, e2o_7, e2o_8, e3_2o, e3n_2o, e4_2o, e5_2o, e6_2o, e7_2o, e8_2o])]) fun _ => none
open Sx in
instance sok2o_2 (F : Wd) : SOk c2o_2 F := sumL_ok (c := c2o_2) rfl (fun x hx => by
  simp only [List.mem_cons, List.not_mem_nil, or_false] at hx
  rcases hx with rfl | rfl | rfl
  · exact TrOk.cfg (c := c0) (c' := c2o_2) rfl rfl (lemsX_tr (fun L hL => by simp only [List.mem_singleton] at hL; subst hL; exact alive_ok))
  · exact TrOk.cfg (c := c0) (c' := c2o_2) rfl rfl (lemsX_tr mays_ok)
  · refine TrOk.cfg (c := c1) (c' := c2o_2) rfl rfl (lemsX_tr (fun L hL => ?_))
    simp only [List.mem_cons, List.not_mem_nil, or_false] at hL
    rcases hL with rfl | rfl | rfl | rfl | rfl | rfl | rfl | rfl | rfl | rfl | rfl | rfl | rfl | rfl | rfl | rfl | rfl | rfl | rfl | rfl | rfl
    · exact e0_2o_ok
    · exact e1_2o_ok
    · exact e2_2o_ok
    · exact e2o_0_ok
    · exact e2o_1_ok
    · exact e2o_2_ok
    · exact e2o_2o_ok
    · exact e2o_3_ok
    · exact e2o_3n_ok
    · exact e2o_4_ok
    · exact e2o_5_ok
    · exact e2o_6_ok
    · exact e2o_7_ok
    · exact e2o_8_ok
    · exact e3_2o_ok
    · exact e3n_2o_ok
    · exact e4_2o_ok
    · exact e5_2o_ok
    · exact e6_2o_ok
    · exact e7_2o_ok
    · exact e8_2o_ok
  )
open Sx in
noncomputable def k2o_0 : Lem := ⟨[.str, fullTy .i64, .f64, .str, fullTy .i64], [], [], [(.agg (.cons (.k (.int .u8 2)) (.cons (.k (.float .f64 4607182418800017408)) (.cons (.var 0) (.cons (.var 1) .nil))))), (.agg (.cons (.k (.int .u8 0)) (.cons (.var 2) (.cons (.var 3) (.cons (.var 4) .nil)))))], [⟨[], [], (.k (.bool true))⟩]⟩
open Sx in
set_option maxRecDepth 100000 in
theorem k2o_0_ok : LemOk c2o_2 7 k2o_0 := lem_of_run (n := 200) (by kernel_rfl)
open Sx in
noncomputable def k2o_1 : Lem := ⟨[.str, fullTy .i64, .f64, .str, fullTy .i64], [], [], [(.agg (.cons (.k (.int .u8 2)) (.cons (.k (.float .f64 4607182418800017408)) (.cons (.var 0) (.cons (.var 1) .nil))))), (.agg (.cons (.k (.int .u8 1)) (.cons (.var 2) (.cons (.var 3) (.cons (.var 4) .nil)))))], [⟨[], [], (.k (.bool true))⟩]⟩
open Sx in
set_option maxRecDepth 100000 in
theorem k2o_1_ok : LemOk c2o_2 7 k2o_1 := lem_of_run (n := 200) (by kernel_rfl)
open Sx in
noncomputable def k2o_2n : Lem := ⟨[.str, fullTy .i64, .nan, .str, fullTy .i64], [], [], [(.agg (.cons (.k (.int .u8 2)) (.cons (.k (.float .f64 4607182418800017408)) (.cons (.var 0) (.cons (.var 1) .nil))))), (.agg (.cons (.k (.int .u8 2)) (.cons (.var 2) (.cons (.var 3) (.cons (.var 4) .nil)))))], [⟨[], [], (.k (.bool true))⟩]⟩
open Sx in
set_option maxRecDepth 100000 in
theorem k2o_2n_ok : LemOk c2o_2 7 k2o_2n := lem_of_run (n := 200) (by kernel_rfl)
open Sx in
noncomputable def k2o_2o : Lem := ⟨[.str, fullTy .i64, .str, fullTy .i64], [], [], [(.agg (.cons (.k (.int .u8 2)) (.cons (.k (.float .f64 4607182418800017408)) (.cons (.var 0) (.cons (.var 1) .nil))))), (.agg (.cons (.k (.int .u8 2)) (.cons (.k (.float .f64 4607182418800017408)) (.cons (.var 2) (.cons (.var 3) .nil)))))], [⟨[], [], (.k (.bool true))⟩]⟩
open Sx in
set_option maxRecDepth 100000 in
theorem k2o_2o_ok : LemOk c2o_2 7 k2o_2o := lem_of_run (n := 200) (by kernel_rfl)
open Sx in
noncomputable def k2o_2 : Lem := ⟨[.str, fullTy .i64, .num, .str, fullTy .i64], [], [((.prim (.bin .eql 0 false) (.cons (.var 2) (.cons (.k (.float .f64 4607182418800017408)) .nil))), false)], [(.agg (.cons (.k (.int .u8 2)) (.cons (.k (.float .f64 4607182418800017408)) (.cons (.var 0) (.cons (.var 1) .nil))))), (.agg (.cons (.k (.int .u8 2)) (.cons (.var 2) (.cons (.var 3) (.cons (.var 4) .nil)))))], [⟨[], [], (.k (.bool true))⟩]⟩
open Sx in
set_option maxRecDepth 100000 in
theorem k2o_2_ok : LemOk c2o_2 7 k2o_2 := lem_of_run (n := 200) (by kernel_rfl)
open Sx in
noncomputable def k2o_3n : Lem := ⟨[.str, fullTy .i64, .nan, .str, fullTy .i64], [], [], [(.agg (.cons (.k (.int .u8 2)) (.cons (.k (.float .f64 4607182418800017408)) (.cons (.var 0) (.cons (.var 1) .nil))))), (.agg (.cons (.k (.int .u8 3)) (.cons (.var 2) (.cons (.var 3) (.cons (.var 4) .nil)))))], [⟨[], [], (.k (.bool true))⟩]⟩
open Sx in
set_option maxRecDepth 100000 in
theorem k2o_3n_ok : LemOk c2o_2 7 k2o_3n := lem_of_run (n := 200) (by kernel_rfl)
open Sx in
noncomputable def k2o_3 : Lem := ⟨[.str, fullTy .i64, .num, .str, fullTy .i64], [], [], [(.agg (.cons (.k (.int .u8 2)) (.cons (.k (.float .f64 4607182418800017408)) (.cons (.var 0) (.cons (.var 1) .nil))))), (.agg (.cons (.k (.int .u8 3)) (.cons (.var 2) (.cons (.var 3) (.cons (.var 4) .nil)))))], [⟨[], [], (.k (.bool true))⟩]⟩
open Sx in
set_option maxRecDepth 100000 in
theorem k2o_3_ok : LemOk c2o_2 7 k2o_3 := lem_of_run (n := 200) (by kernel_rfl)
open Sx in
noncomputable def k2o_4 : Lem := ⟨[.str, fullTy .i64, .f64, .str, fullTy .i64], [], [], [(.agg (.cons (.k (.int .u8 2)) (.cons (.k (.float .f64 4607182418800017408)) (.cons (.var 0) (.cons (.var 1) .nil))))), (.agg (.cons (.k (.int .u8 4)) (.cons (.var 2) (.cons (.var 3) (.cons (.var 4) .nil)))))], [⟨[], [], (.k (.bool true))⟩]⟩
open Sx in
set_option maxRecDepth 100000 in
theorem k2o_4_ok : LemOk c2o_2 7 k2o_4 := lem_of_run (n := 200) (by kernel_rfl)
open Sx in
noncomputable def k2o_5 : Lem := ⟨[.str, fullTy .i64, .f64, .str, fullTy .i64], [], [], [(.agg (.cons (.k (.int .u8 2)) (.cons (.k (.float .f64 4607182418800017408)) (.cons (.var 0) (.cons (.var 1) .nil))))), (.agg (.cons (.k (.int .u8 5)) (.cons (.var 2) (.cons (.var 3) (.cons (.var 4) .nil)))))], [⟨[], [], (.k (.bool true))⟩]⟩
open Sx in
set_option maxRecDepth 100000 in
theorem k2o_5_ok : LemOk c2o_2 7 k2o_5 := lem_of_run (n := 200) (by kernel_rfl)
open Sx in
noncomputable def k2o_6 : Lem := ⟨[.str, fullTy .i64, .f64, .str, fullTy .i64], [], [], [(.agg (.cons (.k (.int .u8 2)) (.cons (.k (.float .f64 4607182418800017408)) (.cons (.var 0) (.cons (.var 1) .nil))))), (.agg (.cons (.k (.int .u8 6)) (.cons (.var 2) (.cons (.var 3) (.cons (.var 4) .nil)))))], [⟨[], [], (.k (.bool true))⟩]⟩
open Sx in
set_option maxRecDepth 100000 in
theorem k2o_6_ok : LemOk c2o_2 7 k2o_6 := lem_of_run (n := 200) (by kernel_rfl)
open Sx in
noncomputable def k2o_7 : Lem := ⟨[.str, fullTy .i64, .f64, .str, fullTy .i64], [], [], [(.agg (.cons (.k (.int .u8 2)) (.cons (.k (.float .f64 4607182418800017408)) (.cons (.var 0) (.cons (.var 1) .nil))))), (.agg (.cons (.k (.int .u8 7)) (.cons (.var 2) (.cons (.var 3) (.cons (.var 4) .nil)))))], [⟨[], [], (.k (.bool true))⟩]⟩
open Sx in
set_option maxRecDepth 100000 in
theorem k2o_7_ok : LemOk c2o_2 7 k2o_7 := lem_of_run (n := 200) (by kernel_rfl)
open Sx in
noncomputable def k2o_8 : Lem := ⟨[.str, fullTy .i64, .f64, .str, fullTy .i64], [], [], [(.agg (.cons (.k (.int .u8 2)) (.cons (.k (.float .f64 4607182418800017408)) (.cons (.var 0) (.cons (.var 1) .nil))))), (.agg (.cons (.k (.int .u8 8)) (.cons (.var 2) (.cons (.var 3) (.cons (.var 4) .nil)))))], [⟨[], [], (.k (.bool true))⟩]⟩
open Sx in
set_option maxRecDepth 100000 in
theorem k2o_8_ok : LemOk c2o_2 7 k2o_8 := lem_of_run (n := 200) (by kernel_rfl)
open Sx in
noncomputable def k2o_9 : Lem := ⟨[.str, fullTy .i64, .f64, .str, fullTy .i64, (.int .u8 9 (some 255))], [], [], [(.agg (.cons (.k (.int .u8 2)) (.cons (.k (.float .f64 4607182418800017408)) (.cons (.var 0) (.cons (.var 1) .nil))))), (.agg (.cons (.var 5) (.cons (.var 2) (.cons (.var 3) (.cons (.var 4) .nil)))))], [⟨[], [], (.k (.bool true))⟩]⟩
open Sx in
set_option maxRecDepth 100000 in
theorem k2o_9_ok : LemOk c2o_2 7 k2o_9 := lem_of_run (n := 200) (by kernel_rfl)
theorem row2o (f0 : Nat) (s0 : ByteArray) (r0 : Int) (k1 : Int) (f1 : Nat) (s1 : ByteArray) (r1 : Int) (hr0 : Sx.hasTy (.int .i64 r0) (Sx.fullTy .i64)) (hr1 : Sx.hasTy (.int .i64 r1) (Sx.fullTy .i64)) (l1 : 0 ≤ k1) (u1 : k1 ≤ 255) (b0 : f0 < 2 ^ 64) (b1 : f1 < 2 ^ 64)
    (h0 : f0 = 4607182418800017408) (w : World) :
    Calls Tryz.prog 7 #[.agg #[.int .u8 2, .float .f64 f0, .string s0, .int .i64 r0], .agg #[.int .u8 k1, .float .f64 f1, .string s1, .int .i64 r1]] w fun e w' => e = .returned (.bool true) ∧ Below w.heap.size w w' := by
  subst h0
  have q1 : k1 = 0 ∨ k1 = 1 ∨ k1 = 2 ∨ k1 = 3 ∨ k1 = 4 ∨ k1 = 5 ∨ k1 = 6 ∨ k1 = 7 ∨ k1 = 8 ∨ 9 ≤ k1 := by omega
  rcases q1 with rfl | rfl | rfl | rfl | rfl | rfl | rfl | rfl | rfl | h91
  · have h1 : True := trivial; exact Sx.lem_true_pre k2o_0_ok rfl rfl [.string s0, .int .i64 r0, .float .f64 f1, .string s1, .int .i64 r1] (.cons ⟨_, rfl⟩ (.cons hr0 (.cons ⟨_, rfl⟩ (.cons ⟨_, rfl⟩ (.cons hr1 .nil))))) (fun g hg => by cases hg) rfl w
  · have h1 : True := trivial; exact Sx.lem_true_pre k2o_1_ok rfl rfl [.string s0, .int .i64 r0, .float .f64 f1, .string s1, .int .i64 r1] (.cons ⟨_, rfl⟩ (.cons hr0 (.cons ⟨_, rfl⟩ (.cons ⟨_, rfl⟩ (.cons hr1 .nil))))) (fun g hg => by cases hg) rfl w
  · rcases Sx.float_cases f1 with hf | hf
    · have h1 : Sx.hasTy (.float .f64 f1) .nan := hf; exact Sx.lem_true_pre k2o_2n_ok rfl rfl [.string s0, .int .i64 r0, .float .f64 f1, .string s1, .int .i64 r1] (.cons ⟨_, rfl⟩ (.cons hr0 (.cons h1 (.cons ⟨_, rfl⟩ (.cons hr1 .nil))))) (fun g hg => by cases hg) rfl w
    · by_cases ho : f1 = 4607182418800017408
      · subst ho; exact Sx.lem_true_pre k2o_2o_ok rfl rfl [.string s0, .int .i64 r0, .string s1, .int .i64 r1] (.cons ⟨_, rfl⟩ (.cons hr0 (.cons ⟨_, rfl⟩ (.cons hr1 .nil)))) (fun g hg => by cases hg) rfl w
      · have h1 : Sx.hasTy (.float .f64 f1) .num ∧ f1 ≠ 4607182418800017408 := ⟨hf, ho⟩; exact Sx.lem_true_pre k2o_2_ok rfl rfl [.string s0, .int .i64 r0, .float .f64 f1, .string s1, .int .i64 r1] (.cons ⟨_, rfl⟩ (.cons hr0 (.cons h1.1 (.cons ⟨_, rfl⟩ (.cons hr1 .nil))))) (fun g hg z hz => by obtain rfl := List.mem_singleton.1 hg; exact Sx.notOne_ok (c := c2o_2) (n := 2) rfl b1 h1.2 z hz) rfl w
  · rcases Sx.float_cases f1 with hf | hf
    · have h1 : Sx.hasTy (.float .f64 f1) .nan := hf; exact Sx.lem_true_pre k2o_3n_ok rfl rfl [.string s0, .int .i64 r0, .float .f64 f1, .string s1, .int .i64 r1] (.cons ⟨_, rfl⟩ (.cons hr0 (.cons h1 (.cons ⟨_, rfl⟩ (.cons hr1 .nil))))) (fun g hg => by cases hg) rfl w
    · have h1 : Sx.hasTy (.float .f64 f1) .num ∧ True := ⟨hf, trivial⟩; exact Sx.lem_true_pre k2o_3_ok rfl rfl [.string s0, .int .i64 r0, .float .f64 f1, .string s1, .int .i64 r1] (.cons ⟨_, rfl⟩ (.cons hr0 (.cons h1.1 (.cons ⟨_, rfl⟩ (.cons hr1 .nil))))) (fun g hg => by cases hg) rfl w
  · have h1 : True := trivial; exact Sx.lem_true_pre k2o_4_ok rfl rfl [.string s0, .int .i64 r0, .float .f64 f1, .string s1, .int .i64 r1] (.cons ⟨_, rfl⟩ (.cons hr0 (.cons ⟨_, rfl⟩ (.cons ⟨_, rfl⟩ (.cons hr1 .nil))))) (fun g hg => by cases hg) rfl w
  · have h1 : True := trivial; exact Sx.lem_true_pre k2o_5_ok rfl rfl [.string s0, .int .i64 r0, .float .f64 f1, .string s1, .int .i64 r1] (.cons ⟨_, rfl⟩ (.cons hr0 (.cons ⟨_, rfl⟩ (.cons ⟨_, rfl⟩ (.cons hr1 .nil))))) (fun g hg => by cases hg) rfl w
  · have h1 : True := trivial; exact Sx.lem_true_pre k2o_6_ok rfl rfl [.string s0, .int .i64 r0, .float .f64 f1, .string s1, .int .i64 r1] (.cons ⟨_, rfl⟩ (.cons hr0 (.cons ⟨_, rfl⟩ (.cons ⟨_, rfl⟩ (.cons hr1 .nil))))) (fun g hg => by cases hg) rfl w
  · have h1 : True := trivial; exact Sx.lem_true_pre k2o_7_ok rfl rfl [.string s0, .int .i64 r0, .float .f64 f1, .string s1, .int .i64 r1] (.cons ⟨_, rfl⟩ (.cons hr0 (.cons ⟨_, rfl⟩ (.cons ⟨_, rfl⟩ (.cons hr1 .nil))))) (fun g hg => by cases hg) rfl w
  · have h1 : True := trivial; exact Sx.lem_true_pre k2o_8_ok rfl rfl [.string s0, .int .i64 r0, .float .f64 f1, .string s1, .int .i64 r1] (.cons ⟨_, rfl⟩ (.cons hr0 (.cons ⟨_, rfl⟩ (.cons ⟨_, rfl⟩ (.cons hr1 .nil))))) (fun g hg => by cases hg) rfl w
  · have h1 : 9 ≤ k1 ∧ k1 ≤ 255 := ⟨h91, by omega⟩; exact Sx.lem_true_pre k2o_9_ok rfl rfl [.string s0, .int .i64 r0, .float .f64 f1, .string s1, .int .i64 r1, .int .u8 k1] (.cons ⟨_, rfl⟩ (.cons hr0 (.cons ⟨_, rfl⟩ (.cons ⟨_, rfl⟩ (.cons hr1 (.cons ⟨_, rfl, h1.1, fun _ e => by cases e; exact h1.2⟩ .nil)))))) (fun g hg => by cases hg) rfl w
open Sx in
noncomputable abbrev c2_2 := cfgB baseRead (sumL [(16, lemsX c0 [alive]), (23, lemsX c0 mays), (8, lemsX c1 [e0_2, e1_2, e2_0, e2_1, e2_2, e2_2o, e2_3, e2_3n, e2_4, e2_5, e2_6, e2_7, e2_8, e2o_2, e3_2, e3n_2, e4_2, e5_2, e6_2, e7_2, e8_2])]) fun _ => none
open Sx in
instance sok2_2 (F : Wd) : SOk c2_2 F := sumL_ok (c := c2_2) rfl (fun x hx => by
  simp only [List.mem_cons, List.not_mem_nil, or_false] at hx
  rcases hx with rfl | rfl | rfl
  · exact TrOk.cfg (c := c0) (c' := c2_2) rfl rfl (lemsX_tr (fun L hL => by simp only [List.mem_singleton] at hL; subst hL; exact alive_ok))
  · exact TrOk.cfg (c := c0) (c' := c2_2) rfl rfl (lemsX_tr mays_ok)
  · refine TrOk.cfg (c := c1) (c' := c2_2) rfl rfl (lemsX_tr (fun L hL => ?_))
    simp only [List.mem_cons, List.not_mem_nil, or_false] at hL
    rcases hL with rfl | rfl | rfl | rfl | rfl | rfl | rfl | rfl | rfl | rfl | rfl | rfl | rfl | rfl | rfl | rfl | rfl | rfl | rfl | rfl | rfl
    · exact e0_2_ok
    · exact e1_2_ok
    · exact e2_0_ok
    · exact e2_1_ok
    · exact e2_2_ok
    · exact e2_2o_ok
    · exact e2_3_ok
    · exact e2_3n_ok
    · exact e2_4_ok
    · exact e2_5_ok
    · exact e2_6_ok
    · exact e2_7_ok
    · exact e2_8_ok
    · exact e2o_2_ok
    · exact e3_2_ok
    · exact e3n_2_ok
    · exact e4_2_ok
    · exact e5_2_ok
    · exact e6_2_ok
    · exact e7_2_ok
    · exact e8_2_ok
  )
open Sx in
noncomputable def k2_0 : Lem := ⟨[.num, .str, fullTy .i64, .f64, .str, fullTy .i64], [], [((.prim (.bin .eql 0 false) (.cons (.var 0) (.cons (.k (.float .f64 4607182418800017408)) .nil))), false)], [(.agg (.cons (.k (.int .u8 2)) (.cons (.var 0) (.cons (.var 1) (.cons (.var 2) .nil))))), (.agg (.cons (.k (.int .u8 0)) (.cons (.var 3) (.cons (.var 4) (.cons (.var 5) .nil)))))], [⟨[], [], (.k (.bool true))⟩]⟩
open Sx in
set_option maxRecDepth 100000 in
theorem k2_0_ok : LemOk c2_2 7 k2_0 := lem_of_run (n := 200) (by kernel_rfl)
open Sx in
noncomputable def k2_1 : Lem := ⟨[.num, .str, fullTy .i64, .f64, .str, fullTy .i64], [], [((.prim (.bin .eql 0 false) (.cons (.var 0) (.cons (.k (.float .f64 4607182418800017408)) .nil))), false)], [(.agg (.cons (.k (.int .u8 2)) (.cons (.var 0) (.cons (.var 1) (.cons (.var 2) .nil))))), (.agg (.cons (.k (.int .u8 1)) (.cons (.var 3) (.cons (.var 4) (.cons (.var 5) .nil)))))], [⟨[], [], (.k (.bool true))⟩]⟩
open Sx in
set_option maxRecDepth 100000 in
theorem k2_1_ok : LemOk c2_2 7 k2_1 := lem_of_run (n := 200) (by kernel_rfl)
open Sx in
noncomputable def k2_2n : Lem := ⟨[.num, .str, fullTy .i64, .nan, .str, fullTy .i64], [], [((.prim (.bin .eql 0 false) (.cons (.var 0) (.cons (.k (.float .f64 4607182418800017408)) .nil))), false)], [(.agg (.cons (.k (.int .u8 2)) (.cons (.var 0) (.cons (.var 1) (.cons (.var 2) .nil))))), (.agg (.cons (.k (.int .u8 2)) (.cons (.var 3) (.cons (.var 4) (.cons (.var 5) .nil)))))], [⟨[], [], (.k (.bool true))⟩]⟩
open Sx in
set_option maxRecDepth 100000 in
theorem k2_2n_ok : LemOk c2_2 7 k2_2n := lem_of_run (n := 200) (by kernel_rfl)
open Sx in
noncomputable def k2_2o : Lem := ⟨[.num, .str, fullTy .i64, .str, fullTy .i64], [], [((.prim (.bin .eql 0 false) (.cons (.var 0) (.cons (.k (.float .f64 4607182418800017408)) .nil))), false)], [(.agg (.cons (.k (.int .u8 2)) (.cons (.var 0) (.cons (.var 1) (.cons (.var 2) .nil))))), (.agg (.cons (.k (.int .u8 2)) (.cons (.k (.float .f64 4607182418800017408)) (.cons (.var 3) (.cons (.var 4) .nil)))))], [⟨[], [], (.k (.bool true))⟩]⟩
open Sx in
set_option maxRecDepth 100000 in
theorem k2_2o_ok : LemOk c2_2 7 k2_2o := lem_of_run (n := 200) (by kernel_rfl)
open Sx in
noncomputable def k2_2 : Lem := ⟨[.num, .str, fullTy .i64, .num, .str, fullTy .i64], [], [((.prim (.bin .eql 0 false) (.cons (.var 0) (.cons (.k (.float .f64 4607182418800017408)) .nil))), false), ((.prim (.bin .eql 0 false) (.cons (.var 3) (.cons (.k (.float .f64 4607182418800017408)) .nil))), false)], [(.agg (.cons (.k (.int .u8 2)) (.cons (.var 0) (.cons (.var 1) (.cons (.var 2) .nil))))), (.agg (.cons (.k (.int .u8 2)) (.cons (.var 3) (.cons (.var 4) (.cons (.var 5) .nil)))))], [⟨[], [], (.k (.bool true))⟩]⟩
open Sx in
set_option maxRecDepth 100000 in
theorem k2_2_ok : LemOk c2_2 7 k2_2 := lem_of_run (n := 200) (by kernel_rfl)
open Sx in
noncomputable def k2_3n : Lem := ⟨[.num, .str, fullTy .i64, .nan, .str, fullTy .i64], [], [((.prim (.bin .eql 0 false) (.cons (.var 0) (.cons (.k (.float .f64 4607182418800017408)) .nil))), false)], [(.agg (.cons (.k (.int .u8 2)) (.cons (.var 0) (.cons (.var 1) (.cons (.var 2) .nil))))), (.agg (.cons (.k (.int .u8 3)) (.cons (.var 3) (.cons (.var 4) (.cons (.var 5) .nil)))))], [⟨[], [], (.k (.bool true))⟩]⟩
open Sx in
set_option maxRecDepth 100000 in
theorem k2_3n_ok : LemOk c2_2 7 k2_3n := lem_of_run (n := 200) (by kernel_rfl)
open Sx in
noncomputable def k2_3 : Lem := ⟨[.num, .str, fullTy .i64, .num, .str, fullTy .i64], [], [((.prim (.bin .eql 0 false) (.cons (.var 0) (.cons (.k (.float .f64 4607182418800017408)) .nil))), false)], [(.agg (.cons (.k (.int .u8 2)) (.cons (.var 0) (.cons (.var 1) (.cons (.var 2) .nil))))), (.agg (.cons (.k (.int .u8 3)) (.cons (.var 3) (.cons (.var 4) (.cons (.var 5) .nil)))))], [⟨[], [], (.k (.bool true))⟩]⟩
open Sx in
set_option maxRecDepth 100000 in
theorem k2_3_ok : LemOk c2_2 7 k2_3 := lem_of_run (n := 200) (by kernel_rfl)
open Sx in
noncomputable def k2_4 : Lem := ⟨[.num, .str, fullTy .i64, .f64, .str, fullTy .i64], [], [((.prim (.bin .eql 0 false) (.cons (.var 0) (.cons (.k (.float .f64 4607182418800017408)) .nil))), false)], [(.agg (.cons (.k (.int .u8 2)) (.cons (.var 0) (.cons (.var 1) (.cons (.var 2) .nil))))), (.agg (.cons (.k (.int .u8 4)) (.cons (.var 3) (.cons (.var 4) (.cons (.var 5) .nil)))))], [⟨[], [], (.k (.bool true))⟩]⟩
open Sx in
set_option maxRecDepth 100000 in
theorem k2_4_ok : LemOk c2_2 7 k2_4 := lem_of_run (n := 200) (by kernel_rfl)
open Sx in
noncomputable def k2_5 : Lem := ⟨[.num, .str, fullTy .i64, .f64, .str, fullTy .i64], [], [((.prim (.bin .eql 0 false) (.cons (.var 0) (.cons (.k (.float .f64 4607182418800017408)) .nil))), false)], [(.agg (.cons (.k (.int .u8 2)) (.cons (.var 0) (.cons (.var 1) (.cons (.var 2) .nil))))), (.agg (.cons (.k (.int .u8 5)) (.cons (.var 3) (.cons (.var 4) (.cons (.var 5) .nil)))))], [⟨[], [], (.k (.bool true))⟩]⟩
open Sx in
set_option maxRecDepth 100000 in
theorem k2_5_ok : LemOk c2_2 7 k2_5 := lem_of_run (n := 200) (by kernel_rfl)
open Sx in
noncomputable def k2_6 : Lem := ⟨[.num, .str, fullTy .i64, .f64, .str, fullTy .i64], [], [((.prim (.bin .eql 0 false) (.cons (.var 0) (.cons (.k (.float .f64 4607182418800017408)) .nil))), false)], [(.agg (.cons (.k (.int .u8 2)) (.cons (.var 0) (.cons (.var 1) (.cons (.var 2) .nil))))), (.agg (.cons (.k (.int .u8 6)) (.cons (.var 3) (.cons (.var 4) (.cons (.var 5) .nil)))))], [⟨[], [], (.k (.bool true))⟩]⟩
open Sx in
set_option maxRecDepth 100000 in
theorem k2_6_ok : LemOk c2_2 7 k2_6 := lem_of_run (n := 200) (by kernel_rfl)
open Sx in
noncomputable def k2_7 : Lem := ⟨[.num, .str, fullTy .i64, .f64, .str, fullTy .i64], [], [((.prim (.bin .eql 0 false) (.cons (.var 0) (.cons (.k (.float .f64 4607182418800017408)) .nil))), false)], [(.agg (.cons (.k (.int .u8 2)) (.cons (.var 0) (.cons (.var 1) (.cons (.var 2) .nil))))), (.agg (.cons (.k (.int .u8 7)) (.cons (.var 3) (.cons (.var 4) (.cons (.var 5) .nil)))))], [⟨[], [], (.k (.bool true))⟩]⟩
open Sx in
set_option maxRecDepth 100000 in
theorem k2_7_ok : LemOk c2_2 7 k2_7 := lem_of_run (n := 200) (by kernel_rfl)
open Sx in
noncomputable def k2_8 : Lem := ⟨[.num, .str, fullTy .i64, .f64, .str, fullTy .i64], [], [((.prim (.bin .eql 0 false) (.cons (.var 0) (.cons (.k (.float .f64 4607182418800017408)) .nil))), false)], [(.agg (.cons (.k (.int .u8 2)) (.cons (.var 0) (.cons (.var 1) (.cons (.var 2) .nil))))), (.agg (.cons (.k (.int .u8 8)) (.cons (.var 3) (.cons (.var 4) (.cons (.var 5) .nil)))))], [⟨[], [], (.k (.bool true))⟩]⟩
open Sx in
set_option maxRecDepth 100000 in
theorem k2_8_ok : LemOk c2_2 7 k2_8 := lem_of_run (n := 200) (by kernel_rfl)
open Sx in
noncomputable def k2_9 : Lem := ⟨[.num, .str, fullTy .i64, .f64, .str, fullTy .i64, (.int .u8 9 (some 255))], [], [((.prim (.bin .eql 0 false) (.cons (.var 0) (.cons (.k (.float .f64 4607182418800017408)) .nil))), false)], [(.agg (.cons (.k (.int .u8 2)) (.cons (.var 0) (.cons (.var 1) (.cons (.var 2) .nil))))), (.agg (.cons (.var 6) (.cons (.var 3) (.cons (.var 4) (.cons (.var 5) .nil)))))], [⟨[], [], (.k (.bool true))⟩]⟩
open Sx in
set_option maxRecDepth 100000 in
theorem k2_9_ok : LemOk c2_2 7 k2_9 := lem_of_run (n := 200) (by kernel_rfl)
theorem row2 (f0 : Nat) (s0 : ByteArray) (r0 : Int) (k1 : Int) (f1 : Nat) (s1 : ByteArray) (r1 : Int) (hr0 : Sx.hasTy (.int .i64 r0) (Sx.fullTy .i64)) (hr1 : Sx.hasTy (.int .i64 r1) (Sx.fullTy .i64)) (l1 : 0 ≤ k1) (u1 : k1 ≤ 255) (b0 : f0 < 2 ^ 64) (b1 : f1 < 2 ^ 64)
    (h0 : Sx.hasTy (.float .f64 f0) .num ∧ f0 ≠ 4607182418800017408) (w : World) :
    Calls Tryz.prog 7 #[.agg #[.int .u8 2, .float .f64 f0, .string s0, .int .i64 r0], .agg #[.int .u8 k1, .float .f64 f1, .string s1, .int .i64 r1]] w fun e w' => e = .returned (.bool true) ∧ Below w.heap.size w w' := by
  have q1 : k1 = 0 ∨ k1 = 1 ∨ k1 = 2 ∨ k1 = 3 ∨ k1 = 4 ∨ k1 = 5 ∨ k1 = 6 ∨ k1 = 7 ∨ k1 = 8 ∨ 9 ≤ k1 := by omega
  rcases q1 with rfl | rfl | rfl | rfl | rfl | rfl | rfl | rfl | rfl | h91
  · have h1 : True := trivial; exact Sx.lem_true_pre k2_0_ok rfl rfl [.float .f64 f0, .string s0, .int .i64 r0, .float .f64 f1, .string s1, .int .i64 r1] (.cons h0.1 (.cons ⟨_, rfl⟩ (.cons hr0 (.cons ⟨_, rfl⟩ (.cons ⟨_, rfl⟩ (.cons hr1 .nil)))))) (fun g hg z hz => by obtain rfl := List.mem_singleton.1 hg; exact Sx.notOne_ok (c := c2_2) (n := 0) rfl b0 h0.2 z hz) rfl w
  · have h1 : True := trivial; exact Sx.lem_true_pre k2_1_ok rfl rfl [.float .f64 f0, .string s0, .int .i64 r0, .float .f64 f1, .string s1, .int .i64 r1] (.cons h0.1 (.cons ⟨_, rfl⟩ (.cons hr0 (.cons ⟨_, rfl⟩ (.cons ⟨_, rfl⟩ (.cons hr1 .nil)))))) (fun g hg z hz => by obtain rfl := List.mem_singleton.1 hg; exact Sx.notOne_ok (c := c2_2) (n := 0) rfl b0 h0.2 z hz) rfl w
  · rcases Sx.float_cases f1 with hf | hf
    · have h1 : Sx.hasTy (.float .f64 f1) .nan := hf; exact Sx.lem_true_pre k2_2n_ok rfl rfl [.float .f64 f0, .string s0, .int .i64 r0, .float .f64 f1, .string s1, .int .i64 r1] (.cons h0.1 (.cons ⟨_, rfl⟩ (.cons hr0 (.cons h1 (.cons ⟨_, rfl⟩ (.cons hr1 .nil)))))) (fun g hg z hz => by obtain rfl := List.mem_singleton.1 hg; exact Sx.notOne_ok (c := c2_2) (n := 0) rfl b0 h0.2 z hz) rfl w
    · by_cases ho : f1 = 4607182418800017408
      · subst ho; exact Sx.lem_true_pre k2_2o_ok rfl rfl [.float .f64 f0, .string s0, .int .i64 r0, .string s1, .int .i64 r1] (.cons h0.1 (.cons ⟨_, rfl⟩ (.cons hr0 (.cons ⟨_, rfl⟩ (.cons hr1 .nil))))) (fun g hg z hz => by obtain rfl := List.mem_singleton.1 hg; exact Sx.notOne_ok (c := c2_2) (n := 0) rfl b0 h0.2 z hz) rfl w
      · have h1 : Sx.hasTy (.float .f64 f1) .num ∧ f1 ≠ 4607182418800017408 := ⟨hf, ho⟩; exact Sx.lem_true_pre k2_2_ok rfl rfl [.float .f64 f0, .string s0, .int .i64 r0, .float .f64 f1, .string s1, .int .i64 r1] (.cons h0.1 (.cons ⟨_, rfl⟩ (.cons hr0 (.cons h1.1 (.cons ⟨_, rfl⟩ (.cons hr1 .nil)))))) (fun g hg z hz => by rcases List.mem_cons.1 hg with rfl | hg; exact Sx.notOne_ok (c := c2_2) (n := 0) rfl b0 h0.2 z hz; obtain rfl := List.mem_singleton.1 hg; exact Sx.notOne_ok (c := c2_2) (n := 3) rfl b1 h1.2 z hz) rfl w
  · rcases Sx.float_cases f1 with hf | hf
    · have h1 : Sx.hasTy (.float .f64 f1) .nan := hf; exact Sx.lem_true_pre k2_3n_ok rfl rfl [.float .f64 f0, .string s0, .int .i64 r0, .float .f64 f1, .string s1, .int .i64 r1] (.cons h0.1 (.cons ⟨_, rfl⟩ (.cons hr0 (.cons h1 (.cons ⟨_, rfl⟩ (.cons hr1 .nil)))))) (fun g hg z hz => by obtain rfl := List.mem_singleton.1 hg; exact Sx.notOne_ok (c := c2_2) (n := 0) rfl b0 h0.2 z hz) rfl w
    · have h1 : Sx.hasTy (.float .f64 f1) .num ∧ True := ⟨hf, trivial⟩; exact Sx.lem_true_pre k2_3_ok rfl rfl [.float .f64 f0, .string s0, .int .i64 r0, .float .f64 f1, .string s1, .int .i64 r1] (.cons h0.1 (.cons ⟨_, rfl⟩ (.cons hr0 (.cons h1.1 (.cons ⟨_, rfl⟩ (.cons hr1 .nil)))))) (fun g hg z hz => by obtain rfl := List.mem_singleton.1 hg; exact Sx.notOne_ok (c := c2_2) (n := 0) rfl b0 h0.2 z hz) rfl w
  · have h1 : True := trivial; exact Sx.lem_true_pre k2_4_ok rfl rfl [.float .f64 f0, .string s0, .int .i64 r0, .float .f64 f1, .string s1, .int .i64 r1] (.cons h0.1 (.cons ⟨_, rfl⟩ (.cons hr0 (.cons ⟨_, rfl⟩ (.cons ⟨_, rfl⟩ (.cons hr1 .nil)))))) (fun g hg z hz => by obtain rfl := List.mem_singleton.1 hg; exact Sx.notOne_ok (c := c2_2) (n := 0) rfl b0 h0.2 z hz) rfl w
  · have h1 : True := trivial; exact Sx.lem_true_pre k2_5_ok rfl rfl [.float .f64 f0, .string s0, .int .i64 r0, .float .f64 f1, .string s1, .int .i64 r1] (.cons h0.1 (.cons ⟨_, rfl⟩ (.cons hr0 (.cons ⟨_, rfl⟩ (.cons ⟨_, rfl⟩ (.cons hr1 .nil)))))) (fun g hg z hz => by obtain rfl := List.mem_singleton.1 hg; exact Sx.notOne_ok (c := c2_2) (n := 0) rfl b0 h0.2 z hz) rfl w
  · have h1 : True := trivial; exact Sx.lem_true_pre k2_6_ok rfl rfl [.float .f64 f0, .string s0, .int .i64 r0, .float .f64 f1, .string s1, .int .i64 r1] (.cons h0.1 (.cons ⟨_, rfl⟩ (.cons hr0 (.cons ⟨_, rfl⟩ (.cons ⟨_, rfl⟩ (.cons hr1 .nil)))))) (fun g hg z hz => by obtain rfl := List.mem_singleton.1 hg; exact Sx.notOne_ok (c := c2_2) (n := 0) rfl b0 h0.2 z hz) rfl w
  · have h1 : True := trivial; exact Sx.lem_true_pre k2_7_ok rfl rfl [.float .f64 f0, .string s0, .int .i64 r0, .float .f64 f1, .string s1, .int .i64 r1] (.cons h0.1 (.cons ⟨_, rfl⟩ (.cons hr0 (.cons ⟨_, rfl⟩ (.cons ⟨_, rfl⟩ (.cons hr1 .nil)))))) (fun g hg z hz => by obtain rfl := List.mem_singleton.1 hg; exact Sx.notOne_ok (c := c2_2) (n := 0) rfl b0 h0.2 z hz) rfl w
  · have h1 : True := trivial; exact Sx.lem_true_pre k2_8_ok rfl rfl [.float .f64 f0, .string s0, .int .i64 r0, .float .f64 f1, .string s1, .int .i64 r1] (.cons h0.1 (.cons ⟨_, rfl⟩ (.cons hr0 (.cons ⟨_, rfl⟩ (.cons ⟨_, rfl⟩ (.cons hr1 .nil)))))) (fun g hg z hz => by obtain rfl := List.mem_singleton.1 hg; exact Sx.notOne_ok (c := c2_2) (n := 0) rfl b0 h0.2 z hz) rfl w
  · have h1 : 9 ≤ k1 ∧ k1 ≤ 255 := ⟨h91, by omega⟩; exact Sx.lem_true_pre k2_9_ok rfl rfl [.float .f64 f0, .string s0, .int .i64 r0, .float .f64 f1, .string s1, .int .i64 r1, .int .u8 k1] (.cons h0.1 (.cons ⟨_, rfl⟩ (.cons hr0 (.cons ⟨_, rfl⟩ (.cons ⟨_, rfl⟩ (.cons hr1 (.cons ⟨_, rfl, h1.1, fun _ e => by cases e; exact h1.2⟩ .nil))))))) (fun g hg z hz => by obtain rfl := List.mem_singleton.1 hg; exact Sx.notOne_ok (c := c2_2) (n := 0) rfl b0 h0.2 z hz) rfl w
end Go.Proofs.YtobghgfmdjknlaaGreat.coerceLike
