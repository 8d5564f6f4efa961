/- CoerceLike: the law where the first value is of one kind: each pair a form, and the row. -/
import Derived.Test.YtobghgfmdjknlaaGreatSxLaw
import Derived.Test.YtobghgfmdjknlaaGreatCoerceLikeE0
import Derived.Test.YtobghgfmdjknlaaGreatCoerceLikeE1
import Derived.Test.YtobghgfmdjknlaaGreatCoerceLikeE2
import Derived.Test.YtobghgfmdjknlaaGreatCoerceLikeE3
import Derived.Test.YtobghgfmdjknlaaGreatCoerceLikeE4
namespace Go.Proofs.YtobghgfmdjknlaaGreat.coerceLike
open Go Go.RowKit
set_option linter.unusedVariables false
open Sx in
noncomputable abbrev c6_2 := cfgB baseRead (sumL [(16, lemsX c0 [alive]), (23, lemsX c0 mays), (8, lemsX c1 [e0_6, e1_6, e2_6, e2o_6, e3_6, e3n_6, e4_6, e5_6, e6_0, e6_1, e6_2, e6_2o, e6_3, e6_3n, e6_4, e6_5, e6_6, e6_7, e6_8, e7_6, e8_6])]) fun _ => none
open Sx in
instance sok6_2 (F : Wd) : SOk c6_2 F := sumL_ok (c := c6_2) rfl (fun x hx => by
  simp only [List.mem_cons, List.not_mem_nil, or_false] at hx
  rcases hx with rfl | rfl | rfl
  · exact TrOk.cfg (c := c0) (c' := c6_2) rfl rfl (lemsX_tr (fun L hL => by simp only [List.mem_singleton] at hL; subst hL; exact alive_ok))
  · exact TrOk.cfg (c := c0) (c' := c6_2) rfl rfl (lemsX_tr mays_ok)
  · refine TrOk.cfg (c := c1) (c' := c6_2) rfl rfl (lemsX_tr (fun L hL => ?_))
    simp only [List.mem_cons, List.not_mem_nil, or_false] at hL
    rcases hL with rfl | rfl | rfl | rfl | rfl | rfl | rfl | rfl | rfl | rfl | rfl | rfl | rfl | rfl | rfl | rfl | rfl | rfl | rfl | rfl | rfl
    · exact e0_6_ok
    · exact e1_6_ok
    · exact e2_6_ok
    · exact e2o_6_ok
    · exact e3_6_ok
    · exact e3n_6_ok
    · exact e4_6_ok
    · exact e5_6_ok
    · exact e6_0_ok
    · exact e6_1_ok
    · exact e6_2_ok
    · exact e6_2o_ok
    · exact e6_3_ok
    · exact e6_3n_ok
    · exact e6_4_ok
    · exact e6_5_ok
    · exact e6_6_ok
    · exact e6_7_ok
    · exact e6_8_ok
    · exact e7_6_ok
    · exact e8_6_ok
  )
open Sx in
noncomputable def k6_0 : Lem := ⟨[.f64, .str, fullTy .i64, .f64, .str, fullTy .i64], [], [], [(.agg (.cons (.k (.int .u8 6)) (.cons (.var 0) (.cons (.var 1) (.cons (.var 2) .nil))))), (.agg (.cons (.k (.int .u8 0)) (.cons (.var 3) (.cons (.var 4) (.cons (.var 5) .nil)))))], [⟨[], [], (.k (.bool true))⟩]⟩
open Sx in
set_option maxRecDepth 100000 in
theorem k6_0_ok : LemOk c6_2 7 k6_0 := lem_of_run (n := 200) (by kernel_rfl)
open Sx in
noncomputable def k6_1 : Lem := ⟨[.f64, .str, fullTy .i64, .f64, .str, fullTy .i64], [], [], [(.agg (.cons (.k (.int .u8 6)) (.cons (.var 0) (.cons (.var 1) (.cons (.var 2) .nil))))), (.agg (.cons (.k (.int .u8 1)) (.cons (.var 3) (.cons (.var 4) (.cons (.var 5) .nil)))))], [⟨[], [], (.k (.bool true))⟩]⟩
open Sx in
set_option maxRecDepth 100000 in
theorem k6_1_ok : LemOk c6_2 7 k6_1 := lem_of_run (n := 200) (by kernel_rfl)
open Sx in
noncomputable def k6_2n : Lem := ⟨[.f64, .str, fullTy .i64, .nan, .str, fullTy .i64], [], [], [(.agg (.cons (.k (.int .u8 6)) (.cons (.var 0) (.cons (.var 1) (.cons (.var 2) .nil))))), (.agg (.cons (.k (.int .u8 2)) (.cons (.var 3) (.cons (.var 4) (.cons (.var 5) .nil)))))], [⟨[], [], (.k (.bool true))⟩]⟩
open Sx in
set_option maxRecDepth 100000 in
theorem k6_2n_ok : LemOk c6_2 7 k6_2n := lem_of_run (n := 200) (by kernel_rfl)
open Sx in
noncomputable def k6_2o : Lem := ⟨[.f64, .str, fullTy .i64, .str, fullTy .i64], [], [], [(.agg (.cons (.k (.int .u8 6)) (.cons (.var 0) (.cons (.var 1) (.cons (.var 2) .nil))))), (.agg (.cons (.k (.int .u8 2)) (.cons (.k (.float .f64 4607182418800017408)) (.cons (.var 3) (.cons (.var 4) .nil)))))], [⟨[], [], (.k (.bool true))⟩]⟩
open Sx in
set_option maxRecDepth 100000 in
theorem k6_2o_ok : LemOk c6_2 7 k6_2o := lem_of_run (n := 200) (by kernel_rfl)
open Sx in
noncomputable def k6_2 : Lem := ⟨[.f64, .str, fullTy .i64, .num, .str, fullTy .i64], [], [((.prim (.bin .eql 0 false) (.cons (.var 3) (.cons (.k (.float .f64 4607182418800017408)) .nil))), false)], [(.agg (.cons (.k (.int .u8 6)) (.cons (.var 0) (.cons (.var 1) (.cons (.var 2) .nil))))), (.agg (.cons (.k (.int .u8 2)) (.cons (.var 3) (.cons (.var 4) (.cons (.var 5) .nil)))))], [⟨[], [], (.k (.bool true))⟩]⟩
open Sx in
set_option maxRecDepth 100000 in
theorem k6_2_ok : LemOk c6_2 7 k6_2 := lem_of_run (n := 200) (by kernel_rfl)
open Sx in
noncomputable def k6_3n : Lem := ⟨[.f64, .str, fullTy .i64, .nan, .str, fullTy .i64], [], [], [(.agg (.cons (.k (.int .u8 6)) (.cons (.var 0) (.cons (.var 1) (.cons (.var 2) .nil))))), (.agg (.cons (.k (.int .u8 3)) (.cons (.var 3) (.cons (.var 4) (.cons (.var 5) .nil)))))], [⟨[], [], (.k (.bool true))⟩]⟩
open Sx in
set_option maxRecDepth 100000 in
theorem k6_3n_ok : LemOk c6_2 7 k6_3n := lem_of_run (n := 200) (by kernel_rfl)
open Sx in
noncomputable def k6_3 : Lem := ⟨[.f64, .str, fullTy .i64, .num, .str, fullTy .i64], [], [], [(.agg (.cons (.k (.int .u8 6)) (.cons (.var 0) (.cons (.var 1) (.cons (.var 2) .nil))))), (.agg (.cons (.k (.int .u8 3)) (.cons (.var 3) (.cons (.var 4) (.cons (.var 5) .nil)))))], [⟨[], [], (.k (.bool true))⟩]⟩
open Sx in
set_option maxRecDepth 100000 in
theorem k6_3_ok : LemOk c6_2 7 k6_3 := lem_of_run (n := 200) (by kernel_rfl)
open Sx in
noncomputable def k6_4 : Lem := ⟨[.f64, .str, fullTy .i64, .f64, .str, fullTy .i64], [], [], [(.agg (.cons (.k (.int .u8 6)) (.cons (.var 0) (.cons (.var 1) (.cons (.var 2) .nil))))), (.agg (.cons (.k (.int .u8 4)) (.cons (.var 3) (.cons (.var 4) (.cons (.var 5) .nil)))))], [⟨[], [], (.k (.bool true))⟩]⟩
open Sx in
set_option maxRecDepth 100000 in
theorem k6_4_ok : LemOk c6_2 7 k6_4 := lem_of_run (n := 200) (by kernel_rfl)
open Sx in
noncomputable def k6_5 : Lem := ⟨[.f64, .str, fullTy .i64, .f64, .str, fullTy .i64], [], [], [(.agg (.cons (.k (.int .u8 6)) (.cons (.var 0) (.cons (.var 1) (.cons (.var 2) .nil))))), (.agg (.cons (.k (.int .u8 5)) (.cons (.var 3) (.cons (.var 4) (.cons (.var 5) .nil)))))], [⟨[], [], (.k (.bool true))⟩]⟩
open Sx in
set_option maxRecDepth 100000 in
theorem k6_5_ok : LemOk c6_2 7 k6_5 := lem_of_run (n := 200) (by kernel_rfl)
open Sx in
noncomputable def k6_6 : Lem := ⟨[.f64, .str, fullTy .i64, .f64, .str, fullTy .i64], [], [], [(.agg (.cons (.k (.int .u8 6)) (.cons (.var 0) (.cons (.var 1) (.cons (.var 2) .nil))))), (.agg (.cons (.k (.int .u8 6)) (.cons (.var 3) (.cons (.var 4) (.cons (.var 5) .nil)))))], [⟨[], [], (.k (.bool true))⟩]⟩
open Sx in
set_option maxRecDepth 100000 in
theorem k6_6_ok : LemOk c6_2 7 k6_6 := lem_of_run (n := 200) (by kernel_rfl)
open Sx in
noncomputable def k6_7 : Lem := ⟨[.f64, .str, fullTy .i64, .f64, .str, fullTy .i64], [], [], [(.agg (.cons (.k (.int .u8 6)) (.cons (.var 0) (.cons (.var 1) (.cons (.var 2) .nil))))), (.agg (.cons (.k (.int .u8 7)) (.cons (.var 3) (.cons (.var 4) (.cons (.var 5) .nil)))))], [⟨[], [], (.k (.bool true))⟩]⟩
open Sx in
set_option maxRecDepth 100000 in
theorem k6_7_ok : LemOk c6_2 7 k6_7 := lem_of_run (n := 200) (by kernel_rfl)
open Sx in
noncomputable def k6_8 : Lem := ⟨[.f64, .str, fullTy .i64, .f64, .str, fullTy .i64], [], [], [(.agg (.cons (.k (.int .u8 6)) (.cons (.var 0) (.cons (.var 1) (.cons (.var 2) .nil))))), (.agg (.cons (.k (.int .u8 8)) (.cons (.var 3) (.cons (.var 4) (.cons (.var 5) .nil)))))], [⟨[], [], (.k (.bool true))⟩]⟩
open Sx in
set_option maxRecDepth 100000 in
theorem k6_8_ok : LemOk c6_2 7 k6_8 := lem_of_run (n := 200) (by kernel_rfl)
open Sx in
noncomputable def k6_9 : Lem := ⟨[.f64, .str, fullTy .i64, .f64, .str, fullTy .i64, (.int .u8 9 (some 255))], [], [], [(.agg (.cons (.k (.int .u8 6)) (.cons (.var 0) (.cons (.var 1) (.cons (.var 2) .nil))))), (.agg (.cons (.var 6) (.cons (.var 3) (.cons (.var 4) (.cons (.var 5) .nil)))))], [⟨[], [], (.k (.bool true))⟩]⟩
open Sx in
set_option maxRecDepth 100000 in
theorem k6_9_ok : LemOk c6_2 7 k6_9 := lem_of_run (n := 200) (by kernel_rfl)
theorem row6 (f0 : Nat) (s0 : ByteArray) (r0 : Int) (k1 : Int) (f1 : Nat) (s1 : ByteArray) (r1 : Int) (hr0 : Sx.hasTy (.int .i64 r0) (Sx.fullTy .i64)) (hr1 : Sx.hasTy (.int .i64 r1) (Sx.fullTy .i64)) (l1 : 0 ≤ k1) (u1 : k1 ≤ 255) (b0 : f0 < 2 ^ 64) (b1 : f1 < 2 ^ 64)
    (h0 : True) (w : World) :
    Calls Tryz.prog 7 #[.agg #[.int .u8 6, .float .f64 f0, .string s0, .int .i64 r0], .agg #[.int .u8 k1, .float .f64 f1, .string s1, .int .i64 r1]] w fun e w' => e = .returned (.bool true) ∧ Below w.heap.size w w' := by
  have q1 : k1 = 0 ∨ k1 = 1 ∨ k1 = 2 ∨ k1 = 3 ∨ k1 = 4 ∨ k1 = 5 ∨ k1 = 6 ∨ k1 = 7 ∨ k1 = 8 ∨ 9 ≤ k1 := by omega
  rcases q1 with rfl | rfl | rfl | rfl | rfl | rfl | rfl | rfl | rfl | h91
  · have h1 : True := trivial; exact Sx.lem_true_pre k6_0_ok rfl rfl [.float .f64 f0, .string s0, .int .i64 r0, .float .f64 f1, .string s1, .int .i64 r1] (.cons ⟨_, rfl⟩ (.cons ⟨_, rfl⟩ (.cons hr0 (.cons ⟨_, rfl⟩ (.cons ⟨_, rfl⟩ (.cons hr1 .nil)))))) (fun g hg => by cases hg) rfl w
  · have h1 : True := trivial; exact Sx.lem_true_pre k6_1_ok rfl rfl [.float .f64 f0, .string s0, .int .i64 r0, .float .f64 f1, .string s1, .int .i64 r1] (.cons ⟨_, rfl⟩ (.cons ⟨_, rfl⟩ (.cons hr0 (.cons ⟨_, rfl⟩ (.cons ⟨_, rfl⟩ (.cons hr1 .nil)))))) (fun g hg => by cases hg) rfl w
  · rcases Sx.float_cases f1 with hf | hf
    · have h1 : Sx.hasTy (.float .f64 f1) .nan := hf; exact Sx.lem_true_pre k6_2n_ok rfl rfl [.float .f64 f0, .string s0, .int .i64 r0, .float .f64 f1, .string s1, .int .i64 r1] (.cons ⟨_, rfl⟩ (.cons ⟨_, rfl⟩ (.cons hr0 (.cons h1 (.cons ⟨_, rfl⟩ (.cons hr1 .nil)))))) (fun g hg => by cases hg) rfl w
    · by_cases ho : f1 = 4607182418800017408
      · subst ho; exact Sx.lem_true_pre k6_2o_ok rfl rfl [.float .f64 f0, .string s0, .int .i64 r0, .string s1, .int .i64 r1] (.cons ⟨_, rfl⟩ (.cons ⟨_, rfl⟩ (.cons hr0 (.cons ⟨_, rfl⟩ (.cons hr1 .nil))))) (fun g hg => by cases hg) rfl w
      · have h1 : Sx.hasTy (.float .f64 f1) .num ∧ f1 ≠ 4607182418800017408 := ⟨hf, ho⟩; exact Sx.lem_true_pre k6_2_ok rfl rfl [.float .f64 f0, .string s0, .int .i64 r0, .float .f64 f1, .string s1, .int .i64 r1] (.cons ⟨_, rfl⟩ (.cons ⟨_, rfl⟩ (.cons hr0 (.cons h1.1 (.cons ⟨_, rfl⟩ (.cons hr1 .nil)))))) (fun g hg z hz => by obtain rfl := List.mem_singleton.1 hg; exact Sx.notOne_ok (c := c6_2) (n := 3) rfl b1 h1.2 z hz) rfl w
  · rcases Sx.float_cases f1 with hf | hf
    · have h1 : Sx.hasTy (.float .f64 f1) .nan := hf; exact Sx.lem_true_pre k6_3n_ok rfl rfl [.float .f64 f0, .string s0, .int .i64 r0, .float .f64 f1, .string s1, .int .i64 r1] (.cons ⟨_, rfl⟩ (.cons ⟨_, rfl⟩ (.cons hr0 (.cons h1 (.cons ⟨_, rfl⟩ (.cons hr1 .nil)))))) (fun g hg => by cases hg) rfl w
    · have h1 : Sx.hasTy (.float .f64 f1) .num ∧ True := ⟨hf, trivial⟩; exact Sx.lem_true_pre k6_3_ok rfl rfl [.float .f64 f0, .string s0, .int .i64 r0, .float .f64 f1, .string s1, .int .i64 r1] (.cons ⟨_, rfl⟩ (.cons ⟨_, rfl⟩ (.cons hr0 (.cons h1.1 (.cons ⟨_, rfl⟩ (.cons hr1 .nil)))))) (fun g hg => by cases hg) rfl w
  · have h1 : True := trivial; exact Sx.lem_true_pre k6_4_ok rfl rfl [.float .f64 f0, .string s0, .int .i64 r0, .float .f64 f1, .string s1, .int .i64 r1] (.cons ⟨_, rfl⟩ (.cons ⟨_, rfl⟩ (.cons hr0 (.cons ⟨_, rfl⟩ (.cons ⟨_, rfl⟩ (.cons hr1 .nil)))))) (fun g hg => by cases hg) rfl w
  · have h1 : True := trivial; exact Sx.lem_true_pre k6_5_ok rfl rfl [.float .f64 f0, .string s0, .int .i64 r0, .float .f64 f1, .string s1, .int .i64 r1] (.cons ⟨_, rfl⟩ (.cons ⟨_, rfl⟩ (.cons hr0 (.cons ⟨_, rfl⟩ (.cons ⟨_, rfl⟩ (.cons hr1 .nil)))))) (fun g hg => by cases hg) rfl w
  · have h1 : True := trivial; exact Sx.lem_true_pre k6_6_ok rfl rfl [.float .f64 f0, .string s0, .int .i64 r0, .float .f64 f1, .string s1, .int .i64 r1] (.cons ⟨_, rfl⟩ (.cons ⟨_, rfl⟩ (.cons hr0 (.cons ⟨_, rfl⟩ (.cons ⟨_, rfl⟩ (.cons hr1 .nil)))))) (fun g hg => by cases hg) rfl w
  · have h1 : True := trivial; exact Sx.lem_true_pre k6_7_ok rfl rfl [.float .f64 f0, .string s0, .int .i64 r0, .float .f64 f1, .string s1, .int .i64 r1] (.cons ⟨_, rfl⟩ (.cons ⟨_, rfl⟩ (.cons hr0 (.cons ⟨_, rfl⟩ (.cons ⟨_, rfl⟩ (.cons hr1 .nil)))))) (fun g hg => by cases hg) rfl w
  · have h1 : True := trivial; exact Sx.lem_true_pre k6_8_ok rfl rfl [.float .f64 f0, .string s0, .int .i64 r0, .float .f64 f1, .string s1, .int .i64 r1] (.cons ⟨_, rfl⟩ (.cons ⟨_, rfl⟩ (.cons hr0 (.cons ⟨_, rfl⟩ (.cons ⟨_, rfl⟩ (.cons hr1 .nil)))))) (fun g hg => by cases hg) rfl w
  · have h1 : 9 ≤ k1 ∧ k1 ≤ 255 := ⟨h91, by omega⟩; exact Sx.lem_true_pre k6_9_ok rfl rfl [.float .f64 f0, .string s0, .int .i64 r0, .float .f64 f1, .string s1, .int .i64 r1, .int .u8 k1] (.cons ⟨_, rfl⟩ (.cons ⟨_, rfl⟩ (.cons hr0 (.cons ⟨_, rfl⟩ (.cons ⟨_, rfl⟩ (.cons hr1 (.cons ⟨_, rfl, h1.1, fun _ e => by cases e; exact h1.2⟩ .nil))))))) (fun g hg => by cases hg) rfl w
open Sx in
noncomputable abbrev c7_2 := cfgB baseRead (sumL [(16, lemsX c0 [alive]), (23, lemsX c0 mays), (8, lemsX c1 [e0_7, e1_7, e2_7, e2o_7, e3_7, e3n_7, e4_7, e5_7, e6_7, e7_0, e7_1, e7_2, e7_2o, e7_3, e7_3n, e7_4, e7_5, e7_6, e7_7, e7_8, e8_7])]) fun _ => none
open Sx in
instance sok7_2 (F : Wd) : SOk c7_2 F := sumL_ok (c := c7_2) rfl (fun x hx => by
  simp only [List.mem_cons, List.not_mem_nil, or_false] at hx
  rcases hx with rfl | rfl | rfl
  · exact TrOk.cfg (c := c0) (c' := c7_2) rfl rfl (lemsX_tr (fun L hL => by simp only [List.mem_singleton] at hL; subst hL; exact alive_ok))
  · exact TrOk.cfg (c := c0) (c' := c7_2) rfl rfl (lemsX_tr mays_ok)
  · refine TrOk.cfg (c := c1) (c' := c7_2) rfl rfl (lemsX_tr (fun L hL => ?_))
    simp only [List.mem_cons, List.not_mem_nil, or_false] at hL
    rcases hL with rfl | rfl | rfl | rfl | rfl | rfl | rfl | rfl | rfl | rfl | rfl | rfl | rfl | rfl | rfl | rfl | rfl | rfl | rfl | rfl | rfl
    · exact e0_7_ok
    · exact e1_7_ok
    · exact e2_7_ok
    · exact e2o_7_ok
    · exact e3_7_ok
    · exact e3n_7_ok
    · exact e4_7_ok
    · exact e5_7_ok
    · exact e6_7_ok
    · exact e7_0_ok
    · exact e7_1_ok
    · exact e7_2_ok
    · exact e7_2o_ok
    · exact e7_3_ok
    · exact e7_3n_ok
    · exact e7_4_ok
    · exact e7_5_ok
    · exact e7_6_ok
    · exact e7_7_ok
    · exact e7_8_ok
    · exact e8_7_ok
  )
open Sx in
noncomputable def k7_0 : Lem := ⟨[.f64, .str, fullTy .i64, .f64, .str, fullTy .i64], [], [], [(.agg (.cons (.k (.int .u8 7)) (.cons (.var 0) (.cons (.var 1) (.cons (.var 2) .nil))))), (.agg (.cons (.k (.int .u8 0)) (.cons (.var 3) (.cons (.var 4) (.cons (.var 5) .nil)))))], [⟨[], [], (.k (.bool true))⟩]⟩
open Sx in
set_option maxRecDepth 100000 in
theorem k7_0_ok : LemOk c7_2 7 k7_0 := lem_of_run (n := 200) (by kernel_rfl)
open Sx in
noncomputable def k7_1 : Lem := ⟨[.f64, .str, fullTy .i64, .f64, .str, fullTy .i64], [], [], [(.agg (.cons (.k (.int .u8 7)) (.cons (.var 0) (.cons (.var 1) (.cons (.var 2) .nil))))), (.agg (.cons (.k (.int .u8 1)) (.cons (.var 3) (.cons (.var 4) (.cons (.var 5) .nil)))))], [⟨[], [], (.k (.bool true))⟩]⟩
open Sx in
set_option maxRecDepth 100000 in
theorem k7_1_ok : LemOk c7_2 7 k7_1 := lem_of_run (n := 200) (by kernel_rfl)
open Sx in
noncomputable def k7_2n : Lem := ⟨[.f64, .str, fullTy .i64, .nan, .str, fullTy .i64], [], [], [(.agg (.cons (.k (.int .u8 7)) (.cons (.var 0) (.cons (.var 1) (.cons (.var 2) .nil))))), (.agg (.cons (.k (.int .u8 2)) (.cons (.var 3) (.cons (.var 4) (.cons (.var 5) .nil)))))], [⟨[], [], (.k (.bool true))⟩]⟩
open Sx in
set_option maxRecDepth 100000 in
theorem k7_2n_ok : LemOk c7_2 7 k7_2n := lem_of_run (n := 200) (by kernel_rfl)
open Sx in
noncomputable def k7_2o : Lem := ⟨[.f64, .str, fullTy .i64, .str, fullTy .i64], [], [], [(.agg (.cons (.k (.int .u8 7)) (.cons (.var 0) (.cons (.var 1) (.cons (.var 2) .nil))))), (.agg (.cons (.k (.int .u8 2)) (.cons (.k (.float .f64 4607182418800017408)) (.cons (.var 3) (.cons (.var 4) .nil)))))], [⟨[], [], (.k (.bool true))⟩]⟩
open Sx in
set_option maxRecDepth 100000 in
theorem k7_2o_ok : LemOk c7_2 7 k7_2o := lem_of_run (n := 200) (by kernel_rfl)
open Sx in
noncomputable def k7_2 : Lem := ⟨[.f64, .str, fullTy .i64, .num, .str, fullTy .i64], [], [((.prim (.bin .eql 0 false) (.cons (.var 3) (.cons (.k (.float .f64 4607182418800017408)) .nil))), false)], [(.agg (.cons (.k (.int .u8 7)) (.cons (.var 0) (.cons (.var 1) (.cons (.var 2) .nil))))), (.agg (.cons (.k (.int .u8 2)) (.cons (.var 3) (.cons (.var 4) (.cons (.var 5) .nil)))))], [⟨[], [], (.k (.bool true))⟩]⟩
open Sx in
set_option maxRecDepth 100000 in
theorem k7_2_ok : LemOk c7_2 7 k7_2 := lem_of_run (n := 200) (by kernel_rfl)
open Sx in
noncomputable def k7_3n : Lem := ⟨[.f64, .str, fullTy .i64, .nan, .str, fullTy .i64], [], [], [(.agg (.cons (.k (.int .u8 7)) (.cons (.var 0) (.cons (.var 1) (.cons (.var 2) .nil))))), (.agg (.cons (.k (.int .u8 3)) (.cons (.var 3) (.cons (.var 4) (.cons (.var 5) .nil)))))], [⟨[], [], (.k (.bool true))⟩]⟩
open Sx in
set_option maxRecDepth 100000 in
theorem k7_3n_ok : LemOk c7_2 7 k7_3n := lem_of_run (n := 200) (by kernel_rfl)
open Sx in
noncomputable def k7_3 : Lem := ⟨[.f64, .str, fullTy .i64, .num, .str, fullTy .i64], [], [], [(.agg (.cons (.k (.int .u8 7)) (.cons (.var 0) (.cons (.var 1) (.cons (.var 2) .nil))))), (.agg (.cons (.k (.int .u8 3)) (.cons (.var 3) (.cons (.var 4) (.cons (.var 5) .nil)))))], [⟨[], [], (.k (.bool true))⟩]⟩
open Sx in
set_option maxRecDepth 100000 in
theorem k7_3_ok : LemOk c7_2 7 k7_3 := lem_of_run (n := 200) (by kernel_rfl)
open Sx in
noncomputable def k7_4 : Lem := ⟨[.f64, .str, fullTy .i64, .f64, .str, fullTy .i64], [], [], [(.agg (.cons (.k (.int .u8 7)) (.cons (.var 0) (.cons (.var 1) (.cons (.var 2) .nil))))), (.agg (.cons (.k (.int .u8 4)) (.cons (.var 3) (.cons (.var 4) (.cons (.var 5) .nil)))))], [⟨[], [], (.k (.bool true))⟩]⟩
open Sx in
set_option maxRecDepth 100000 in
theorem k7_4_ok : LemOk c7_2 7 k7_4 := lem_of_run (n := 200) (by kernel_rfl)
open Sx in
noncomputable def k7_5 : Lem := ⟨[.f64, .str, fullTy .i64, .f64, .str, fullTy .i64], [], [], [(.agg (.cons (.k (.int .u8 7)) (.cons (.var 0) (.cons (.var 1) (.cons (.var 2) .nil))))), (.agg (.cons (.k (.int .u8 5)) (.cons (.var 3) (.cons (.var 4) (.cons (.var 5) .nil)))))], [⟨[], [], (.k (.bool true))⟩]⟩
open Sx in
set_option maxRecDepth 100000 in
theorem k7_5_ok : LemOk c7_2 7 k7_5 := lem_of_run (n := 200) (by kernel_rfl)
open Sx in
noncomputable def k7_6 : Lem := ⟨[.f64, .str, fullTy .i64, .f64, .str, fullTy .i64], [], [], [(.agg (.cons (.k (.int .u8 7)) (.cons (.var 0) (.cons (.var 1) (.cons (.var 2) .nil))))), (.agg (.cons (.k (.int .u8 6)) (.cons (.var 3) (.cons (.var 4) (.cons (.var 5) .nil)))))], [⟨[], [], (.k (.bool true))⟩]⟩
open Sx in
set_option maxRecDepth 100000 in
theorem k7_6_ok : LemOk c7_2 7 k7_6 := lem_of_run (n := 200) (by kernel_rfl)
open Sx in
noncomputable def k7_7 : Lem := ⟨[.f64, .str, fullTy .i64, .f64, .str, fullTy .i64], [], [], [(.agg (.cons (.k (.int .u8 7)) (.cons (.var 0) (.cons (.var 1) (.cons (.var 2) .nil))))), (.agg (.cons (.k (.int .u8 7)) (.cons (.var 3) (.cons (.var 4) (.cons (.var 5) .nil)))))], [⟨[], [], (.k (.bool true))⟩]⟩
open Sx in
set_option maxRecDepth 100000 in
theorem k7_7_ok : LemOk c7_2 7 k7_7 := lem_of_run (n := 200) (by kernel_rfl)
open Sx in
noncomputable def k7_8 : Lem := ⟨[.f64, .str, fullTy .i64, .f64, .str, fullTy .i64], [], [], [(.agg (.cons (.k (.int .u8 7)) (.cons (.var 0) (.cons (.var 1) (.cons (.var 2) .nil))))), (.agg (.cons (.k (.int .u8 8)) (.cons (.var 3) (.cons (.var 4) (.cons (.var 5) .nil)))))], [⟨[], [], (.k (.bool true))⟩]⟩
open Sx in
set_option maxRecDepth 100000 in
theorem k7_8_ok : LemOk c7_2 7 k7_8 := lem_of_run (n := 200) (by kernel_rfl)
open Sx in
noncomputable def k7_9 : Lem := ⟨[.f64, .str, fullTy .i64, .f64, .str, fullTy .i64, (.int .u8 9 (some 255))], [], [], [(.agg (.cons (.k (.int .u8 7)) (.cons (.var 0) (.cons (.var 1) (.cons (.var 2) .nil))))), (.agg (.cons (.var 6) (.cons (.var 3) (.cons (.var 4) (.cons (.var 5) .nil)))))], [⟨[], [], (.k (.bool true))⟩]⟩
open Sx in
set_option maxRecDepth 100000 in
theorem k7_9_ok : LemOk c7_2 7 k7_9 := lem_of_run (n := 200) (by kernel_rfl)
theorem row7 (f0 : Nat) (s0 : ByteArray) (r0 : Int) (k1 : Int) (f1 : Nat) (s1 : ByteArray) (r1 : Int) (hr0 : Sx.hasTy (.int .i64 r0) (Sx.fullTy .i64)) (hr1 : Sx.hasTy (.int .i64 r1) (Sx.fullTy .i64)) (l1 : 0 ≤ k1) (u1 : k1 ≤ 255) (b0 : f0 < 2 ^ 64) (b1 : f1 < 2 ^ 64)
    (h0 : True) (w : World) :
    Calls Tryz.prog 7 #[.agg #[.int .u8 7, .float .f64 f0, .string s0, .int .i64 r0], .agg #[.int .u8 k1, .float .f64 f1, .string s1, .int .i64 r1]] w fun e w' => e = .returned (.bool true) ∧ Below w.heap.size w w' := by
  have q1 : k1 = 0 ∨ k1 = 1 ∨ k1 = 2 ∨ k1 = 3 ∨ k1 = 4 ∨ k1 = 5 ∨ k1 = 6 ∨ k1 = 7 ∨ k1 = 8 ∨ 9 ≤ k1 := by omega
  rcases q1 with rfl | rfl | rfl | rfl | rfl | rfl | rfl | rfl | rfl | h91
  · have h1 : True := trivial; exact Sx.lem_true_pre k7_0_ok rfl rfl [.float .f64 f0, .string s0, .int .i64 r0, .float .f64 f1, .string s1, .int .i64 r1] (.cons ⟨_, rfl⟩ (.cons ⟨_, rfl⟩ (.cons hr0 (.cons ⟨_, rfl⟩ (.cons ⟨_, rfl⟩ (.cons hr1 .nil)))))) (fun g hg => by cases hg) rfl w
  · have h1 : True := trivial; exact Sx.lem_true_pre k7_1_ok rfl rfl [.float .f64 f0, .string s0, .int .i64 r0, .float .f64 f1, .string s1, .int .i64 r1] (.cons ⟨_, rfl⟩ (.cons ⟨_, rfl⟩ (.cons hr0 (.cons ⟨_, rfl⟩ (.cons ⟨_, rfl⟩ (.cons hr1 .nil)))))) (fun g hg => by cases hg) rfl w
  · rcases Sx.float_cases f1 with hf | hf
    · have h1 : Sx.hasTy (.float .f64 f1) .nan := hf; exact Sx.lem_true_pre k7_2n_ok rfl rfl [.float .f64 f0, .string s0, .int .i64 r0, .float .f64 f1, .string s1, .int .i64 r1] (.cons ⟨_, rfl⟩ (.cons ⟨_, rfl⟩ (.cons hr0 (.cons h1 (.cons ⟨_, rfl⟩ (.cons hr1 .nil)))))) (fun g hg => by cases hg) rfl w
    · by_cases ho : f1 = 4607182418800017408
      · subst ho; exact Sx.lem_true_pre k7_2o_ok rfl rfl [.float .f64 f0, .string s0, .int .i64 r0, .string s1, .int .i64 r1] (.cons ⟨_, rfl⟩ (.cons ⟨_, rfl⟩ (.cons hr0 (.cons ⟨_, rfl⟩ (.cons hr1 .nil))))) (fun g hg => by cases hg) rfl w
      · have h1 : Sx.hasTy (.float .f64 f1) .num ∧ f1 ≠ 4607182418800017408 := ⟨hf, ho⟩; exact Sx.lem_true_pre k7_2_ok rfl rfl [.float .f64 f0, .string s0, .int .i64 r0, .float .f64 f1, .string s1, .int .i64 r1] (.cons ⟨_, rfl⟩ (.cons ⟨_, rfl⟩ (.cons hr0 (.cons h1.1 (.cons ⟨_, rfl⟩ (.cons hr1 .nil)))))) (fun g hg z hz => by obtain rfl := List.mem_singleton.1 hg; exact Sx.notOne_ok (c := c7_2) (n := 3) rfl b1 h1.2 z hz) rfl w
  · rcases Sx.float_cases f1 with hf | hf
    · have h1 : Sx.hasTy (.float .f64 f1) .nan := hf; exact Sx.lem_true_pre k7_3n_ok rfl rfl [.float .f64 f0, .string s0, .int .i64 r0, .float .f64 f1, .string s1, .int .i64 r1] (.cons ⟨_, rfl⟩ (.cons ⟨_, rfl⟩ (.cons hr0 (.cons h1 (.cons ⟨_, rfl⟩ (.cons hr1 .nil)))))) (fun g hg => by cases hg) rfl w
    · have h1 : Sx.hasTy (.float .f64 f1) .num ∧ True := ⟨hf, trivial⟩; exact Sx.lem_true_pre k7_3_ok rfl rfl [.float .f64 f0, .string s0, .int .i64 r0, .float .f64 f1, .string s1, .int .i64 r1] (.cons ⟨_, rfl⟩ (.cons ⟨_, rfl⟩ (.cons hr0 (.cons h1.1 (.cons ⟨_, rfl⟩ (.cons hr1 .nil)))))) (fun g hg => by cases hg) rfl w
  · have h1 : True := trivial; exact Sx.lem_true_pre k7_4_ok rfl rfl [.float .f64 f0, .string s0, .int .i64 r0, .float .f64 f1, .string s1, .int .i64 r1] (.cons ⟨_, rfl⟩ (.cons ⟨_, rfl⟩ (.cons hr0 (.cons ⟨_, rfl⟩ (.cons ⟨_, rfl⟩ (.cons hr1 .nil)))))) (fun g hg => by cases hg) rfl w
  · have h1 : True := trivial; exact Sx.lem_true_pre k7_5_ok rfl rfl [.float .f64 f0, .string s0, .int .i64 r0, .float .f64 f1, .string s1, .int .i64 r1] (.cons ⟨_, rfl⟩ (.cons ⟨_, rfl⟩ (.cons hr0 (.cons ⟨_, rfl⟩ (.cons ⟨_, rfl⟩ (.cons hr1 .nil)))))) (fun g hg => by cases hg) rfl w
  · have h1 : True := trivial; exact Sx.lem_true_pre k7_6_ok rfl rfl [.float .f64 f0, .string s0, .int .i64 r0, .float .f64 f1, .string s1, .int .i64 r1] (.cons ⟨_, rfl⟩ (.cons ⟨_, rfl⟩ (.cons hr0 (.cons ⟨_, rfl⟩ (.cons ⟨_, rfl⟩ (.cons hr1 .nil)))))) (fun g hg => by cases hg) rfl w
  · have h1 : True := trivial; exact Sx.lem_true_pre k7_7_ok rfl rfl [.float .f64 f0, .string s0, .int .i64 r0, .float .f64 f1, .string s1, .int .i64 r1] (.cons ⟨_, rfl⟩ (.cons ⟨_, rfl⟩ (.cons hr0 (.cons ⟨_, rfl⟩ (.cons ⟨_, rfl⟩ (.cons hr1 .nil)))))) (fun g hg => by cases hg) rfl w
  · have h1 : True := trivial; exact Sx.lem_true_pre k7_8_ok rfl rfl [.float .f64 f0, .string s0, .int .i64 r0, .float .f64 f1, .string s1, .int .i64 r1] (.cons ⟨_, rfl⟩ (.cons ⟨_, rfl⟩ (.cons hr0 (.cons ⟨_, rfl⟩ (.cons ⟨_, rfl⟩ (.cons hr1 .nil)))))) (fun g hg => by cases hg) rfl w
  · have h1 : 9 ≤ k1 ∧ k1 ≤ 255 := ⟨h91, by omega⟩; exact Sx.lem_true_pre k7_9_ok rfl rfl [.float .f64 f0, .string s0, .int .i64 r0, .float .f64 f1, .string s1, .int .i64 r1, .int .u8 k1] (.cons ⟨_, rfl⟩ (.cons ⟨_, rfl⟩ (.cons hr0 (.cons ⟨_, rfl⟩ (.cons ⟨_, rfl⟩ (.cons hr1 (.cons ⟨_, rfl, h1.1, fun _ e => by cases e; exact h1.2⟩ .nil))))))) (fun g hg => by cases hg) rfl w
end Go.Proofs.YtobghgfmdjknlaaGreat.coerceLike
