/- CoerceLike: the law where the first value is of one kind: each pair a form, and the row. -/
import Derived.Test.YtobghgfmdjknlaaGreatSxLaw
import Derived.Test.YtobghgfmdjknlaaGreatCoerceLikeE0
import Derived.Test.YtobghgfmdjknlaaGreatCoerceLikeE1
import Derived.Test.YtobghgfmdjknlaaGreatCoerceLikeE2
import Derived.Test.YtobghgfmdjknlaaGreatCoerceLikeE3
import Derived.Test.YtobghgfmdjknlaaGreatCoerceLikeE4
namespace Go.Proofs.YtobghgfmdjknlaaGreat.coerceLike
open Go Go.RowKit
set_option linter.unusedVariables false
open Sx in
noncomputable abbrev c8_2 := cfgB baseRead (sumL [(16, lemsX c0 [alive]), (23, lemsX c0 mays), (8, lemsX c1 [e0_8, e1_8, e2_8, e2o_8, e3_8, e3n_8, e4_8, e5_8, e6_8, e7_8, e8_0, e8_1, e8_2, e8_2o, e8_3, e8_3n, e8_4, e8_5, e8_6, e8_7, e8_8])]) fun _ => none
open Sx in
instance sok8_2 (F : Wd) : SOk c8_2 F := sumL_ok (c := c8_2) rfl (fun x hx => by
  simp only [List.mem_cons, List.not_mem_nil, or_false] at hx
  rcases hx with rfl | rfl | rfl
  · exact TrOk.cfg (c := c0) (c' := c8_2) rfl rfl (lemsX_tr (fun L hL => by simp only [List.mem_singleton] at hL; subst hL; exact alive_ok))
  · exact TrOk.cfg (c := c0) (c' := c8_2) rfl rfl (lemsX_tr mays_ok)
  · refine TrOk.cfg (c := c1) (c' := c8_2) rfl rfl (lemsX_tr (fun L hL => ?_))
    simp only [List.mem_cons, List.not_mem_nil, or_false] at hL
    rcases hL with rfl | rfl | rfl | rfl | rfl | rfl | rfl | rfl | rfl | rfl | rfl | rfl | rfl | rfl | rfl | rfl | rfl | rfl | rfl | rfl | rfl
    · exact e0_8_ok
    · exact e1_8_ok
    · exact e2_8_ok
    · exact e2o_8_ok
    · exact e3_8_ok
    · exact e3n_8_ok
    · exact e4_8_ok
    · exact e5_8_ok
    · exact e6_8_ok
    · exact e7_8_ok
    · exact e8_0_ok
    · exact e8_1_ok
    · exact e8_2_ok
    · exact e8_2o_ok
    · exact e8_3_ok
    · exact e8_3n_ok
    · exact e8_4_ok
    · exact e8_5_ok
    · exact e8_6_ok
    · exact e8_7_ok
    · exact e8_8_ok
  )
open Sx in
noncomputable def k8_0 : Lem := ⟨[.f64, .str, fullTy .i64, .f64, .str, fullTy .i64], [], [], [(.agg (.cons (.k (.int .u8 8)) (.cons (.var 0) (.cons (.var 1) (.cons (.var 2) .nil))))), (.agg (.cons (.k (.int .u8 0)) (.cons (.var 3) (.cons (.var 4) (.cons (.var 5) .nil)))))], [⟨[], [], (.k (.bool true))⟩]⟩
open Sx in
set_option maxRecDepth 100000 in
theorem k8_0_ok : LemOk c8_2 7 k8_0 := lem_of_run (n := 200) (by kernel_rfl)
open Sx in
noncomputable def k8_1 : Lem := ⟨[.f64, .str, fullTy .i64, .f64, .str, fullTy .i64], [], [], [(.agg (.cons (.k (.int .u8 8)) (.cons (.var 0) (.cons (.var 1) (.cons (.var 2) .nil))))), (.agg (.cons (.k (.int .u8 1)) (.cons (.var 3) (.cons (.var 4) (.cons (.var 5) .nil)))))], [⟨[], [], (.k (.bool true))⟩]⟩
open Sx in
set_option maxRecDepth 100000 in
theorem k8_1_ok : LemOk c8_2 7 k8_1 := lem_of_run (n := 200) (by kernel_rfl)
open Sx in
noncomputable def k8_2n : Lem := ⟨[.f64, .str, fullTy .i64, .nan, .str, fullTy .i64], [], [], [(.agg (.cons (.k (.int .u8 8)) (.cons (.var 0) (.cons (.var 1) (.cons (.var 2) .nil))))), (.agg (.cons (.k (.int .u8 2)) (.cons (.var 3) (.cons (.var 4) (.cons (.var 5) .nil)))))], [⟨[], [], (.k (.bool true))⟩]⟩
open Sx in
set_option maxRecDepth 100000 in
theorem k8_2n_ok : LemOk c8_2 7 k8_2n := lem_of_run (n := 200) (by kernel_rfl)
open Sx in
noncomputable def k8_2o : Lem := ⟨[.f64, .str, fullTy .i64, .str, fullTy .i64], [], [], [(.agg (.cons (.k (.int .u8 8)) (.cons (.var 0) (.cons (.var 1) (.cons (.var 2) .nil))))), (.agg (.cons (.k (.int .u8 2)) (.cons (.k (.float .f64 4607182418800017408)) (.cons (.var 3) (.cons (.var 4) .nil)))))], [⟨[], [], (.k (.bool true))⟩]⟩
open Sx in
set_option maxRecDepth 100000 in
theorem k8_2o_ok : LemOk c8_2 7 k8_2o := lem_of_run (n := 200) (by kernel_rfl)
open Sx in
noncomputable def k8_2 : Lem := ⟨[.f64, .str, fullTy .i64, .num, .str, fullTy .i64], [], [((.prim (.bin .eql 0 false) (.cons (.var 3) (.cons (.k (.float .f64 4607182418800017408)) .nil))), false)], [(.agg (.cons (.k (.int .u8 8)) (.cons (.var 0) (.cons (.var 1) (.cons (.var 2) .nil))))), (.agg (.cons (.k (.int .u8 2)) (.cons (.var 3) (.cons (.var 4) (.cons (.var 5) .nil)))))], [⟨[], [], (.k (.bool true))⟩]⟩
open Sx in
set_option maxRecDepth 100000 in
theorem k8_2_ok : LemOk c8_2 7 k8_2 := lem_of_run (n := 200) (by kernel_rfl)
open Sx in
noncomputable def k8_3n : Lem := ⟨[.f64, .str, fullTy .i64, .nan, .str, fullTy .i64], [], [], [(.agg (.cons (.k (.int .u8 8)) (.cons (.var 0) (.cons (.var 1) (.cons (.var 2) .nil))))), (.agg (.cons (.k (.int .u8 3)) (.cons (.var 3) (.cons (.var 4) (.cons (.var 5) .nil)))))], [⟨[], [], (.k (.bool true))⟩]⟩
open Sx in
set_option maxRecDepth 100000 in
theorem k8_3n_ok : LemOk c8_2 7 k8_3n := lem_of_run (n := 200) (by kernel_rfl)
open Sx in
noncomputable def k8_3 : Lem := ⟨[.f64, .str, fullTy .i64, .num, .str, fullTy .i64], [], [], [(.agg (.cons (.k (.int .u8 8)) (.cons (.var 0) (.cons (.var 1) (.cons (.var 2) .nil))))), (.agg (.cons (.k (.int .u8 3)) (.cons (.var 3) (.cons (.var 4) (.cons (.var 5) .nil)))))], [⟨[], [], (.k (.bool true))⟩]⟩
open Sx in
set_option maxRecDepth 100000 in
theorem k8_3_ok : LemOk c8_2 7 k8_3 := lem_of_run (n := 200) (by kernel_rfl)
open Sx in
noncomputable def k8_4 : Lem := ⟨[.f64, .str, fullTy .i64, .f64, .str, fullTy .i64], [], [], [(.agg (.cons (.k (.int .u8 8)) (.cons (.var 0) (.cons (.var 1) (.cons (.var 2) .nil))))), (.agg (.cons (.k (.int .u8 4)) (.cons (.var 3) (.cons (.var 4) (.cons (.var 5) .nil)))))], [⟨[], [], (.k (.bool true))⟩]⟩
open Sx in
set_option maxRecDepth 100000 in
theorem k8_4_ok : LemOk c8_2 7 k8_4 := lem_of_run (n := 200) (by kernel_rfl)
open Sx in
noncomputable def k8_5 : Lem := ⟨[.f64, .str, fullTy .i64, .f64, .str, fullTy .i64], [], [], [(.agg (.cons (.k (.int .u8 8)) (.cons (.var 0) (.cons (.var 1) (.cons (.var 2) .nil))))), (.agg (.cons (.k (.int .u8 5)) (.cons (.var 3) (.cons (.var 4) (.cons (.var 5) .nil)))))], [⟨[], [], (.k (.bool true))⟩]⟩
open Sx in
set_option maxRecDepth 100000 in
theorem k8_5_ok : LemOk c8_2 7 k8_5 := lem_of_run (n := 200) (by kernel_rfl)
open Sx in
noncomputable def k8_6 : Lem := ⟨[.f64, .str, fullTy .i64, .f64, .str, fullTy .i64], [], [], [(.agg (.cons (.k (.int .u8 8)) (.cons (.var 0) (.cons (.var 1) (.cons (.var 2) .nil))))), (.agg (.cons (.k (.int .u8 6)) (.cons (.var 3) (.cons (.var 4) (.cons (.var 5) .nil)))))], [⟨[], [], (.k (.bool true))⟩]⟩
open Sx in
set_option maxRecDepth 100000 in
theorem k8_6_ok : LemOk c8_2 7 k8_6 := lem_of_run (n := 200) (by kernel_rfl)
open Sx in
noncomputable def k8_7 : Lem := ⟨[.f64, .str, fullTy .i64, .f64, .str, fullTy .i64], [], [], [(.agg (.cons (.k (.int .u8 8)) (.cons (.var 0) (.cons (.var 1) (.cons (.var 2) .nil))))), (.agg (.cons (.k (.int .u8 7)) (.cons (.var 3) (.cons (.var 4) (.cons (.var 5) .nil)))))], [⟨[], [], (.k (.bool true))⟩]⟩
open Sx in
set_option maxRecDepth 100000 in
theorem k8_7_ok : LemOk c8_2 7 k8_7 := lem_of_run (n := 200) (by kernel_rfl)
open Sx in
noncomputable def k8_8 : Lem := ⟨[.f64, .str, fullTy .i64, .f64, .str, fullTy .i64], [], [], [(.agg (.cons (.k (.int .u8 8)) (.cons (.var 0) (.cons (.var 1) (.cons (.var 2) .nil))))), (.agg (.cons (.k (.int .u8 8)) (.cons (.var 3) (.cons (.var 4) (.cons (.var 5) .nil)))))], [⟨[], [], (.k (.bool true))⟩]⟩
open Sx in
set_option maxRecDepth 100000 in
theorem k8_8_ok : LemOk c8_2 7 k8_8 := lem_of_run (n := 200) (by kernel_rfl)
open Sx in
noncomputable def k8_9 : Lem := ⟨[.f64, .str, fullTy .i64, .f64, .str, fullTy .i64, (.int .u8 9 (some 255))], [], [], [(.agg (.cons (.k (.int .u8 8)) (.cons (.var 0) (.cons (.var 1) (.cons (.var 2) .nil))))), (.agg (.cons (.var 6) (.cons (.var 3) (.cons (.var 4) (.cons (.var 5) .nil)))))], [⟨[], [], (.k (.bool true))⟩]⟩
open Sx in
set_option maxRecDepth 100000 in
theorem k8_9_ok : LemOk c8_2 7 k8_9 := lem_of_run (n := 200) (by kernel_rfl)
theorem row8 (f0 : Nat) (s0 : ByteArray) (r0 : Int) (k1 : Int) (f1 : Nat) (s1 : ByteArray) (r1 : Int) (hr0 : Sx.hasTy (.int .i64 r0) (Sx.fullTy .i64)) (hr1 : Sx.hasTy (.int .i64 r1) (Sx.fullTy .i64)) (l1 : 0 ≤ k1) (u1 : k1 ≤ 255) (b0 : f0 < 2 ^ 64) (b1 : f1 < 2 ^ 64)
    (h0 : True) (w : World) :
    Calls Tryz.prog 7 #[.agg #[.int .u8 8, .float .f64 f0, .string s0, .int .i64 r0], .agg #[.int .u8 k1, .float .f64 f1, .string s1, .int .i64 r1]] w fun e w' => e = .returned (.bool true) ∧ Below w.heap.size w w' := by
  have q1 : k1 = 0 ∨ k1 = 1 ∨ k1 = 2 ∨ k1 = 3 ∨ k1 = 4 ∨ k1 = 5 ∨ k1 = 6 ∨ k1 = 7 ∨ k1 = 8 ∨ 9 ≤ k1 := by omega
  rcases q1 with rfl | rfl | rfl | rfl | rfl | rfl | rfl | rfl | rfl | h91
  · have h1 : True := trivial; exact Sx.lem_true_pre k8_0_ok rfl rfl [.float .f64 f0, .string s0, .int .i64 r0, .float .f64 f1, .string s1, .int .i64 r1] (.cons ⟨_, rfl⟩ (.cons ⟨_, rfl⟩ (.cons hr0 (.cons ⟨_, rfl⟩ (.cons ⟨_, rfl⟩ (.cons hr1 .nil)))))) (fun g hg => by cases hg) rfl w
  · have h1 : True := trivial; exact Sx.lem_true_pre k8_1_ok rfl rfl [.float .f64 f0, .string s0, .int .i64 r0, .float .f64 f1, .string s1, .int .i64 r1] (.cons ⟨_, rfl⟩ (.cons ⟨_, rfl⟩ (.cons hr0 (.cons ⟨_, rfl⟩ (.cons ⟨_, rfl⟩ (.cons hr1 .nil)))))) (fun g hg => by cases hg) rfl w
  · rcases Sx.float_cases f1 with hf | hf
    · have h1 : Sx.hasTy (.float .f64 f1) .nan := hf; exact Sx.lem_true_pre k8_2n_ok rfl rfl [.float .f64 f0, .string s0, .int .i64 r0, .float .f64 f1, .string s1, .int .i64 r1] (.cons ⟨_, rfl⟩ (.cons ⟨_, rfl⟩ (.cons hr0 (.cons h1 (.cons ⟨_, rfl⟩ (.cons hr1 .nil)))))) (fun g hg => by cases hg) rfl w
    · by_cases ho : f1 = 4607182418800017408
      · subst ho; exact Sx.lem_true_pre k8_2o_ok rfl rfl [.float .f64 f0, .string s0, .int .i64 r0, .string s1, .int .i64 r1] (.cons ⟨_, rfl⟩ (.cons ⟨_, rfl⟩ (.cons hr0 (.cons ⟨_, rfl⟩ (.cons hr1 .nil))))) (fun g hg => by cases hg) rfl w
      · have h1 : Sx.hasTy (.float .f64 f1) .num ∧ f1 ≠ 4607182418800017408 := ⟨hf, ho⟩; exact Sx.lem_true_pre k8_2_ok rfl rfl [.float .f64 f0, .string s0, .int .i64 r0, .float .f64 f1, .string s1, .int .i64 r1] (.cons ⟨_, rfl⟩ (.cons ⟨_, rfl⟩ (.cons hr0 (.cons h1.1 (.cons ⟨_, rfl⟩ (.cons hr1 .nil)))))) (fun g hg z hz => by obtain rfl := List.mem_singleton.1 hg; exact Sx.notOne_ok (c := c8_2) (n := 3) rfl b1 h1.2 z hz) rfl w
  · rcases Sx.float_cases f1 with hf | hf
    · have h1 : Sx.hasTy (.float .f64 f1) .nan := hf; exact Sx.lem_true_pre k8_3n_ok rfl rfl [.float .f64 f0, .string s0, .int .i64 r0, .float .f64 f1, .string s1, .int .i64 r1] (.cons ⟨_, rfl⟩ (.cons ⟨_, rfl⟩ (.cons hr0 (.cons h1 (.cons ⟨_, rfl⟩ (.cons hr1 .nil)))))) (fun g hg => by cases hg) rfl w
    · have h1 : Sx.hasTy (.float .f64 f1) .num ∧ True := ⟨hf, trivial⟩; exact Sx.lem_true_pre k8_3_ok rfl rfl [.float .f64 f0, .string s0, .int .i64 r0, .float .f64 f1, .string s1, .int .i64 r1] (.cons ⟨_, rfl⟩ (.cons ⟨_, rfl⟩ (.cons hr0 (.cons h1.1 (.cons ⟨_, rfl⟩ (.cons hr1 .nil)))))) (fun g hg => by cases hg) rfl w
  · have h1 : True := trivial; exact Sx.lem_true_pre k8_4_ok rfl rfl [.float .f64 f0, .string s0, .int .i64 r0, .float .f64 f1, .string s1, .int .i64 r1] (.cons ⟨_, rfl⟩ (.cons ⟨_, rfl⟩ (.cons hr0 (.cons ⟨_, rfl⟩ (.cons ⟨_, rfl⟩ (.cons hr1 .nil)))))) (fun g hg => by cases hg) rfl w
  · have h1 : True := trivial; exact Sx.lem_true_pre k8_5_ok rfl rfl [.float .f64 f0, .string s0, .int .i64 r0, .float .f64 f1, .string s1, .int .i64 r1] (.cons ⟨_, rfl⟩ (.cons ⟨_, rfl⟩ (.cons hr0 (.cons ⟨_, rfl⟩ (.cons ⟨_, rfl⟩ (.cons hr1 .nil)))))) (fun g hg => by cases hg) rfl w
  · have h1 : True := trivial; exact Sx.lem_true_pre k8_6_ok rfl rfl [.float .f64 f0, .string s0, .int .i64 r0, .float .f64 f1, .string s1, .int .i64 r1] (.cons ⟨_, rfl⟩ (.cons ⟨_, rfl⟩ (.cons hr0 (.cons ⟨_, rfl⟩ (.cons ⟨_, rfl⟩ (.cons hr1 .nil)))))) (fun g hg => by cases hg) rfl w
  · have h1 : True := trivial; exact Sx.lem_true_pre k8_7_ok rfl rfl [.float .f64 f0, .string s0, .int .i64 r0, .float .f64 f1, .string s1, .int .i64 r1] (.cons ⟨_, rfl⟩ (.cons ⟨_, rfl⟩ (.cons hr0 (.cons ⟨_, rfl⟩ (.cons ⟨_, rfl⟩ (.cons hr1 .nil)))))) (fun g hg => by cases hg) rfl w
  · have h1 : True := trivial; exact Sx.lem_true_pre k8_8_ok rfl rfl [.float .f64 f0, .string s0, .int .i64 r0, .float .f64 f1, .string s1, .int .i64 r1] (.cons ⟨_, rfl⟩ (.cons ⟨_, rfl⟩ (.cons hr0 (.cons ⟨_, rfl⟩ (.cons ⟨_, rfl⟩ (.cons hr1 .nil)))))) (fun g hg => by cases hg) rfl w
  · have h1 : 9 ≤ k1 ∧ k1 ≤ 255 := ⟨h91, by omega⟩; exact Sx.lem_true_pre k8_9_ok rfl rfl [.float .f64 f0, .string s0, .int .i64 r0, .float .f64 f1, .string s1, .int .i64 r1, .int .u8 k1] (.cons ⟨_, rfl⟩ (.cons ⟨_, rfl⟩ (.cons hr0 (.cons ⟨_, rfl⟩ (.cons ⟨_, rfl⟩ (.cons hr1 (.cons ⟨_, rfl, h1.1, fun _ e => by cases e; exact h1.2⟩ .nil))))))) (fun g hg => by cases hg) rfl w
open Sx in
noncomputable abbrev c9_2 := cfgB baseRead (sumL [(16, lemsX c0 [alive]), (23, lemsX c0 mays)]) fun _ => none
open Sx in
instance sok9_2 (F : Wd) : SOk c9_2 F := sumL_ok (c := c9_2) rfl (fun x hx => by
  simp only [List.mem_cons, List.not_mem_nil, or_false] at hx
  rcases hx with rfl | rfl
  · exact TrOk.cfg (c := c0) (c' := c9_2) rfl rfl (lemsX_tr (fun L hL => by simp only [List.mem_singleton] at hL; subst hL; exact alive_ok))
  · exact TrOk.cfg (c := c0) (c' := c9_2) rfl rfl (lemsX_tr mays_ok)
  )
open Sx in
noncomputable def k9_0 : Lem := ⟨[.f64, .str, fullTy .i64, .f64, .str, fullTy .i64, (.int .u8 9 (some 255))], [], [], [(.agg (.cons (.var 6) (.cons (.var 0) (.cons (.var 1) (.cons (.var 2) .nil))))), (.agg (.cons (.k (.int .u8 0)) (.cons (.var 3) (.cons (.var 4) (.cons (.var 5) .nil)))))], [⟨[], [], (.k (.bool true))⟩]⟩
open Sx in
set_option maxRecDepth 100000 in
theorem k9_0_ok : LemOk c9_2 7 k9_0 := lem_of_run (n := 200) (by kernel_rfl)
open Sx in
noncomputable def k9_1 : Lem := ⟨[.f64, .str, fullTy .i64, .f64, .str, fullTy .i64, (.int .u8 9 (some 255))], [], [], [(.agg (.cons (.var 6) (.cons (.var 0) (.cons (.var 1) (.cons (.var 2) .nil))))), (.agg (.cons (.k (.int .u8 1)) (.cons (.var 3) (.cons (.var 4) (.cons (.var 5) .nil)))))], [⟨[], [], (.k (.bool true))⟩]⟩
open Sx in
set_option maxRecDepth 100000 in
theorem k9_1_ok : LemOk c9_2 7 k9_1 := lem_of_run (n := 200) (by kernel_rfl)
open Sx in
noncomputable def k9_2n : Lem := ⟨[.f64, .str, fullTy .i64, .nan, .str, fullTy .i64, (.int .u8 9 (some 255))], [], [], [(.agg (.cons (.var 6) (.cons (.var 0) (.cons (.var 1) (.cons (.var 2) .nil))))), (.agg (.cons (.k (.int .u8 2)) (.cons (.var 3) (.cons (.var 4) (.cons (.var 5) .nil)))))], [⟨[], [], (.k (.bool true))⟩]⟩
open Sx in
set_option maxRecDepth 100000 in
theorem k9_2n_ok : LemOk c9_2 7 k9_2n := lem_of_run (n := 200) (by kernel_rfl)
open Sx in
noncomputable def k9_2o : Lem := ⟨[.f64, .str, fullTy .i64, .str, fullTy .i64, (.int .u8 9 (some 255))], [], [], [(.agg (.cons (.var 5) (.cons (.var 0) (.cons (.var 1) (.cons (.var 2) .nil))))), (.agg (.cons (.k (.int .u8 2)) (.cons (.k (.float .f64 4607182418800017408)) (.cons (.var 3) (.cons (.var 4) .nil)))))], [⟨[], [], (.k (.bool true))⟩]⟩
open Sx in
set_option maxRecDepth 100000 in
theorem k9_2o_ok : LemOk c9_2 7 k9_2o := lem_of_run (n := 200) (by kernel_rfl)
open Sx in
noncomputable def k9_2 : Lem := ⟨[.f64, .str, fullTy .i64, .num, .str, fullTy .i64, (.int .u8 9 (some 255))], [], [((.prim (.bin .eql 0 false) (.cons (.var 3) (.cons (.k (.float .f64 4607182418800017408)) .nil))), false)], [(.agg (.cons (.var 6) (.cons (.var 0) (.cons (.var 1) (.cons (.var 2) .nil))))), (.agg (.cons (.k (.int .u8 2)) (.cons (.var 3) (.cons (.var 4) (.cons (.var 5) .nil)))))], [⟨[], [], (.k (.bool true))⟩]⟩
open Sx in
set_option maxRecDepth 100000 in
theorem k9_2_ok : LemOk c9_2 7 k9_2 := lem_of_run (n := 200) (by kernel_rfl)
open Sx in
noncomputable def k9_3n : Lem := ⟨[.f64, .str, fullTy .i64, .nan, .str, fullTy .i64, (.int .u8 9 (some 255))], [], [], [(.agg (.cons (.var 6) (.cons (.var 0) (.cons (.var 1) (.cons (.var 2) .nil))))), (.agg (.cons (.k (.int .u8 3)) (.cons (.var 3) (.cons (.var 4) (.cons (.var 5) .nil)))))], [⟨[], [], (.k (.bool true))⟩]⟩
open Sx in
set_option maxRecDepth 100000 in
theorem k9_3n_ok : LemOk c9_2 7 k9_3n := lem_of_run (n := 200) (by kernel_rfl)
open Sx in
noncomputable def k9_3 : Lem := ⟨[.f64, .str, fullTy .i64, .num, .str, fullTy .i64, (.int .u8 9 (some 255))], [], [], [(.agg (.cons (.var 6) (.cons (.var 0) (.cons (.var 1) (.cons (.var 2) .nil))))), (.agg (.cons (.k (.int .u8 3)) (.cons (.var 3) (.cons (.var 4) (.cons (.var 5) .nil)))))], [⟨[], [], (.k (.bool true))⟩]⟩
open Sx in
set_option maxRecDepth 100000 in
theorem k9_3_ok : LemOk c9_2 7 k9_3 := lem_of_run (n := 200) (by kernel_rfl)
open Sx in
noncomputable def k9_4 : Lem := ⟨[.f64, .str, fullTy .i64, .f64, .str, fullTy .i64, (.int .u8 9 (some 255))], [], [], [(.agg (.cons (.var 6) (.cons (.var 0) (.cons (.var 1) (.cons (.var 2) .nil))))), (.agg (.cons (.k (.int .u8 4)) (.cons (.var 3) (.cons (.var 4) (.cons (.var 5) .nil)))))], [⟨[], [], (.k (.bool true))⟩]⟩
open Sx in
set_option maxRecDepth 100000 in
theorem k9_4_ok : LemOk c9_2 7 k9_4 := lem_of_run (n := 200) (by kernel_rfl)
open Sx in
noncomputable def k9_5 : Lem := ⟨[.f64, .str, fullTy .i64, .f64, .str, fullTy .i64, (.int .u8 9 (some 255))], [], [], [(.agg (.cons (.var 6) (.cons (.var 0) (.cons (.var 1) (.cons (.var 2) .nil))))), (.agg (.cons (.k (.int .u8 5)) (.cons (.var 3) (.cons (.var 4) (.cons (.var 5) .nil)))))], [⟨[], [], (.k (.bool true))⟩]⟩
open Sx in
set_option maxRecDepth 100000 in
theorem k9_5_ok : LemOk c9_2 7 k9_5 := lem_of_run (n := 200) (by kernel_rfl)
open Sx in
noncomputable def k9_6 : Lem := ⟨[.f64, .str, fullTy .i64, .f64, .str, fullTy .i64, (.int .u8 9 (some 255))], [], [], [(.agg (.cons (.var 6) (.cons (.var 0) (.cons (.var 1) (.cons (.var 2) .nil))))), (.agg (.cons (.k (.int .u8 6)) (.cons (.var 3) (.cons (.var 4) (.cons (.var 5) .nil)))))], [⟨[], [], (.k (.bool true))⟩]⟩
open Sx in
set_option maxRecDepth 100000 in
theorem k9_6_ok : LemOk c9_2 7 k9_6 := lem_of_run (n := 200) (by kernel_rfl)
open Sx in
noncomputable def k9_7 : Lem := ⟨[.f64, .str, fullTy .i64, .f64, .str, fullTy .i64, (.int .u8 9 (some 255))], [], [], [(.agg (.cons (.var 6) (.cons (.var 0) (.cons (.var 1) (.cons (.var 2) .nil))))), (.agg (.cons (.k (.int .u8 7)) (.cons (.var 3) (.cons (.var 4) (.cons (.var 5) .nil)))))], [⟨[], [], (.k (.bool true))⟩]⟩
open Sx in
set_option maxRecDepth 100000 in
theorem k9_7_ok : LemOk c9_2 7 k9_7 := lem_of_run (n := 200) (by kernel_rfl)
open Sx in
noncomputable def k9_8 : Lem := ⟨[.f64, .str, fullTy .i64, .f64, .str, fullTy .i64, (.int .u8 9 (some 255))], [], [], [(.agg (.cons (.var 6) (.cons (.var 0) (.cons (.var 1) (.cons (.var 2) .nil))))), (.agg (.cons (.k (.int .u8 8)) (.cons (.var 3) (.cons (.var 4) (.cons (.var 5) .nil)))))], [⟨[], [], (.k (.bool true))⟩]⟩
open Sx in
set_option maxRecDepth 100000 in
theorem k9_8_ok : LemOk c9_2 7 k9_8 := lem_of_run (n := 200) (by kernel_rfl)
open Sx in
noncomputable def k9_9 : Lem := ⟨[.f64, .str, fullTy .i64, .f64, .str, fullTy .i64, (.int .u8 9 (some 255)), (.int .u8 9 (some 255))], [], [], [(.agg (.cons (.var 6) (.cons (.var 0) (.cons (.var 1) (.cons (.var 2) .nil))))), (.agg (.cons (.var 7) (.cons (.var 3) (.cons (.var 4) (.cons (.var 5) .nil)))))], [⟨[], [], (.k (.bool true))⟩]⟩
open Sx in
set_option maxRecDepth 100000 in
theorem k9_9_ok : LemOk c9_2 7 k9_9 := lem_of_run (n := 200) (by kernel_rfl)
theorem row9 (f0 : Nat) (s0 : ByteArray) (r0 : Int) (k1 : Int) (f1 : Nat) (s1 : ByteArray) (r1 : Int) (k0 : Int) (hr0 : Sx.hasTy (.int .i64 r0) (Sx.fullTy .i64)) (hr1 : Sx.hasTy (.int .i64 r1) (Sx.fullTy .i64)) (l1 : 0 ≤ k1) (u1 : k1 ≤ 255) (b0 : f0 < 2 ^ 64) (b1 : f1 < 2 ^ 64)
    (h0 : 9 ≤ k0 ∧ k0 ≤ 255) (w : World) :
    Calls Tryz.prog 7 #[.agg #[.int .u8 k0, .float .f64 f0, .string s0, .int .i64 r0], .agg #[.int .u8 k1, .float .f64 f1, .string s1, .int .i64 r1]] w fun e w' => e = .returned (.bool true) ∧ Below w.heap.size w w' := by
  have q1 : k1 = 0 ∨ k1 = 1 ∨ k1 = 2 ∨ k1 = 3 ∨ k1 = 4 ∨ k1 = 5 ∨ k1 = 6 ∨ k1 = 7 ∨ k1 = 8 ∨ 9 ≤ k1 := by omega
  rcases q1 with rfl | rfl | rfl | rfl | rfl | rfl | rfl | rfl | rfl | h91
  · have h1 : True := trivial; exact Sx.lem_true_pre k9_0_ok rfl rfl [.float .f64 f0, .string s0, .int .i64 r0, .float .f64 f1, .string s1, .int .i64 r1, .int .u8 k0] (.cons ⟨_, rfl⟩ (.cons ⟨_, rfl⟩ (.cons hr0 (.cons ⟨_, rfl⟩ (.cons ⟨_, rfl⟩ (.cons hr1 (.cons ⟨_, rfl, h0.1, fun _ e => by cases e; exact h0.2⟩ .nil))))))) (fun g hg => by cases hg) rfl w
  · have h1 : True := trivial; exact Sx.lem_true_pre k9_1_ok rfl rfl [.float .f64 f0, .string s0, .int .i64 r0, .float .f64 f1, .string s1, .int .i64 r1, .int .u8 k0] (.cons ⟨_, rfl⟩ (.cons ⟨_, rfl⟩ (.cons hr0 (.cons ⟨_, rfl⟩ (.cons ⟨_, rfl⟩ (.cons hr1 (.cons ⟨_, rfl, h0.1, fun _ e => by cases e; exact h0.2⟩ .nil))))))) (fun g hg => by cases hg) rfl w
  · rcases Sx.float_cases f1 with hf | hf
    · have h1 : Sx.hasTy (.float .f64 f1) .nan := hf; exact Sx.lem_true_pre k9_2n_ok rfl rfl [.float .f64 f0, .string s0, .int .i64 r0, .float .f64 f1, .string s1, .int .i64 r1, .int .u8 k0] (.cons ⟨_, rfl⟩ (.cons ⟨_, rfl⟩ (.cons hr0 (.cons h1 (.cons ⟨_, rfl⟩ (.cons hr1 (.cons ⟨_, rfl, h0.1, fun _ e => by cases e; exact h0.2⟩ .nil))))))) (fun g hg => by cases hg) rfl w
    · by_cases ho : f1 = 4607182418800017408
      · subst ho; exact Sx.lem_true_pre k9_2o_ok rfl rfl [.float .f64 f0, .string s0, .int .i64 r0, .string s1, .int .i64 r1, .int .u8 k0] (.cons ⟨_, rfl⟩ (.cons ⟨_, rfl⟩ (.cons hr0 (.cons ⟨_, rfl⟩ (.cons hr1 (.cons ⟨_, rfl, h0.1, fun _ e => by cases e; exact h0.2⟩ .nil)))))) (fun g hg => by cases hg) rfl w
      · have h1 : Sx.hasTy (.float .f64 f1) .num ∧ f1 ≠ 4607182418800017408 := ⟨hf, ho⟩; exact Sx.lem_true_pre k9_2_ok rfl rfl [.float .f64 f0, .string s0, .int .i64 r0, .float .f64 f1, .string s1, .int .i64 r1, .int .u8 k0] (.cons ⟨_, rfl⟩ (.cons ⟨_, rfl⟩ (.cons hr0 (.cons h1.1 (.cons ⟨_, rfl⟩ (.cons hr1 (.cons ⟨_, rfl, h0.1, fun _ e => by cases e; exact h0.2⟩ .nil))))))) (fun g hg z hz => by obtain rfl := List.mem_singleton.1 hg; exact Sx.notOne_ok (c := c9_2) (n := 3) rfl b1 h1.2 z hz) rfl w
  · rcases Sx.float_cases f1 with hf | hf
    · have h1 : Sx.hasTy (.float .f64 f1) .nan := hf; exact Sx.lem_true_pre k9_3n_ok rfl rfl [.float .f64 f0, .string s0, .int .i64 r0, .float .f64 f1, .string s1, .int .i64 r1, .int .u8 k0] (.cons ⟨_, rfl⟩ (.cons ⟨_, rfl⟩ (.cons hr0 (.cons h1 (.cons ⟨_, rfl⟩ (.cons hr1 (.cons ⟨_, rfl, h0.1, fun _ e => by cases e; exact h0.2⟩ .nil))))))) (fun g hg => by cases hg) rfl w
    · have h1 : Sx.hasTy (.float .f64 f1) .num ∧ True := ⟨hf, trivial⟩; exact Sx.lem_true_pre k9_3_ok rfl rfl [.float .f64 f0, .string s0, .int .i64 r0, .float .f64 f1, .string s1, .int .i64 r1, .int .u8 k0] (.cons ⟨_, rfl⟩ (.cons ⟨_, rfl⟩ (.cons hr0 (.cons h1.1 (.cons ⟨_, rfl⟩ (.cons hr1 (.cons ⟨_, rfl, h0.1, fun _ e => by cases e; exact h0.2⟩ .nil))))))) (fun g hg => by cases hg) rfl w
  · have h1 : True := trivial; exact Sx.lem_true_pre k9_4_ok rfl rfl [.float .f64 f0, .string s0, .int .i64 r0, .float .f64 f1, .string s1, .int .i64 r1, .int .u8 k0] (.cons ⟨_, rfl⟩ (.cons ⟨_, rfl⟩ (.cons hr0 (.cons ⟨_, rfl⟩ (.cons ⟨_, rfl⟩ (.cons hr1 (.cons ⟨_, rfl, h0.1, fun _ e => by cases e; exact h0.2⟩ .nil))))))) (fun g hg => by cases hg) rfl w
  · have h1 : True := trivial; exact Sx.lem_true_pre k9_5_ok rfl rfl [.float .f64 f0, .string s0, .int .i64 r0, .float .f64 f1, .string s1, .int .i64 r1, .int .u8 k0] (.cons ⟨_, rfl⟩ (.cons ⟨_, rfl⟩ (.cons hr0 (.cons ⟨_, rfl⟩ (.cons ⟨_, rfl⟩ (.cons hr1 (.cons ⟨_, rfl, h0.1, fun _ e => by cases e; exact h0.2⟩ .nil))))))) (fun g hg => by cases hg) rfl w
  · have h1 : True := trivial; exact Sx.lem_true_pre k9_6_ok rfl rfl [.float .f64 f0, .string s0, .int .i64 r0, .float .f64 f1, .string s1, .int .i64 r1, .int .u8 k0] (.cons ⟨_, rfl⟩ (.cons ⟨_, rfl⟩ (.cons hr0 (.cons ⟨_, rfl⟩ (.cons ⟨_, rfl⟩ (.cons hr1 (.cons ⟨_, rfl, h0.1, fun _ e => by cases e; exact h0.2⟩ .nil))))))) (fun g hg => by cases hg) rfl w
  · have h1 : True := trivial; exact Sx.lem_true_pre k9_7_ok rfl rfl [.float .f64 f0, .string s0, .int .i64 r0, .float .f64 f1, .string s1, .int .i64 r1, .int .u8 k0] (.cons ⟨_, rfl⟩ (.cons ⟨_, rfl⟩ (.cons hr0 (.cons ⟨_, rfl⟩ (.cons ⟨_, rfl⟩ (.cons hr1 (.cons ⟨_, rfl, h0.1, fun _ e => by cases e; exact h0.2⟩ .nil))))))) (fun g hg => by cases hg) rfl w
  · have h1 : True := trivial; exact Sx.lem_true_pre k9_8_ok rfl rfl [.float .f64 f0, .string s0, .int .i64 r0, .float .f64 f1, .string s1, .int .i64 r1, .int .u8 k0] (.cons ⟨_, rfl⟩ (.cons ⟨_, rfl⟩ (.cons hr0 (.cons ⟨_, rfl⟩ (.cons ⟨_, rfl⟩ (.cons hr1 (.cons ⟨_, rfl, h0.1, fun _ e => by cases e; exact h0.2⟩ .nil))))))) (fun g hg => by cases hg) rfl w
  · have h1 : 9 ≤ k1 ∧ k1 ≤ 255 := ⟨h91, by omega⟩; exact Sx.lem_true_pre k9_9_ok rfl rfl [.float .f64 f0, .string s0, .int .i64 r0, .float .f64 f1, .string s1, .int .i64 r1, .int .u8 k0, .int .u8 k1] (.cons ⟨_, rfl⟩ (.cons ⟨_, rfl⟩ (.cons hr0 (.cons ⟨_, rfl⟩ (.cons ⟨_, rfl⟩ (.cons hr1 (.cons ⟨_, rfl, h0.1, fun _ e => by cases e; exact h0.2⟩ (.cons ⟨_, rfl, h1.1, fun _ e => by cases e; exact h1.2⟩ .nil)))))))) (fun g hg => by cases hg) rfl w
end Go.Proofs.YtobghgfmdjknlaaGreat.coerceLike
