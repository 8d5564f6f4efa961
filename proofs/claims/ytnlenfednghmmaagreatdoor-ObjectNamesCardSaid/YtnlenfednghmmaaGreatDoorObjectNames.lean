/- ObjectNames answers true, in whatever memory: the examples of its chapter are so. No condition. -/
import Derived.Test.YtnlenfednghmmaaGreatDoorRows
import Derived.WalkKit
import Derived.ProofKit
import Derived.OpenShut
import Derived.LaidMore
import Derived.Lay
import Derived.MakeChecks
import Derived.SevenTiedAt
import Derived.Stop.Joined
import Derived.Test.YtnlenfednghmmaaGreatDoorCards
import Derived.Test.YtnlenfednghmmaaGreatDoorTie
import Derived.Test.YtnlenfednghmmaaGreatDoorSxLem
import Derived.Test.YtnlenfednghmmaaGreatDoorSxTab
import Derived.Test.YtnlenfednghmmaaGreatDoorNamesWalk
namespace Go.Proofs.YtnlenfednghmmaaGreatDoor.objectNames
open Go.ChangeShapes Go.WideShapes Go.ChangeAt Go.RowKit
set_option linter.unusedVariables false      -- a walk need not use every 'w<i>' (that an integer argument fits its kind)

theorem own : ownKnob Tryz.prog.godebug = none := by kernel_rfl

/-! ### STEP 1: THE WALK: the Go text returns true. 'Grown w w'': the world has at most new blocks (Derived/RowKit3.lean). Part the cases AHEAD of 'go_enter' where a test parts the walk; take each callee by a contract of your own. -/
open Sx in
noncomputable def sums0 := sumL [(11, rowX 9 told)]
open Sx in
instance sok0 (F : Wd) : SOk (cfgOf sums0) F := sumL_ok (c := cfgOf sums0) rfl (fun x hx => by
  simp only [List.mem_cons, List.not_mem_nil, or_false] at hx
  rcases hx with rfl
  · exact TrOk.cfg (c := cfgOf fun _ => none) (c' := cfgOf sums0) rfl rfl (row_tr (c := cfgOf fun _ => none) names_gives))

open Sx in
noncomputable def lem0 : Lem := ⟨[], [([(.k (.int .u8 3)), (.k (.float .f64 4607182418800017408)), (.k (.string ⟨#[]⟩)), (.k (.int .i64 0))], 33)], [], [(.k (.string ⟨#[102, 114, 101, 101, 122, 101]⟩)), (.slice 0 0 (.k (.int .i64 1)) (.k (.int .i64 1))), (.k (.int .u8 1)), (.agg (.cons (.k (.int .u8 3)) (.cons (.k (.float .f64 4607182418800017408)) (.cons (.k (.string ⟨#[]⟩)) (.cons (.k (.int .i64 0)) .nil)))))], [⟨[], [], (.k (.bool true))⟩]⟩
open Sx in
set_option maxRecDepth 100000 in
theorem lem0_ok : LemOk (cfgOf sums0) 12 lem0 := lem_of_run (n := 600) (by kernel_rfl)
open Sx in
noncomputable def lem1 : Lem := ⟨[], [([(.k (.int .u8 6)), (.k (.float .f64 0)), (.k (.string ⟨#[]⟩)), (.k (.int .i64 4)), (.k (.int .u8 4)), (.k (.float .f64 0)), (.k (.string ⟨#[97]⟩)), (.k (.int .i64 0)), (.k (.int .u8 3)), (.k (.float .f64 4607182418800017408)), (.k (.string ⟨#[]⟩)), (.k (.int .i64 0))], 33)], [], [(.k (.string ⟨#[100, 101, 102, 105, 110, 101, 80, 114, 111, 112, 101, 114, 116, 121]⟩)), (.slice 0 0 (.k (.int .i64 3)) (.k (.int .i64 3))), (.k (.int .u8 3)), (.agg (.cons (.k (.int .u8 0)) (.cons (.k (.float .f64 0)) (.cons (.k (.string ⟨#[]⟩)) (.cons (.k (.int .i64 0)) .nil)))))], [⟨[], [], (.k (.bool true))⟩]⟩
open Sx in
set_option maxRecDepth 100000 in
theorem lem1_ok : LemOk (cfgOf sums0) 12 lem1 := lem_of_run (n := 600) (by kernel_rfl)
open Sx in
noncomputable def lem2 : Lem := ⟨[], [], [], [(.k (.string ⟨#[105, 115, 83, 101, 97, 108, 101, 100]⟩)), (.k (.slice none 0 0)), (.k (.int .u8 1)), (.agg (.cons (.k (.int .u8 2)) (.cons (.k (.float .f64 4607182418800017408)) (.cons (.k (.string ⟨#[]⟩)) (.cons (.k (.int .i64 0)) .nil)))))], [⟨[], [], (.k (.bool true))⟩]⟩
open Sx in
set_option maxRecDepth 100000 in
theorem lem2_ok : LemOk (cfgOf sums0) 12 lem2 := lem_of_run (n := 600) (by kernel_rfl)
open Sx in
noncomputable def lem3 : Lem := ⟨[], [], [], [(.k (.string ⟨#[105, 115, 69, 120, 116, 101, 110, 115, 105, 98, 108, 101]⟩)), (.k (.slice none 0 0)), (.k (.int .u8 1)), (.agg (.cons (.k (.int .u8 2)) (.cons (.k (.float .f64 0)) (.cons (.k (.string ⟨#[]⟩)) (.cons (.k (.int .i64 0)) .nil)))))], [⟨[], [], (.k (.bool true))⟩]⟩
open Sx in
set_option maxRecDepth 100000 in
theorem lem3_ok : LemOk (cfgOf sums0) 12 lem3 := lem_of_run (n := 600) (by kernel_rfl)
open Sx in
noncomputable def lem4 : Lem := ⟨[], [([(.k (.int .u8 3)), (.k (.float .f64 4607182418800017408)), (.k (.string ⟨#[]⟩)), (.k (.int .i64 0)), (.k (.int .u8 3)), (.k (.float .f64 4607182418800017408)), (.k (.string ⟨#[]⟩)), (.k (.int .i64 0))], 33)], [], [(.k (.string ⟨#[105, 115]⟩)), (.slice 0 0 (.k (.int .i64 2)) (.k (.int .i64 2))), (.k (.int .u8 1)), (.agg (.cons (.k (.int .u8 2)) (.cons (.k (.float .f64 4607182418800017408)) (.cons (.k (.string ⟨#[]⟩)) (.cons (.k (.int .i64 0)) .nil)))))], [⟨[], [], (.k (.bool true))⟩]⟩
open Sx in
set_option maxRecDepth 100000 in
theorem lem4_ok : LemOk (cfgOf sums0) 12 lem4 := lem_of_run (n := 600) (by kernel_rfl)
open Sx in
noncomputable def lem5 : Lem := ⟨[], [([(.k (.int .u8 3)), (.k (.float .f64 4607182418800017408)), (.k (.string ⟨#[]⟩)), (.k (.int .i64 0))], 33)], [], [(.k (.string ⟨#[107, 101, 121, 115]⟩)), (.slice 0 0 (.k (.int .i64 1)) (.k (.int .i64 1))), (.k (.int .u8 3)), (.agg (.cons (.k (.int .u8 0)) (.cons (.k (.float .f64 0)) (.cons (.k (.string ⟨#[]⟩)) (.cons (.k (.int .i64 0)) .nil)))))], [⟨[], [], (.k (.bool true))⟩]⟩
open Sx in
set_option maxRecDepth 100000 in
theorem lem5_ok : LemOk (cfgOf sums0) 12 lem5 := lem_of_run (n := 600) (by kernel_rfl)
open Sx in
noncomputable def lem6 : Lem := ⟨[], [], [], [], [⟨[], [], (.k (.bool true))⟩]⟩
open Sx in
set_option maxRecDepth 100000 in
theorem lem6_ok : LemOk (cfgOf sums0) 5 lem6 := lem_of_run (n := 600) (by kernel_rfl)

open Sx in
/-- What is known of functions: the calls that were run before, and the shelf's. -/
noncomputable def sums := sumL [(12, lemsX (cfgOf sums0) [lem0, lem1, lem2, lem3, lem4, lem5]), (5, lemsX (cfgOf sums0) [lem6]), (11, rowX 9 told)]
open Sx in
instance sok (w : World) : SOk (cfgOf sums) (wd w) := sumL_ok (c := cfgOf sums) rfl (fun x hx => by
  simp only [List.mem_cons, List.not_mem_nil, or_false] at hx
  rcases hx with rfl | rfl | rfl
  · refine TrOk.cfg (c := cfgOf sums0) (c' := cfgOf sums) rfl rfl (lemsX_tr (fun L hL => ?_))
    simp only [List.mem_cons, List.not_mem_nil, or_false] at hL
    rcases hL with rfl | rfl | rfl | rfl | rfl | rfl
    · exact lem0_ok
    · exact lem1_ok
    · exact lem2_ok
    · exact lem3_ok
    · exact lem4_ok
    · exact lem5_ok
  · refine TrOk.cfg (c := cfgOf sums0) (c' := cfgOf sums) rfl rfl (lemsX_tr (fun L hL => ?_))
    simp only [List.mem_cons, List.not_mem_nil, or_false] at hL
    rcases hL with rfl
    · exact lem6_ok
  · exact TrOk.cfg (c := cfgOf fun _ => none) (c' := cfgOf sums) rfl rfl (row_tr (c := cfgOf fun _ => none) names_gives))

open Sx in
set_option maxRecDepth 100000 in
theorem runs : leadsTo (.bool true) (exec (cfgOf sums) 600 (.call 4 []) St0) = true := by kernel_rfl

theorem walk (w : World) :
    Calls Tryz.prog 4 #[] w fun e w' => e = .returned (.bool true) ∧ Below w.heap.size w w' :=
  Sx.closed_call (c := Sx.cfgOf sums) (args := []) runs w

/-! ### THE ROW's STEP: WRITTEN OUT: LEAVE IT -/
set_option maxRecDepth 100000 in
theorem lifted (os : Os) (started : os.Started) (H : Type) (enc : TypeId × Value → H) :
    ReturnsInHanded {} Tryz.checked os 4 .any (fun w args => (Rows.objectNamesSpec.pre enc Tryz.prog Tryz.f4 Rows.objectNamesRow.domain false w args ∧ laidMetH Tryz.prog Rows.objectNamesRow.laid w) ∧ sizedMet enc Tryz.prog Tryz.f4 (OpenSpec.ofChange Rows.objectNamesSpec) false w args) (Rows.objectNamesSpec.post enc Tryz.prog Tryz.f4 false true false false) := by
  refine returnsInHanded_of_change_and (C := Tryz.checked) (X := fun w _ => laidMetH Tryz.prog Rows.objectNamesRow.laid w) (fun _ _ _ hh h => h.of_heap hh) own started (by kernel_rfl) Tryz.func4
    (ChangeSpec.witness_shaped (enc := enc) (C := Tryz.checked) (os := os) (X := fun w _ => laidMetH Tryz.prog Rows.objectNamesRow.laid w) false (World.laidAll Tryz.prog os Rows.objectNamesRow.laid) #[] 8 (World.laidAll_os _ _ _)
      (World.shaped_of_ZipB (by kernel_rfl) (by kernel_rfl)) (by kernel_rfl) (by kernel_rfl) (by kernel_rfl)
      (by rw [MakeChecks.laidMetH_plain _ _ _ (by kernel_rfl)]; exact laidMet_laidAll _ (by kernel_rfl) (by kernel_rfl))) ?_
  intro W base args ds gs before hval0 hW hcnd _ hL _
  have hval : ∀ (j : Nat) t v, Tryz.f4.params[j]? = some t → args[j]? = some v → Value.okWide Tryz.prog W .any base t v := hval0
  have hW' := hW
  obtain ⟨p, q, hA0, hV, rfl, hfz, hnd⟩ := hW
  have hA : DataW.TrodAll enc Tryz.prog W 0 (fun _ => true) true Tryz.f4.params.toList args.toList ds p := hA0
  rw [Tryz.params4] at hA hval
  obtain ⟨rfl, rfl, rfl⟩ := trodAll_none hA
  obtain ⟨rfl, rfl⟩ := trodVars_none hV
  clear hA0 hval0
  simp only [List.append_nil] at hW'
  refine (walk  W).mono fun e W' ⟨he, hg⟩ => ?_
  subst he
  exact ⟨_, rfl, [], [], [], [], [], [], hW', trodAll_cons_mk (shut_bool Tryz.underlying4 _) trodAll_mk0, rfl, rfl, hg.frame _, fun h => by cases h⟩

theorem over : Rows.objectNamesRow.holds Tryz.pinned (OpenSpec.ofChange Rows.objectNamesSpec) :=
  OpenClaim.holds_of_wide 4 Tryz.f4 rfl rfl rfl rfl rfl rfl rfl ⟨rfl, rfl, rfl, rfl, rfl⟩ rfl rfl rfl rfl rfl (by kernel_rfl) Tryz.func4 (by kernel_rfl)
    (of_decide_eq_true (by kernel_rfl)) (by unfold Func.isWrapper; first | (rw [if_pos (by decide +kernel)]; kernel_rfl) | (rw [if_neg (by decide +kernel)]; exact ⟨rfl, rfl⟩))
    (fun os started H enc _ => lifted os started H enc)

theorem proved : Rows.ObjectNamesCardSaid :=
  Claim7.holds_tied_plain_at .later [] [.data, .data, .data] true (true, "94e651056bba3f5238b297799c1534d9987c4ec142bd2ffce56f5086fb835f96") false over (fun _ h => by cases h) (by kernel_rfl) (fun _ h => by cases h) objectNames_row_tie rfl ⟨rfl, rfl⟩ (by kernel_rfl) rfl
    (fun f fn hf hfn => by
      obtain rfl : f = 4 := Option.some.inj ((show Tryz.prog.funcNamed "bailiff/bailifflaw21.ObjectNames" = some 4 by kernel_rfl).symm.trans hf) |>.symm
      obtain rfl : fn = Tryz.f4 := (Option.some.inj (Tryz.func4.symm.trans hfn)).symm
      exact ⟨by kernel_rfl, fun j t ht => by
        rw [Tryz.params4] at ht
        simp at ht⟩)
    (by kernel_rfl)
#print axioms proved
end Go.Proofs.YtnlenfednghmmaaGreatDoor.objectNames
