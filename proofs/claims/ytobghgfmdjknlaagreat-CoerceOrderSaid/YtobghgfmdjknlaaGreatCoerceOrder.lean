/-
  THE SHELL OF A PROOF OF 'Rows.CoerceOrderSaid' ('bailiff/bailifflaw17.CoerceOrder'), WRITTEN BY PROGRAM (proof-skeleton.mjs) off the guide's own print for that function. Not trusted: Lean checks it.
  YOURS ARE THE HOLES MARKED 'HOLE' (each bears 'sorry'). ALL ELSE IS THE GUIDE's TEMPLATE (howto/template/XProofs.lean) at this function's number and types: leave it.
-/
import Derived.Test.YtobghgfmdjknlaaGreatRows
import Derived.WalkKit
import Derived.ProofKit
import Derived.OpenShut
import Derived.Test.YtobghgfmdjknlaaGreatSxTop
import Derived.Test.YtobghgfmdjknlaaGreatSxTab
namespace Go.Proofs.YtobghgfmdjknlaaGreat.coerceOrder
open Go.ChangeShapes Go.WideShapes Go.ChangeAt Go.RowKit
set_option linter.unusedVariables false      -- a walk need not use every 'w<i>' (that an integer argument fits its kind)

theorem own : ownKnob Tryz.prog.godebug = none := by kernel_rfl

/-! ### STEP 1: THE WALK: the Go text returns true. 'Grown w w'': the world has at most new blocks (Derived/RowKit3.lean). Part the cases AHEAD of 'go_enter' where a test parts the walk; take each callee by a contract of your own. -/
open Sx in
instance sok0 (w : World) : SOk (cfgOf fun _ => none) (wd w) := ⟨fun _ _ h => by cases h⟩

open Sx in
set_option maxRecDepth 100000 in
theorem runs16 : leadsTo (.bool true) (exec (cfgOf fun _ => none) 500 (.call 16 []) St0) = true := by kernel_rfl

open Sx in
/-- Functions without arguments that were run before. -/
noncomputable def sums := tableSum (cfgOf fun _ => none) [(16, [], .bool true)]
open Sx in
instance sok (w : World) : SOk (cfgOf sums) (wd w) := tableSum_ok (c := cfgOf sums) (c0 := cfgOf fun _ => none) (rows := [(16, [], .bool true)]) rfl rfl (fun r hr => by
  simp only [List.mem_cons, List.not_mem_nil, or_false] at hr
  rcases hr with rfl
  exact closed_call (c := cfgOf fun _ => none) (args := []) runs16) _

open Sx in
set_option maxRecDepth 100000 in
theorem runs : leadsTo (.bool true) (exec (cfgOf sums) 500 (.call 6 []) St0) = true := by kernel_rfl

theorem walk (w : World) :
    Calls Tryz.prog 6 #[] w fun e w' => e = .returned (.bool true) ∧ Below w.heap.size w w' :=
  Sx.closed_call (c := Sx.cfgOf sums) (args := []) runs w

/-! ### THE ROW's STEP: WRITTEN OUT: LEAVE IT -/
set_option maxRecDepth 100000 in
theorem lifted (os : Os) (started : os.Started) (H : Type) (enc : TypeId × Value → H) :
    ReturnsInHanded {} Tryz.checked os 6 .any (Rows.coerceOrderSpec.pre6 enc Tryz.prog Tryz.f6 Rows.coerceOrderRow.domain false) (Rows.coerceOrderSpec.post enc Tryz.prog Tryz.f6 false true false false) := by
  refine returnsInHanded_of_change (C := Tryz.checked) own started (by kernel_rfl) Tryz.func6
    (ChangeSpec.witness6 (enc := enc) (C := Tryz.checked) false ⟨#[], #[], []⟩ 8 (by kernel_rfl) (by kernel_rfl) (by kernel_rfl) (by kernel_rfl)) ?_
  intro W base args ds gs before hval0 hW hcnd _
  have hval : ∀ (j : Nat) t v, Tryz.f6.params[j]? = some t → args[j]? = some v → Value.okWide Tryz.prog W .any base t v := hval0
  have hW' := hW
  obtain ⟨p, q, hA0, hV, rfl, hfz, hnd⟩ := hW
  have hA : DataW.TrodAll enc Tryz.prog W 0 (fun _ => true) true Tryz.f6.params.toList args.toList ds p := hA0
  rw [Tryz.params6] at hA hval
  obtain ⟨rfl, rfl, rfl⟩ := trodAll_none hA
  obtain ⟨rfl, rfl⟩ := trodVars_none hV
  clear hA0 hval0
  simp only [List.append_nil] at hW'
  refine (walk  W).mono fun e W' ⟨he, hg⟩ => ?_
  subst he
  exact ⟨_, rfl, [], [], [], [], [], [], hW', trodAll_cons_mk (shut_bool Tryz.underlying4 _) trodAll_mk0, rfl, rfl, hg.frame _, fun h => by cases h⟩

theorem over : Rows.coerceOrderRow.holds Tryz.pinned (OpenSpec.ofChange Rows.coerceOrderSpec) :=
  OpenClaim.holds_of_wide 6 Tryz.f6 rfl rfl rfl rfl rfl rfl rfl ⟨rfl, rfl, rfl, rfl, rfl⟩ rfl rfl rfl rfl rfl (by kernel_rfl) Tryz.func6 (by kernel_rfl)
    (of_decide_eq_true (by kernel_rfl)) (by unfold Func.isWrapper; first | (rw [if_pos (by decide +kernel)]; kernel_rfl) | (rw [if_neg (by decide +kernel)]; exact ⟨rfl, rfl⟩))
    (fun os started H enc _ => lifted os started H enc)

/-- ████ THE STATEMENT ████ -/
theorem proved : Rows.CoerceOrderSaid :=
  over
#print axioms proved
end Go.Proofs.YtobghgfmdjknlaaGreat.coerceOrder
