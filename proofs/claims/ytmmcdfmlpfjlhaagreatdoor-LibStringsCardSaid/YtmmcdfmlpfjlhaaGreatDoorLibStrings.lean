/- LibStrings answers true at any string and text; all memory that was there reads as it did. No condition. -/
import Derived.Test.YtmmcdfmlpfjlhaaGreatDoorRows
import Derived.WalkKit
import Derived.ProofKit
import Derived.OpenShut
import Derived.LaidMore
import Derived.Lay
import Derived.MakeChecks
import Derived.SevenTiedAt
import Derived.Stop.Joined
import Derived.Test.YtmmcdfmlpfjlhaaGreatDoorCards
import Derived.Test.YtmmcdfmlpfjlhaaGreatDoorTie
import Derived.Test.YtmmcdfmlpfjlhaaGreatDoorSxIndex
namespace Go.Proofs.YtmmcdfmlpfjlhaaGreatDoor.libStrings
open Go.ChangeShapes Go.WideShapes Go.ChangeAt Go.RowKit
set_option linter.unusedVariables false

theorem own : ownKnob Tryz.prog.godebug = none := by kernel_rfl
open Sx in
noncomputable abbrev c00 := cfgB baseIx (fun _ => none) fun _ => none
open Sx in
theorem mayTr (c : Cfg) (hP : c.P = Tryz.prog) (hΦ : c.Φ = baseIx.Φ) (F : Wd) (hF : FOk c00 F) : TrOk c F 34 (lemsX c00 [lemMayN, lemMayI, lemMay]) :=
  TrOk.cfg (c := c00) (c' := c) hP.symm hΦ.symm (lemsX_tr hF (fun L hL => by
    simp only [List.mem_cons, List.not_mem_nil, or_false] at hL
    rcases hL with rfl | rfl | rfl
    · exact lemMayN_ok rfl
    · exact lemMayI_ok rfl
    · exact lemMay_ok rfl rfl))
open Sx in
theorem ixTr (c : Cfg) (hP : c.P = Tryz.prog) (hΦ : c.Φ = baseIx.Φ) (F : Wd) (hF : FOk c00 F) : TrOk c F 183 (lemX c00 lemIndex) :=
  TrOk.cfg (c := c00) (c' := c) hP.symm hΦ.symm (lemX_tr hF (lemIndex_ok rfl fun _ h => h))
open Sx in
theorem truncTr (c : Cfg) (hP : c.P = Tryz.prog) (hΦ : c.Φ = baseIx.Φ) (F : Wd) (hF : FOk c00 F) : TrOk c F 80 (lemX c00 lemTrunc) :=
  TrOk.cfg (c := c00) (c' := c) hP.symm hΦ.symm (lemX_tr hF (lemTrunc_ok rfl))
open Sx in
noncomputable abbrev c0 := cfgB baseIx (sumL [(34, lemsX c00 [lemMayN, lemMayI, lemMay]), (80, lemX c00 lemTrunc)]) fun _ => none
open Sx in
instance sok0 : SAll c0 := ⟨fun F hF => sumL_ok (c := c0) rfl (fun x hx => by
  simp only [List.mem_cons, List.not_mem_nil, or_false] at hx
  rcases hx with rfl | rfl
  · exact mayTr c0 rfl rfl F hF
  · exact truncTr c0 rfl rfl F hF)⟩
open Sx in
noncomputable def alive : Lem := ⟨[], [], [], [], [⟨[], [], .k (.bool true)⟩]⟩
open Sx in
set_option maxRecDepth 100000 in
theorem alive_ok : LemOk c0 7 alive := lem_of_run (n := 400) (by kernel_rfl)
open Sx in
noncomputable def e0 : Lem := ⟨[.str], [([(.k (.int .u8 4)), (.k (.float .f64 0)), (.var 0), (.k (.int .i64 0))], 24)], [((.prim (.bin .lss 0 false) (.cons (.k (.int .i64 4096)) (.cons (.prim (.len 9) (.cons (.var 0) .nil)) .nil))), false)], [(.k (.string ⟨#[83, 116, 114, 105, 110, 103]⟩)), (.agg (.cons (.k (.int .u8 0)) (.cons (.k (.float .f64 0)) (.cons (.k (.string ⟨#[]⟩)) (.cons (.k (.int .i64 0)) .nil))))), (.slice 1 0 (.k (.int .i64 1)) (.k (.int .i64 1))), (.agg (.cons (.k (.int .u8 4)) (.cons (.k (.float .f64 0)) (.cons (.var 0) (.cons (.k (.int .i64 0)) .nil)))))], [⟨[], [], (.k (.bool true))⟩]⟩
open Sx in
set_option maxRecDepth 100000 in
theorem e0_ok : LemOk c0 14 e0 := lem_of_run (n := 400) (by kernel_rfl)
open Sx in
noncomputable def e1 : Lem := ⟨[.str], [], [((.prim (.bin .lss 0 false) (.cons (.k (.int .i64 4096)) (.cons (.prim (.len 9) (.cons (.var 0) .nil)) .nil))), false)], [(.k (.string ⟨#[83, 116, 114, 105, 110, 103, 46, 112, 114, 111, 116, 111, 116, 121, 112, 101, 46, 116, 111, 83, 116, 114, 105, 110, 103]⟩)), (.agg (.cons (.k (.int .u8 4)) (.cons (.k (.float .f64 0)) (.cons (.var 0) (.cons (.k (.int .i64 0)) .nil))))), (.k (.slice none 0 0)), (.agg (.cons (.k (.int .u8 4)) (.cons (.k (.float .f64 0)) (.cons (.var 0) (.cons (.k (.int .i64 0)) .nil)))))], [⟨[], [], (.k (.bool true))⟩]⟩
open Sx in
set_option maxRecDepth 100000 in
theorem e1_ok : LemOk c0 14 e1 := lem_of_run (n := 400) (by kernel_rfl)
open Sx in
noncomputable def e2 : Lem := ⟨[.str], [], [((.prim (.bin .lss 0 false) (.cons (.k (.int .i64 4096)) (.cons (.prim (.len 9) (.cons (.var 0) .nil)) .nil))), false)], [(.k (.string ⟨#[83, 116, 114, 105, 110, 103, 46, 112, 114, 111, 116, 111, 116, 121, 112, 101, 46, 118, 97, 108, 117, 101, 79, 102]⟩)), (.agg (.cons (.k (.int .u8 4)) (.cons (.k (.float .f64 0)) (.cons (.var 0) (.cons (.k (.int .i64 0)) .nil))))), (.k (.slice none 0 0)), (.agg (.cons (.k (.int .u8 4)) (.cons (.k (.float .f64 0)) (.cons (.var 0) (.cons (.k (.int .i64 0)) .nil)))))], [⟨[], [], (.k (.bool true))⟩]⟩
open Sx in
set_option maxRecDepth 100000 in
theorem e2_ok : LemOk c0 14 e2 := lem_of_run (n := 400) (by kernel_rfl)
open Sx in
noncomputable def e3 : Lem := ⟨[.str], [], [((.prim (.bin .lss 0 false) (.cons (.k (.int .i64 4096)) (.cons (.prim (.len 9) (.cons (.var 0) .nil)) .nil))), false)], [(.k (.string ⟨#[83, 116, 114, 105, 110, 103, 46, 112, 114, 111, 116, 111, 116, 121, 112, 101, 46, 115, 108, 105, 99, 101]⟩)), (.agg (.cons (.k (.int .u8 4)) (.cons (.k (.float .f64 0)) (.cons (.var 0) (.cons (.k (.int .i64 0)) .nil))))), (.k (.slice none 0 0)), (.agg (.cons (.k (.int .u8 4)) (.cons (.k (.float .f64 0)) (.cons (.var 0) (.cons (.k (.int .i64 0)) .nil)))))], [⟨[], [], (.k (.bool true))⟩]⟩
open Sx in
set_option maxRecDepth 100000 in
theorem e3_ok : LemOk c0 14 e3 := lem_of_run (n := 400) (by kernel_rfl)
open Sx in
noncomputable def e4 : Lem := ⟨[.str], [], [((.prim (.bin .lss 0 false) (.cons (.k (.int .i64 4096)) (.cons (.prim (.len 9) (.cons (.var 0) .nil)) .nil))), false)], [(.k (.string ⟨#[79, 98, 106, 101, 99, 116, 46, 112, 114, 111, 116, 111, 116, 121, 112, 101, 46, 118, 97, 108, 117, 101, 79, 102]⟩)), (.agg (.cons (.k (.int .u8 4)) (.cons (.k (.float .f64 0)) (.cons (.var 0) (.cons (.k (.int .i64 0)) .nil))))), (.k (.slice none 0 0)), (.agg (.cons (.k (.int .u8 4)) (.cons (.k (.float .f64 0)) (.cons (.var 0) (.cons (.k (.int .i64 0)) .nil)))))], [⟨[], [], (.k (.bool true))⟩]⟩
open Sx in
set_option maxRecDepth 100000 in
theorem e4_ok : LemOk c0 14 e4 := lem_of_run (n := 400) (by kernel_rfl)
open Sx in
noncomputable abbrev c1 := cfgB baseIx (sumL [(34, lemsX c00 [lemMayN, lemMayI, lemMay]), (183, lemX c00 lemIndex), (7, lemX c0 alive), (14, lemsX c0 [e0, e1, e2, e3, e4])]) fun _ => none
open Sx in
instance sok1 : SAll c1 := ⟨fun F hF => sumL_ok (c := c1) rfl (fun x hx => by
  simp only [List.mem_cons, List.not_mem_nil, or_false] at hx
  rcases hx with rfl | rfl | rfl | rfl
  · exact mayTr c1 rfl rfl F hF
  · exact ixTr c1 rfl rfl F hF
  · exact TrOk.cfg (c := c0) (c' := c1) rfl rfl (lemX_tr (c := c0) hF alive_ok)
  · refine TrOk.cfg (c := c0) (c' := c1) rfl rfl (lemsX_tr (c := c0) hF (fun L hL => ?_))
    simp only [List.mem_cons, List.not_mem_nil, or_false] at hL
    rcases hL with rfl | rfl | rfl | rfl | rfl
    · exact e0_ok
    · exact e1_ok
    · exact e2_ok
    · exact e3_ok
    · exact e4_ok
  )⟩
open Sx in
noncomputable def lawL : Lem := ⟨[.str, .str], [], [], [.var 0, .var 1], [⟨[], [], .k (.bool true)⟩]⟩
open Sx in
set_option maxRecDepth 100000 in
theorem lawL_ok : LemOk c1 4 lawL := lem_of_run (n := 400) (by kernel_rfl)
theorem walk (c0_0 c1_0 : ByteArray) (w : World) (h : w.ShapedOpen Tryz.prog) :
    Calls Tryz.prog 4 #[.string c0_0, .string c1_0] w fun e w' => e = .returned (.bool true) ∧ Below w.heap.size w w' := by
  obtain ⟨m, hm⟩ := Tryz.laysM143.s1_3 w h
  exact Sx.lem_true lawL_ok rfl rfl rfl [.string c0_0, .string c1_0] (.cons ⟨_, rfl⟩ (.cons ⟨_, rfl⟩ .nil)) rfl w ⟨m, hm⟩ (Sx.maxLen_low ⟨m, hm⟩)

/-! ### THE ROW's STEP -/
set_option maxRecDepth 100000 in
theorem lifted (os : Os) (started : os.Started) (H : Type) (enc : TypeId × Value → H) :
    ReturnsInHanded {} Tryz.checked os 4 .any (fun w args => (Rows.libStringsSpec.pre enc Tryz.prog Tryz.f4 Rows.libStringsRow.domain false w args ∧ laidMetH Tryz.prog Rows.libStringsRow.laid w) ∧ sizedMet enc Tryz.prog Tryz.f4 (OpenSpec.ofChange Rows.libStringsSpec) false w args) (Rows.libStringsSpec.post enc Tryz.prog Tryz.f4 false true false false) := by
  refine Sx.handed_shaped_and (C := Tryz.checked) (X := fun w _ => laidMetH Tryz.prog Rows.libStringsRow.laid w) (fun _ _ _ hh h => h.of_heap hh) own started (by kernel_rfl) Tryz.func4
    (ChangeSpec.witness_shaped (enc := enc) (C := Tryz.checked) (os := os) (X := fun w _ => laidMetH Tryz.prog Rows.libStringsRow.laid w) false (World.laidAll Tryz.prog os Rows.libStringsRow.laid) #[.string ⟨#[]⟩, .string ⟨#[]⟩] 8 (World.laidAll_os _ _ _)
      (World.shaped_of_ZipB (by kernel_rfl) (by kernel_rfl)) (by kernel_rfl) (by kernel_rfl) (by kernel_rfl)
      (by rw [MakeChecks.laidMetH_plain _ _ _ (by kernel_rfl)]; exact laidMet_laidAll _ (by kernel_rfl) (by kernel_rfl))) ?_
  intro W base args ds gs before hsh hval0 hW hL
  have hval : ∀ (j : Nat) t v, Tryz.f4.params[j]? = some t → args[j]? = some v → Value.okWide Tryz.prog W .any base t v := hval0
  have hW' := hW
  obtain ⟨p, q, hA0, hV, rfl, hfz, hnd⟩ := hW
  have hA : DataW.TrodAll enc Tryz.prog W 0 (fun _ => true) true Tryz.f4.params.toList args.toList ds p := hA0
  rw [Tryz.params4] at hA hval
  obtain ⟨v0, vs0, d0, ds0, p0, q0, hargs, rfl, rfl, h0, r0⟩ := trodAll_cons hA
  obtain ⟨v1, vs1, d1, ds1, p1, q1, rfl, rfl, rfl, h1, r1⟩ := trodAll_cons r0
  obtain ⟨rfl, rfl, rfl⟩ := trodAll_nil r1
  obtain rfl : args = #[v0, v1] := by cases args; simp_all
  obtain ⟨rfl, rfl⟩ := trodVars_none hV
  obtain ⟨f0, g0⟩ := Sx.open_flat (d := 10) (hval 0 9 v0 rfl rfl) h0 (tys := [.str]) (by kernel_rfl)
  obtain ⟨x0_0, y0_0, e0_0, ⟨c0_0, rfl⟩, f0_0⟩ := Sx.all2_cons f0
  obtain rfl := Sx.all2_nil f0_0
  have a0 : v0.cells.toList = [.string c0_0] := by rw [e0_0]
  have b0 : v0 = .string c0_0 := by
    rcases g0 with ⟨⟨fs, g⟩, _⟩ | ⟨_, g⟩
    · rw [Tryz.underlying9] at g; cases g
    · rw [g] at a0; simpa using a0
  subst b0
  obtain ⟨f1, g1⟩ := Sx.open_flat (d := 10) (hval 1 9 v1 rfl rfl) h1 (tys := [.str]) (by kernel_rfl)
  obtain ⟨x1_0, y1_0, e1_0, ⟨c1_0, rfl⟩, f1_0⟩ := Sx.all2_cons f1
  obtain rfl := Sx.all2_nil f1_0
  have a1 : v1.cells.toList = [.string c1_0] := by rw [e1_0]
  have b1 : v1 = .string c1_0 := by
    rcases g1 with ⟨⟨fs, g⟩, _⟩ | ⟨_, g⟩
    · rw [Tryz.underlying9] at g; cases g
    · rw [g] at a1; simpa using a1
  subst b1
  refine (walk c0_0 c1_0  W hsh).mono fun e W' ⟨he, hg⟩ => ?_
  subst he
  refine ⟨_, rfl, Sx.law_post (tb := 4) (by kernel_rfl) ?_ rfl Tryz.underlying4 rfl rfl rfl rfl hW' hg⟩
  intro t ht
  rw [Tryz.params4] at ht
  simp only [List.mem_cons, List.not_mem_nil, or_false] at ht
  rcases ht with rfl | rfl <;> exact ⟨by kernel_rfl, of_decide_eq_true (by kernel_rfl)⟩

theorem over : Rows.libStringsRow.holds Tryz.pinned (OpenSpec.ofChange Rows.libStringsSpec) :=
  OpenClaim.holds_of_wide 4 Tryz.f4 rfl rfl rfl rfl rfl rfl rfl ⟨rfl, rfl, rfl, rfl, rfl⟩ rfl rfl rfl rfl rfl (by kernel_rfl) Tryz.func4 (by kernel_rfl)
    (of_decide_eq_true (by kernel_rfl)) (by unfold Func.isWrapper; first | (rw [if_pos (by decide +kernel)]; kernel_rfl) | (rw [if_neg (by decide +kernel)]; exact ⟨rfl, rfl⟩))
    (fun os started H enc _ => lifted os started H enc)

/-- THE STATEMENT -/
theorem proved : Rows.LibStringsCardSaid :=
  Claim7.holds_tied_plain_at .later [] [.data, .data, .data] true (true, "6e152c99dd68d3486c10157028dadd4f9541c0699921b29ef5ebbc24fead8867") false over (fun _ h => by cases h) (by kernel_rfl) (fun _ h => by cases h) libStrings_row_tie rfl ⟨rfl, rfl⟩ (by kernel_rfl) rfl
    (fun f fn hf hfn => by
      obtain rfl : f = 4 := Option.some.inj ((show Tryz.prog.funcNamed "bailiff/bailifflaw23.LibStrings" = some 4 by kernel_rfl).symm.trans hf) |>.symm
      obtain rfl : fn = Tryz.f4 := (Option.some.inj (Tryz.func4.symm.trans hfn)).symm
      exact ⟨by kernel_rfl, fun j t ht => by
        rw [Tryz.params4] at ht
        rcases j with _ | _ | _ <;> simp at ht <;> (subst ht; kernel_rfl)⟩)
    (by kernel_rfl)
#print axioms proved
end Go.Proofs.YtmmcdfmlpfjlhaaGreatDoor.libStrings
