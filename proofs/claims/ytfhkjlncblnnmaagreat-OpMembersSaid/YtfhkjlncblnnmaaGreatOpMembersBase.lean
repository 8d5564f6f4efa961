/- OpMembers: what its forms stand on: num.May as a named function, and alive. -/
import Derived.Test.YtfhkjlncblnnmaaGreatSxMay
import Derived.Test.YtfhkjlncblnnmaaGreatSxTab
namespace Go.Proofs.YtfhkjlncblnnmaaGreat.opMembers
open Go Go.RowKit
set_option linter.unusedVariables false

open Sx in
noncomputable abbrev c00 := cfgB baseMay (fun _ => none) fun _ => none
open Sx in
noncomputable def s0 := sumL [(43, lemsX c00 [lemMay])]
open Sx in
theorem mayTr (c : Cfg) (hP : c.P = Tryz.prog) (hΦ : c.Φ = baseMay.Φ) (F : Wd) : TrOk c F 43 (lemsX c00 [lemMay]) :=
  TrOk.cfg (c := c00) (c' := c) hP.symm hΦ.symm (lemsX_tr (fun L hL => by
    simp only [List.mem_singleton] at hL; subst hL; exact lemMay_ok rfl rfl))
open Sx in
noncomputable abbrev c0 := cfgB baseMay s0 fun _ => none
open Sx in
instance sok0 (F : Wd) : SOk c0 F := sumL_ok (c := c0) rfl (fun x hx => by
  simp only [List.mem_singleton] at hx; subst hx; exact mayTr c0 rfl rfl F)
open Sx in
noncomputable def alive : Lem := ⟨[], [], [], [], [⟨[], [], .k (.bool true)⟩]⟩
open Sx in
set_option maxRecDepth 100000 in
theorem alive_ok : LemOk c0 14 alive := lem_of_run (n := 400) (by kernel_rfl)
open Sx in
noncomputable def s1 := sumL [(43, lemsX c00 [lemMay]), (14, lemsX c0 [alive])]
open Sx in
noncomputable abbrev c1 := cfgB baseMay s1 fun f => bif Nat.beq f 22 then some true else none
open Sx in
instance sok1 (F : Wd) : SOk c1 F := sumL_ok (c := c1) rfl (fun x hx => by
  simp only [List.mem_cons, List.not_mem_nil, or_false] at hx
  rcases hx with rfl | rfl
  · exact mayTr c1 rfl rfl F
  · exact TrOk.cfg (c := c0) (c' := c1) rfl rfl (lemsX_tr (fun L hL => by simp only [List.mem_singleton] at hL; subst hL; exact alive_ok)))
end Go.Proofs.YtfhkjlncblnnmaaGreat.opMembers
