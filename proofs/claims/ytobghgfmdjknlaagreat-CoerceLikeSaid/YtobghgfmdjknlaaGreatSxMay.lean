/- num.May at this seat: it answers at every float, and what it answers is a function of the float alone: the truth number 0. -/
import Derived.Test.YtobghgfmdjknlaaGreatSxLaw
import Derived.Test.YtobghgfmdjknlaaGreatSxTab
namespace Go.Proofs.YtobghgfmdjknlaaGreat.Sx
open Go Go.RowKit
set_option linter.unusedSectionVars false

theorem sokNone (F : Wd) : SOk (cfgOf fun _ => none) F := ⟨fun _ _ h => by cases h⟩
attribute [local instance] sokNone

noncomputable def mayNan : Lem := ⟨[.nan], [], [], [.var 0], [⟨[], [], .k (.bool true)⟩]⟩
set_option maxRecDepth 100000 in
theorem mayNan_ok : LemOk (cfgOf fun _ => none) 47 mayNan := lem_of_run (n := 100) (by kernel_rfl)
noncomputable def mayNum : Lem := ⟨[.num], [], [], [.var 0], outsOf [] (exec (cfgOf fun _ => none) 100 (.call 47 [.var 0]) (stOf [.num] [] []))⟩
set_option maxRecDepth 100000 in
theorem mayNum_ok : LemOk (cfgOf fun _ => none) 47 mayNum := lem_of_run (n := 100) (by kernel_rfl)
set_option maxRecDepth 100000 in
theorem mayNum_bool : boolish (cfgOf fun _ => none) mayNum = true := by kernel_rfl

theorem may_fun : ∃ F : Nat → Bool, ∀ b w, Calls Tryz.prog 47 #[.float .f64 b] w fun e w' => e = .returned (.bool (F b)) ∧ Below w.heap.size w w' := by
  classical
  refine ⟨fun b => if ∃ s t, Ieee.double.read b = .nan s t then true else trueOf (cfgOf fun _ => none) mayNum [.float .f64 b], fun b w => ?_⟩
  by_cases hn : ∃ s t, Ieee.double.read b = .nan s t
  · simp only [if_pos hn]
    obtain ⟨s, t, hst⟩ := hn
    refine (mayNan_ok (envL [.float .f64 b]) w [.float .f64 b] (fun i t' h => ?_) (fun j cs T h => by simp [mayNan] at h) (fun j j' b h => by simp [mayNan] at h) (fun g hg => by simp [mayNan] at hg) rfl).mono ?_
    · match i, h with
      | 0, h =>
        simp only [mayNan, List.getElem?_cons_zero, Option.some.injEq] at h
        subst h
        exact ⟨_, rfl, b, s, t, rfl, hst⟩
      | i + 1, h => simp [mayNan] at h
    · rintro e w' ⟨hb, o, ys, x, ho, _, _, hv, rfl⟩
      simp only [mayNan, List.mem_singleton] at ho
      subst ho
      simp only [den_k, Option.some.injEq] at hv
      exact ⟨by rw [hv], hb⟩
  · simp only [if_neg hn]
    have hnum : ∀ s t, Ieee.double.read b ≠ .nan s t := fun s t h => hn ⟨s, t, h⟩
    exact trueOf_ok mayNum_ok mayNum_bool (.cons ⟨b, rfl, hnum⟩ .nil) (vals := [.float .f64 b]) rfl w

noncomputable def mayF : Nat → Bool := Classical.choose may_fun
theorem may_calls (b : Nat) (w : World) : Calls Tryz.prog 47 #[.float .f64 b] w fun e w' => e = .returned (.bool (mayF b)) ∧ Below w.heap.size w w' := Classical.choose_spec may_fun b w

noncomputable def mayΦ (xs : List Value) : Option Value := match xs with
  | [.float .f64 b] => some (.bool (mayF b))
  | _ => none
noncomputable def baseMay : Base where
  Φ f xs := match f with
    | 0 => mayΦ xs
    | _ => none
  appTy f ts := match f with
    | 0 => extFloat .bool ts
    | _ => none
  ok := by
    intro f ts t xs h hx
    split at h
    · obtain ⟨rfl, b, rfl⟩ := extFloat_ok h hx
      exact ⟨_, rfl, _, rfl⟩
    · cases h

noncomputable def lemMay : Lem := ⟨[.f64], [], [], [.var 0], [⟨[], [], .app 0 (.cons (.var 0) .nil)⟩]⟩
theorem lemMay_ok {c : Cfg} (hP : c.P = Tryz.prog) (hΦ : c.Φ 0 = mayΦ) : LemOk c 47 lemMay := by
  intro ρ w vals htys _ _ _ hargs
  obtain ⟨x, hx, b, rfl⟩ := htys 0 .f64 rfl
  have : vals = [.float .f64 b] := by
    simp only [lemMay, chain, D, hx, Option.map_some, Option.bind_some, Option.some.injEq] at hargs
    exact hargs.symm
  subst this
  rw [hP]
  refine (may_calls b w).mono ?_
  rintro e w' ⟨rfl, hb⟩
  refine ⟨hb, ⟨[], [], .app 0 (.cons (.var 0) .nil)⟩, [], .bool (mayF b), List.mem_singleton_self _, .nil, fun g (hg : g ∈ []) => (List.not_mem_nil hg).elim, ?_, rfl⟩
  have h1 : withNews ρ (lemMay.tys.length + lemMay.blks.length) [] 0 = some (.float .f64 b) := hx
  simp [den, D, h1, hΦ, mayΦ, Option.filter, isScalar, single]
end Go.Proofs.YtobghgfmdjknlaaGreat.Sx
