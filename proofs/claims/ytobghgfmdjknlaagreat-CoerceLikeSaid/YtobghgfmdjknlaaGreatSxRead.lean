/- num.Read at this seat: what it answers is a function of the string alone: whether it is bad is the truth number 1, its worth the float number 2. -/
import Derived.Test.YtobghgfmdjknlaaGreatSxMay
import Derived.Test.YtobghgfmdjknlaaGreatReadWalk
namespace Go.Proofs.YtobghgfmdjknlaaGreat.Sx
open Go Go.RowKit
set_option linter.unusedSectionVars false

abbrev nanBits : Nat := 9221120237041090561
attribute [local instance] sokNone
theorem nan_calls (w : World) : Calls Tryz.prog 144 #[] w fun e w' => e = .returned (.float .f64 nanBits) ∧ Below w.heap.size w w' :=
  closed_call (c := cfgOf fun _ => none) (n := 50) (args := []) (by kernel_rfl) w

def readBad (s : ByteArray) : Bool := (readRes nanBits s.data.toList).1
def readBits (s : ByteArray) : Nat := (readRes nanBits s.data.toList).2
noncomputable def baseRead : Base where
  Φ f xs := match f with
    | 0 => mayΦ xs
    | 1 => match xs with
      | [.string s] => some (.bool (readBad s))
      | _ => none
    | 2 => match xs with
      | [.string s] => some (.float .f64 (readBits s))
      | _ => none
    | _ => none
  appTy f ts := match f with
    | 0 => extFloat .bool ts
    | 1 => match ts with
      | [.str] => some .bool
      | _ => none
    | 2 => match ts with
      | [.str] => some .f64
      | _ => none
    | _ => none
  ok := by
    intro f ts t xs h hx
    split at h
    · obtain ⟨rfl, b, rfl⟩ := extFloat_ok h hx
      exact ⟨_, rfl, _, rfl⟩
    · split at h
      · cases h
        rcases hx with _ | ⟨⟨s, rfl⟩, hx⟩
        cases hx
        exact ⟨_, rfl, _, rfl⟩
      · cases h
    · split at h
      · cases h
        rcases hx with _ | ⟨⟨s, rfl⟩, hx⟩
        cases hx
        exact ⟨_, rfl, _, rfl⟩
      · cases h
    · cases h

/-- A text of at most 4096 bytes. -/
noncomputable def shortV : V := .prim (.bin .lss 0 false) (.cons (.k (.int .i64 4096)) (.cons (.prim (.len 9) (.cons (.var 0) .nil)) .nil))
noncomputable def lemRead : Lem := ⟨[.str], [], [(shortV, false)], [.var 0],
  [⟨[], [(.app 1 (.cons (.var 0) .nil), true)], .tup (chain [.k (.float .f64 0), .k (.int .i64 10)])⟩,
   ⟨[], [(.app 1 (.cons (.var 0) .nil), false)], .tup (chain [.app 2 (.cons (.var 0) .nil), .k (.int .i64 0)])⟩]⟩
theorem short_den {Φ : Nat → List Value → Option Value} {ρ : Env} {s : ByteArray} (hx : ρ 0 = some (.string s)) : den Tryz.prog Φ ρ shortV = some (.bool (decide ((4096 : Int) < s.size))) := by
  have hl : semPrim Tryz.prog (.len 9) [.string s] = some (.int .i64 (s.size : Int)) := by
    show pureRun Tryz.prog (Builtin.len_ #[9] 0 #[.string s]) = _
    unfold Builtin.len_
    have e1 : pureRun Tryz.prog (underlying 9) = some .string := by
      unfold underlying; rw [pureRun_bind]; simp only [program, pureRun, Option.bind_some, Tryz.underlying9]; rfl
    simp only [List.getElem?_toArray, List.getElem?_cons_zero]
    rw [pureRun_bind, e1]
    rfl
  have hc : semPrim Tryz.prog (.bin .lss 0 false) [.int .i64 4096, .int .i64 (s.size : Int)] = some (.bool (decide ((4096 : Int) < s.size))) :=
    (semInt (c := cfgOf fun _ => none) (op := .lss) rfl).trans rfl
  simp [shortV, den, D, hx, hl, hc, Option.filter, isScalar, single]

theorem lemRead_ok {c : Cfg} (hP : c.P = Tryz.prog) (h1 : c.Φ 1 = baseRead.Φ 1) (h2 : c.Φ 2 = baseRead.Φ 2) : LemOk c 145 lemRead := by
  intro ρ w vals htys _ _ hpre hargs
  obtain ⟨x, hx, s, rfl⟩ := htys 0 .str rfl
  have : vals = [.string s] := by
    simp only [lemRead, chain, D, hx, Option.map_some, Option.bind_some, Option.some.injEq] at hargs
    exact hargs.symm
  subst this
  have hs : s.size ≤ 4096 := by
    have := hpre (shortV, false) (List.mem_singleton_self _) (decide ((4096 : Int) < s.size)) (by rw [hP]; exact short_den hx)
    simp only [decide_eq_false_iff_not] at this
    omega
  rw [hP]
  refine (read_walk nanBits nan_calls s hs w).mono ?_
  rintro e w' ⟨rfl, hb⟩
  refine ⟨hb, ?_⟩
  have hn : withNews ρ (lemRead.tys.length + lemRead.blks.length) [] 0 = some (.string s) := hx
  have e1 : c.Φ 1 [.string s] = some (.bool (readBad s)) := by rw [h1]; rfl
  have e2 : c.Φ 2 [.string s] = some (.float .f64 (readBits s)) := by rw [h2]; rfl
  have a1 : den Tryz.prog c.Φ (withNews ρ (lemRead.tys.length + lemRead.blks.length) []) (.app 1 (.cons (.var 0) .nil)) = some (.bool (readBad s)) := by
    simp [den, D, hn, e1, Option.filter, isScalar, single]
  have a2 : D Tryz.prog c.Φ (withNews ρ (lemRead.tys.length + lemRead.blks.length) []) (.app 2 (.cons (.var 0) .nil)) = some [.float .f64 (readBits s)] := by
    simp [D, hn, e2, Option.filter, isScalar]
  cases hbad : readBad s with
  | true =>
    have hbits : readBits s = 0 := by
      have : (readRes nanBits s.data.toList).1 = true → (readRes nanBits s.data.toList).2 = 0 := res_bad _ _
      exact this hbad
    refine ⟨_, [], .tuple #[.float .f64 0, .int .i64 10], List.mem_cons_self .., .nil, fun g hg => ?_, ?_, ?_⟩
    · simp only [List.mem_singleton] at hg
      subst hg
      rw [a1, hbad]
    · simp [den, D, chain, single]
    · show Ending.returned (.tuple #[.float .f64 (readBits s), .int .i64 (errOf (readBad s))]) = _
      rw [hbits, hbad]
      rfl
  | false =>
    refine ⟨_, [], .tuple #[.float .f64 (readBits s), .int .i64 0], List.mem_cons_of_mem _ (List.mem_cons_self ..), .nil, fun g hg => ?_, ?_, ?_⟩
    · simp only [List.mem_singleton] at hg
      subst hg
      rw [a1, hbad]
    · simp [den, D, chain, hn, e2, Option.filter, isScalar, single]
    · show Ending.returned (.tuple #[.float .f64 (readBits s), .int .i64 (errOf (readBad s))]) = _
      rw [hbad]
      rfl
end Go.Proofs.YtobghgfmdjknlaaGreat.Sx
