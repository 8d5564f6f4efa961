/- num.May at this seat: it answers yes at just the floats that are no number, and at the whole ones of less than 54 digits that are no minus nought; the truth number 0. -/
import Derived.Test.YtobghgfmdjknlaaSxLaw
import Derived.Test.YtobghgfmdjknlaaSxTab
import Derived.Test.YtobghgfmdjknlaaSxWhole
namespace Go.Proofs.Ytobghgfmdjknlaa.Sx
open Go Go.RowKit
set_option linter.unusedSectionVars false

theorem sokNone : SAll (cfgOf fun _ => none) := ⟨fun _ _ => ⟨fun _ _ h => by cases h⟩⟩
attribute [local instance] sokNone
theorem low0 {w : World} : ∀ b, b < (cfgOf fun _ => none).low → b < w.heap.size := fun b hb => absurd hb (Nat.not_lt_zero b)

noncomputable def mayNan : Lem := ⟨[.nan], [], [], [.var 0], [⟨[], [], .k (.bool true)⟩]⟩
set_option maxRecDepth 100000 in
theorem mayNan_ok : LemOk (cfgOf fun _ => none) 28 mayNan := lem_of_run (n := 100) (by kernel_rfl)
noncomputable def mayF1 : V := .prim (.bin .eql 0 false) (.cons (.prim (.ext 39) (.cons (.var 0) .nil)) (.cons (.var 0) .nil))
noncomputable def mayF2 : V := .prim (.bin .leq 0 false) (.cons (.prim (.ext 41) (.cons (.prim (.bin .andNot 0 false) (.cons (.prim (.ext 42) (.cons (.var 0) .nil)) (.cons (.k (.int .u64 9223372036854775808)) .nil))) .nil)) (.cons (.k (.float .f64 4845873199050653695)) .nil))
noncomputable def mayF3 : V := .prim (.bin .eql 0 false) (.cons (.var 0) (.cons (.k (.float .f64 0)) .nil))
noncomputable def maySg : V := .prim (.un .not) (.cons (.prim (.bin .lss 0 false) (.cons (.prim (.conv 61 2) (.cons (.prim (.ext 42) (.cons (.var 0) .nil)) .nil)) (.cons (.k (.int .i64 0)) .nil))) .nil)
noncomputable def mayNum : Lem := ⟨[.num], [], [], [.var 0], [⟨[], [(mayF1, true), (mayF2, true), (mayF3, false)], .k (.bool true)⟩, ⟨[], [(mayF1, true), (mayF2, true), (mayF3, true)], maySg⟩, ⟨[], [(mayF1, true), (mayF2, false)], .k (.bool false)⟩, ⟨[], [(mayF1, false)], .k (.bool false)⟩]⟩
set_option maxRecDepth 100000 in
theorem mayNum_ok : LemOk (cfgOf fun _ => none) 28 mayNum := lem_of_run (n := 100) (by kernel_rfl)

noncomputable abbrev c00 : Cfg := cfgOf fun _ => none
section
variable {ρ : Env} {b : Nat}
set_option maxRecDepth 100000 in
theorem den_v0 (hx : ρ 0 = some (.float .f64 b)) : den c00.P c00.Φ ρ (.var 0) = some (.float .f64 b) := by simp [den, D, hx, single]
set_option maxRecDepth 100000 in
theorem one_prim {p : Prim} {v : V} {x z : Value} (hx : den c00.P c00.Φ ρ v = some x) (h : den c00.P c00.Φ ρ (.prim p (.cons v .nil)) = some z) : semPrim c00.P p [x] = some z := by
  obtain ⟨xs, hd, hp⟩ := den_prim (c := c00) h
  have hd := D_one (c := c00) hd
  simp only [den] at hx
  have hd : D c00.P c00.Φ ρ v = some xs := hd
  rw [hd, Option.bind_some, single_some] at hx
  subst hx; exact hp
set_option maxRecDepth 100000 in
theorem two_prim {p : Prim} {u v : V} {z : Value} (hu : oneV u = true) (hv : oneV v = true) (h : den c00.P c00.Φ ρ (.prim p (.cons u (.cons v .nil))) = some z) : ∃ x y, den c00.P c00.Φ ρ u = some x ∧ den c00.P c00.Φ ρ v = some y ∧ semPrim c00.P p [x, y] = some z :=
  den_two (c := c00) h hu hv
set_option maxRecDepth 100000 in
theorem sem_trunc (hn : ∀ s t, Ieee.double.read b ≠ .nan s t) : semPrim c00.P (.ext 39) [.float .f64 b] = some (.float .f64 (FloatKind.f64.encode ((FloatKind.f64.decode b).integral .zero))) := by
  show (pureRun Try.prog (callFunc 39 #[.float .f64 b])).bind _ = _
  rw [pr39, pureRun_bind]
  have h : Extern.MathFloor.toIntegral "math.archTrunc" .zero #[.float .f64 b] = (match FloatKind.f64.decode b with
    | .nan s t =>
      if FloatKind.f64.format.quiet t = t then pure (.float .f64 b) else do
      let kept ← choose (.extern "math.Floor,Ceil,Trunc,RoundToEven.signallingNaN kept" 2)
      pure (.float .f64 (if kept == 1 then b else FloatKind.f64.encode (.nan s (FloatKind.f64.format.quiet t))))
    | d => pure (.float .f64 (FloatKind.f64.encode (d.integral .zero)))) := rfl
  rw [h]
  have hd : FloatKind.f64.decode b = Ieee.double.read b := rfl
  rw [hd]
  cases hr : Ieee.double.read b with
  | nan s t => exact absurd hr (hn s t)
  | infinity s => rfl
  | number s m i => rfl
set_option maxRecDepth 100000 in
theorem sem_bits : semPrim c00.P (.ext 42) [.float .f64 b] = some (.int .u64 b) := by
  have h1 : pureRun c00.P (callFunc 42 [Value.float .f64 b].toArray) = some (.value (.int .u64 b)) := pr42 b
  simp only [semPrim, h1, Option.bind_some]
set_option maxRecDepth 100000 in
theorem sem_from {n : Int} : semPrim c00.P (.ext 41) [.int .u64 n] = some (.float .f64 n.toNat) := by
  have h1 : pureRun c00.P (callFunc 41 [Value.int .u64 n].toArray) = some (.value (.float .f64 n.toNat)) := pr41 n
  simp only [semPrim, h1, Option.bind_some]
set_option maxRecDepth 100000 in
theorem andnot_eq (b : Nat) : (IntKind.u64.wrap ((BitVec.ofInt 64 (b : Int) &&& ~~~ BitVec.ofInt 64 9223372036854775808).toNat : Int)).toNat = b % 9223372036854775808 := by
  have h1 : (BitVec.ofInt 64 (b : Int) &&& ~~~ BitVec.ofInt 64 9223372036854775808).toNat = b % 9223372036854775808 := by
    have h2 : BitVec.ofInt 64 (b : Int) = BitVec.ofNat 64 b := by
      apply BitVec.eq_of_toInt_eq; simp
    rw [h2]
    apply Nat.eq_of_testBit_eq
    intro j
    rw [show (9223372036854775808 : Nat) = 2 ^ 63 from rfl, Nat.testBit_mod_two_pow]
    rw [← BitVec.getLsbD, BitVec.getLsbD_and, BitVec.getLsbD_not]
    have h3 : (BitVec.ofInt 64 9223372036854775808).getLsbD j = decide (j = 63) := by
      by_cases hj : j < 64
      · have : ∀ j : Fin 64, (BitVec.ofInt 64 9223372036854775808).getLsbD j.val = decide (j.val = 63) := by decide
        exact this ⟨j, hj⟩
      · rw [BitVec.getLsbD_of_ge _ _ (by omega)]
        have : ¬ j = 63 := by omega
        simp [this]
    rw [h3, BitVec.getLsbD_ofNat]
    by_cases h1 : j < 63
    · have h2 : j < 64 := by omega
      have h4 : ¬ j = 63 := by omega
      simp [h1, h2, h4]
    · by_cases h2 : j = 63
      · subst h2; simp
      · have h4 : ¬ j < 64 := by omega
        simp [h1, h2, h4]
  rw [h1]
  have : b % 9223372036854775808 < 9223372036854775808 := Nat.mod_lt _ (by decide)
  rw [wrap_self (by show (0 : Int) ≤ _; omega) (by show _ ≤ (18446744073709551615 : Int); omega)]
  exact Int.toNat_natCast _
set_option maxRecDepth 100000 in
theorem sem_andnot : semPrim c00.P (.bin .andNot 0 false) [.int .u64 (b : Int), .int .u64 9223372036854775808] = some (.int .u64 (IntKind.u64.wrap ((BitVec.ofInt 64 (b : Int) &&& ~~~ BitVec.ofInt 64 9223372036854775808).toNat : Int))) := by
  rw [semBin (c := c00) (by simp) (by simp)]; rfl

set_option maxRecDepth 100000 in
theorem may1 (hx : ρ 0 = some (.float .f64 b)) (hn : ∀ s t, Ieee.double.read b ≠ .nan s t) {z : Bool} (h : den c00.P c00.Φ ρ mayF1 = some (.bool z)) : z = (FloatKind.f64.format.order (FloatKind.f64.encode ((FloatKind.f64.decode b).integral .zero)) b == some .eq) := by
  obtain ⟨x, y, h1, h2, h3⟩ := two_prim rfl rfl h
  have h1 := one_prim (den_v0 hx) h1
  rw [sem_trunc hn] at h1
  rw [den_v0 hx] at h2
  cases h1; cases h2
  exact eql_flt (c := c00) h3
set_option maxRecDepth 100000 in
theorem may2 (hx : ρ 0 = some (.float .f64 b)) {z : Bool} (h : den c00.P c00.Φ ρ mayF2 = some (.bool z)) : z = (FloatKind.f64.format.order (b % 9223372036854775808) 4845873199050653695 == some .lt || FloatKind.f64.format.order (b % 9223372036854775808) 4845873199050653695 == some .eq) := by
  obtain ⟨x, y, h1, h2, h3⟩ := two_prim rfl rfl h
  simp only [den_k, Option.some.injEq] at h2
  subst h2
  have hd : ∃ u, den c00.P c00.Φ ρ (.prim (.bin .andNot 0 false) (.cons (.prim (.ext 42) (.cons (.var 0) .nil)) (.cons (.k (.int .u64 9223372036854775808)) .nil))) = some u := by
    cases hd : den c00.P c00.Φ ρ (.prim (.bin .andNot 0 false) (.cons (.prim (.ext 42) (.cons (.var 0) .nil)) (.cons (.k (.int .u64 9223372036854775808)) .nil))) with
    | some u => exact ⟨u, rfl⟩
    | none =>
      obtain ⟨xs, h4, _⟩ := den_prim (c := c00) h1
      have h4 := D_one (c := c00) h4
      obtain ⟨u, rfl⟩ := one_single rfl h4
      have h4 : D c00.P c00.Φ ρ _ = some [u] := h4
      simp [den, h4, single] at hd
  obtain ⟨u, hu⟩ := hd
  have h1 := one_prim hu h1
  obtain ⟨p, q, h4, h5, h6⟩ := two_prim rfl rfl hu
  have h4 := one_prim (den_v0 hx) h4
  rw [sem_bits] at h4
  simp only [den_k, Option.some.injEq] at h5
  cases h4; subst h5
  rw [sem_andnot] at h6
  cases h6
  rw [sem_from, andnot_eq] at h1
  cases h1
  rw [semFloat (c := c00) rfl] at h3
  have h3 : some (Value.bool _) = some (Value.bool z) := h3
  simp only [Option.some.injEq, Value.bool.injEq] at h3
  exact h3.symm
set_option maxRecDepth 100000 in
theorem may3 (hx : ρ 0 = some (.float .f64 b)) {z : Bool} (h : den c00.P c00.Φ ρ mayF3 = some (.bool z)) : z = (FloatKind.f64.format.order b 0 == some .eq) := by
  obtain ⟨x, y, h1, h2, h3⟩ := two_prim rfl rfl h
  rw [den_v0 hx] at h1
  simp only [den_k, Option.some.injEq] at h2
  cases h1; subst h2
  exact eql_flt (c := c00) h3
set_option maxRecDepth 100000 in
theorem may4 (hx : ρ 0 = some (.float .f64 b)) {x : Value} (h : den c00.P c00.Φ ρ maySg = some x) : x = .bool (b / 9223372036854775808 % 2 == 0) := by
  have hd : ∃ u, den c00.P c00.Φ ρ (.prim (.bin .lss 0 false) (.cons (.prim (.conv 61 2) (.cons (.prim (.ext 42) (.cons (.var 0) .nil)) .nil)) (.cons (.k (.int .i64 0)) .nil))) = some u := by
    cases hd : den c00.P c00.Φ ρ (.prim (.bin .lss 0 false) (.cons (.prim (.conv 61 2) (.cons (.prim (.ext 42) (.cons (.var 0) .nil)) .nil)) (.cons (.k (.int .i64 0)) .nil))) with
    | some u => exact ⟨u, rfl⟩
    | none =>
      obtain ⟨xs, h4, _⟩ := den_prim (c := c00) h
      have h4 := D_one (c := c00) h4
      obtain ⟨u, rfl⟩ := one_single rfl h4
      have h4 : D c00.P c00.Φ ρ _ = some [u] := h4
      simp [den, h4, single] at hd
  obtain ⟨u, hu⟩ := hd
  have h := one_prim hu h
  obtain ⟨p, q, h4, h5, h6⟩ := two_prim rfl rfl hu
  simp only [den_k, Option.some.injEq] at h5
  subst h5
  have hb : ∃ v, den c00.P c00.Φ ρ (.prim (.ext 42) (.cons (.var 0) .nil)) = some v := by
    refine ⟨.int .u64 b, ?_⟩
    refine den_prim_of (c := c00) (xs := [.float .f64 b]) ?_ sem_bits rfl
    show D c00.P c00.Φ ρ _ = _
    simp [D, hx]
  obtain ⟨v, hv⟩ := hb
  have h7 := one_prim (den_v0 hx) hv
  rw [sem_bits] at h7
  cases h7
  have h4 := one_prim hv h4
  have hc : semPrim c00.P (.conv 61 2) [.int .u64 (b : Int)] = some (.int .i64 (IntKind.i64.wrap b)) := by
    show pureRun Try.prog (convert 61 2 (.int .u64 (b : Int))) = _
    unfold convert underlying
    rw [pureRun_bind, pureRun_bind]
    simp only [program, pureRun, Option.bind_some, Try.underlying61]
    show (pureRun Try.prog ((program >>= fun p => _) >>= _)) = _
    rw [pureRun_bind, pureRun_bind]
    simp only [program, pureRun, Option.bind_some]
    rfl
  rw [hc] at h4
  cases h4
  have h6 : semPrim c00.P (.bin .lss 0 false) [.int .i64 (IntKind.i64.wrap b), .int .i64 0] = some u := h6
  rw [semInt (c := c00) rfl] at h6
  have h6 : some (Value.bool (decide (IntKind.i64.wrap b < 0))) = some u := h6
  simp only [Option.some.injEq] at h6
  subst h6
  have h : some (Value.bool (!decide (IntKind.i64.wrap b < 0))) = some x := h
  simp only [Option.some.injEq] at h
  rw [← h]
  congr 1
  have hw : IntKind.i64.wrap (b : Int) < 0 ↔ ¬ b / 9223372036854775808 % 2 = 0 := by
    simp only [IntKind.wrap, IntKind.signed, IntKind.bits]
    constructor
    · intro h; simp at h; omega
    · intro h; simp; omega
  by_cases hs : b / 9223372036854775808 % 2 = 0
  · rw [decide_eq_false (fun h => (hw.1 h) hs), hs]; rfl
  · rw [decide_eq_true (hw.2 hs)]
    simp [hs]
end

open Classical in
noncomputable def mayB (b : Nat) : Bool := decide ((∃ s t, Ieee.double.read b = .nan s t) ∨ whole b)
open Classical in
theorem mayB_true {b : Nat} (h : (∃ s t, Ieee.double.read b = .nan s t) ∨ whole b) : mayB b = true := by
  unfold mayB; exact decide_eq_true h
open Classical in
theorem mayB_false {b : Nat} (h : ¬ ((∃ s t, Ieee.double.read b = .nan s t) ∨ whole b)) : mayB b = false := by
  unfold mayB; exact decide_eq_false h
open Classical in
theorem mayB_of {b : Nat} (h : mayB b = true) : (∃ s t, Ieee.double.read b = .nan s t) ∨ whole b := by
  unfold mayB at h; exact of_decide_eq_true h
set_option maxRecDepth 100000 in
theorem may_calls (b : Nat) (w : World) : Calls Try.prog 28 #[.float .f64 b] w fun e w' => e = .returned (.bool (mayB b)) ∧ Below w.heap.size w w' := by
  by_cases hn : ∃ s t, Ieee.double.read b = .nan s t
  · have hm : mayB b = true := mayB_true (.inl hn)
    rw [hm]
    obtain ⟨s, t, hst⟩ := hn
    refine (mayNan_ok (envL [.float .f64 b]) w [.float .f64 b] trivial low0 (fun i t' h => ?_) (fun j cs T h => by simp [mayNan] at h) (fun j j' b h => by simp [mayNan] at h) (fun g hg => by simp [mayNan] at hg) rfl).mono ?_
    · match i, h with
      | 0, h =>
        simp only [mayNan, List.getElem?_cons_zero, Option.some.injEq] at h
        subst h
        exact ⟨_, rfl, b, s, t, rfl, hst⟩
      | i + 1, h => simp [mayNan] at h
    · rintro e w' ⟨hb, o, ys, x, ho, _, _, hv, rfl⟩
      simp only [mayNan, List.mem_singleton] at ho
      subst ho
      simp only [den_k, Option.some.injEq] at hv
      exact ⟨by rw [hv], hb⟩
  · have hnum : ∀ s t, Ieee.double.read b ≠ .nan s t := fun s t h => hn ⟨s, t, h⟩
    have hm : ∀ z : Bool, (z = true ↔ whole b) → mayB b = z := by
      intro z hz
      cases z with
      | true => exact mayB_true (.inr (hz.1 rfl))
      | false => exact mayB_false (fun h => h.elim hn (fun h => by have := hz.2 h; cases this))
    refine (mayNum_ok (envL [.float .f64 b]) w [.float .f64 b] trivial low0 (fun i t' h => ?_) (fun j cs T h => absurd (show (none : Option (List V × TypeId)) = some (cs, T) from h) nofun) (fun j j' b h => absurd h (Nat.not_lt_zero j)) (fun g hg => by have hg : g ∈ ([] : List (V × Bool)) := hg; cases hg) rfl).mono ?_
    · match i, h with
      | 0, h =>
        have h : some Ty.num = some t' := h
        cases h
        exact ⟨_, rfl, b, rfl, hnum⟩
      | i + 1, h => have h : (none : Option Ty) = some t' := h; cases h
    · rintro e w' ⟨hb, o, ys, x, ho, hys, hf, hv, rfl⟩
      refine ⟨?_, hb⟩
      have hx : withNews (envL [.float .f64 b]) (mayNum.tys.length + mayNum.blks.length) ys 0 = some (.float .f64 b) := rfl
      simp only [mayNum, List.mem_cons, List.not_mem_nil, or_false] at ho
      have boolT : ∀ {p q : Bool}, (true = (p || q)) → p = true ∨ q = true := fun h => by rw [eq_comm, Bool.or_eq_true] at h; exact h
      rcases ho with rfl | rfl | rfl | rfl
      · have f1 := may1 hx hnum (hf (mayF1, true) (by simp))
        have f2 := boolT (may2 hx (hf (mayF2, true) (by simp)))
        have f3 := may3 hx (hf (mayF3, false) (by simp))
        simp only [den_k, Option.some.injEq] at hv
        subst hv
        rw [hm true]
        simp only [true_iff]
        refine whole_of hnum (by simpa using f1.symm) (by simpa using f2) (fun h => ?_)
        rw [h] at f3; cases f3
      · have f1 := may1 hx hnum (hf (mayF1, true) (by simp))
        have f2 := boolT (may2 hx (hf (mayF2, true) (by simp)))
        have f3 := may3 hx (hf (mayF3, true) (by simp))
        have f4 := may4 hx hv
        subst f4
        rw [hm (b / 9223372036854775808 % 2 == 0)]
        constructor
        · intro h
          exact whole_of hnum (by simpa using f1.symm) (by simpa using f2) (fun _ => by simpa using h)
        · rintro ⟨n, hn1, hn2⟩
          have := (of_near hn1 hn2).2.2 (by simpa using f3.symm)
          subst this
          have h0 : FloatKind.f64.nearest 0 = 0 := by decide +kernel
          rw [h0] at hn2
          have : b / 9223372036854775808 % 2 = 0 := by omega
          simp [this]
      · have f2 := may2 hx (hf (mayF2, false) (by simp))
        simp only [den_k, Option.some.injEq] at hv
        subst hv
        rw [hm false]
        simp only [Bool.false_eq_true, false_iff]
        rintro ⟨n, hn1, hn2⟩
        rcases (of_near hn1 hn2).2.1 with h | h <;> (rw [h] at f2; simp at f2)
      · have f1 := may1 hx hnum (hf (mayF1, false) (by simp))
        simp only [den_k, Option.some.injEq] at hv
        subst hv
        rw [hm false]
        simp only [Bool.false_eq_true, false_iff]
        rintro ⟨n, hn1, hn2⟩
        have := (of_near hn1 hn2).1
        rw [this] at f1; simp at f1

theorem mayB_near {n : Int} (h : n.natAbs < 2 ^ 64) : mayB (FloatKind.f64.nearest n) = decide (n.natAbs < 2 ^ 53) := by
  have hnan : ¬ ∃ s t, Ieee.double.read (FloatKind.f64.nearest n) = .nan s t := by
    rintro ⟨s, t, h1⟩
    obtain ⟨s', m, i, h2⟩ := near_fin n h
    rw [h2] at h1; cases h1
  by_cases hn : n.natAbs < 2 ^ 53
  · rw [decide_eq_true hn]; exact mayB_true (.inr (whole_near hn))
  · rw [decide_eq_false hn]; exact mayB_false (fun h1 => h1.elim hnan (great_not (by omega) h))
theorem mayB_cases {b : Nat} (hb : b < 2 ^ 64) (h : mayB b = true) : hasTy (.float .f64 b) .nan ∨ ∃ n : Int, n.natAbs < 2 ^ 53 ∧ b = FloatKind.f64.nearest n := by
  rcases mayB_of h with ⟨s, t, h1⟩ | ⟨n, h1, h2⟩
  · exact .inl ⟨b, s, t, rfl, h1⟩
  · refine .inr ⟨n, h1, ?_⟩
    rw [← h2]
    exact (Nat.mod_eq_of_lt hb).symm

noncomputable def mayΦ (xs : List Value) : Option Value := match xs with
  | [.float .f64 b] => some (.bool (mayB b))
  | _ => none
theorem mayΦ_ok {ts : List Ty} {t : Ty} {xs : List Value} (h : extFloat .bool ts = some t) (hx : All2 hasTy xs ts) : ∃ x, mayΦ xs = some x ∧ hasTy x t := by
  obtain ⟨rfl, b, rfl⟩ := extFloat_ok h hx
  exact ⟨_, rfl, _, rfl⟩

noncomputable def lemMay : Lem := ⟨[.f64], [], [], [.var 0], [⟨[], [], .app 0 (.cons (.var 0) .nil)⟩]⟩
theorem lemMay_ok {c : Cfg} (hP : c.P = Try.prog) (hΦ : c.Φ 0 = mayΦ) : LemOk c 28 lemMay := by
  intro ρ w vals _ _ htys _ _ _ hargs
  obtain ⟨x, hx, b, rfl⟩ := htys 0 .f64 rfl
  have : vals = [.float .f64 b] := by
    simp only [lemMay, chain, D, hx, Option.map_some, Option.bind_some, Option.some.injEq] at hargs
    exact hargs.symm
  subst this
  rw [hP]
  refine (may_calls b w).mono ?_
  rintro e w' ⟨rfl, hb⟩
  refine ⟨hb, ⟨[], [], .app 0 (.cons (.var 0) .nil)⟩, [], .bool (mayB b), List.mem_singleton_self _, .nil, fun g (hg : g ∈ []) => (List.not_mem_nil hg).elim, ?_, rfl⟩
  have h1 : withNews ρ (lemMay.tys.length + lemMay.blks.length) [] 0 = some (.float .f64 b) := hx
  simp [den, D, h1, hΦ, mayΦ, Option.filter, isScalar, single]
/-- Of a NaN. -/
noncomputable def lemMayN : Lem := ⟨[.nan], [], [], [.var 0], [⟨[], [], .k (.bool true)⟩]⟩
theorem lemMayN_ok {c : Cfg} (hP : c.P = Try.prog) : LemOk c 28 lemMayN := by
  intro ρ w vals _ _ htys _ _ _ hargs
  obtain ⟨x, hx, b, s, t, rfl, hn⟩ := htys 0 .nan rfl
  have : vals = [.float .f64 b] := by
    simp only [lemMayN, chain, D, hx, Option.map_some, Option.bind_some, Option.some.injEq] at hargs
    exact hargs.symm
  subst this
  rw [hP]
  refine (may_calls b w).mono ?_
  rintro e w' ⟨rfl, hb⟩
  have hm : mayB b = true := mayB_true (.inl ⟨s, t, hn⟩)
  exact ⟨hb, ⟨[], [], .k (.bool true)⟩, [], .bool (mayB b), List.mem_singleton_self _, .nil, fun g (hg : g ∈ []) => (List.not_mem_nil hg).elim, by rw [hm]; rfl, rfl⟩
/-- Of the float of a whole number. -/
noncomputable abbrev wideT : Ty := .int .i64 (-18014398509481984) (some 18014398509481984)
noncomputable abbrev smallT : Ty := .int .i64 (-9007199254740991) (some 9007199254740991)
noncomputable abbrev lssV (a b : V) : V := .prim (.bin .lss 0 false) (.cons a (.cons b .nil))
noncomputable def lemMayI : Lem := ⟨[wideT], [], [], [i2fV (.var 0)], [⟨[], [(lssV (.var 0) (.k (.int .i64 (-9007199254740991))), true)], .k (.bool false)⟩, ⟨[], [(lssV (.k (.int .i64 9007199254740991)) (.var 0), true)], .k (.bool false)⟩,
  ⟨[], [(lssV (.var 0) (.k (.int .i64 (-9007199254740991))), false), (lssV (.k (.int .i64 9007199254740991)) (.var 0), false)], .k (.bool true)⟩]⟩
theorem lss_den {c : Cfg} [COk c] {ρ : Env} {u v : V} {n m : Int} (hu : den c.P c.Φ ρ u = some (.int .i64 n)) (hv : den c.P c.Φ ρ v = some (.int .i64 m)) : den c.P c.Φ ρ (lssV u v) = some (.bool (decide (n < m))) := int_lss hu hv
theorem lemMayI_ok {c : Cfg} [COk c] (hP : c.P = Try.prog) : LemOk c 28 lemMayI := by
  intro ρ w vals _ _ htys _ _ _ hargs
  obtain ⟨x, hx, n, rfl, h1, h2⟩ := htys 0 wideT rfl
  have h2 := h2 _ rfl
  have hv : den c.P c.Φ ρ (.var 0) = some (.int .i64 n) := by simp [den, D, hx, single]
  have : vals = [.float .f64 (FloatKind.f64.nearest n)] := by
    have h3 := D_of (i2fV_den hv)
    simp only [lemMayI, chain, D, Option.bind_eq_some_iff, Option.map_eq_some_iff, Option.some.injEq] at hargs
    obtain ⟨us, ha, bs, rfl, rfl⟩ := hargs
    have h3 : D c.P c.Φ ρ (i2fV (.var 0)) = some us := by simpa [i2fV, D] using ha
    rw [D_of (i2fV_den hv)] at h3
    cases h3; rfl
  subst this
  rw [hP]
  refine (may_calls _ w).mono ?_
  rintro e w' ⟨rfl, hb⟩
  rw [mayB_near (by omega)]
  refine ⟨hb, ?_⟩
  have hv' : den c.P c.Φ (withNews ρ (lemMayI.tys.length + lemMayI.blks.length) []) (.var 0) = some (.int .i64 n) := by
    have : withNews ρ (lemMayI.tys.length + lemMayI.blks.length) [] 0 = some (.int .i64 n) := hx
    simp [den, D, this, single]
  have g1 := lss_den (c := c) hv' (den_k (withNews ρ (lemMayI.tys.length + lemMayI.blks.length) []) (.int .i64 (-9007199254740991)))
  have g2 := lss_den (c := c) (den_k (withNews ρ (lemMayI.tys.length + lemMayI.blks.length) []) (.int .i64 9007199254740991)) hv'
  rw [hP] at g1 g2
  by_cases a1 : n < -9007199254740991
  · refine ⟨_, [], _, List.mem_cons_self .., .nil, fun g hg => ?_, rfl, by rw [decide_eq_false (by omega)]⟩
    rw [List.mem_singleton] at hg; subst hg
    rw [g1, decide_eq_true a1]
  · by_cases a2 : 9007199254740991 < n
    · refine ⟨_, [], _, List.mem_cons_of_mem _ (List.mem_cons_self ..), .nil, fun g hg => ?_, rfl, by rw [decide_eq_false (by omega)]⟩
      rw [List.mem_singleton] at hg; subst hg
      rw [g2, decide_eq_true a2]
    · refine ⟨_, [], _, List.mem_cons_of_mem _ (List.mem_cons_of_mem _ (List.mem_cons_self ..)), .nil, fun g hg => ?_, rfl, by rw [decide_eq_true (by omega)]⟩
      simp only [List.mem_cons, List.not_mem_nil, or_false] at hg
      rcases hg with rfl | rfl
      · rw [g1, decide_eq_false a1]
      · rw [g2, decide_eq_false a2]
end Go.Proofs.Ytobghgfmdjknlaa.Sx
