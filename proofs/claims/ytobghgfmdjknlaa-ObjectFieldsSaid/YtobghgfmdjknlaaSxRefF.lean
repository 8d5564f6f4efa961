/- Floats in the reference's eyes: what its questions about one float (signs by quotients, cuts to ints) come to. -/
import Derived.Test.YtobghgfmdjknlaaSxVal
namespace Go.Proofs.Ytobghgfmdjknlaa.Sx
open Go Go.RowKit Ieee
set_option linter.unusedSectionVars false

noncomputable def inv1 (b : Nat) : Nat := (Ieee.double.div oneB b).getD 0
abbrev ordB (a b : Nat) : Option Ordering := FloatKind.f64.format.order a b
noncomputable def fBits (b : Nat) : List Bool := [ordB b 0 == some .eq, ordB (inv1 b) 0 == some .gt, ordB (inv1 b) (inv1 b) == some .eq, ordB (inv1 b) 9218868437227405312 == some .eq, ordB (inv1 b) 0 == some .lt,
  ordB b 14069245235905429503 == some .gt || ordB b 14069245235905429503 == some .eq, ordB b 4845873199050653695 == some .lt || ordB b 4845873199050653695 == some .eq, ordB (FloatKind.f64.nearest (cutInt b)) b == some .eq, mayB b]
def fAx (bs : List Bool) : Bool := (!(at_ bs 0) || (at_ bs 1 == at_ bs 8 && at_ bs 2 && at_ bs 3 == at_ bs 8 && at_ bs 4 == !(at_ bs 8))) && (at_ bs 8 == (at_ bs 5 && at_ bs 6 && at_ bs 7 && (!(at_ bs 0) || !(at_ bs 4))))

theorem whole_mod (b : Nat) : whole (b % 18446744073709551616) ↔ whole b := by
  unfold whole; rw [Nat.mod_mod]
theorem mayB_mod (b : Nat) : mayB (b % 18446744073709551616) = mayB b := by
  cases h : mayB b with
  | true => exact mayB_true ((mayB_of h).imp (fun h => by rw [read_mod]; exact h) (whole_mod b).2)
  | false =>
    refine mayB_false fun h' => ?_
    have : mayB b = true := mayB_true (h'.imp (fun h => by rw [read_mod] at h; exact h) (whole_mod b).1)
    rw [h] at this; cases this
theorem fBits_mod (b : Nat) : fBits (b % 18446744073709551616) = fBits b := by
  have e1 : ∀ x, ordB (b % 18446744073709551616) x = ordB b x := fun x => by
    show (Ieee.double.read (b % 18446744073709551616)).order _ = _
    rw [read_mod]; rfl
  have e2 : inv1 (b % 18446744073709551616) = inv1 b := by
    unfold inv1 Ieee.Format.div; rw [read_mod]
  have e3 : cutInt (b % 18446744073709551616) = cutInt b := by
    have : FloatKind.f64.decode (b % 18446744073709551616) = FloatKind.f64.decode b := read_mod b
    unfold cutInt; rw [this]
  have e4 : ∀ x, ordB x (b % 18446744073709551616) = ordB x b := fun x => by
    show (Ieee.double.read x).order (Ieee.double.read (b % 18446744073709551616)) = _
    rw [read_mod]; rfl
  unfold fBits
  rw [e1, e1, e1, e2, e3, e4, mayB_mod]
theorem read_zero {b : Nat} {s : Bool} {i : Int} (h : Ieee.double.read b = .number s 0 i) : b % 9223372036854775808 = 0 := by
  obtain ⟨hs, hb, hi, hl⟩ := consts
  unfold Ieee.Format.read at h
  rw [hs, hb, hi, hl] at h
  dsimp only at h
  split at h
  · simp only [Datum.number.injEq] at h; exact h.2.1
  · split at h
    · simp only [Datum.number.injEq] at h; omega
    · split at h <;> cases h
theorem ord_zero {b : Nat} (hb : b < 18446744073709551616) (h : ordB b 0 = some .eq) : b = 0 ∨ b = 9223372036854775808 := by
  replace h : (Ieee.double.read b).order (Ieee.double.read 0) = some .eq := h
  have h0 : Ieee.double.read 0 = .number false 0 (-1074) := by decide +kernel
  rw [h0] at h
  cases hr : Ieee.double.read b with
  | nan s t => rw [hr] at h; cases h
  | infinity s => rw [hr] at h; cases s <;> cases h
  | number s m i =>
    rw [hr, order_num] at h
    simp only [Option.some.injEq] at h
    have h := Int.compare_eq_eq.1 h
    have hm : m = 0 := by
      simp only [signed, Bool.false_eq_true, if_false, Nat.zero_shiftLeft] at h
      generalize (i - min i (-1074)).toNat = e at h
      rw [Nat.shiftLeft_eq] at h
      have hp := Nat.two_pow_pos e
      have : m * 2 ^ e = 0 := by
        cases s
        · simp only [Bool.false_eq_true, if_false] at h; omega
        · simp only [if_true] at h; omega
      rcases Nat.mul_eq_zero.1 this with h | h
      · exact h
      · omega
    subst hm
    have := read_zero hr
    omega
theorem mayB_zero : mayB 0 = true := mayB_true (.inr ⟨0, by decide, by decide +kernel⟩)
theorem mayB_minus : mayB 9223372036854775808 = false := by
  refine mayB_false fun h => ?_
  rcases h with ⟨s, t, h⟩ | ⟨n, hn, hb⟩
  · have : Ieee.double.read 9223372036854775808 = .number true 0 (-1074) := by decide +kernel
    rw [this] at h; cases h
  · have := (of_near hn hb).2.2 (by decide +kernel)
    subst this
    have h0 : FloatKind.f64.nearest 0 = 0 := by decide +kernel
    rw [h0] at hb
    cases hb
theorem safe_near : FloatKind.f64.nearest 9007199254740991 = 4845873199050653695 ∧ FloatKind.f64.nearest (-9007199254740991) = 14069245235905429503 := by decide +kernel

theorem may_nums {b : Nat} (hn : ∀ s t, Ieee.double.read b ≠ .nan s t) (h0 : ordB b 0 ≠ some .eq) : mayB b = ((ordB b 14069245235905429503 == some .gt || ordB b 14069245235905429503 == some .eq) && (ordB b 4845873199050653695 == some .lt || ordB b 4845873199050653695 == some .eq) && (ordB (FloatKind.f64.nearest (cutInt b)) b == some .eq)) := by
  rw [Bool.eq_iff_iff]
  simp only [Bool.and_eq_true, Bool.or_eq_true, beq_iff_eq]
  constructor
  · intro h
    rcases mayB_of h with ⟨s, t, h1⟩ | ⟨n, h1, h2⟩
    · exact absurd h1 (hn s t)
    · have hr : Ieee.double.read b = Ieee.double.read (FloatKind.f64.nearest n) := by rw [← read_mod, h2]
      have e1 : ∀ x, ordB b x = ordB (FloatKind.f64.nearest n) x := fun x => by
        show (Ieee.double.read b).order _ = _
        rw [hr]; rfl
      have e2 : ∀ x, ordB x b = ordB x (FloatKind.f64.nearest n) := fun x => by
        show (Ieee.double.read x).order (Ieee.double.read b) = _
        rw [hr]; rfl
      have e3 : cutInt b = n := by
        have : FloatKind.f64.decode b = FloatKind.f64.decode (FloatKind.f64.nearest n) := hr
        refine cutInt_of ?_ h1
        rw [this]; exact toInt_near n h1
      rw [e1, e1, e2, e3, ← safe_near.1, ← safe_near.2]
      have o1 := order_near n (-9007199254740991) h1 (by decide)
      have o2 := order_near n 9007199254740991 h1 (by decide)
      have o3 := order_near n n h1 h1
      refine ⟨⟨?_, ?_⟩, ?_⟩
      · rw [show ordB (FloatKind.f64.nearest n) (FloatKind.f64.nearest (-9007199254740991)) = _ from o1]
        rcases Int.lt_or_eq_of_le (show (-9007199254740991 : Int) ≤ n by omega) with h | h
        · left; rw [Int.compare_eq_gt.2 h]
        · right; rw [Int.compare_eq_eq.2 h.symm]
      · rw [show ordB (FloatKind.f64.nearest n) (FloatKind.f64.nearest 9007199254740991) = _ from o2]
        rcases Int.lt_or_eq_of_le (show n ≤ (9007199254740991 : Int) by omega) with h | h
        · left; rw [Int.compare_eq_lt.2 h]
        · right; rw [Int.compare_eq_eq.2 h]
      · rw [show ordB (FloatKind.f64.nearest n) (FloatKind.f64.nearest n) = _ from o3, Int.compare_eq_eq.2 rfl]
  · rintro ⟨⟨g1, g2⟩, g3⟩
    obtain ⟨n, e1, e2⟩ := cut_safe hn g1 g2
    rw [cutInt_of e1 e2] at g3
    refine mayB_true (.inr (whole_of hn ?_ ?_ (fun h => absurd h h0)))
    · -- what is cut is the number
      have hnz : n ≠ 0 := by
        rintro rfl
        apply h0
        have z : FloatKind.f64.nearest 0 = 0 := by decide +kernel
        rw [z] at g3
        show (Ieee.double.read b).order (Ieee.double.read 0) = _
        replace g3 : (Ieee.double.read 0).order (Ieee.double.read b) = some .eq := g3
        have h00 : Ieee.double.read 0 = .number false 0 (-1074) := by decide +kernel
        rw [h00] at g3 ⊢
        cases hr : Ieee.double.read b with
        | nan s t => exact absurd hr (hn s t)
        | infinity s => rw [hr] at g3; cases s <;> cases g3
        | number s m i =>
          rw [hr, order_num] at g3
          rw [order_num]
          simp only [Option.some.injEq] at g3 ⊢
          have := Int.compare_eq_eq.1 g3
          refine Int.compare_eq_eq.2 ?_
          rw [Int.min_comm i]
          exact this.symm
      have henc : FloatKind.f64.encode ((FloatKind.f64.decode b).integral .zero) = FloatKind.f64.nearest n := by
        replace e1 : (Ieee.double.read b).toInt .zero = some n := e1
        show Ieee.double.write ((Ieee.double.read b).integral .zero) = _
        unfold Datum.toInt at e1
        cases hr : (Ieee.double.read b).integral .zero with
        | nan s t => rw [hr] at e1; cases e1
        | infinity s => rw [hr] at e1; cases e1
        | number s m i =>
          rw [hr] at e1
          simp only [Option.some.injEq, signed, Nat.shiftLeft_zero] at e1
          have hi : i = 0 := by
            unfold Datum.integral at hr
            cases hb : Ieee.double.read b with
            | nan s t => rw [hb] at hr; cases hr
            | infinity s => rw [hb] at hr; cases hr
            | number s' m' i' => rw [hb] at hr; simp only [Datum.number.injEq] at hr; exact hr.2.2.symm
          subst hi
          show Ieee.double.nearest s m 0 = _
          rw [near_def]
          have hm : m = n.natAbs ∧ s = decide (n < 0) := by
            cases s
            · simp only [Bool.false_eq_true, if_false] at e1
              refine ⟨by omega, ?_⟩
              rw [decide_eq_false (by omega)]
            · simp only [if_true] at e1
              refine ⟨by omega, ?_⟩
              rw [decide_eq_true (by omega)]
          rw [hm.1, hm.2]
      rw [henc]; exact g3
    · replace g1 : (Ieee.double.read b).order (Ieee.double.read 14069245235905429503) = some .gt ∨ (Ieee.double.read b).order (Ieee.double.read 14069245235905429503) = some .eq := g1
      replace g2 : (Ieee.double.read b).order (Ieee.double.read 4845873199050653695) = some .lt ∨ (Ieee.double.read b).order (Ieee.double.read 4845873199050653695) = some .eq := g2
      show (Ieee.double.read (b % 9223372036854775808)).order (Ieee.double.read 4845873199050653695) = some .lt ∨ (Ieee.double.read (b % 9223372036854775808)).order (Ieee.double.read 4845873199050653695) = some .eq
      rw [neg_safe_read] at g1
      rw [safe_read] at g2 ⊢
      rw [read_abs]
      cases hr : Ieee.double.read b with
      | nan s t => exact absurd hr (hn s t)
      | infinity s =>
        rw [hr] at g1 g2
        cases s
        · rcases g2 with h | h <;> cases h
        · rcases g1 with h | h <;> cases h
      | number s m i =>
        rw [hr] at g1 g2
        cases s
        · exact g2
        · rw [order_num] at g1
          show Datum.order (.number false m i) (.number false 9007199254740991 0) = _ ∨ Datum.order (.number false m i) (.number false 9007199254740991 0) = _
          rw [order_num]
          simp only [signed, Option.some.injEq, if_true, Bool.false_eq_true, if_false] at g1 ⊢
          rcases g1 with h | h
          · left; have := Int.compare_eq_gt.1 h; exact Int.compare_eq_lt.2 (by omega)
          · right; have := Int.compare_eq_eq.1 h; exact Int.compare_eq_eq.2 (by omega)

theorem fAx_ok {b : Nat} (hn : ∀ s t, Ieee.double.read b ≠ .nan s t) : fAx (fBits b) = true := by
  have q : ∀ b0 b1 b2 b3 b4 b5 b6 b7 b8 : Bool, fAx [b0, b1, b2, b3, b4, b5, b6, b7, b8] = ((!b0 || (b1 == b8 && b2 && b3 == b8 && b4 == !b8)) && (b8 == (b5 && b6 && b7 && (!b0 || !b4)))) := fun _ _ _ _ _ _ _ _ _ => rfl
  by_cases h0 : ordB b 0 = some .eq
  · have key : ∀ d, d < 18446744073709551616 → ordB d 0 = some .eq → fAx (fBits d) = true := by
      intro d hd h
      rcases ord_zero hd h with rfl | rfl
      · unfold fBits inv1; rw [mayB_zero, q]; decide +kernel
      · unfold fBits inv1; rw [mayB_minus, q]; decide +kernel
    rw [← fBits_mod]
    refine key _ (Nat.mod_lt _ (by decide)) ?_
    show (Ieee.double.read (b % 18446744073709551616)).order _ = _
    rw [read_mod]; exact h0
  · have hm := may_nums hn h0
    have hz : (ordB b 0 == some .eq) = false := by simpa using h0
    unfold fBits
    rw [q, hz, hm]
    simp
end Go.Proofs.Ytobghgfmdjknlaa.Sx
