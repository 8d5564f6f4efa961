/- Which floats are our numbers: those that are whole, of less than 54 digits, and no minus nought. -/
import Derived.Test.YtobghgfmdjknlaaSxFloat
namespace Go.Proofs.Ytobghgfmdjknlaa.Sx
open Go Ieee

/-- A float that is a whole number of ours. -/
def whole (b : Nat) : Prop := ∃ n : Int, n.natAbs < 2 ^ 53 ∧ b % 18446744073709551616 = FloatKind.f64.nearest n

theorem read_mod (b : Nat) : Ieee.double.read (b % 18446744073709551616) = Ieee.double.read b := by
  obtain ⟨hs, hb, hi, hl⟩ := consts
  unfold Ieee.Format.read
  rw [hs]
  have e1 : b % 18446744073709551616 % 9223372036854775808 = b % 9223372036854775808 := by omega
  have e2 : b % 18446744073709551616 / 9223372036854775808 % 2 = b / 9223372036854775808 % 2 := by omega
  rw [e1, e2]

/-- Without its sign. -/
theorem read_abs (b : Nat) : Ieee.double.read (b % 9223372036854775808) = match Ieee.double.read b with
    | .number _ m i => .number false m i
    | .infinity _ => .infinity false
    | .nan _ t => .nan false t := by
  obtain ⟨hs, hb, hi, hl⟩ := consts
  unfold Ieee.Format.read
  rw [hs, hb, hi, hl]
  have hm : b % 9223372036854775808 < 9223372036854775808 := Nat.mod_lt _ (by decide)
  have e1 : b % 9223372036854775808 % 9223372036854775808 = b % 9223372036854775808 := Nat.mod_mod _ _
  have e2 : (b % 9223372036854775808 / 9223372036854775808 % 2 == 1) = false := by
    rw [Nat.div_eq_of_lt hm]; rfl
  dsimp only
  rw [e1, e2]
  by_cases h1 : b % 9223372036854775808 < 4503599627370496
  · rw [if_pos h1, if_pos h1]
  · rw [if_neg h1, if_neg h1]
    by_cases h2 : b % 9223372036854775808 < 9218868437227405312
    · rw [if_pos h2, if_pos h2]
    · rw [if_neg h2, if_neg h2]
      by_cases h3 : b % 9223372036854775808 = 9218868437227405312
      · rw [if_pos h3, if_pos h3]
      · rw [if_neg h3, if_neg h3]

theorem cut_div (s : Bool) (n d : Nat) : Toward.zero.cut s n d = n / 2 ^ d := by
  unfold Toward.cut
  simp only [Bool.toNat_false, Nat.add_zero, Nat.shiftLeft_eq, Nat.one_mul]
  rcases Nat.le_total d (n.log2 + 2) with h | h
  · rw [Nat.min_eq_left h]
  · rw [Nat.min_eq_right h]
    have h1 : n < 2 ^ (n.log2 + 1) := Nat.lt_log2_self
    have h2 : 2 ^ (n.log2 + 1) ≤ 2 ^ (n.log2 + 2) := Nat.pow_le_pow_right (by decide) (by omega)
    have h3 : 2 ^ (n.log2 + 2) ≤ 2 ^ d := Nat.pow_le_pow_right (by decide) h
    rw [Nat.div_eq_of_lt (by omega), Nat.div_eq_of_lt (by omega)]

/-- The digits of a float are less than 54. -/
theorem read_lt {b : Nat} {s : Bool} {m : Nat} {i : Int} (h : Ieee.double.read b = .number s m i) : m < 2 ^ 53 := by
  obtain ⟨hs, hb, hi, hl⟩ := consts
  unfold Ieee.Format.read at h
  rw [hs, hb, hi, hl] at h
  dsimp only at h
  split at h
  · rename_i h1
    simp only [Datum.number.injEq] at h
    omega
  · split at h
    · simp only [Datum.number.injEq] at h
      have := Nat.mod_lt (b % 9223372036854775808) (show 4503599627370496 > 0 by decide)
      omega
    · split at h <;> cases h

theorem order_num {s t : Bool} {m n : Nat} {i j : Int} : Datum.order (.number s m i) (.number t n j) = some (compare (signed s m (i - min i j).toNat) (signed t n (j - min i j).toNat)) := rfl

theorem near_lt (n : Int) : FloatKind.f64.nearest n < 18446744073709551616 := by
  have h := FloatKind.f64.format.write_lt (.number (decide (n < 0)) n.natAbs 0)
  have e : 2 ^ FloatKind.f64.format.width = 18446744073709551616 := by decide +kernel
  rw [e] at h
  exact h
theorem of_whole_digits {b : Nat} {s : Bool} {m : Nat} {i : Int} (hr : Ieee.double.read b = .number s m i) (N : Nat) (hN : N < 2 ^ 53) (hz : N = 0 → s = false)
    (h : (0 ≤ i ∧ N = m <<< i.toNat) ∨ (i ≤ 0 ∧ m = N * 2 ^ (-i).toNat)) : whole b := by
  have hb : Ieee.double.nearest s m i = b % 18446744073709551616 := write_read _ (Nat.mod_lt _ (by decide)) ((read_mod b).trans hr)
  have hn : Ieee.double.nearest s N 0 = Ieee.double.nearest s m i := by
    rcases h with ⟨h0, h1⟩ | ⟨h0, h1⟩
    · have := nearest_scale Ieee.double s m i.toNat i
      rw [show i - (i.toNat : Int) = 0 by omega, ← h1] at this
      exact this
    · have := nearest_scale Ieee.double s N (-i).toNat 0
      rw [show (0 : Int) - ((-i).toNat : Int) = i by omega, Nat.shiftLeft_eq, ← h1] at this
      exact this.symm
  refine ⟨if s then -(N : Int) else N, ?_, ?_⟩
  · cases s <;> simp <;> omega
  · rw [← hb, ← hn, near_def]
    cases s with
    | false =>
      have : ¬ ((N : Int) < 0) := by omega
      simp [this]
    | true =>
      have hN0 : N ≠ 0 := fun e => by have := hz e; cases this
      have h1 : decide (-(N : Int) < 0) = true := decide_eq_true (by omega)
      simp only [if_true, h1, Int.natAbs_neg, Int.natAbs_natCast]

theorem safe_read : Ieee.double.read 4845873199050653695 = .number false 9007199254740991 0 := by decide +kernel

theorem leq_safe {m : Nat} {i : Int} {o : Ordering} (h : Datum.order (.number false m i) (.number false 9007199254740991 0) = some o) : (o = .lt ∨ o = .eq) ↔ (0 ≤ i → m <<< i.toNat ≤ 9007199254740991) ∧ (i < 0 → m ≤ 9007199254740991 <<< (-i).toNat) := by
  rw [order_num] at h
  simp only [Option.some.injEq] at h
  rcases Int.lt_or_le i 0 with hi | hi
  · have e1 : (i - min i 0).toNat = 0 := by omega
    have e2 : ((0 : Int) - min i 0).toNat = (-i).toNat := by omega
    rw [e1, e2] at h
    simp only [signed, Bool.false_eq_true, if_false, Nat.shiftLeft_zero] at h
    generalize 9007199254740991 <<< (-i).toNat = B at h ⊢
    constructor
    · intro ho
      refine ⟨fun h0 => by omega, fun _ => ?_⟩
      rcases ho with rfl | rfl
      · have := Int.compare_eq_lt.1 h; omega
      · have := Int.compare_eq_eq.1 h; omega
    · intro ⟨_, h2⟩
      have h2 := h2 hi
      rcases Nat.lt_or_eq_of_le h2 with h3 | h3
      · left; rw [← h]; exact Int.compare_eq_lt.2 (by omega)
      · right; rw [← h]; exact Int.compare_eq_eq.2 (by omega)
  · have e1 : (i - min i 0).toNat = i.toNat := by omega
    have e2 : ((0 : Int) - min i 0).toNat = 0 := by omega
    rw [e1, e2] at h
    simp only [signed, Bool.false_eq_true, if_false, Nat.shiftLeft_zero] at h
    generalize m <<< i.toNat = B at h ⊢
    constructor
    · intro ho
      refine ⟨fun _ => ?_, fun h0 => by omega⟩
      rcases ho with rfl | rfl
      · have := Int.compare_eq_lt.1 h; omega
      · have := Int.compare_eq_eq.1 h; omega
    · intro ⟨h2, _⟩
      have h2 := h2 hi
      rcases Nat.lt_or_eq_of_le h2 with h3 | h3
      · left; rw [← h]; exact Int.compare_eq_lt.2 (by omega)
      · right; rw [← h]; exact Int.compare_eq_eq.2 (by omega)

/-- Whole, not too great, no minus nought: one of our numbers. -/
theorem whole_of {b : Nat} (hn : ∀ s t, Ieee.double.read b ≠ .nan s t) (h1 : FloatKind.f64.format.order (FloatKind.f64.encode ((FloatKind.f64.decode b).integral .zero)) b = some .eq)
    (h2 : FloatKind.f64.format.order (b % 9223372036854775808) 4845873199050653695 = some .lt ∨ FloatKind.f64.format.order (b % 9223372036854775808) 4845873199050653695 = some .eq)
    (h3 : FloatKind.f64.format.order b 0 = some .eq → b / 9223372036854775808 % 2 = 0) : whole b := by
  replace h1 : (Ieee.double.read (Ieee.double.write ((Ieee.double.read b).integral .zero))).order (Ieee.double.read b) = some .eq := h1
  replace h2 : (Ieee.double.read (b % 9223372036854775808)).order (Ieee.double.read 4845873199050653695) = some .lt ∨ (Ieee.double.read (b % 9223372036854775808)).order (Ieee.double.read 4845873199050653695) = some .eq := h2
  replace h3 : (Ieee.double.read b).order (Ieee.double.read 0) = some .eq → b / 9223372036854775808 % 2 = 0 := h3
  rw [read_abs, safe_read] at h2
  cases hr : Ieee.double.read b with
  | nan s t => exact absurd hr (hn s t)
  | infinity s =>
    rw [hr] at h2
    rcases h2 with h | h <;> simp [Datum.order] at h
  | number s m i =>
    rw [hr] at h1 h2 h3
    have hz : m = 0 → s = false := by
      intro hm
      subst hm
      have h0 : Ieee.double.read 0 = .number false 0 (-1074) := by decide +kernel
      have : b / 9223372036854775808 % 2 = 0 := h3 (by
        rw [h0, order_num]
        have : ∀ t p, signed t 0 p = 0 := fun t p => by unfold signed; cases t <;> simp
        rw [this, this]; rfl)
      have hs' : s = (b / 9223372036854775808 % 2 == 1) := by
        obtain ⟨hs, hb, hi, hl⟩ := consts
        unfold Ieee.Format.read at hr
        rw [hs] at hr
        dsimp only at hr
        split at hr
        · simp only [Datum.number.injEq] at hr; exact hr.1.symm
        · split at hr
          · simp only [Datum.number.injEq] at hr; exact hr.1.symm
          · split at hr <;> cases hr
      rw [hs', this]; rfl
    have h2' := (leq_safe (o := if Datum.order (.number false m i) (.number false 9007199254740991 0) = some .lt then .lt else .eq) (by
      rcases h2 with h | h
      · rw [if_pos h]; exact h
      · rw [if_neg (by rw [h]; decide)]; exact h)).1 (by split <;> simp)
    rcases Int.lt_or_le i 0 with hi | hi
    · have hp := Nat.two_pow_pos (-i).toNat
      have hlt := read_lt hr
      have hN : m / 2 ^ (-i).toNat < 2 ^ 53 := Nat.lt_of_le_of_lt (Nat.div_le_self _ _) hlt
      have e0 : i.toNat = 0 := by omega
      simp only [Datum.integral, e0, Nat.shiftLeft_zero, cut_div] at h1
      have hw : Ieee.double.write (.number s (m / 2 ^ (-i).toNat) 0) = Ieee.double.nearest s (m / 2 ^ (-i).toNat) 0 := rfl
      rw [hw] at h1
      generalize hNe : m / 2 ^ (-i).toNat = N at h1 hN
      have hmN : m = N * 2 ^ (-i).toNat := by
        by_cases hN0 : N = 0
        · subst hN0
          have hr0 : ∃ j, Ieee.double.read (Ieee.double.nearest s 0 0) = .number s 0 j := by
            cases s
            · exact ⟨-1074, by decide +kernel⟩
            · exact ⟨-1074, by decide +kernel⟩
          obtain ⟨j, hr0⟩ := hr0
          rw [hr0, order_num] at h1
          simp only [Option.some.injEq] at h1
          have h1 := Int.compare_eq_eq.1 h1
          have e : signed s 0 (j - min j i).toNat = 0 := by unfold signed; cases s <;> simp
          rw [e] at h1
          have : m = 0 := by
            unfold signed at h1
            rw [Nat.shiftLeft_eq] at h1
            have hpp := Nat.two_pow_pos (i - min j i).toNat
            have : m * 2 ^ (i - min j i).toNat = 0 := by
              generalize m * 2 ^ (i - min j i).toNat = X at h1 ⊢
              cases s
              · rw [if_neg (by decide)] at h1; omega
              · rw [if_pos rfl] at h1; omega
            rcases Nat.mul_eq_zero.1 this with h | h
            · exact h
            · omega
          rw [this, Nat.zero_mul]
        · obtain ⟨m', j, e1, _, _, _, e2, _⟩ := read_near s N (by omega) (by omega)
          obtain ⟨e3, e4⟩ := e2 hN
          have hlog : N.log2 ≤ 52 := Nat.le_of_lt_succ ((Nat.log2_lt (by omega)).2 hN)
          rw [e1, order_num] at h1
          simp only [Option.some.injEq] at h1
          have h1 := Int.compare_eq_eq.1 h1
          have h4 : m' <<< (j - min j i).toNat = m <<< (i - min j i).toNat := by
            unfold signed at h1
            cases s <;> simp only [Bool.false_eq_true, if_false, if_true] at h1 <;> omega
          rw [e3, Nat.shiftLeft_eq, Nat.shiftLeft_eq, Nat.shiftLeft_eq, Nat.mul_assoc, ← Nat.pow_add] at h4
          have e5 : 52 - N.log2 + (j - min j i).toNat = (-i).toNat + (i - min j i).toNat := by omega
          rw [e5, Nat.pow_add, ← Nat.mul_assoc] at h4
          exact (Nat.eq_of_mul_eq_mul_right (Nat.two_pow_pos _) h4).symm
      refine of_whole_digits hr N hN (fun e => hz ?_) (.inr ⟨by omega, hmN⟩)
      rw [hmN, e, Nat.zero_mul]
    · have h4 := h2'.1 hi
      refine of_whole_digits hr (m <<< i.toNat) (by omega) (fun e => hz ?_) (.inl ⟨hi, rfl⟩)
      rw [Nat.shiftLeft_eq] at e
      rcases Nat.mul_eq_zero.1 e with h | h
      · exact h
      · have := Nat.two_pow_pos i.toNat; omega

/-- What holds of our numbers. -/
theorem of_near {b : Nat} {n : Int} (hn : n.natAbs < 2 ^ 53) (hb : b % 18446744073709551616 = FloatKind.f64.nearest n) :
    FloatKind.f64.format.order (FloatKind.f64.encode ((FloatKind.f64.decode b).integral .zero)) b = some .eq ∧
    (FloatKind.f64.format.order (b % 9223372036854775808) 4845873199050653695 = some .lt ∨ FloatKind.f64.format.order (b % 9223372036854775808) 4845873199050653695 = some .eq) ∧
    (FloatKind.f64.format.order b 0 = some .eq → n = 0) := by
  obtain ⟨s, m, i, e1, s1, i1, _, _, m1⟩ := near_read n hn
  have hr : Ieee.double.read b = .number s m i := by rw [← read_mod, hb]; exact e1
  refine ⟨?_, ?_, ?_⟩
  · show (Ieee.double.read (Ieee.double.write ((Ieee.double.read b).integral .zero))).order (Ieee.double.read b) = some .eq
    rw [hr]
    have e0 : i.toNat = 0 := by omega
    simp only [Datum.integral, e0, Nat.shiftLeft_zero, cut_div]
    have e2 : m / 2 ^ (-i).toNat = n.natAbs := by rw [m1]; exact Nat.mul_div_cancel _ (Nat.two_pow_pos _)
    rw [e2]
    have e3 : Ieee.double.write (.number s n.natAbs 0) = FloatKind.f64.nearest n := by rw [s1]; rfl
    rw [e3, e1, order_num]
    rw [Int.compare_eq_eq.2 rfl]
  · show (Ieee.double.read (b % 9223372036854775808)).order (Ieee.double.read 4845873199050653695) = some .lt ∨ (Ieee.double.read (b % 9223372036854775808)).order (Ieee.double.read 4845873199050653695) = some .eq
    rw [read_abs, safe_read, hr]
    simp only
    obtain ⟨o, ho⟩ : ∃ o, Datum.order (.number false m i) (.number false 9007199254740991 0) = some o := ⟨_, order_num⟩
    have := (leq_safe ho).2 ⟨fun h0 => ?_, fun h0 => ?_⟩
    · rw [ho]
      rcases this with rfl | rfl
      · exact .inl rfl
      · exact .inr rfl
    · have : i = 0 := by omega
      subst this
      simp only [Int.neg_zero, Int.toNat_zero, Nat.pow_zero, Nat.mul_one] at m1
      simp only [Int.toNat_zero, Nat.shiftLeft_zero]
      omega
    · rw [m1, Nat.shiftLeft_eq]
      exact Nat.mul_le_mul_right _ (by omega)
  · intro h
    have h : FloatKind.f64.format.order (b % 18446744073709551616) (FloatKind.f64.nearest 0) = some .eq := by
      show (Ieee.double.read (b % 18446744073709551616)).order (Ieee.double.read (FloatKind.f64.nearest 0)) = some .eq
      rw [read_mod]
      exact h
    rw [hb, order_near n 0 hn (by decide)] at h
    simp only [Option.some.injEq] at h
    exact Int.compare_eq_eq.1 h

/-- Whole numbers that are too great are none of ours. -/
theorem great_not {n : Int} (h1 : 2 ^ 53 ≤ n.natAbs) (h2 : n.natAbs < 2 ^ 64) : ¬ whole (FloatKind.f64.nearest n) := by
  rintro ⟨k, hk, he⟩
  have hlt : FloatKind.f64.nearest n < 18446744073709551616 := near_lt n
  rw [Nat.mod_eq_of_lt hlt] at he
  obtain ⟨m, i, e1, e2, _, _, _, e3⟩ := read_near (decide (n < 0)) n.natAbs (by omega) h2
  have e3 := e3 h1
  obtain ⟨s, m', i', f1, _, f3, _, _, f5⟩ := near_read k hk
  rw [near_def] at he
  rw [he, f1] at e1
  simp only [Datum.number.injEq] at e1
  omega

theorem whole_near {n : Int} (h : n.natAbs < 2 ^ 53) : whole (FloatKind.f64.nearest n) :=
  ⟨n, h, Nat.mod_eq_of_lt (near_lt n)⟩
theorem near_inj {a b : Int} (ha : a.natAbs < 2 ^ 53) (hb : b.natAbs < 2 ^ 53) (h : FloatKind.f64.nearest a = FloatKind.f64.nearest b) : a = b := by
  have h1 := order_near a b ha hb
  rw [h, order_near b b hb hb] at h1
  simp only [Option.some.injEq] at h1
  rw [Int.compare_eq_eq.2 rfl] at h1
  exact Int.compare_eq_eq.1 h1.symm
end Go.Proofs.Ytobghgfmdjknlaa.Sx
