/- Whole numbers as floats: what is written is read again; sums, order and the way back. -/
import Derived.Laws.Cover2
import Derived.Laws.FloatArith
namespace Go.Proofs.Ytobghgfmdjknlaa.Sx
open Go Ieee

/-- A cut of nothing. -/
theorem cut_zero (way : Toward) (neg : Bool) (n : Nat) : way.cut neg n 0 = n := by
  unfold Toward.cut
  have e : (1 <<< min 0 (n.log2 + 2) : Nat) = 1 := by simp
  simp only [e, Nat.div_one, Nat.mod_one]
  cases way <;> simp

theorem consts : Ieee.double.signWeight = 9223372036854775808 ∧ Ieee.double.binade = 4503599627370496 ∧ Ieee.double.infRung = 9218868437227405312 ∧ Ieee.double.leastPlace = -1074 := by decide +kernel

theorem log2_shl (n p : Nat) (h : 0 < n) : (n <<< p).log2 = n.log2 + p := by
  have h1 : 2 ^ n.log2 ≤ n := Nat.log2_self_le (by omega)
  have h2 : n < 2 ^ (n.log2 + 1) := Nat.lt_log2_self
  have hp := Nat.two_pow_pos p
  have hpos : 0 < n * 2 ^ p := Nat.mul_pos h hp
  rw [Nat.shiftLeft_eq]
  apply Nat.le_antisymm
  · apply Nat.le_of_lt_succ
    rw [Nat.log2_lt (by omega)]
    calc n * 2 ^ p < 2 ^ (n.log2 + 1) * 2 ^ p := Nat.mul_lt_mul_of_pos_right h2 hp
      _ = 2 ^ (n.log2 + p + 1) := by rw [← Nat.pow_add]; congr 1; omega
  · rw [Nat.le_log2 (by omega), Nat.pow_add]
    exact Nat.mul_le_mul_right _ h1

theorem cut_shift (way : Toward) (neg : Bool) (n d p : Nat) (h : 0 < n) : way.cut neg (n <<< p) (d + p) = way.cut neg n d := by
  unfold Toward.cut
  have e : min (d + p) ((n <<< p).log2 + 2) = min d (n.log2 + 2) + p := by rw [log2_shl n p h]; omega
  rw [e]
  generalize min d (n.log2 + 2) = q
  have hp := Nat.two_pow_pos p
  have e1 : (1 <<< (q + p) : Nat) = (1 <<< q) * 2 ^ p := by rw [Nat.shiftLeft_eq, Nat.shiftLeft_eq, Nat.pow_add, Nat.mul_assoc]
  have e2 : n <<< p = n * 2 ^ p := Nat.shiftLeft_eq ..
  rw [e1, e2]
  generalize (1 <<< q : Nat) = g
  have b1 : n * 2 ^ p / (g * 2 ^ p) = n / g := Nat.mul_div_mul_right _ _ hp
  have b2 : n * 2 ^ p % (g * 2 ^ p) = (n % g) * 2 ^ p := Nat.mul_mod_mul_right ..
  simp only [b1, b2]
  have a1 : (decide (g * 2 ^ p < 2 * (n % g * 2 ^ p))) = decide (g < 2 * (n % g)) := by
    rw [← Nat.mul_assoc]
    exact decide_eq_decide.2 (Nat.mul_lt_mul_right hp)
  have a2 : (g * 2 ^ p == 2 * (n % g * 2 ^ p)) = (g == 2 * (n % g)) := by
    rw [← Nat.mul_assoc, Bool.eq_iff_iff, beq_iff_eq, beq_iff_eq]
    exact Nat.mul_left_inj (by omega)
  have a3 : (n % g * 2 ^ p != 0) = (n % g != 0) := by
    rw [Bool.eq_iff_iff, bne_iff_ne, bne_iff_ne]
    constructor
    · intro h1 h2; rw [h2] at h1; simp at h1
    · intro h1 h2
      rcases Nat.mul_eq_zero.1 h2 with h2 | h2
      · exact h1 h2
      · omega
  cases way <;> simp only [a1, a2, a3]

/-- The place of the digits does not matter. -/
theorem nearest_scale (f : Format) (neg : Bool) (mag p : Nat) (place : Int) : f.nearest neg (mag <<< p) (place - p) = f.nearest neg mag place := by
  unfold Format.nearest
  by_cases h0 : mag = 0
  · subst h0; simp
  · have hp : 0 < mag := by omega
    have hs : mag <<< p ≠ 0 := by
      rw [Nat.shiftLeft_eq]
      exact Nat.ne_of_gt (Nat.mul_pos hp (Nat.two_pow_pos p))
    rw [if_neg hs, if_neg h0, log2_shl _ _ hp]
    have e : (place - (p : Int) + ((mag.log2 + p : Nat) : Int) - (f.fractionBits : Int)) = place + (mag.log2 : Int) - (f.fractionBits : Int) := by omega
    simp only [e]
    generalize max (place + (mag.log2 : Int) - (f.fractionBits : Int)) f.leastPlace = last
    have key : Toward.even.cut neg ((mag <<< p) <<< (place - p - last).toNat) (last - (place - p)).toNat = Toward.even.cut neg (mag <<< (place - last).toNat) (last - place).toNat := by
      rcases Int.le_total last (place - p) with h | h
      · have e1 : (last - (place - p)).toNat = 0 := by omega
        have e2 : (last - place).toNat = 0 := by omega
        have e3 : (place - last).toNat = p + (place - p - last).toNat := by omega
        rw [e1, e2, e3, Nat.shiftLeft_add]
      · have e1 : (place - p - last).toNat = 0 := by omega
        rw [e1, Nat.shiftLeft_zero]
        rcases Int.le_total last place with h' | h'
        · have e2 : (last - place).toNat = 0 := by omega
          have e3 : p = (place - last).toNat + (last - (place - p)).toNat := by omega
          rw [e2, cut_zero]
          conv => lhs; rw [show mag <<< p = (mag <<< (place - last).toNat) <<< (last - (place - p)).toNat by rw [← Nat.shiftLeft_add, ← e3]]
          have := cut_shift .even neg (mag <<< (place - last).toNat) 0 (last - (place - p)).toNat (by rw [Nat.shiftLeft_eq]; exact Nat.mul_pos hp (Nat.two_pow_pos _))
          rw [Nat.zero_add] at this
          rw [this, cut_zero]
        · have e2 : (place - last).toNat = 0 := by omega
          have e3 : (last - (place - p)).toNat = (last - place).toNat + p := by omega
          rw [e2, e3, Nat.shiftLeft_zero, cut_shift _ _ _ _ _ hp]
    rw [key]

theorem cut_le (way : Toward) (neg : Bool) (n d : Nat) : way.cut neg n d ≤ n / (1 <<< min d (n.log2 + 2)) + 1 := by
  unfold Toward.cut
  have : ∀ b : Bool, b.toNat ≤ 1 := fun b => by cases b <;> decide
  exact Nat.add_le_add_left (this _) _
theorem cut_ge (way : Toward) (neg : Bool) (n d : Nat) : n / (1 <<< min d (n.log2 + 2)) ≤ way.cut neg n d := by
  unfold Toward.cut
  exact Nat.le_add_right _ _

/-- What a rung of the normal numbers stands for. -/
theorem read_word (neg : Bool) (E m : Nat) (hE : 1 ≤ E) (hE2 : E < 2047) (hm : m < 4503599627370496) : Ieee.double.read (Ieee.double.word neg (E * 4503599627370496 + m)) = .number neg (4503599627370496 + m) ((E : Int) - 1075) := by
  obtain ⟨hs, hb, hi, hl⟩ := consts
  unfold Ieee.Format.read Ieee.Format.word
  rw [hs, hb, hi, hl]
  have key : ∀ w : Nat, w % 9223372036854775808 = E * 4503599627370496 + m → (w / 9223372036854775808 % 2 == 1) = neg →
      (if w % 9223372036854775808 < 4503599627370496 then Datum.number (w / 9223372036854775808 % 2 == 1) (w % 9223372036854775808) (-1074)
      else if w % 9223372036854775808 < 9218868437227405312 then Datum.number (w / 9223372036854775808 % 2 == 1) (4503599627370496 + w % 9223372036854775808 % 4503599627370496) (-1074 + (w % 9223372036854775808 / 4503599627370496 - 1 : Nat))
      else if w % 9223372036854775808 = 9218868437227405312 then Datum.infinity (w / 9223372036854775808 % 2 == 1) else Datum.nan (w / 9223372036854775808 % 2 == 1) (w % 9223372036854775808 - 9218868437227405312)) = Datum.number neg (4503599627370496 + m) ((E : Int) - 1075) := by
    intro w h1 h2
    rw [h1, h2, if_neg (by omega), if_pos (by omega)]
    have e6 : 4503599627370496 + (E * 4503599627370496 + m) % 4503599627370496 = 4503599627370496 + m := by omega
    have e7 : (-1074 : Int) + (((E * 4503599627370496 + m) / 4503599627370496 - 1 : Nat) : Int) = (E : Int) - 1075 := by omega
    rw [e6, e7]
  cases neg with
  | false => exact key _ (by simp; omega) (by simp; omega)
  | true => exact key _ (by simp; omega) (by simp; omega)

/-- What the float nearest to a whole number stands for: a number; the whole number itself, where that has less than 54 digits; else one that is not less than 2^53. -/
theorem read_near (neg : Bool) (n : Nat) (h0 : 0 < n) (h : n < 2 ^ 64) : ∃ m i, Ieee.double.read (Ieee.double.nearest neg n 0) = .number neg m i ∧ 4503599627370496 ≤ m ∧ m < 9007199254740992 ∧ -52 ≤ i ∧
    (n < 2 ^ 53 → m = n <<< (52 - n.log2) ∧ i = (n.log2 : Int) - 52) ∧ (2 ^ 53 ≤ n → 1 ≤ i) := by
  obtain ⟨hs, hb, hi, hl⟩ := consts
  have hlog : n.log2 ≤ 63 := Nat.le_of_lt_succ ((Nat.log2_lt (by omega)).2 h)
  have hlo : 2 ^ n.log2 ≤ n := Nat.log2_self_le (by omega)
  have hhi : n < 2 ^ (n.log2 + 1) := Nat.lt_log2_self
  generalize hk : n.log2 = k at *
  have hfb : (Ieee.double.fractionBits : Int) = 52 := rfl
  have e1 : max ((0 : Int) + (k : Int) - 52) (-1074) = (k : Int) - 52 := by omega
  have e4 : (((k : Int) - 52) - (-1074)).toNat = k + 1022 := by omega
  have hn : Ieee.double.nearest neg n 0 = Ieee.double.word neg ((k + 1022) * 4503599627370496 + Toward.even.cut neg (n <<< (0 - ((k : Int) - 52)).toNat) (((k : Int) - 52) - 0).toNat) ∧ 4503599627370496 ≤ Toward.even.cut neg (n <<< (0 - ((k : Int) - 52)).toNat) (((k : Int) - 52) - 0).toNat ∧ Toward.even.cut neg (n <<< (0 - ((k : Int) - 52)).toNat) (((k : Int) - 52) - 0).toNat ≤ 9007199254740992 ∧
      (k ≤ 52 → Toward.even.cut neg (n <<< (0 - ((k : Int) - 52)).toNat) (((k : Int) - 52) - 0).toNat = n <<< (52 - k) ∧ n <<< (52 - k) < 9007199254740992) := by
    have hbnd : 4503599627370496 ≤ Toward.even.cut neg (n <<< (0 - ((k : Int) - 52)).toNat) (((k : Int) - 52) - 0).toNat ∧ Toward.even.cut neg (n <<< (0 - ((k : Int) - 52)).toNat) (((k : Int) - 52) - 0).toNat ≤ 9007199254740992 ∧
        (k ≤ 52 → Toward.even.cut neg (n <<< (0 - ((k : Int) - 52)).toNat) (((k : Int) - 52) - 0).toNat = n <<< (52 - k) ∧ n <<< (52 - k) < 9007199254740992) := by
      rcases Nat.le_or_ge k 52 with hk52 | hk52
      · have e2 : ((0 : Int) - ((k : Int) - 52)).toNat = 52 - k := by omega
        have e3 : (((k : Int) - 52) - 0).toNat = 0 := by omega
        rw [e2, e3, cut_zero]
        have hm1 : 4503599627370496 ≤ n <<< (52 - k) := by
          rw [Nat.shiftLeft_eq]
          calc 4503599627370496 = 2 ^ k * 2 ^ (52 - k) := by rw [← Nat.pow_add, Nat.add_sub_cancel' hk52]
            _ ≤ n * 2 ^ (52 - k) := Nat.mul_le_mul_right _ hlo
        have hm2 : n <<< (52 - k) < 9007199254740992 := by
          rw [Nat.shiftLeft_eq]
          calc n * 2 ^ (52 - k) < 2 ^ (k + 1) * 2 ^ (52 - k) := Nat.mul_lt_mul_of_pos_right hhi (Nat.two_pow_pos _)
            _ = 9007199254740992 := by rw [← Nat.pow_add, show k + 1 + (52 - k) = 53 by omega]
        exact ⟨hm1, Nat.le_of_lt hm2, fun _ => ⟨rfl, hm2⟩⟩
      · have e2 : ((0 : Int) - ((k : Int) - 52)).toNat = 0 := by omega
        have e3 : (((k : Int) - 52) - 0).toNat = k - 52 := by omega
        rw [e2, e3, Nat.shiftLeft_zero]
        have e5 : min (k - 52) (n.log2 + 2) = k - 52 := by omega
        have c1 := cut_ge .even neg n (k - 52)
        have c2 := cut_le .even neg n (k - 52)
        rw [e5, Nat.shiftLeft_eq, Nat.one_mul] at c1 c2
        have hp := Nat.two_pow_pos (k - 52)
        have d1 : 4503599627370496 ≤ n / 2 ^ (k - 52) := by
          rw [Nat.le_div_iff_mul_le hp]
          calc 4503599627370496 * 2 ^ (k - 52) = 2 ^ 52 * 2 ^ (k - 52) := rfl
            _ = 2 ^ k := by rw [← Nat.pow_add]; congr 1; omega
            _ ≤ n := hlo
        have d2 : n / 2 ^ (k - 52) < 9007199254740992 := by
          rw [Nat.div_lt_iff_lt_mul hp]
          calc n < 2 ^ (k + 1) := hhi
            _ = 2 ^ 53 * 2 ^ (k - 52) := by rw [← Nat.pow_add]; congr 1; omega
            _ = 9007199254740992 * 2 ^ (k - 52) := rfl
        refine ⟨by omega, by omega, fun hk2 => ?_⟩
        have : k = 52 := by omega
        subst this
        simp only [Nat.sub_self, Nat.pow_zero, Nat.div_one] at d2
        simp only [Nat.sub_self, Nat.shiftLeft_zero, cut_zero, true_and]
        exact d2
    refine ⟨?_, hbnd⟩
    unfold Ieee.Format.nearest
    rw [if_neg (by omega)]
    simp only [hk, hfb, hl, hb, hi, e1, e4]
    obtain ⟨b1, b2, _⟩ := hbnd
    generalize Toward.even.cut neg (n <<< (0 - ((k : Int) - 52)).toNat) (((k : Int) - 52) - 0).toNat = kept at b1 b2 ⊢
    rw [Nat.min_eq_left (by omega)]
  obtain ⟨hn, b1, b2, b3⟩ := hn
  rw [hn]
  generalize Toward.even.cut neg (n <<< (0 - ((k : Int) - 52)).toNat) (((k : Int) - 52) - 0).toNat = kept at b1 b2 b3 ⊢
  have small : n < 2 ^ 53 → k ≤ 52 := by
    intro h1
    rcases Nat.le_or_ge k 52 with h2 | h2
    · exact h2
    · rcases Nat.eq_or_lt_of_le h2 with h3 | h3
      · omega
      · have : 2 ^ 53 ≤ 2 ^ k := Nat.pow_le_pow_right (by decide) h3
        omega
  have great : 2 ^ 53 ≤ n → 53 ≤ k := by
    intro h1
    rcases Nat.lt_or_ge k 53 with h2 | h2
    · have : 2 ^ (k + 1) ≤ 2 ^ 53 := Nat.pow_le_pow_right (by decide) (by omega)
      omega
    · exact h2
  rcases Nat.eq_or_lt_of_le b2 with hb2 | hb2
  · subst hb2
    have e : (k + 1022) * 4503599627370496 + 9007199254740992 = (k + 1024) * 4503599627370496 + 0 := by omega
    rw [e, read_word neg (k + 1024) 0 (by omega) (by omega) (by omega)]
    refine ⟨_, _, rfl, by omega, by omega, by omega, fun h1 => ?_, fun h1 => ?_⟩
    · have := (b3 (small h1))
      omega
    · have := great h1; omega
  · have e : (k + 1022) * 4503599627370496 + kept = (k + 1023) * 4503599627370496 + (kept - 4503599627370496) := by omega
    rw [e, read_word neg (k + 1023) (kept - 4503599627370496) (by omega) (by omega) (by omega)]
    refine ⟨_, _, rfl, by omega, by omega, by omega, fun h1 => ?_, fun h1 => ?_⟩
    · have := (b3 (small h1)).1
      exact ⟨(Nat.add_sub_cancel' b1).trans this, by omega⟩
    · have := great h1; omega

theorem near_def (n : Int) : FloatKind.f64.nearest n = Ieee.double.nearest (decide (n < 0)) n.natAbs 0 := rfl
theorem near_zero : Ieee.double.read (FloatKind.f64.nearest 0) = .number false 0 (-1074) := by decide +kernel

/-- A float that is nearest to a whole number is a number. -/
theorem near_fin (n : Int) (h : n.natAbs < 2 ^ 64) : ∃ s m i, Ieee.double.read (FloatKind.f64.nearest n) = .number s m i := by
  by_cases h0 : n = 0
  · subst h0; exact ⟨_, _, _, near_zero⟩
  · obtain ⟨m, i, h1, _⟩ := read_near (decide (n < 0)) n.natAbs (by omega) h
    exact ⟨_, _, _, h1⟩

/-- What the float of a whole number of less than 54 digits stands for. -/
theorem near_read (n : Int) (h : n.natAbs < 2 ^ 53) : ∃ s m i, Ieee.double.read (FloatKind.f64.nearest n) = .number s m i ∧ (s = decide (n < 0)) ∧ i ≤ 0 ∧ -1074 ≤ i ∧ (n = 0 → m = 0) ∧ m = n.natAbs * 2 ^ (-i).toNat := by
  by_cases h0 : n = 0
  · subst h0
    refine ⟨false, 0, -1074, near_zero, rfl, by decide, by decide, fun _ => rfl, ?_⟩
    rw [Int.natAbs_zero, Nat.zero_mul]
  · obtain ⟨m, i, h1, _, _, _, h2, _⟩ := read_near (decide (n < 0)) n.natAbs (by omega) (by omega)
    obtain ⟨e1, e2⟩ := h2 h
    have hlog : n.natAbs.log2 ≤ 52 := Nat.le_of_lt_succ ((Nat.log2_lt (by omega)).2 h)
    refine ⟨_, _, _, h1, rfl, by omega, by omega, fun e => absurd e h0, ?_⟩
    rw [e1, e2, Nat.shiftLeft_eq]
    congr 2
    omega

theorem signed_mul (s : Bool) (m p : Nat) : signed s m p = signed s m 0 * 2 ^ p := by
  unfold signed
  rw [Nat.shiftLeft_zero, Nat.shiftLeft_eq]
  cases s <;> simp [Int.natCast_mul, Int.neg_mul]

theorem near_signed (n : Int) (h : n.natAbs < 2 ^ 53) : ∃ s m i, Ieee.double.read (FloatKind.f64.nearest n) = .number s m i ∧ (s = decide (n < 0)) ∧ i ≤ 0 ∧ m = n.natAbs * 2 ^ (-i).toNat ∧ ∀ base : Int, base ≤ i → signed s m (i - base).toNat = n * 2 ^ (-base).toNat := by
  obtain ⟨s, m, i, h1, h2, h3, _, _, h5⟩ := near_read n h
  refine ⟨s, m, i, h1, h2, h3, h5, fun base hb => ?_⟩
  have e : (-i).toNat + (i - base).toNat = (-base).toNat := by omega
  have h6 : m <<< (i - base).toNat = n.natAbs * 2 ^ (-base).toNat := by
    rw [Nat.shiftLeft_eq, h5, Nat.mul_assoc, ← Nat.pow_add, e]
  unfold signed
  rw [h6, h2]
  by_cases hn : n < 0
  · rw [if_pos (by simpa using hn)]
    have : (n.natAbs : Int) = -n := by omega
    rw [Int.natCast_mul, this, Int.neg_mul, Int.neg_neg]
    simp
  · rw [if_neg (by simpa using hn)]
    have : (n.natAbs : Int) = n := by omega
    rw [Int.natCast_mul, this]
    simp

/-- Floats of whole numbers stand to each other as these do. -/
theorem order_near (a b : Int) (ha : a.natAbs < 2 ^ 53) (hb : b.natAbs < 2 ^ 53) : FloatKind.f64.format.order (FloatKind.f64.nearest a) (FloatKind.f64.nearest b) = some (compare a b) := by
  obtain ⟨s, m, i, e1, _, _, _, h1⟩ := near_signed a ha
  obtain ⟨t, n, j, e2, _, _, _, h2⟩ := near_signed b hb
  show (Ieee.double.read _).order (Ieee.double.read _) = _
  rw [e1, e2]
  simp only [Datum.order]
  rw [h1 _ (Int.min_le_left _ _), h2 _ (Int.min_le_right _ _)]
  have hp : (0 : Int) < 2 ^ (-min i j).toNat := Int.pow_pos (by decide)
  generalize (2 : Int) ^ (-min i j).toNat = P at hp
  congr 1
  rcases Int.lt_trichotomy a b with h | h | h
  · rw [Int.compare_eq_lt.2 h, Int.compare_eq_lt.2 (Int.mul_lt_mul_of_pos_right h hp)]
  · subst h
    rw [Int.compare_eq_eq.2 rfl, Int.compare_eq_eq.2 rfl]
  · rw [Int.compare_eq_gt.2 h, Int.compare_eq_gt.2 (Int.mul_lt_mul_of_pos_right h hp)]

theorem near_of (n : Int) (s : Bool) (m : Nat) (i : Int) (hi : i ≤ 0) (h : signed s m 0 = n * 2 ^ (-i).toNat) (hz : n = 0 → s = false) : Ieee.double.nearest s m i = FloatKind.f64.nearest n := by
  have hp : (0 : Int) < 2 ^ (-i).toNat := Int.pow_pos (by decide)
  have hpn : 0 < 2 ^ (-i).toNat := Nat.two_pow_pos _
  have hm : m = n.natAbs * 2 ^ (-i).toNat := by
    have h1 : (signed s m 0).natAbs = m := by
      unfold signed; rw [Nat.shiftLeft_zero]; cases s <;> simp
    rw [← h1, h, Int.natAbs_mul]
    congr 1
  rw [near_def]
  have hs : n ≠ 0 → s = decide (n < 0) := by
    intro hn
    have hm0 : 0 < m := by rw [hm]; exact Nat.mul_pos (by omega) hpn
    cases s with
    | false =>
      have : (0 : Int) ≤ n * 2 ^ (-i).toNat := by rw [← h]; unfold signed; simp
      have : ¬ n < 0 := fun hneg => by
        have := Int.mul_neg_of_neg_of_pos hneg hp
        omega
      simp [this]
    | true =>
      have : n * 2 ^ (-i).toNat < 0 := by rw [← h]; unfold signed; simp; omega
      have : n < 0 := by
        rcases Int.lt_or_le n 0 with h1 | h1
        · exact h1
        · have := Int.mul_nonneg h1 (Int.le_of_lt hp); omega
      simp [this]
  by_cases hn : n = 0
  · subst hn
    rw [hz rfl, hm]
    simp [Ieee.Format.nearest]
  · rw [hs hn, hm, ← Nat.shiftLeft_eq]
    have := nearest_scale Ieee.double (decide (n < 0)) n.natAbs (-i).toNat 0
    rw [show (0 : Int) - ((-i).toNat : Int) = i by omega] at this
    exact this

/-- The sum. -/
theorem add_near (a b : Int) (ha : a.natAbs < 2 ^ 53) (hb : b.natAbs < 2 ^ 53) : Ieee.double.add (FloatKind.f64.nearest a) (FloatKind.f64.nearest b) = some (FloatKind.f64.nearest (a + b)) := by
  obtain ⟨s, m, i, e1, s1, i1, m1, h1⟩ := near_signed a ha
  obtain ⟨t, n, j, e2, s2, j1, n1, h2⟩ := near_signed b hb
  unfold Ieee.Format.add
  rw [e1, e2]
  simp only [Datum.sum, Option.map_some, Option.some.injEq]
  rw [h1 _ (Int.min_le_left _ _), h2 _ (Int.min_le_right _ _), ← Int.add_mul]
  have hmin : min i j ≤ 0 := by omega
  generalize min i j = base at hmin
  have hp : (0 : Int) < 2 ^ (-base).toNat := Int.pow_pos (by decide)
  show Ieee.double.nearest _ _ _ = _
  refine near_of (a + b) _ _ base hmin ?_ ?_
  · unfold signed
    rw [Nat.shiftLeft_zero]
    generalize (a + b) * 2 ^ (-base).toNat = T
    by_cases h0 : T = 0
    · subst h0; simp
    · rw [if_neg h0]
      by_cases hneg : T < 0
      · rw [if_pos (by simpa using hneg)]; omega
      · rw [if_neg (by simpa using hneg)]; omega
  · intro h0
    rw [h0, Int.zero_mul, if_pos rfl, s1, s2]
    by_cases h3 : a < 0
    · have : ¬ b < 0 := by omega
      simp [this]
    · simp [h3]

/-- The difference. -/
theorem sub_near (a b : Int) (ha : a.natAbs < 2 ^ 53) (hb : b.natAbs < 2 ^ 53) : Ieee.double.sub (FloatKind.f64.nearest a) (FloatKind.f64.nearest b) = some (FloatKind.f64.nearest (a - b)) := by
  obtain ⟨s, m, i, e1, s1, i1, m1, h1⟩ := near_signed a ha
  obtain ⟨t, n, j, e2, s2, j1, n1, h2⟩ := near_signed b hb
  unfold Ieee.Format.sub
  rw [e1, e2]
  have hneg : ∀ p, signed (!t) n p = - signed t n p := by
    intro p; unfold signed; cases t <;> simp
  simp only [Datum.opposite, Datum.sum, Option.map_some, Option.some.injEq]
  rw [h1 _ (Int.min_le_left _ _), hneg, h2 _ (Int.min_le_right _ _), ← Int.neg_mul, ← Int.add_mul, ← Int.sub_eq_add_neg]
  have hmin : min i j ≤ 0 := by omega
  generalize min i j = base at hmin
  have hp : (0 : Int) < 2 ^ (-base).toNat := Int.pow_pos (by decide)
  show Ieee.double.nearest _ _ _ = _
  refine near_of (a - b) _ _ base hmin ?_ ?_
  · unfold signed
    rw [Nat.shiftLeft_zero]
    generalize (a - b) * 2 ^ (-base).toNat = T
    by_cases h0 : T = 0
    · subst h0; simp
    · rw [if_neg h0]
      by_cases hneg : T < 0
      · rw [if_pos (by simpa using hneg)]; omega
      · rw [if_neg (by simpa using hneg)]; omega
  · intro h0
    rw [h0, Int.zero_mul, if_pos rfl, s1, s2]
    have : a = b := by omega
    subst this
    cases decide (a < 0) <;> rfl

/-- And back. -/
theorem toInt_near (n : Int) (h : n.natAbs < 2 ^ 53) : (FloatKind.f64.decode (FloatKind.f64.nearest n)).toInt .zero = some n := by
  obtain ⟨s, m, i, e1, s1, i1, m1, _⟩ := near_signed n h
  show (Ieee.double.read _).toInt .zero = _
  rw [e1]
  unfold Datum.toInt Datum.integral
  have e2 : i.toNat = 0 := by omega
  simp only [e2, Nat.shiftLeft_zero, Option.some.injEq]
  have hc : Toward.zero.cut s m (-i).toNat = n.natAbs := by
    by_cases h0 : n = 0
    · subst h0
      have : m = 0 := by rw [m1]; simp
      subst this
      unfold Toward.cut
      simp
    · have := cut_shift .zero s n.natAbs 0 (-i).toNat (by omega)
      rw [Nat.zero_add, cut_zero, Nat.shiftLeft_eq, ← m1] at this
      exact this
  rw [hc]
  unfold signed
  rw [Nat.shiftLeft_zero, s1]
  by_cases hn : n < 0
  · rw [if_pos (by simpa using hn)]; omega
  · rw [if_neg (by simpa using hn)]; omega

/-- A word of the format that is a number is what is written of it. -/
theorem write_read (b : Nat) (hb : b < 2 ^ 64) {s : Bool} {m : Nat} {i : Int} (h : Ieee.double.read b = .number s m i) : Ieee.double.nearest s m i = b := by
  obtain ⟨hs, hbi, hi, hl⟩ := consts
  have hfb : (Ieee.double.fractionBits : Int) = 52 := rfl
  unfold Ieee.Format.read at h
  rw [hs, hbi, hi, hl] at h
  dsimp only at h
  have hw : Ieee.double.word s (b % 9223372036854775808) = b ∨ s ≠ (b / 9223372036854775808 % 2 == 1) := by
    by_cases e : s = (b / 9223372036854775808 % 2 == 1)
    · left
      unfold Ieee.Format.word
      rw [hs, e]
      split
      · rename_i h1; simp only [beq_iff_eq] at h1; omega
      · rename_i h1; simp only [beq_iff_eq] at h1; omega
    · exact .inr e
  have hmod : b % 9223372036854775808 < 9223372036854775808 := Nat.mod_lt _ (by decide)
  split at h
  · rename_i h1
    simp only [Datum.number.injEq] at h
    obtain ⟨h2, rfl, rfl⟩ := h
    have hw := hw.resolve_right (fun e => e h2.symm)
    unfold Ieee.Format.nearest
    by_cases h0 : b % 9223372036854775808 = 0
    · rw [if_pos h0]; rw [h0] at hw; exact hw
    · rw [if_neg h0]
      have hlog : (b % 9223372036854775808).log2 < 52 := (Nat.log2_lt h0).2 h1
      have e1 : max ((-1074 : Int) + ((b % 9223372036854775808).log2 : Int) - 52) (-1074) = -1074 := by omega
      simp only [hfb, hl, hbi, hi, e1, Int.sub_self, Int.toNat_zero, Nat.shiftLeft_zero, cut_zero, Nat.zero_mul, Nat.zero_add]
      rw [Nat.min_eq_left (by omega)]
      exact hw
  · rename_i h1
    split at h
    · rename_i h3
      simp only [Datum.number.injEq] at h
      obtain ⟨h2, rfl, rfl⟩ := h
      have hw := hw.resolve_right (fun e => e h2.symm)
      generalize b % 9223372036854775808 = r at *
      unfold Ieee.Format.nearest
      rw [if_neg (by omega)]
      have hlog : (4503599627370496 + r % 4503599627370496).log2 = 52 := by
        have hm : r % 4503599627370496 < 4503599627370496 := Nat.mod_lt _ (by decide)
        apply Nat.le_antisymm
        · exact Nat.le_of_lt_succ ((Nat.log2_lt (by omega)).2 (by show _ < 9007199254740992; omega))
        · exact (Nat.le_log2 (by omega)).2 (by show 4503599627370496 ≤ _; omega)
      have e0 : (-1074 : Int) + ((r / 4503599627370496 - 1 : Nat) : Int) + ((52 : Nat) : Int) - 52 = -1074 + ((r / 4503599627370496 - 1 : Nat) : Int) := by omega
      have e1 : max (-1074 + ((r / 4503599627370496 - 1 : Nat) : Int)) (-1074) = -1074 + ((r / 4503599627370496 - 1 : Nat) : Int) := by omega
      simp only [hlog, hfb, hl, hbi, hi, e0, e1, Int.sub_self, Int.toNat_zero, Nat.shiftLeft_zero, cut_zero]
      have e2 : (-1074 + ((r / 4503599627370496 - 1 : Nat) : Int) - -1074).toNat = r / 4503599627370496 - 1 := by omega
      rw [e2]
      have e3 : (r / 4503599627370496 - 1) * 4503599627370496 + (4503599627370496 + r % 4503599627370496) = r := by omega
      rw [e3, Nat.min_eq_left (by omega)]
      exact hw
    · split at h <;> cases h

/-- A written number is no NaN. -/
theorem near_num (s : Bool) (m : Nat) (i : Int) : ∀ t f, Ieee.double.read (Ieee.double.nearest s m i) ≠ .nan t f := by
  obtain ⟨hs, hb, hi, hl⟩ := consts
  have key : ∀ (s : Bool) (r : Nat), r ≤ 9218868437227405312 → ∀ t f, Ieee.double.read (Ieee.double.word s r) ≠ .nan t f := by
    intro s r hr t f h
    unfold Ieee.Format.read Ieee.Format.word at h
    rw [hs, hb, hi, hl] at h
    dsimp only at h
    have e : (if s = true then 9223372036854775808 + r else r) % 9223372036854775808 = r := by cases s <;> simp <;> omega
    rw [e] at h
    split at h
    · cases h
    · split at h
      · cases h
      · split at h
        · cases h
        · omega
  unfold Ieee.Format.nearest
  split
  · exact key _ _ (by omega)
  · dsimp only
    rw [hi]
    exact key _ _ (Nat.min_le_right _ _)

/-- The other sign. -/
theorem neg_near (n : Int) (h : n ≠ 0) : Op.negFloat .f64 (FloatKind.f64.nearest n) = FloatKind.f64.nearest (-n) := by
  obtain ⟨hs, hb, hi, hl⟩ := consts
  have hr : ∃ r, r ≤ 9218868437227405312 ∧ ∀ s, Ieee.double.nearest s n.natAbs 0 = Ieee.double.word s r := by
    have hc : ∀ s : Bool, ∀ a d, Toward.even.cut s a d = Toward.even.cut false a d := fun s a d => rfl
    have hn : ∀ s, Ieee.double.nearest s n.natAbs 0 = Ieee.double.word s (min ((max (0 + (n.natAbs.log2 : Int) - (Ieee.double.fractionBits : Int)) Ieee.double.leastPlace - Ieee.double.leastPlace).toNat * Ieee.double.binade + Toward.even.cut false (n.natAbs <<< (0 - max (0 + (n.natAbs.log2 : Int) - (Ieee.double.fractionBits : Int)) Ieee.double.leastPlace).toNat) (max (0 + (n.natAbs.log2 : Int) - (Ieee.double.fractionBits : Int)) Ieee.double.leastPlace - 0).toNat) Ieee.double.infRung) := by
      intro s
      unfold Ieee.Format.nearest
      rw [if_neg (by omega)]
      simp only [hc s]
    refine ⟨_, ?_, hn⟩
    rw [hi]
    exact Nat.min_le_right _ _
  obtain ⟨r, hr, hw⟩ := hr
  rw [near_def, near_def, hw, Int.natAbs_neg, hw]
  show (Ieee.double.word _ r) ^^^ 2 ^ 63 = _
  have hx : ∀ x : Nat, x < 2 ^ 63 → x ^^^ 2 ^ 63 = 2 ^ 63 + x ∧ (2 ^ 63 + x) ^^^ 2 ^ 63 = x := by
    intro x hx
    have h1 : x ^^^ 2 ^ 63 = 2 ^ 63 + x := by
      rw [Nat.xor_comm]
      apply Nat.eq_of_testBit_eq
      intro j
      rw [Nat.testBit_xor, Nat.testBit_two_pow]
      rcases Nat.lt_trichotomy j 63 with hj | hj | hj
      · rw [Nat.testBit_two_pow_add_gt hj]
        have : ¬ 63 = j := by omega
        simp [this]
      · subst hj
        rw [Nat.testBit_two_pow_add_eq]
        simp
      · have h2 : x.testBit j = false := Nat.testBit_lt_two_pow (Nat.lt_of_lt_of_le hx (Nat.pow_le_pow_right (by decide) (by omega)))
        have h3 : (2 ^ 63 + x).testBit j = false := Nat.testBit_lt_two_pow (by
          calc 2 ^ 63 + x < 2 ^ 64 := by omega
            _ ≤ 2 ^ j := Nat.pow_le_pow_right (by decide) (by omega))
        have : ¬ 63 = j := by omega
        simp [h2, h3, this]
    refine ⟨h1, ?_⟩
    rw [← h1, Nat.xor_assoc, Nat.xor_self, Nat.xor_zero]
  have h63 : r < 2 ^ 63 := by omega
  unfold Ieee.Format.word
  rw [hs]
  rcases Int.lt_or_gt_of_ne h with h1 | h1
  · have h2 : ¬ -n < 0 := by omega
    rw [decide_eq_true h1, decide_eq_false h2]
    simp only [if_true, Bool.false_eq_true, if_false]
    exact (hx r h63).2
  · have h2 : ¬ n < 0 := by omega
    have h3 : -n < 0 := by omega
    rw [decide_eq_false h2, decide_eq_true h3]
    simp only [if_true, Bool.false_eq_true, if_false]
    exact (hx r h63).1
end Go.Proofs.Ytobghgfmdjknlaa.Sx
