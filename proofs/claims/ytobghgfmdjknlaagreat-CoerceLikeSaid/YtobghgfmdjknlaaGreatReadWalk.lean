/- num.Read: a text's worth: walked by hand. -/
import Derived.Test.YtobghgfmdjknlaaGreatTrim
import Derived.WalkKit
import Derived.Lib.Strings
import Derived.Laws.Cover2
namespace Go.Proofs.YtobghgfmdjknlaaGreat
open Go Go.RowKit Go.Proofs
set_option linter.unusedVariables false

/-- The digits that are left, after so much; whether it was too great. -/
def readLoop : List UInt8 → Int → Bool → Option (Int × Bool)
  | [], x, g => some (x, g)
  | b :: r, x, g => if b.toNat < 48 ∨ 57 < b.toNat then none
    else if 9007199254740991 < x * 10 + ((b.toNat : Int) - 48) then readLoop r 9007199254740991 true else readLoop r (x * 10 + ((b.toNat : Int) - 48)) g
def readTail (nan : Nat) (minus : Bool) (l : List UInt8) : Bool × Nat :=
  if l = [] then (false, nan) else match readLoop l 0 false with
  | none => (false, nan)
  | some (x, g) => if g = true ∨ (minus = true ∧ x = 0) then (true, 0) else (false, floatOfInt .f64 (if minus = true then -x else x))
def errOf (b : Bool) : Int := bif b then 10 else 0
def readRes (nan : Nat) (s : List UInt8) : Bool × Nat := match Lib.trimS s [9, 10, 13, 32] with
  | [] => (false, 0)
  | b :: r => if b = 45 then readTail nan true r else if b = 43 then readTail nan false r else readTail nan false (b :: r)

theorem loop_none {l : List UInt8} {i : Nat} {x : Int} {g : Bool} (hlt : i < l.length) (h : (l[i].toNat : Int) < 48 ∨ 57 < (l[i].toNat : Int)) : readLoop (l.drop i) x g = none := by
  rw [List.drop_eq_getElem_cons hlt]
  unfold readLoop
  rw [if_pos (by omega)]
theorem loop_great {l : List UInt8} {i : Nat} {x : Int} {g : Bool} (hlt : i < l.length) (h1 : 48 ≤ (l[i].toNat : Int)) (h2 : (l[i].toNat : Int) ≤ 57) (h3 : 9007199254740991 < x * 10 + ((l[i].toNat : Int) - 48)) :
    readLoop (l.drop i) x g = readLoop (l.drop (i + 1)) 9007199254740991 true := by
  rw [List.drop_eq_getElem_cons hlt]
  conv => lhs; unfold readLoop
  rw [if_neg (by omega), if_pos h3]
theorem loop_step {l : List UInt8} {i : Nat} {x : Int} {g : Bool} (hlt : i < l.length) (h1 : 48 ≤ (l[i].toNat : Int)) (h2 : (l[i].toNat : Int) ≤ 57) (h3 : x * 10 + ((l[i].toNat : Int) - 48) ≤ 9007199254740991) :
    readLoop (l.drop i) x g = readLoop (l.drop (i + 1)) (x * 10 + ((l[i].toNat : Int) - 48)) g := by
  rw [List.drop_eq_getElem_cons hlt]
  conv => lhs; unfold readLoop
  rw [if_neg (by omega), if_neg (by omega)]
theorem loop_end {l : List UInt8} {i : Nat} {x : Int} {g : Bool} (h : ¬ i < l.length) : readLoop (l.drop i) x g = some (x, g) := by
  rw [List.drop_eq_nil_of_le (by omega)]
  rfl

theorem trimS_length (l cs : List UInt8) : (Lib.trimS l cs).length ≤ l.length := by
  unfold Lib.trimS Lib.trimLeftS Lib.trimRightS
  refine Nat.le_trans (List.dropWhile_sublist _).length_le ?_
  rw [List.length_reverse]
  refine Nat.le_trans (List.dropWhile_sublist _).length_le ?_
  rw [List.length_reverse]
  exact Nat.le_refl _
theorem tail_none {nan : Nat} {m : Bool} {l : List UInt8} (hne : l ≠ []) (h : readLoop l 0 false = none) : readTail nan m l = (false, nan) := by
  unfold readTail; rw [if_neg hne, h]
theorem tail_bad {nan : Nat} {m : Bool} {l : List UInt8} {x : Int} {g : Bool} (hne : l ≠ []) (h : readLoop l 0 false = some (x, g)) (hb : g = true ∨ (m = true ∧ x = 0)) : readTail nan m l = (true, 0) := by
  unfold readTail; rw [if_neg hne, h]; exact if_pos hb
theorem tail_good {nan : Nat} {m : Bool} {l : List UInt8} {x : Int} {g : Bool} (hne : l ≠ []) (h : readLoop l 0 false = some (x, g)) (hb : ¬(g = true ∨ (m = true ∧ x = 0))) : readTail nan m l = (false, floatOfInt .f64 (if m = true then -x else x)) := by
  unfold readTail; rw [if_neg hne, h]; exact if_neg hb
theorem tail_zero (nan : Nat) (m : Bool) (l : List UInt8) (h : (readTail nan m l).1 = true) : (readTail nan m l).2 = 0 := by
  unfold readTail at h ⊢
  split at h
  · cases h
  · rename_i hne
    rw [if_neg hne]
    split at h
    · cases h
    · split at h
      · rename_i hb; simp_all
      · cases h
theorem res_bad (nan : Nat) (s : List UInt8) (h : (readRes nan s).1 = true) : (readRes nan s).2 = 0 := by
  unfold readRes at h ⊢
  split at h
  · cases h
  · rename_i b r hT
    split at h
    · rename_i hb; rw [if_pos hb]; exact tail_zero _ _ _ h
    · rename_i hb
      rw [if_neg hb]
      split at h
      · rename_i hc; rw [if_pos hc]; exact tail_zero _ _ _ h
      · rename_i hc; rw [if_neg hc]; exact tail_zero _ _ _ h
theorem wrap_small {x : Int} (h1 : -9007199254740991 ≤ x) (h2 : x ≤ 9007199254740991) : wrap64 x = x := by
  unfold wrap64; omega

set_option maxRecDepth 100000 in
set_option maxHeartbeats 4000000 in
theorem read_empty (nan : Nat) (hnan : ∀ w : World, Calls Tryz.prog 144 #[] w fun e w' => e = .returned (.float .f64 nan) ∧ Below w.heap.size w w') (s : ByteArray) (T : List UInt8) (w : World)
    (hT : Calls Tryz.prog 147 #[.string s, .string ⟨#[9, 10, 13, 32]⟩] w fun e w' => e = .returned (.string ⟨T.toArray⟩) ∧ Below w.heap.size w w') (hlen : T.length ≤ 4096) (bad : Bool) (bits : Nat) (hTe : T = []) (hr : (bad, bits) = (false, 0)) :
    Calls Tryz.prog 145 #[.string s] w fun e w' => e = .returned (.tuple #[.float .f64 bits, .int .i64 (errOf bad)]) ∧ Below w.heap.size w w' := by
  have hcv : ∀ (x : Int) (w : World), (convert 2 22 (.int .i64 x)).run Tryz.prog w = .ok (.float .f64 (floatOfInt .f64 x)) w := fun x w => run_convert_int_float (P := Tryz.prog) w 2 22 .i64 .f64 x (by rw [Tryz.underlying2]; rfl) Tryz.underlying22
  subst hTe
  cases hr
  go_enter Tryz.func145, Tryz.ntmps145
  go_wp2_with (first
    | (go_at_call 147; refine hT.mono ?_; rintro e w1 ⟨rfl, hb1⟩)
    | (go_at_call 144; refine (hnan _).mono ?_; rintro e w2 ⟨rfl, hb2⟩)
    | go_in)
  go_ret2
  exact ⟨rfl, hb1⟩

set_option maxRecDepth 100000 in
set_option maxHeartbeats 4000000 in
theorem read_minus0 (nan : Nat) (hnan : ∀ w : World, Calls Tryz.prog 144 #[] w fun e w' => e = .returned (.float .f64 nan) ∧ Below w.heap.size w w') (s : ByteArray) (T : List UInt8) (w : World)
    (hT : Calls Tryz.prog 147 #[.string s, .string ⟨#[9, 10, 13, 32]⟩] w fun e w' => e = .returned (.string ⟨T.toArray⟩) ∧ Below w.heap.size w w') (hlen : T.length ≤ 4096) (bad : Bool) (bits : Nat) (hTe : T = [45]) (hr : (bad, bits) = (false, nan)) :
    Calls Tryz.prog 145 #[.string s] w fun e w' => e = .returned (.tuple #[.float .f64 bits, .int .i64 (errOf bad)]) ∧ Below w.heap.size w w' := by
  have hcv : ∀ (x : Int) (w : World), (convert 2 22 (.int .i64 x)).run Tryz.prog w = .ok (.float .f64 (floatOfInt .f64 x)) w := fun x w => run_convert_int_float (P := Tryz.prog) w 2 22 .i64 .f64 x (by rw [Tryz.underlying2]; rfl) Tryz.underlying22
  subst hTe
  cases hr
  have hb0 : ∀ h, ({ data := [(45 : UInt8)].toArray } : ByteArray)[0]'h = 45 := fun h => rfl
  have hx1 : ({ data := [(45 : UInt8)].toArray } : ByteArray).extract 1 1 = { data := #[] } := rfl
  go_enter Tryz.func145, Tryz.ntmps145
  go_wp2_with (first
    | (go_at_call 147; refine hT.mono ?_; rintro e w1 ⟨rfl, hb1⟩)
    | (go_at_call 144; refine (hnan _).mono ?_; rintro e w2 ⟨rfl, hb2⟩)
    | go_in)
  go_ret2
  exact ⟨rfl, hb1.trans (hb2.mono hb1.size)⟩

set_option maxRecDepth 100000 in
set_option maxHeartbeats 4000000 in
theorem read_plus0 (nan : Nat) (hnan : ∀ w : World, Calls Tryz.prog 144 #[] w fun e w' => e = .returned (.float .f64 nan) ∧ Below w.heap.size w w') (s : ByteArray) (T : List UInt8) (w : World)
    (hT : Calls Tryz.prog 147 #[.string s, .string ⟨#[9, 10, 13, 32]⟩] w fun e w' => e = .returned (.string ⟨T.toArray⟩) ∧ Below w.heap.size w w') (hlen : T.length ≤ 4096) (bad : Bool) (bits : Nat) (hTe : T = [43]) (hr : (bad, bits) = (false, nan)) :
    Calls Tryz.prog 145 #[.string s] w fun e w' => e = .returned (.tuple #[.float .f64 bits, .int .i64 (errOf bad)]) ∧ Below w.heap.size w w' := by
  have hcv : ∀ (x : Int) (w : World), (convert 2 22 (.int .i64 x)).run Tryz.prog w = .ok (.float .f64 (floatOfInt .f64 x)) w := fun x w => run_convert_int_float (P := Tryz.prog) w 2 22 .i64 .f64 x (by rw [Tryz.underlying2]; rfl) Tryz.underlying22
  subst hTe
  cases hr
  have hb0 : ∀ h, ({ data := [(43 : UInt8)].toArray } : ByteArray)[0]'h = 43 := fun h => rfl
  have hx1 : ({ data := [(43 : UInt8)].toArray } : ByteArray).extract 1 1 = { data := #[] } := rfl
  go_enter Tryz.func145, Tryz.ntmps145
  go_wp2_with (first
    | (go_at_call 147; refine hT.mono ?_; rintro e w1 ⟨rfl, hb1⟩)
    | (go_at_call 144; refine (hnan _).mono ?_; rintro e w2 ⟨rfl, hb2⟩)
    | go_in)
  go_ret2
  exact ⟨rfl, hb1.trans (hb2.mono hb1.size)⟩

set_option maxRecDepth 100000 in
set_option maxHeartbeats 4000000 in
theorem read_minus (nan : Nat) (hnan : ∀ w : World, Calls Tryz.prog 144 #[] w fun e w' => e = .returned (.float .f64 nan) ∧ Below w.heap.size w w') (s : ByteArray) (T : List UInt8) (w : World)
    (hT : Calls Tryz.prog 147 #[.string s, .string ⟨#[9, 10, 13, 32]⟩] w fun e w' => e = .returned (.string ⟨T.toArray⟩) ∧ Below w.heap.size w w') (hlen : T.length ≤ 4096) (bad : Bool) (bits : Nat) (r : List UInt8) (hTe : T = 45 :: r) (hne : r ≠ []) (hr : readTail nan true r = (bad, bits)) :
    Calls Tryz.prog 145 #[.string s] w fun e w' => e = .returned (.tuple #[.float .f64 bits, .int .i64 (errOf bad)]) ∧ Below w.heap.size w w' := by
  have hcv : ∀ (x : Int) (w : World), (convert 2 22 (.int .i64 x)).run Tryz.prog w = .ok (.float .f64 (floatOfInt .f64 x)) w := fun x w => run_convert_int_float (P := Tryz.prog) w 2 22 .i64 .f64 x (by rw [Tryz.underlying2]; rfl) Tryz.underlying22
  subst hTe
  have hlr : r.length ≤ 4095 := by simpa using hlen
  have hem : r.isEmpty = false := by cases r with
    | nil => exact absurd rfl hne
    | cons _ _ => rfl
  have hb0 : ∀ h, ({ data := (45 :: r).toArray } : ByteArray)[0]'h = 45 := fun h => rfl
  have hx1 : ({ data := (45 :: r).toArray } : ByteArray).extract 1 (r.length + 1) = { data := r.toArray } := by rw [Lib.extract_mk, List.take_of_length_le (by simp)]; rfl
  go_enter Tryz.func145, Tryz.ntmps145
  go_wp2_with (first
    | (go_at_call 147; refine hT.mono ?_; rintro e w1 ⟨rfl, hb1⟩)
    | (go_at_call 144; refine (hnan _).mono ?_; rintro e w2 ⟨rfl, hb2⟩)
    | go_in)
  go_loop [30, 5, 6] (fun va vb vc => ∃ (i : Nat) (x : Int) (g : Bool), va = .int .i64 i ∧ vb = .int .i64 x ∧ vc = .bool g ∧ i ≤ (r).length ∧ 0 ≤ x ∧ x ≤ 9007199254740991 ∧ readLoop ((r).drop i) x g = readLoop (r) 0 false) (fun va vb vc => match va with | .int _ i => (r).length - i.toNat | _ => 0)
  case atStart => exact ⟨0, 0, false, rfl, rfl, rfl, Nat.zero_le _, Int.le_refl _, by decide, rfl⟩
  case round =>
    obtain ⟨i, x, g, rfl, rfl, rfl, hi, h0, hx, hl⟩ := hrel
    by_cases hlt : i < (r).length
    · have hsz : ({ data := (r).toArray } : ByteArray).size = (r).length := by simp [ByteArray.size]
      have hbv : ∀ h, ({ data := (r).toArray } : ByteArray)[i]'h = (r)[i] := fun h => rfl
      have hw1 : wrap64 ((i : Int) + 1) = ((i + 1 : Nat) : Int) := by rw [wrap_small (by omega) (by omega)]; rfl
      by_cases hd : ((r)[i].toNat : Int) < 48 ∨ 57 < ((r)[i].toNat : Int)
      · have hr2 := (tail_none (nan := nan) (m := true) hne (hl.symm.trans (loop_none hlt hd))).symm.trans hr
        simp only [Prod.mk.injEq] at hr2
        obtain ⟨rfl, rfl⟩ := hr2
        have hK : Lib.Kept (readTail nan true (r) = (false, nan)) := hr
        clear hr hl hne
        go_wp2_with (first
          | (go_at_call 144; refine (hnan _).mono ?_; rintro e w2 ⟨rfl, hb2⟩)
          | go_in)
        all_goals first
          | (go_ret2; exact ⟨rfl, hb1.trans (hb2.mono hb1.size)⟩)
          | (exfalso; omega)
      · by_cases hg : 9007199254740991 < x * 10 + (((r)[i].toNat : Int) - 48)
        · have hl2 := (loop_great (g := g) hlt (by omega) (by omega) hg).symm.trans hl
          have hK : Lib.Kept (readTail nan true (r) = (bad, bits)) := hr
          have hK2 : Lib.Kept (readLoop ((r).drop (i + 1)) 9007199254740991 true = readLoop (r) 0 false) := hl2
          clear hr hl hne hl2
          go_wp2
          all_goals first
            | exact ⟨⟨i + 1, _, _, rfl, rfl, rfl, by omega, by decide, by decide, hK2⟩, by show (r).length - ((i : Int) + 1).toNat < (r).length - ((i : Int)).toNat; omega⟩
            | (exfalso; omega)
            | trace_state
        · have hl2 := (loop_step (g := g) hlt (by omega) (by omega) (by omega)).symm.trans hl
          have hK : Lib.Kept (readTail nan true (r) = (bad, bits)) := hr
          have hK2 : Lib.Kept (readLoop ((r).drop (i + 1)) (x * 10 + (((r)[i].toNat : Int) - 48)) g = readLoop (r) 0 false) := hl2
          clear hr hl hne hl2
          go_wp2
          all_goals first
            | exact ⟨⟨i + 1, _, _, rfl, rfl, rfl, by omega, by omega, by omega, hK2⟩, by show (r).length - ((i : Int) + 1).toNat < (r).length - ((i : Int)).toNat; omega⟩
            | (exfalso; omega)
            | trace_state
    · have hl2 := hl.symm.trans (loop_end hlt)
      by_cases hbad : g = true ∨ (true = true ∧ x = 0)
      · have hr2 := (tail_bad (nan := nan) (m := true) hne hl2 hbad).symm.trans hr
        simp only [Prod.mk.injEq] at hr2
        obtain ⟨rfl, rfl⟩ := hr2
        clear hr hl hl2 hne
        go_wp2
        all_goals first
          | (go_ret2; exact ⟨rfl, hb1⟩)
          | (exfalso; simp_all; done)
          | trace_state
      · have hr2 := (tail_good (nan := nan) (m := true) hne hl2 hbad).symm.trans hr
        simp only [Prod.mk.injEq] at hr2
        obtain ⟨rfl, rfl⟩ := hr2
        have hneg : wrap64 (-x) = -x := wrap_small (by omega) (by omega)
        clear hr hl hl2 hne
        go_wp2
        all_goals first
          | (go_ret2; exact ⟨rfl, hb1⟩)
          | (exfalso; simp_all; done)
          | trace_state

set_option maxRecDepth 100000 in
set_option maxHeartbeats 4000000 in
theorem read_plus (nan : Nat) (hnan : ∀ w : World, Calls Tryz.prog 144 #[] w fun e w' => e = .returned (.float .f64 nan) ∧ Below w.heap.size w w') (s : ByteArray) (T : List UInt8) (w : World)
    (hT : Calls Tryz.prog 147 #[.string s, .string ⟨#[9, 10, 13, 32]⟩] w fun e w' => e = .returned (.string ⟨T.toArray⟩) ∧ Below w.heap.size w w') (hlen : T.length ≤ 4096) (bad : Bool) (bits : Nat) (r : List UInt8) (hTe : T = 43 :: r) (hne : r ≠ []) (hr : readTail nan false r = (bad, bits)) :
    Calls Tryz.prog 145 #[.string s] w fun e w' => e = .returned (.tuple #[.float .f64 bits, .int .i64 (errOf bad)]) ∧ Below w.heap.size w w' := by
  have hcv : ∀ (x : Int) (w : World), (convert 2 22 (.int .i64 x)).run Tryz.prog w = .ok (.float .f64 (floatOfInt .f64 x)) w := fun x w => run_convert_int_float (P := Tryz.prog) w 2 22 .i64 .f64 x (by rw [Tryz.underlying2]; rfl) Tryz.underlying22
  subst hTe
  have hlr : r.length ≤ 4095 := by simpa using hlen
  have hem : r.isEmpty = false := by cases r with
    | nil => exact absurd rfl hne
    | cons _ _ => rfl
  have hb0 : ∀ h, ({ data := (43 :: r).toArray } : ByteArray)[0]'h = 43 := fun h => rfl
  have hx1 : ({ data := (43 :: r).toArray } : ByteArray).extract 1 (r.length + 1) = { data := r.toArray } := by rw [Lib.extract_mk, List.take_of_length_le (by simp)]; rfl
  go_enter Tryz.func145, Tryz.ntmps145
  go_wp2_with (first
    | (go_at_call 147; refine hT.mono ?_; rintro e w1 ⟨rfl, hb1⟩)
    | (go_at_call 144; refine (hnan _).mono ?_; rintro e w2 ⟨rfl, hb2⟩)
    | go_in)
  go_loop [30, 5, 6] (fun va vb vc => ∃ (i : Nat) (x : Int) (g : Bool), va = .int .i64 i ∧ vb = .int .i64 x ∧ vc = .bool g ∧ i ≤ (r).length ∧ 0 ≤ x ∧ x ≤ 9007199254740991 ∧ readLoop ((r).drop i) x g = readLoop (r) 0 false) (fun va vb vc => match va with | .int _ i => (r).length - i.toNat | _ => 0)
  case atStart => exact ⟨0, 0, false, rfl, rfl, rfl, Nat.zero_le _, Int.le_refl _, by decide, rfl⟩
  case round =>
    obtain ⟨i, x, g, rfl, rfl, rfl, hi, h0, hx, hl⟩ := hrel
    by_cases hlt : i < (r).length
    · have hsz : ({ data := (r).toArray } : ByteArray).size = (r).length := by simp [ByteArray.size]
      have hbv : ∀ h, ({ data := (r).toArray } : ByteArray)[i]'h = (r)[i] := fun h => rfl
      have hw1 : wrap64 ((i : Int) + 1) = ((i + 1 : Nat) : Int) := by rw [wrap_small (by omega) (by omega)]; rfl
      by_cases hd : ((r)[i].toNat : Int) < 48 ∨ 57 < ((r)[i].toNat : Int)
      · have hr2 := (tail_none (nan := nan) (m := false) hne (hl.symm.trans (loop_none hlt hd))).symm.trans hr
        simp only [Prod.mk.injEq] at hr2
        obtain ⟨rfl, rfl⟩ := hr2
        have hK : Lib.Kept (readTail nan false (r) = (false, nan)) := hr
        clear hr hl hne
        go_wp2_with (first
          | (go_at_call 144; refine (hnan _).mono ?_; rintro e w2 ⟨rfl, hb2⟩)
          | go_in)
        all_goals first
          | (go_ret2; exact ⟨rfl, hb1.trans (hb2.mono hb1.size)⟩)
          | (exfalso; omega)
      · by_cases hg : 9007199254740991 < x * 10 + (((r)[i].toNat : Int) - 48)
        · have hl2 := (loop_great (g := g) hlt (by omega) (by omega) hg).symm.trans hl
          have hK : Lib.Kept (readTail nan false (r) = (bad, bits)) := hr
          have hK2 : Lib.Kept (readLoop ((r).drop (i + 1)) 9007199254740991 true = readLoop (r) 0 false) := hl2
          clear hr hl hne hl2
          go_wp2
          all_goals first
            | exact ⟨⟨i + 1, _, _, rfl, rfl, rfl, by omega, by decide, by decide, hK2⟩, by show (r).length - ((i : Int) + 1).toNat < (r).length - ((i : Int)).toNat; omega⟩
            | (exfalso; omega)
            | trace_state
        · have hl2 := (loop_step (g := g) hlt (by omega) (by omega) (by omega)).symm.trans hl
          have hK : Lib.Kept (readTail nan false (r) = (bad, bits)) := hr
          have hK2 : Lib.Kept (readLoop ((r).drop (i + 1)) (x * 10 + (((r)[i].toNat : Int) - 48)) g = readLoop (r) 0 false) := hl2
          clear hr hl hne hl2
          go_wp2
          all_goals first
            | exact ⟨⟨i + 1, _, _, rfl, rfl, rfl, by omega, by omega, by omega, hK2⟩, by show (r).length - ((i : Int) + 1).toNat < (r).length - ((i : Int)).toNat; omega⟩
            | (exfalso; omega)
            | trace_state
    · have hl2 := hl.symm.trans (loop_end hlt)
      by_cases hbad : g = true ∨ (false = true ∧ x = 0)
      · have hr2 := (tail_bad (nan := nan) (m := false) hne hl2 hbad).symm.trans hr
        simp only [Prod.mk.injEq] at hr2
        obtain ⟨rfl, rfl⟩ := hr2
        clear hr hl hl2 hne
        go_wp2
        all_goals first
          | (go_ret2; exact ⟨rfl, hb1⟩)
          | (exfalso; simp_all; done)
          | trace_state
      · have hr2 := (tail_good (nan := nan) (m := false) hne hl2 hbad).symm.trans hr
        simp only [Prod.mk.injEq] at hr2
        obtain ⟨rfl, rfl⟩ := hr2
        have hneg : wrap64 (-x) = -x := wrap_small (by omega) (by omega)
        clear hr hl hl2 hne
        go_wp2
        all_goals first
          | (go_ret2; exact ⟨rfl, hb1⟩)
          | (exfalso; simp_all; done)
          | trace_state

set_option maxRecDepth 100000 in
set_option maxHeartbeats 4000000 in
theorem read_plain (nan : Nat) (hnan : ∀ w : World, Calls Tryz.prog 144 #[] w fun e w' => e = .returned (.float .f64 nan) ∧ Below w.heap.size w w') (s : ByteArray) (T : List UInt8) (w : World)
    (hT : Calls Tryz.prog 147 #[.string s, .string ⟨#[9, 10, 13, 32]⟩] w fun e w' => e = .returned (.string ⟨T.toArray⟩) ∧ Below w.heap.size w w') (hlen : T.length ≤ 4096) (bad : Bool) (bits : Nat) (b : UInt8) (hne : T ≠ []) (hb : ∀ h, ({ data := T.toArray } : ByteArray)[0]'h = b) (h45 : b ≠ 45) (h43 : b ≠ 43) (hr : readTail nan false T = (bad, bits)) :
    Calls Tryz.prog 145 #[.string s] w fun e w' => e = .returned (.tuple #[.float .f64 bits, .int .i64 (errOf bad)]) ∧ Below w.heap.size w w' := by
  have hcv : ∀ (x : Int) (w : World), (convert 2 22 (.int .i64 x)).run Tryz.prog w = .ok (.float .f64 (floatOfInt .f64 x)) w := fun x w => run_convert_int_float (P := Tryz.prog) w 2 22 .i64 .f64 x (by rw [Tryz.underlying2]; rfl) Tryz.underlying22
  have h45' : ¬ (b.toNat : Int) = 45 := fun h => h45 (UInt8.toNat_inj.1 (by simpa using (by omega : b.toNat = 45)))
  have h43' : ¬ (b.toNat : Int) = 43 := fun h => h43 (UInt8.toNat_inj.1 (by simpa using (by omega : b.toNat = 43)))
  have h45b : ((b.toNat : Int) == 45) = false := beq_eq_false_iff_ne.2 h45'
  have h43b : ((b.toNat : Int) == 43) = false := beq_eq_false_iff_ne.2 h43'
  have hem : T.isEmpty = false := by cases T with
    | nil => exact absurd rfl hne
    | cons _ _ => rfl
  have hlt0 : 0 < T.length := List.length_pos_iff.2 hne
  go_enter Tryz.func145, Tryz.ntmps145
  go_wp2_with (first
    | (go_at_call 147; refine hT.mono ?_; rintro e w1 ⟨rfl, hb1⟩)
    | (go_at_call 144; refine (hnan _).mono ?_; rintro e w2 ⟨rfl, hb2⟩)
    | go_in)
  try simp only [h45b, h43b, Bool.or_false]
  clear h45' h43' h45b h43b hb h45 h43
  go_loop [30, 5, 6] (fun va vb vc => ∃ (i : Nat) (x : Int) (g : Bool), va = .int .i64 i ∧ vb = .int .i64 x ∧ vc = .bool g ∧ i ≤ (T).length ∧ 0 ≤ x ∧ x ≤ 9007199254740991 ∧ readLoop ((T).drop i) x g = readLoop (T) 0 false) (fun va vb vc => match va with | .int _ i => (T).length - i.toNat | _ => 0)
  case atStart => exact ⟨0, 0, false, rfl, rfl, rfl, Nat.zero_le _, Int.le_refl _, by decide, rfl⟩
  case round =>
    obtain ⟨i, x, g, rfl, rfl, rfl, hi, h0, hx, hl⟩ := hrel
    by_cases hlt : i < (T).length
    · have hsz : ({ data := (T).toArray } : ByteArray).size = (T).length := by simp [ByteArray.size]
      have hbv : ∀ h, ({ data := (T).toArray } : ByteArray)[i]'h = (T)[i] := fun h => rfl
      have hw1 : wrap64 ((i : Int) + 1) = ((i + 1 : Nat) : Int) := by rw [wrap_small (by omega) (by omega)]; rfl
      by_cases hd : ((T)[i].toNat : Int) < 48 ∨ 57 < ((T)[i].toNat : Int)
      · have hr2 := (tail_none (nan := nan) (m := false) hne (hl.symm.trans (loop_none hlt hd))).symm.trans hr
        simp only [Prod.mk.injEq] at hr2
        obtain ⟨rfl, rfl⟩ := hr2
        have hK : Lib.Kept (readTail nan false (T) = (false, nan)) := hr
        clear hr hl hne
        go_wp2_with (first
          | (go_at_call 144; refine (hnan _).mono ?_; rintro e w2 ⟨rfl, hb2⟩)
          | go_in)
        all_goals first
          | (go_ret2; exact ⟨rfl, hb1.trans (hb2.mono hb1.size)⟩)
          | (exfalso; omega)
      · by_cases hg : 9007199254740991 < x * 10 + (((T)[i].toNat : Int) - 48)
        · have hl2 := (loop_great (g := g) hlt (by omega) (by omega) hg).symm.trans hl
          have hK : Lib.Kept (readTail nan false (T) = (bad, bits)) := hr
          have hK2 : Lib.Kept (readLoop ((T).drop (i + 1)) 9007199254740991 true = readLoop (T) 0 false) := hl2
          clear hr hl hne hl2
          go_wp2
          all_goals first
            | exact ⟨⟨i + 1, _, _, rfl, rfl, rfl, by omega, by decide, by decide, hK2⟩, by show (T).length - ((i : Int) + 1).toNat < (T).length - ((i : Int)).toNat; omega⟩
            | (exfalso; omega)
            | trace_state
        · have hl2 := (loop_step (g := g) hlt (by omega) (by omega) (by omega)).symm.trans hl
          have hK : Lib.Kept (readTail nan false (T) = (bad, bits)) := hr
          have hK2 : Lib.Kept (readLoop ((T).drop (i + 1)) (x * 10 + (((T)[i].toNat : Int) - 48)) g = readLoop (T) 0 false) := hl2
          clear hr hl hne hl2
          go_wp2
          all_goals first
            | exact ⟨⟨i + 1, _, _, rfl, rfl, rfl, by omega, by omega, by omega, hK2⟩, by show (T).length - ((i : Int) + 1).toNat < (T).length - ((i : Int)).toNat; omega⟩
            | (exfalso; omega)
            | trace_state
    · have hl2 := hl.symm.trans (loop_end hlt)
      by_cases hbad : g = true ∨ (false = true ∧ x = 0)
      · have hr2 := (tail_bad (nan := nan) (m := false) hne hl2 hbad).symm.trans hr
        simp only [Prod.mk.injEq] at hr2
        obtain ⟨rfl, rfl⟩ := hr2
        clear hr hl hl2 hne
        go_wp2
        all_goals first
          | (go_ret2; exact ⟨rfl, hb1⟩)
          | (exfalso; simp_all; done)
          | trace_state
      · have hr2 := (tail_good (nan := nan) (m := false) hne hl2 hbad).symm.trans hr
        simp only [Prod.mk.injEq] at hr2
        obtain ⟨rfl, rfl⟩ := hr2
        have hneg : wrap64 (-x) = -x := wrap_small (by omega) (by omega)
        clear hr hl hl2 hne
        go_wp2
        all_goals first
          | (go_ret2; exact ⟨rfl, hb1⟩)
          | (exfalso; simp_all; done)
          | trace_state

theorem read_walk (nan : Nat) (hnan : ∀ w : World, Calls Tryz.prog 144 #[] w fun e w' => e = .returned (.float .f64 nan) ∧ Below w.heap.size w w') (s : ByteArray) (hs : s.size ≤ 4096) (w : World) :
    Calls Tryz.prog 145 #[.string s] w fun e w' => e = .returned (.tuple #[.float .f64 (readRes nan s.data.toList).2, .int .i64 (errOf (readRes nan s.data.toList).1)]) ∧ Below w.heap.size w w' := by
  have hT := Tryz.strings_Trim s ⟨#[9, 10, 13, 32]⟩ w (by omega) (by decide) (by decide)
  have hlen : (Lib.trimS s.data.toList [9, 10, 13, 32]).length ≤ 4096 := Nat.le_trans (trimS_length _ _) (by rw [← Lib.size_eq]; exact hs)
  have hres : readRes nan s.data.toList = match Lib.trimS s.data.toList [9, 10, 13, 32] with
    | [] => (false, 0)
    | b :: r => if b = 45 then readTail nan true r else if b = 43 then readTail nan false r else readTail nan false (b :: r) := rfl
  replace hT : Calls Tryz.prog 147 #[.string s, .string ⟨#[9, 10, 13, 32]⟩] w fun e w' => e = .returned (.string ⟨(Lib.trimS s.data.toList [9, 10, 13, 32]).toArray⟩) ∧ Below w.heap.size w w' := hT
  generalize Lib.trimS s.data.toList [9, 10, 13, 32] = T at *
  have h0 : ∀ m, readTail nan m [] = (false, nan) := fun m => rfl
  rcases T with _ | ⟨b, r⟩
  · rw [hres]; exact read_empty nan hnan s [] w hT hlen false 0 rfl rfl
  · rw [hres]
    dsimp only
    split
    · rename_i hb
      subst hb
      by_cases hne : r = []
      · subst hne; rw [h0]; exact read_minus0 nan hnan s [45] w hT hlen false nan rfl rfl
      · exact read_minus nan hnan s _ w hT hlen _ _ r rfl hne rfl
    · rename_i h45
      split
      · rename_i hb
        subst hb
        by_cases hne : r = []
        · subst hne; rw [h0]; exact read_plus0 nan hnan s [43] w hT hlen false nan rfl rfl
        · exact read_plus nan hnan s _ w hT hlen _ _ r rfl hne rfl
      · rename_i h43
        exact read_plain nan hnan s (b :: r) w hT hlen _ _ b (by simp) (fun h => rfl) h45 h43 rfl
end Go.Proofs.YtobghgfmdjknlaaGreat
