/- strings.Index, and math.Trunc of whole numbers, at this seat. -/
import Derived.Test.YtmmcdfmlpfjlhaaGreatDoorSxMay
import Derived.Test.YtmmcdfmlpfjlhaaGreatDoorShelf
import Derived.Lib.IndexMore
namespace Go.Proofs.YtmmcdfmlpfjlhaaGreatDoor.Sx
open Go Go.RowKit
set_option linter.unusedSectionVars false

/-- The world's number of bytes up to which bytealg.Index is used: any int. -/
def maxLenIs (w : World) : Prop := ∃ m, w.cell? ⟨1, 0, none⟩ = some (.int .i64 m)
noncomputable def baseIx : Base where
  Φ f xs := match f with
    | 0 => mayΦ xs
    | _ => none
  appTy f ts := match f with
    | 0 => extFloat .bool ts
    | _ => none
  ok := by
    intro f ts t xs h hx
    split at h
    · exact mayΦ_ok h hx
    · cases h
  inv := maxLenIs
  low := 1 + 1
  invOk := by
    rintro w w' ⟨m, hm⟩ h
    refine ⟨m, ?_⟩
    rw [← hm]
    simp only [World.cell?, h 1 (Nat.lt_succ_self _)]

theorem maxLen_low {w : World} (h : maxLenIs w) : ∀ b, b < 1 + 1 → b < w.heap.size := by
  obtain ⟨m, hm⟩ := h
  intro b hb
  have : 1 < w.heap.size := by
    simp only [World.cell?] at hm
    cases hg : w.heap[1]? with
    | none => rw [hg] at hm; cases hm
    | some o => exact getElem?_lt hg
  omega

/-- Of the float of a whole number: itself. -/
noncomputable def truncRaw : Lem := ⟨[smallT], [], [], [i2fV (.var 0)], [⟨[], [], .prim (.ext 140) (.cons (i2fV (.var 0)) .nil)⟩]⟩
attribute [local instance] sokNone
set_option maxRecDepth 100000 in
theorem truncRaw_ok : LemOk c00 80 truncRaw := lem_of_run (n := 50) (by kernel_rfl)
theorem trunc_calls {n : Int} (h : n.natAbs < 2 ^ 53) (w : World) : Calls Tryz.prog 80 #[.float .f64 (FloatKind.f64.nearest n)] w fun e w' => e = .returned (.float .f64 (FloatKind.f64.nearest n)) ∧ Below w.heap.size w w' := by
  have hx : ∀ ys, den c00.P c00.Φ (withNews (envL [.int .i64 n]) (truncRaw.tys.length + truncRaw.blks.length) ys) (.var 0) = some (.int .i64 n) := fun ys => rfl
  refine (truncRaw_ok (envL [.int .i64 n]) w [.float .f64 (FloatKind.f64.nearest n)] trivial low0 (fun i t h => ?_) (fun j cs T h => absurd (show (none : Option (List V × TypeId)) = some (cs, T) from h) nofun) (fun j j' b h => absurd h (Nat.not_lt_zero j)) (fun g hg => by have hg : g ∈ ([] : List (V × Bool)) := hg; cases hg) rfl).mono ?_
  · match i, h with
    | 0, h =>
      have h : some smallT = some t := h
      cases h
      exact ⟨_, rfl, n, rfl, by omega, fun _ e => by cases e; omega⟩
    | i + 1, h => have h : (none : Option Ty) = some t := h; cases h
  · rintro e w' ⟨hb, o, ys, x, ho, _, _, hv, rfl⟩
    refine ⟨?_, hb⟩
    have ho : o ∈ [_] := ho
    rw [List.mem_singleton] at ho
    subst ho
    have h1 := one_prim (i2fV_den (c := c00) (hx ys)) hv
    obtain ⟨s, m, i, e1, _⟩ := near_read n h
    rw [sem_trunc (fun s' t' e => by rw [e1] at e; cases e)] at h1
    have h2 : FloatKind.f64.encode ((FloatKind.f64.decode (FloatKind.f64.nearest n)).integral .zero) = FloatKind.f64.nearest n := by
      obtain ⟨s, m, i, e1, s1, i1, _, _, m1⟩ := near_read n h
      show Ieee.double.write ((Ieee.double.read (FloatKind.f64.nearest n)).integral .zero) = _
      rw [e1]
      have e0 : i.toNat = 0 := by omega
      simp only [Ieee.Datum.integral, e0, Nat.shiftLeft_zero, cut_div]
      have e2 : m / 2 ^ (-i).toNat = n.natAbs := by rw [m1]; exact Nat.mul_div_cancel _ (Nat.two_pow_pos _)
      rw [e2, s1]; rfl
    rw [h2] at h1
    cases h1
    rfl
noncomputable def lemTrunc : Lem := ⟨[smallT], [], [], [i2fV (.var 0)], [⟨[], [], i2fV (.var 0)⟩]⟩
theorem lemTrunc_ok {c : Cfg} [COk c] (hP : c.P = Tryz.prog) : LemOk c 80 lemTrunc := by
  intro ρ w vals _ _ htys _ _ _ hargs
  obtain ⟨x, hx, n, rfl, h1, h2⟩ := htys 0 smallT rfl
  have h2 := h2 _ rfl
  have hv : den c.P c.Φ ρ (.var 0) = some (.int .i64 n) := by simp [den, D, hx, single]
  have : vals = [.float .f64 (FloatKind.f64.nearest n)] := by
    simp only [lemTrunc, chain, D, Option.bind_eq_some_iff, Option.map_eq_some_iff, Option.some.injEq] at hargs
    obtain ⟨us, ha, bs, rfl, rfl⟩ := hargs
    have h3 : D c.P c.Φ ρ (i2fV (.var 0)) = some us := by simpa [i2fV, D] using ha
    rw [D_of (i2fV_den hv)] at h3
    cases h3; rfl
  subst this
  rw [hP]
  refine (trunc_calls (by omega) w).mono ?_
  rintro e w' ⟨rfl, hb⟩
  refine ⟨hb, ⟨[], [], i2fV (.var 0)⟩, [], _, List.mem_singleton_self _, .nil, fun g (hg : g ∈ []) => (List.not_mem_nil hg).elim, ?_, rfl⟩
  have hv' : den c.P c.Φ (withNews ρ (lemTrunc.tys.length + lemTrunc.blks.length) []) (.var 0) = some (.int .i64 n) := by
    have : withNews ρ (lemTrunc.tys.length + lemTrunc.blks.length) [] 0 = some (.int .i64 n) := hx
    simp [den, D, this, single]
  have := i2fV_den hv'
  rw [hP] at this
  exact this

/-! ### strings.Index -/
noncomputable abbrev lenS (v : V) : V := .prim (.len 9) (.cons v .nil)
noncomputable abbrev shortS (v : V) : V × Bool := (lssV (.k (.int .i64 4096)) (lenS v), false)
noncomputable abbrev eqlV (a b : V) : V := .prim (.bin .eql 0 false) (.cons a (.cons b .nil))
noncomputable abbrev plusV (a b : V) : V := .prim (.bin .add 0 false) (.cons a (.cons b .nil))
noncomputable abbrev lessV (a b : V) : V := .prim (.bin .sub 0 false) (.cons a (.cons b .nil))
noncomputable abbrev partV (s a b : V) : V := .prim .sub (.cons s (.cons a (.cons b .nil)))
noncomputable abbrev kI (n : Int) : V := .k (.int .i64 n)
noncomputable abbrev L0 : V := lenS (.var 0)
noncomputable abbrev L1 : V := lenS (.var 1)
noncomputable def lemIndex : Lem := ⟨[.str, .str], [], [shortS (.var 0), shortS (.var 1)], [.var 0, .var 1],
  [⟨[], [(lssV L0 L1, true)], kI (-1)⟩,
   ⟨[], [(lssV L0 L1, false), (lssV (lessV L0 L1) (kI 0), false), (lssV L0 (lessV L0 L1), false), (eqlV (partV (.var 0) (kI 0) L1) (.var 1), false), (eqlV (partV (.var 0) (lessV L0 L1) L0) (.var 1), false)], kI (-1)⟩,
   ⟨[.int .i64 0 (some 4096)], [(lssV L0 (plusV (.var 2) L1), false), (lssV (plusV (.var 2) L1) (.var 2), false), (eqlV (partV (.var 0) (.var 2) (plusV (.var 2) L1)) (.var 1), true)], .var 2⟩]⟩
section
variable {c : Cfg} [COk c] {ρ : Env}
theorem var_den {n : Nat} {x : Value} (h : ρ n = some x) : den c.P c.Φ ρ (.var n) = some x := by simp [den, D, h, single]
theorem lenS_den (hP : c.P = Tryz.prog) {v : V} {s : ByteArray} (h : den c.P c.Φ ρ v = some (.string s)) : den c.P c.Φ ρ (lenS v) = some (.int .i64 s.size) := by
  have ht : c.P.underlying 9 = some .string := by rw [hP]; exact Tryz.underlying9
  refine den_prim_of (xs := [.string s]) (by simp [D, D_of h]) ?_ rfl
  show pureRun c.P (Builtin.len_ #[9] 0 #[.string s]) = _
  unfold Builtin.len_
  have e1 : pureRun c.P (underlying 9) = some .string := by
    unfold underlying; rw [pureRun_bind]; simp only [program, pureRun, Option.bind_some, ht]; rfl
  simp only [List.getElem?_toArray, List.getElem?_cons_zero]
  rw [pureRun_bind, e1]
  rfl
theorem eqlV_str {u v : V} {a b : ByteArray} (hu : den c.P c.Φ ρ u = some (.string a)) (hv : den c.P c.Φ ρ v = some (.string b)) : den c.P c.Φ ρ (eqlV u v) = some (.bool (decide (a = b))) := by
  have h : semPrim c.P (.bin .eql 0 false) [.string a, .string b] = some (.bool (a.toList == b.toList)) := by rw [semStr]; rfl
  have := eql_str (c := c) h
  rw [this] at h
  exact den_prim_of (D_two (D_of hu) (D_of hv)) h rfl
theorem partV_den {u v x : V} {s : ByteArray} {a b : Int} (hu : den c.P c.Φ ρ u = some (.string s)) (hv : den c.P c.Φ ρ v = some (.int .i64 a)) (hx : den c.P c.Φ ρ x = some (.int .i64 b)) : den c.P c.Φ ρ (partV u v x) = some (.string (s.extract a.toNat b.toNat)) :=
  den_prim_of (p := .sub) (D_three (D_of hu) (D_of hv) (D_of hx)) rfl rfl
theorem plusV_den {u v : V} {a b : Int} (hu : den c.P c.Φ ρ u = some (.int .i64 a)) (hv : den c.P c.Φ ρ v = some (.int .i64 b)) (h : (a + b).natAbs < 2 ^ 55) : den c.P c.Φ ρ (plusV u v) = some (.int .i64 (a + b)) := by
  have := den_prim_of (c := c) (p := .bin .add 0 false) (D_two (D_of hu) (D_of hv)) sem_add rfl
  rwa [wrap_i64 h] at this
theorem lessV_den {u v : V} {a b : Int} (hu : den c.P c.Φ ρ u = some (.int .i64 a)) (hv : den c.P c.Φ ρ v = some (.int .i64 b)) (h : (a - b).natAbs < 2 ^ 55) : den c.P c.Φ ρ (lessV u v) = some (.int .i64 (a - b)) := by
  have := den_prim_of (c := c) (p := .bin .sub 0 false) (D_two (D_of hu) (D_of hv)) sem_sub rfl
  rwa [wrap_i64 h] at this
end
theorem occ_part {s t : ByteArray} {i : Nat} (h : i + t.size ≤ s.size) : Lib.occAt s.data.toList t.data.toList i = decide (s.extract i (i + t.size) = t) := by
  have e : (s.extract i (i + t.size)).data.toList = (s.data.toList.drop i).take t.data.toList.length := by
    rw [ByteArray.data_extract, Array.toList_extract, List.extract_eq_take_drop, Nat.add_sub_cancel_left]
    rfl
  have e2 : (s.extract i (i + t.size) = t) ↔ (s.data.toList.drop i).take t.data.toList.length = t.data.toList := by
    rw [← e]
    constructor
    · intro h; rw [h]
    · intro h; exact ByteArray.ext (Array.ext' h)
  unfold Lib.occAt
  by_cases hp : t.data.toList <+: s.data.toList.drop i
  · rw [List.isPrefixOf_iff_prefix.2 hp]
    refine (decide_eq_true (e2.2 ?_)).symm
    exact (List.prefix_iff_eq_take.1 hp).symm
  · have : t.data.toList.isPrefixOf (s.data.toList.drop i) = false := by
      cases hb : t.data.toList.isPrefixOf (s.data.toList.drop i) with
      | false => rfl
      | true => exact absurd (List.isPrefixOf_iff_prefix.1 hb) hp
    rw [this]
    refine (decide_eq_false (fun h => hp ?_)).symm
    exact List.prefix_iff_eq_take.2 (e2.1 h).symm

theorem lemIndex_ok {c : Cfg} [COk c] (hP : c.P = Tryz.prog) (hi : ∀ w, c.inv w → maxLenIs w) : LemOk c 183 lemIndex := by
  intro ρ w vals hinv _ htys _ _ hpre hargs
  obtain ⟨x, hx, s, rfl⟩ := htys 0 .str rfl
  obtain ⟨y, hy, t, rfl⟩ := htys 1 .str rfl
  obtain ⟨m, hm⟩ := hi w hinv
  have hv0 := var_den (c := c) hx
  have hv1 := var_den (c := c) hy
  have : vals = [.string s, .string t] := by
    simp only [lemIndex, chain, D, hx, hy, Option.map_some, Option.bind_some, Option.some.injEq] at hargs
    exact hargs.symm
  subst this
  have bnd : ∀ {v : V} {u : ByteArray}, shortS v ∈ lemIndex.pre → den c.P c.Φ ρ v = some (.string u) → u.size ≤ 4096 := by
    intro v u hmem hv
    have := hpre (shortS v) hmem _ (lss_den (den_k ρ (.int .i64 4096)) (lenS_den hP hv))
    simp only [decide_eq_false_iff_not] at this
    omega
  have b0 := bnd (v := .var 0) (List.mem_cons_self ..) hv0
  have b1 := bnd (v := .var 1) (List.mem_cons_of_mem _ (List.mem_cons_self ..)) hv1
  rw [hP]
  refine (Tryz.strings_Index s t m w (by omega) hm).mono ?_
  rintro e w' ⟨rfl, rfl⟩
  refine ⟨Below.refl _ _, ?_⟩
  rcases Lib.index_spec s.data.toList t.data.toList with ⟨hn, hno⟩ | ⟨i, hn, hle, hocc, _⟩
  · rw [hn]
    have d0 : den c.P c.Φ (withNews ρ (lemIndex.tys.length + lemIndex.blks.length) []) (.var 0) = some (.string s) := var_den (c := c) (show withNews ρ (lemIndex.tys.length + lemIndex.blks.length) [] 0 = _ from hx)
    have d1 : den c.P c.Φ (withNews ρ (lemIndex.tys.length + lemIndex.blks.length) []) (.var 1) = some (.string t) := var_den (c := c) (show withNews ρ (lemIndex.tys.length + lemIndex.blks.length) [] 1 = _ from hy)
    have l0 := lenS_den hP d0
    have l1 := lenS_den hP d1
    by_cases hlt : s.size < t.size
    · refine ⟨_, [], _, List.mem_cons_self .., .nil, fun g hg => ?_, rfl, rfl⟩
      rw [List.mem_singleton] at hg; subst hg
      have := lss_den l0 l1
      rw [hP] at this
      rw [this, decide_eq_true (by omega)]
    · refine ⟨_, [], _, List.mem_cons_of_mem _ (List.mem_cons_self ..), .nil, fun g hg => ?_, rfl, rfl⟩
      have k0 : den c.P c.Φ (withNews ρ (lemIndex.tys.length + lemIndex.blks.length) []) (kI 0) = some (.int .i64 0) := den_k _ _
      have dd := lessV_den l0 l1 (by omega)
      simp only [List.mem_cons, List.not_mem_nil, or_false] at hg
      have occ : ∀ j, j + t.size ≤ s.size → s.extract j (j + t.size) ≠ t := by
        intro j hj he
        have h1 := hno j (by have : s.data.toList.length = s.size := rfl; omega)
        rw [occ_part hj] at h1
        exact of_decide_eq_false h1 he
      rcases hg with rfl | rfl | rfl | rfl | rfl
      · have := lss_den l0 l1
        rw [hP] at this
        rw [this, decide_eq_false (by omega)]
      · have := lss_den dd k0
        rw [hP] at this
        rw [this, decide_eq_false (by omega)]
      · have := lss_den l0 dd
        rw [hP] at this
        rw [this, decide_eq_false (by omega)]
      · have := eqlV_str (partV_den d0 k0 l1) d1
        rw [hP] at this
        rw [this, decide_eq_false]
        have h := occ 0 (by omega)
        rw [Nat.zero_add] at h
        exact h
      · have := eqlV_str (partV_den d0 dd l0) d1
        rw [hP] at this
        rw [this, decide_eq_false]
        have h := occ (s.size - t.size) (by omega)
        rw [show s.size - t.size + t.size = s.size by omega] at h
        rw [show ((s.size : Int) - (t.size : Int)).toNat = s.size - t.size by omega]
        exact h
  · rw [hn]
    have hroom := Lib.index_room s.data.toList t.data.toList (by rw [hn]; omega)
    rw [hn] at hroom
    have hroom : i + t.size ≤ s.size := by
      have e1 : s.data.toList.length = s.size := rfl
      have e2 : t.data.toList.length = t.size := rfl
      omega
    have hw2 : withNews ρ (lemIndex.tys.length + lemIndex.blks.length) [.int .i64 i] 2 = some (.int .i64 i) := rfl
    have d0 : den c.P c.Φ (withNews ρ (lemIndex.tys.length + lemIndex.blks.length) [.int .i64 i]) (.var 0) = some (.string s) := var_den (c := c) (show withNews ρ (lemIndex.tys.length + lemIndex.blks.length) [.int .i64 i] 0 = _ from hx)
    have d1 : den c.P c.Φ (withNews ρ (lemIndex.tys.length + lemIndex.blks.length) [.int .i64 i]) (.var 1) = some (.string t) := var_den (c := c) (show withNews ρ (lemIndex.tys.length + lemIndex.blks.length) [.int .i64 i] 1 = _ from hy)
    have d2 := var_den (c := c) hw2
    have l0 := lenS_den hP d0
    have l1 := lenS_den hP d1
    have dd := plusV_den d2 l1 (by omega)
    refine ⟨_, [.int .i64 i], .int .i64 i, List.mem_cons_of_mem _ (List.mem_cons_of_mem _ (List.mem_cons_self ..)), .cons ⟨i, rfl, by omega, fun _ e => by cases e; omega⟩ .nil, fun g hg => ?_, by have := d2; rw [hP] at this; exact this, rfl⟩
    simp only [List.mem_cons, List.not_mem_nil, or_false] at hg
    rcases hg with rfl | rfl | rfl
    · have := lss_den l0 dd
      rw [hP] at this
      rw [this, decide_eq_false (by omega)]
    · have := lss_den dd d2
      rw [hP] at this
      rw [this, decide_eq_false (by omega)]
    · have := eqlV_str (partV_den d0 d2 dd) d1
      rw [hP] at this
      rw [this]
      have h := occ_part hroom
      rw [hocc] at h
      rw [show ((i : Int)).toNat = i by omega, show ((i : Int) + (t.size : Int)).toNat = i + t.size by omega, ← h]
end Go.Proofs.YtmmcdfmlpfjlhaaGreatDoor.Sx
