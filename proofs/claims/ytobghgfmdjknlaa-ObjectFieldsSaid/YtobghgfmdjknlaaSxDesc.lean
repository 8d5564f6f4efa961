/- Descriptors: what may be called, what is bare, booleans as values, two alike: the program's answers and the reference's, as named truths. -/
import Derived.Test.YtobghgfmdjknlaaSxRef
namespace Go.Proofs.Ytobghgfmdjknlaa.Sx
open Go Go.RowKit Ieee
set_option linter.unusedSectionVars false
set_option maxRecDepth 100000

/-- The cells of a value. -/
structure VC where
  k : Int
  n : Nat
  s : ByteArray
  r : Int
noncomputable def VC.may (v : VC) : Bool := mayV v.k v.n v.s v.r
noncomputable def VC.call (v : VC) : Bool := v.may && (v.k == 0 || v.k == 7 || v.k == 8)
noncomputable def VC.bare (v : VC) : Bool := v.may && v.k == 0
abbrev VC.cells (v : VC) : List Value := [.int .u8 v.k, .float .f64 v.n, .string v.s, .int .i64 v.r]
structure VC.Ok (v : VC) : Prop where
  k0 : 0 ≤ v.k
  k1 : v.k ≤ 255
  r0 : -9223372036854775808 ≤ v.r
  r1 : v.r ≤ 9223372036854775807
def iAt (xs : List Value) (i : Nat) : Int := match xs[i]? with | some (.int _ n) => n | _ => 0
def fAt (xs : List Value) (i : Nat) : Nat := match xs[i]? with | some (.float _ n) => n | _ => 0
def sAt (xs : List Value) (i : Nat) : ByteArray := match xs[i]? with | some (.string s) => s | _ => ⟨#[]⟩
def bAt (xs : List Value) (i : Nat) : Bool := match xs[i]? with | some (.bool b) => b | _ => false
def vcAt (xs : List Value) (i : Nat) : VC := ⟨iAt xs i, fAt xs (i + 1), sAt xs (i + 2), iAt xs (i + 3)⟩
def hasBit (h b : Nat) : Bool := h / b % 2 == 1
/-- May a descriptor be, by the truths told of its parts? -/
def wantD (h : Nat) (bs : List Bool) : Bool := (bif hasBit h 1 then at_ bs 0 else at_ bs 9) && (bif hasBit h 4 then at_ bs 2 else at_ bs 10) && (bif hasBit h 8 then at_ bs 4 else at_ bs 11) &&
  (!(at_ bs 6) || hasBit h 2) && (!(at_ bs 7) || hasBit h 16) && (!(at_ bs 8) || hasBit h 32)
noncomputable def dBits (v g s : VC) (W E C : Bool) : List Bool := [v.may, v.k == 0, g.call, g.k == 0, s.call, s.k == 0, W, E, C, v.bare, g.bare, s.bare]
noncomputable def validB (h : Nat) (v g s : VC) (W E C : Bool) : Bool := wantD h (dBits v g s W E C)
noncomputable def descΦ (xs : List Value) : Option Value := some (.bool (validB (iAt xs 0).toNat (vcAt xs 1) (vcAt xs 5) (vcAt xs 9) (bAt xs 13) (bAt xs 14) (bAt xs 15)))
noncomputable def boolΦ (xs : List Value) : Option Value := some (.float .f64 (bif bAt xs 0 then oneB else 0))
noncomputable def baseD : Base where
  Φ f xs := match f with
    | 0 => mayΦ xs
    | 1 => mayVΦ xs
    | 3 => some (.bool (vcAt xs 0).call)
    | 4 => some (.bool (vcAt xs 0).bare)
    | 5 => descΦ xs
    | 6 => boolΦ xs
    | _ => none
  appTy f ts := match f with
    | 0 => extFloat .bool ts
    | 1 => vTy ts
    | 3 | 4 | 5 => some .bool
    | 6 => some .f64
    | _ => none
  ok := by
    intro f ts t xs h hx
    split at h
    · exact mayΦ_ok h hx
    · exact mayVΦ_ok h hx
    · cases h; exact ⟨_, rfl, _, rfl⟩
    · cases h; exact ⟨_, rfl, _, rfl⟩
    · cases h; exact ⟨_, rfl, _, rfl⟩
    · cases h; exact ⟨_, rfl, _, rfl⟩
    · cases h
noncomputable abbrev cd0 : Cfg := cfgB baseD (fun _ => none) fun _ => none
noncomputable abbrev ts4 : List Ty := [u8T, .f64, .str, fullTy .i64]
noncomputable def sd1 := sumL [(14, lemsX cd0 [lemVal]), (23, lemsX cd0 [lemVal]), (34, lemsX cd0 [lemZero [.var 0, kF 0], lemYes [.var 0, .var 0]])]
noncomputable abbrev cd1 : Cfg := cfgB baseD sd1 fun _ => none
instance sokd1 : SAll cd1 := ⟨fun F hF => sumL_ok (c := cd1) rfl (fun x hx => by
  have hF : FOk cd0 F := hF
  simp only [List.mem_cons, List.not_mem_nil, or_false] at hx
  rcases hx with rfl | rfl | rfl
  · exact TrOk.cfg (c := cd0) (c' := cd1) rfl rfl (lemsX_tr hF (fun L hL => by simp only [List.mem_singleton] at hL; subst hL; exact lemVal_ok rfl rfl))
  · exact TrOk.cfg (c := cd0) (c' := cd1) rfl rfl (lemsX_tr hF (fun L hL => by simp only [List.mem_singleton] at hL; subst hL; exact lemRVal_ok rfl rfl))
  · exact TrOk.cfg (c := cd0) (c' := cd1) rfl rfl (lemsX_tr hF (fun L hL => by
      simp only [List.mem_cons, List.not_mem_nil, or_false] at hL
      rcases hL with rfl | rfl
      · exact lemX0_ok rfl rfl
      · exact lemXX_ok rfl)))⟩

/-! ### atoms of the four cells -/
noncomputable abbrev u8V (n : Int) : V := .k (.int .u8 n)
noncomputable def cAtoms : List V := [.app 1 vs4, opV .eql (.var 0) (u8V 0), opV .eql (.var 0) (u8V 7), opV .eql (.var 0) (u8V 8), opV .eql (.var 1) (kF 0), .app 0 (.cons (.var 1) .nil), opV .eql (.var 2) (.k (.string ⟨#[]⟩)), opV .eql (.var 3) (kI 0)]
noncomputable def cBits (v : VC) : List Bool := [v.may, v.k == 0, v.k == 7, v.k == 8, ordB v.n 0 == some .eq, mayB v.n, decide (v.s = ⟨#[]⟩), v.r == 0]
def cAx (bs : List Bool) : Bool := !(at_ bs 1) || (at_ bs 0 == (at_ bs 4 && at_ bs 5 && at_ bs 6 && at_ bs 7))
theorem cAx_ok (v : VC) : cAx (cBits v) = true := by
  have q : ∀ b0 b1 b2 b3 b4 b5 b6 b7 : Bool, cAx [b0, b1, b2, b3, b4, b5, b6, b7] = (!b1 || (b0 == (b4 && b5 && b6 && b7))) := fun _ _ _ _ _ _ _ _ => rfl
  unfold cBits
  rw [q]
  by_cases hk : v.k = 0
  · have : v.may = ((ordB v.n 0 == some .eq) && mayB v.n && decide (v.s = ⟨#[]⟩) && (v.r == 0)) := by
      unfold VC.may mayV wantV
      rw [if_pos (.inl hk)]; rfl
    rw [this]; simp
  · have : (v.k == 0) = false := by simpa using hk
    rw [this]; rfl
section
variable {c : Cfg} [COk c] {ρ : Env}
theorem eqlV_u8 {u : V} {n m : Int} (hu : den c.P c.Φ ρ u = some (.int .u8 n)) : den c.P c.Φ ρ (opV .eql u (u8V m)) = some (.bool (n == m)) := by
  refine den_prim_of (D_two (D_of hu) (D_of (den_k ρ _))) ?_ rfl
  rw [semInt rfl]; rfl
theorem D_four {i j l m : Nat} {a b d e : Value} (h0 : ρ i = some a) (h1 : ρ j = some b) (h2 : ρ l = some d) (h3 : ρ m = some e) : D c.P c.Φ ρ (chain [.var i, .var j, .var l, .var m]) = some [a, b, d, e] := by
  simp [chain, D, h0, h1, h2, h3]
theorem app_den {f : Nat} {a : V} {xs : List Value} {x : Value} (hd : D c.P c.Φ ρ a = some xs) (h : c.Φ f xs = some x) (hs : isScalar x = true) : den c.P c.Φ ρ (.app f a) = some x := by
  simp [den, D, hd, h, Option.filter, hs, single]
theorem cBits_den (h0Φ : c.Φ 0 = mayΦ) (h1Φ : c.Φ 1 = mayVΦ) {v : VC} (h0 : ρ 0 = some (.int .u8 v.k)) (h1 : ρ 1 = some (.float .f64 v.n)) (h2 : ρ 2 = some (.string v.s)) (h3 : ρ 3 = some (.int .i64 v.r)) :
    ∀ (i : Nat) (b : Bool) (x : V), (cBits v)[i]? = some b → cAtoms[i]? = some x → den c.P c.Φ ρ x = some (.bool b) := by
  have d0 := var_den (c := c) h0
  have d1 := var_den (c := c) h1
  have d2 := var_den (c := c) h2
  have d3 := var_den (c := c) h3
  intro i b x hb hx
  match i with
  | 0 => cases hb; cases hx; exact app_den (D_four h0 h1 h2 h3) (by rw [h1Φ]; rfl) rfl
  | 1 => cases hb; cases hx; exact eqlV_u8 d0
  | 2 => cases hb; cases hx; exact eqlV_u8 d0
  | 3 => cases hb; cases hx; exact eqlV_u8 d0
  | 4 => cases hb; cases hx; exact flt_den rfl d1 (den_k _ _) rfl
  | 5 => cases hb; cases hx; exact app_den (xs := [.float .f64 v.n]) (by simp [D, h1]) (by rw [h0Φ]; rfl) rfl
  | 6 => cases hb; cases hx; exact eqlV_str d2 (den_k _ _)
  | 7 => cases hb; cases hx; exact eqlV_int d3
  | k + 8 => cases hb
end
noncomputable def cLem (rows : List Row) : Lem := ⟨ts4, [], [], [.agg vs4], rows.map (rowOut .bool cAtoms)⟩
def calledRows : List Row := [([(0, true), (1, true)], .c true), ([(0, true), (2, true)], .c true), ([(0, true), (1, false), (2, false)], .a 3), ([(0, false)], .c false)]
def bareRows : List Row := [([(1, true), (6, true), (7, true), (4, true)], .a 5), ([(4, false)], .c false), ([(7, false)], .c false), ([(6, false)], .c false), ([(1, false)], .c false)]
theorem calledP_ok : LemOk cd1 15 (cLem calledRows) := lem_of_run (n := 100) (by kernel_rfl)
theorem calledR_ok : LemOk cd1 24 (cLem calledRows) := lem_of_run (n := 100) (by kernel_rfl)
theorem bareR_ok : LemOk cd1 21 (cLem bareRows) := lem_of_run (n := 100) (by kernel_rfl)
def wantCall (bs : List Bool) : Bool := at_ bs 0 && (at_ bs 1 || at_ bs 2 || at_ bs 3)
def wantBare (bs : List Bool) : Bool := at_ bs 0 && at_ bs 1
theorem calledTab : tabOk 8 cAx wantCall calledRows = true := by decide +kernel
theorem bareTab : tabOk 8 cAx wantBare bareRows = true := by decide +kernel
abbrev VC.val (v : VC) : Value := .agg #[.int .u8 v.k, .float .f64 v.n, .string v.s, .int .i64 v.r]
theorem cLem_calls {f : FuncId} {rows : List Row} {want : List Bool → Bool} (hL : LemOk cd1 f (cLem rows)) (htab : tabOk 8 cAx want rows = true) {v : VC} (hv : v.Ok) (w : World) :
    Calls Try.prog f #[v.val] w fun e w' => e = .returned (.bool (want (cBits v))) ∧ Below w.heap.size w w' := by
  refine rows_calls (c := cd1) (ρ := envL v.cells) (vals := [v.val]) hL rfl rfl rfl (.inl rfl) trivial (fun b hb => absurd hb (Nat.not_lt_zero b)) ?_ ?_ rfl rfl (cBits_den rfl rfl rfl rfl rfl rfl) (cAx_ok v) htab
  · intro i t hi
    match i, hi with
    | 0, hi => cases hi; exact ⟨_, rfl, v.k, rfl, hv.k0, fun _ e => by cases e; exact hv.k1⟩
    | 1, hi => cases hi; exact ⟨_, rfl, v.n, rfl⟩
    | 2, hi => cases hi; exact ⟨_, rfl, v.s, rfl⟩
    | 3, hi => cases hi; exact ⟨_, rfl, v.r, rfl, hv.r0, fun _ e => by cases e; exact hv.r1⟩
    | i + 4, hi => cases hi
  · intro i hi
    have hi : 4 ≤ i := hi
    match i, hi with
    | i + 4, _ => rfl
/-! ### forms of four cells -/
noncomputable def lemApp (a : Nat) : Lem := ⟨ts4, [], [], [.agg vs4], [⟨[], [], .app a vs4⟩]⟩
noncomputable def lemThree (a : Nat) : Lem := ⟨ts4, [], [], [.agg vs4], [⟨[], [(.app a vs4, true), (opV .eql (.var 0) (u8V 0), true), (opV .eql (.var 1) (kF 0), true), (opV .eql (.var 2) (.k (.string ⟨#[]⟩)), true), (opV .eql (.var 3) (kI 0), true)], .k (.bool true)⟩,
  ⟨[], [(.app a vs4, true), (opV .eql (.var 0) (u8V 0), false)], .k (.bool true)⟩, ⟨[], [(.app a vs4, false)], .k (.bool false)⟩]⟩
theorem ts4_ok {c : Cfg} {ρ : Env} (h : ∀ i t, ts4[i]? = some t → ∃ x, ρ i = some x ∧ hasTy x t) : ∃ v : VC, v.Ok ∧ ρ 0 = some (.int .u8 v.k) ∧ ρ 1 = some (.float .f64 v.n) ∧ ρ 2 = some (.string v.s) ∧ ρ 3 = some (.int .i64 v.r) := by
  obtain ⟨_, h0, k, rfl, k1, k2⟩ := h 0 u8T rfl
  obtain ⟨_, h1, n, rfl⟩ := h 1 .f64 rfl
  obtain ⟨_, h2, s, rfl⟩ := h 2 .str rfl
  obtain ⟨_, h3, r, rfl, r1, r2⟩ := h 3 (fullTy .i64) rfl
  exact ⟨⟨k, n, s, r⟩, ⟨k1, k2 _ rfl, r1, r2 _ rfl⟩, h0, h1, h2, h3⟩
theorem agg_arg {c : Cfg} [COk c] {ρ : Env} {v : VC} {vals : List Value} (h0 : ρ 0 = some (.int .u8 v.k)) (h1 : ρ 1 = some (.float .f64 v.n)) (h2 : ρ 2 = some (.string v.s)) (h3 : ρ 3 = some (.int .i64 v.r))
    (h : D c.P c.Φ ρ (chain [.agg vs4]) = some vals) : vals = [v.val] := by
  simp only [chain, D, h0, h1, h2, h3, Option.map_some, Option.bind_some, Option.some.injEq] at h
  exact h.symm
theorem lemApp_of {c : Cfg} [COk c] {f a : Nat} {g : VC → Bool} (hP : c.P = Try.prog) (hΦ : ∀ v : VC, c.Φ a v.cells = some (.bool (g v)))
    (h : ∀ {v : VC}, v.Ok → ∀ w : World, Calls Try.prog f #[v.val] w fun e w' => e = .returned (.bool (g v)) ∧ Below w.heap.size w w') : LemOk c f (lemApp a) := by
  intro ρ w vals _ _ htys _ _ _ hargs
  obtain ⟨v, hv, h0, h1, h2, h3⟩ := ts4_ok (c := c) htys
  obtain rfl := agg_arg (c := c) h0 h1 h2 h3 hargs
  have ha : den c.P c.Φ (withNews ρ ((lemApp a).tys.length + (lemApp a).blks.length) []) (.app a vs4) = some (.bool (g v)) := app_den (c := c) (D_four (c := c) h0 h1 h2 h3) (hΦ v) rfl
  rw [hP] at ha ⊢
  refine (h hv w).mono ?_
  rintro e w' ⟨rfl, hb⟩
  exact ⟨hb, ⟨[], [], .app a vs4⟩, [], .bool (g v), List.mem_singleton_self _, .nil, fun q (hg : q ∈ []) => (List.not_mem_nil hg).elim, ha, rfl⟩
theorem lemThree_of {c : Cfg} [COk c] {f a : Nat} {g : VC → Bool} (hP : c.P = Try.prog) (hΦ : ∀ v : VC, c.Φ a v.cells = some (.bool (g v))) (himp : ∀ v : VC, g v = true → v.may = true)
    (h : ∀ {v : VC}, v.Ok → ∀ w : World, Calls Try.prog f #[v.val] w fun e w' => e = .returned (.bool (g v)) ∧ Below w.heap.size w w') : LemOk c f (lemThree a) := by
  intro ρ w vals _ _ htys _ _ _ hargs
  obtain ⟨v, hv, h0, h1, h2, h3⟩ := ts4_ok (c := c) htys
  obtain rfl := agg_arg (c := c) h0 h1 h2 h3 hargs
  have ha : den c.P c.Φ (withNews ρ ((lemThree a).tys.length + (lemThree a).blks.length) []) (.app a vs4) = some (.bool (g v)) := app_den (c := c) (D_four (c := c) h0 h1 h2 h3) (hΦ v) rfl
  have hk : den c.P c.Φ (withNews ρ ((lemThree a).tys.length + (lemThree a).blks.length) []) (opV .eql (.var 0) (u8V 0)) = some (.bool (v.k == 0)) := eqlV_u8 (c := c) (var_den (c := c) h0)
  have hn : den c.P c.Φ (withNews ρ ((lemThree a).tys.length + (lemThree a).blks.length) []) (opV .eql (.var 1) (kF 0)) = some (.bool (ordB v.n 0 == some .eq)) := flt_den (c := c) rfl (var_den (c := c) h1) (den_k _ _) rfl
  have hs : den c.P c.Φ (withNews ρ ((lemThree a).tys.length + (lemThree a).blks.length) []) (opV .eql (.var 2) (.k (.string ⟨#[]⟩))) = some (.bool (decide (v.s = ⟨#[]⟩))) := eqlV_str (c := c) (var_den (c := c) h2) (den_k _ _)
  have hr : den c.P c.Φ (withNews ρ ((lemThree a).tys.length + (lemThree a).blks.length) []) (opV .eql (.var 3) (kI 0)) = some (.bool (v.r == 0)) := eqlV_int (c := c) (var_den (c := c) h3)
  rw [hP] at ha hk hn hs hr ⊢
  refine (h hv w).mono ?_
  rintro e w' ⟨rfl, hb⟩
  refine ⟨hb, ?_⟩
  cases hg : g v with
  | false =>
    rw [hg] at ha
    refine ⟨_, [], .bool false, List.mem_cons_of_mem _ (List.mem_cons_of_mem _ (List.mem_cons_self ..)), .nil, fun q hq => ?_, rfl, rfl⟩
    rw [List.mem_singleton] at hq; subst hq; exact ha
  | true =>
    rw [hg] at ha
    have hm := himp v hg
    cases hkz : (v.k == 0) with
    | false =>
      rw [hkz] at hk
      refine ⟨_, [], .bool true, List.mem_cons_of_mem _ (List.mem_cons_self ..), .nil, fun q hq => ?_, rfl, rfl⟩
      simp only [List.mem_cons, List.not_mem_nil, or_false] at hq
      rcases hq with rfl | rfl
      · exact ha
      · exact hk
    | true =>
      rw [hkz] at hk
      have hax := cAx_ok v
      have q : ∀ b0 b1 b2 b3 b4 b5 b6 b7 : Bool, cAx [b0, b1, b2, b3, b4, b5, b6, b7] = (!b1 || (b0 == (b4 && b5 && b6 && b7))) := fun _ _ _ _ _ _ _ _ => rfl
      unfold cBits at hax
      rw [q, hkz, hm] at hax
      simp only [Bool.not_true, Bool.false_or, beq_iff_eq] at hax
      have hax := hax.symm
      simp only [Bool.and_eq_true] at hax
      obtain ⟨⟨⟨a1, _⟩, a2⟩, a3⟩ := hax
      rw [a1] at hn
      rw [a2] at hs
      rw [a3] at hr
      refine ⟨_, [], .bool true, List.mem_cons_self .., .nil, fun q hq => ?_, rfl, rfl⟩
      simp only [List.mem_cons, List.not_mem_nil, or_false] at hq
      rcases hq with rfl | rfl | rfl | rfl | rfl
      · exact ha
      · exact hk
      · exact hn
      · exact hs
      · exact hr
theorem wantCall_bits (v : VC) : wantCall (cBits v) = v.call := rfl
theorem wantBare_bits (v : VC) : wantBare (cBits v) = v.bare := rfl
theorem VC.call_may (v : VC) (h : v.call = true) : v.may = true := by
  unfold VC.call at h; rw [Bool.and_eq_true] at h; exact h.1
section
variable {c : Cfg} [COk c]
theorem val3_ok (hP : c.P = Try.prog) (hΦ : c.Φ = baseD.Φ) : LemOk c 14 (lemThree 1) :=
  lemThree_of (g := VC.may) hP (fun v => by rw [hΦ]; rfl) (fun _ h => h) (fun hv w => vmay_calls hv.k0 hv.k1 hv.r0 hv.r1 w)
theorem call3_ok (hP : c.P = Try.prog) (hΦ : c.Φ = baseD.Φ) : LemOk c 15 (lemThree 3) :=
  lemThree_of (g := VC.call) hP (fun v => by rw [hΦ]; rfl) VC.call_may (fun hv w => cLem_calls (want := wantCall) calledP_ok calledTab hv w)
theorem callR_ok (hP : c.P = Try.prog) (hΦ : c.Φ = baseD.Φ) : LemOk c 24 (lemApp 3) :=
  lemApp_of (g := VC.call) hP (fun v => by rw [hΦ]; rfl) (fun hv w => cLem_calls (want := wantCall) calledR_ok calledTab hv w)
theorem bareR4_ok (hP : c.P = Try.prog) (hΦ : c.Φ = baseD.Φ) : LemOk c 21 (lemApp 4) :=
  lemApp_of (g := VC.bare) hP (fun v => by rw [hΦ]; rfl) (fun hv w => cLem_calls (want := wantBare) bareR_ok bareTab hv w)
end
/-! ### two alike, booleans -/
noncomputable def lemAlike : Lem := ⟨ts4, [], [], [.agg vs4, .agg vs4], [⟨[], [], .k (.bool true)⟩]⟩
theorem lemAlike_ok : LemOk cd1 27 lemAlike := lem_of_run (n := 100) (by kernel_rfl)
noncomputable abbrev boolV (x : V) : V := .agg (chain [u8V 2, x, .k (.string ⟨#[]⟩), kI 0])
noncomputable def lemBool2 : Lem := ⟨[.bool], [], [], [.var 0], [⟨[], [(.var 0, true)], boolV (kF oneB)⟩, ⟨[], [(.var 0, false)], boolV (kF 0)⟩]⟩
noncomputable def lemBool : Lem := ⟨[.bool], [], [], [.var 0], [⟨[], [], boolV (.app 6 (.cons (.var 0) .nil))⟩]⟩
theorem lemBoolP_ok : LemOk cd1 30 lemBool2 := lem_of_run (n := 100) (by kernel_rfl)
theorem lemBoolR_ok : LemOk cd1 25 lemBool2 := lem_of_run (n := 100) (by kernel_rfl)
theorem lemBool_of {f : FuncId} (h : LemOk cd1 f lemBool2) : LemOk cd1 f lemBool := by
  intro ρ w vals hi hl htys hb hd hp hargs
  obtain ⟨_, h0, b, rfl⟩ := htys 0 .bool rfl
  refine (h ρ w vals hi hl htys hb hd (fun g hg => by cases hg) hargs).mono ?_
  rintro e w' ⟨hbel, o, ys, x, ho, hys, hf, hv, rfl⟩
  have hyn : ys = [] := by
    simp only [lemBool2, List.mem_cons, List.not_mem_nil, or_false] at ho
    rcases ho with rfl | rfl <;> (cases hys; rfl)
  subst hyn
  have e0 : withNews ρ (lemBool2.tys.length + lemBool2.blks.length) [] 0 = some (.bool b) := h0
  have dv := var_den (c := cd1) e0
  have ha : den cd1.P cd1.Φ (withNews ρ (lemBool.tys.length + lemBool.blks.length) []) (.app 6 (.cons (.var 0) .nil)) = some (.float .f64 (bif b then oneB else 0)) :=
    app_den (c := cd1) (xs := [.bool b]) (by simp [D, show withNews ρ (lemBool.tys.length + lemBool.blks.length) [] 0 = some (.bool b) from h0]) rfl rfl
  have hagg : den cd1.P cd1.Φ (withNews ρ (lemBool.tys.length + lemBool.blks.length) []) (boolV (.app 6 (.cons (.var 0) .nil))) = some (.agg #[.int .u8 2, .float .f64 (bif b then oneB else 0), .string ⟨#[]⟩, .int .i64 0]) := by
    exact den_agg (xs := [.int .u8 2, .float .f64 (bif b then oneB else 0), .string ⟨#[]⟩, .int .i64 0]) (by simp only [denL, den_k, ha, Option.bind_some, Option.map_some])
  refine ⟨hbel, _, [], _, List.mem_singleton_self _, .nil, fun q (hg : q ∈ []) => (List.not_mem_nil hg).elim, hagg, ?_⟩
  simp only [lemBool2, List.mem_cons, List.not_mem_nil, or_false] at ho
  rcases ho with rfl | rfl
  · have := hf (.var 0, true) (by simp)
    rw [dv] at this
    simp only [Option.some.injEq, Value.bool.injEq] at this
    subst this
    simp [den, chain, D, single] at hv
    rw [← hv]; rfl
  · have := hf (.var 0, false) (by simp)
    rw [dv] at this
    simp only [Option.some.injEq, Value.bool.injEq] at this
    subst this
    simp [den, chain, D, single] at hv
    rw [← hv]; rfl
end Go.Proofs.Ytobghgfmdjknlaa.Sx
