/- The reference's questions about floats and values, told by the same truths as the program's; descriptors' parts. -/
import Derived.Test.YtobghgfmdjknlaaSxRefF
namespace Go.Proofs.Ytobghgfmdjknlaa.Sx
open Go Go.RowKit Ieee
set_option linter.unusedSectionVars false
set_option maxRecDepth 100000

/-! ### one float -/
noncomputable abbrev q1V : V := .prim .fquo (.cons (.k (.float .f64 oneB)) (.cons (.var 0) .nil))
noncomputable abbrev opV (op : BinOp) (a b : V) : V := .prim (.bin op 0 false) (.cons a (.cons b .nil))
noncomputable abbrev kF (b : Nat) : V := .k (.float .f64 b)
noncomputable def fAtoms : List V := [opV .eql (.var 0) (kF 0), opV .gtr q1V (kF 0), opV .eql q1V q1V, opV .eql q1V (kF 9218868437227405312), opV .lss q1V (kF 0), opV .geq (.var 0) (kF 14069245235905429503), opV .leq (.var 0) (kF 4845873199050653695), opV .eql (i2fV (.prim .f2i (.cons (.var 0) .nil))) (.var 0), .app 0 (.cons (.var 0) .nil)]
section
variable {c : Cfg} [COk c] {ρ : Env}
theorem fBits_den (hΦ : c.Φ 0 = mayΦ) {b : Nat} (h0 : ρ 0 = some (.float .f64 b)) : ∀ (i : Nat) (z : Bool) (v : V), (fBits b)[i]? = some z → fAtoms[i]? = some v → den c.P c.Φ ρ v = some (.bool z) := by
  have d0 := var_den (c := c) h0
  have dq : den c.P c.Φ ρ q1V = some (.float .f64 (inv1 b)) := den_prim_of (p := .fquo) (D_two (D_of (den_k ρ _)) (D_of d0)) rfl rfl
  have dc : den c.P c.Φ ρ (.prim .f2i (.cons (.var 0) .nil)) = some (.int .i64 (cutInt b)) := den_prim_of (p := .f2i) (xs := [.float .f64 b]) (by simp [D, h0]) rfl rfl
  intro i z v hb hv
  match i with
  | 0 => cases hb; cases hv; exact flt_den rfl d0 (den_k _ _) rfl
  | 1 => cases hb; cases hv; exact flt_den rfl dq (den_k _ _) rfl
  | 2 => cases hb; cases hv; exact flt_den rfl dq dq rfl
  | 3 => cases hb; cases hv; exact flt_den rfl dq (den_k _ _) rfl
  | 4 => cases hb; cases hv; exact flt_den rfl dq (den_k _ _) rfl
  | 5 => cases hb; cases hv; exact flt_den rfl d0 (den_k _ _) rfl
  | 6 => cases hb; cases hv; exact flt_den rfl d0 (den_k _ _) rfl
  | 7 => cases hb; cases hv; exact flt_den rfl (i2fV_den dc) d0 rfl
  | 8 =>
    cases hb; cases hv
    simp [den, D, h0, hΦ, mayΦ, Option.filter, isScalar, single]
  | k + 9 => cases hb
end
instance sokv0 : SAll cv0 := ⟨fun _ _ => ⟨fun _ _ h => by cases h⟩⟩
noncomputable def fLem (args : List V) (rows : List Row) : Lem := ⟨[.num], [], [], args, rows.map (rowOut .bool fAtoms)⟩
noncomputable def nLem (args : List V) (b : Bool) : Lem := ⟨[.nan], [], [], args, [⟨[], [], .k (.bool b)⟩]⟩
def mayRows : List Row := [([(5, true), (6, false)], .c false), ([(5, true), (6, true), (7, false)], .c false), ([(5, true), (6, true), (7, true), (0, true), (4, true)], .c false), ([(5, true), (6, true), (7, true), (0, true), (4, false)], .c true), ([(5, true), (6, true), (7, true), (0, false)], .c true), ([(5, false)], .c false)]
def noughtRows : List Row := [([(0, true)], .a 1), ([(0, false)], .c false)]
def xxRows : List Row := [([(0, false)], .c true), ([(0, true)], .a 2)]
def x0Rows : List Row := [([(0, true)], .a 3), ([(0, false)], .c false)]
theorem rMay_ok : LemOk cv0 32 (fLem [.var 0] mayRows) := lem_of_run (n := 100) (by kernel_rfl)
theorem rMayN_ok : LemOk cv0 32 (nLem [.var 0] true) := lem_of_run (n := 100) (by kernel_rfl)
theorem rNought_ok : LemOk cv0 31 (fLem [.var 0] noughtRows) := lem_of_run (n := 100) (by kernel_rfl)
theorem rNoughtN_ok : LemOk cv0 31 (nLem [.var 0] false) := lem_of_run (n := 100) (by kernel_rfl)
theorem rXX_ok : LemOk cv0 34 (fLem [.var 0, .var 0] xxRows) := lem_of_run (n := 100) (by kernel_rfl)
theorem rXXN_ok : LemOk cv0 34 (nLem [.var 0, .var 0] true) := lem_of_run (n := 100) (by kernel_rfl)
theorem rX0_ok : LemOk cv0 34 (fLem [.var 0, kF 0] x0Rows) := lem_of_run (n := 100) (by kernel_rfl)
theorem rX0N_ok : LemOk cv0 34 (nLem [.var 0, kF 0] false) := lem_of_run (n := 100) (by kernel_rfl)
def wantMay (bs : List Bool) : Bool := at_ bs 8
def wantZero (bs : List Bool) : Bool := at_ bs 0 && at_ bs 8
theorem ftabMay : tabOk 9 fAx wantMay mayRows = true := by decide +kernel
theorem ftabNought : tabOk 9 fAx wantZero noughtRows = true := by decide +kernel
theorem ftabXX : tabOk 9 fAx (fun _ => true) xxRows = true := by decide +kernel
theorem ftabX0 : tabOk 9 fAx wantZero x0Rows = true := by decide +kernel
/-- A question about one float, of every float. -/
theorem flt_calls {f : FuncId} {args : List V} {rows : List Row} {want : List Bool → Bool} {nb : Bool} (hL : LemOk cv0 f (fLem args rows)) (hN : LemOk cv0 f (nLem args nb)) (htab : tabOk 9 fAx want rows = true)
    (hnan : ∀ b s t, Ieee.double.read b = .nan s t → want (fBits b) = nb) {b : Nat} {vals : List Value} (hargs : D cv0.P cv0.Φ (envL [.float .f64 b]) (chain args) = some vals) (w : World) :
    Calls Try.prog f vals.toArray w fun e w' => e = .returned (.bool (want (fBits b))) ∧ Below w.heap.size w w' := by
  have hρ : ∀ i, 1 ≤ i → envL [.float .f64 b] i = none := by
    intro i hi
    match i, hi with
    | i + 1, _ => rfl
  by_cases hn : ∃ s t, Ieee.double.read b = .nan s t
  · obtain ⟨s, t, hst⟩ := hn
    rw [hnan b s t hst]
    refine (hN (envL [.float .f64 b]) w vals trivial (fun b hb => absurd hb (Nat.not_lt_zero b)) (fun i t' h => ?_) (fun j cs T h => by cases h) (fun j j' b h => absurd h (Nat.not_lt_zero j)) (fun g hg => by cases hg) hargs).mono ?_
    · match i, h with
      | 0, h => cases h; exact ⟨_, rfl, b, s, t, rfl, hst⟩
      | i + 1, h => cases h
    · rintro e w' ⟨hb, o, ys, x, ho, _, _, hv, rfl⟩
      have ho : o ∈ [_] := ho
      rw [List.mem_singleton] at ho
      subst ho
      simp only [den_k, Option.some.injEq] at hv
      exact ⟨by rw [hv], hb⟩
  · have hnum : ∀ s t, Ieee.double.read b ≠ .nan s t := fun s t h => hn ⟨s, t, h⟩
    refine rows_calls (c := cv0) (ρ := envL [.float .f64 b]) hL rfl rfl rfl (.inl rfl) trivial (fun b hb => absurd hb (Nat.not_lt_zero b)) (fun i t h => ?_) hρ hargs rfl (fBits_den rfl rfl) (fAx_ok hnum) htab
    match i, h with
    | 0, h => cases h; exact ⟨_, rfl, b, rfl, hnum⟩
    | i + 1, h => cases h
theorem nan_ord {b x : Nat} {s : Bool} {t : Nat} (h : Ieee.double.read b = .nan s t) : ordB b x = none := by
  show (Ieee.double.read b).order _ = none
  rw [h]; rfl
theorem wantMay_bits (b : Nat) : wantMay (fBits b) = mayB b := rfl
theorem wantZero_bits (b : Nat) : wantZero (fBits b) = ((ordB b 0 == some .eq) && mayB b) := rfl
theorem rMay_calls (b : Nat) (w : World) : Calls Try.prog 32 #[.float .f64 b] w fun e w' => e = .returned (.bool (mayB b)) ∧ Below w.heap.size w w' :=
  flt_calls (want := wantMay) rMay_ok rMayN_ok ftabMay (fun b s t h => mayB_true (.inl ⟨s, t, h⟩)) rfl w
theorem rNought_calls (b : Nat) (w : World) : Calls Try.prog 31 #[.float .f64 b] w fun e w' => e = .returned (.bool ((ordB b 0 == some .eq) && mayB b)) ∧ Below w.heap.size w w' :=
  flt_calls (want := wantZero) rNought_ok rNoughtN_ok ftabNought (fun b s t h => by rw [wantZero_bits, nan_ord h]; rfl) rfl w
theorem rXX_calls (b : Nat) (w : World) : Calls Try.prog 34 #[.float .f64 b, .float .f64 b] w fun e w' => e = .returned (.bool true) ∧ Below w.heap.size w w' :=
  flt_calls (want := fun _ => true) rXX_ok rXXN_ok ftabXX (fun _ _ _ _ => rfl) rfl w
theorem rX0_calls (b : Nat) (w : World) : Calls Try.prog 34 #[.float .f64 b, .float .f64 0] w fun e w' => e = .returned (.bool ((ordB b 0 == some .eq) && mayB b)) ∧ Below w.heap.size w w' :=
  flt_calls (want := wantZero) rX0_ok rX0N_ok ftabX0 (fun b s t h => by rw [wantZero_bits, nan_ord h]; rfl) rfl w

/-! ### their forms -/
noncomputable abbrev isZ : V := opV .eql (.var 0) (kF 0)
noncomputable def lemZero (args : List V) : Lem := ⟨[.f64], [], [], args, [⟨[], [(isZ, true)], .app 0 (.cons (.var 0) .nil)⟩, ⟨[], [(isZ, false)], .k (.bool false)⟩]⟩
noncomputable def lemYes (args : List V) : Lem := ⟨[.f64], [], [], args, [⟨[], [], .k (.bool true)⟩]⟩
section
variable {c : Cfg} [COk c]
theorem lemZero_of {f : FuncId} {args : List V} {mk : Nat → List Value} (hP : c.P = Try.prog) (hΦ : c.Φ 0 = mayΦ) (hargs : ∀ (ρ : Env) (b : Nat) (vals : List Value), ρ 0 = some (.float .f64 b) → D c.P c.Φ ρ (chain args) = some vals → vals = mk b)
    (h : ∀ (b : Nat) (w : World), Calls Try.prog f (mk b).toArray w fun e w' => e = .returned (.bool ((ordB b 0 == some .eq) && mayB b)) ∧ Below w.heap.size w w') : LemOk c f (lemZero args) := by
  intro ρ w vals _ _ htys _ _ _ hv
  obtain ⟨_, h0, b, rfl⟩ := htys 0 .f64 rfl
  obtain rfl := hargs ρ b vals h0 hv
  rw [hP]
  refine (h b w).mono ?_
  rintro e w' ⟨rfl, hb⟩
  refine ⟨hb, ?_⟩
  have e0 : withNews ρ ((lemZero args).tys.length + (lemZero args).blks.length) [] 0 = some (.float .f64 b) := h0
  have hz : den c.P c.Φ (withNews ρ ((lemZero args).tys.length + (lemZero args).blks.length) []) isZ = some (.bool (ordB b 0 == some .eq)) := flt_den rfl (var_den e0) (den_k _ _) rfl
  have hm : den c.P c.Φ (withNews ρ ((lemZero args).tys.length + (lemZero args).blks.length) []) (.app 0 (.cons (.var 0) .nil)) = some (.bool (mayB b)) := by
    simp [den, D, e0, hΦ, mayΦ, Option.filter, isScalar, single]
  rw [hP] at hz hm
  cases hq : (ordB b 0 == some .eq) with
  | true =>
    rw [hq] at hz
    refine ⟨_, [], .bool (mayB b), List.mem_cons_self .., .nil, fun g hg => ?_, hm, by rw [Bool.true_and]⟩
    rw [List.mem_singleton] at hg; subst hg; exact hz
  | false =>
    rw [hq] at hz
    refine ⟨_, [], .bool false, List.mem_cons_of_mem _ (List.mem_cons_self ..), .nil, fun g hg => ?_, rfl, by rw [Bool.false_and]⟩
    rw [List.mem_singleton] at hg; subst hg; exact hz
theorem lemNought_ok (hP : c.P = Try.prog) (hΦ : c.Φ 0 = mayΦ) : LemOk c 31 (lemZero [.var 0]) :=
  lemZero_of (mk := fun b => [.float .f64 b]) hP hΦ (fun ρ b vals h0 hv => by
    simp only [chain, D, h0, Option.map_some, Option.bind_some, Option.some.injEq] at hv
    exact hv.symm) rNought_calls
theorem lemX0_ok (hP : c.P = Try.prog) (hΦ : c.Φ 0 = mayΦ) : LemOk c 34 (lemZero [.var 0, kF 0]) :=
  lemZero_of (mk := fun b => [.float .f64 b, .float .f64 0]) hP hΦ (fun ρ b vals h0 hv => by
    simp only [chain, D, h0, Option.map_some, Option.bind_some, Option.some.injEq] at hv
    exact hv.symm) rX0_calls
theorem lemXX_ok (hP : c.P = Try.prog) : LemOk c 34 (lemYes [.var 0, .var 0]) := by
  intro ρ w vals _ _ htys _ _ _ hv
  obtain ⟨_, h0, b, rfl⟩ := htys 0 .f64 rfl
  have : vals = [.float .f64 b, .float .f64 b] := by
    simp only [lemYes, chain, D, h0, Option.map_some, Option.bind_some, Option.some.injEq] at hv
    exact hv.symm
  subst this
  rw [hP]
  refine (rXX_calls b w).mono ?_
  rintro e w' ⟨rfl, hb⟩
  exact ⟨hb, ⟨[], [], .k (.bool true)⟩, [], .bool true, List.mem_singleton_self _, .nil, fun g (hg : g ∈ []) => (List.not_mem_nil hg).elim, rfl, rfl⟩
end
theorem lemRMay_ok {c : Cfg} (hP : c.P = Try.prog) (hΦ : c.Φ 0 = mayΦ) : LemOk c 32 lemMay := by
  intro ρ w vals _ _ htys _ _ _ hargs
  obtain ⟨x, hx, b, rfl⟩ := htys 0 .f64 rfl
  have : vals = [.float .f64 b] := by
    simp only [lemMay, chain, D, hx, Option.map_some, Option.bind_some, Option.some.injEq] at hargs
    exact hargs.symm
  subst this
  rw [hP]
  refine (rMay_calls b w).mono ?_
  rintro e w' ⟨rfl, hb⟩
  refine ⟨hb, ⟨[], [], .app 0 (.cons (.var 0) .nil)⟩, [], .bool (mayB b), List.mem_singleton_self _, .nil, fun g (hg : g ∈ []) => (List.not_mem_nil hg).elim, ?_, rfl⟩
  have h1 : withNews ρ (lemMay.tys.length + lemMay.blks.length) [] 0 = some (.float .f64 b) := hx
  simp [den, D, h1, hΦ, mayΦ, Option.filter, isScalar, single]

/-! ### one value -/
noncomputable def sr1 := sumL [(32, lemsX cv0 [lemMay]), (31, lemsX cv0 [lemZero [.var 0]])]
theorem rMayTr (c : Cfg) (hP : c.P = Try.prog) (hΦ : c.Φ = baseVal.Φ) (F : Wd) (hF : FOk cv0 F) : TrOk c F 32 (lemsX cv0 [lemMay]) :=
  TrOk.cfg (c := cv0) (c' := c) hP.symm hΦ.symm (lemsX_tr hF (fun L hL => by
    simp only [List.mem_singleton] at hL; subst hL; exact lemRMay_ok rfl rfl))
theorem rNoughtTr (c : Cfg) (hP : c.P = Try.prog) (hΦ : c.Φ = baseVal.Φ) (F : Wd) (hF : FOk cv0 F) : TrOk c F 31 (lemsX cv0 [lemZero [.var 0]]) :=
  TrOk.cfg (c := cv0) (c' := c) hP.symm hΦ.symm (lemsX_tr hF (fun L hL => by
    simp only [List.mem_singleton] at hL; subst hL; exact lemNought_ok rfl rfl))
theorem rSameTr (c : Cfg) (hP : c.P = Try.prog) (hΦ : c.Φ = baseVal.Φ) (F : Wd) (hF : FOk cv0 F) : TrOk c F 34 (lemsX cv0 [lemZero [.var 0, kF 0], lemYes [.var 0, .var 0]]) :=
  TrOk.cfg (c := cv0) (c' := c) hP.symm hΦ.symm (lemsX_tr hF (fun L hL => by
    simp only [List.mem_cons, List.not_mem_nil, or_false] at hL
    rcases hL with rfl | rfl
    · exact lemX0_ok rfl rfl
    · exact lemXX_ok rfl))
/-- value.May's rows hold in one configuration; the reference's in another: the same truths. -/
noncomputable abbrev cr1 : Cfg := cfgB baseVal sr1 fun _ => none
instance sokr1 : SAll cr1 := ⟨fun F hF => sumL_ok (c := cr1) rfl (fun x hx => by
  simp only [List.mem_cons, List.not_mem_nil, or_false] at hx
  rcases hx with rfl | rfl
  · exact rMayTr cr1 rfl rfl F hF
  · exact rNoughtTr cr1 rfl rfl F hF)⟩
def rr01 : List Row := [([(3, true), (4, true), (5, true), (6, true)], .c true), ([(3, false)], .c false), ([(4, false)], .c false), ([(5, false)], .c false), ([(6, false)], .c false)]
def rr2 : List Row := [([(3, true), (4, true), (5, true), (6, true)], .c true), ([(2, true), (5, true), (6, true)], .c true), ([(5, false)], .c false), ([(6, false)], .c false), ([(2, false), (4, false)], .c false), ([(2, false), (3, false)], .c false)]
def rr3 : List Row := [([(4, true), (5, true), (6, true)], .c true), ([(4, false)], .c false), ([(5, false)], .c false), ([(6, false)], .c false)]
def rr4 : List Row := [([(3, true), (4, true), (5, true), (6, true)], .c true), ([(3, true), (4, true), (6, true), (1, false)], .c true), ([(3, false)], .c false), ([(4, false)], .c false), ([(6, false)], .c false), ([(1, true)], .c false)]
def rr5 : List Row := [([(3, true), (4, true), (5, true), (6, true)], .c true), ([(3, true), (4, true), (5, true), (6, false)], .a 7), ([(3, false)], .c false), ([(4, false)], .c false), ([(5, false)], .c false)]
theorem rLem0_ok : LemOk cr1 23 (vLem 0 rr01) := lem_of_run (n := 200) (by kernel_rfl)
theorem rLem1_ok : LemOk cr1 23 (vLem 1 rr01) := lem_of_run (n := 200) (by kernel_rfl)
theorem rLem2_ok : LemOk cr1 23 (vLem 2 rr2) := lem_of_run (n := 200) (by kernel_rfl)
theorem rLem3_ok : LemOk cr1 23 (vLem 3 rr3) := lem_of_run (n := 200) (by kernel_rfl)
theorem rLem4_ok : LemOk cr1 23 (vLem 4 rr4) := lem_of_run (n := 200) (by kernel_rfl)
theorem rLem5_ok : LemOk cr1 23 (vLem 5 rr5) := lem_of_run (n := 200) (by kernel_rfl)
theorem rLem6_ok : LemOk cr1 23 (vLem 6 rr5) := lem_of_run (n := 200) (by kernel_rfl)
theorem rLem7_ok : LemOk cr1 23 (vLem 7 rr5) := lem_of_run (n := 200) (by kernel_rfl)
theorem rLem8_ok : LemOk cr1 23 (vLem 8 rr5) := lem_of_run (n := 200) (by kernel_rfl)
theorem rLem9_ok : LemOk cr1 23 vLem9 := lem_of_run (n := 200) (by kernel_rfl)
theorem rtab01 : tabOk 8 vAx want01 rr01 = true := by decide +kernel
theorem rtab2 : tabOk 8 vAx want2 rr2 = true := by decide +kernel
theorem rtab3 : tabOk 8 vAx want3 rr3 = true := by decide +kernel
theorem rtab4 : tabOk 8 vAx want4 rr4 = true := by decide +kernel
theorem rtab5 : tabOk 8 vAx want5 rr5 = true := by decide +kernel
theorem LemOk.cfg {c c' : Cfg} {f : FuncId} {L : Lem} (hP : c.P = c'.P) (hΦ : c.Φ = c'.Φ) (hi : ∀ w, c'.inv w → c.inv w) (hl : c.low = c'.low) (h : LemOk c f L) : LemOk c' f L := by
  unfold LemOk at h ⊢
  rw [← hP, ← hΦ, ← hl]
  exact fun ρ w vals hinv => h ρ w vals (hi w hinv)
theorem toV1 {f : FuncId} {L : Lem} (h : LemOk cr1 f L) : LemOk cv1 f L := h.cfg rfl rfl (fun _ h => h) rfl
theorem rvmay_calls {k : Int} {n : Nat} {s : ByteArray} {r : Int} (hk : 0 ≤ k) (hk2 : k ≤ 255) (hr : -9223372036854775808 ≤ r) (hr2 : r ≤ 9223372036854775807) (w : World) :
    Calls Try.prog 23 #[valueW k n s r] w fun e w' => e = .returned (.bool (mayV k n s r)) ∧ Below w.heap.size w w' :=
  may_of_rows (toV1 rLem0_ok) (toV1 rLem1_ok) (toV1 rLem2_ok) (toV1 rLem3_ok) (toV1 rLem4_ok) (toV1 rLem5_ok) (toV1 rLem6_ok) (toV1 rLem7_ok) (toV1 rLem8_ok) (toV1 rLem9_ok) rtab01 rtab2 rtab3 rtab4 rtab5 hk hk2 hr hr2 w
theorem lemRVal_ok {c : Cfg} (hP : c.P = Try.prog) (hΦ : c.Φ 1 = mayVΦ) : LemOk c 23 lemVal := lemVal_of hP hΦ rvmay_calls
end Go.Proofs.Ytobghgfmdjknlaa.Sx
