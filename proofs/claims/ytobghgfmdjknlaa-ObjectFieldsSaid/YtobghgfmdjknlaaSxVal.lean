/- value.May at this seat: it answers yes at just the values of the kinds' own forms; the truth number 1. -/
import Derived.Test.YtobghgfmdjknlaaSxMay
namespace Go.Proofs.Ytobghgfmdjknlaa.Sx
open Go Go.RowKit
set_option linter.unusedSectionVars false

/-! ### outcomes told by numbered atoms, each a truth -/
inductive RV where
  | c (b : Bool)
  | a (i : Nat)
abbrev Row := List (Nat × Bool) × RV
noncomputable def atomAt (atoms : List V) (i : Nat) : V := (atoms[i]?).getD .nil
noncomputable def rowOut (mk : Bool → Value) (atoms : List V) (r : Row) : Out := ⟨[], r.1.map fun g => (atomAt atoms g.1, g.2), match r.2 with | .c b => .k (mk b) | .a i => atomAt atoms i⟩
def okF (bs : List Bool) (g : Nat × Bool) : Bool := match bs[g.1]? with
  | some b => b == g.2
  | none => true
def okR (bs : List Bool) (r : Row) : Bool := r.1.all (okF bs)
def rvB (bs : List Bool) : RV → Option Bool
  | .c b => some b
  | .a i => bs[i]?
def bools : Nat → List (List Bool)
  | 0 => [[]]
  | n + 1 => (bools n).flatMap fun l => [true :: l, false :: l]
theorem mem_bools : ∀ l : List Bool, l ∈ bools l.length
  | [] => by simp [bools]
  | b :: r => by
    simp only [List.length_cons, bools, List.mem_flatMap]
    exact ⟨r, mem_bools r, by cases b <;> simp⟩
def tabOk (n : Nat) (ax want : List Bool → Bool) (rows : List Row) : Bool := (bools n).all fun bs => !(ax bs) || rows.all fun r => !(okR bs r) || (rvB bs r.2 == some (want bs))
def noA (rows : List Row) : Bool := rows.all fun r => match r.2 with | .c _ => true | .a _ => false
theorem rows_calls {c : Cfg} {f : FuncId} {mk : Bool → Value} {atoms : List V} {rows : List Row} {L : Lem} {ρ : Env} {w : World} {vals : List Value} (hL : LemOk c f L) (hb : L.blks = []) (ho : L.outs = rows.map (rowOut mk atoms)) (hp : L.pre = [])
    (hmk : mk = Value.bool ∨ noA rows = true) (hinv : c.inv w) (hlow : ∀ b, b < c.low → b < w.heap.size) (htys : ∀ i t, L.tys[i]? = some t → ∃ x, ρ i = some x ∧ hasTy x t) (hρ : ∀ i, L.tys.length ≤ i → ρ i = none)
    (hargs : D c.P c.Φ ρ (chain L.args) = some vals) {bs : List Bool} {ax want : List Bool → Bool} (hlen : bs.length = atoms.length) (hat : ∀ (i : Nat) (b : Bool) (v : V), bs[i]? = some b → atoms[i]? = some v → den c.P c.Φ ρ v = some (.bool b))
    (hax : ax bs = true) (htab : tabOk bs.length ax want rows = true) : Calls c.P f vals.toArray w fun e w' => e = .returned (mk (want bs)) ∧ Below w.heap.size w w' := by
  refine (hL ρ w vals hinv hlow htys (fun j cs T h => by rw [hb] at h; cases h) (fun j j' b h => by rw [hb] at h; exact absurd h (Nat.not_lt_zero j)) (fun g hg => by rw [hp] at hg; cases hg) hargs).mono ?_
  rintro e w' ⟨hbel, o, ys, x, hoo, hys, hf, hv, rfl⟩
  rw [ho, List.mem_map] at hoo
  obtain ⟨r, hr, rfl⟩ := hoo
  have hyn : ys = [] := by cases hys; rfl
  subst hyn
  have hρ' : withNews ρ (L.tys.length + L.blks.length) [] = ρ := by
    funext i
    unfold withNews
    rw [hb, List.length_nil, Nat.add_zero]
    by_cases h : i < L.tys.length
    · rw [show Nat.blt i L.tys.length = true from Nat.ble_eq_true_of_le h]; rfl
    · have : Nat.blt i L.tys.length = false := by
        cases hh : Nat.blt i L.tys.length with
        | false => rfl
        | true => exact absurd (Nat.le_of_ble_eq_true hh) h
      rw [this, hρ i (by omega)]; simp
  rw [hρ'] at hf hv
  have hok : okR bs r = true := by
    unfold okR
    rw [List.all_eq_true]
    intro g hg
    unfold okF
    cases hbs : bs[g.1]? with
    | none => rfl
    | some b =>
      have hlt : g.1 < atoms.length := by rw [← hlen]; exact (List.getElem?_eq_some_iff.1 hbs).1
      have ha : atoms[g.1]? = some atoms[g.1] := List.getElem?_eq_getElem hlt
      have h1 := hat g.1 b _ hbs ha
      have h2 := hf (atomAt atoms g.1, g.2) (List.mem_map.2 ⟨g, hg, rfl⟩)
      simp only [atomAt, ha, Option.getD_some] at h2
      rw [h1] at h2
      simp only [Option.some.injEq, Value.bool.injEq] at h2
      simp [h2]
  have ht : rvB bs r.2 = some (want bs) := by
    unfold tabOk at htab
    rw [List.all_eq_true] at htab
    have := htab bs (mem_bools bs)
    rw [hax] at this
    simp only [Bool.not_true, Bool.false_or, List.all_eq_true] at this
    have := this r hr
    rw [hok] at this
    simpa using this
  refine ⟨?_, hbel⟩
  congr 1
  cases hr2 : r.2 with
  | c b =>
    simp only [rowOut, hr2, den_k, Option.some.injEq] at hv
    rw [hr2] at ht
    simp only [rvB, Option.some.injEq] at ht
    rw [← hv, ht]
  | a i =>
    rw [hr2] at ht
    simp only [rvB] at ht
    have hlt : i < atoms.length := by rw [← hlen]; exact (List.getElem?_eq_some_iff.1 ht).1
    have ha : atoms[i]? = some atoms[i] := List.getElem?_eq_getElem hlt
    have h1 := hat i _ _ ht ha
    simp only [rowOut, hr2, atomAt, ha, Option.getD_some] at hv
    rw [h1] at hv
    simp only [Option.some.injEq] at hv
    rcases hmk with rfl | h
    · exact hv.symm
    · unfold noA at h
      rw [List.all_eq_true] at h
      have := h r hr
      rw [hr2] at this
      cases this

/-! ### atoms of a value's cells -/
noncomputable abbrev lenS (v : V) : V := .prim (.len 9) (.cons v .nil)
noncomputable abbrev eqlV (a b : V) : V := .prim (.bin .eql 0 false) (.cons a (.cons b .nil))
noncomputable abbrev kI (n : Int) : V := .k (.int .i64 n)
abbrev oneB : Nat := 4607182418800017408
noncomputable def vAtoms : List V := [lssV (.var 2) (kI 0), lssV (kI 4096) (lenS (.var 1)), eqlV (.var 0) (.k (.float .f64 oneB)), eqlV (.var 0) (.k (.float .f64 0)), .app 0 (.cons (.var 0) .nil), eqlV (.var 1) (.k (.string ⟨#[]⟩)), eqlV (.var 2) (kI 0), lssV (kI 0) (.var 2)]
noncomputable def vBits (n : Nat) (s : ByteArray) (r : Int) : List Bool := [decide (r < 0), decide ((4096 : Int) < s.size), FloatKind.f64.format.order n oneB == some .eq, FloatKind.f64.format.order n 0 == some .eq, mayB n, decide (s = ⟨#[]⟩), r == 0, decide (0 < r)]
def at_ (bs : List Bool) (i : Nat) : Bool := bs[i]?.getD false
def vAx (bs : List Bool) : Bool := !(at_ bs 0 && at_ bs 6) && !(at_ bs 1 && at_ bs 5) && (at_ bs 6 || (at_ bs 7 == !(at_ bs 0)))
def rows01 : List Row := [([(0, true)], .c false), ([(1, true)], .c false), ([(3, true), (5, true), (6, true)], .a 4), ([(6, false)], .c false), ([(5, false)], .c false), ([(3, false)], .c false)]
def rows2 : List Row := [([(0, true)], .c false), ([(1, true)], .c false), ([(2, false), (3, false)], .c false), ([(2, false), (3, true), (4, false)], .c false), ([(3, true), (4, true), (5, true), (6, true)], .c true), ([(6, false)], .c false), ([(5, false)], .c false), ([(2, true), (5, true), (6, true)], .c true)]
def rows3 : List Row := [([(0, true)], .c false), ([(1, true)], .c false), ([(4, false)], .c false), ([(4, true), (5, true), (6, true)], .c true), ([(6, false)], .c false), ([(5, false)], .c false)]
def rows4 : List Row := [([(0, true)], .c false), ([(1, true)], .c false), ([(1, false), (3, true), (6, true)], .a 4), ([(6, false)], .c false), ([(3, false)], .c false)]
def rows5 : List Row := [([(0, true)], .c false), ([(1, true)], .c false), ([(0, false), (3, true), (5, true)], .a 4), ([(5, false)], .c false), ([(3, false)], .c false)]
def rows9 : List Row := [([], .c false)]
def want01 (bs : List Bool) : Bool := at_ bs 3 && at_ bs 4 && at_ bs 5 && at_ bs 6
def want2 (bs : List Bool) : Bool := (at_ bs 2 || (at_ bs 3 && at_ bs 4)) && at_ bs 5 && at_ bs 6
def want3 (bs : List Bool) : Bool := at_ bs 4 && at_ bs 5 && at_ bs 6
def want4 (bs : List Bool) : Bool := at_ bs 3 && at_ bs 4 && !(at_ bs 1) && at_ bs 6
def want5 (bs : List Bool) : Bool := at_ bs 3 && at_ bs 4 && at_ bs 5 && !(at_ bs 0)
def wantV (k : Int) : List Bool → Bool := if k = 0 ∨ k = 1 then want01 else if k = 2 then want2 else if k = 3 then want3 else if k = 4 then want4 else if 5 ≤ k ∧ k ≤ 8 then want5 else fun _ => false
noncomputable def mayV (k : Int) (n : Nat) (s : ByteArray) (r : Int) : Bool := wantV k (vBits n s r)
noncomputable def mayVΦ (xs : List Value) : Option Value := match xs with
  | [.int .u8 k, .float .f64 n, .string s, .int .i64 r] => some (.bool (mayV k n s r))
  | _ => none
noncomputable abbrev u8T : Ty := .int .u8 0 (some 255)
def vTy (ts : List Ty) : Option Ty := match ts with
  | [.int .u8 _ _, .f64, .str, .int .i64 _ _] => some .bool
  | _ => none
theorem mayVΦ_ok {ts : List Ty} {t : Ty} {xs : List Value} (h : vTy ts = some t) (hx : All2 hasTy xs ts) : ∃ x, mayVΦ xs = some x ∧ hasTy x t := by
  unfold vTy at h
  split at h
  · simp only [Option.some.injEq] at h; subst h
    match xs, hx with
    | [a, b, d, e], .cons h1 (.cons h2 (.cons h3 (.cons h4 .nil))) =>
      obtain ⟨k, rfl, _⟩ := h1
      obtain ⟨n, rfl⟩ := h2
      obtain ⟨s, rfl⟩ := h3
      obtain ⟨r, rfl, _⟩ := h4
      exact ⟨_, rfl, _, rfl⟩
  · cases h
noncomputable def baseVal : Base where
  Φ f xs := match f with
    | 0 => mayΦ xs
    | 1 => mayVΦ xs
    | _ => none
  appTy f ts := match f with
    | 0 => extFloat .bool ts
    | 1 => vTy ts
    | _ => none
  ok := by
    intro f ts t xs h hx
    split at h
    · exact mayΦ_ok h hx
    · exact mayVΦ_ok h hx
    · cases h
noncomputable abbrev cv0 : Cfg := cfgB baseVal (fun _ => none) fun _ => none
theorem vMayTr (c : Cfg) (hP : c.P = Try.prog) (hΦ : c.Φ = baseVal.Φ) (F : Wd) (hF : FOk cv0 F) : TrOk c F 28 (lemsX cv0 [lemMay]) :=
  TrOk.cfg (c := cv0) (c' := c) hP.symm hΦ.symm (lemsX_tr hF (fun L hL => by
    simp only [List.mem_singleton] at hL; subst hL; exact lemMay_ok rfl rfl))
noncomputable def sv1 := sumL [(28, lemsX cv0 [lemMay])]
noncomputable abbrev cv1 : Cfg := cfgB baseVal sv1 fun _ => none
instance sokv1 : SAll cv1 := ⟨fun F hF => sumL_ok (c := cv1) rfl (fun x hx => by
  simp only [List.mem_singleton] at hx; subst hx; exact vMayTr cv1 rfl rfl F hF)⟩
noncomputable def vLem (k : Nat) (rows : List Row) : Lem := ⟨[.f64, .str, fullTy .i64], [], [], [.agg (chain [.k (.int .u8 k), .var 0, .var 1, .var 2])], rows.map (rowOut .bool vAtoms)⟩
noncomputable def vLem9 : Lem := ⟨[.f64, .str, fullTy .i64, .int .u8 9 (some 255)], [], [], [.agg (chain [.var 3, .var 0, .var 1, .var 2])], rows9.map (rowOut .bool vAtoms)⟩
set_option maxRecDepth 100000
theorem vLem0_ok : LemOk cv1 14 (vLem 0 rows01) := lem_of_run (n := 200) (by kernel_rfl)
theorem vLem1_ok : LemOk cv1 14 (vLem 1 rows01) := lem_of_run (n := 200) (by kernel_rfl)
theorem vLem2_ok : LemOk cv1 14 (vLem 2 rows2) := lem_of_run (n := 200) (by kernel_rfl)
theorem vLem3_ok : LemOk cv1 14 (vLem 3 rows3) := lem_of_run (n := 200) (by kernel_rfl)
theorem vLem4_ok : LemOk cv1 14 (vLem 4 rows4) := lem_of_run (n := 200) (by kernel_rfl)
theorem vLem5_ok : LemOk cv1 14 (vLem 5 rows5) := lem_of_run (n := 200) (by kernel_rfl)
theorem vLem6_ok : LemOk cv1 14 (vLem 6 rows5) := lem_of_run (n := 200) (by kernel_rfl)
theorem vLem7_ok : LemOk cv1 14 (vLem 7 rows5) := lem_of_run (n := 200) (by kernel_rfl)
theorem vLem8_ok : LemOk cv1 14 (vLem 8 rows5) := lem_of_run (n := 200) (by kernel_rfl)
theorem vLem9_ok : LemOk cv1 14 vLem9 := lem_of_run (n := 200) (by kernel_rfl)
section
variable {c : Cfg} [COk c] {ρ : Env}
theorem var_den {n : Nat} {x : Value} (h : ρ n = some x) : den c.P c.Φ ρ (.var n) = some x := by simp [den, D, h, single]
theorem lenS_den (hP : c.P = Try.prog) {v : V} {s : ByteArray} (h : den c.P c.Φ ρ v = some (.string s)) : den c.P c.Φ ρ (lenS v) = some (.int .i64 s.size) := by
  have ht : c.P.underlying 9 = some .string := by rw [hP]; exact Try.underlying9
  refine den_prim_of (xs := [.string s]) (by simp [D, D_of h]) ?_ rfl
  show pureRun c.P (Builtin.len_ #[9] 0 #[.string s]) = _
  unfold Builtin.len_
  have e1 : pureRun c.P (underlying 9) = some .string := by
    unfold underlying; rw [pureRun_bind]; simp only [program, pureRun, Option.bind_some, ht]; rfl
  simp only [List.getElem?_toArray, List.getElem?_cons_zero]
  rw [pureRun_bind, e1]
  rfl
theorem eqlV_str {u v : V} {a b : ByteArray} (hu : den c.P c.Φ ρ u = some (.string a)) (hv : den c.P c.Φ ρ v = some (.string b)) : den c.P c.Φ ρ (eqlV u v) = some (.bool (decide (a = b))) := by
  have h : semPrim c.P (.bin .eql 0 false) [.string a, .string b] = some (.bool (a.toList == b.toList)) := by rw [semStr]; rfl
  have := eql_str (c := c) h
  rw [this] at h
  exact den_prim_of (D_two (D_of hu) (D_of hv)) h rfl
theorem eqlV_flt {u v : V} {a b : Nat} (hu : den c.P c.Φ ρ u = some (.float .f64 a)) (hv : den c.P c.Φ ρ v = some (.float .f64 b)) : den c.P c.Φ ρ (eqlV u v) = some (.bool (FloatKind.f64.format.order a b == some .eq)) := by
  refine den_prim_of (D_two (D_of hu) (D_of hv)) ?_ rfl
  rw [semFloat rfl]; rfl
theorem eqlV_int {u : V} {n m : Int} (hu : den c.P c.Φ ρ u = some (.int .i64 n)) : den c.P c.Φ ρ (eqlV u (.k (.int .i64 m))) = some (.bool (n == m)) := by
  refine den_prim_of (D_two (D_of hu) (D_of (den_k ρ _))) ?_ rfl
  rw [semInt rfl]; rfl
theorem vBits_den (hP : c.P = Try.prog) (hΦ : c.Φ 0 = mayΦ) {n : Nat} {s : ByteArray} {r : Int} (h0 : ρ 0 = some (.float .f64 n)) (h1 : ρ 1 = some (.string s)) (h2 : ρ 2 = some (.int .i64 r)) :
    ∀ (i : Nat) (b : Bool) (v : V), (vBits n s r)[i]? = some b → vAtoms[i]? = some v → den c.P c.Φ ρ v = some (.bool b) := by
  have d0 := var_den (c := c) h0
  have d1 := var_den (c := c) h1
  have d2 := var_den (c := c) h2
  intro i b v hb hv
  match i with
  | 0 =>
    cases hb; cases hv
    exact lss_den d2 (den_k _ _)
  | 1 =>
    cases hb; cases hv
    exact lss_den (den_k _ _) (lenS_den hP d1)
  | 2 =>
    cases hb; cases hv
    exact eqlV_flt d0 (den_k _ _)
  | 3 =>
    cases hb; cases hv
    exact eqlV_flt d0 (den_k _ _)
  | 4 =>
    cases hb; cases hv
    simp [den, D, h0, hΦ, mayΦ, Option.filter, isScalar, single]
  | 5 =>
    cases hb; cases hv
    exact eqlV_str d1 (den_k _ _)
  | 6 =>
    cases hb; cases hv
    exact eqlV_int d2
  | 7 =>
    cases hb; cases hv
    exact lss_den (den_k _ _) d2
  | k + 8 => cases hb
end
theorem vBits_ax {n : Nat} {s : ByteArray} {r : Int} : vAx (vBits n s r) = true := by
  simp only [vAx, vBits, at_, List.getElem?_cons_zero, List.getElem?_cons_succ, Option.getD_some]
  have h1 : ¬ (r < 0 ∧ r = 0) := by omega
  have h2 : ¬ ((4096 : Int) < s.size ∧ s = ⟨#[]⟩) := by
    rintro ⟨h, rfl⟩
    revert h; decide
  simp only [Bool.and_eq_true, Bool.not_eq_true', Bool.and_eq_false_imp, decide_eq_true_eq]
  refine ⟨⟨fun h => ?_, fun h => ?_⟩, ?_⟩
  · have : ¬ r = 0 := fun e => h1 ⟨h, e⟩
    simp [this]
  · exact decide_eq_false (fun e => h2 ⟨h, e⟩)
  · rcases Int.lt_trichotomy r 0 with h | h | h
    · have e1 : ¬ r = 0 := by omega
      have e2 : ¬ 0 < r := by omega
      simp [h, e1, e2]
    · subst h; rfl
    · have e1 : ¬ r = 0 := by omega
      have e2 : ¬ r < 0 := by omega
      simp [h, e1, e2]
theorem vtab01 : tabOk 8 vAx want01 rows01 = true := by decide +kernel
theorem vtab2 : tabOk 8 vAx want2 rows2 = true := by decide +kernel
theorem vtab3 : tabOk 8 vAx want3 rows3 = true := by decide +kernel
theorem vtab4 : tabOk 8 vAx want4 rows4 = true := by decide +kernel
theorem vtab5 : tabOk 8 vAx want5 rows5 = true := by decide +kernel
theorem vtab9 : tabOk 8 vAx (fun _ => false) rows9 = true := by decide +kernel
abbrev valueW (k : Int) (n : Nat) (s : ByteArray) (r : Int) : Value := .agg #[.int .u8 k, .float .f64 n, .string s, .int .i64 r]
theorem vLem_calls {f : FuncId} {k : Nat} {rows : List Row} {want : List Bool → Bool} (hL : LemOk cv1 f (vLem k rows)) (htab : tabOk 8 vAx want rows = true) {n : Nat} {s : ByteArray} {r : Int} (h1 : -9223372036854775808 ≤ r) (h2 : r ≤ 9223372036854775807) (w : World) :
    Calls Try.prog f #[valueW k n s r] w fun e w' => e = .returned (.bool (want (vBits n s r))) ∧ Below w.heap.size w w' := by
  refine rows_calls (c := cv1) (ρ := envL [.float .f64 n, .string s, .int .i64 r]) (vals := [valueW k n s r]) hL rfl rfl rfl (.inl rfl) trivial (fun b hb => absurd hb (Nat.not_lt_zero b)) ?_ ?_ rfl rfl (vBits_den rfl rfl rfl rfl rfl) vBits_ax htab
  · intro i t hi
    match i, hi with
    | 0, hi => cases hi; exact ⟨_, rfl, n, rfl⟩
    | 1, hi => cases hi; exact ⟨_, rfl, s, rfl⟩
    | 2, hi => cases hi; exact ⟨_, rfl, r, rfl, h1, fun _ e => by cases e; exact h2⟩
    | i + 3, hi => cases hi
  · intro i hi
    have hi : 3 ≤ i := hi
    match i, hi with
    | i + 3, _ => rfl
theorem vLem9_calls {f : FuncId} (hL : LemOk cv1 f vLem9) {k : Int} {n : Nat} {s : ByteArray} {r : Int} (hk : 9 ≤ k) (hk2 : k ≤ 255) (h1 : -9223372036854775808 ≤ r) (h2 : r ≤ 9223372036854775807) (w : World) :
    Calls Try.prog f #[valueW k n s r] w fun e w' => e = .returned (.bool false) ∧ Below w.heap.size w w' := by
  refine rows_calls (c := cv1) (ρ := envL [.float .f64 n, .string s, .int .i64 r, .int .u8 k]) (vals := [valueW k n s r]) (want := fun _ => false) hL rfl rfl rfl (.inl rfl) trivial (fun b hb => absurd hb (Nat.not_lt_zero b)) ?_ ?_ rfl rfl (vBits_den rfl rfl rfl rfl rfl) vBits_ax vtab9
  · intro i t hi
    match i, hi with
    | 0, hi => cases hi; exact ⟨_, rfl, n, rfl⟩
    | 1, hi => cases hi; exact ⟨_, rfl, s, rfl⟩
    | 2, hi => cases hi; exact ⟨_, rfl, r, rfl, h1, fun _ e => by cases e; exact h2⟩
    | 3, hi => cases hi; exact ⟨_, rfl, k, rfl, hk, fun _ e => by cases e; exact hk2⟩
    | i + 4, hi => cases hi
  · intro i hi
    match i, hi with
    | 0, hi => exact absurd hi (by decide)
    | 1, hi => exact absurd hi (by decide)
    | 2, hi => exact absurd hi (by decide)
    | 3, hi => exact absurd hi (by decide)
    | i + 4, _ => rfl
/-- A function that answers by rows as value.May does. -/
theorem may_of_rows {f : FuncId} {r01 r2 r3 r4 r5 : List Row} (h0 : LemOk cv1 f (vLem 0 r01)) (h1 : LemOk cv1 f (vLem 1 r01)) (h2 : LemOk cv1 f (vLem 2 r2)) (h3 : LemOk cv1 f (vLem 3 r3)) (h4 : LemOk cv1 f (vLem 4 r4))
    (h5 : LemOk cv1 f (vLem 5 r5)) (h6 : LemOk cv1 f (vLem 6 r5)) (h7 : LemOk cv1 f (vLem 7 r5)) (h8 : LemOk cv1 f (vLem 8 r5)) (h9 : LemOk cv1 f vLem9)
    (t01 : tabOk 8 vAx want01 r01 = true) (t2 : tabOk 8 vAx want2 r2 = true) (t3 : tabOk 8 vAx want3 r3 = true) (t4 : tabOk 8 vAx want4 r4 = true) (t5 : tabOk 8 vAx want5 r5 = true)
    {k : Int} {n : Nat} {s : ByteArray} {r : Int} (hk : 0 ≤ k) (hk2 : k ≤ 255) (hr : -9223372036854775808 ≤ r) (hr2 : r ≤ 9223372036854775807) (w : World) :
    Calls Try.prog f #[valueW k n s r] w fun e w' => e = .returned (.bool (mayV k n s r)) ∧ Below w.heap.size w w' := by
  by_cases hk9 : 9 ≤ k
  · have : mayV k n s r = false := by
      unfold mayV wantV
      rw [if_neg (by omega), if_neg (by omega), if_neg (by omega), if_neg (by omega), if_neg (by omega)]
    rw [this]; exact vLem9_calls h9 hk9 hk2 hr hr2 w
  · have : k = 0 ∨ k = 1 ∨ k = 2 ∨ k = 3 ∨ k = 4 ∨ k = 5 ∨ k = 6 ∨ k = 7 ∨ k = 8 := by omega
    rcases this with rfl | rfl | rfl | rfl | rfl | rfl | rfl | rfl | rfl
    · exact vLem_calls h0 t01 hr hr2 w
    · exact vLem_calls h1 t01 hr hr2 w
    · exact vLem_calls h2 t2 hr hr2 w
    · exact vLem_calls h3 t3 hr hr2 w
    · exact vLem_calls h4 t4 hr hr2 w
    · exact vLem_calls h5 t5 hr hr2 w
    · exact vLem_calls h6 t5 hr hr2 w
    · exact vLem_calls h7 t5 hr hr2 w
    · exact vLem_calls h8 t5 hr hr2 w
theorem vmay_calls {k : Int} {n : Nat} {s : ByteArray} {r : Int} (hk : 0 ≤ k) (hk2 : k ≤ 255) (hr : -9223372036854775808 ≤ r) (hr2 : r ≤ 9223372036854775807) (w : World) :
    Calls Try.prog 14 #[valueW k n s r] w fun e w' => e = .returned (.bool (mayV k n s r)) ∧ Below w.heap.size w w' :=
  may_of_rows vLem0_ok vLem1_ok vLem2_ok vLem3_ok vLem4_ok vLem5_ok vLem6_ok vLem7_ok vLem8_ok vLem9_ok vtab01 vtab2 vtab3 vtab4 vtab5 hk hk2 hr hr2 w

/-! ### the form -/
noncomputable abbrev vs4 : V := chain [.var 0, .var 1, .var 2, .var 3]
noncomputable def lemVal : Lem := ⟨[u8T, .f64, .str, fullTy .i64], [], [], [.agg vs4], [⟨[], [], .app 1 vs4⟩]⟩
theorem lemVal_of {c : Cfg} {f : FuncId} (hP : c.P = Try.prog) (hΦ : c.Φ 1 = mayVΦ)
    (h : ∀ {k : Int} {n : Nat} {s : ByteArray} {r : Int}, 0 ≤ k → k ≤ 255 → -9223372036854775808 ≤ r → r ≤ 9223372036854775807 → ∀ w : World, Calls Try.prog f #[valueW k n s r] w fun e w' => e = .returned (.bool (mayV k n s r)) ∧ Below w.heap.size w w') : LemOk c f lemVal := by
  intro ρ w vals _ _ htys _ _ _ hargs
  obtain ⟨_, h0, k, rfl, k1, k2⟩ := htys 0 u8T rfl
  obtain ⟨_, h1, n, rfl⟩ := htys 1 .f64 rfl
  obtain ⟨_, h2, s, rfl⟩ := htys 2 .str rfl
  obtain ⟨_, h3, r, rfl, r1, r2⟩ := htys 3 (fullTy .i64) rfl
  have k2 := k2 _ rfl
  have r2 := r2 _ rfl
  have : vals = [valueW k n s r] := by
    simp only [lemVal, chain, D, h0, h1, h2, h3, Option.map_some, Option.bind_some, Option.some.injEq] at hargs
    exact hargs.symm
  subst this
  rw [hP]
  refine (h k1 k2 r1 r2 w).mono ?_
  rintro e w' ⟨rfl, hb⟩
  refine ⟨hb, ⟨[], [], .app 1 vs4⟩, [], .bool (mayV k n s r), List.mem_singleton_self _, .nil, fun g (hg : g ∈ []) => (List.not_mem_nil hg).elim, ?_, rfl⟩
  have e0 : withNews ρ (lemVal.tys.length + lemVal.blks.length) [] 0 = some (.int .u8 k) := h0
  have e1 : withNews ρ (lemVal.tys.length + lemVal.blks.length) [] 1 = some (.float .f64 n) := h1
  have e2 : withNews ρ (lemVal.tys.length + lemVal.blks.length) [] 2 = some (.string s) := h2
  have e3 : withNews ρ (lemVal.tys.length + lemVal.blks.length) [] 3 = some (.int .i64 r) := h3
  simp [den, D, chain, e0, e1, e2, e3, hΦ, mayVΦ, Option.filter, isScalar, single]
theorem lemVal_ok {c : Cfg} (hP : c.P = Try.prog) (hΦ : c.Φ 1 = mayVΦ) : LemOk c 14 lemVal := lemVal_of hP hΦ vmay_calls

/-! ### what it means -/
theorem zero_bits {n : Nat} (hn : n < 2 ^ 64) (h1 : (FloatKind.f64.format.order n 0 == some .eq) = true) (h2 : mayB n = true) : n = 0 := by
  have h1 : FloatKind.f64.format.order n 0 = some .eq := by simpa using h1
  rcases mayB_cases hn h2 with ⟨b, s, t, hb, hr⟩ | ⟨m, hm, rfl⟩
  · cases hb
    exfalso
    have : FloatKind.f64.format.order n 0 = Ieee.Datum.order (Ieee.double.read n) (Ieee.double.read 0) := rfl
    rw [this, hr] at h1
    cases h1
  · have h0 : FloatKind.f64.nearest 0 = 0 := by decide +kernel
    rw [show (0 : Nat) = FloatKind.f64.nearest 0 from h0.symm, order_near m 0 hm (by decide)] at h1
    have : m = 0 := by
      simp only [Option.some.injEq] at h1
      exact Int.compare_eq_eq.1 h1
    rw [this, h0]
theorem mayV_cases {k : Int} {n : Nat} {s : ByteArray} {r : Int} (hn : n < 2 ^ 64) (h : mayV k n s r = true) :
    ((k = 0 ∨ k = 1) ∧ n = 0 ∧ s = ⟨#[]⟩ ∧ r = 0) ∨ (k = 2 ∧ (n = 0 ∨ n = oneB) ∧ s = ⟨#[]⟩ ∧ r = 0) ∨ (k = 3 ∧ mayB n = true ∧ s = ⟨#[]⟩ ∧ r = 0) ∨
    (k = 4 ∧ n = 0 ∧ s.size ≤ 4096 ∧ r = 0) ∨ (5 ≤ k ∧ k ≤ 8 ∧ n = 0 ∧ s = ⟨#[]⟩ ∧ 0 ≤ r) := by
  unfold mayV wantV at h
  have a0 : ∀ b0 b1 b2 b3 b4 b5 b6 b7 : Bool, at_ [b0, b1, b2, b3, b4, b5, b6, b7] 0 = b0 ∧ at_ [b0, b1, b2, b3, b4, b5, b6, b7] 1 = b1 ∧ at_ [b0, b1, b2, b3, b4, b5, b6, b7] 2 = b2 ∧ at_ [b0, b1, b2, b3, b4, b5, b6, b7] 3 = b3 ∧ at_ [b0, b1, b2, b3, b4, b5, b6, b7] 4 = b4 ∧ at_ [b0, b1, b2, b3, b4, b5, b6, b7] 5 = b5 ∧ at_ [b0, b1, b2, b3, b4, b5, b6, b7] 6 = b6 := fun _ _ _ _ _ _ _ _ => ⟨rfl, rfl, rfl, rfl, rfl, rfl, rfl⟩
  obtain ⟨q0, q1, q2, q3, q4, q5, q6⟩ := a0 (decide (r < 0)) (decide ((4096 : Int) < s.size)) (FloatKind.f64.format.order n oneB == some .eq) (FloatKind.f64.format.order n 0 == some .eq) (mayB n) (decide (s = ⟨#[]⟩)) (r == 0) (decide (0 < r))
  split at h
  · rename_i hk
    simp only [want01, vBits, q3, q4, q5, q6, Bool.and_eq_true, decide_eq_true_eq, beq_iff_eq (a := r)] at h
    exact .inl ⟨hk, zero_bits hn h.1.1.1 h.1.1.2, h.1.2, h.2⟩
  · split at h
    · rename_i hk
      simp only [want2, vBits, q2, q3, q4, q5, q6, Bool.and_eq_true, Bool.or_eq_true, decide_eq_true_eq, beq_iff_eq (a := r)] at h
      refine .inr (.inl ⟨hk, ?_, h.1.2, h.2⟩)
      rcases h.1.1 with h1 | h1
      · exact .inr (one_bits hn h1)
      · exact .inl (zero_bits hn h1.1 h1.2)
    · split at h
      · rename_i hk
        simp only [want3, vBits, q4, q5, q6, Bool.and_eq_true, decide_eq_true_eq, beq_iff_eq (a := r)] at h
        exact .inr (.inr (.inl ⟨hk, h.1.1, h.1.2, h.2⟩))
      · split at h
        · rename_i hk
          simp only [want4, vBits, q1, q3, q4, q6, Bool.and_eq_true, Bool.not_eq_true', decide_eq_false_iff_not, beq_iff_eq (a := r)] at h
          exact .inr (.inr (.inr (.inl ⟨hk, zero_bits hn h.1.1.1 h.1.1.2, by omega, h.2⟩)))
        · split at h
          · rename_i hk
            simp only [want5, vBits, q0, q3, q4, q5, Bool.and_eq_true, Bool.not_eq_true', decide_eq_false_iff_not, decide_eq_true_eq] at h
            exact .inr (.inr (.inr (.inr ⟨hk.1, hk.2, zero_bits hn h.1.1.1 h.1.1.2, h.1.2, by omega⟩)))
          · cases h
end Go.Proofs.Ytobghgfmdjknlaa.Sx
