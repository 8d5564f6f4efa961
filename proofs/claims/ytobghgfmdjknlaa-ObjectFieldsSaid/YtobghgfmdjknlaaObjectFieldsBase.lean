/- ObjectFields: a descriptor's cells, the Checks as rows of truths, the law at what it has. -/
import Derived.Test.YtobghgfmdjknlaaSxDesc
namespace Go.Proofs.Ytobghgfmdjknlaa.objectFields
open Go Go.RowKit Sx
set_option linter.unusedSectionVars false
set_option linter.unusedVariables false
set_option maxRecDepth 100000
noncomputable def dVars : V := chain [.var 0, .var 1, .var 2, .var 3, .var 4, .var 5, .var 6, .var 7, .var 8, .var 9, .var 10, .var 11, .var 12, .var 13, .var 14]
noncomputable abbrev vsAt (a b d e : Nat) : V := chain [.var a, .var b, .var d, .var e]
noncomputable def dAtoms : List V := [.app 1 (vsAt 0 1 2 3), opV .eql (.var 0) (u8V 0), .app 3 (vsAt 4 5 6 7), opV .eql (.var 4) (u8V 0), .app 3 (vsAt 8 9 10 11), opV .eql (.var 8) (u8V 0), .var 12, .var 13, .var 14, .app 4 (vsAt 0 1 2 3), .app 4 (vsAt 4 5 6 7), .app 4 (vsAt 8 9 10 11)]
noncomputable def dTys : List Ty := [u8T, .f64, .str, fullTy .i64, u8T, .f64, .str, fullTy .i64, u8T, .f64, .str, fullTy .i64, .bool, .bool, .bool]
noncomputable abbrev dCells (h : Nat) : V := .cons (u8V h) dVars
def errV (b : Bool) : Value := .int .i64 (bif b then 0 else 90)
noncomputable def dLem (h : Nat) (rows : List Row) : Lem := ⟨dTys, [], [], [.agg (dCells h)], rows.map (rowOut errV dAtoms)⟩
noncomputable def chkLem (h : Nat) : Lem := ⟨dTys, [], [], [.agg (dCells h)], [⟨[], [(.app 5 (dCells h), true)], .k (errV true)⟩, ⟨[], [(.app 5 (dCells h), false)], .k (errV false)⟩]⟩
noncomputable def lawLem (h : Nat) : Lem := ⟨dTys, [], [], [.agg (dCells h)], [⟨[], [], .k (.bool true)⟩]⟩
/-- A descriptor's parts but what it has. -/
structure DC where
  v : VC
  g : VC
  s : VC
  W : Bool
  E : Bool
  C : Bool
structure DC.Ok (d : DC) : Prop where
  v : d.v.Ok
  g : d.g.Ok
  s : d.s.Ok
def DC.cells (d : DC) : List Value := [.int .u8 d.v.k, .float .f64 d.v.n, .string d.v.s, .int .i64 d.v.r, .int .u8 d.g.k, .float .f64 d.g.n, .string d.g.s, .int .i64 d.g.r, .int .u8 d.s.k, .float .f64 d.s.n, .string d.s.s, .int .i64 d.s.r, .bool d.W, .bool d.E, .bool d.C]
def DC.val (d : DC) (h : Nat) : Value := .agg #[.int .u8 h, .int .u8 d.v.k, .float .f64 d.v.n, .string d.v.s, .int .i64 d.v.r, .int .u8 d.g.k, .float .f64 d.g.n, .string d.g.s, .int .i64 d.g.r, .int .u8 d.s.k, .float .f64 d.s.n, .string d.s.s, .int .i64 d.s.r, .bool d.W, .bool d.E, .bool d.C]
noncomputable def DC.bits (d : DC) : List Bool := dBits d.v d.g d.s d.W d.E d.C
def dAx (bs : List Bool) : Bool := at_ bs 9 == (at_ bs 0 && at_ bs 1) && at_ bs 10 == (at_ bs 2 && at_ bs 3) && at_ bs 11 == (at_ bs 4 && at_ bs 5)
theorem call_bare (v : VC) : v.bare = (v.call && (v.k == 0)) := by
  unfold VC.bare VC.call
  cases v.may <;> cases v.k == 0 <;> simp
theorem dAx_ok (d : DC) : dAx d.bits = true := by
  have q : ∀ b0 b1 b2 b3 b4 b5 b6 b7 b8 b9 b10 b11 : Bool, dAx [b0, b1, b2, b3, b4, b5, b6, b7, b8, b9, b10, b11] = (b9 == (b0 && b1) && b10 == (b2 && b3) && b11 == (b4 && b5)) := fun _ _ _ _ _ _ _ _ _ _ _ _ => rfl
  unfold DC.bits dBits
  rw [q, call_bare d.g, call_bare d.s]
  simp [VC.bare]
theorem typed {d : DC} (hd : d.Ok) : All2 hasTy d.cells dTys :=
  .cons ⟨_, rfl, hd.v.k0, fun _ e => by cases e; exact hd.v.k1⟩ (.cons ⟨_, rfl⟩ (.cons ⟨_, rfl⟩ (.cons ⟨_, rfl, hd.v.r0, fun _ e => by cases e; exact hd.v.r1⟩
  (.cons ⟨_, rfl, hd.g.k0, fun _ e => by cases e; exact hd.g.k1⟩ (.cons ⟨_, rfl⟩ (.cons ⟨_, rfl⟩ (.cons ⟨_, rfl, hd.g.r0, fun _ e => by cases e; exact hd.g.r1⟩
  (.cons ⟨_, rfl, hd.s.k0, fun _ e => by cases e; exact hd.s.k1⟩ (.cons ⟨_, rfl⟩ (.cons ⟨_, rfl⟩ (.cons ⟨_, rfl, hd.s.r0, fun _ e => by cases e; exact hd.s.r1⟩
  (.cons ⟨_, rfl⟩ (.cons ⟨_, rfl⟩ (.cons ⟨_, rfl⟩ .nil))))))))))))))
section
variable {c : Cfg} [COk c] {ρ : Env}
theorem dBits_den (hΦ : c.Φ = baseD.Φ) {d : DC} (h : ∀ i, i < 15 → ρ i = d.cells[i]?) : ∀ (i : Nat) (b : Bool) (x : V), d.bits[i]? = some b → dAtoms[i]? = some x → den c.P c.Φ ρ x = some (.bool b) := by
  have r0 := h 0 (by decide)
  have r1 := h 1 (by decide)
  have r2 := h 2 (by decide)
  have r3 := h 3 (by decide)
  have r4 := h 4 (by decide)
  have r5 := h 5 (by decide)
  have r6 := h 6 (by decide)
  have r7 := h 7 (by decide)
  have r8 := h 8 (by decide)
  have r9 := h 9 (by decide)
  have r10 := h 10 (by decide)
  have r11 := h 11 (by decide)
  have r12 := h 12 (by decide)
  have r13 := h 13 (by decide)
  have r14 := h 14 (by decide)
  intro i b x hb hx
  match i with
  | 0 => cases hb; cases hx; exact app_den (D_four r0 r1 r2 r3) (by rw [hΦ]; rfl) rfl
  | 1 => cases hb; cases hx; exact eqlV_u8 (var_den r0)
  | 2 => cases hb; cases hx; exact app_den (D_four r4 r5 r6 r7) (by rw [hΦ]; rfl) rfl
  | 3 => cases hb; cases hx; exact eqlV_u8 (var_den r4)
  | 4 => cases hb; cases hx; exact app_den (D_four r8 r9 r10 r11) (by rw [hΦ]; rfl) rfl
  | 5 => cases hb; cases hx; exact eqlV_u8 (var_den r8)
  | 6 => cases hb; cases hx; exact var_den r12
  | 7 => cases hb; cases hx; exact var_den r13
  | 8 => cases hb; cases hx; exact var_den r14
  | 9 => cases hb; cases hx; exact app_den (D_four r0 r1 r2 r3) (by rw [hΦ]; rfl) rfl
  | 10 => cases hb; cases hx; exact app_den (D_four r4 r5 r6 r7) (by rw [hΦ]; rfl) rfl
  | 11 => cases hb; cases hx; exact app_den (D_four r8 r9 r10 r11) (by rw [hΦ]; rfl) rfl
  | k + 12 => cases hb
theorem D_desc {d : DC} {h : Nat} (hr : ∀ i, i < 15 → ρ i = d.cells[i]?) : D c.P c.Φ ρ (dCells h) = some (.int .u8 h :: d.cells) := by
  simp only [dCells, dVars, chain, D, hr 0 (by decide), hr 1 (by decide), hr 2 (by decide), hr 3 (by decide), hr 4 (by decide), hr 5 (by decide), hr 6 (by decide), hr 7 (by decide), hr 8 (by decide), hr 9 (by decide), hr 10 (by decide), hr 11 (by decide), hr 12 (by decide), hr 13 (by decide), hr 14 (by decide)]
  rfl
end
theorem noneAt {d : DC} : ∀ i, dTys.length ≤ i → envL d.cells i = none := by
  intro i hi
  have hi : 15 ≤ i := hi
  match i, hi with
  | i + 15, _ => rfl
noncomputable def sd2 := sumL [(14, lemsX cd1 [lemThree 1]), (15, lemsX cd1 [lemThree 3]), (23, lemsX cd1 [lemVal]), (24, lemsX cd1 [lemApp 3]), (21, lemsX cd1 [lemApp 4])]
noncomputable abbrev cd2 : Cfg := cfgB baseD sd2 fun _ => none
theorem oneTr {c : Cfg} (hP : c.P = Try.prog) (hΦ : c.Φ = baseD.Φ) {F : Wd} (hF : FOk cd1 F) {f : FuncId} {L : Lem} (h : LemOk cd1 f L) : TrOk c F f (lemsX cd1 [L]) :=
  TrOk.cfg (c := cd1) (c' := c) hP.symm hΦ.symm (lemsX_tr hF (fun M hM => by simp only [List.mem_singleton] at hM; subst hM; exact h))
instance sokd2 : SAll cd2 := ⟨fun F hF => sumL_ok (c := cd2) rfl (fun x hx => by
  have hF : FOk cd1 F := hF
  simp only [List.mem_cons, List.not_mem_nil, or_false] at hx
  rcases hx with rfl | rfl | rfl | rfl | rfl
  · exact oneTr rfl rfl hF (val3_ok rfl rfl)
  · exact oneTr rfl rfl hF (call3_ok rfl rfl)
  · exact oneTr rfl rfl hF (lemRVal_ok rfl rfl)
  · exact oneTr rfl rfl hF (callR_ok rfl rfl)
  · exact oneTr rfl rfl hF (bareR4_ok rfl rfl))⟩
theorem dLem_calls {f : FuncId} {h : Nat} {rows : List Row} (hL : LemOk cd2 f (dLem h rows)) (hn : noA rows = true) (htab : tabOk 12 dAx (wantD h) rows = true) {d : DC} (hd : d.Ok) (w : World) :
    Calls Try.prog f #[d.val h] w fun e w' => e = .returned (errV (wantD h d.bits)) ∧ Below w.heap.size w w' := by
  refine rows_calls (c := cd2) (ρ := envL d.cells) (vals := [d.val h]) hL rfl rfl rfl (.inr hn) trivial (fun b hb => absurd hb (Nat.not_lt_zero b)) ?_ noneAt rfl rfl (dBits_den rfl (fun i _ => rfl)) (dAx_ok d) htab
  intro i t hi
  have key : ∀ {xs : List Value} {ts : List Ty}, All2 hasTy xs ts → ∀ (i : Nat) (t : Ty), ts[i]? = some t → ∃ x, xs[i]? = some x ∧ hasTy x t := by
    intro xs ts h
    induction h with
    | nil => intro i t h; simp at h
    | cons hx _ ih =>
      intro i t h
      cases i with
      | zero => simp only [List.getElem?_cons_zero, Option.some.injEq] at h; subst h; exact ⟨_, rfl, hx⟩
      | succ i => simp only [List.getElem?_cons_succ] at h ⊢; exact ih i t h
  exact key (typed hd) i t hi
theorem dTys_ok {ρ : Env} (h : ∀ i t, dTys[i]? = some t → ∃ x, ρ i = some x ∧ hasTy x t) : ∃ d : DC, d.Ok ∧ ∀ i, i < 15 → ρ i = d.cells[i]? := by
  obtain ⟨_, h0, k, rfl, k1, k2⟩ := h 0 u8T rfl
  obtain ⟨_, h1, n, rfl⟩ := h 1 .f64 rfl
  obtain ⟨_, h2, s, rfl⟩ := h 2 .str rfl
  obtain ⟨_, h3, r, rfl, r1, r2⟩ := h 3 (fullTy .i64) rfl
  obtain ⟨_, h4, k', rfl, k1', k2'⟩ := h 4 u8T rfl
  obtain ⟨_, h5, n', rfl⟩ := h 5 .f64 rfl
  obtain ⟨_, h6, s', rfl⟩ := h 6 .str rfl
  obtain ⟨_, h7, r', rfl, r1', r2'⟩ := h 7 (fullTy .i64) rfl
  obtain ⟨_, h8, k'', rfl, k1'', k2''⟩ := h 8 u8T rfl
  obtain ⟨_, h9, n'', rfl⟩ := h 9 .f64 rfl
  obtain ⟨_, h10, s'', rfl⟩ := h 10 .str rfl
  obtain ⟨_, h11, r'', rfl, r1'', r2''⟩ := h 11 (fullTy .i64) rfl
  obtain ⟨_, h12, W, rfl⟩ := h 12 .bool rfl
  obtain ⟨_, h13, E, rfl⟩ := h 13 .bool rfl
  obtain ⟨_, h14, C, rfl⟩ := h 14 .bool rfl
  refine ⟨⟨⟨k, n, s, r⟩, ⟨k', n', s', r'⟩, ⟨k'', n'', s'', r''⟩, W, E, C⟩, ⟨⟨k1, k2 _ rfl, r1, r2 _ rfl⟩, ⟨k1', k2' _ rfl, r1', r2' _ rfl⟩, ⟨k1'', k2'' _ rfl, r1'', r2'' _ rfl⟩⟩, fun i hi => ?_⟩
  match i, hi with
  | 0, _ => exact h0
  | 1, _ => exact h1
  | 2, _ => exact h2
  | 3, _ => exact h3
  | 4, _ => exact h4
  | 5, _ => exact h5
  | 6, _ => exact h6
  | 7, _ => exact h7
  | 8, _ => exact h8
  | 9, _ => exact h9
  | 10, _ => exact h10
  | 11, _ => exact h11
  | 12, _ => exact h12
  | 13, _ => exact h13
  | 14, _ => exact h14
  | i + 15, hi => exact absurd hi (by omega)
theorem chkLem_of {f : FuncId} {h : Nat} {rows : List Row} (hL : LemOk cd2 f (dLem h rows)) (hn : noA rows = true) (htab : tabOk 12 dAx (wantD h) rows = true) : LemOk cd1 f (chkLem h) := by
  intro ρ w vals _ _ htys _ _ _ hargs
  obtain ⟨d, hd, hρ⟩ := dTys_ok htys
  have hD := D_desc (c := cd1) (h := h) hρ
  have : vals = [d.val h] := by
    have hargs : ((D cd1.P cd1.Φ ρ (dCells h)).map fun cs => [Value.agg cs.toArray]).bind (fun x => (some []).map fun y => x ++ y) = some vals := hargs
    rw [hD] at hargs
    simp only [Option.map_some, Option.bind_some, Option.some.injEq] at hargs
    exact hargs.symm
  subst this
  have ha : den cd1.P cd1.Φ (withNews ρ ((chkLem h).tys.length + (chkLem h).blks.length) []) (.app 5 (dCells h)) = some (.bool (wantD h d.bits)) :=
    app_den (c := cd1) (D_desc (c := cd1) (h := h) (fun i hi => by
      rw [← hρ i hi]
      show withNews ρ 15 [] i = _
      unfold withNews
      rw [show Nat.blt i 15 = true from Nat.ble_eq_true_of_le hi]; rfl)) rfl rfl
  refine (dLem_calls hL hn htab hd w).mono ?_
  rintro e w' ⟨rfl, hb⟩
  refine ⟨hb, ?_⟩
  cases hq : wantD h d.bits with
  | true =>
    rw [hq] at ha
    refine ⟨_, [], errV true, List.mem_cons_self .., .nil, fun g hg => ?_, rfl, rfl⟩
    rw [List.mem_singleton] at hg; subst hg; exact ha
  | false =>
    rw [hq] at ha
    refine ⟨_, [], errV false, List.mem_cons_of_mem _ (List.mem_cons_self ..), .nil, fun g hg => ?_, rfl, rfl⟩
    rw [List.mem_singleton] at hg; subst hg; exact ha
noncomputable abbrev cl (h : Nat) : Cfg := cfgB baseD (sumL [(7, lemsX cd1 [chkLem h]), (9, lemsX cd1 [chkLem h]), (30, lemsX cd1 [lemBool]), (25, lemsX cd1 [lemBool]), (27, lemsX cd1 [lemAlike])]) fun _ => none
theorem sokl {h : Nat} (hp : LemOk cd1 7 (chkLem h)) (hr : LemOk cd1 9 (chkLem h)) : SAll (cl h) := ⟨fun F hF => sumL_ok (c := cl h) rfl (fun x hx => by
  have hF : FOk cd1 F := hF
  simp only [List.mem_cons, List.not_mem_nil, or_false] at hx
  rcases hx with rfl | rfl | rfl | rfl | rfl
  · exact oneTr rfl rfl hF hp
  · exact oneTr rfl rfl hF hr
  · exact oneTr rfl rfl hF (lemBool_of lemBoolP_ok)
  · exact oneTr rfl rfl hF (lemBool_of lemBoolR_ok)
  · exact oneTr rfl rfl hF lemAlike_ok)⟩
/-- The law at what a descriptor has. -/
def Good (h : Nat) : Prop := ∀ d : DC, d.Ok → ∀ w : World, Calls Try.prog 3 #[d.val h] w fun e w' => e = .returned (.bool true) ∧ Below w.heap.size w w'
theorem good_of {c : Cfg} [COk c] {h : Nat} (hP : c.P = Try.prog) (hi : ∀ w, c.inv w) (hl : c.low = 0) (hL : LemOk c 3 (lawLem h)) : Good h := by
  intro d hd w
  rw [← hP]
  refine lem_true hL rfl rfl rfl d.cells (typed hd) (vals := [d.val h]) ?_ w (hi w) (fun b hb => by rw [hl] at hb; exact absurd hb (Nat.not_lt_zero b))
  show ((D c.P c.Φ (envL d.cells) (dCells h)).map fun cs => [Value.agg cs.toArray]).bind (fun x => (some []).map fun y => x ++ y) = _
  rw [D_desc (c := c) (d := d) (ρ := envL d.cells) (h := h) (fun i _ => rfl)]
  rfl
instance sokd0 : SAll cd0 := ⟨fun _ _ => ⟨fun _ _ h => by cases h⟩⟩
noncomputable def runs (hs : List Nat) : Bool := hs.all fun h => lemRun cd0 (lawLem h) (exec cd0 200 (.call 3 (lawLem h).args) (stOf (lawLem h).tys (lawLem h).blks (lawLem h).pre))
theorem runs_good {hs : List Nat} (h : runs hs = true) : ∀ n, n ∈ hs → Good n := by
  intro n hn
  unfold runs at h
  rw [List.all_eq_true] at h
  exact good_of (c := cd0) rfl (fun _ => trivial) rfl (lem_of_run (n := 200) (h n hn))
end Go.Proofs.Ytobghgfmdjknlaa.objectFields
