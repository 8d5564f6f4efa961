/- Symbolic execution: quotients of whole numbers as floats, strings one behind the other, parts of strings, the other sign, the greater and the less. -/
import Derived.Test.YtobghgfmdjknlaaSxNan
import Derived.Test.YtobghgfmdjknlaaSxWhole
namespace Go.Proofs.Ytobghgfmdjknlaa.Sx
open Go
set_option linter.unusedSectionVars false

section
variable {c : Cfg} {F : Wd} [COk c]
variable {o : Oper} {a : Act} {w : World} {next : Act → World → Prop} {Q : Exit → Act → World → Prop}

theorem exec_flt {op : BinOp} {t yt : TypeId} {x y : Operand} (hop : o.op = .binOp op t x y yt) {r : Value} {w' : World} {p q : Nat} (hp : a.eval x = .float .f64 p) (hq : a.eval y = .float .f64 q) (hr : (binOp op t (.float .f64 p) (.float .f64 q)).run c.P w = .ok r w') : (execOp a.eval o).run c.P w = .ok (.value r) w' := by
  unfold execOp; rw [hop]
  refine run_v ?_
  simp only [eqGuard_eqG, hp, hq]
  rw [run_bindok (guard_float op t _ p q w)]
  exact hr

theorem int_eql {ρ : Env} {u : V} {n m : Int} (hu : den c.P c.Φ ρ u = some (.int .i64 n)) : den c.P c.Φ ρ (cmpV .eql u (.k (.int .i64 m))) = some (.bool (n == m)) :=
  cmpV_int rfl (D_of hu) (D_of (den_k ρ _)) rfl
theorem int_lss {ρ : Env} {u v : V} {n m : Int} (hu : den c.P c.Φ ρ u = some (.int .i64 n)) (hv : den c.P c.Φ ρ v = some (.int .i64 m)) : den c.P c.Φ ρ (cmpV .lss u v) = some (.bool (decide (n < m))) :=
  cmpV_int rfl (D_of hu) (D_of hv) rfl

theorem step_drawn {ρ : Env} {S : St} {L : List (V × St)} {nm : Nat} {op : BinOp} {t yt : TypeId} {x y : Operand} (hop : o.op = .binOp op t x y yt) (hs : SatH c F ρ S w) {p q : Nat}
    (hxp : a.eval x = .float .f64 p) (hyq : a.eval y = .float .f64 q) (hno : noNumber op p q = true) (hfr : S.fresh nm = true) (hm : (V.var nm, S.put nm (.val .nan)) ∈ L)
    (hK : Outs c F ρ S L fun x w' => next (a.put o.dst x) w') : o.wp c.P a w next Q := by
  obtain ⟨s, f, hn⟩ := nan_drawn p q (w.tape w.drawn (.nanBits .f64 p q))
  have hch : (choose (.nanBits .f64 p q)).run c.P w = .ok (Question.cut (.nanBits .f64 p q) (w.tape w.drawn (.nanBits .f64 p q))) { w with drawn := w.drawn + 1 } := by
    simp [choose, Sem.run, Question.forced]
  have hrun : (binOp op t (.float .f64 p) (.float .f64 q)).run c.P w = .ok (.float .f64 (Question.cut (.nanBits .f64 p q) (w.tape w.drawn (.nanBits .f64 p q)))) { w with drawn := w.drawn + 1 } := by
    unfold noNumber at hno
    have hfin : (do pure (.float .f64 (← choose (.nanBits .f64 p q))) : Sem Value).run c.P w = .ok (.float .f64 (Question.cut (.nanBits .f64 p q) (w.tape w.drawn (.nanBits .f64 p q)))) { w with drawn := w.drawn + 1 } := by
      rw [run_bindok hch]; rfl
    cases op <;> simp only [Bool.false_eq_true] at hno <;> rw [Option.isNone_iff_eq_none] at hno <;>
      (refine Eq.trans ?_ hfin; simp only [binOp, Op.floatArith, FloatKind.format, ne_eq, not_true_eq_false, if_false, hno]; rfl)
  obtain ⟨l1, w1⟩ := (hs.drew (w.drawn + 1)).newVar (x := .float .f64 (Question.cut (.nanBits .f64 p q) (w.tape w.drawn (.nanBits .f64 p q)))) (ty := .nan) hfr ⟨_, s, f, rfl, hn⟩ rfl
  exact wp_val (exec_flt hop hxp hyq hrun) (hK _ _ hm _ _ _ l1 w1 (by simp [den, D, upd_self, single]) rfl rfl (Unch.put _ _ _))

/-- Outcomes of a state of which more is known. -/
theorem Outs.kin {ρ : Env} {S S' : St} {L M : List (V × St)} {K : Value → World → Prop} (hk : Kin S S') (hsub : ∀ x, x ∈ M → x ∈ L) (h : Outs c F ρ S L K) : Outs c F ρ S' M K := by
  intro v T hm ρ' w' x hle hs hx h1 h2 h3
  exact h v T (hsub _ hm) ρ' w' x hle hs hx (h1.trans hk.tmps) (h2.trans hk.nt) (hk.unch.trans h3)

theorem step_quo {ρ : Env} {S : St} {L : List (V × St)} {nm : Nat} {t yt : TypeId} {x y : Operand} {u v : V} (hop : o.op = .binOp .quo t x y yt) (hs : SatH c F ρ S w)
    (hx : den c.P c.Φ ρ u = some (a.eval x)) (hy : den c.P c.Φ ρ v = some (a.eval y))
    (h : quoX c nm S u v = some L) (hK : Outs c F ρ S L fun x w' => next (a.put o.dst x) w') : o.wp c.P a w next Q := by
  unfold quoX at h
  simp only [Option.bind_eq_some_iff] at h
  obtain ⟨p, hp, q, hq, h⟩ := h
  obtain ⟨hg, h⟩ := bif_none h
  rw [an_eq, Bool.and_eq_true] at hg
  obtain ⟨n, hn, hn'⟩ := small_den hs hg.1
  obtain ⟨m, hm, hm'⟩ := small_den hs hg.2
  have hxe := asInt_den hp hn hx
  have hye := asInt_den hq hm hy
  simp only [Option.bind_eq_some_iff] at h
  obtain ⟨l, hl, h⟩ := h
  obtain ⟨z, S1, hz, hmem, hs1, hk1⟩ := splitX_ok hs (int_eql hm) hl
  simp only [Value.bool.injEq] at hz
  obtain ⟨M, hM, hsub⟩ := mem_bindL h _ hmem
  have hK1 : Outs c F ρ S1 M fun x w' => next (a.put o.dst x) w' := hK.kin hk1 hsub
  cases z with
  | true =>
    have hm0 : m = 0 := by simpa using hz
    subst hm0
    simp only [cond_true, Option.bind_eq_some_iff] at hM
    obtain ⟨l2, hl2, hM⟩ := hM
    obtain ⟨z2, S2, hz2, hmem2, hs2, hk2⟩ := splitX_ok hs1 (int_eql hn) hl2
    simp only [Value.bool.injEq] at hz2
    obtain ⟨M2, hM2, hsub2⟩ := mem_bindL hM _ hmem2
    have hK2 := hK1.kin hk2 hsub2
    cases z2 with
    | true =>
      have hn0 : n = 0 := by simpa using hz2
      subst hn0
      simp only [cond_true] at hM2
      obtain ⟨hfr, hM2⟩ := bif_none hM2
      simp only [Option.some.injEq] at hM2; subst hM2
      refine step_drawn hop hs2 hxe hye ?_ hfr (List.mem_singleton_self _) hK2
      unfold noNumber Ieee.Format.div
      rw [near_zero]
      rfl
    | false =>
      have hn0 : n ≠ 0 := by simpa using hz2
      simp only [cond_false, Option.map_eq_some_iff] at hM2
      obtain ⟨l3, hl3, rfl⟩ := hM2
      obtain ⟨z3, S3, hz3, hmem3, hs3, hk3⟩ := splitX_ok hs2 (int_lss hn (den_k ρ _)) hl3
      simp only [Value.bool.injEq] at hz3
      have hK3 := hK2.kin hk3 (M := [((.k (.float .f64 (bif z3 then 18442240474082181120 else 9218868437227405312)) : V), S3)]) (fun x hx => by
        rw [List.mem_singleton] at hx; subst hx
        exact List.mem_map.2 ⟨_, hmem3, rfl⟩)
      obtain ⟨s, mg, i, e1, e2, _, _, _, e5⟩ := near_read n hn'
      have hmg : mg ≠ 0 := by
        rw [e5]
        exact Nat.ne_of_gt (Nat.mul_pos (by omega) (Nat.two_pow_pos _))
      have hdiv : Ieee.double.div (FloatKind.f64.nearest n) (FloatKind.f64.nearest 0) = some (bif z3 then 18442240474082181120 else 9218868437227405312) := by
        unfold Ieee.Format.div
        rw [near_zero, e1]
        simp only [Ieee.Datum.quotient, if_true, if_neg hmg, Option.map_some, Bool.xor_false]
        rw [e2, ← hz3]
        cases hz4 : decide (n < 0) <;> rfl
      refine wp_val (exec_flt hop hxe hye ?_) (hK3.one (Le.refl ρ) hs3 rfl rfl rfl)
      simp only [binOp, Op.floatArith, FloatKind.format, ne_eq, not_true_eq_false, if_false, hdiv]
      rfl
  | false =>
    have hm0 : m ≠ 0 := by simpa using hz
    simp only [cond_false, Option.some.injEq] at hM; subst hM
    obtain ⟨s, mg, i, e1, e2, _, _, _, e5⟩ := near_read n hn'
    obtain ⟨s', mg', i', e1', e2', _, _, _, e5'⟩ := near_read m hm'
    have hmg : mg' ≠ 0 := by
      rw [e5']
      exact Nat.ne_of_gt (Nat.mul_pos (by omega) (Nat.two_pow_pos _))
    obtain ⟨r, hr⟩ : ∃ r, Ieee.double.div (FloatKind.f64.nearest n) (FloatKind.f64.nearest m) = some r := by
      unfold Ieee.Format.div
      rw [e1, e1']
      simp only [Ieee.Datum.quotient, if_neg hmg, Option.map_some]
      exact ⟨_, rfl⟩
    refine wp_val (x := .float .f64 r) (w' := w) (exec_flt hop hxe hye ?_) (hK1.one (Le.refl ρ) hs1 ?_ rfl rfl)
    · simp only [binOp, Op.floatArith, FloatKind.format, ne_eq, not_true_eq_false, if_false, hr]
      rfl
    · rw [hxe] at hx
      rw [hye] at hy
      refine den_prim_of (p := .fquo) (D_two (D_of hx) (D_of hy)) ?_ rfl
      show some (Value.float .f64 ((Ieee.double.div _ _).getD 0)) = _
      rw [hr]; rfl

/-- One, by what is a number: there is always a quotient. -/
theorem one_read1 : Ieee.double.read 4607182418800017408 = .number false 4503599627370496 (-52) := by decide +kernel
theorem div_one {q : Nat} (h : ∀ s t, Ieee.double.read q ≠ .nan s t) : ∃ r, Ieee.double.div 4607182418800017408 q = some r := by
  unfold Ieee.Format.div
  rw [one_read1]
  cases hr : Ieee.double.read q with
  | nan s t => exact absurd hr (h s t)
  | infinity s => exact ⟨_, rfl⟩
  | number s m i =>
    by_cases hm : m = 0
    · subst hm; exact ⟨_, rfl⟩
    · simp only [Ieee.Datum.quotient, if_neg hm, Option.map_some]; exact ⟨_, rfl⟩
theorem step_quo1 {ρ : Env} {S : St} {r : V} {L : List (V × St)} {t yt : TypeId} {x y : Operand} {u v : V} (hop : o.op = .binOp .quo t x y yt) (hs : SatH c F ρ S w)
    (hx : den c.P c.Φ ρ u = some (a.eval x)) (hy : den c.P c.Φ ρ v = some (a.eval y))
    (h : quo1X c S u v = some r) (hL : one S r = some L) (hK : Outs c F ρ S L fun x w' => next (a.put o.dst x) w') : o.wp c.P a w next Q := by
  unfold quo1X at h
  split at h
  case h_2 => cases h
  rename_i p
  simp only [Option.bind_eq_some_iff] at h
  obtain ⟨tt, hty, h⟩ := h
  obtain ⟨hg, h⟩ := bif_none h
  split at h
  case h_2 => cases h
  simp only [Option.some.injEq] at h; subst h
  rw [an_eq, Bool.and_eq_true] at hg
  obtain rfl := beqT hg.1
  obtain rfl := oneInj hL
  obtain ⟨z, hz, hzt⟩ := tyOf_ok hs hty
  obtain ⟨q, rfl, hq⟩ : ∃ q, z = .float .f64 q ∧ ∀ s t, Ieee.double.read q ≠ .nan s t := by
    cases tt <;> simp only [numy, Bool.false_eq_true, and_false] at hg
    · obtain ⟨q, rfl, hq⟩ := hzt; exact ⟨q, rfl, hq⟩
    · obtain ⟨q, s, m, i, rfl, hq⟩ := hzt; exact ⟨q, rfl, fun s' t' e => by rw [hq] at e; cases e⟩
  have hye : a.eval y = .float .f64 q := by rw [hy] at hz; simpa using hz
  simp only [den_k, Option.some.injEq] at hx
  obtain ⟨r, hr⟩ := div_one hq
  refine wp_val (x := .float .f64 r) (w' := w) (exec_flt hop hx.symm hye ?_) (hK.one (Le.refl ρ) hs ?_ rfl rfl)
  · simp only [binOp, Op.floatArith, FloatKind.format, ne_eq, not_true_eq_false, if_false, hr]
    rfl
  · refine den_prim_of (p := .fquo) (D_two (D_of (den_k ρ _)) (D_of hz)) ?_ rfl
    show some (Value.float .f64 ((Ieee.double.div _ _).getD 0)) = _
    rw [hr]; rfl

section
variable {ρ : Env} {S : St}
theorem lenOf_den (hs : SatH c F ρ S w) {t : TypeId} {v : V} {s : ByteArray} (ht : c.P.underlying t = some .string) (hv : den c.P c.Φ ρ v = some (.string s)) : den c.P c.Φ ρ (lenOfV t v) = some (.int .i64 s.size) := by
  unfold lenOfV
  split
  · simp only [den_k, Option.some.injEq, Value.string.injEq] at hv
    subst hv; rfl
  · refine den_prim_of (xs := [.string s]) (by simp [D, D_of hv]) ?_ rfl
    show pureRun c.P (Builtin.len_ #[t] 0 #[.string s]) = _
    unfold Builtin.len_
    have e1 : pureRun c.P (underlying t) = some .string := by
      unfold underlying; rw [pureRun_bind]; simp only [program, pureRun, Option.bind_some, ht]; rfl
    simp only [List.getElem?_toArray, List.getElem?_cons_zero]
    rw [pureRun_bind, e1]
    rfl

theorem shortX_ok (hs : SatH c F ρ S w) {t : TypeId} {v : V} (ht : c.P.underlying t = some .string) (h : shortX c S t v = true) : ∃ s, den c.P c.Φ ρ v = some (.string s) ∧ s.size ≤ 4611686018427387903 := by
  unfold shortX at h
  split at h
  · rename_i r hi hty hb
    obtain ⟨y, hy, s, rfl⟩ := tyOf_ok hs hty
    refine ⟨s, hy, ?_⟩
    obtain ⟨k, n, hn, _, h4⟩ := boundsX_ok hs hb
    rw [lenOf_den hs ht hy] at hn
    cases hn
    have := h4 _ rfl
    have := of_decide_eq_true h
    omega
  · cases h

theorem step_cat {ρ : Env} {S : St} {L : List (V × St)} {t yt : TypeId} {x y : Operand} {u v : V} (hop : o.op = .binOp .add t x y yt) (hs : SatH c F ρ S w)
    (hx : den c.P c.Φ ρ u = some (a.eval x)) (hy : den c.P c.Φ ρ v = some (a.eval y))
    (h : catX c S t u v = some L) (hK : Outs c F ρ S L fun x w' => next (a.put o.dst x) w') : o.wp c.P a w next Q := by
  unfold catX at h
  split at h
  case h_2 => cases h
  rename_i hu
  have hu := und_spec hu
  obtain ⟨hg, h⟩ := bif_none h
  rw [an_eq, Bool.and_eq_true] at hg
  obtain rfl := oneInj h
  obtain ⟨s1, h1, l1⟩ := shortX_ok hs hu hg.1
  obtain ⟨s2, h2, l2⟩ := shortX_ok hs hu hg.2
  have e1 : a.eval x = .string s1 := by rw [hx] at h1; exact Option.some.inj h1
  have e2 : a.eval y = .string s2 := by rw [hy] at h2; exact Option.some.inj h2
  refine wp_val (x := .string (s1 ++ s2)) (w' := w) ?_ (hK.one (Le.refl ρ) hs (den_prim_of (p := .cat) (D_two (D_of h1) (D_of h2)) rfl rfl) rfl rfl)
  unfold execOp; rw [hop]
  refine run_v ?_
  rw [e1, e2]
  have hg0 : (eqGuard .add t x y (.string s1) (.string s2)).run c.P w = .ok () w := by
    unfold eqGuard; rfl
  rw [run_bindok hg0]
  have : ¬ ((s1.size + s2.size : Nat) : Int) > IntKind.i64.max := by
    show ¬ ((s1.size + s2.size : Nat) : Int) > 9223372036854775807
    omega
  simp only [binOp, Op.stringOp]
  rw [if_neg this]
  rfl

theorem step_neg {ρ : Env} {S : St} {L : List (V × St)} {t : TypeId} {x : Operand} {u : V} (hop : o.op = .unOp .neg t x) (hs : SatH c F ρ S w)
    (hx : den c.P c.Φ ρ u = some (a.eval x)) (h : negX c S u = some L) (hK : Outs c F ρ S L fun x w' => next (a.put o.dst x) w') : o.wp c.P a w next Q := by
  unfold negX at h
  replace h := bif_some h
  rcases h with ⟨_, h⟩ | ⟨_, h⟩
  · cases h
  rw [Option.bind_eq_some_iff] at h
  obtain ⟨p, hp, h⟩ := h
  obtain ⟨hg, h⟩ := bif_none h
  obtain ⟨n, hn, hn'⟩ := small_den hs hg
  have hxe := asInt_den hp hn hx
  rw [Option.map_eq_some_iff] at h
  obtain ⟨l, hl, rfl⟩ := h
  obtain ⟨z, S1, hz, hmem, hs1, hk1⟩ := splitX_ok hs (int_eql hn) hl
  simp only [Value.bool.injEq] at hz
  have hK1 := hK.kin hk1 (M := [((bif z then .k (.float .f64 9223372036854775808) else i2fV (subV (.k (.int .i64 0)) p) : V), S1)]) (fun x hx => by
    rw [List.mem_singleton] at hx; subst hx
    exact List.mem_map.2 ⟨_, hmem, rfl⟩)
  have hrun : ∀ r, Op.negFloat .f64 (FloatKind.f64.nearest n) = r → (execOp a.eval o).run c.P w = .ok (.value (.float .f64 r)) w := by
    intro r hr
    unfold execOp; rw [hop]
    refine run_v ?_
    rw [hxe, ← hr]
    rfl
  cases z with
  | true =>
    have hn0 : n = 0 := by simpa using hz
    subst hn0
    exact wp_val (hrun 9223372036854775808 (by decide +kernel)) (hK1.one (Le.refl ρ) hs1 rfl rfl rfl)
  | false =>
    have hn0 : n ≠ 0 := by simpa using hz
    refine wp_val (hrun _ (neg_near n hn0)) (hK1.one (Le.refl ρ) hs1 ?_ rfl rfl)
    have := i2fV_den (subV_den (c := c) (ρ := ρ) (x := .k (.int .i64 0)) (y := p) (den_k ρ _) hn (by decide) hn')
    rw [Int.zero_sub] at this
    exact this

/-! ### parts of strings -/
theorem leX_ok (hs : SatH c F ρ S w) {u v : V} {n m : Int} (h : leX c S u v = true) (hu : den c.P c.Φ ρ u = some (.int .i64 n)) (hv : den c.P c.Φ ρ v = some (.int .i64 m)) : n ≤ m := by
  unfold leX at h
  split at h
  · rename_i hk
    have hd : den c.P c.Φ ρ (cmpV .leq u v) = some (.bool (decide (n ≤ m))) := cmpV_int rfl (D_of hu) (D_of hv) rfl
    have := knownX_ok hs hd hk
    exact of_decide_eq_true this
  · cases h
theorem ltX_ok (hs : SatH c F ρ S w) {u v : V} {n m : Int} (h : ltX c S u v = true) (hu : den c.P c.Φ ρ u = some (.int .i64 n)) (hv : den c.P c.Φ ρ v = some (.int .i64 m)) : n < m := by
  unfold ltX at h
  split at h
  · rename_i hk
    exact of_decide_eq_true (knownX_ok hs (int_lss hu hv) hk)
  · cases h
theorem subOk_ok (hs : SatH c F ρ S w) {t : TypeId} {v lo hi : V} {s : ByteArray} (ht : c.P.underlying t = some .string) (hv : den c.P c.Φ ρ v = some (.string s)) (h : subOk c S t v lo hi = true) :
    ∃ p q : Nat, den c.P c.Φ ρ lo = some (.int .i64 p) ∧ den c.P c.Φ ρ hi = some (.int .i64 q) ∧ p ≤ q ∧ q ≤ s.size := by
  unfold subOk at h
  simp only [an_eq, Bool.and_eq_true] at h
  obtain ⟨h1, h2, h3, h4, h5⟩ := h
  obtain ⟨p, hp⟩ := isI64_ok hs h1
  obtain ⟨q, hq⟩ := isI64_ok hs h2
  have g3 := leX_ok hs h3 (den_k ρ _) hp
  have g4 := leX_ok hs h4 hp hq
  have g5 := leX_ok hs h5 hq (lenOf_den hs ht hv)
  refine ⟨p.toNat, q.toNat, ?_, ?_, by omega, by omega⟩
  · rw [hp, Int.toNat_of_nonneg g3]
  · rw [hq, Int.toNat_of_nonneg (by omega)]
theorem D_three {u v x : V} {a b d : Value} (hu : D c.P c.Φ ρ u = some [a]) (hv : D c.P c.Φ ρ v = some [b]) (hx : D c.P c.Φ ρ x = some [d]) : D c.P c.Φ ρ (.cons u (.cons v (.cons x .nil))) = some [a, b, d] := by simp [D, hu, hv, hx]
theorem partStr_ok (hs : SatH c F ρ S w) {t : TypeId} {v lo hi r : V} {x : Value} (hv : den c.P c.Φ ρ v = some x) (h : partStr c S t v lo hi = some r) :
    ∃ s, ∃ p q : Nat, c.P.underlying t = some .string ∧ x = .string s ∧ den c.P c.Φ ρ lo = some (.int .i64 p) ∧ den c.P c.Φ ρ hi = some (.int .i64 q) ∧ p ≤ q ∧ q ≤ s.size ∧ den c.P c.Φ ρ r = some (.string (s.extract p q)) := by
  unfold partStr at h
  split at h
  case h_2 => cases h
  rename_i hu hty
  have hu := und_spec hu
  obtain ⟨y, hy, s, rfl⟩ := tyOf_ok hs hty
  rw [hv] at hy; cases hy
  obtain ⟨hg, h⟩ := bif_none h
  simp only [Option.some.injEq] at h
  obtain ⟨p, q, hp, hq, h1, h2⟩ := subOk_ok hs hu hv hg
  refine ⟨s, p, q, hu, rfl, hp, hq, h1, h2, ?_⟩
  subst h
  cases hz : (isZero lo && V.eq hi (lenOfV t v)) with
  | true =>
    rw [Bool.and_eq_true] at hz
    have e1 := isZero_den hz.1 hp
    have e2 := V.eq_eq hz.2
    subst e2
    rw [lenOf_den hs hu hv] at hq
    cases hq
    have : p = 0 := by omega
    subst this
    simp only [cond_true]
    rw [hv]
    congr 2
    apply ByteArray.ext
    simp
  | false =>
    simp only [cond_false]
    exact den_prim_of (p := .sub) (D_three (D_of hv) (D_of hp) (D_of hq)) rfl rfl
theorem lenStr_ok (hs : SatH c F ρ S w) {t : TypeId} {v r : V} {x : Value} (hv : den c.P c.Φ ρ v = some x) (h : lenStr c S t v = some r) :
    ∃ s, c.P.underlying t = some .string ∧ x = .string s ∧ den c.P c.Φ ρ r = some (.int .i64 s.size) := by
  unfold lenStr at h
  split at h
  case h_2 => cases h
  rename_i sv lo hi hu
  have hu := und_spec hu
  obtain ⟨hg, h⟩ := bif_none h
  simp only [Option.some.injEq] at h; subst h
  simp only [an_eq, Bool.and_eq_true] at hg
  obtain ⟨g1, g2, g3, g4⟩ := hg
  split at g4
  case h_2 => cases g4
  rename_i hty
  obtain ⟨y, hy, s, rfl⟩ := tyOf_ok hs hty
  obtain ⟨p, q, hp, hq, h1, h2⟩ := subOk_ok hs hu hy g1
  obtain ⟨n, hn, hn'⟩ := small_den hs g2
  obtain ⟨m, hm, hm'⟩ := small_den hs g3
  rw [hp] at hn; cases hn
  rw [hq] at hm; cases hm
  have hd := den_prim_of (c := c) (p := .sub) (x := .string (s.extract p q)) (D_three (D_of hy) (D_of hp) (D_of hq)) rfl rfl
  rw [hd] at hv; cases hv
  refine ⟨_, hu, rfl, ?_⟩
  rw [subV_den hq hp hm' hn']
  congr 2
  rw [ByteArray.size_extract]
  omega
theorem byteX_ok (hs : SatH c F ρ S w) {t : TypeId} {v i r : V} {x : Value} (hv : den c.P c.Φ ρ v = some x) (h : byteX c S t v i = some r) :
    ∃ s, ∃ p : Nat, ∃ b : UInt8, c.P.underlying t = some .string ∧ x = .string s ∧ den c.P c.Φ ρ i = some (.int .i64 p) ∧ s[p]? = some b ∧ den c.P c.Φ ρ r = some (.int .u8 b.toNat) := by
  unfold byteX at h
  split at h
  case h_2 => cases h
  rename_i hu hty
  have hu := und_spec hu
  obtain ⟨y, hy, s, rfl⟩ := tyOf_ok hs hty
  rw [hv] at hy; cases hy
  obtain ⟨hg, h⟩ := bif_none h
  simp only [Option.some.injEq] at h; subst h
  simp only [an_eq, Bool.and_eq_true] at hg
  obtain ⟨g1, g2, g3⟩ := hg
  obtain ⟨p, hp⟩ := isI64_ok hs g1
  have h1 := leX_ok hs g2 (den_k ρ _) hp
  have h2 := ltX_ok hs g3 hp (lenOf_den hs hu hv)
  have hlt : p.toNat < s.size := by omega
  have hb : s[p.toNat]? = some s[p.toNat] := getElem?_pos s p.toNat hlt
  refine ⟨s, p.toNat, _, hu, rfl, by rw [Int.toNat_of_nonneg h1]; exact hp, hb, ?_⟩
  refine den_prim_of (p := .byte) (D_two (D_of hv) (D_of hp)) ?_ rfl
  show some (Value.int .u8 ((s.data[p.toNat]?).getD 0).toNat) = _
  have : s.data[p.toNat]? = some s[p.toNat] := by
    rw [Array.getElem?_eq_getElem hlt]
    rfl
  rw [this]
  rfl

/-! ### the greater and the less -/
theorem canonX_ok (hs : SatH c F ρ S w) {v : V} {x : Value} (hv : den c.P c.Φ ρ v = some x) : den c.P c.Φ ρ (canonX c S v) = some x := by
  unfold canonX
  cases hb : isI64 (tyOf c S v) with
  | false => exact hv
  | true =>
    simp only [cond_true]
    split
    · rename_i n hn
      obtain ⟨m, hm⟩ := isI64_ok hs hb
      obtain ⟨k, hk⟩ := litX_ok hs hn
      rw [hm] at hk; cases hk
      rw [hv] at hm; cases hm
      rfl
    · exact hv
theorem mmX_ok {ρ : Env} (hs : SatH c F ρ S w) {mx : Bool} {u v : V} {x y : Value} {L : List (V × St)} (hu : den c.P c.Φ ρ u = some x) (hv : den c.P c.Φ ρ v = some y) (h : mmX c S mx u v = some L) :
    ∃ r S' z, (r, S') ∈ L ∧ Kin S S' ∧ SatH c F ρ S' w ∧ den c.P c.Φ ρ r = some z ∧ pureRun c.P (if mx then Builtin.max2 x y else Builtin.min2 x y) = some z := by
  unfold mmX at h
  have key : ∀ {p q : V} {n m : Int}, den c.P c.Φ ρ p = some (.int .i64 n) → den c.P c.Φ ρ q = some (.int .i64 m) → (splitX c S (cmpV .lss p q)).map (fun l => l.map fun (t, S) => (canonX c S (bif t == mx then v else u), S)) = some L →
      pureRun c.P (if mx then Builtin.max2 x y else Builtin.min2 x y) = some (bif decide (n < m) == mx then y else x) →
      ∃ r S' z, (r, S') ∈ L ∧ Kin S S' ∧ SatH c F ρ S' w ∧ den c.P c.Φ ρ r = some z ∧ pureRun c.P (if mx then Builtin.max2 x y else Builtin.min2 x y) = some z := by
    intro p q n m hp hq h hr
    rw [Option.map_eq_some_iff] at h
    obtain ⟨l, hl, rfl⟩ := h
    obtain ⟨z, S1, hz, hmem, hs1, hk1⟩ := splitX_ok hs (int_lss hp hq) hl
    simp only [Value.bool.injEq] at hz
    refine ⟨_, S1, _, List.mem_map.2 ⟨_, hmem, rfl⟩, hk1, hs1, canonX_ok hs1 ?_, hr⟩
    rw [hz]
    cases z <;> cases mx <;> first | exact hu | exact hv
  dsimp only at h
  split at h
  · rename_i p q hp hq
    obtain ⟨hg, h⟩ := bif_none h
    rw [an_eq, Bool.and_eq_true] at hg
    obtain ⟨n, hn, hn'⟩ := small_den hs hg.1
    obtain ⟨m, hm, hm'⟩ := small_den hs hg.2
    obtain rfl := asInt_den hp hn hu
    obtain rfl := asInt_den hq hm hv
    refine key hn hm h ?_
    have ho := order_near n m hn' hm'
    rcases Int.lt_trichotomy n m with hlt | heq | hgt
    · rw [Int.compare_eq_lt.2 hlt] at ho
      rw [decide_eq_true hlt]
      cases mx <;> simp only [Builtin.max2, Builtin.min2, ho, if_true, Bool.false_eq_true, if_false] <;> rfl
    · subst heq
      rw [Int.compare_eq_eq.2 rfl] at ho
      have : ¬ n < n := by omega
      rw [decide_eq_false this]
      cases mx <;> simp only [Builtin.max2, Builtin.min2, ho, if_true, Bool.false_eq_true, if_false, ite_self] <;> rfl
    · rw [Int.compare_eq_gt.2 hgt] at ho
      have : ¬ n < m := by omega
      rw [decide_eq_false this]
      cases mx <;> simp only [Builtin.max2, Builtin.min2, ho, if_true, Bool.false_eq_true, if_false] <;> rfl
  · obtain ⟨hg, h⟩ := bif_none h
    rw [an_eq, Bool.and_eq_true] at hg
    obtain ⟨n, hn⟩ := isI64_ok hs hg.1
    obtain ⟨m, hm⟩ := isI64_ok hs hg.2
    have e1 : x = .int .i64 n := by rw [hu] at hn; exact Option.some.inj hn
    have e2 : y = .int .i64 m := by rw [hv] at hm; exact Option.some.inj hm
    subst e1 e2
    refine key hn hm h ?_
    cases mx
    · show pureRun c.P (pure (Value.int .i64 (if m < n then m else n))) = _
      by_cases hlt : n < m
      · rw [decide_eq_true hlt, if_neg (by omega)]; rfl
      · rw [decide_eq_false hlt]
        by_cases hlt2 : m < n
        · rw [if_pos hlt2]; rfl
        · have : n = m := by omega
          subst this
          rw [if_neg (by omega)]; rfl
    · show pureRun c.P (pure (Value.int .i64 (if m > n then m else n))) = _
      by_cases hlt : n < m
      · rw [decide_eq_true hlt, if_pos hlt]; rfl
      · rw [decide_eq_false hlt, if_neg hlt]; rfl

/-! ### a float of our numbers' size, cut -/
theorem neg_safe_read : Ieee.double.read 14069245235905429503 = .number true 9007199254740991 0 := by decide +kernel
theorem cut_safe {b : Nat} (hn : ∀ s t, Ieee.double.read b ≠ .nan s t)
    (h1 : FloatKind.f64.format.order b 14069245235905429503 = some .gt ∨ FloatKind.f64.format.order b 14069245235905429503 = some .eq)
    (h2 : FloatKind.f64.format.order b 4845873199050653695 = some .lt ∨ FloatKind.f64.format.order b 4845873199050653695 = some .eq) :
    ∃ n, (FloatKind.f64.decode b).toInt .zero = some n ∧ n.natAbs < 2 ^ 53 := by
  have o1 : FloatKind.f64.format.order b 14069245235905429503 = (Ieee.double.read b).order (.number true 9007199254740991 0) := by
    rw [← neg_safe_read]; rfl
  have o2 : FloatKind.f64.format.order b 4845873199050653695 = (Ieee.double.read b).order (.number false 9007199254740991 0) := by
    rw [← safe_read]; rfl
  rw [o1] at h1
  rw [o2] at h2
  show ∃ n, (Ieee.double.read b).toInt .zero = some n ∧ _
  cases hr : Ieee.double.read b with
  | nan s t => exact absurd hr (hn s t)
  | infinity s =>
    rw [hr] at h1 h2
    cases s
    · rcases h2 with h2 | h2 <;> cases h2
    · rcases h1 with h1 | h1 <;> cases h1
  | number s m i =>
    rw [hr, order_num] at h1 h2
    simp only [Option.some.injEq] at h1 h2
    have g1 : Ieee.signed true 9007199254740991 (0 - min i 0).toNat ≤ Ieee.signed s m (i - min i 0).toNat := by
      rcases h1 with h1 | h1
      · have := Int.compare_eq_gt.1 h1; omega
      · have := Int.compare_eq_eq.1 h1; omega
    have g2 : Ieee.signed s m (i - min i 0).toNat ≤ Ieee.signed false 9007199254740991 (0 - min i 0).toNat := by
      rcases h2 with h2 | h2
      · have := Int.compare_eq_lt.1 h2; omega
      · have := Int.compare_eq_eq.1 h2; omega
    unfold Ieee.Datum.toInt Ieee.Datum.integral
    refine ⟨_, rfl, ?_⟩
    rw [cut_div]
    have mag : (m <<< i.toNat) / 2 ^ (-i).toNat ≤ 9007199254740991 := by
      rcases Int.lt_or_le i 0 with hi | hi
      · have e1 : (i - min i 0).toNat = 0 := by omega
        have e2 : ((0 : Int) - min i 0).toNat = (-i).toNat := by omega
        have e3 : i.toNat = 0 := by omega
        rw [e1, e2] at g1 g2
        rw [e3, Nat.shiftLeft_zero]
        simp only [Ieee.signed, Nat.shiftLeft_zero, Nat.shiftLeft_eq] at g1 g2
        have : m ≤ 9007199254740991 * 2 ^ (-i).toNat := by
          generalize 9007199254740991 * 2 ^ (-i).toNat = B at g1 g2
          cases s
          · simp only [Bool.false_eq_true, if_false, if_true] at g1 g2; omega
          · simp only [Bool.false_eq_true, if_false, if_true] at g1 g2; omega
        exact Nat.div_le_of_le_mul (by rw [Nat.mul_comm]; exact this)
      · have e1 : (i - min i 0).toNat = i.toNat := by omega
        have e2 : ((0 : Int) - min i 0).toNat = 0 := by omega
        have e3 : (-i).toNat = 0 := by omega
        rw [e1, e2] at g1 g2
        rw [e3, Nat.pow_zero, Nat.div_one]
        simp only [Ieee.signed, Nat.shiftLeft_zero] at g1 g2
        generalize m <<< i.toNat = B at g1 g2 ⊢
        cases s
        · simp only [Bool.false_eq_true, if_false, if_true] at g1 g2; omega
        · simp only [Bool.false_eq_true, if_false, if_true] at g1 g2; omega
    generalize (m <<< i.toNat) / 2 ^ (-i).toNat = B at mag ⊢
    simp only [Ieee.signed, Nat.shiftLeft_zero]
    cases s
    · simp only [Bool.false_eq_true, if_false]; omega
    · simp only [if_true]; omega
theorem cutInt_of {b : Nat} {n : Int} (h : (FloatKind.f64.decode b).toInt .zero = some n) (hn : n.natAbs < 2 ^ 53) : cutInt b = n := by
  unfold cutInt
  rw [h]
  simp only []
  rw [decide_eq_true (by omega)]; rfl
theorem flt_den {op : BinOp} (hop : isCmp op = true) {ρ : Env} {u v : V} {a b : Nat} {z : Bool} (hu : den c.P c.Φ ρ u = some (.float .f64 a)) (hv : den c.P c.Φ ρ v = some (.float .f64 b)) (h : pureRun c.P (Op.floatCmp op .f64 a b) = some (.bool z)) :
    den c.P c.Φ ρ (.prim (.bin op 0 false) (.cons u (.cons v .nil))) = some (.bool z) := by
  refine den_prim_of (D_two (D_of hu) (D_of hv)) ?_ rfl
  rw [semFloat hop]; exact h
theorem truncX_ok {ρ : Env} (hs : SatH c F ρ S w) {s d : TypeId} {k : IntKind} {u r : V} {x : Value} (hu : den c.P c.Φ ρ u = some x) (hty : hasTy x .num) (hdd : und c d = some (.int k)) (h : truncX c S s d k u = some r) :
    ∃ z, den c.P c.Φ ρ r = some z ∧ (convert s d x).run c.P w = .ok z w := by
  unfold truncX at h
  split at h
  case h_2 => cases h
  rename_i hsd
  split at h
  case h_2 => cases h
  rename_i g1 g2
  simp only [Option.some.injEq] at h; subst h
  obtain ⟨b, rfl, hn⟩ := hty
  have f1 := flt_den (c := c) (op := .geq) rfl hu (den_k ρ (.float .f64 14069245235905429503)) (z := FloatKind.f64.format.order b 14069245235905429503 == some .gt || FloatKind.f64.format.order b 14069245235905429503 == some .eq) rfl
  have f2 := flt_den (c := c) (op := .leq) rfl hu (den_k ρ (.float .f64 4845873199050653695)) (z := FloatKind.f64.format.order b 4845873199050653695 == some .lt || FloatKind.f64.format.order b 4845873199050653695 == some .eq) rfl
  have f1 := findPcX_ok hs f1 g1
  have f2 := findPcX_ok hs f2 g2
  simp only [Bool.or_eq_true, beq_iff_eq] at f1 f2
  obtain ⟨n, e1, e2⟩ := cut_safe hn f1 f2
  refine ⟨.int .i64 n, ?_, ?_⟩
  · rw [← cutInt_of e1 e2]
    exact den_prim_of (p := .f2i) (xs := [.float .f64 b]) (by simp [D, D_of hu]) rfl rfl
  · refine run_convert_float_int w s d .f64 .i64 _ n (by rw [und_spec hsd]; rfl) (und_spec hdd) ?_
    unfold floatToIntVal
    rw [e1]
    exact if_pos ⟨by show (-9223372036854775808 : Int) ≤ n; omega, by show n ≤ (9223372036854775807 : Int); omega⟩

/-! ### ints as floats, and back -/
theorem convX_ok {ρ : Env} (hs : SatH c F ρ S w) {s d : TypeId} {u r : V} {x : Value} (hu : den c.P c.Φ ρ u = some x) (h : convX c S s d u = some r) : ∃ z, den c.P c.Φ ρ r = some z ∧ (convert s d x).run c.P w = .ok z w := by
  unfold convX at h
  split at h
  · rename_i sd hsd hdd
    split at h
    case h_2 => cases h
    rename_i t hty
    split at h
    case h_2 => cases h
    rename_i p hp
    obtain ⟨y, hy, hyt⟩ := tyOf_ok hs hty
    rw [hu] at hy; cases hy
    obtain ⟨k, lo, hi⟩ := p
    obtain ⟨n, rfl, hn, hn'⟩ := inty_ok hp hyt
    have hrun : (convert s d (.int k n)).run c.P w = .ok (.float .f64 (FloatKind.f64.nearest n)) w := by
      unfold convert
      rw [run_bindok (run_underlying (und_spec hsd)), run_bindok (run_underlying (und_spec hdd))]
      cases sd <;> rfl
    replace h := bif_some h
    rcases h with ⟨_, h⟩ | ⟨_, h⟩
    · cases h
    replace h := bif_some h
    rcases h with ⟨_, h⟩ | ⟨_, h⟩
    · simp only [Option.some.injEq] at h; subst h
      exact ⟨_, i2fV_den hu, hrun⟩
    · obtain ⟨hw, h⟩ := bif_none h
      simp only [Option.some.injEq] at h; subst h
      have h64 : den c.P c.Φ ρ (.prim .i64 (.cons u .nil)) = some (.int .i64 n) := den_prim_of (x := .int .i64 n) (p := .i64) (xs := [.int k n]) (by simp [D, D_of hu]) rfl rfl
      exact ⟨_, i2fV_den h64, hrun⟩
  · rename_i sd k hsd hdd
    split at h
    · rename_i y hy
      obtain ⟨hg, h⟩ := bif_none h
      simp only [Option.some.injEq] at h; subst h
      rw [an_eq, Bool.and_eq_true] at hg
      have hk := of_decide_eq_true hg.1
      subst hk
      obtain ⟨n, hn, hn'⟩ := small_den hs hg.2
      obtain rfl := asInt_den hy hn hu
      refine ⟨_, hn, ?_⟩
      refine run_convert_float_int w s d .f64 .i64 _ n (by rw [und_spec hsd]; rfl) (und_spec hdd) ?_
      unfold floatToIntVal
      rw [toInt_near n hn']
      exact if_pos ⟨by show (-9223372036854775808 : Int) ≤ n; omega, by show n ≤ (9223372036854775807 : Int); omega⟩
    · split at h
      case h_3 => cases h
      case h_2 =>
        rename_i hty
        obtain ⟨y, hy, hyt⟩ := tyOf_ok hs hty
        rw [hu] at hy; cases hy
        exact truncX_ok hs hu hyt hdd h
      rename_i k' lo hi hty
      obtain ⟨hg, h⟩ := bif_none h
      simp only [Option.some.injEq] at h; subst h
      simp only [an_eq, Bool.and_eq_true, decide_eq_true_eq] at hg
      obtain ⟨rfl, h1, h2⟩ := hg
      obtain ⟨y, hy, n, rfl, h3, h4⟩ := tyOf_ok hs hty
      rw [hu] at hy; cases hy
      refine ⟨_, hu, ?_⟩
      have := h4 _ rfl
      have hw : k'.wrap n = n := wrap_self (by omega) (by omega)
      unfold convert
      rw [run_bindok (run_underlying (und_spec hsd)), run_bindok (run_underlying (und_spec hdd))]
      have : (Conv.intToInt k' n).run c.P w = .ok (.int k' n) w := by
        conv => rhs; rw [← hw]
        rfl
      cases sd <;> exact this
  · cases h
end
end
end Go.Proofs.Ytobghgfmdjknlaa.Sx
