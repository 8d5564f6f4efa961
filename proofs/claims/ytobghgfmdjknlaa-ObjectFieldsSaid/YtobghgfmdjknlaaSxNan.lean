/- Symbolic execution: floats of which it is known alone that they are no number. -/
import Derived.Test.YtobghgfmdjknlaaSxStep
import Derived.Test.YtobghgfmdjknlaaSxSym3
namespace Go.Proofs.Ytobghgfmdjknlaa.Sx
open Go
set_option linter.unusedSectionVars false

section
variable {c : Cfg} {F : Wd} [COk c]
variable {o : Oper} {a : Act} {w : World} {next : Act → World → Prop} {Q : Exit → Act → World → Prop}

/-- What is drawn where no number comes of it. -/
theorem nan_drawn (u v t : Nat) : ∃ s f, Ieee.double.read (Question.cut (.nanBits .f64 u v) t) = .nan s f := by
  show ∃ s f, Ieee.double.read ((t % 2) * 2 ^ 63 + 0x7ff0000000000000 + 1 + (t / 2) % (2 ^ 52 - 1)) = .nan s f
  have h1 : (t / 2) % (2 ^ 52 - 1) < 2 ^ 52 - 1 := Nat.mod_lt _ (by decide)
  generalize hm : (t / 2) % (2 ^ 52 - 1) = m at h1
  have hr : ((t % 2) * 2 ^ 63 + 0x7ff0000000000000 + 1 + m) % 2 ^ 63 = 0x7ff0000000000000 + 1 + m := by omega
  generalize hx : (t % 2) * 2 ^ 63 + 0x7ff0000000000000 + 1 + m = x at hr ⊢
  have hread : Ieee.double.read x = if x % 2 ^ 63 < 2 ^ 52 then .number (x / 2 ^ 63 % 2 == 1) (x % 2 ^ 63) Ieee.double.leastPlace
      else if x % 2 ^ 63 < (2 ^ 11 - 1) * 2 ^ 52 then .number (x / 2 ^ 63 % 2 == 1) (2 ^ 52 + x % 2 ^ 63 % 2 ^ 52) (Ieee.double.leastPlace + (x % 2 ^ 63 / 2 ^ 52 - 1 : Nat))
      else if x % 2 ^ 63 = (2 ^ 11 - 1) * 2 ^ 52 then .infinity (x / 2 ^ 63 % 2 == 1)
      else .nan (x / 2 ^ 63 % 2 == 1) (x % 2 ^ 63 - (2 ^ 11 - 1) * 2 ^ 52) := rfl
  rw [hread, hr, if_neg (by omega), if_neg (by omega), if_neg (by omega)]
  exact ⟨_, _, rfl⟩

theorem isNanV_spec {ρ : Env} {S : St} {v : V} {x : Value} {p : Bool} (hs : SatH c F ρ S w) (h : isNanV c S v = some p) (hx : den c.P c.Φ ρ v = some x) :
    ∃ b, x = .float .f64 b ∧ (p = true → ∃ s t, Ieee.double.read b = .nan s t) := by
  unfold isNanV at h
  split at h
  · rename_i hty
    obtain ⟨y, hy, b, s, t, rfl, hn⟩ := tyOf_ok hs hty
    rw [hx] at hy; cases hy
    exact ⟨b, rfl, fun _ => ⟨s, t, hn⟩⟩
  · rename_i t hty
    obtain ⟨hf, h⟩ := bif_none h
    simp only [Option.some.injEq] at h
    obtain ⟨y, hy, hyt⟩ := tyOf_ok hs hty
    rw [hx] at hy; cases hy
    obtain ⟨b, rfl⟩ := floaty_ok hf hyt
    exact ⟨b, rfl, fun hp => by rw [← h] at hp; cases hp⟩
  · cases h
/-- What comes of no number is none. -/
theorem noNumber_of {op : BinOp} {p q : Nat} (hop : isArith op = true) (h : (∃ s t, Ieee.double.read p = .nan s t) ∨ (∃ s t, Ieee.double.read q = .nan s t)) : noNumber op p q = true := by
  have hopp : ∀ {d : Ieee.Datum}, (∃ s t, d = .nan s t) → ∃ s t, d.opposite = .nan s t := by
    rintro d ⟨s, t, rfl⟩; exact ⟨_, _, rfl⟩
  have hsum : ∀ {a b : Ieee.Datum}, (∃ s t, a = .nan s t) ∨ (∃ s t, b = .nan s t) → a.sum b = none := by
    rintro a b (⟨s, t, rfl⟩ | ⟨s, t, rfl⟩)
    · rfl
    · cases a <;> rfl
  have hmul : ∀ {a b : Ieee.Datum}, (∃ s t, a = .nan s t) ∨ (∃ s t, b = .nan s t) → a.product b = none := by
    rintro a b (⟨s, t, rfl⟩ | ⟨s, t, rfl⟩)
    · rfl
    · cases a <;> rfl
  have hquo : ∀ {n : Nat} {a b : Ieee.Datum}, (∃ s t, a = .nan s t) ∨ (∃ s t, b = .nan s t) → a.quotient n b = none := by
    rintro n a b (⟨s, t, rfl⟩ | ⟨s, t, rfl⟩)
    · rfl
    · cases a <;> rfl
  unfold noNumber
  cases op <;> simp only [isArith, Bool.false_eq_true] at hop
  · simp [Ieee.Format.add, hsum h]
  · simp [Ieee.Format.sub, hsum (h.imp_right hopp)]
  · simp [Ieee.Format.mul, hmul h]
  · simp [Ieee.Format.div, hquo h]

theorem guard_float (op : BinOp) (t : TypeId) (lit : Bool) (u v : Nat) (w : World) : (eqG op t lit (.float .f64 u) (.float .f64 v)).run c.P w = .ok () w := by
  unfold eqG
  cases op <;> rfl

theorem step_nan {ρ : Env} {S : St} {L : List (V × St)} {nm : Nat} {op : BinOp} {t yt : TypeId} {x y : Operand} {u v : V} (hop : o.op = .binOp op t x y yt) (hs : SatH c F ρ S w)
    (hx : den c.P c.Φ ρ u = some (a.eval x)) (hy : den c.P c.Φ ρ v = some (a.eval y))
    (h : nanX c nm S op u v = some L) (hK : Outs c F ρ S L fun x w' => next (a.put o.dst x) w') : o.wp c.P a w next Q := by
  have hexec : ∀ {r : Value} {w' : World} {p q : Nat}, a.eval x = .float .f64 p → a.eval y = .float .f64 q → (binOp op t (.float .f64 p) (.float .f64 q)).run c.P w = .ok r w' → (execOp a.eval o).run c.P w = .ok (.value r) w' := by
    intro r w' p q hp hq hr
    unfold execOp; rw [hop]
    refine run_v ?_
    simp only [eqGuard_eqG, hp, hq]
    rw [run_bindok (guard_float op t _ p q w)]
    exact hr
  have drawn : ∀ {p q : Nat}, a.eval x = .float .f64 p → a.eval y = .float .f64 q → noNumber op p q = true → S.fresh nm = true → L = [(.var nm, S.put nm (.val .nan))] → o.wp c.P a w next Q := by
    intro p q hxp hyq hno0 hfr hL
    subst hL
    have hb : noNumber op p q = true ∧ S.fresh nm = true := ⟨hno0, hfr⟩
    obtain ⟨s, f, hn⟩ := nan_drawn p q (w.tape w.drawn (.nanBits .f64 p q))
    have hch : (choose (.nanBits .f64 p q)).run c.P w = .ok (Question.cut (.nanBits .f64 p q) (w.tape w.drawn (.nanBits .f64 p q))) { w with drawn := w.drawn + 1 } := by
      simp [choose, Sem.run, Question.forced]
    have hrun : (binOp op t (.float .f64 p) (.float .f64 q)).run c.P w = .ok (.float .f64 (Question.cut (.nanBits .f64 p q) (w.tape w.drawn (.nanBits .f64 p q)))) { w with drawn := w.drawn + 1 } := by
      have hno := hb.1
      unfold noNumber at hno
      have hfin : (do pure (.float .f64 (← choose (.nanBits .f64 p q))) : Sem Value).run c.P w = .ok (.float .f64 (Question.cut (.nanBits .f64 p q) (w.tape w.drawn (.nanBits .f64 p q)))) { w with drawn := w.drawn + 1 } := by
        rw [run_bindok hch]; rfl
      cases op <;> simp only [Bool.false_eq_true] at hno <;> rw [Option.isNone_iff_eq_none] at hno <;>
        (refine Eq.trans ?_ hfin; simp only [binOp, Op.floatArith, FloatKind.format, ne_eq, not_true_eq_false, if_false, hno]; rfl)
    obtain ⟨l1, w1⟩ := (hs.drew (w.drawn + 1)).newVar (x := .float .f64 (Question.cut (.nanBits .f64 p q) (w.tape w.drawn (.nanBits .f64 p q)))) (ty := .nan) hb.2 ⟨_, s, f, rfl, hn⟩ rfl
    exact wp_val (hexec hxp hyq hrun) (hK.one l1 w1 (by simp [den, D, upd_self, single]) rfl rfl (Unch.put _ _ _))
  unfold nanX at h
  split at h
  · rename_i p q
    obtain ⟨hb, h⟩ := bif_none h
    simp only [Option.some.injEq] at h
    simp only [Bool.and_eq_true] at hb
    simp only [den_k, Option.some.injEq] at hx hy
    exact drawn hx.symm hy.symm hb.1 hb.2 h.symm
  · rw [Option.bind_eq_some_iff] at h
    obtain ⟨p, hp, h⟩ := h
    rw [Option.bind_eq_some_iff] at h
    obtain ⟨q, hq, h⟩ := h
    obtain ⟨hpq, h⟩ := bif_none h
    obtain ⟨b, hxb, hb⟩ := isNanV_spec hs hp hx
    obtain ⟨d, hyd, hd⟩ := isNanV_spec hs hq hy
    replace h := bif_some h
    rcases h with ⟨har, h⟩ | ⟨_, h⟩
    · obtain ⟨hfr, h⟩ := bif_none h
      simp only [Option.some.injEq] at h
      rw [Bool.or_eq_true] at hpq
      exact drawn hxb hyd (noNumber_of har (hpq.imp hb hd)) hfr h.symm
    rw [Option.bind_eq_some_iff] at h
    obtain ⟨r, hr, h⟩ := h
    obtain rfl := oneInj h
    have hord : FloatKind.f64.format.order b d = none := by
      rw [Bool.or_eq_true] at hpq
      rcases hpq with h1 | h1
      · obtain ⟨s, t, h2⟩ := hb h1; exact order_nan h2
      · obtain ⟨s, t, h2⟩ := hd h1; exact order_nan' h2
    refine wp_val (x := .bool r) (hexec hxb hyd ?_) (hK.one (Le.refl ρ) hs rfl rfl rfl)
    cases op <;> simp only [nanCmp, Option.some.injEq, reduceCtorEq] at hr <;> subst hr <;>
      (simp only [binOp, Op.floatCmp, ne_eq, not_true_eq_false, if_false, hord]; rfl)
end
end Go.Proofs.Ytobghgfmdjknlaa.Sx
