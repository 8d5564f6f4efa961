/- Symbolic execution: what is known, what is told outright, and what parts in two. -/
import Derived.Test.YtobghgfmdjknlaaSxSym
import Derived.Laws.StructEq
import Derived.Laws.Strings
namespace Go.Proofs.Ytobghgfmdjknlaa.Sx
open Go
set_option linter.unusedSectionVars false

section
variable {c : Cfg} {F : Wd} [k : COk c] {ρ : Env} {S : St} {w : World}

theorem passX_ok {x : V} {k : IntKind} {n : Int} (hx : den c.P c.Φ ρ x = some (.int k n)) (ho : oneV x = true) (hl : ∀ y, x ≠ .k y) : ∀ {pc : List (V × Bool)} {r : Int × Option Int}, (∀ f, f ∈ pc → aboutX x f = true ∧ den c.P c.Φ ρ f.1 = some (.bool f.2)) →
    In r n → In (passX pc r) n
  | [], _, _, hr => hr
  | f :: r, _, hf, hr => boundBy_ok hx ho hl (hf f (by simp)).1 (hf f (by simp)).2 (passX_ok hx ho hl (pc := r) (fun g hg => hf g (by simp [hg])) hr)

theorem boundsX_ok (hs : SatH c F ρ S w) {x : V} {r : Int × Option Int} (h : boundsX c S x = some r) : ∃ k n, den c.P c.Φ ρ x = some (.int k n) ∧ In r n := by
  unfold boundsX at h
  split at h
  · simp only [Option.some.injEq] at h; subst h
    exact ⟨_, _, rfl, Int.le_refl _, fun h e => by cases e; exact Int.le_refl _⟩
  · rename_i hne
    simp only [Option.bind_eq_some_iff, Option.map_eq_some_iff] at h
    obtain ⟨t, ht, ⟨k', lo, hi⟩, hi', rfl⟩ := h
    obtain ⟨v, hv, hty⟩ := tyOf_ok hs ht
    obtain ⟨n, rfl, h1, h2⟩ := inty_ok hi' hty
    have hl : ∀ y, x ≠ .k y := by
      intro y e
      subst e
      simp only [den_k, Option.some.injEq] at hv
      subst hv
      exact hne _ _ rfl
    have ho := tyOf_one ht
    have hf : ∀ f, f ∈ S.pc.filter (aboutX x) → aboutX x f = true ∧ den c.P c.Φ ρ f.1 = some (.bool f.2) := by
      intro f hf
      rw [List.mem_filter] at hf
      exact ⟨hf.2, hs.pc f hf.1⟩
    exact ⟨_, n, hv, passX_ok hv ho hl hf (passX_ok hv ho hl hf (passX_ok hv ho hl hf ⟨h1, h2⟩))⟩

theorem cmpBounds_ok {op : BinOp} {t : TypeId} {lit : Bool} {k k' : IntKind} {n m : Int} {a b : Int × Option Int} {z r : Bool} (ha : In a n) (hb : In b m) (h : cmpBounds op a b = some r)
    (hz : semPrim c.P (.bin op t lit) [.int k n, .int k' m] = some (.bool z)) : z = r := by
  obtain ⟨al, ah⟩ := a
  obtain ⟨bl, bh⟩ := b
  obtain ⟨h1, h2⟩ := ha
  obtain ⟨h3, h4⟩ := hb
  dsimp only at h1 h2 h3 h4
  unfold cmpBounds at h
  split at h
  · have hz := eql_int (c := c) hz
    split at h
    · rename_i l hh l' hh'
      cases ‹(al, ah) = _›; cases ‹(bl, bh) = _›
      have h2 := h2 _ rfl
      have h4 := h4 _ rfl
      rcases bif_some h with ⟨hg, h⟩ | ⟨_, h⟩
      · simp only [Option.some.injEq] at h; subst h
        simp only [Bool.and_eq_true, decide_eq_true_eq] at hg
        rw [hz]; simp only [decide_eq_true_eq]; omega
      · obtain ⟨hg, h⟩ := bif_none h
        simp only [Option.some.injEq] at h; subst h
        simp only [Bool.or_eq_true, decide_eq_true_eq] at hg
        rw [hz]; simp only [decide_eq_false_iff_not]; omega
    · cases ‹(al, ah) = _›; cases ‹(bl, bh) = _›
      have h4 := h4 _ rfl
      obtain ⟨hg, h⟩ := bif_none h
      simp only [Option.some.injEq] at h; subst h
      simp only [decide_eq_true_eq] at hg
      rw [hz]; simp only [decide_eq_false_iff_not]; omega
    · cases ‹(al, ah) = _›; cases ‹(bl, bh) = _›
      have h2 := h2 _ rfl
      obtain ⟨hg, h⟩ := bif_none h
      simp only [Option.some.injEq] at h; subst h
      simp only [decide_eq_true_eq] at hg
      rw [hz]; simp only [decide_eq_false_iff_not]; omega
    · cases h
  · have hz := lss_int (c := c) hz
    dsimp only at h
    split at h
    · rename_i e1 e2
      have h2 := h2 _ rfl
      have h4 := h4 _ rfl
      rcases bif_some h with ⟨hg, h⟩ | ⟨_, h⟩
      · simp only [Option.some.injEq] at h; subst h
        simp only [decide_eq_true_eq] at hg
        rw [hz]; simp only [decide_eq_true_eq]; omega
      · obtain ⟨hg, h⟩ := bif_none h
        simp only [Option.some.injEq] at h; subst h
        simp only [decide_eq_true_eq] at hg
        rw [hz]; simp only [decide_eq_false_iff_not]; omega
    · have h2 := h2 _ rfl
      obtain ⟨hg, h⟩ := bif_none h
      simp only [Option.some.injEq] at h; subst h
      simp only [decide_eq_true_eq] at hg
      rw [hz]; simp only [decide_eq_true_eq]; omega
    · have h4 := h4 _ rfl
      obtain ⟨hg, h⟩ := bif_none h
      simp only [Option.some.injEq] at h; subst h
      simp only [decide_eq_true_eq] at hg
      rw [hz]; simp only [decide_eq_false_iff_not]; omega
    · cases h
  · cases h

theorem findPc_ok {v : V} {b : Bool} : ∀ {pc : List (V × Bool)}, findPc v pc = some b → (v, b) ∈ pc
  | [], h => by cases h
  | (u, d) :: r, h => by
    unfold findPc at h
    rcases bif_some h with ⟨hg, h⟩ | ⟨_, h⟩
    · simp only [Option.some.injEq] at h; subst h
      rw [V.eq_eq hg]
      exact List.mem_cons_self ..
    · exact List.mem_cons_of_mem _ (findPc_ok h)

theorem eql_str {t : TypeId} {lit : Bool} {a b : ByteArray} {z : Bool} (h : semPrim c.P (.bin .eql t lit) [.string a, .string b] = some (.bool z)) : z = decide (a = b) := by
  rw [semStr] at h
  have h2 : some (Value.bool (a.toList == b.toList)) = some (.bool z) := h
  simp only [Option.some.injEq, Value.bool.injEq] at h2
  rw [← h2, ByteArray.toList_eq, ByteArray.toList_eq]
  by_cases h : a = b
  · subst h; simp
  · rw [decide_eq_false h]
    cases hb : a.data.toList == b.data.toList
    · rfl
    · exact absurd (ByteArray.ext (Array.ext' (eq_of_beq hb))) h

theorem strOther_ok {x : V} {s : ByteArray} {y : Value} (ho : oneV x = true) (hx : den c.P c.Φ ρ x = some (.string s)) {s' : ByteArray} : ∀ {pc : List (V × Bool)}, (∀ f, f ∈ pc → den c.P c.Φ ρ f.1 = some (.bool f.2)) → strOther x s'.data.toList pc = true → s ≠ s'
  | [], _, h => by cases h
  | f :: r, hf, h => by
    have ih := fun h => strOther_ok (y := y) ho hx (s' := s') (pc := r) (fun g hg => hf g (by simp [hg])) h
    unfold strOther at h
    split at h
    · cases h
    · rename_i heq
      cases heq
      replace h := bif_some' h
      rcases h with ⟨hg, h⟩ | ⟨_, h⟩
      · obtain rfl := V.eq_eq hg
        obtain ⟨a, d, h1, h2, h3⟩ := den_two (hf _ (List.mem_cons_self ..)) ho rfl
        rw [hx] at h1; cases h1
        simp only [den_k, Option.some.injEq] at h2; subst h2
        have := eql_str (c := c) h3
        have he := of_decide_eq_true this.symm
        subst he
        intro e
        subst e
        rw [bytesEqB_self] at h
        cases h
      · exact ih h
    · rename_i heq
      cases heq
      exact ih h

theorem isStrT_ok {t : TypeId} (h : isStrT c t = true) : c.P.underlying t = some .string := by
  unfold isStrT at h
  split at h
  · exact und_spec ‹_›
  · cases h
theorem len_sem {t : TypeId} {s : ByteArray} {x : Value} (ht : c.P.underlying t = some .string) (h : semPrim c.P (.len t) [.string s] = some x) : x = .int .i64 s.size := by
  have h : pureRun c.P (Builtin.len_ #[t] 0 #[.string s]) = some x := h
  unfold Builtin.len_ at h
  have e1 : pureRun c.P (underlying t) = some .string := by
    unfold underlying; rw [pureRun_bind]; simp only [program, pureRun, Option.bind_some, ht]; rfl
  simp only [List.getElem?_toArray, List.getElem?_cons_zero] at h
  rw [pureRun_bind, e1] at h
  have h : some (Value.int .i64 s.size) = some x := h
  simp only [Option.some.injEq] at h; exact h.symm
theorem strEmpty_ok {x : V} {s : ByteArray} {r : Bool} (ho : oneV x = true) (hx : den c.P c.Φ ρ x = some (.string s)) : ∀ {pc : List (V × Bool)}, (∀ f, f ∈ pc → den c.P c.Φ ρ f.1 = some (.bool f.2)) → strEmpty c x pc = some r → r = decide (s.size = 0)
  | [], _, h => by cases h
  | f :: l, hf, h => by
    have ih := fun h => strEmpty_ok (r := r) ho hx (pc := l) (fun g hg => hf g (by simp [hg])) h
    have len : ∀ {t : TypeId} {y : V} {z : Value}, V.eq x y = true → isStrT c t = true → den c.P c.Φ ρ (.prim (.len t) (.cons y .nil)) = some z → z = .int .i64 s.size := by
      intro t y z hg ht hz
      obtain rfl := V.eq_eq hg
      obtain ⟨xs, hd, hp⟩ := den_prim hz
      have hd := D_one hd
      simp only [den, hd, Option.bind_some] at hx
      rw [single_some] at hx
      subst hx
      exact len_sem (isStrT_ok ht) hp
    unfold strEmpty at h
    split at h
    · cases h
    · rename_i heq
      cases heq
      replace h := bif_some h
      rcases h with ⟨hg, h⟩ | ⟨_, h⟩
      · simp only [an_eq, Bool.and_eq_true] at hg
        simp only [Option.some.injEq] at h
        obtain ⟨a, d, h1, h2, h3⟩ := den_two (hf _ (List.mem_cons_self ..)) rfl rfl
        simp only [den_k, Option.some.injEq] at h1
        obtain rfl := len hg.2.1 hg.2.2 h2
        subst h1
        have := lss_int (c := c) h3
        rw [intEqB_eq hg.1] at this
        simp only at this
        rw [← h, this]
        by_cases h0 : s.size = 0
        · simp [h0]
        · have hp : (0 : Int) < s.size := by omega
          rw [decide_eq_true hp, decide_eq_false h0]; rfl
      · exact ih h
    · rename_i heq
      cases heq
      replace h := bif_some h
      rcases h with ⟨hg, h⟩ | ⟨_, h⟩
      · simp only [an_eq, Bool.and_eq_true] at hg
        simp only [Option.some.injEq] at h
        obtain ⟨a, d, h1, h2, h3⟩ := den_two (hf _ (List.mem_cons_self ..)) rfl rfl
        simp only [den_k, Option.some.injEq] at h2
        obtain rfl := len hg.2.1 hg.2.2 h1
        subst h2
        have := eql_int (c := c) h3
        rw [intEqB_eq hg.1] at this
        simp only at this
        rw [← h, this]
        by_cases h0 : s.size = 0
        · simp [h0]
        · have : ¬ (s.size : Int) = 0 := by omega
          simp [h0]
      · exact ih h
    · rename_i heq
      cases heq
      exact ih h

theorem order_nan {b v : Nat} {s : Bool} {t : Nat} (h : Ieee.double.read b = .nan s t) : FloatKind.f64.format.order b v = none := by
  show (Ieee.double.read b).order (Ieee.double.read v) = none
  rw [h]; rfl
theorem order_nan' {b v : Nat} {s : Bool} {t : Nat} (h : Ieee.double.read b = .nan s t) : FloatKind.f64.format.order v b = none := by
  show (Ieee.double.read v).order (Ieee.double.read b) = none
  rw [h]
  cases Ieee.double.read v <;> rfl

theorem nan_cmp {op : BinOp} {t : TypeId} {lit : Bool} {a b : Nat} {z r : Bool} (hn : FloatKind.f64.format.order a b = none) (hr : nanCmp op = some r) (h : semPrim c.P (.bin op t lit) [.float .f64 a, .float .f64 b] = some (.bool z)) : z = r := by
  have hop : isCmp op = true := by cases op <;> simp only [nanCmp, reduceCtorEq] at hr <;> rfl
  rw [semFloat hop] at h
  cases op <;> simp only [nanCmp, Option.some.injEq, reduceCtorEq] at hr <;> subst hr <;>
    (simp only [Op.floatCmp, hn] at h; have h' : some (Value.bool _) = some (Value.bool z) := h; simp only [Option.some.injEq, Value.bool.injEq] at h'; rw [← h']; rfl)

theorem num_cmp {op : BinOp} {t : TypeId} {lit : Bool} {b : Nat} {z r : Bool} (hn : ∀ s t, Ieee.double.read b ≠ .nan s t) (hr : sameCmp op = some r) (h : semPrim c.P (.bin op t lit) [.float .f64 b, .float .f64 b] = some (.bool z)) : z = r := by
  have hord : FloatKind.f64.format.order b b = some .eq := by
    show (Ieee.double.read b).order (Ieee.double.read b) = _
    cases hd : Ieee.double.read b with
    | nan s t => exact absurd hd (hn s t)
    | infinity s => simp [Ieee.Datum.order]
    | number s m i => simp [Ieee.Datum.order]
  unfold sameCmp at hr
  split at hr
  · simp only [Option.some.injEq] at hr; subst hr
    rw [semFloat rfl] at h
    have h' : some (Value.bool (FloatKind.f64.format.order b b == some .eq)) = some (Value.bool z) := h
    rw [hord] at h'
    simp only [Option.some.injEq, Value.bool.injEq] at h'
    rw [← h']; rfl
  · simp only [Option.some.injEq] at hr; subst hr
    rw [semFloat rfl] at h
    have h' : some (Value.bool (FloatKind.f64.format.order b b == some .lt)) = some (Value.bool z) := h
    rw [hord] at h'
    simp only [Option.some.injEq, Value.bool.injEq] at h'
    rw [← h']; rfl
  · cases hr

theorem tyClass_int {t : Ty} (h : tyClass (some t) = 1) : ∃ k lo hi, inty t = some (k, lo, hi) := by
  cases t <;> simp only [tyClass, reduceCtorEq] at h <;> first | exact ⟨_, _, _, rfl⟩ | omega
theorem tyClass_str {t : Ty} (h : tyClass (some t) = 2) : t = .str := by
  cases t <;> simp only [tyClass] at h <;> first | rfl | omega
theorem tyClass_flt {t : Ty} (h : tyClass (some t) = 3) : floaty t = true := by
  cases t <;> first | rfl | (simp only [tyClass] at h; omega)
theorem order_eq_symm (a b : Ieee.Datum) : (a.order b == some .eq) = (b.order a == some .eq) := by
  have cmp : ∀ x y : Int, (some (compare x y) == some Ordering.eq) = (some (compare y x) == some Ordering.eq) := by
    intro x y
    by_cases h : x = y
    · subst h; rfl
    · have h1 : compare x y ≠ .eq := fun e => h (Int.compare_eq_eq.1 e)
      have h2 : compare y x ≠ .eq := fun e => h (Int.compare_eq_eq.1 e).symm
      cases h3 : compare x y <;> cases h4 : compare y x <;> simp_all
  cases a with
  | nan s t => cases b <;> rfl
  | infinity s => cases b with
    | nan => rfl
    | infinity t => cases s <;> cases t <;> rfl
    | number t n j => cases s <;> rfl
  | number s m i => cases b with
    | nan => rfl
    | infinity t => cases t <;> rfl
    | number t n j =>
      simp only [Ieee.Datum.order]
      rw [Int.min_comm j i]
      exact cmp _ _
theorem eql_flt {t : TypeId} {lit : Bool} {a b : Nat} {z : Bool} (h : semPrim c.P (.bin .eql t lit) [.float .f64 a, .float .f64 b] = some (.bool z)) : z = (FloatKind.f64.format.order a b == some .eq) := by
  rw [semFloat rfl] at h
  have h' : some (Value.bool (FloatKind.f64.format.order a b == some .eq)) = some (Value.bool z) := h
  simp only [Option.some.injEq, Value.bool.injEq] at h'
  exact h'.symm
theorem findPcX_ok (hs : SatH c F ρ S w) {v : V} {b z : Bool} (hv : den c.P c.Φ ρ v = some (.bool z)) (h : findPcX c S v = some b) : z = b := by
  have key : ∀ {u : V} {r : Bool}, (u, r) ∈ S.pc → den c.P c.Φ ρ u = some (.bool r) := fun hm => hs.pc _ hm
  unfold findPcX at h
  split at h
  · rename_i b' hb
    simp only [Option.some.injEq] at h; subst h
    have := key (findPc_ok hb)
    rw [hv] at this
    simp only [Option.some.injEq, Value.bool.injEq] at this
    exact this
  · split at h
    · rename_i t l x y _
      · obtain ⟨hg, h⟩ := bif_none h
        simp only [Bool.and_eq_true, Bool.not_eq_true'] at hg
        obtain ⟨hg1, hg2⟩ := hg
        have hk := key (findPc_ok h)
        cases htx : tyOf c S x with
        | none => rw [htx] at hg2; simp [tyClass] at hg2
        | some tx =>
          rw [htx] at hg1 hg2
          cases hty : tyOf c S y with
          | none => rw [hty] at hg1; rw [Nat.eq_of_beq_eq_true hg1] at hg2; simp [tyClass] at hg2
          | some ty =>
            rw [hty] at hg1
            have hcl := Nat.eq_of_beq_eq_true hg1
            obtain ⟨a1, a2, e1, e2, hp⟩ := den_two hv (tyOf_one htx) (tyOf_one hty)
            obtain ⟨b2, b1, f2, f1, hq⟩ := den_two hk (tyOf_one hty) (tyOf_one htx)
            rw [e1] at f1; cases f1
            rw [e2] at f2; cases f2
            obtain ⟨x1, hx1, hat⟩ := tyOf_ok hs htx
            rw [e1] at hx1; cases hx1
            obtain ⟨x2, hx2, hbt⟩ := tyOf_ok hs hty
            rw [e2] at hx2; cases hx2
            have h3 : tyClass (some tx) = 1 ∨ tyClass (some tx) = 2 ∨ tyClass (some tx) = 3 := by
              have h0 : tyClass (some tx) ≠ 0 := fun e => by rw [e] at hg2; cases hg2
              cases tx <;> first | exact .inl rfl | exact .inr (.inl rfl) | exact .inr (.inr rfl) | exact absurd rfl h0
            rcases h3 with h3 | h3 | h3
            · obtain ⟨k1, l1, i1, q1⟩ := tyClass_int h3
              obtain ⟨k2, l2, i2, q2⟩ := tyClass_int (hcl ▸ h3)
              obtain ⟨n, rfl, _⟩ := inty_ok q1 hat
              obtain ⟨m, rfl, _⟩ := inty_ok q2 hbt
              rw [eql_int (c := c) hp, eql_int (c := c) hq]
              simp only [decide_eq_decide]
              exact eq_comm
            · obtain rfl := tyClass_str h3
              obtain rfl := tyClass_str (hcl ▸ h3)
              obtain ⟨s1, rfl⟩ := hat
              obtain ⟨s2, rfl⟩ := hbt
              rw [eql_str (c := c) hp, eql_str (c := c) hq]
              simp only [decide_eq_decide]
              exact eq_comm
            · obtain ⟨s1, rfl⟩ := floaty_ok (tyClass_flt h3) hat
              obtain ⟨s2, rfl⟩ := floaty_ok (tyClass_flt (hcl ▸ h3)) hbt
              rw [eql_flt (c := c) hp, eql_flt (c := c) hq]
              exact order_eq_symm _ _
    · cases h

theorem knownX_ok (hs : SatH c F ρ S w) {v : V} {b z : Bool} (hv : den c.P c.Φ ρ v = some (.bool z)) (h : knownX c S v = some b) : z = b := by
  unfold knownX at h
  split at h
  · simp only [Option.some.injEq] at h; subst h
    simp only [den_k, Option.some.injEq, Value.bool.injEq] at hv
    exact hv.symm
  · obtain ⟨z', h1, h2⟩ := polX_den (b := true) hv
    simp only [Option.map_eq_some_iff] at h
    obtain ⟨r, hr, rfl⟩ := h
    have key : z' = r := by
      split at hr
      · rename_i b' hb
        simp only [Option.some.injEq] at hr; subst hr
        exact findPcX_ok hs h1 hb
      · split at hr
        · rename_i op t l x y heq
          rw [heq] at h1
          have hone : ∀ {u : V} {r}, boundsX c S u = some r → oneV u = true := by
            intro u r hu
            unfold boundsX at hu
            split at hu
            · rfl
            · simp only [Option.bind_eq_some_iff] at hu
              obtain ⟨t, ht, _⟩ := hu
              exact tyOf_one ht
          have num : ∀ {ty : Ty} {k lo hi}, tyOf c S x = some ty → inty ty = some (k, lo, hi) → (bif V.eq x y then sameCmp op else (boundsX c S x).bind fun a => (boundsX c S y).bind fun b => cmpBounds op a b) = some r → z' = r := by
            intro ty k lo hi hty hin hr
            replace hr := bif_some hr
            rcases hr with ⟨hg, hr⟩ | ⟨_, hr⟩
            · rw [← V.eq_eq hg] at h1
              obtain ⟨a, ha, hat⟩ := tyOf_ok hs hty
              obtain ⟨n, rfl, _⟩ := inty_ok hin hat
              have ho := tyOf_one hty
              obtain ⟨a1, a2, e1, e2, hp⟩ := den_two h1 ho ho
              rw [ha] at e1 e2; cases e1; cases e2
              unfold sameCmp at hr
              split at hr
              · simp only [Option.some.injEq] at hr; subst hr
                rw [eql_int (c := c) hp]; simp
              · simp only [Option.some.injEq] at hr; subst hr
                rw [lss_int (c := c) hp]; simp
              · cases hr
            · simp only [Option.bind_eq_some_iff] at hr
              obtain ⟨ra, hra, rb, hrb, hr⟩ := hr
              obtain ⟨k1, n, hn, hin⟩ := boundsX_ok hs hra
              obtain ⟨k2, m, hm, hin'⟩ := boundsX_ok hs hrb
              obtain ⟨a1, a2, e1, e2, hp⟩ := den_two h1 (hone hra) (hone hrb)
              rw [hn] at e1; cases e1
              rw [hm] at e2; cases e2
              exact cmpBounds_ok hin hin' hr hp
          have flt : ∀ {tx ty : Ty}, tyOf c S x = some tx → tyOf c S y = some ty → floaty tx = true → floaty ty = true → (tx = .nan ∨ ty = .nan) → nanCmp op = some r → z' = r := by
            intro tx ty hx hy hfx hfy hor hr
            obtain ⟨a, ha, hat⟩ := tyOf_ok hs hx
            obtain ⟨b, hb, hbt⟩ := tyOf_ok hs hy
            obtain ⟨a1, a2, e1, e2, hp⟩ := den_two h1 (tyOf_one hx) (tyOf_one hy)
            rw [ha] at e1; cases e1
            rw [hb] at e2; cases e2
            rcases hor with rfl | rfl
            · obtain ⟨u, s, t, rfl, hn⟩ := hat
              obtain ⟨v, rfl⟩ := floaty_ok hfy hbt
              exact nan_cmp (order_nan hn) hr hp
            · obtain ⟨v, s, t, rfl, hn⟩ := hbt
              obtain ⟨u, rfl⟩ := floaty_ok hfx hat
              exact nan_cmp (order_nan' hn) hr hp
          have nmy : ∀ {tx : Ty}, tyOf c S x = some tx → numy tx = true → (bif V.eq x y then sameCmp op else (match tyOf c S y with
              | some .nan => nanCmp op
              | _ => none)) = some r → z' = r := by
            intro tx hty hny hr
            replace hr := bif_some hr
            rcases hr with ⟨hg, hr⟩ | ⟨_, hr⟩
            · rw [← V.eq_eq hg] at h1
              obtain ⟨a, ha, hat⟩ := tyOf_ok hs hty
              obtain ⟨b, rfl, hnn⟩ := numy_ok hny hat
              have ho := tyOf_one hty
              obtain ⟨a1, a2, e1, e2, hp⟩ := den_two h1 ho ho
              rw [ha] at e1 e2; cases e1; cases e2
              exact num_cmp hnn hr hp
            · split at hr
              · rename_i hty'; exact flt hty hty' (by cases tx <;> first | rfl | cases hny) rfl (.inr rfl) hr
              · cases hr
          split at hr
          · rename_i hty
            split at hr
            · replace hr := bif_some hr
              rcases hr with ⟨hg, hr⟩ | ⟨_, hr⟩
              rotate_left
              · obtain ⟨hsz, hr⟩ := bif_none hr
                obtain ⟨a, ha, sa, rfl⟩ := tyOf_ok hs hty
                have ho := tyOf_one hty
                obtain ⟨a1, a2, e1, e2, hp⟩ := den_two h1 ho rfl
                rw [ha] at e1; cases e1
                simp only [den_k, Option.some.injEq] at e2; subst e2
                rw [eql_str (c := c) hp, strEmpty_ok ho ha hs.pc hr]
                have hsz := beqT hsz
                by_cases h0 : sa.size = 0
                · rw [decide_eq_true h0]
                  refine decide_eq_true (ByteArray.ext ?_)
                  rw [Array.eq_empty_of_size_eq_zero (show sa.data.size = 0 from h0), Array.eq_empty_of_size_eq_zero hsz]
                · rw [decide_eq_false h0]
                  refine decide_eq_false (fun e => h0 ?_)
                  rw [e]; exact hsz
              simp only [Option.some.injEq] at hr; subst hr
              obtain ⟨a, ha, sa, rfl⟩ := tyOf_ok hs hty
              have ho := tyOf_one hty
              obtain ⟨a1, a2, e1, e2, hp⟩ := den_two h1 ho rfl
              rw [ha] at e1; cases e1
              simp only [den_k, Option.some.injEq] at e2; subst e2
              have he := eql_str (c := c) hp
              cases z' with
              | false => rfl
              | true =>
                have he := of_decide_eq_true he.symm
                exact absurd he (strOther_ok (y := .nilFunc) ho ha hs.pc hg)
            · replace hr := bif_none hr
              obtain ⟨hg, hr⟩ := hr
              simp only [Option.some.injEq] at hr; subst hr
              obtain rfl := V.eq_eq hg
              obtain ⟨a, ha, sa, rfl⟩ := tyOf_ok hs hty
              have ho := tyOf_one hty
              obtain ⟨a1, a2, e1, e2, hp⟩ := den_two h1 ho ho
              rw [ha] at e1 e2; cases e1; cases e2
              rw [eql_str (c := c) hp]; simp
            · cases hr
          · rename_i hty
            split at hr
            · rename_i hty'
              obtain ⟨hf, hr⟩ := bif_none hr
              exact flt hty hty' rfl hf (.inl rfl) hr
            · cases hr
          · rename_i hty
            split at hr
            · rename_i hty'; exact flt hty hty' rfl rfl (.inr rfl) hr
            · cases hr
          · rename_i hty; exact nmy hty rfl hr
          · rename_i hty; exact nmy hty rfl hr
          · rename_i hty; exact num hty rfl hr
          · rename_i hty; exact num hty rfl hr
          · cases hr
        · cases hr
    rw [key] at h2
    cases z <;> simp_all
end
end Go.Proofs.Ytobghgfmdjknlaa.Sx
