/- Symbolic execution: what is told of what is not known: types, bounds, truths. -/
import Derived.Test.YtobghgfmdjknlaaSxOps
import Derived.Test.YtobghgfmdjknlaaSxFloat
namespace Go.Proofs.Ytobghgfmdjknlaa.Sx
open Go
set_option linter.unusedSectionVars false

theorem litEq_eq {x y : Value} (h : litEq x y = true) : x = y := by
  unfold litEq at h
  split at h
  case h_2 k a l b => rw [an_eq, Bool.and_eq_true, decide_eq_true_eq] at h; rw [intEqB_eq h.1, h.2]
  case h_3 k a l b => rw [an_eq, Bool.and_eq_true, decide_eq_true_eq] at h; rw [beqT h.1, h.2]
  case h_4 a b =>
    have := bytesEqB_eq h
    congr 1
    apply ByteArray.ext
    exact Array.ext' this
  case h_6 a c b d => simp only [Bool.and_eq_true] at h; rw [beqT h.1, beqT h.2]
  case h_10 a b =>
    simp only [Bool.and_eq_true] at h
    have e1 := beqT h.1
    have e2 := beqT h.2
    rw [Array.eq_empty_of_size_eq_zero e1, Array.eq_empty_of_size_eq_zero e2]
  case h_11 f a b g c d =>
    simp only [Bool.and_eq_true] at h
    obtain ⟨⟨⟨⟨h1, h2⟩, h3⟩, h4⟩, h5⟩ := h
    rw [beqT h1, Array.eq_empty_of_size_eq_zero (beqT h2), Array.eq_empty_of_size_eq_zero (beqT h3), Array.eq_empty_of_size_eq_zero (beqT h4), Array.eq_empty_of_size_eq_zero (beqT h5)]
  all_goals first
    | rfl
    | cases h
    | (simp only [beq_iff_eq] at h; subst h; rfl)
    | (simp only [decide_eq_true_eq] at h; obtain ⟨h1, h2⟩ := h; first | (subst h1; subst h2; rfl) | (subst h1; rw [beqT h2]))
    | (simp only [decide_eq_true_eq] at h; subst h; rfl)
theorem litEqL_eq : ∀ {x y : List Value}, litEqL x y = true → x = y
  | [], [], _ => rfl
  | [], _ :: _, h => by simp [litEqL] at h
  | _ :: _, [], h => by simp [litEqL] at h
  | a :: x, b :: y, h => by
    simp only [litEqL, Bool.and_eq_true] at h
    rw [litEq_eq h.1, litEqL_eq h.2]
theorem kEq_eq {x y : Value} (h : kEq x y = true) : x = y := by
  unfold kEq at h
  split at h
  · congr 1
    apply Array.ext'
    exact litEqL_eq h
  · exact litEq_eq h
theorem V.eq_eq : ∀ {x y : V}, V.eq x y = true → x = y := by
  intro x
  induction x with
  | k a => intro y h; cases y <;> simp only [V.eq, Bool.false_eq_true] at h; rw [kEq_eq h]
  | var n => intro y h; cases y <;> simp only [V.eq, Bool.false_eq_true] at h; rw [beqT h]
  | prim p a ih => intro y h; cases y <;> simp only [V.eq, Bool.false_eq_true, Bool.and_eq_true, decide_eq_true_eq] at h; rw [h.1, ih h.2]
  | app f a ih => intro y h; cases y <;> simp only [V.eq, Bool.false_eq_true, Bool.and_eq_true] at h; rw [beqT h.1, ih h.2]
  | ptr n o => intro y h; cases y <;> simp only [V.eq, Bool.false_eq_true, Bool.and_eq_true] at h; rw [beqT h.1, beqT h.2]
  | map n => intro y h; cases y <;> simp only [V.eq, Bool.false_eq_true] at h; rw [beqT h]
  | slice n o l c ihl ihc => intro y h; cases y <;> simp only [V.eq, Bool.false_eq_true, Bool.and_eq_true] at h; rw [beqT h.1.1.1, beqT h.1.1.2, ihl h.1.2, ihc h.2]
  | func f a b iha ihb => intro y h; cases y <;> simp only [V.eq, Bool.false_eq_true, Bool.and_eq_true, decide_eq_true_eq] at h; rw [h.1.1, iha h.1.2, ihb h.2]
  | iface t v ih => intro y h; cases y <;> simp only [V.eq, Bool.false_eq_true, Bool.and_eq_true] at h; rw [beqT h.1, ih h.2]
  | agg a ih => intro y h; cases y <;> simp only [V.eq, Bool.false_eq_true] at h; rw [ih h]
  | tup a ih => intro y h; cases y <;> simp only [V.eq, Bool.false_eq_true] at h; rw [ih h]
  | nil => intro y h; cases y <;> simp only [V.eq, Bool.false_eq_true] at h; rfl
  | cons a b iha ihb => intro y h; cases y <;> simp only [V.eq, Bool.false_eq_true, Bool.and_eq_true] at h; rw [iha h.1, ihb h.2]
theorem V.eqL_eq : ∀ {x y : List V}, V.eqL x y = true → x = y
  | [], [], _ => rfl
  | [], _ :: _, h => by simp [V.eqL] at h
  | _ :: _, [], h => by simp [V.eqL] at h
  | a :: x, b :: y, h => by
    simp only [V.eqL, Bool.and_eq_true] at h
    rw [V.eq_eq h.1, V.eqL_eq h.2]
theorem V.eqO_eq {x y : Option V} (h : V.eqO x y = true) : x = y := by
  unfold V.eqO at h
  split at h
  · rfl
  · rw [V.eq_eq h]
  · cases h
theorem esEq_eq : ∀ {x y : List (Value × V × Nat)}, esEq x y = true → x = y
  | [], [], _ => rfl
  | [], _ :: _, h => by simp [esEq] at h
  | _ :: _, [], h => by simp [esEq] at h
  | (k, v, b) :: x, (l, u, d) :: y, h => by
    simp only [esEq, Bool.and_eq_true] at h
    rw [kEq_eq h.1.1.1, V.eq_eq h.1.1.2, beqT h.1.2, esEq_eq h.2]
theorem Ent.eq_eq {x y : Option Ent} (h : Ent.eq x y = true) : x = y := by
  unfold Ent.eq at h
  split at h
  · rfl
  · simp only [Bool.and_eq_true, decide_eq_true_eq] at h
    rw [V.eqL_eq h.1.1, beqT h.1.2, h.2]
  · rfl
  · simp only [decide_eq_true_eq] at h; rw [h]
  · simp only [Bool.and_eq_true] at h; rw [esEq_eq h.1, beqT h.2]
  · cases h

theorem V.eqP_eq : ∀ {x y : List (V × Bool)}, V.eqP x y = true → x = y
  | [], [], _ => rfl
  | [], _ :: _, h => by simp [V.eqP] at h
  | _ :: _, [], h => by simp [V.eqP] at h
  | (a, p) :: x, (b, q) :: y, h => by
    simp only [V.eqP, an_eq, Bool.and_eq_true, beq_iff_eq] at h
    rw [V.eq_eq h.2.1, V.eqP_eq h.2.2, h.1]

section
variable {c : Cfg} {F : Wd} [k : COk c] {ρ : Env} {S : St} {w : World}

theorem tyF_ok (b : Nat) : hasTy (.float .f64 b) (tyF b) := by
  unfold tyF
  split
  · rename_i s m i h; exact ⟨b, s, m, i, rfl, h⟩
  · rename_i s h; exact ⟨b, rfl, fun s t e => by rw [h] at e; cases e⟩
  · rename_i s t h; exact ⟨b, s, t, rfl, h⟩
theorem tyK_ok {x : Value} {t : Ty} (h : tyK x = some t) : hasTy x t := by
  unfold tyK at h
  split at h <;> first | cases h | (simp only [Option.some.injEq] at h; subst h)
  · exact ⟨_, rfl⟩
  · exact ⟨_, rfl, Int.le_refl _, fun h e => by simp only [Option.some.injEq] at e; subst e; exact Int.le_refl _⟩
  · exact tyF_ok _
  · exact ⟨_, rfl⟩

theorem wrap_self {k : IntKind} {n : Int} (h : k.min ≤ n) (h' : n ≤ k.max) : k.wrap n = n := by
  cases k <;> simp [IntKind.wrap, IntKind.min, IntKind.max, IntKind.signed, IntKind.bits] at h h' ⊢ <;> (try split) <;> omega
theorem wrap_in (k : IntKind) (n : Int) : k.min ≤ k.wrap n ∧ k.wrap n ≤ k.max := by
  cases k <;> simp [IntKind.wrap, IntKind.min, IntKind.max, IntKind.signed, IntKind.bits] <;> (try split) <;> omega

theorem inty_ok {t : Ty} {k : IntKind} {lo : Int} {hi : Option Int} {x : Value} (h : inty t = some (k, lo, hi)) (hx : hasTy x t) : ∃ n, x = .int k n ∧ lo ≤ n ∧ ∀ h, hi = some h → n ≤ h := by
  unfold inty at h
  split at h
  · simp only [Option.some.injEq, Prod.mk.injEq] at h; obtain ⟨rfl, rfl, rfl⟩ := h; exact hx
  · simp only [Option.some.injEq, Prod.mk.injEq] at h
    obtain ⟨rfl, rfl, rfl⟩ := h
    obtain ⟨m, rfl, hm⟩ := hx
    exact ⟨_, rfl, by simpa using hm, fun _ e => by cases e⟩
  · cases h
theorem floaty_ok {t : Ty} {x : Value} (h : floaty t = true) (hx : hasTy x t) : ∃ b, x = .float .f64 b := by
  unfold floaty at h
  split at h
  · exact hx
  · obtain ⟨b, _, _, rfl, _⟩ := hx; exact ⟨b, rfl⟩
  · obtain ⟨b, rfl, _⟩ := hx; exact ⟨b, rfl⟩
  · obtain ⟨b, _, _, _, rfl, _⟩ := hx; exact ⟨b, rfl⟩
  · cases h
theorem numy_ok {t : Ty} {x : Value} (h : numy t = true) (hx : hasTy x t) : ∃ b, x = .float .f64 b ∧ ∀ s t, Ieee.double.read b ≠ .nan s t := by
  unfold numy at h
  split at h
  · exact hx
  · obtain ⟨b, _, _, _, rfl, hr⟩ := hx; exact ⟨b, rfl, fun s t e => by rw [hr] at e; cases e⟩
  · cases h

theorem fullTy_in {k : IntKind} {n : Int} (h : k.min ≤ n) (h' : n ≤ k.max) : hasTy (.int k n) (fullTy k) :=
  ⟨_, rfl, h, fun h e => by simp only [Option.some.injEq] at e; subst e; exact h'⟩
theorem fullTy_wrap (k : IntKind) (n : Int) : hasTy (.int k (k.wrap n)) (fullTy k) :=
  ⟨_, rfl, (wrap_in k n).1, fun h e => by simp only [Option.some.injEq] at e; subst e; exact (wrap_in k n).2⟩
theorem rangeTy_wrap {k : IntKind} {n lo hi : Int} (h : lo ≤ n) (h' : n ≤ hi) : hasTy (.int k (k.wrap n)) (rangeTy k lo hi) := by
  unfold rangeTy
  by_cases hb : k.min ≤ lo ∧ hi ≤ k.max
  · rw [show (decide (k.min ≤ lo) && decide (hi ≤ k.max)) = true by simp [hb]]
    refine ⟨_, rfl, ?_, fun h e => ?_⟩
    · rw [wrap_self (by omega) (by omega)]; exact h
    · simp only [Option.some.injEq] at e; subst e
      rw [wrap_self (by omega) (by omega)]; exact h'
  · rw [show (decide (k.min ≤ lo) && decide (hi ≤ k.max)) = false by simp only [Bool.and_eq_false_iff, decide_eq_false_iff_not]; omega]
    exact fullTy_wrap k n

theorem pureRun_bind {P : Program} {α β : Type} (s : Sem α) (f : α → Sem β) : pureRun P (s >>= f) = (pureRun P s).bind fun a => pureRun P (f a) := by
  show pureRun P (s.bind f) = _
  induction s with
  | pure a => rfl
  | program k ih => exact ih P
  | mark m k ih => exact ih
  | _ => rfl

theorem pr_pure {P : Program} {α : Type} (a : α) : pureRun P (pure a : Sem α) = some a := rfl

theorem eqG_scalar {op : BinOp} {t : TypeId} {lit : Bool} {x y : Value} (hx : x ≠ .nilIface) (hy : ∀ l, x ≠ .agg l) : pureRun c.P (eqG op t lit x y) = some () := by
  unfold eqG
  cases op <;> first | rfl | (cases x <;> first | rfl | exact absurd rfl hx | exact absurd rfl (hy _))
theorem semBin {op : BinOp} {t : TypeId} {lit : Bool} {x y : Value} (hx : x ≠ .nilIface) (hy : ∀ l, x ≠ .agg l) : semPrim c.P (.bin op t lit) [x, y] = pureRun c.P (binOp op t x y) := by
  show pureRun c.P (eqG op t lit x y >>= fun _ => binOp op t x y) = _
  rw [pureRun_bind, eqG_scalar hx hy]
  rfl

/-! ### comparisons -/
theorem semInt {op : BinOp} {t : TypeId} {lit : Bool} {k : IntKind} {a b : Int} (hop : isCmp op = true) : semPrim c.P (.bin op t lit) [.int k a, .int k b] = pureRun c.P (Op.intCmp op a b) := by
  rw [semBin (by simp) (by simp)]
  cases op <;> simp only [isCmp, Bool.false_eq_true] at hop <;> simp [binOp]
theorem semInt_other {op : BinOp} {t : TypeId} {lit : Bool} {k k' : IntKind} {a b : Int} (hop : isCmp op = true) (h : k ≠ k') : semPrim c.P (.bin op t lit) [.int k a, .int k' b] = none := by
  rw [semBin (by simp) (by simp)]
  cases op <;> simp only [isCmp, Bool.false_eq_true] at hop <;> simp [binOp, h, stuck, pureRun]
theorem semFloat {op : BinOp} {t : TypeId} {lit : Bool} {a b : Nat} (hop : isCmp op = true) : semPrim c.P (.bin op t lit) [.float .f64 a, .float .f64 b] = pureRun c.P (Op.floatCmp op .f64 a b) := by
  rw [semBin (by simp) (by simp)]
  cases op <;> simp only [isCmp, Bool.false_eq_true] at hop <;> simp [binOp]
theorem semStr {op : BinOp} {t : TypeId} {lit : Bool} {a b : ByteArray} : semPrim c.P (.bin op t lit) [.string a, .string b] = pureRun c.P (Op.stringOp op a b) := by
  rw [semBin (by simp) (by simp)]
  cases op <;> simp [binOp]
theorem semBool {op : BinOp} {t : TypeId} {lit : Bool} {a b : Bool} (ht : c.P.underlying t = some .bool) (hop : isEq op = true) :
    semPrim c.P (.bin op t lit) [.bool a, .bool b] = some (.bool (match op with | .neq => !(a == b) | _ => a == b)) := by
  rw [semBin (by simp) (by simp)]
  have he : pureRun c.P (Op.equal t (.bool a) (.bool b)) = some (a == b) := by
    unfold Op.equal Op.maxDepth Op.equalIn underlying
    simp only [pureRun_bind]
    show ((pureRun c.P (program >>= fun p => _)).bind _) = _
    simp only [program, pureRun_bind, pureRun, ht, Option.bind_some, pr_pure]
  have h2 : ∀ g : Bool → Value, pureRun c.P (do pure (g (← Op.equal t (.bool a) (.bool b))) : Sem Value) = some (g (a == b)) := by
    intro g; rw [pureRun_bind, he]; rfl
  cases op <;> simp only [isEq, Bool.false_eq_true] at hop
  · exact h2 Value.bool
  · exact h2 fun r => Value.bool !r

theorem cmp_some_int {op : BinOp} {a b : Int} (hop : isCmp op = true) : ∃ r, pureRun c.P (Op.intCmp op a b) = some (.bool r) := by
  cases op <;> simp only [isCmp, Bool.false_eq_true] at hop <;> exact ⟨_, rfl⟩
theorem cmp_some_float {op : BinOp} {a b : Nat} (hop : isCmp op = true) : ∃ r, pureRun c.P (Op.floatCmp op .f64 a b) = some (.bool r) := by
  cases op <;> simp only [isCmp, Bool.false_eq_true] at hop <;> exact ⟨_, rfl⟩
theorem cmp_some_str {op : BinOp} {a b : ByteArray} (hop : isCmp op = true) : ∃ r, pureRun c.P (Op.stringOp op a b) = some (.bool r) := by
  cases op <;> simp only [isCmp, Bool.false_eq_true] at hop <;> exact ⟨_, rfl⟩

theorem all2_one {xs : List Value} {t : Ty} (h : All2 hasTy xs [t]) : ∃ x, xs = [x] ∧ hasTy x t := by
  cases h with | cons h r => cases r; exact ⟨_, rfl, h⟩
theorem all2_two {xs : List Value} {t u : Ty} (h : All2 hasTy xs [t, u]) : ∃ x y, xs = [x, y] ∧ hasTy x t ∧ hasTy y u := by
  cases h with | cons h r => obtain ⟨y, rfl, hy⟩ := all2_one r; exact ⟨_, y, rfl, h, hy⟩

theorem extFloat_ok {r t : Ty} {ts : List Ty} {xs : List Value} (h : extFloat r ts = some t) (hx : All2 hasTy xs ts) : t = r ∧ ∃ b, xs = [.float .f64 b] := by
  unfold extFloat at h
  split at h
  · obtain ⟨hf, h⟩ := bif_none h
    simp only [Option.some.injEq] at h
    obtain ⟨x, rfl, hxt⟩ := all2_one hx
    obtain ⟨b, rfl⟩ := floaty_ok hf hxt
    exact ⟨h.symm, b, rfl⟩
  · cases h
theorem extU64_ok {r t : Ty} {ts : List Ty} {xs : List Value} (h : extU64 r ts = some t) (hx : All2 hasTy xs ts) : t = r ∧ ∃ n, xs = [.int .u64 n] := by
  unfold extU64 at h
  split at h
  · rw [Option.bind_eq_some_iff] at h
    obtain ⟨⟨k, lo, hi⟩, hp, h⟩ := h
    replace h := bif_none h
    obtain ⟨hf, h⟩ := h
    simp only [Option.some.injEq] at h
    simp only [decide_eq_true_eq] at hf
    subst hf
    obtain ⟨x, rfl, hxt⟩ := all2_one hx
    obtain ⟨n, rfl, _⟩ := inty_ok hp hxt
    exact ⟨h.symm, n, rfl⟩
  · cases h
theorem extNum_ok {r t : Ty} {ts : List Ty} {xs : List Value} (h : extNum r ts = some t) (hx : All2 hasTy xs ts) : t = r ∧ ∃ b, xs = [.float .f64 b] ∧ ∀ s t, Ieee.double.read b ≠ .nan s t := by
  unfold extNum at h
  split at h
  · replace h := bif_none h
    obtain ⟨hf, h⟩ := h
    simp only [Option.some.injEq] at h
    obtain ⟨x, rfl, hxt⟩ := all2_one hx
    obtain ⟨b, rfl, hn⟩ := numy_ok hf hxt
    exact ⟨h.symm, b, rfl, hn⟩
  · cases h
theorem trunc_num {P : Program} {b : Nat} {nm : String} {way : Ieee.Toward} (hn : ∀ s t, Ieee.double.read b ≠ .nan s t) : ∃ d, pureRun P (Extern.MathFloor.toIntegral nm way #[.float .f64 b]) = some (.float .f64 d) := by
  have h : Extern.MathFloor.toIntegral nm way #[.float .f64 b] = (match FloatKind.f64.decode b with
    | .nan s t =>
      if FloatKind.f64.format.quiet t = t then pure (.float .f64 b) else do
      let kept ← choose (.extern "math.Floor,Ceil,Trunc,RoundToEven.signallingNaN kept" 2)
      pure (.float .f64 (if kept == 1 then b else FloatKind.f64.encode (.nan s (FloatKind.f64.format.quiet t))))
    | d => pure (.float .f64 (FloatKind.f64.encode (d.integral way)))) := rfl
  rw [h]
  generalize hd : FloatKind.f64.decode b = dd
  have hd' : Ieee.double.read b = dd := hd
  cases dd with
  | nan s t => exact absurd hd' (hn s t)
  | infinity s => exact ⟨_, rfl⟩
  | number s m i => exact ⟨_, rfl⟩
theorem arith_ok {op : BinOp} {t : TypeId} {lit : Bool} {k : IntKind} {a b lo lo' : Int} {hi hi' : Option Int} {ty : Ty} (h : arithTy op k lo hi lo' hi' = some ty)
    (ha : lo ≤ a) (ha' : ∀ h, hi = some h → a ≤ h) (hb : lo' ≤ b) (hb' : ∀ h, hi' = some h → b ≤ h) : ∃ x, semPrim c.P (.bin op t lit) [.int k a, .int k b] = some x ∧ hasTy x ty := by
  rw [semBin (by simp) (by simp)]
  have full : ∀ {op : BinOp} {n : Int}, some (fullTy k) = some ty → pureRun c.P (binOp op t (.int k a) (.int k b)) = some (.int k (k.wrap n)) → ∃ x, pureRun c.P (binOp op t (.int k a) (.int k b)) = some x ∧ hasTy x ty := by
    intro op n he hr
    simp only [Option.some.injEq] at he; subst he
    exact ⟨_, hr, fullTy_wrap k _⟩
  unfold arithTy at h
  split at h
  · simp only [Option.some.injEq] at h; subst h
    refine ⟨.int k (k.wrap (a + b)), by simp [binOp, Op.intArith, pureRun, pure], rangeTy_wrap (by omega) ?_⟩
    have := ha' _ rfl; have := hb' _ rfl; omega
  · simp only [Option.some.injEq] at h; subst h
    refine ⟨.int k (k.wrap (a - b)), by simp [binOp, Op.intArith, pureRun, pure], rangeTy_wrap ?_ ?_⟩ <;> (have := ha' _ rfl; have := hb' _ rfl; omega)
  · exact full (n := a + b) h (by simp [binOp, Op.intArith, pureRun, pure])
  · exact full (n := a - b) h (by simp [binOp, Op.intArith, pureRun, pure])
  · exact full (n := a * b) h (by simp [binOp, Op.intArith, pureRun, pure])
  · exact full (n := _) h (by simp only [binOp, Op.intBits, ne_eq, not_true_eq_false, if_false]; rfl)
  · exact full (n := _) h (by simp only [binOp, Op.intBits, ne_eq, not_true_eq_false, if_false]; rfl)
  · exact full (n := _) h (by simp only [binOp, Op.intBits, ne_eq, not_true_eq_false, if_false]; rfl)
  · exact full (n := _) h (by simp only [binOp, Op.intBits, ne_eq, not_true_eq_false, if_false]; rfl)
  · rename_i h'
    obtain ⟨hg, h⟩ := bif_none h
    simp only [Option.some.injEq] at h; subst h
    simp only [Bool.and_eq_true, decide_eq_true_eq] at hg
    have hb2 := hb' _ rfl
    refine ⟨.int k (a.tmod b), ?_, a.tmod b, rfl, ?_, fun h e => ?_⟩
    · simp only [binOp, Op.intDiv, ne_eq, not_true_eq_false, if_false]
      rw [if_neg (by omega)]
      rfl
    · exact Int.tmod_nonneg _ (by omega)
    · simp only [Option.some.injEq] at e; subst e
      have := Int.tmod_lt_of_pos a (b := b) (by omega)
      omega
  · obtain ⟨hg, h⟩ := bif_none h
    have hg := of_decide_eq_true hg
    refine full (n := a.tdiv b) h ?_
    simp only [binOp, Op.intDiv, ne_eq, not_true_eq_false, if_false]
    rw [if_neg (by omega)]
    rfl
  · cases h

theorem shift_ok {op : BinOp} {t : TypeId} {lit : Bool} {k k' : IntKind} {a b lo lo' : Int} {hi : Option Int} {ty : Ty} (hop : isShift op = true) (h : shiftTy op k lo hi lo' = some ty)
    (ha : lo ≤ a) (ha' : ∀ h, hi = some h → a ≤ h) (hb : lo' ≤ b) : ∃ x, semPrim c.P (.bin op t lit) [.int k a, .int k' b] = some x ∧ hasTy x ty := by
  rw [semBin (by simp) (by simp)]
  unfold shiftTy at h
  obtain ⟨h0, h⟩ := bif_none h
  have h0 := of_decide_eq_true h0
  have hn : ¬ b < 0 := by omega
  split at h
  · simp only [Option.some.injEq] at h; subst h
    refine ⟨.int k (k.wrap (a * 2 ^ (min b.toNat k.bits))), ?_, fullTy_wrap k _⟩
    simp only [binOp, Op.shift, hn, if_false]
    rfl
  · obtain ⟨hg, h⟩ := bif_none h
    simp only [Option.some.injEq] at h; subst h
    simp only [Bool.and_eq_true, decide_eq_true_eq] at hg
    have := ha' _ rfl
    refine ⟨.int k (a.fdiv (2 ^ (min b.toNat k.bits))), ?_, ?_⟩
    · simp only [binOp, Op.shift, hn, if_false]
      rfl
    · have hp : (0 : Int) < 2 ^ (min b.toNat k.bits) := Int.pow_pos (by decide)
      have h1 : ∀ {m : Int}, m ≤ 0 → m ≤ a → m ≤ a.fdiv (2 ^ (min b.toNat k.bits)) := by
        intro m hm hma
        rw [Int.fdiv_eq_ediv_of_nonneg _ (Int.le_of_lt hp), Int.le_ediv_iff_mul_le hp]
        have : m * 2 ^ (min b.toNat k.bits) ≤ m * 1 := Int.mul_le_mul_of_nonpos_left hm (by omega)
        omega
      have h2 : ∀ {m : Int}, 0 ≤ m → a ≤ m → a.fdiv (2 ^ (min b.toNat k.bits)) ≤ m := by
        intro m hm hma
        rw [Int.fdiv_eq_ediv_of_nonneg _ (Int.le_of_lt hp)]
        rcases Int.lt_or_le a 0 with hneg | hpos
        · have := Int.ediv_neg_of_neg_of_pos hneg hp
          omega
        · have := Int.ediv_le_self (2 ^ (min b.toNat k.bits)) hpos
          omega
      exact fullTy_in (h1 (by cases k <;> decide) (by omega)) (h2 (by cases k <;> decide) (by omega))
  · cases h

theorem flt_ok {op : BinOp} {t : TypeId} {lit : Bool} {x y : Value} {ty : Ty} (h : fltTy op = some ty) (hx : hasTy x .fin) (hy : hasTy y .fin) : ∃ z, semPrim c.P (.bin op t lit) [x, y] = some z ∧ hasTy z ty := by
  obtain ⟨a, s, m, i, rfl, ha⟩ := hx
  obtain ⟨b, s', m', i', rfl, hb⟩ := hy
  rw [semBin (by simp) (by simp)]
  have key : ∀ {op : BinOp} {r : Option Nat}, (op = .add ∧ r = Ieee.double.add a b ∨ op = .sub ∧ r = Ieee.double.sub a b ∨ op = .mul ∧ r = Ieee.double.mul a b) → (∃ t n j, r = some (Ieee.double.nearest t n j)) → ∃ z, pureRun c.P (binOp op t (.float .f64 a) (.float .f64 b)) = some z ∧ hasTy z .num := by
    intro op r hop ⟨t', n, j, hr⟩
    refine ⟨.float .f64 (Ieee.double.nearest t' n j), ?_, _, rfl, near_num t' n j⟩
    rcases hop with ⟨rfl, rfl⟩ | ⟨rfl, rfl⟩ | ⟨rfl, rfl⟩ <;>
      (simp only [binOp, Op.floatArith, FloatKind.format, ne_eq, not_true_eq_false, if_false, hr]; rfl)
  unfold fltTy at h
  split at h
  · cases h
    refine key (.inl ⟨rfl, rfl⟩) ?_
    unfold Ieee.Format.add; rw [ha, hb]; exact ⟨_, _, _, rfl⟩
  · cases h
    refine key (.inr (.inl ⟨rfl, rfl⟩)) ?_
    unfold Ieee.Format.sub; rw [ha, hb]; exact ⟨_, _, _, rfl⟩
  · cases h
    refine key (.inr (.inr ⟨rfl, rfl⟩)) ?_
    unfold Ieee.Format.mul; rw [ha, hb]; exact ⟨_, _, _, rfl⟩
  · cases h

theorem wide_ok {lo : Int} {hi : Option Int} {n : Int} (h : wide lo hi = true) (h1 : lo ≤ n) (h2 : ∀ h, hi = some h → n ≤ h) : -9223372036854775808 ≤ n ∧ n ≤ 9223372036854775807 := by
  unfold wide at h
  split at h
  · simp only [Bool.and_eq_true, decide_eq_true_eq] at h
    have := h2 _ rfl
    omega
  · cases h

theorem cutInt_lt (b : Nat) : (cutInt b).natAbs < 9007199254740992 := by
  unfold cutInt
  split
  · rename_i n _
    cases hd : decide (n.natAbs < 9007199254740992) with
    | true => exact of_decide_eq_true hd
    | false => exact Nat.zero_lt_succ _
  · exact Nat.zero_lt_succ _
theorem primTy_ok {p : Prim} {ts : List Ty} {t : Ty} {xs : List Value} (h : primTy c p ts = some t) (hx : All2 hasTy xs ts) : ∃ x, semPrim c.P p xs = some x ∧ hasTy x t := by
  have bo : ∀ {r : Option Value}, some Ty.bool = some t → (∃ b, r = some (.bool b)) → ∃ x, r = some x ∧ hasTy x t := by
    intro r he ⟨b, hb⟩
    simp only [Option.some.injEq] at he; subst he
    exact ⟨_, hb, b, rfl⟩
  unfold primTy at h
  split at h
  · rename_i op tt lit a b
    obtain ⟨x, y, rfl, ha, hb⟩ := all2_two hx
    split at h
    · rename_i k1 lo hi k2 lo' hi' h1 h2
      obtain ⟨n, rfl, hn, hn'⟩ := inty_ok h1 ha
      obtain ⟨m, rfl, hm, hm'⟩ := inty_ok h2 hb
      replace h := bif_some h
      rcases h with ⟨hsh, h⟩ | ⟨_, h⟩
      · exact shift_ok hsh h hn hn' hm
      replace h := bif_none h
      obtain ⟨hk, h⟩ := h
      simp only [decide_eq_true_eq] at hk; subst hk
      rcases bif_some h with ⟨hc, h⟩ | ⟨_, h⟩
      · rw [semInt hc]
        exact bo h (cmp_some_int hc)
      · exact arith_ok h hn hn' hm hm'
    · split at h
      · obtain ⟨u, rfl⟩ := ha; obtain ⟨v, rfl⟩ := hb
        obtain ⟨hc, h⟩ := bif_none h
        rw [semStr]
        exact bo h (cmp_some_str hc)
      · obtain ⟨u, rfl⟩ := ha; obtain ⟨v, rfl⟩ := hb
        obtain ⟨hc, h⟩ := bif_none h
        split at h
        · rename_i hu
          rw [semBool (und_spec hu) hc]
          exact bo h ⟨_, rfl⟩
        · cases h
      · replace h := bif_some h
        rcases h with ⟨hc, h⟩ | ⟨_, h⟩
        · obtain ⟨u, rfl⟩ := floaty_ok rfl ha; obtain ⟨v, rfl⟩ := floaty_ok rfl hb
          rw [semFloat hc]
          exact bo h (cmp_some_float hc)
        · exact flt_ok h ha hb
      · obtain ⟨hc, h⟩ := bif_none h
        simp only [Bool.and_eq_true] at hc
        obtain ⟨u, rfl⟩ := floaty_ok hc.1.1 ha; obtain ⟨v, rfl⟩ := floaty_ok hc.1.2 hb
        rw [semFloat hc.2]
        exact bo h (cmp_some_float hc.2)
    · cases h
  · obtain ⟨x, rfl, b, rfl⟩ := all2_one hx
    exact bo h ⟨_, rfl⟩
  · obtain ⟨x, rfl, hx1⟩ := all2_one hx
    rw [Option.map_eq_some_iff] at h
    obtain ⟨⟨k', lo, hi⟩, hp, rfl⟩ := h
    obtain ⟨n, rfl, _⟩ := inty_ok hp hx1
    have h1 : ∃ m, semPrim c.P (.un .xor) [.int k' n] = some (.int k' (k'.wrap m)) := by
      show ∃ m, pureRun c.P (Op.unary .xor (.int k' n)) = _
      unfold Op.unary Op.intBits
      exact ⟨_, rfl⟩
    obtain ⟨m, h1⟩ := h1
    exact ⟨_, h1, fullTy_wrap k' m⟩
  · obtain ⟨x, rfl, hx1⟩ := all2_one hx
    split at h
    · rename_i p hp
      obtain ⟨k', lo, hi⟩ := p
      obtain ⟨n, rfl, _⟩ := inty_ok hp hx1
      simp only [Option.some.injEq] at h; subst h
      exact ⟨.int k' (k'.wrap (0 - n)), rfl, fullTy_wrap k' _⟩
    · obtain ⟨hf, h⟩ := bif_none h
      simp only [Option.some.injEq] at h; subst h
      obtain ⟨b, rfl⟩ := floaty_ok hf hx1
      exact ⟨_, rfl, _, rfl⟩
  · obtain ⟨x, rfl, hx1⟩ := all2_one hx
    rw [Option.map_eq_some_iff] at h
    obtain ⟨⟨k', lo, hi⟩, hp, rfl⟩ := h
    obtain ⟨n, rfl, hn, hn'⟩ := inty_ok hp hx1
    refine ⟨.float .f64 (FloatKind.f64.nearest n), rfl, ?_⟩
    cases hw : wide lo hi with
    | true =>
      have := wide_ok hw hn hn'
      obtain ⟨s, m, i, h1⟩ := near_fin n (by omega)
      exact ⟨_, s, m, i, rfl, h1⟩
    | false => exact ⟨_, rfl⟩
  · obtain ⟨x, rfl, hx1⟩ := all2_one hx
    rw [Option.bind_eq_some_iff] at h
    obtain ⟨⟨k', lo, hi⟩, hp, h⟩ := h
    obtain ⟨n, rfl, hn, hn'⟩ := inty_ok hp hx1
    obtain ⟨_, h⟩ := bif_none h
    simp only [Option.some.injEq] at h; subst h
    exact ⟨.int .i64 n, rfl, n, rfl, hn, hn'⟩
  · rename_i a b
    cases hx with | cons hx1 hx2 =>
    obtain ⟨y, z, rfl, hy, hz⟩ := all2_two hx2
    obtain ⟨s, rfl⟩ := hx1
    simp only [Option.bind_eq_some_iff, Option.map_eq_some_iff] at h
    obtain ⟨⟨k1, l1, h1⟩, hp, ⟨k2, l2, h2⟩, hq, rfl⟩ := h
    obtain ⟨n, rfl, _⟩ := inty_ok hp hy
    obtain ⟨m, rfl, _⟩ := inty_ok hq hz
    exact ⟨_, rfl, _, rfl⟩
  · obtain ⟨x, y, rfl, ⟨s, rfl⟩, hy⟩ := all2_two hx
    rw [Option.map_eq_some_iff] at h
    obtain ⟨⟨k', lo, hi⟩, hp, rfl⟩ := h
    obtain ⟨n, rfl, _⟩ := inty_ok hp hy
    refine ⟨_, rfl, fullTy_in ?_ ?_⟩
    · show (0 : Int) ≤ _; omega
    · have := ((s.data[n.toNat]?).getD 0).toNat_lt
      show _ ≤ (255 : Int)
      omega
  · obtain ⟨x, y, rfl, hx1, hy⟩ := all2_two hx
    obtain ⟨hg, h⟩ := bif_none h
    simp only [Option.some.injEq] at h; subst h
    simp only [Bool.and_eq_true] at hg
    obtain ⟨u, rfl⟩ := floaty_ok hg.1 hx1
    obtain ⟨v, rfl⟩ := floaty_ok hg.2 hy
    exact ⟨_, rfl, _, rfl⟩
  · obtain ⟨x, y, rfl, ⟨s, rfl⟩, ⟨s', rfl⟩⟩ := all2_two hx
    simp only [Option.some.injEq] at h; subst h
    exact ⟨_, rfl, _, rfl⟩
  · obtain ⟨x, rfl, hx1⟩ := all2_one hx
    obtain ⟨hg, h⟩ := bif_none h
    simp only [Option.some.injEq] at h; subst h
    obtain ⟨u, rfl⟩ := floaty_ok hg hx1
    have := cutInt_lt u
    exact ⟨_, rfl, _, rfl, by omega, fun _ e => by cases e; omega⟩
  · rename_i s d a
    obtain ⟨x, rfl, hx1⟩ := all2_one hx
    have run : ∀ {sd dd : TypeDesc} {α : Type} (f : TypeDesc → TypeDesc → Sem α), und c s = some sd → und c d = some dd → pureRun c.P (do f (← underlying s) (← underlying d)) = pureRun c.P (f sd dd) := by
      intro sd dd α f h1 h2
      have e1 : pureRun c.P (underlying s) = some sd := by
        unfold underlying; rw [pureRun_bind]; simp only [program, pureRun, Option.bind_some, und_spec h1]; rfl
      have e2 : pureRun c.P (underlying d) = some dd := by
        unfold underlying; rw [pureRun_bind]; simp only [program, pureRun, Option.bind_some, und_spec h2]; rfl
      rw [pureRun_bind, e1]
      simp only [Option.bind_some]
      rw [pureRun_bind, e2]
      rfl
    split at h
    · rename_i sd k' k2 lo hi h1 h2 h3
      obtain ⟨n, rfl, hn, hn'⟩ := inty_ok h3 hx1
      simp only [Option.some.injEq] at h; subst h
      refine ⟨.int k' (k'.wrap n), ?_, rangeTy_wrap hn (hn' _ rfl)⟩
      show pureRun c.P (convert s d (.int k2 n)) = _
      unfold convert
      rw [run _ h1 h2]
      cases sd <;> rfl
    · rename_i sd k' k2 lo h1 h2 h3
      obtain ⟨n, rfl, hn, hn'⟩ := inty_ok h3 hx1
      simp only [Option.some.injEq] at h; subst h
      refine ⟨.int k' (k'.wrap n), ?_, fullTy_wrap _ _⟩
      show pureRun c.P (convert s d (.int k2 n)) = _
      unfold convert
      rw [run _ h1 h2]
      cases sd <;> rfl
    · rename_i sd k2 h1 h2 h3
      obtain ⟨k3, lo, hi⟩ := k2
      obtain ⟨n, rfl, hn, hn'⟩ := inty_ok h3 hx1
      simp only [Option.some.injEq] at h; subst h
      refine ⟨.float .f64 (FloatKind.f64.nearest n), ?_, _, rfl⟩
      show pureRun c.P (convert s d (.int k3 n)) = _
      unfold convert
      rw [run _ h1 h2]
      cases sd <;> rfl
    · cases h
  · rename_i tt
    obtain ⟨x, rfl, s, rfl⟩ := all2_one hx
    split at h
    · rename_i hu
      simp only [Option.some.injEq] at h; subst h
      refine ⟨.int .i64 s.size, ?_, _, rfl, by omega, fun _ e => by cases e⟩
      show pureRun c.P (Builtin.len_ #[tt] 0 #[.string s]) = _
      unfold Builtin.len_
      have e1 : pureRun c.P (underlying tt) = some .string := by
        unfold underlying; rw [pureRun_bind]; simp only [program, pureRun, Option.bind_some, und_spec hu]; rfl
      simp only [List.getElem?_toArray, List.getElem?_cons_zero]
      rw [pureRun_bind, e1]
      rfl
    · cases h
  · obtain ⟨x, h1, h2⟩ := k.extTy _ _ _ _ h hx
    exact ⟨x, by simp only [semPrim, h1, Option.bind_some], h2⟩
  · cases h

theorem hasTy_scalar {x : Value} {t : Ty} (h : hasTy x t) : isScalar x = true := by
  cases t
  · obtain ⟨b, _, _, rfl, _⟩ := h; rfl
  · obtain ⟨b, rfl, _⟩ := h; rfl
  · obtain ⟨b, rfl, _⟩ := h; rfl
  · obtain ⟨b, rfl⟩ := h; rfl
  · obtain ⟨b, rfl, _⟩ := h; rfl
  · obtain ⟨b, _, _, _, rfl, _⟩ := h; rfl
  · exact h
  · obtain ⟨b, rfl⟩ := h; rfl
  · obtain ⟨b, rfl⟩ := h; rfl

theorem all2_append {xs ys : List Value} {ts us : List Ty} (h : All2 hasTy xs ts) (h' : All2 hasTy ys us) : All2 hasTy (xs ++ ys) (ts ++ us) := by
  induction h with
  | nil => exact h'
  | cons hx _ ih => exact .cons hx ih

theorem tyD_ok (hs : SatH c F ρ S w) : ∀ {v : V} {ts : List Ty}, tyD c S v = some ts → ∃ xs, D c.P c.Φ ρ v = some xs ∧ All2 hasTy xs ts := by
  intro v
  induction v with
  | k x =>
    intro ts h
    simp only [tyD, Option.map_eq_some_iff] at h
    obtain ⟨t, ht, rfl⟩ := h
    exact ⟨[x], rfl, .cons (tyK_ok ht) .nil⟩
  | var n =>
    intro ts h
    simp only [tyD, Option.bind_eq_some_iff] at h
    obtain ⟨e, he, h⟩ := h
    split at h
    · simp only [Option.some.injEq] at h; subst h
      obtain ⟨x, hx, ht⟩ := hs.ents n _ he
      exact ⟨[x], by simp [D, hx], .cons ht .nil⟩
    · cases h
  | prim p a ih =>
    intro ts h
    simp only [tyD, Option.bind_eq_some_iff, Option.map_eq_some_iff] at h
    obtain ⟨us, hu, t, ht, rfl⟩ := h
    obtain ⟨xs, hx, hall⟩ := ih hu
    obtain ⟨x, hp, hxt⟩ := primTy_ok ht hall
    exact ⟨[x], by simp [D, hx, hp, Option.filter, hasTy_scalar hxt], .cons hxt .nil⟩
  | app f a ih =>
    intro ts h
    simp only [tyD, Option.bind_eq_some_iff, Option.map_eq_some_iff] at h
    obtain ⟨us, hu, t, ht, rfl⟩ := h
    obtain ⟨xs, hx, hall⟩ := ih hu
    obtain ⟨x, hp, hxt⟩ := k.app f us t xs ht hall
    exact ⟨[x], by simp [D, hx, hp, Option.filter, hasTy_scalar hxt], .cons hxt .nil⟩
  | nil => intro ts h; simp only [tyD, Option.some.injEq] at h; subst h; exact ⟨[], rfl, .nil⟩
  | cons a b iha ihb =>
    intro ts h
    simp only [tyD, Option.bind_eq_some_iff, Option.map_eq_some_iff] at h
    obtain ⟨us, hu, vs, hv, rfl⟩ := h
    obtain ⟨xs, hx, h1⟩ := iha hu
    obtain ⟨ys, hy, h2⟩ := ihb hv
    exact ⟨xs ++ ys, by simp [D, hx, hy], all2_append h1 h2⟩
  | _ => intro ts h; simp [tyD] at h

theorem tyOf_one {v : V} {t : Ty} (h : tyOf c S v = some t) : oneV v = true := (bif_none h).1
theorem tyOf_ok (hs : SatH c F ρ S w) {v : V} {t : Ty} (h : tyOf c S v = some t) : ∃ x, den c.P c.Φ ρ v = some x ∧ hasTy x t := by
  unfold tyOf at h
  replace h := (bif_none h).2
  rw [Option.bind_eq_some_iff] at h
  obtain ⟨ts, ht, h⟩ := h
  split at h
  · simp only [Option.some.injEq] at h; subst h
    obtain ⟨xs, hx, hall⟩ := tyD_ok hs ht
    obtain ⟨x, rfl, hxt⟩ := all2_one hall
    exact ⟨x, by simp [den, hx, single], hxt⟩
  · cases h

theorem den_prim {p : Prim} {a : V} {x : Value} (h : den c.P c.Φ ρ (.prim p a) = some x) : ∃ xs, D c.P c.Φ ρ a = some xs ∧ semPrim c.P p xs = some x := by
  simp only [den, D, Option.bind_eq_some_iff, Option.map_eq_some_iff] at h
  obtain ⟨ys, ⟨xs, hx, y, hy, rfl⟩, h2⟩ := h
  simp only [single, Option.some.injEq] at h2; subst h2
  exact ⟨xs, hx, (Option.filter_eq_some_iff.1 hy).1⟩
theorem den_prim_of {p : Prim} {a : V} {x : Value} {xs : List Value} (h : D c.P c.Φ ρ a = some xs) (hp : semPrim c.P p xs = some x) (hs : isScalar x = true) : den c.P c.Φ ρ (.prim p a) = some x := by
  simp [den, D, h, hp, Option.filter, hs, single]
theorem D_one {a : V} {xs : List Value} (h : D c.P c.Φ ρ (.cons a .nil) = some xs) : D c.P c.Φ ρ a = some xs := by
  simp only [D, Option.bind_eq_some_iff, Option.map_eq_some_iff] at h
  obtain ⟨ys, hy, zs, hz, rfl⟩ := h
  simp only [Option.some.injEq] at hz; subst hz
  simpa using hy

theorem not_inv {xs : List Value} {z : Bool} (hp : semPrim c.P (.un .not) xs = some (.bool z)) : ∃ y, xs = [.bool y] ∧ z = !y := by
  match xs, hp with
  | [.bool y], hp =>
    have : some (Value.bool (!y)) = some (.bool z) := hp
    simp only [Option.some.injEq, Value.bool.injEq] at this
    exact ⟨y, rfl, this.symm⟩
  | [.int _ _], hp => cases hp
  | [.float _ _], hp => cases hp
  | [.complex _ _ _], hp => cases hp
  | [.string _], hp => cases hp
  | [.pointer none], hp => cases hp
  | [.pointer (some _)], hp => cases hp
  | [.slice _ _ _], hp => cases hp
  | [.map _], hp => cases hp
  | [.chan _], hp => cases hp
  | [.func _ _ _], hp => cases hp
  | [.nilFunc], hp => cases hp
  | [.iface _ _], hp => cases hp
  | [.nilIface], hp => cases hp
  | [.agg _], hp => cases hp
  | [.tuple _], hp => cases hp
  | [], hp => cases hp
  | _ :: _ :: _, hp => cases hp
theorem polX_den {v : V} {b : Bool} : ∀ {z : Bool}, den c.P c.Φ ρ v = some (.bool z) → ∃ z', den c.P c.Φ ρ (polX v b).1 = some (.bool z') ∧ (z == b) = (z' == (polX v b).2) := by
  fun_induction polX v b with
  | case1 a b ih =>
    intro z h
    obtain ⟨xs, hx, hp⟩ := den_prim h
    have ha := D_one hx
    obtain ⟨y, rfl, rfl⟩ := not_inv hp
    obtain ⟨z', h1, h2⟩ := ih (z := y) (by simp [den, ha, single])
    refine ⟨z', h1, ?_⟩
    rw [← h2]
    cases y <;> cases b <;> rfl
  | case2 v b _ => intro z h; exact ⟨z, h, rfl⟩

/-! ### bounds -/
theorem den_two {p : Prim} {x y : V} {z : Value} (h : den c.P c.Φ ρ (.prim p (.cons x (.cons y .nil))) = some z) (hx : oneV x = true) (hy : oneV y = true) :
    ∃ a b, den c.P c.Φ ρ x = some a ∧ den c.P c.Φ ρ y = some b ∧ semPrim c.P p [a, b] = some z := by
  obtain ⟨xs, hd, hp⟩ := den_prim h
  simp only [D, Option.bind_eq_some_iff, Option.map_eq_some_iff] at hd
  obtain ⟨as, ha, bs, ⟨ys, hy', zs, hz, rfl⟩, rfl⟩ := hd
  simp only [Option.some.injEq] at hz; subst hz
  obtain ⟨a, rfl⟩ := one_single hx ha
  obtain ⟨b, rfl⟩ := one_single hy hy'
  exact ⟨a, b, by simp [den, ha, single], by simp [den, hy', single], hp⟩

def In (r : Int × Option Int) (n : Int) : Prop := r.1 ≤ n ∧ ∀ h, r.2 = some h → n ≤ h

theorem cmp_int {op : BinOp} {t : TypeId} {lit : Bool} {k k' : IntKind} {a b : Int} {z : Bool} (hop : isCmp op = true) (h : semPrim c.P (.bin op t lit) [.int k a, .int k' b] = some (.bool z)) :
    pureRun c.P (Op.intCmp op a b) = some (.bool z) := by
  by_cases hk : k = k'
  · subst hk; rwa [semInt hop] at h
  · rw [semInt_other hop hk] at h; cases h
theorem eql_int {t : TypeId} {lit : Bool} {k k' : IntKind} {a b : Int} {z : Bool} (h : semPrim c.P (.bin .eql t lit) [.int k a, .int k' b] = some (.bool z)) : z = decide (a = b) := by
  have := cmp_int (c := c) rfl h
  have h2 : some (Value.bool (a == b)) = some (.bool z) := this
  simp only [Option.some.injEq, Value.bool.injEq] at h2
  rw [← h2]
  rfl
theorem lss_int {t : TypeId} {lit : Bool} {k k' : IntKind} {a b : Int} {z : Bool} (h : semPrim c.P (.bin .lss t lit) [.int k a, .int k' b] = some (.bool z)) : z = decide (a < b) := by
  have := cmp_int (c := c) rfl h
  have h2 : some (Value.bool (decide (a < b))) = some (.bool z) := this
  simp only [Option.some.injEq, Value.bool.injEq] at h2
  exact h2.symm

theorem oneV_of {v : V} {x : Value} (h : den c.P c.Φ ρ v = some x) (hn : ∀ a b, v ≠ .cons a b) : oneV v = true := by
  cases v <;> first | rfl | exact absurd rfl (hn _ _) | (simp [den, D, single] at h)

theorem boundBy_ok {x : V} {k : IntKind} {n : Int} {f : V × Bool} {r : Int × Option Int} (hx : den c.P c.Φ ρ x = some (.int k n)) (ho : oneV x = true) (hl : ∀ y, x ≠ .k y) (ha : aboutX x f = true) (hf : den c.P c.Φ ρ f.1 = some (.bool f.2)) (hr : In r n) :
    In (boundBy r f) n := by
  obtain ⟨v, b⟩ := f
  replace hf : den c.P c.Φ ρ v = some (.bool b) := hf
  unfold aboutX at ha
  dsimp only at ha
  split at ha
  · rename_i t l y k' m
    obtain rfl := V.eq_eq ha
    obtain ⟨a, d, h1, h2, h3⟩ := den_two hf ho rfl
    rw [hx] at h1; cases h1
    simp only [den_k, Option.some.injEq] at h2; subst h2
    have hb := eql_int (c := c) h3
    unfold boundBy
    simp only
    cases b
    · simp only [cond_false]
      have hne : n ≠ m := fun e => by simp [e] at hb
      by_cases h0 : r.1 = m
      · rw [decide_eq_true h0]; exact ⟨by have := hr.1; simp only [cond_true]; omega, hr.2⟩
      · rw [decide_eq_false h0]
        simp only [cond_false]
        split
        · rename_i h heq
          by_cases h1 : h = m
          · rw [decide_eq_true h1]
            refine ⟨hr.1, fun h' e => ?_⟩
            simp only [cond_true, Option.some.injEq] at e
            have := hr.2 _ heq
            omega
          · rw [decide_eq_false h1]; exact hr
        · exact hr
    · have he : n = m := by simpa using hb.symm
      simp only [cond_true]
      exact ⟨by simp only; omega, fun h e => by simp only [Option.some.injEq] at e; omega⟩
  · rename_i t l y k' m
    obtain rfl := V.eq_eq ha
    obtain ⟨a, d, h1, h2, h3⟩ := den_two hf ho rfl
    rw [hx] at h1; cases h1
    simp only [den_k, Option.some.injEq] at h2; subst h2
    have hb := lss_int (c := c) h3
    unfold boundBy
    dsimp only
    cases b
    · simp only [cond_false]
      have hlt : ¬ n < m := by simpa using hb.symm
      exact ⟨by have := hr.1; simp only; omega, hr.2⟩
    · have hlt : n < m := by simpa using hb.symm
      simp only [cond_true]
      refine ⟨hr.1, fun h e => ?_⟩
      simp only [Option.some.injEq] at e
      split at e
      · rename_i h' he
        have := hr.2 _ he
        omega
      · omega
  · rename_i t l k' m y _
    obtain rfl := V.eq_eq ha
    obtain ⟨a, d, h1, h2, h3⟩ := den_two hf rfl ho
    rw [hx] at h2; cases h2
    simp only [den_k, Option.some.injEq] at h1; subst h1
    have hb := lss_int (c := c) h3
    unfold boundBy
    split
    · rename_i heq; cases heq
    · rename_i heq; cases heq; exact absurd rfl (hl _)
    rotate_left
    · rename_i h1 h2 h3; exact absurd rfl (h3 _ _ _ _ _ _)
    rename_i heq
    cases heq
    cases b
    · simp only [cond_false]
      have hlt : ¬ m < n := by simpa using hb.symm
      refine ⟨hr.1, fun h e => ?_⟩
      simp only [Option.some.injEq] at e
      split at e
      · rename_i h' he
        have := hr.2 _ he
        omega
      · omega
    · have hlt : m < n := by simpa using hb.symm
      simp only [cond_true]
      exact ⟨by have := hr.1; simp only; omega, hr.2⟩
  · cases ha
end
end Go.Proofs.Ytobghgfmdjknlaa.Sx
