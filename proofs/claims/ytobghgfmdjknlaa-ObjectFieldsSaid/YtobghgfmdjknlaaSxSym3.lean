/- Symbolic execution: truths that part in two, and primitives on what is not known. -/
import Derived.Test.YtobghgfmdjknlaaSxSym2
namespace Go.Proofs.Ytobghgfmdjknlaa.Sx
open Go
set_option linter.unusedSectionVars false

section
variable {c : Cfg} {F : Wd} [k : COk c] {ρ : Env} {S : St} {w : World}

/-- The same state, of which more may be known. -/
structure Kin (S S' : St) : Prop where
  tmps : S'.tmps = S.tmps
  nt : S'.nt = S.nt
  heap : S'.heap = S.heap
  log : S'.log = S.log
theorem Kin.refl (S : St) : Kin S S := ⟨rfl, rfl, rfl, rfl⟩
theorem Kin.trans {S S' S'' : St} (h : Kin S S') (h' : Kin S' S'') : Kin S S'' := ⟨h'.tmps.trans h.tmps, h'.nt.trans h.nt, h'.heap.trans h.heap, h'.log.trans h.log⟩
theorem Kin.unch {S S' : St} (h : Kin S S') : Unch S S' := ⟨fun n hn => by rw [h.log]; exact hn, fun n _ => by rw [h.heap]⟩
theorem Kin.assume (S : St) (v : V) (b : Bool) : Kin S (S.assume v b) := ⟨rfl, rfl, rfl, rfl⟩

theorem SatH.assume (h : SatH c F ρ S w) {v : V} {b : Bool} (hv : den c.P c.Φ ρ v = some (.bool b)) : SatH c F ρ (S.assume v b) w := by
  obtain ⟨a1, a2, a3, a4, a5, a6, a7, a8, a9, a10, a11⟩ := h
  refine ⟨a1, a2, a3, a4, a5, a6, a7, a8, a9, a10, ?_⟩
  intro f hf
  rcases List.mem_cons.1 hf with rfl | hf
  · exact hv
  · exact a11 f hf

theorem splitX_ok (hs : SatH c F ρ S w) {v : V} {x : Value} {l : List (Bool × St)} (hv : den c.P c.Φ ρ v = some x) (h : splitX c S v = some l) :
    ∃ z S', x = .bool z ∧ (z, S') ∈ l ∧ SatH c F ρ S' w ∧ Kin S S' := by
  unfold splitX at h
  split at h
  · simp only [Option.some.injEq] at h; subst h
    simp only [den_k, Option.some.injEq] at hv
    exact ⟨_, S, hv.symm, by simp, hs, .refl S⟩
  · split at h
    case h_2 => cases h
    rename_i hty
    obtain ⟨y, hy, z, rfl⟩ := tyOf_ok hs hty
    rw [hv] at hy; cases hy
    split at h
    · rename_i b hb
      have := knownX_ok hs hv hb
      subst this
      simp only [Option.some.injEq] at h; subst h
      exact ⟨_, S, rfl, by simp, hs, .refl S⟩
    · obtain ⟨z', h1, h2⟩ := polX_den (b := true) hv
      simp only [Option.some.injEq] at h; subst h
      cases z with
      | true =>
        have : z' = (polX v true).2 := by cases z' <;> cases hp : (polX v true).2 <;> simp_all
        subst this
        exact ⟨true, _, rfl, List.mem_cons_self .., hs.assume h1, .assume _ _ _⟩
      | false =>
        have : z' = !(polX v true).2 := by cases z' <;> cases hp : (polX v true).2 <;> simp_all
        subst this
        exact ⟨false, _, rfl, List.mem_cons_of_mem _ (List.mem_cons_self ..), hs.assume h1, .assume _ _ _⟩
theorem splitX_kin {v : V} {l : List (Bool × St)} (h : splitX c S v = some l) : ∀ x, x ∈ l → Kin S x.2 := by
  unfold splitX at h
  split at h
  · simp only [Option.some.injEq] at h; subst h
    intro x hx; simp only [List.mem_singleton] at hx; subst hx; exact .refl S
  · split at h
    case h_2 => cases h
    split at h
    · simp only [Option.some.injEq] at h; subst h
      intro x hx; simp only [List.mem_singleton] at hx; subst hx; exact .refl S
    · simp only [Option.some.injEq] at h; subst h
      intro x hx
      simp only [List.mem_cons, List.not_mem_nil, or_false] at hx
      rcases hx with rfl | rfl <;> exact .assume _ _ _

theorem tidyX_ok (hs : SatH c F ρ S w) {v : V} {x : Value} (hv : den c.P c.Φ ρ v = some x) : den c.P c.Φ ρ (tidyX c S v) = some x := by
  unfold tidyX
  split
  · exact hv
  · split
    · rename_i hty
      split
      · rename_i b hb
        obtain ⟨y, hy, z, rfl⟩ := tyOf_ok hs hty
        rw [hv] at hy; cases hy
        rw [knownX_ok hs hv hb]; rfl
      · exact hv
    · exact hv

theorem litX_ok (hs : SatH c F ρ S w) {v : V} {n : Int} (h : litX c S v = some n) : ∃ k, den c.P c.Φ ρ v = some (.int k n) := by
  unfold litX at h
  split at h
  · simp only [Option.some.injEq] at h; subst h; exact ⟨_, rfl⟩
  · simp only [Option.bind_eq_some_iff] at h
    obtain ⟨r, hr, h⟩ := h
    split at h
    case h_2 => cases h
    rename_i hi heq
    obtain ⟨hg, h⟩ := bif_none h
    simp only [Option.some.injEq] at h; subst h
    obtain ⟨k, m, hm, h1, h2⟩ := boundsX_ok hs hr
    have := of_decide_eq_true hg
    have := h2 _ heq
    have : m = hi := by omega
    subst this
    exact ⟨k, hm⟩

theorem bin_int (op : BinOp) (t t' : TypeId) (k k' : IntKind) (a b : Int) : binOp op t (.int k a) (.int k' b) = binOp op t' (.int k a) (.int k' b) := by cases op <;> rfl
theorem bin_float (op : BinOp) (t t' : TypeId) (k k' : FloatKind) (a b : Nat) : binOp op t (.float k a) (.float k' b) = binOp op t' (.float k a) (.float k' b) := by cases op <;> rfl
theorem bin_str (op : BinOp) (t t' : TypeId) (a b : ByteArray) : binOp op t (.string a) (.string b) = binOp op t' (.string a) (.string b) := by cases op <;> rfl

theorem D_two {u v : V} {x y : Value} (hu : D c.P c.Φ ρ u = some [x]) (hv : D c.P c.Φ ρ v = some [y]) : D c.P c.Φ ρ (.cons u (.cons v .nil)) = some [x, y] := by simp [D, hu, hv]
theorem not_of {v : V} {z : Bool} (h : den c.P c.Φ ρ v = some (.bool z)) : den c.P c.Φ ρ (notV v) = some (.bool !z) := by
  simp only [den, Option.bind_eq_some_iff] at h
  obtain ⟨xs, hx, h2⟩ := h
  rw [single_some] at h2
  subst h2
  exact den_prim_of (xs := [.bool z]) (by simp [D, hx]) rfl rfl

theorem cmpV_int {op : BinOp} {k : IntKind} {a b : Int} {u v : V} {z : Bool} (hop : isCmp op = true) (hu : D c.P c.Φ ρ u = some [.int k a]) (hv : D c.P c.Φ ρ v = some [.int k b])
    (h : pureRun c.P (Op.intCmp op a b) = some (.bool z)) : den c.P c.Φ ρ (cmpV op u v) = some (.bool z) := by
  have eq : ∀ {u v : V} {a b : Int}, D c.P c.Φ ρ u = some [.int k a] → D c.P c.Φ ρ v = some [.int k b] → den c.P c.Φ ρ (.prim (.bin .eql 0 false) (.cons u (.cons v .nil))) = some (.bool (a == b)) := by
    intro u v a b hu hv
    exact den_prim_of (D_two hu hv) (by rw [semInt rfl]; rfl) rfl
  have lt : ∀ {u v : V} {a b : Int}, D c.P c.Φ ρ u = some [.int k a] → D c.P c.Φ ρ v = some [.int k b] → den c.P c.Φ ρ (.prim (.bin .lss 0 false) (.cons u (.cons v .nil))) = some (.bool (decide (a < b))) := by
    intro u v a b hu hv
    exact den_prim_of (D_two hu hv) (by rw [semInt rfl]; rfl) rfl
  have eqs : den c.P c.Φ ρ (.prim (.bin .eql 0 false) (bif isLit u then .cons v (.cons u .nil) else .cons u (.cons v .nil))) = some (.bool (a == b)) := by
    cases isLit u
    · exact eq hu hv
    · have := eq hv hu
      rw [show (a == b) = (b == a) from Bool.beq_comm ..]
      exact this
  cases op <;> simp only [isCmp, Bool.false_eq_true] at hop
  · have h : some (Value.bool (a == b)) = some (.bool z) := h
    rw [← h]; exact eqs
  · have h : some (Value.bool (a != b)) = some (.bool z) := h
    rw [← h]; exact not_of eqs
  · have h : some (Value.bool (decide (a < b))) = some (.bool z) := h
    rw [← h]; exact lt hu hv
  · have h : some (Value.bool (decide (a ≤ b))) = some (.bool z) := h
    rw [← h]
    have := not_of (lt hv hu)
    rw [show decide (a ≤ b) = !decide (b < a) by rw [← decide_not]; exact decide_eq_decide.2 (by omega)]
    exact this
  · have h : some (Value.bool (decide (a > b))) = some (.bool z) := h
    rw [← h]; exact lt hv hu
  · have h : some (Value.bool (decide (a ≥ b))) = some (.bool z) := h
    rw [← h]
    have := not_of (lt hu hv)
    rw [show decide (a ≥ b) = !decide (a < b) by rw [← decide_not]; exact decide_eq_decide.2 (by omega)]
    exact this

theorem cmpV_str {op : BinOp} {a b : ByteArray} {u v : V} {z : Bool} (hop : op = .eql ∨ op = .neq) (hu : D c.P c.Φ ρ u = some [.string a]) (hv : D c.P c.Φ ρ v = some [.string b])
    (h : pureRun c.P (Op.stringOp op a b) = some (.bool z)) : den c.P c.Φ ρ (cmpV op u v) = some (.bool z) := by
  have eq : ∀ {u v : V} {a b : ByteArray}, D c.P c.Φ ρ u = some [.string a] → D c.P c.Φ ρ v = some [.string b] → den c.P c.Φ ρ (.prim (.bin .eql 0 false) (.cons u (.cons v .nil))) = some (.bool (a.toList == b.toList)) := by
    intro u v a b hu hv
    exact den_prim_of (D_two hu hv) (by rw [semStr]; rfl) rfl
  have eqs : den c.P c.Φ ρ (.prim (.bin .eql 0 false) (bif isLit u then .cons v (.cons u .nil) else .cons u (.cons v .nil))) = some (.bool (a.toList == b.toList)) := by
    cases isLit u
    · exact eq hu hv
    · have := eq hv hu
      rw [show (a.toList == b.toList) = (b.toList == a.toList) from Bool.beq_comm ..]
      exact this
  rcases hop with rfl | rfl
  · have h : some (Value.bool (a.toList == b.toList)) = some (.bool z) := h
    rw [← h]; exact eqs
  · have h : some (Value.bool (!(a.toList == b.toList))) = some (.bool z) := h
    rw [← h]; exact not_of eqs

theorem eqlOr_ok {op : BinOp} {t : TypeId} {u v : V} {r : Value} (h : op ≠ .neq → den c.P c.Φ ρ (.prim (.bin op t false) (.cons u (.cons v .nil))) = some r)
    (hn : op = .neq → ∃ z, den c.P c.Φ ρ (.prim (.bin .eql t false) (.cons u (.cons v .nil))) = some (.bool z) ∧ r = .bool !z) : den c.P c.Φ ρ (eqlOr t op u v) = some r := by
  unfold eqlOr
  split
  · obtain ⟨z, h1, rfl⟩ := hn rfl
    exact not_of h1
  · rename_i hne; exact h (fun e => hne e)

theorem plainCmp_ok {op : BinOp} {t : TypeId} {lit : Bool} {a b ty : Ty} {u v : V} {x y r : Value} (hty : primTy c (.bin op t lit) [a, b] = some ty) (ha : hasTy x a) (hb : hasTy y b)
    (hu : D c.P c.Φ ρ u = some [x]) (hv : D c.P c.Φ ρ v = some [y]) (h : semPrim c.P (.bin op t lit) [x, y] = some r) : den c.P c.Φ ρ (plainCmp op t a u v) = some r := by
  have hsc : isScalar r = true := by
    obtain ⟨r', hr, ht⟩ := primTy_ok hty (.cons ha (.cons hb .nil))
    rw [h] at hr; cases hr
    exact hasTy_scalar ht
  unfold primTy at hty
  dsimp only at hty
  unfold plainCmp
  split at hty
  · rename_i k1 lo hi k2 lo' hi' h1 h2
    obtain ⟨n, rfl, _, _⟩ := inty_ok h1 ha
    obtain ⟨m, rfl, _, _⟩ := inty_ok h2 hb
    rw [h1]
    replace hty := bif_some hty
    rcases hty with ⟨hsh, _⟩ | ⟨_, hty⟩
    · have : cmpV op u v = .prim (.bin op 0 false) (.cons u (.cons v .nil)) := by
        cases op <;> simp only [isShift, Bool.false_eq_true] at hsh <;> rfl
      dsimp only
      rw [this]
      refine den_prim_of (D_two hu hv) ?_ hsc
      rw [semBin (by simp) (by simp)] at h ⊢
      rw [bin_int op 0 t]; exact h
    replace hty := bif_none hty
    obtain ⟨hk, hty⟩ := hty
    simp only [decide_eq_true_eq] at hk; subst hk
    dsimp only
    by_cases hop : isCmp op = true
    · rw [semInt hop] at h
      obtain ⟨z, hz⟩ := cmp_some_int (c := c) (a := n) (b := m) hop
      rw [hz] at h; cases h
      exact cmpV_int hop hu hv hz
    · have : cmpV op u v = .prim (.bin op 0 false) (.cons u (.cons v .nil)) := by
        cases op <;> simp only [isCmp, not_true_eq_false] at hop <;> rfl
      rw [this]
      refine den_prim_of (D_two hu hv) ?_ hsc
      rw [semBin (by simp) (by simp)] at h ⊢
      rw [bin_int op 0 t]; exact h
  · rename_i h1 h2
    rw [h1]
    split at hty
    · obtain ⟨s, rfl⟩ := ha; obtain ⟨s', rfl⟩ := hb
      dsimp only
      obtain ⟨hop, _⟩ := bif_none hty
      rw [semStr] at h
      by_cases he : isEq op = true
      · rw [he]
        obtain ⟨z, hz⟩ := cmp_some_str (c := c) (op := op) (a := s) (b := s') hop
        rw [hz] at h; cases h
        exact cmpV_str (by cases op <;> simp_all [isEq]) hu hv hz
      · rw [Bool.not_eq_true] at he
        rw [he]
        exact den_prim_of (D_two hu hv) (by rw [semStr]; exact h) hsc
    · obtain ⟨s, rfl⟩ := ha; obtain ⟨s', rfl⟩ := hb
      dsimp only
      replace hty := bif_none hty
      obtain ⟨hop, hty⟩ := hty
      split at hty
      case h_2 => cases hty
      rename_i hund
      have hund := und_spec hund
      rw [semBool hund hop] at h
      refine eqlOr_ok (fun hne => ?_) (fun he => ?_)
      · exact den_prim_of (D_two hu hv) (by rw [semBool hund hop]; exact h) hsc
      · subst he
        simp only [Option.some.injEq] at h
        exact ⟨s == s', den_prim_of (D_two hu hv) (by rw [semBool hund rfl]) rfl, h.symm⟩
    · dsimp only
      obtain ⟨s, rfl⟩ := floaty_ok rfl ha; obtain ⟨s', rfl⟩ := floaty_ok rfl hb
      refine eqlOr_ok (fun hne => ?_) (fun he => ?_)
      · refine den_prim_of (D_two hu hv) ?_ hsc
        rw [semBin (by simp) (by simp)] at h ⊢
        rw [bin_float op 0 t]; exact h
      · subst he
        rw [semFloat rfl] at h
        have h' : some (Value.bool (FloatKind.f64.format.order s s' != some .eq)) = some r := h
        simp only [Option.some.injEq] at h'
        exact ⟨FloatKind.f64.format.order s s' == some .eq, den_prim_of (D_two hu hv) (by rw [semFloat rfl]; rfl) rfl, h'.symm⟩
    · obtain ⟨hg, _⟩ := bif_none hty
      simp only [Bool.and_eq_true] at hg
      obtain ⟨hg, hop⟩ := hg
      obtain ⟨s, rfl⟩ := floaty_ok hg.1 ha; obtain ⟨s', rfl⟩ := floaty_ok hg.2 hb
      rw [semFloat hop] at h
      have hf := hg.1
      have fin : den c.P c.Φ ρ (eqlOr 0 op u v) = some r := by
        refine eqlOr_ok (fun hne => ?_) (fun he => ?_)
        · exact den_prim_of (D_two hu hv) (by rw [semFloat hop]; exact h) hsc
        · subst he
          have h' : some (Value.bool (FloatKind.f64.format.order s s' != some .eq)) = some r := h
          simp only [Option.some.injEq] at h'
          exact ⟨FloatKind.f64.format.order s s' == some .eq, den_prim_of (D_two hu hv) (by rw [semFloat rfl]; rfl) rfl, h'.symm⟩
      cases a <;> first | exact fin | (simp only [floaty, Bool.false_eq_true] at hf)
  · cases hty

/-! ### whole numbers as floats -/
theorem signed_abs (s : Bool) (m : Nat) : (Ieee.signed s m 0).natAbs = m := by
  unfold Ieee.signed; rw [Nat.shiftLeft_zero]; cases s <;> simp
theorem wholeBits_ok {b : Nat} {n : Int} (h : wholeBits b = some n) : b = FloatKind.f64.nearest n ∧ n.natAbs < 2 ^ 53 := by
  unfold wholeBits at h
  split at h
  · obtain ⟨hg, h⟩ := bif_none h
    simp only [Option.some.injEq] at h; subst h
    simp only [Bool.and_eq_true] at hg
    have h1 := bleT hg.1
    exact ⟨(beqT hg.2).symm, by omega⟩
  · cases h
theorem isI64_ok (hs : SatH c F ρ S w) {x : V} (h : isI64 (tyOf c S x) = true) : ∃ n, den c.P c.Φ ρ x = some (.int .i64 n) := by
  cases hty : tyOf c S x with
  | none => rw [hty] at h; cases h
  | some t =>
    rw [hty] at h
    obtain ⟨y, hy, hyt⟩ := tyOf_ok hs hty
    cases t <;> simp only [isI64, Bool.false_eq_true] at h
    · obtain ⟨k, rfl, _⟩ := hyt; exact ⟨_, hy⟩
    · rename_i k' _ _
      cases k' <;> simp only [Bool.false_eq_true] at h
      obtain ⟨n, rfl, _⟩ := hyt; exact ⟨n, hy⟩
theorem small_den (hs : SatH c F ρ S w) {x : V} (h : smallX c S x = true) : ∃ n, den c.P c.Φ ρ x = some (.int .i64 n) ∧ n.natAbs < 2 ^ 53 := by
  unfold smallX at h
  rw [an_eq, Bool.and_eq_true] at h
  obtain ⟨n, hn⟩ := isI64_ok hs h.1
  refine ⟨n, hn, ?_⟩
  have h2 := h.2
  split at h2
  · rename_i lo hi hb
    simp only [Bool.and_eq_true, decide_eq_true_eq] at h2
    obtain ⟨k, m, hm, h3, h4⟩ := boundsX_ok hs hb
    rw [hn] at hm; cases hm
    have := h4 _ rfl
    simp only at h3
    omega
  · cases h2
theorem asInt_one {v x : V} (h : asInt v = some x) : oneV x = true := by
  unfold asInt at h
  split at h
  · obtain ⟨hg, h⟩ := bif_none h
    simp only [Option.some.injEq] at h; subst h; exact hg
  · rw [Option.map_eq_some_iff] at h
    obtain ⟨n, _, rfl⟩ := h; rfl
  · cases h
theorem asInt_den {v x : V} {y : Value} {n : Int} {k : IntKind} (h : asInt v = some x) (hx : den c.P c.Φ ρ x = some (.int k n)) (hv : den c.P c.Φ ρ v = some y) : y = .float .f64 (FloatKind.f64.nearest n) := by
  unfold asInt at h
  split at h
  · obtain ⟨hg, h⟩ := bif_none h
    simp only [Option.some.injEq] at h; subst h
    obtain ⟨xs, hd, hp⟩ := den_prim hv
    have hd := D_one hd
    simp only [den, hd, Option.bind_some] at hx
    rw [single_some] at hx
    subst hx
    have : some (Value.float .f64 (FloatKind.f64.nearest n)) = some y := hp
    simp only [Option.some.injEq] at this
    exact this.symm
  · rw [Option.map_eq_some_iff] at h
    obtain ⟨m, hm, rfl⟩ := h
    simp only [den_k, Option.some.injEq, Value.int.injEq] at hx hv
    obtain ⟨rfl, rfl⟩ := hx
    rw [← hv, (wholeBits_ok hm).1]
  · cases h
theorem D_of {v : V} {x : Value} (h : den c.P c.Φ ρ v = some x) : D c.P c.Φ ρ v = some [x] := by
  simp only [den, Option.bind_eq_some_iff] at h
  obtain ⟨l, hl, h2⟩ := h
  rw [single_some] at h2; subst h2; exact hl
theorem isZero_den {v : V} {k : IntKind} {n : Int} (h : isZero v = true) (hv : den c.P c.Φ ρ v = some (.int k n)) : n = 0 := by
  unfold isZero at h
  split at h
  · simp only [den_k, Option.some.injEq, Value.int.injEq] at hv
    rw [← hv.2]; exact intEqB_eq h
  · cases h
theorem wrap_i64 {n : Int} (h : n.natAbs < 2 ^ 55) : IntKind.i64.wrap n = n := wrap_self (by show (-9223372036854775808 : Int) ≤ n; omega) (by show n ≤ (9223372036854775807 : Int); omega)
theorem sem_add {a b : Int} {t : TypeId} {lit : Bool} {k : IntKind} : semPrim c.P (.bin .add t lit) [.int k a, .int k b] = some (.int k (k.wrap (a + b))) := by
  rw [semBin (by simp) (by simp)]; simp [binOp, Op.intArith, pureRun, pure]
theorem sem_sub {a b : Int} {t : TypeId} {lit : Bool} {k : IntKind} : semPrim c.P (.bin .sub t lit) [.int k a, .int k b] = some (.int k (k.wrap (a - b))) := by
  rw [semBin (by simp) (by simp)]; simp [binOp, Op.intArith, pureRun, pure]
theorem addV_den {x y : V} {a b : Int} (hx : den c.P c.Φ ρ x = some (.int .i64 a)) (hy : den c.P c.Φ ρ y = some (.int .i64 b)) (ha : a.natAbs < 2 ^ 53) (hb : b.natAbs < 2 ^ 53) : den c.P c.Φ ρ (addV x y) = some (.int .i64 (a + b)) := by
  unfold addV
  cases h0 : isZero x with
  | true =>
    have := isZero_den h0 hx
    subst this
    rw [Int.zero_add]; exact hy
  | false =>
    simp only [cond_false]
    cases h1 : isZero y with
    | true =>
      have := isZero_den h1 hy
      subst this
      rw [Int.add_zero]; exact hx
    | false =>
      have := den_prim_of (c := c) (p := .bin .add 0 false) (D_two (D_of hx) (D_of hy)) sem_add rfl
      rw [wrap_i64 (by omega)] at this
      exact this
theorem subV_den {x y : V} {a b : Int} (hx : den c.P c.Φ ρ x = some (.int .i64 a)) (hy : den c.P c.Φ ρ y = some (.int .i64 b)) (ha : a.natAbs < 2 ^ 53) (hb : b.natAbs < 2 ^ 53) : den c.P c.Φ ρ (subV x y) = some (.int .i64 (a - b)) := by
  unfold subV
  cases h1 : isZero y with
  | true =>
    have := isZero_den h1 hy
    subst this
    rw [Int.sub_zero]; exact hx
  | false =>
    have := den_prim_of (c := c) (p := .bin .sub 0 false) (D_two (D_of hx) (D_of hy)) sem_sub rfl
    rw [wrap_i64 (by omega)] at this
    exact this
theorem i2fV_den {x : V} {n : Int} {k : IntKind} (hx : den c.P c.Φ ρ x = some (.int k n)) : den c.P c.Φ ρ (i2fV x) = some (.float .f64 (FloatKind.f64.nearest n)) := by
  simp only [den, Option.bind_eq_some_iff] at hx
  obtain ⟨l, hl, h2⟩ := hx
  rw [single_some] at h2; subst h2
  exact den_prim_of (xs := [.int k n]) (by simp [D, hl]) rfl rfl
theorem cmp_near {op : BinOp} {a b : Int} (hop : isCmp op = true) (ha : a.natAbs < 2 ^ 53) (hb : b.natAbs < 2 ^ 53) : pureRun c.P (Op.floatCmp op .f64 (FloatKind.f64.nearest a) (FloatKind.f64.nearest b)) = pureRun c.P (Op.intCmp op a b) := by
  have ho := order_near a b ha hb
  have e1 : (some (compare a b) == some Ordering.eq) = (a == b) := by
    rcases Int.lt_trichotomy a b with h | h | h
    · rw [Int.compare_eq_lt.2 h]; have : ¬ a = b := by omega
      simp [this]
    · subst h; rw [Int.compare_eq_eq.2 rfl]; simp
    · rw [Int.compare_eq_gt.2 h]; have : ¬ a = b := by omega
      simp [this]
  have e2 : (some (compare a b) == some Ordering.lt) = decide (a < b) := by
    rcases Int.lt_trichotomy a b with h | h | h
    · rw [Int.compare_eq_lt.2 h]; simp [h]
    · subst h; rw [Int.compare_eq_eq.2 rfl]; simp
    · rw [Int.compare_eq_gt.2 h]; have : ¬ a < b := by omega
      simp [this]
  have e3 : (some (compare a b) == some Ordering.gt) = decide (b < a) := by
    rcases Int.lt_trichotomy a b with h | h | h
    · rw [Int.compare_eq_lt.2 h]; have : ¬ b < a := by omega
      simp [this]
    · subst h; rw [Int.compare_eq_eq.2 rfl]; simp
    · rw [Int.compare_eq_gt.2 h]; simp [h]
  have fin : ∀ {p q : Bool}, p = q → pureRun c.P (pure (Value.bool p) : Sem Value) = pureRun c.P (pure (Value.bool q) : Sem Value) := fun h => by rw [h]
  cases op <;> simp only [isCmp, Bool.false_eq_true] at hop
  · show pureRun c.P (pure (Value.bool (FloatKind.f64.format.order _ _ == some .eq))) = pureRun c.P (pure (Value.bool (a == b)))
    rw [ho]; exact fin e1
  · show pureRun c.P (pure (Value.bool (!(FloatKind.f64.format.order _ _ == some .eq)))) = pureRun c.P (pure (Value.bool (!(a == b))))
    rw [ho, e1]
  · show pureRun c.P (pure (Value.bool (FloatKind.f64.format.order _ _ == some .lt))) = pureRun c.P (pure (Value.bool (decide (a < b))))
    rw [ho]; exact fin e2
  · show pureRun c.P (pure (Value.bool (FloatKind.f64.format.order _ _ == some .lt || FloatKind.f64.format.order _ _ == some .eq))) = pureRun c.P (pure (Value.bool (decide (a ≤ b))))
    rw [ho, e1, e2]
    refine fin ?_
    rw [Bool.eq_iff_iff]; simp; omega
  · show pureRun c.P (pure (Value.bool (FloatKind.f64.format.order _ _ == some .gt))) = pureRun c.P (pure (Value.bool (decide (a > b))))
    rw [ho]; exact fin e3
  · show pureRun c.P (pure (Value.bool (FloatKind.f64.format.order _ _ == some .gt || FloatKind.f64.format.order _ _ == some .eq))) = pureRun c.P (pure (Value.bool (decide (a ≥ b))))
    rw [ho, e1, e3]
    refine fin ?_
    rw [Bool.eq_iff_iff]; simp; omega

theorem fltX_ok (hs : SatH c F ρ S w) {op : BinOp} {t : TypeId} {lit : Bool} {u v r : V} {x y z : Value} (h : fltX c S op u v = some r) (hu : den c.P c.Φ ρ u = some x) (hv : den c.P c.Φ ρ v = some y)
    (hz : semPrim c.P (.bin op t lit) [x, y] = some z) : den c.P c.Φ ρ r = some z := by
  unfold fltX at h
  simp only [Option.bind_eq_some_iff] at h
  obtain ⟨a, ha, b, hb, h⟩ := h
  obtain ⟨hg, h⟩ := bif_none h
  rw [an_eq, Bool.and_eq_true] at hg
  obtain ⟨n, hn, hn'⟩ := small_den hs hg.1
  obtain ⟨m, hm, hm'⟩ := small_den hs hg.2
  obtain rfl := asInt_den ha hn hu
  obtain rfl := asInt_den hb hm hv
  split at h
  · simp only [Option.some.injEq] at h; subst h
    have : semPrim c.P (.bin .add t lit) [.float .f64 (FloatKind.f64.nearest n), .float .f64 (FloatKind.f64.nearest m)] = some (.float .f64 (FloatKind.f64.nearest (n + m))) := by
      rw [semBin (by simp) (by simp)]
      simp only [binOp, Op.floatArith, FloatKind.format, ne_eq, not_true_eq_false, if_false, add_near n m hn' hm']; rfl
    rw [this] at hz; cases hz
    exact i2fV_den (addV_den hn hm hn' hm')
  · simp only [Option.some.injEq] at h; subst h
    have : semPrim c.P (.bin .sub t lit) [.float .f64 (FloatKind.f64.nearest n), .float .f64 (FloatKind.f64.nearest m)] = some (.float .f64 (FloatKind.f64.nearest (n - m))) := by
      rw [semBin (by simp) (by simp)]
      simp only [binOp, Op.floatArith, FloatKind.format, ne_eq, not_true_eq_false, if_false, sub_near n m hn' hm']; rfl
    rw [this] at hz; cases hz
    exact i2fV_den (subV_den hn hm hn' hm')
  · obtain ⟨hop, h⟩ := bif_none h
    simp only [Option.some.injEq] at h; subst h
    rw [semFloat hop, cmp_near hop hn' hm'] at hz
    obtain ⟨z', hz'⟩ := cmp_some_int (c := c) (a := n) (b := m) hop
    rw [hz'] at hz; cases hz
    exact cmpV_int hop (D_of hn) (D_of hm) hz'

theorem intX_ok (hs : SatH c F ρ S w) {op : BinOp} {t : TypeId} {lit : Bool} {u v r : V} {x y z : Value} (h : intX c S op u v = some r) (hu : den c.P c.Φ ρ u = some x) (hv : den c.P c.Φ ρ v = some y) {k k' : IntKind} {a b : Int} (hx : x = .int k a) (hy : y = .int k' b)
    (hz : semPrim c.P (.bin op t lit) [x, y] = some z) : den c.P c.Φ ρ r = some z := by
  subst hx hy
  have hkk : ∀ {op : BinOp}, (op = .add ∨ op = .sub) → semPrim c.P (.bin op t lit) [.int k a, .int k' b] = some z → k = k' := by
    intro op hop h
    by_cases e : k = k'
    · exact e
    · rw [semBin (by simp) (by simp)] at h
      rcases hop with rfl | rfl <;> simp [binOp, e, stuck, pureRun] at h
  unfold intX at h
  split at h
  · obtain rfl := hkk (.inl rfl) hz
    rw [sem_add] at hz
    simp only [Option.some.injEq] at hz
    replace h := bif_some h
    rcases h with ⟨hg, h⟩ | ⟨_, h⟩
    · simp only [Option.some.injEq] at h; subst h
      rw [an_eq, Bool.and_eq_true] at hg
      obtain ⟨n, hn, hn'⟩ := small_den hs hg.2
      rw [hv] at hn; cases hn
      have := isZero_den hg.1 hu
      subst this
      rw [← hz, Int.zero_add, wrap_i64 (by omega)]; exact hv
    · obtain ⟨hg, h⟩ := bif_none h
      simp only [Option.some.injEq] at h; subst h
      rw [an_eq, Bool.and_eq_true] at hg
      obtain ⟨n, hn, hn'⟩ := small_den hs hg.2
      rw [hu] at hn; cases hn
      have := isZero_den hg.1 hv
      subst this
      rw [← hz, Int.add_zero, wrap_i64 (by omega)]; exact hu
  · obtain rfl := hkk (.inr rfl) hz
    rw [sem_sub] at hz
    simp only [Option.some.injEq] at hz
    obtain ⟨hg, h⟩ := bif_none h
    simp only [Option.some.injEq] at h; subst h
    rw [an_eq, Bool.and_eq_true] at hg
    obtain ⟨n, hn, hn'⟩ := small_den hs hg.2
    rw [hu] at hn; cases hn
    have := isZero_den hg.1 hv
    subst this
    rw [← hz, Int.sub_zero, wrap_i64 (by omega)]; exact hu
  · cases h

theorem symV_ok (hs : SatH c F ρ S w) {p : Prim} {vs : List V} {v : V} {ys : List Value} (h : symV c S p vs = some v) (hy : denL c.P c.Φ ρ vs = some ys) :
    ∃ x, den c.P c.Φ ρ v = some x ∧ semPrim c.P p ys = some x ∧ isScalar x = true := by
  unfold symV at h
  split at h
  · rename_i u hu
    simp only [Option.some.injEq] at h; subst h
    obtain ⟨x, rfl, h1, h2⟩ := primV_spec hu hy
    exact ⟨x, rfl, h1, h2⟩
  · simp only [Option.bind_eq_some_iff, Option.map_eq_some_iff] at h
    obtain ⟨ts, hts, ty, hty, rfl⟩ := h
    obtain ⟨xs, hx, hall⟩ := tyD_ok hs hts
    rw [D_chain hy] at hx; cases hx
    obtain ⟨x, h1, h2⟩ := primTy_ok hty hall
    refine ⟨x, ?_, h1, hasTy_scalar h2⟩
    split
    · rename_i op t lit a b u v _
      obtain ⟨x1, y1, rfl, ha, hb⟩ := all2_two hall
      simp only [denL, Option.bind_eq_some_iff, Option.map_eq_some_iff] at hy
      obtain ⟨x2, hx2, ys2, ⟨y2, hy2, zs, hz, rfl⟩, he⟩ := hy
      simp only [Option.some.injEq] at hz; subst hz
      cases he
      have hu : D c.P c.Φ ρ u = some [x1] := by
        simp only [den, Option.bind_eq_some_iff] at hx2
        obtain ⟨l, hl, h2⟩ := hx2
        rw [single_some] at h2; subst h2; exact hl
      have hv : D c.P c.Φ ρ v = some [y1] := by
        simp only [den, Option.bind_eq_some_iff] at hy2
        obtain ⟨l, hl, h2⟩ := hy2
        rw [single_some] at h2; subst h2; exact hl
      split
      · rename_i r hr
        replace hr := bif_some hr
        rcases hr with ⟨_, hr⟩ | ⟨hnf, hr⟩
        · exact fltX_ok hs hr hx2 hy2 h1
        · have hint : ∃ k a k' b, x1 = .int k a ∧ y1 = .int k' b := by
            have hop : op = .add ∨ op = .sub := by
              unfold intX at hr
              split at hr
              · exact .inl rfl
              · exact .inr rfl
              · cases hr
            unfold primTy at hty
            dsimp only at hty
            split at hty
            · rename_i p1 p2 h3 h4
              obtain ⟨n, rfl, _⟩ := inty_ok h3 ha
              obtain ⟨m, rfl, _⟩ := inty_ok h4 hb
              exact ⟨_, _, _, _, rfl, rfl⟩
            · split at hty
              · obtain ⟨hc, _⟩ := bif_none hty
                rcases hop with rfl | rfl <;> cases hc
              · obtain ⟨hc, _⟩ := bif_none hty
                rcases hop with rfl | rfl <;> cases hc
              · cases hnf
              · obtain ⟨hc, _⟩ := bif_none hty
                simp only [Bool.and_eq_true] at hc
                rcases hop with rfl | rfl <;> cases hc.2
            · cases hty
          obtain ⟨k1, a1, k2, b1, rfl, rfl⟩ := hint
          exact intX_ok hs hr hx2 hy2 rfl rfl h1
      · exact plainCmp_ok hty ha hb hu hv h1
    · exact den_prim_of (D_chain hy) h1 (hasTy_scalar h2)
end
end Go.Proofs.Ytobghgfmdjknlaa.Sx
