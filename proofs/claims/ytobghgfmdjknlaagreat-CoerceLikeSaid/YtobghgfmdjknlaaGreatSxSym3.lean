/- Symbolic execution: truths that part in two, and primitives on what is not known. -/
import Derived.Test.YtobghgfmdjknlaaGreatSxSym2
namespace Go.Proofs.YtobghgfmdjknlaaGreat.Sx
open Go
set_option linter.unusedSectionVars false

section
variable {c : Cfg} {F : Wd} [k : COk c] {ρ : Env} {S : St} {w : World}

/-- The same state, of which more may be known. -/
structure Kin (S S' : St) : Prop where
  tmps : S'.tmps = S.tmps
  nt : S'.nt = S.nt
  heap : S'.heap = S.heap
  log : S'.log = S.log
theorem Kin.refl (S : St) : Kin S S := ⟨rfl, rfl, rfl, rfl⟩
theorem Kin.trans {S S' S'' : St} (h : Kin S S') (h' : Kin S' S'') : Kin S S'' := ⟨h'.tmps.trans h.tmps, h'.nt.trans h.nt, h'.heap.trans h.heap, h'.log.trans h.log⟩
theorem Kin.unch {S S' : St} (h : Kin S S') : Unch S S' := ⟨fun n hn => by rw [h.log]; exact hn, fun n _ => by rw [h.heap]⟩
theorem Kin.assume (S : St) (v : V) (b : Bool) : Kin S (S.assume v b) := ⟨rfl, rfl, rfl, rfl⟩

theorem SatH.assume (h : SatH c F ρ S w) {v : V} {b : Bool} (hv : den c.P c.Φ ρ v = some (.bool b)) : SatH c F ρ (S.assume v b) w := by
  obtain ⟨a1, a2, a3, a4, a5, a6, a7, a8, a9, a10, a11⟩ := h
  refine ⟨a1, a2, a3, a4, a5, a6, a7, a8, a9, a10, ?_⟩
  intro f hf
  rcases List.mem_cons.1 hf with rfl | hf
  · exact hv
  · exact a11 f hf

theorem splitX_ok (hs : SatH c F ρ S w) {v : V} {x : Value} {l : List (Bool × St)} (hv : den c.P c.Φ ρ v = some x) (h : splitX c S v = some l) :
    ∃ z S', x = .bool z ∧ (z, S') ∈ l ∧ SatH c F ρ S' w ∧ Kin S S' := by
  unfold splitX at h
  split at h
  · simp only [Option.some.injEq] at h; subst h
    simp only [den_k, Option.some.injEq] at hv
    exact ⟨_, S, hv.symm, by simp, hs, .refl S⟩
  · split at h
    case h_2 => cases h
    rename_i hty
    obtain ⟨y, hy, z, rfl⟩ := tyOf_ok hs hty
    rw [hv] at hy; cases hy
    split at h
    · rename_i b hb
      have := knownX_ok hs hv hb
      subst this
      simp only [Option.some.injEq] at h; subst h
      exact ⟨_, S, rfl, by simp, hs, .refl S⟩
    · obtain ⟨z', h1, h2⟩ := polX_den (b := true) hv
      simp only [Option.some.injEq] at h; subst h
      cases z with
      | true =>
        have : z' = (polX v true).2 := by cases z' <;> cases hp : (polX v true).2 <;> simp_all
        subst this
        exact ⟨true, _, rfl, List.mem_cons_self .., hs.assume h1, .assume _ _ _⟩
      | false =>
        have : z' = !(polX v true).2 := by cases z' <;> cases hp : (polX v true).2 <;> simp_all
        subst this
        exact ⟨false, _, rfl, List.mem_cons_of_mem _ (List.mem_cons_self ..), hs.assume h1, .assume _ _ _⟩
theorem splitX_kin {v : V} {l : List (Bool × St)} (h : splitX c S v = some l) : ∀ x, x ∈ l → Kin S x.2 := by
  unfold splitX at h
  split at h
  · simp only [Option.some.injEq] at h; subst h
    intro x hx; simp only [List.mem_singleton] at hx; subst hx; exact .refl S
  · split at h
    case h_2 => cases h
    split at h
    · simp only [Option.some.injEq] at h; subst h
      intro x hx; simp only [List.mem_singleton] at hx; subst hx; exact .refl S
    · simp only [Option.some.injEq] at h; subst h
      intro x hx
      simp only [List.mem_cons, List.not_mem_nil, or_false] at hx
      rcases hx with rfl | rfl <;> exact .assume _ _ _

theorem tidyX_ok (hs : SatH c F ρ S w) {v : V} {x : Value} (hv : den c.P c.Φ ρ v = some x) : den c.P c.Φ ρ (tidyX c S v) = some x := by
  unfold tidyX
  split
  · exact hv
  · split
    · rename_i hty
      split
      · rename_i b hb
        obtain ⟨y, hy, z, rfl⟩ := tyOf_ok hs hty
        rw [hv] at hy; cases hy
        rw [knownX_ok hs hv hb]; rfl
      · exact hv
    · exact hv

theorem litX_ok (hs : SatH c F ρ S w) {v : V} {n : Int} (h : litX c S v = some n) : ∃ k, den c.P c.Φ ρ v = some (.int k n) := by
  unfold litX at h
  split at h
  · simp only [Option.some.injEq] at h; subst h; exact ⟨_, rfl⟩
  · simp only [Option.bind_eq_some_iff] at h
    obtain ⟨r, hr, h⟩ := h
    split at h
    case h_2 => cases h
    rename_i hi heq
    obtain ⟨hg, h⟩ := bif_none h
    simp only [Option.some.injEq] at h; subst h
    obtain ⟨k, m, hm, h1, h2⟩ := boundsX_ok hs hr
    have := of_decide_eq_true hg
    have := h2 _ heq
    have : m = hi := by omega
    subst this
    exact ⟨k, hm⟩

theorem bin_int (op : BinOp) (t t' : TypeId) (k k' : IntKind) (a b : Int) : binOp op t (.int k a) (.int k' b) = binOp op t' (.int k a) (.int k' b) := by cases op <;> rfl
theorem bin_float (op : BinOp) (t t' : TypeId) (k k' : FloatKind) (a b : Nat) : binOp op t (.float k a) (.float k' b) = binOp op t' (.float k a) (.float k' b) := by cases op <;> rfl
theorem bin_str (op : BinOp) (t t' : TypeId) (a b : ByteArray) : binOp op t (.string a) (.string b) = binOp op t' (.string a) (.string b) := by cases op <;> rfl

theorem D_two {u v : V} {x y : Value} (hu : D c.P c.Φ ρ u = some [x]) (hv : D c.P c.Φ ρ v = some [y]) : D c.P c.Φ ρ (.cons u (.cons v .nil)) = some [x, y] := by simp [D, hu, hv]
theorem not_of {v : V} {z : Bool} (h : den c.P c.Φ ρ v = some (.bool z)) : den c.P c.Φ ρ (notV v) = some (.bool !z) := by
  simp only [den, Option.bind_eq_some_iff] at h
  obtain ⟨xs, hx, h2⟩ := h
  rw [single_some] at h2
  subst h2
  exact den_prim_of (xs := [.bool z]) (by simp [D, hx]) rfl rfl

theorem cmpV_int {op : BinOp} {k : IntKind} {a b : Int} {u v : V} {z : Bool} (hop : isCmp op = true) (hu : D c.P c.Φ ρ u = some [.int k a]) (hv : D c.P c.Φ ρ v = some [.int k b])
    (h : pureRun c.P (Op.intCmp op a b) = some (.bool z)) : den c.P c.Φ ρ (cmpV op u v) = some (.bool z) := by
  have eq : ∀ {u v : V} {a b : Int}, D c.P c.Φ ρ u = some [.int k a] → D c.P c.Φ ρ v = some [.int k b] → den c.P c.Φ ρ (.prim (.bin .eql 0 false) (.cons u (.cons v .nil))) = some (.bool (a == b)) := by
    intro u v a b hu hv
    exact den_prim_of (D_two hu hv) (by rw [semInt rfl]; rfl) rfl
  have lt : ∀ {u v : V} {a b : Int}, D c.P c.Φ ρ u = some [.int k a] → D c.P c.Φ ρ v = some [.int k b] → den c.P c.Φ ρ (.prim (.bin .lss 0 false) (.cons u (.cons v .nil))) = some (.bool (decide (a < b))) := by
    intro u v a b hu hv
    exact den_prim_of (D_two hu hv) (by rw [semInt rfl]; rfl) rfl
  have eqs : den c.P c.Φ ρ (.prim (.bin .eql 0 false) (bif isLit u then .cons v (.cons u .nil) else .cons u (.cons v .nil))) = some (.bool (a == b)) := by
    cases isLit u
    · exact eq hu hv
    · have := eq hv hu
      rw [show (a == b) = (b == a) from Bool.beq_comm ..]
      exact this
  cases op <;> simp only [isCmp, Bool.false_eq_true] at hop
  · have h : some (Value.bool (a == b)) = some (.bool z) := h
    rw [← h]; exact eqs
  · have h : some (Value.bool (a != b)) = some (.bool z) := h
    rw [← h]; exact not_of eqs
  · have h : some (Value.bool (decide (a < b))) = some (.bool z) := h
    rw [← h]; exact lt hu hv
  · have h : some (Value.bool (decide (a ≤ b))) = some (.bool z) := h
    rw [← h]
    have := not_of (lt hv hu)
    rw [show decide (a ≤ b) = !decide (b < a) by rw [← decide_not]; exact decide_eq_decide.2 (by omega)]
    exact this
  · have h : some (Value.bool (decide (a > b))) = some (.bool z) := h
    rw [← h]; exact lt hv hu
  · have h : some (Value.bool (decide (a ≥ b))) = some (.bool z) := h
    rw [← h]
    have := not_of (lt hu hv)
    rw [show decide (a ≥ b) = !decide (a < b) by rw [← decide_not]; exact decide_eq_decide.2 (by omega)]
    exact this

theorem cmpV_str {op : BinOp} {a b : ByteArray} {u v : V} {z : Bool} (hop : op = .eql ∨ op = .neq) (hu : D c.P c.Φ ρ u = some [.string a]) (hv : D c.P c.Φ ρ v = some [.string b])
    (h : pureRun c.P (Op.stringOp op a b) = some (.bool z)) : den c.P c.Φ ρ (cmpV op u v) = some (.bool z) := by
  have eq : ∀ {u v : V} {a b : ByteArray}, D c.P c.Φ ρ u = some [.string a] → D c.P c.Φ ρ v = some [.string b] → den c.P c.Φ ρ (.prim (.bin .eql 0 false) (.cons u (.cons v .nil))) = some (.bool (a.toList == b.toList)) := by
    intro u v a b hu hv
    exact den_prim_of (D_two hu hv) (by rw [semStr]; rfl) rfl
  have eqs : den c.P c.Φ ρ (.prim (.bin .eql 0 false) (bif isLit u then .cons v (.cons u .nil) else .cons u (.cons v .nil))) = some (.bool (a.toList == b.toList)) := by
    cases isLit u
    · exact eq hu hv
    · have := eq hv hu
      rw [show (a.toList == b.toList) = (b.toList == a.toList) from Bool.beq_comm ..]
      exact this
  rcases hop with rfl | rfl
  · have h : some (Value.bool (a.toList == b.toList)) = some (.bool z) := h
    rw [← h]; exact eqs
  · have h : some (Value.bool (!(a.toList == b.toList))) = some (.bool z) := h
    rw [← h]; exact not_of eqs

theorem eqlOr_ok {op : BinOp} {t : TypeId} {u v : V} {r : Value} (h : op ≠ .neq → den c.P c.Φ ρ (.prim (.bin op t false) (.cons u (.cons v .nil))) = some r)
    (hn : op = .neq → ∃ z, den c.P c.Φ ρ (.prim (.bin .eql t false) (.cons u (.cons v .nil))) = some (.bool z) ∧ r = .bool !z) : den c.P c.Φ ρ (eqlOr t op u v) = some r := by
  unfold eqlOr
  split
  · obtain ⟨z, h1, rfl⟩ := hn rfl
    exact not_of h1
  · rename_i hne; exact h (fun e => hne e)

theorem plainCmp_ok {op : BinOp} {t : TypeId} {lit : Bool} {a b ty : Ty} {u v : V} {x y r : Value} (hty : primTy c (.bin op t lit) [a, b] = some ty) (ha : hasTy x a) (hb : hasTy y b)
    (hu : D c.P c.Φ ρ u = some [x]) (hv : D c.P c.Φ ρ v = some [y]) (h : semPrim c.P (.bin op t lit) [x, y] = some r) : den c.P c.Φ ρ (plainCmp op t a u v) = some r := by
  have hsc : isScalar r = true := by
    obtain ⟨r', hr, ht⟩ := primTy_ok hty (.cons ha (.cons hb .nil))
    rw [h] at hr; cases hr
    exact hasTy_scalar ht
  unfold primTy at hty
  dsimp only at hty
  unfold plainCmp
  split at hty
  · rename_i k1 lo hi k2 lo' hi' h1 h2
    obtain ⟨n, rfl, _, _⟩ := inty_ok h1 ha
    obtain ⟨m, rfl, _, _⟩ := inty_ok h2 hb
    rw [h1]
    replace hty := bif_none hty
    obtain ⟨hk, hty⟩ := hty
    simp only [decide_eq_true_eq] at hk; subst hk
    dsimp only
    by_cases hop : isCmp op = true
    · rw [semInt hop] at h
      obtain ⟨z, hz⟩ := cmp_some_int (c := c) (a := n) (b := m) hop
      rw [hz] at h; cases h
      exact cmpV_int hop hu hv hz
    · have : cmpV op u v = .prim (.bin op 0 false) (.cons u (.cons v .nil)) := by
        cases op <;> simp only [isCmp, not_true_eq_false] at hop <;> rfl
      rw [this]
      refine den_prim_of (D_two hu hv) ?_ hsc
      rw [semBin (by simp) (by simp)] at h ⊢
      rw [bin_int op 0 t]; exact h
  · rename_i h1 h2
    rw [h1]
    split at hty
    · obtain ⟨s, rfl⟩ := ha; obtain ⟨s', rfl⟩ := hb
      dsimp only
      obtain ⟨hop, _⟩ := bif_none hty
      rw [semStr] at h
      by_cases he : isEq op = true
      · rw [he]
        obtain ⟨z, hz⟩ := cmp_some_str (c := c) (op := op) (a := s) (b := s') hop
        rw [hz] at h; cases h
        exact cmpV_str (by cases op <;> simp_all [isEq]) hu hv hz
      · rw [Bool.not_eq_true] at he
        rw [he]
        exact den_prim_of (D_two hu hv) (by rw [semStr]; exact h) hsc
    · obtain ⟨s, rfl⟩ := ha; obtain ⟨s', rfl⟩ := hb
      dsimp only
      replace hty := bif_none hty
      obtain ⟨hop, hty⟩ := hty
      split at hty
      case h_2 => cases hty
      rename_i hund
      have hund := und_spec hund
      rw [semBool hund hop] at h
      refine eqlOr_ok (fun hne => ?_) (fun he => ?_)
      · exact den_prim_of (D_two hu hv) (by rw [semBool hund hop]; exact h) hsc
      · subst he
        simp only [Option.some.injEq] at h
        exact ⟨s == s', den_prim_of (D_two hu hv) (by rw [semBool hund rfl]) rfl, h.symm⟩
    · obtain ⟨hg, _⟩ := bif_none hty
      simp only [Bool.and_eq_true] at hg
      obtain ⟨hg, hop⟩ := hg
      obtain ⟨s, rfl⟩ := floaty_ok hg.1 ha; obtain ⟨s', rfl⟩ := floaty_ok hg.2 hb
      rw [semFloat hop] at h
      have hf := hg.1
      have fin : den c.P c.Φ ρ (eqlOr 0 op u v) = some r := by
        refine eqlOr_ok (fun hne => ?_) (fun he => ?_)
        · exact den_prim_of (D_two hu hv) (by rw [semFloat hop]; exact h) hsc
        · subst he
          have h' : some (Value.bool (FloatKind.f64.format.order s s' != some .eq)) = some r := h
          simp only [Option.some.injEq] at h'
          exact ⟨FloatKind.f64.format.order s s' == some .eq, den_prim_of (D_two hu hv) (by rw [semFloat rfl]; rfl) rfl, h'.symm⟩
      cases a <;> first | exact fin | (simp only [floaty, Bool.false_eq_true] at hf)
  · cases hty

theorem symV_ok (hs : SatH c F ρ S w) {p : Prim} {vs : List V} {v : V} {ys : List Value} (h : symV c S p vs = some v) (hy : denL c.P c.Φ ρ vs = some ys) :
    ∃ x, den c.P c.Φ ρ v = some x ∧ semPrim c.P p ys = some x ∧ isScalar x = true := by
  unfold symV at h
  split at h
  · rename_i u hu
    simp only [Option.some.injEq] at h; subst h
    obtain ⟨x, rfl, h1, h2⟩ := primV_spec hu hy
    exact ⟨x, rfl, h1, h2⟩
  · simp only [Option.bind_eq_some_iff, Option.map_eq_some_iff] at h
    obtain ⟨ts, hts, ty, hty, rfl⟩ := h
    obtain ⟨xs, hx, hall⟩ := tyD_ok hs hts
    rw [D_chain hy] at hx; cases hx
    obtain ⟨x, h1, h2⟩ := primTy_ok hty hall
    refine ⟨x, ?_, h1, hasTy_scalar h2⟩
    split
    · rename_i op t lit a b u v _
      obtain ⟨x1, y1, rfl, ha, hb⟩ := all2_two hall
      simp only [denL, Option.bind_eq_some_iff, Option.map_eq_some_iff] at hy
      obtain ⟨x2, hx2, ys2, ⟨y2, hy2, zs, hz, rfl⟩, he⟩ := hy
      simp only [Option.some.injEq] at hz; subst hz
      cases he
      have hu : D c.P c.Φ ρ u = some [x1] := by
        simp only [den, Option.bind_eq_some_iff] at hx2
        obtain ⟨l, hl, h2⟩ := hx2
        rw [single_some] at h2; subst h2; exact hl
      have hv : D c.P c.Φ ρ v = some [y1] := by
        simp only [den, Option.bind_eq_some_iff] at hy2
        obtain ⟨l, hl, h2⟩ := hy2
        rw [single_some] at h2; subst h2; exact hl
      exact plainCmp_ok hty ha hb hu hv h1
    · exact den_prim_of (D_chain hy) h1 (hasTy_scalar h2)
end
end Go.Proofs.YtobghgfmdjknlaaGreat.Sx
