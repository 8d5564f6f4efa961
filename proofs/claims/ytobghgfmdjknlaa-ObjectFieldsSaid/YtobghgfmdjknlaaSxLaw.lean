/- A law's frame: its arguments by their flat types; what is owed behind a call that left all as it was. -/
import Derived.Test.YtobghgfmdjknlaaSxPure
import Derived.ChangeSame
import Derived.Carry
import Derived.WideShapes
import Derived.Handed
namespace Go.Proofs.Ytobghgfmdjknlaa.Sx
open Go Go.RowKit
set_option linter.unusedSectionVars false

noncomputable section
def flatFs (P : Program) (g : TypeId → Option (List Ty)) : List Field → Nat → Option (List Ty)
  | [], _ => some []
  | f :: r, n => bif Nat.beq f.offset n then (g f.type).bind fun l => bif Nat.beq l.length (P.cellsOf f.type) then (flatFs P g r (n + l.length)).map fun m => l ++ m else none else none
/-- The cells' types of a value that holds no memory. -/
def flatT (P : Program) : Nat → TypeId → Option (List Ty)
  | 0, _ => none
  | d + 1, t => match P.underlying t with
    | some .bool => some [.bool]
    | some (.int k) => some [fullTy k]
    | some (.float .f64) => some [.f64]
    | some .string => some [.str]
    | some (.struct fs) => (flatFs P (flatT P d) fs.toList 0).bind fun l => bif Nat.beq l.length (P.cellsOf t) then some l else none
    | _ => none
end

section
variable {H : Type} {enc : TypeId × Value → H} {P : Program} {w : World} {base : Nat} {spare : Nat → Bool} {held : Bool}

theorem wf_full {k : IntKind} {n : Int} (h : (Lit.int k n).wf = true) : hasTy (.int k n) (fullTy k) := by
  simp only [Lit.wf, Bool.and_eq_true, decide_eq_true_eq] at h
  exact ⟨n, rfl, h.1, fun _ e => by cases e; exact h.2⟩

theorem all2_len {xs : List Value} {ts : List Ty} (h : All2 hasTy xs ts) : xs.length = ts.length := by
  induction h with
  | nil => rfl
  | cons _ _ ih => simp [ih]

/-- A float's bits are those of a word. -/
def wordly : Value → Prop
  | .float .f64 b => b < 2 ^ 64
  | _ => True
def hasTyW (x : Value) (t : Ty) : Prop := hasTy x t ∧ wordly x
theorem all2_lenW {xs : List Value} {ts : List Ty} (h : All2 hasTyW xs ts) : xs.length = ts.length := by
  induction h with
  | nil => rfl
  | cons _ _ ih => simp [ih]
theorem all2_appendW {xs ys : List Value} {ts us : List Ty} (h : All2 hasTyW xs ts) (h2 : All2 hasTyW ys us) : All2 hasTyW (xs ++ ys) (ts ++ us) := by
  induction h with
  | nil => exact h2
  | cons h _ ih => exact .cons h ih
theorem all2_ofW {xs : List Value} {ts : List Ty} (h : All2 hasTyW xs ts) : All2 hasTy xs ts := by
  induction h with
  | nil => exact .nil
  | cons h _ ih => exact .cons h.1 ih
theorem trod_flatW : ∀ (d : Nat) {t : TypeId} {cs : List Value} {x : DataW H × List MemPlace} {tys : List Ty} {fuel : Nat}, DataW.trod enc P w base spare held fuel t cs = some x → flatT P d t = some tys → All2 hasTyW cs tys
  | 0, _, _, _, _, _, _, hf => by cases hf
  | d + 1, t, cs, x, tys, 0, h, hf => by simp [DataW.trod] at h
  | d + 1, t, cs, x, tys, fuel + 1, h, hf => by
    unfold flatT at hf
    split at hf
    · rename_i hu
      simp only [Option.some.injEq] at hf; subst hf
      unfold DataW.trod at h
      rw [hu] at h
      match cs, h with
      | [.bool b], _ => exact .cons ⟨⟨b, rfl⟩, trivial⟩ .nil
    · rename_i k hu
      simp only [Option.some.injEq] at hf; subst hf
      unfold DataW.trod at h
      rw [hu] at h
      match cs, h with
      | [.int k' n], h =>
        simp only at h
        split at h
        · rename_i hk
          obtain ⟨rfl, hw⟩ := hk
          exact .cons ⟨wf_full hw, trivial⟩ .nil
        · cases h
    · rename_i hu
      simp only [Option.some.injEq] at hf; subst hf
      unfold DataW.trod at h
      rw [hu] at h
      match cs, h with
      | [.float k b], h =>
        simp only at h
        split at h
        · rename_i hk
          obtain ⟨rfl, hw⟩ := hk
          exact .cons ⟨⟨b, rfl⟩, (of_decide_eq_true hw : b < 2 ^ 64)⟩ .nil
        · cases h
    · rename_i hu
      simp only [Option.some.injEq] at hf; subst hf
      unfold DataW.trod at h
      rw [hu] at h
      match cs, h with
      | [.string s], _ => exact .cons ⟨⟨s, rfl⟩, trivial⟩ .nil
    · rename_i fs hu
      rw [Option.bind_eq_some_iff] at hf
      obtain ⟨l, hl, hf⟩ := hf
      obtain ⟨hlen, hf⟩ := bif_none hf
      simp only [Option.some.injEq] at hf; subst hf
      have hlen := beqT hlen
      unfold DataW.trod at h
      rw [hu] at h
      simp only at h
      split at h
      case isFalse => cases h
      rename_i hcs
      rw [Option.map_eq_some_iff] at h
      obtain ⟨ys, hys, rfl⟩ := h
      have key : ∀ (fl : List Field) (n : Nat) (ys : List (DataW H × List MemPlace)) (l : List Ty), (fl.mapM fun f => DataW.trod enc P w base spare held fuel f.type ((cs.drop f.offset).take (P.cellsOf f.type))) = some ys → flatFs P (flatT P d) fl n = some l →
          All2 hasTyW ((cs.drop n).take l.length) l := by
        intro fl
        induction fl with
        | nil =>
          intro n ys l _ hl
          simp only [flatFs, Option.some.injEq] at hl; subst hl
          simp only [List.length_nil, List.take_zero]
          exact .nil
        | cons f r ih =>
          intro n ys l hm hl
          unfold flatFs at hl
          obtain ⟨ho, hl⟩ := bif_none hl
          have ho := beqT ho
          subst ho
          rw [Option.bind_eq_some_iff] at hl
          obtain ⟨l1, hl1, hl⟩ := hl
          obtain ⟨hc, hl⟩ := bif_none hl
          have hc := beqT hc
          rw [Option.map_eq_some_iff] at hl
          obtain ⟨l2, hl2, rfl⟩ := hl
          simp only [List.mapM_cons, Option.bind_eq_bind, Option.bind_eq_some_iff] at hm
          obtain ⟨y, hy, ys', hys', _⟩ := hm
          have h1 := trod_flatW d hy hl1
          have h2 := ih _ _ _ hys' hl2
          have h3 := all2_appendW h1 h2
          have hlen1 := all2_lenW h1
          rw [List.length_append]
          have : (cs.drop f.offset).take (l1.length + l2.length) = (cs.drop f.offset).take (P.cellsOf f.type) ++ (cs.drop (f.offset + l1.length)).take l2.length := by
            rw [← hc, List.take_add, List.drop_drop]
          rw [this]
          exact h3
      have := key fs.toList 0 ys l hys hl
      rw [List.drop_zero, hlen, ← hcs, List.take_length] at this
      exact this
    · cases hf

theorem trod_flat {d : Nat} {t : TypeId} {cs : List Value} {x : DataW H × List MemPlace} {tys : List Ty} {fuel : Nat} (h : DataW.trod enc P w base spare held fuel t cs = some x) (hf : flatT P d t = some tys) : All2 hasTy cs tys := all2_ofW (trod_flatW d h hf)

/-- An argument that holds no memory: its cells, and the value that they make. -/
theorem open_flat {r : Reach} {b0 : Nat} {t : TypeId} {v : Value} {dd : DataW H} {ps : List MemPlace} {d : Nat} {tys : List Ty} (hv : Value.okWide P w r b0 t v) (h : DataW.Trod enc P w base spare held t v dd ps) (hf : flatT P d t = some tys) :
    All2 hasTy v.cells.toList tys ∧ ((∃ fs, P.underlying t = some (.struct fs)) ∧ v = .agg v.cells ∨ (∀ fs, P.underlying t ≠ some (.struct fs)) ∧ v.cells = #[v]) := by
  obtain ⟨fuel, hfu⟩ := h
  refine ⟨trod_flat hfu hf, ?_⟩
  cases d with
  | zero => cases hf
  | succ d =>
    unfold flatT at hf
    split at hf
    · rename_i hu
      obtain ⟨b, rfl⟩ := WideShapes.okWide_bool hu hv
      exact .inr ⟨fun fs e => (by rw [hu] at e; cases e), rfl⟩
    · rename_i hu
      obtain ⟨b, rfl⟩ := WideShapes.okWide_int hu hv
      exact .inr ⟨fun fs e => (by rw [hu] at e; cases e), rfl⟩
    · rename_i hu
      refine .inr ⟨fun fs e => (by rw [hu] at e; cases e), ?_⟩
      simp only [Value.okWide, hu, Cell.okWide] at hv
      cases v <;> simp_all [Cell.ok, Value.cells]
    · rename_i hu
      obtain ⟨b, rfl⟩ := WideShapes.okWide_string hu hv
      exact .inr ⟨fun fs e => (by rw [hu] at e; cases e), rfl⟩
    · rename_i fs hu
      obtain ⟨cs, rfl, _⟩ := WideShapes.okWide_struct hu hv
      exact .inl ⟨⟨fs, hu⟩, rfl⟩
    · cases hf

theorem open_wordly {t : TypeId} {v : Value} {dd : DataW H} {ps : List MemPlace} {d : Nat} {tys : List Ty} (h : DataW.Trod enc P w base spare held t v dd ps) (hf : flatT P d t = some tys) : ∀ x, x ∈ v.cells.toList → wordly x := by
  obtain ⟨fuel, hfu⟩ := h
  have key : ∀ {xs : List Value} {ts : List Ty}, All2 hasTyW xs ts → ∀ x, x ∈ xs → wordly x := by
    intro xs ts h
    induction h with
    | nil => intro x hx; cases hx
    | cons h _ ih =>
      intro x hx
      rcases List.mem_cons.1 hx with rfl | hx
      · exact h.2
      · exact ih x hx
  exact key (trod_flatW d hfu hf)

theorem below_trodAll {W W' : World} (hl : laidOutB P = true) (hb : Below W.heap.size W W') : ∀ {ts : List TypeId} {vs : List Value} {ds : List (DataW H)} {ps : List MemPlace}, (∀ t, t ∈ ts → P.readableRec t = true ∧ t < P.types.size) →
    (∀ x, x ∈ ps → x.block < W.heap.size) → DataW.TrodAll enc P W 0 (fun _ => true) true ts vs ds ps → DataW.TrodAll enc P W' 0 (fun b => decide (b < W.heap.size)) true ts vs ds ps
  | [], [], [], _, _, _, h => h
  | [], [], _ :: _, _, _, _, h => h.elim
  | [], _ :: _, _, _, _, _, h => h.elim
  | _ :: _, [], _, _, _, _, h => h.elim
  | _ :: _, _ :: _, [], _, _, _, h => h.elim
  | t :: ts, v :: vs, d :: ds, ps, ht, hlt, h => by
    obtain ⟨p, q, h1, h2, rfl⟩ := h
    obtain ⟨hr, hrow⟩ := ht t (List.mem_cons_self ..)
    exact ⟨p, q, Below.trod hl hr hrow h1 hb (fun x hx => hlt x (List.mem_append_left _ hx)), below_trodAll hl hb (fun t ht' => ht t (List.mem_cons_of_mem _ ht')) (fun x hx => hlt x (List.mem_append_right _ hx)) h2, rfl⟩

/-- WHAT A LAW OWES behind a call that returned true and left old memory as it was. -/
theorem law_post {f : Func} {s : ChangeSpec} {W W' : World} {args : Array Value} {ds gs : List (DataW H)} {before : List MemPlace} {tb : TypeId} (hl : laidOutB P = true) (hp : ∀ t, t ∈ f.params.toList → P.readableRec t = true ∧ t < P.types.size)
    (hres : f.resultTypes = #[tb]) (htb : P.underlying tb = some .bool) (hvars : s.vars = [])
    (hs1 : (s.fn H (ds ++ gs)).results = [.lit (.bool true)]) (hs2 : (s.fn H (ds ++ gs)).args = ds) (hs3 : (s.fn H (ds ++ gs)).vars = [])
    (hW : DataW.Whole enc P f.params.toList s.vars false W args.toList ds gs before) (hb : Below W.heap.size W W') : s.post enc P f false true false false W args (.bool true) W' := by
  have hW' := hW
  obtain ⟨p, q, hA, hV, rfl, hfz, hnd⟩ := hW
  have hlt : ∀ x, x ∈ p ++ q → x.block < W.heap.size := fun x hx => hW'.lt x hx
  rw [hvars] at hV
  have hq : gs = [] ∧ q = [] := by
    cases gs with
    | nil => exact ⟨rfl, hV⟩
    | cons _ _ => exact hV.elim
  obtain ⟨rfl, rfl⟩ := hq
  refine ⟨ds, [], p ++ [], [], p, [], hW', ?_, ?_, ?_, ?_, fun h => by cases h⟩
  · rw [hs1, hres]
    exact ChangeShapes.trodAll_mk1 ⟨1, by simp [DataW.trod, Value.cells, htb]⟩
  · rw [hs2]
    exact below_trodAll hl hb hp (fun x hx => hlt x (List.mem_append_left _ hx)) hA
  · rw [hs3, hvars]; rfl
  · exact hb.frame _

end

section
variable {c : Cfg}
theorem all2_cons {R : Value → Ty → Prop} {xs : List Value} {t : Ty} {ts : List Ty} (h : All2 R xs (t :: ts)) : ∃ x r, xs = x :: r ∧ R x t ∧ All2 R r ts := by
  cases h with | cons h r => exact ⟨_, _, rfl, h, r⟩
theorem all2_nil {R : Value → Ty → Prop} {xs : List Value} (h : All2 R xs []) : xs = [] := by cases h; rfl
theorem float_cases (b : Nat) : hasTy (.float .f64 b) .nan ∨ hasTy (.float .f64 b) .num := by
  by_cases hn : ∃ s t, Ieee.double.read b = .nan s t
  · obtain ⟨s, t, h⟩ := hn; exact .inl ⟨b, s, t, rfl, h⟩
  · exact .inr ⟨b, rfl, fun s t h => hn ⟨s, t, h⟩⟩

/-- A form that comes to true alone. -/
theorem lem_true_pre {f : FuncId} {L : Lem} (hL : LemOk c f L) (hb : L.blks = []) (ho : L.outs = [⟨[], [], .k (.bool true)⟩]) (xs : List Value) (hx : All2 hasTy xs L.tys) (hp : ∀ g, g ∈ L.pre → ∀ z, den c.P c.Φ (envL xs) g.1 = some (.bool z) → z = g.2)
    {vals : List Value} (hv : D c.P c.Φ (envL xs) (chain L.args) = some vals) (w : World) (hi : c.inv w) (hl : ∀ b, b < c.low → b < w.heap.size) : Calls c.P f vals.toArray w fun e w' => e = .returned (.bool true) ∧ Below w.heap.size w w' := by
  have hget : ∀ {xs : List Value} {ts : List Ty}, All2 hasTy xs ts → ∀ (i : Nat) (t : Ty), ts[i]? = some t → ∃ x, xs[i]? = some x ∧ hasTy x t := by
    intro xs ts h
    induction h with
    | nil => intro i t h; simp at h
    | cons hx _ ih =>
      intro i t h
      cases i with
      | zero => simp only [List.getElem?_cons_zero, Option.some.injEq] at h; subst h; exact ⟨_, rfl, hx⟩
      | succ i => rw [List.getElem?_cons_succ] at h ⊢; exact ih i t h
  refine (hL (envL xs) w vals hi hl (hget hx) (fun j cs T h => by rw [hb] at h; simp at h) (fun j j' b h => by rw [hb] at h; simp at h) hp hv).mono ?_
  rintro e w' ⟨hbel, o, ys, x, hmem, _, _, hval, rfl⟩
  rw [ho, List.mem_singleton] at hmem
  subst hmem
  simp only [den_k, Option.some.injEq] at hval
  exact ⟨by rw [hval], hbel⟩
theorem lem_true {f : FuncId} {L : Lem} (hL : LemOk c f L) (hp : L.pre = []) (hb : L.blks = []) (ho : L.outs = [⟨[], [], .k (.bool true)⟩]) (xs : List Value) (hx : All2 hasTy xs L.tys) {vals : List Value} (hv : D c.P c.Φ (envL xs) (chain L.args) = some vals) (w : World) (hi : c.inv w) (hl : ∀ b, b < c.low → b < w.heap.size) :
    Calls c.P f vals.toArray w fun e w' => e = .returned (.bool true) ∧ Below w.heap.size w w' := by
  have hget : ∀ {xs : List Value} {ts : List Ty}, All2 hasTy xs ts → ∀ (i : Nat) (t : Ty), ts[i]? = some t → ∃ x, xs[i]? = some x ∧ hasTy x t := by
    intro xs ts h
    induction h with
    | nil => intro i t h; simp at h
    | cons hx _ ih =>
      intro i t h
      cases i with
      | zero => simp only [List.getElem?_cons_zero, Option.some.injEq] at h; subst h; exact ⟨_, rfl, hx⟩
      | succ i => rw [List.getElem?_cons_succ] at h ⊢; exact ih i t h
  refine (hL (envL xs) w vals hi hl (hget hx) (fun j cs T h => by rw [hb] at h; simp at h) (fun j j' b h => by rw [hb] at h; simp at h) (fun g hg => by rw [hp] at hg; cases hg) hv).mono ?_
  rintro e w' ⟨hbel, o, ys, x, hmem, _, _, hval, rfl⟩
  rw [ho, List.mem_singleton] at hmem
  subst hmem
  simp only [den_k, Option.some.injEq] at hval
  exact ⟨by rw [hval], hbel⟩
end
/-! ### The float 1 is told by its bits -/
theorem read_one : Ieee.double.read 4607182418800017408 = .number false 4503599627370496 (-52) := by decide +kernel
theorem cmp_eq {x y : Int} (h : (some (compare x y) == some Ordering.eq) = true) : x = y := by
  have : compare x y = .eq := by cases hc : compare x y <;> simp_all
  exact Int.compare_eq_eq.1 this
theorem one_bits {b : Nat} (hb : b < 2 ^ 64) (h : (FloatKind.f64.format.order b 4607182418800017408 == some .eq) = true) : b = 4607182418800017408 := by
  have h : ((Ieee.double.read b).order (Ieee.double.read 4607182418800017408) == some .eq) = true := h
  rw [read_one] at h
  have hs : Ieee.double.signWeight = 9223372036854775808 := by decide +kernel
  have hbi : Ieee.double.binade = 4503599627370496 := by decide +kernel
  have hi : Ieee.double.infRung = 9218868437227405312 := by decide +kernel
  have hl : Ieee.double.leastPlace = -1074 := by decide +kernel
  unfold Ieee.Format.read at h
  rw [hs, hbi, hi, hl] at h
  dsimp only at h
  split at h
  · rename_i h1
    have h := cmp_eq h
    have e0 : (min (-1074 : Int) (-52)) = -1074 := by decide
    have e1 : ((-1074 : Int) - -1074).toNat = 0 := by decide
    have e2 : ((-52 : Int) - -1074).toNat = 1022 := by decide
    rw [e0, e1, e2] at h
    have pos : ∀ k, 4503599627370496 ≤ 4503599627370496 <<< k := fun k => by
      rw [Nat.shiftLeft_eq]; exact Nat.le_mul_of_pos_right _ (Nat.two_pow_pos _)
    have hk := pos 1022
    clear pos
    simp only [Ieee.signed, Nat.shiftLeft_zero, Bool.false_eq_true, if_false] at h
    generalize 4503599627370496 <<< 1022 = K at hk h
    split at h <;> omega
  · split at h
    · rename_i h1 h2
      have h := cmp_eq h
      generalize hr : b % 9223372036854775808 = r at h h1 h2
      have hE : 1 ≤ r / 4503599627370496 := by omega
      have hm1 : r % 4503599627370496 < 4503599627370496 := Nat.mod_lt _ (by decide)
      have hdm := Nat.div_add_mod r 4503599627370496
      generalize hEe : r / 4503599627370496 = E at h hE hdm
      generalize r % 4503599627370496 = m at h hm1 hdm
      have pos2 : ∀ n k, 1 ≤ k → 2 * n ≤ n <<< k := fun n k hk => by
        rw [Nat.shiftLeft_eq, Nat.mul_comm 2 n]
        refine Nat.mul_le_mul_left n ?_
        calc 2 = 2 ^ 1 := rfl
          _ ≤ 2 ^ k := Nat.pow_le_pow_right (by decide) hk
      rcases Nat.lt_trichotomy E 1023 with hlt | heq | hgt
      · have e0 : min (-1074 + ((E - 1 : Nat) : Int)) (-52) = -1074 + ((E - 1 : Nat) : Int) := by omega
        have e1 : ((-1074 + ((E - 1 : Nat) : Int)) - (-1074 + ((E - 1 : Nat) : Int))).toNat = 0 := by omega
        have e2 : ((-52 : Int) - (-1074 + ((E - 1 : Nat) : Int))).toNat = 1023 - E := by omega
        rw [e0, e1, e2] at h
        have hk := pos2 4503599627370496 (1023 - E) (by omega)
        simp only [Ieee.signed, Nat.shiftLeft_zero, Bool.false_eq_true, if_false] at h
        generalize 4503599627370496 <<< (1023 - E) = K at hk h
        split at h <;> omega
      · subst heq
        have e0 : min (-1074 + ((1023 - 1 : Nat) : Int)) (-52) = -52 := by decide
        have e1 : ((-1074 + ((1023 - 1 : Nat) : Int)) - (-52)).toNat = 0 := by decide
        have e2 : ((-52 : Int) - (-52)).toNat = 0 := by decide
        rw [e0, e1, e2] at h
        simp only [Ieee.signed, Nat.shiftLeft_zero, Bool.false_eq_true, if_false] at h
        split at h
        · omega
        · rename_i hneg
          have : ¬ (b / 9223372036854775808 % 2 = 1) := fun e => hneg (by rw [e]; rfl)
          omega
      · have e0 : min (-1074 + ((E - 1 : Nat) : Int)) (-52) = -52 := by omega
        have e1 : ((-1074 + ((E - 1 : Nat) : Int)) - (-52)).toNat = E - 1023 := by omega
        have e2 : ((-52 : Int) - (-52)).toNat = 0 := by decide
        rw [e0, e1, e2] at h
        have hk := pos2 (4503599627370496 + m) (E - 1023) (by omega)
        simp only [Ieee.signed, Nat.shiftLeft_zero, Bool.false_eq_true, if_false] at h
        generalize (4503599627370496 + m) <<< (E - 1023) = K at hk h
        split at h <;> omega
    · split at h
      · cases hd : (b / 9223372036854775808 % 2 == 1) <;> rw [hd] at h <;> cases h
      · cases h
abbrev oneF : V := .k (.float .f64 4607182418800017408)
abbrev notOne (n : Nat) : V × Bool := (.prim (.bin .eql 0 false) (.cons (.var n) (.cons oneF .nil)), false)
theorem notOne_ok {c : Cfg} [COk c] {ρ : Env} {n b : Nat} (hx : ρ n = some (.float .f64 b)) (hb : b < 2 ^ 64) (hne : b ≠ 4607182418800017408) (z : Bool) (h : den c.P c.Φ ρ (notOne n).1 = some (.bool z)) : z = (notOne n).2 := by
  obtain ⟨a1, a2, e1, e2, hp⟩ := den_two h rfl rfl
  have f1 : a1 = .float .f64 b := by
    simp only [den, D, hx, Option.map_some, Option.bind_some, single, Option.some.injEq] at e1
    exact e1.symm
  simp only [den_k, Option.some.injEq] at e2
  subst f1 e2
  have := eql_flt (c := c) hp
  cases z with
  | false => rfl
  | true => exact absurd (one_bits hb this.symm) hne
/-! ### The world ahead of a law's call is shaped -/
section
variable {H : Type} {enc : TypeId × Value → H}
theorem handed_shaped {a : Assume} {C : Checked} {os : Os} {f : FuncId} {fn : Func} {s : ChangeSpec} {conds : List PathCond} {apart fresh handsOn again : Bool}
    (own : ownKnob C.prog.godebug = none) (started : os.Started) (noInit : C.prog.inits.idxOf? f = none) (hfn : C.prog.funcs[f]? = some fn)
    (witness : ∃ (w : World) (tape : Tape) (i : Input), w.os = os ∧ (w.forCall tape i).Shaped C.prog ∧ i.vars = [] ∧ Input.okWide C.prog (w.forCall tape i) .any w.heap.size f i ∧
      s.pre6 enc C.prog fn conds apart (w.forCall tape i).memory i.args ∧ a.holds C.prog (lone (Frame.enter C.prog f i.args .normal) [] (w.forCall tape i)))
    (contract : ∀ (W : World) (base : Nat) (args : Array Value) (ds gs : List (DataW H)) (before : List MemPlace), W.ShapedOpen C.prog →
      (∀ (j : Nat) t v, fn.params[j]? = some t → args[j]? = some v → Value.okWide C.prog W .any base t v) →
      DataW.Whole enc C.prog fn.params.toList s.vars apart W args.toList ds gs before →
      Calls C.prog f args W fun e W' => ∃ v, e = .returned v ∧ s.post enc C.prog fn apart fresh handsOn again W args v W') :
    ReturnsInHanded a C os f .any (s.pre6 enc C.prog fn conds apart) (s.post enc C.prog fn apart fresh handsOn again) := by
  refine returnsInHanded_of_calls own started noInit witness ?_
  intro w tape i _ hsh _ hok hpre _
  obtain ⟨_, _, _, fn', hfn', _, _, _, _, hval⟩ := hok
  have e : fn' = fn := Option.some.inj (hfn'.symm.trans hfn)
  subst e
  obtain ⟨⟨ds, gs, before, hw, _⟩, _⟩ := hpre
  have hw' := DataW.Whole.of_heap (w' := w.forCall tape i) (by rfl) hw
  refine (contract (w.forCall tape i) w.heap.size i.args ds gs before hsh hval hw').mono fun e W' ⟨v, he, hp⟩ => ?_
  subst he
  exact ChangeSpec.post_blind hp
theorem handed_shaped_and {a : Assume} {C : Checked} {os : Os} {f : FuncId} {fn : Func} {s : ChangeSpec} {conds : List PathCond} {apart fresh handsOn again : Bool} {X : World → Array Value → Prop}
    (hX : ∀ (w w' : World) (args : Array Value), w.heap = w'.heap → X w args → X w' args)
    (own : ownKnob C.prog.godebug = none) (started : os.Started) (noInit : C.prog.inits.idxOf? f = none) (hfn : C.prog.funcs[f]? = some fn)
    (witness : ∃ (w : World) (tape : Tape) (i : Input), w.os = os ∧ (w.forCall tape i).Shaped C.prog ∧ i.vars = [] ∧ Input.okWide C.prog (w.forCall tape i) .any w.heap.size f i ∧
      ((s.pre enc C.prog fn conds apart (w.forCall tape i).memory i.args ∧ X (w.forCall tape i).memory i.args) ∧ sizedMet enc C.prog fn (OpenSpec.ofChange s) apart (w.forCall tape i).memory i.args) ∧ a.holds C.prog (lone (Frame.enter C.prog f i.args .normal) [] (w.forCall tape i)))
    (contract : ∀ (W : World) (base : Nat) (args : Array Value) (ds gs : List (DataW H)) (before : List MemPlace), W.ShapedOpen C.prog →
      (∀ (j : Nat) t v, fn.params[j]? = some t → args[j]? = some v → Value.okWide C.prog W .any base t v) →
      DataW.Whole enc C.prog fn.params.toList s.vars apart W args.toList ds gs before → X W args →
      Calls C.prog f args W fun e W' => ∃ v, e = .returned v ∧ s.post enc C.prog fn apart fresh handsOn again W args v W') :
    ReturnsInHanded a C os f .any (fun w args => (s.pre enc C.prog fn conds apart w args ∧ X w args) ∧ sizedMet enc C.prog fn (OpenSpec.ofChange s) apart w args) (s.post enc C.prog fn apart fresh handsOn again) := by
  refine returnsInHanded_of_calls own started noInit witness ?_
  intro w tape i _ hsh _ hok hpre _
  obtain ⟨_, _, _, fn', hfn', _, _, _, _, hval⟩ := hok
  have e : fn' = fn := Option.some.inj (hfn'.symm.trans hfn)
  subst e
  obtain ⟨⟨⟨ds, gs, before, hw, _⟩, hx⟩, _⟩ := hpre
  have hw' := DataW.Whole.of_heap (w' := w.forCall tape i) (by rfl) hw
  refine (contract (w.forCall tape i) w.heap.size i.args ds gs before hsh hval hw' (hX _ _ _ (by rfl) hx)).mono fun e W' ⟨v, he, hp⟩ => ?_
  subst he
  exact ChangeSpec.post_blind hp
end
end Go.Proofs.Ytobghgfmdjknlaa.Sx
