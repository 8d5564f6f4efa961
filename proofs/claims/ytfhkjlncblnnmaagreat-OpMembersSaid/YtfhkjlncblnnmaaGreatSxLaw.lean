/- A law's frame: its arguments by their flat types; what is owed behind a call that left all as it was. -/
import Derived.Test.YtfhkjlncblnnmaaGreatSxPure
import Derived.ChangeSame
import Derived.Carry
import Derived.WideShapes
namespace Go.Proofs.YtfhkjlncblnnmaaGreat.Sx
open Go Go.RowKit
set_option linter.unusedSectionVars false

noncomputable section
def flatFs (P : Program) (g : TypeId → Option (List Ty)) : List Field → Nat → Option (List Ty)
  | [], _ => some []
  | f :: r, n => bif Nat.beq f.offset n then (g f.type).bind fun l => bif Nat.beq l.length (P.cellsOf f.type) then (flatFs P g r (n + l.length)).map fun m => l ++ m else none else none
/-- The cells' types of a value that holds no memory. -/
def flatT (P : Program) : Nat → TypeId → Option (List Ty)
  | 0, _ => none
  | d + 1, t => match P.underlying t with
    | some .bool => some [.bool]
    | some (.int k) => some [fullTy k]
    | some (.float .f64) => some [.f64]
    | some .string => some [.str]
    | some (.struct fs) => (flatFs P (flatT P d) fs.toList 0).bind fun l => bif Nat.beq l.length (P.cellsOf t) then some l else none
    | _ => none
end

section
variable {H : Type} {enc : TypeId × Value → H} {P : Program} {w : World} {base : Nat} {spare : Nat → Bool} {held : Bool}

theorem wf_full {k : IntKind} {n : Int} (h : (Lit.int k n).wf = true) : hasTy (.int k n) (fullTy k) := by
  simp only [Lit.wf, Bool.and_eq_true, decide_eq_true_eq] at h
  exact ⟨n, rfl, h.1, fun _ e => by cases e; exact h.2⟩

theorem all2_len {xs : List Value} {ts : List Ty} (h : All2 hasTy xs ts) : xs.length = ts.length := by
  induction h with
  | nil => rfl
  | cons _ _ ih => simp [ih]

theorem trod_flat : ∀ (d : Nat) {t : TypeId} {cs : List Value} {x : DataW H × List MemPlace} {tys : List Ty} {fuel : Nat}, DataW.trod enc P w base spare held fuel t cs = some x → flatT P d t = some tys → All2 hasTy cs tys
  | 0, _, _, _, _, _, _, hf => by cases hf
  | d + 1, t, cs, x, tys, 0, h, hf => by simp [DataW.trod] at h
  | d + 1, t, cs, x, tys, fuel + 1, h, hf => by
    unfold flatT at hf
    split at hf
    · rename_i hu
      simp only [Option.some.injEq] at hf; subst hf
      unfold DataW.trod at h
      rw [hu] at h
      match cs, h with
      | [.bool b], _ => exact .cons ⟨b, rfl⟩ .nil
    · rename_i k hu
      simp only [Option.some.injEq] at hf; subst hf
      unfold DataW.trod at h
      rw [hu] at h
      match cs, h with
      | [.int k' n], h =>
        simp only at h
        split at h
        · rename_i hk
          obtain ⟨rfl, hw⟩ := hk
          exact .cons (wf_full hw) .nil
        · cases h
    · rename_i hu
      simp only [Option.some.injEq] at hf; subst hf
      unfold DataW.trod at h
      rw [hu] at h
      match cs, h with
      | [.float k b], h =>
        simp only at h
        split at h
        · rename_i hk
          obtain ⟨rfl, _⟩ := hk
          exact .cons ⟨b, rfl⟩ .nil
        · cases h
    · rename_i hu
      simp only [Option.some.injEq] at hf; subst hf
      unfold DataW.trod at h
      rw [hu] at h
      match cs, h with
      | [.string s], _ => exact .cons ⟨s, rfl⟩ .nil
    · rename_i fs hu
      rw [Option.bind_eq_some_iff] at hf
      obtain ⟨l, hl, hf⟩ := hf
      obtain ⟨hlen, hf⟩ := bif_none hf
      simp only [Option.some.injEq] at hf; subst hf
      have hlen := beqT hlen
      unfold DataW.trod at h
      rw [hu] at h
      simp only at h
      split at h
      case isFalse => cases h
      rename_i hcs
      rw [Option.map_eq_some_iff] at h
      obtain ⟨ys, hys, rfl⟩ := h
      have key : ∀ (fl : List Field) (n : Nat) (ys : List (DataW H × List MemPlace)) (l : List Ty), (fl.mapM fun f => DataW.trod enc P w base spare held fuel f.type ((cs.drop f.offset).take (P.cellsOf f.type))) = some ys → flatFs P (flatT P d) fl n = some l →
          All2 hasTy ((cs.drop n).take l.length) l := by
        intro fl
        induction fl with
        | nil =>
          intro n ys l _ hl
          simp only [flatFs, Option.some.injEq] at hl; subst hl
          simp only [List.length_nil, List.take_zero]
          exact .nil
        | cons f r ih =>
          intro n ys l hm hl
          unfold flatFs at hl
          obtain ⟨ho, hl⟩ := bif_none hl
          have ho := beqT ho
          subst ho
          rw [Option.bind_eq_some_iff] at hl
          obtain ⟨l1, hl1, hl⟩ := hl
          obtain ⟨hc, hl⟩ := bif_none hl
          have hc := beqT hc
          rw [Option.map_eq_some_iff] at hl
          obtain ⟨l2, hl2, rfl⟩ := hl
          simp only [List.mapM_cons, Option.bind_eq_bind, Option.bind_eq_some_iff] at hm
          obtain ⟨y, hy, ys', hys', _⟩ := hm
          have h1 := trod_flat d hy hl1
          have h2 := ih _ _ _ hys' hl2
          have h3 := all2_append h1 h2
          have hlen1 := all2_len h1
          rw [List.length_append]
          have : (cs.drop f.offset).take (l1.length + l2.length) = (cs.drop f.offset).take (P.cellsOf f.type) ++ (cs.drop (f.offset + l1.length)).take l2.length := by
            rw [← hc, List.take_add, List.drop_drop]
          rw [this]
          exact h3
      have := key fs.toList 0 ys l hys hl
      rw [List.drop_zero, hlen, ← hcs, List.take_length] at this
      exact this
    · cases hf

/-- An argument that holds no memory: its cells, and the value that they make. -/
theorem open_flat {r : Reach} {b0 : Nat} {t : TypeId} {v : Value} {dd : DataW H} {ps : List MemPlace} {d : Nat} {tys : List Ty} (hv : Value.okWide P w r b0 t v) (h : DataW.Trod enc P w base spare held t v dd ps) (hf : flatT P d t = some tys) :
    All2 hasTy v.cells.toList tys ∧ ((∃ fs, P.underlying t = some (.struct fs)) ∧ v = .agg v.cells ∨ (∀ fs, P.underlying t ≠ some (.struct fs)) ∧ v.cells = #[v]) := by
  obtain ⟨fuel, hfu⟩ := h
  refine ⟨trod_flat d hfu hf, ?_⟩
  cases d with
  | zero => cases hf
  | succ d =>
    unfold flatT at hf
    split at hf
    · rename_i hu
      obtain ⟨b, rfl⟩ := WideShapes.okWide_bool hu hv
      exact .inr ⟨fun fs e => (by rw [hu] at e; cases e), rfl⟩
    · rename_i hu
      obtain ⟨b, rfl⟩ := WideShapes.okWide_int hu hv
      exact .inr ⟨fun fs e => (by rw [hu] at e; cases e), rfl⟩
    · rename_i hu
      refine .inr ⟨fun fs e => (by rw [hu] at e; cases e), ?_⟩
      simp only [Value.okWide, hu, Cell.okWide] at hv
      cases v <;> simp_all [Cell.ok, Value.cells]
    · rename_i hu
      obtain ⟨b, rfl⟩ := WideShapes.okWide_string hu hv
      exact .inr ⟨fun fs e => (by rw [hu] at e; cases e), rfl⟩
    · rename_i fs hu
      obtain ⟨cs, rfl, _⟩ := WideShapes.okWide_struct hu hv
      exact .inl ⟨⟨fs, hu⟩, rfl⟩
    · cases hf

theorem below_trodAll {W W' : World} (hl : laidOutB P = true) (hb : Below W.heap.size W W') : ∀ {ts : List TypeId} {vs : List Value} {ds : List (DataW H)} {ps : List MemPlace}, (∀ t, t ∈ ts → P.readableRec t = true ∧ t < P.types.size) →
    (∀ x, x ∈ ps → x.block < W.heap.size) → DataW.TrodAll enc P W 0 (fun _ => true) true ts vs ds ps → DataW.TrodAll enc P W' 0 (fun b => decide (b < W.heap.size)) true ts vs ds ps
  | [], [], [], _, _, _, h => h
  | [], [], _ :: _, _, _, _, h => h.elim
  | [], _ :: _, _, _, _, _, h => h.elim
  | _ :: _, [], _, _, _, _, h => h.elim
  | _ :: _, _ :: _, [], _, _, _, h => h.elim
  | t :: ts, v :: vs, d :: ds, ps, ht, hlt, h => by
    obtain ⟨p, q, h1, h2, rfl⟩ := h
    obtain ⟨hr, hrow⟩ := ht t (List.mem_cons_self ..)
    exact ⟨p, q, Below.trod hl hr hrow h1 hb (fun x hx => hlt x (List.mem_append_left _ hx)), below_trodAll hl hb (fun t ht' => ht t (List.mem_cons_of_mem _ ht')) (fun x hx => hlt x (List.mem_append_right _ hx)) h2, rfl⟩

/-- WHAT A LAW OWES behind a call that returned true and left old memory as it was. -/
theorem law_post {f : Func} {s : ChangeSpec} {W W' : World} {args : Array Value} {ds gs : List (DataW H)} {before : List MemPlace} {tb : TypeId} (hl : laidOutB P = true) (hp : ∀ t, t ∈ f.params.toList → P.readableRec t = true ∧ t < P.types.size)
    (hres : f.resultTypes = #[tb]) (htb : P.underlying tb = some .bool) (hvars : s.vars = [])
    (hs1 : (s.fn H (ds ++ gs)).results = [.lit (.bool true)]) (hs2 : (s.fn H (ds ++ gs)).args = ds) (hs3 : (s.fn H (ds ++ gs)).vars = [])
    (hW : DataW.Whole enc P f.params.toList s.vars false W args.toList ds gs before) (hb : Below W.heap.size W W') : s.post enc P f false true false false W args (.bool true) W' := by
  have hW' := hW
  obtain ⟨p, q, hA, hV, rfl, hfz, hnd⟩ := hW
  have hlt : ∀ x, x ∈ p ++ q → x.block < W.heap.size := fun x hx => hW'.lt x hx
  rw [hvars] at hV
  have hq : gs = [] ∧ q = [] := by
    cases gs with
    | nil => exact ⟨rfl, hV⟩
    | cons _ _ => exact hV.elim
  obtain ⟨rfl, rfl⟩ := hq
  refine ⟨ds, [], p ++ [], [], p, [], hW', ?_, ?_, ?_, ?_, fun h => by cases h⟩
  · rw [hs1, hres]
    exact ChangeShapes.trodAll_mk1 ⟨1, by simp [DataW.trod, Value.cells, htb]⟩
  · rw [hs2]
    exact below_trodAll hl hb hp (fun x hx => hlt x (List.mem_append_left _ hx)) hA
  · rw [hs3, hvars]; rfl
  · exact hb.frame _

end

section
variable {c : Cfg}
theorem all2_cons {R : Value → Ty → Prop} {xs : List Value} {t : Ty} {ts : List Ty} (h : All2 R xs (t :: ts)) : ∃ x r, xs = x :: r ∧ R x t ∧ All2 R r ts := by
  cases h with | cons h r => exact ⟨_, _, rfl, h, r⟩
theorem all2_nil {R : Value → Ty → Prop} {xs : List Value} (h : All2 R xs []) : xs = [] := by cases h; rfl
theorem float_cases (b : Nat) : hasTy (.float .f64 b) .nan ∨ hasTy (.float .f64 b) .num := by
  by_cases hn : ∃ s t, Ieee.double.read b = .nan s t
  · obtain ⟨s, t, h⟩ := hn; exact .inl ⟨b, s, t, rfl, h⟩
  · exact .inr ⟨b, rfl, fun s t h => hn ⟨s, t, h⟩⟩

/-- A form that comes to true alone. -/
theorem lem_true {f : FuncId} {L : Lem} (hL : LemOk c f L) (hp : L.pre = []) (hb : L.blks = []) (ho : L.outs = [⟨[], [], .k (.bool true)⟩]) (xs : List Value) (hx : All2 hasTy xs L.tys) {vals : List Value} (hv : D c.P c.Φ (envL xs) (chain L.args) = some vals) (w : World) :
    Calls c.P f vals.toArray w fun e w' => e = .returned (.bool true) ∧ Below w.heap.size w w' := by
  have hget : ∀ {xs : List Value} {ts : List Ty}, All2 hasTy xs ts → ∀ (i : Nat) (t : Ty), ts[i]? = some t → ∃ x, xs[i]? = some x ∧ hasTy x t := by
    intro xs ts h
    induction h with
    | nil => intro i t h; simp at h
    | cons hx _ ih =>
      intro i t h
      cases i with
      | zero => simp only [List.getElem?_cons_zero, Option.some.injEq] at h; subst h; exact ⟨_, rfl, hx⟩
      | succ i => rw [List.getElem?_cons_succ] at h ⊢; exact ih i t h
  refine (hL (envL xs) w vals (hget hx) (fun j cs T h => by rw [hb] at h; simp at h) (fun j j' b h => by rw [hb] at h; simp at h) (fun g hg => by rw [hp] at hg; cases hg) hv).mono ?_
  rintro e w' ⟨hbel, o, ys, x, hmem, _, _, hval, rfl⟩
  rw [ho, List.mem_singleton] at hmem
  subst hmem
  simp only [den_k, Option.some.injEq] at hval
  exact ⟨by rw [hval], hbel⟩
end
end Go.Proofs.YtfhkjlncblnnmaaGreat.Sx
