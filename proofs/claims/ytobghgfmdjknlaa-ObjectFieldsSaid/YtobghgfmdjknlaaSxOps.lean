/- Symbolic execution: one operation: what the executor tells of it is so. -/
import Derived.Test.YtobghgfmdjknlaaSxSat
namespace Go.Proofs.Ytobghgfmdjknlaa.Sx
open Go
set_option linter.unusedSectionVars false

section
variable {c : Cfg} {F : Wd} [COk c]

/-- What is asked of each outcome: K holds of the value and the world. -/
def Outs (c : Cfg) (F : Wd) (ρ : Env) (S : St) (L : List (V × St)) (K : Value → World → Prop) : Prop :=
  ∀ v S', (v, S') ∈ L → ∀ ρ' w' x, Le ρ ρ' → SatH c F ρ' S' w' → den c.P c.Φ ρ' v = some x → S'.tmps = S.tmps → S'.nt = S.nt → Unch S S' → K x w'

theorem Outs.one {ρ ρ' : Env} {S S' : St} {v : V} {K : Value → World → Prop} {w : World} {x : Value} (h : Outs c F ρ S [(v, S')] K) (hl : Le ρ ρ') (hs : SatH c F ρ' S' w)
    (hv : den c.P c.Φ ρ' v = some x) (ht : S'.tmps = S.tmps) (hn : S'.nt = S.nt) (hu : Unch S S' := by exact Unch.refl _) : K x w := h v S' (by simp) ρ' w x hl hs hv ht hn hu

theorem eval_den {ρ : Env} {S : St} {a : Act} (h : SatT c ρ S a) {x : Operand} {v : V} (hv : eval S x = some v) : den c.P c.Φ ρ v = some (a.eval x) := by
  cases x with
  | tmp t =>
    obtain ⟨y, h1, h2⟩ := h.tmps t v hv
    rw [h1]
    simp [Act.eval, Array.getD_eq_getD_getElem?, h2]
  | const y => simp only [eval, Option.some.injEq] at hv; subst hv; rfl
  | global g => simp only [eval, Option.some.injEq] at hv; subst hv; rfl
  | func f => simp only [eval, Option.some.injEq] at hv; subst hv; rfl

theorem evalL_den {ρ : Env} {S : St} {a : Act} (h : SatT c ρ S a) : ∀ {xs : List Operand} {vs : List V}, evalL S xs = some vs → denL c.P c.Φ ρ vs = some (xs.map a.eval)
  | [], vs, hv => by simp only [evalL, Option.some.injEq] at hv; subst hv; rfl
  | x :: r, vs, hv => by
    simp only [evalL, Option.bind_eq_some_iff, Option.map_eq_some_iff] at hv
    obtain ⟨v, h1, l, h2, rfl⟩ := hv
    simp [denL, eval_den h h1, evalL_den h h2]

theorem ground_den {ρ : Env} {v : V} {x : Value} (h : ground c v = some x) : den c.P c.Φ ρ v = some x := by
  unfold ground at h
  rw [Option.bind_eq_some_iff] at h
  obtain ⟨xs, h1, h2⟩ := h
  exact Option.bind_eq_some_iff.2 ⟨xs, D_mono (fun _ _ h => by cases h) (fun _ _ _ h => by cases h) h1, h2⟩
theorem groundL_den {ρ : Env} : ∀ {vs : List V} {xs : List Value}, groundL c vs = some xs → denL c.P c.Φ ρ vs = some xs
  | [], _, h => h
  | v :: r, xs, h => by
    simp only [groundL, Option.bind_eq_some_iff, Option.map_eq_some_iff] at h
    obtain ⟨x, hx, ys, hy, rfl⟩ := h
    simp [denL, ground_den hx, groundL_den hy]

theorem primV_spec {ρ : Env} {p : Prim} {vs : List V} {v : V} {ys : List Value} (h : primV c p vs = some v) (hy : denL c.P c.Φ ρ vs = some ys) :
    ∃ x, v = .k x ∧ semPrim c.P p ys = some x ∧ isScalar x = true := by
  simp only [primV, Option.bind_eq_some_iff, Option.map_eq_some_iff] at h
  obtain ⟨xs, hx, x, hf, rfl⟩ := h
  rw [groundL_den hx] at hy
  cases hy
  exact ⟨x, rfl, (Option.filter_eq_some_iff.1 hf).1, (Option.filter_eq_some_iff.1 hf).2⟩

section wp
variable {o : Oper} {a : Act} {w : World} {next : Act → World → Prop} {Q : Exit → Act → World → Prop}

theorem wp_val {x : Value} {w' : World} (h : (execOp a.eval o).run c.P w = .ok (.value x) w') (hn : next (a.put o.dst x) w') : o.wp c.P a w next Q := by
  unfold Oper.wp; rw [h]; exact hn
theorem wp_skip' {w' : World} (h : (execOp a.eval o).run c.P w = .ok .skip w') (hn : next (a.put o.dst undef) w') : o.wp c.P a w next Q := by
  unfold Oper.wp; rw [h]; exact hn

theorem run_v {P : Program} {s : Sem Value} {x : Value} {w w' : World} (h : s.run P w = .ok x w') : (do pure (Next.value (← s)) : Sem Next).run P w = .ok (.value x) w' := by
  rw [run_bindok h]; rfl
theorem run_u {P : Program} {s : Sem Unit} {w w' : World} (h : s.run P w = .ok () w') : (do s; pure Next.skip : Sem Next).run P w = .ok .skip w' := by
  rw [run_bindok h]; rfl

theorem eqGuard_eqG (op : BinOp) (t : TypeId) (x y : Operand) (a b : Value) : eqGuard op t x y a b = eqG op t ((x matches .const _) || (y matches .const _)) a b := by
  unfold eqGuard eqG; rfl

theorem zeroV_spec {t : TypeId} {cs : List V} (h : zeroV c t = some cs) (w : World) : ∃ z, (zeroValue t).run c.P w = .ok z w ∧ cs = z.cells.toList.map V.k := by
  simp only [zeroV, Option.map_eq_some_iff, Option.bind_eq_some_iff] at h
  obtain ⟨z, ⟨i, hi, hz⟩, rfl⟩ := h
  exact ⟨z, run_zeroValue (ty_spec hi).1 hz, rfl⟩

theorem run_newVar {P : Program} {w : World} (t : TypeId) (v : Value) : (newVar t v).run P w = .ok ⟨w.heap.size, 0, none⟩ (w.alloc (.cells v.cells t)) := rfl
theorem run_newRow {P : Program} {w : World} (t : TypeId) (cs : Array Value) : (newRow t cs).run P w = .ok ⟨w.heap.size, 0, none⟩ (w.alloc (.cells cs t)) := rfl

theorem alloc_spec {ρ : Env} {S S' : St} {nm : Nat} {cells : List V} {T : TypeId} {xs : List Value} (hs : SatH c F ρ S w) (h : alloc S nm cells T = some S') (hc : denL c.P c.Φ ρ cells = some xs) :
    ∃ ρ', Le ρ ρ' ∧ SatH c F ρ' S' (w.alloc (.cells xs.toArray T)) ∧ blockOf (ρ' nm) = some w.heap.size ∧ S'.tmps = S.tmps ∧ S'.nt = S.nt ∧ Unch S S' := by
  unfold alloc at h
  cases hf : S.fresh nm with
  | false => rw [hf] at h; simp at h
  | true =>
    rw [hf] at h
    simp only [cond_true, Option.some.injEq] at h
    subst h
    have := hs.alloc hf (tail := []) (T := T) (more := none) hc rfl
    simp only [List.append_nil] at this
    exact ⟨_, this.1, this.2, by rw [upd_self]; rfl, rfl, rfl, Unch.put _ _ _⟩

theorem den_ptr {ρ : Env} {n off b : Nat} (h : blockOf (ρ n) = some b) : den c.P c.Φ ρ (.ptr n off) = some (.pointer (some ⟨b, off, none⟩)) := by
  simp [den, D, h, single]
theorem den_ptr_inv {ρ : Env} {n off : Nat} {x : Value} (h : den c.P c.Φ ρ (.ptr n off) = some x) : ∃ b, blockOf (ρ n) = some b ∧ x = .pointer (some ⟨b, off, none⟩) := by
  simp only [den, D, Option.bind_eq_some_iff, Option.map_eq_some_iff] at h
  obtain ⟨xs, ⟨b, hb, rfl⟩, h2⟩ := h
  simp only [single, Option.some.injEq] at h2
  exact ⟨b, hb, h2.symm⟩
theorem den_natV {ρ : Env} (n : Nat) : D c.P c.Φ ρ (natV n) = some [.int .i64 n] := rfl
theorem den_slice {ρ : Env} {n off b l k : Nat} {vl vc : V} (h : blockOf (ρ n) = some b) (hl : D c.P c.Φ ρ vl = some [.int .i64 (Int.ofNat l)]) (hc : D c.P c.Φ ρ vc = some [.int .i64 (Int.ofNat k)]) :
    den c.P c.Φ ρ (.slice n off vl vc) = some (.slice (some ⟨b, off, none⟩) l k) := by
  simp [den, D, h, single, hl, hc, natOf]
theorem den_slice_inv {ρ : Env} {n off : Nat} {vl vc : V} {x : Value} (h : den c.P c.Φ ρ (.slice n off vl vc) = some x) :
    ∃ b l k, blockOf (ρ n) = some b ∧ D c.P c.Φ ρ vl = some [.int .i64 (Int.ofNat l)] ∧ D c.P c.Φ ρ vc = some [.int .i64 (Int.ofNat k)] ∧ x = .slice (some ⟨b, off, none⟩) l k := by
  simp only [den, D, Option.bind_eq_some_iff, Option.map_eq_some_iff] at h
  obtain ⟨xs, ⟨b, hb, ls, hl, cs, hc, l, hl', k, hk, rfl⟩, h2⟩ := h
  simp only [single, Option.some.injEq] at h2
  have inv : ∀ {xs : List Value} {n : Nat}, natOf xs = some n → xs = [.int .i64 (Int.ofNat n)] := by
    intro xs n h
    unfold natOf at h
    split at h
    · simp only [Option.some.injEq] at h; subst h; rfl
    · cases h
  rw [inv hl'] at hl
  rw [inv hk] at hc
  exact ⟨b, l, k, hb, hl, hc, h2.symm⟩
theorem lenNat_D (ρ : Env) {v : V} {n : Nat} (h : lenNat v = some n) : v = .k (.int .i64 (Int.ofNat n)) ∧ D c.P c.Φ ρ v = some [.int .i64 (Int.ofNat n)] := by
  unfold lenNat at h
  split at h
  · simp only [Option.some.injEq] at h; subst h; exact ⟨rfl, rfl⟩
  · cases h
theorem intOf_den {v : V} {n : Int} (h : intOf v = some n) : ∃ k, v = .k (.int k n) := by
  unfold intOf at h
  split at h
  · simp only [Option.some.injEq] at h; subst h; exact ⟨_, rfl⟩
  · cases h

/-- A block that is looked at. -/
theorem look_spec {ρ : Env} {S : St} {n b : Nat} {cells : List V} {T : TypeId} {more : Option (Nat × Nat)} (hs : SatH c F ρ S w) (h : S.look n = some (.blk cells T more)) (hb : blockOf (ρ n) = some b) :
    ∃ xs tail, denL c.P c.Φ ρ cells = some xs ∧ w.heap[b]? = some (.cells (xs ++ tail).toArray T (0, 0)) ∧ MoreOk ρ more (xs.length + tail.length) tail := by
  obtain ⟨b', xs, tail, h1, h2, h3, h4⟩ := hs.ents n _ h
  rw [h1] at hb; cases hb
  exact ⟨xs, tail, h2, h3, h4⟩

theorem beqT {a b : Nat} (h : Nat.beq a b = true) : a = b := Nat.eq_of_beq_eq_true h
theorem bleT {a b : Nat} (h : Nat.ble a b = true) : a ≤ b := Nat.le_of_ble_eq_true h
theorem bif_some {α : Type} {b : Bool} {x y : Option α} {r : α} (h : (bif b then x else y) = some r) : (b = true ∧ x = some r) ∨ (b = false ∧ y = some r) := by
  cases b
  · exact .inr ⟨rfl, h⟩
  · exact .inl ⟨rfl, h⟩
theorem bif_none {α : Type} {b : Bool} {x : Option α} {r : α} (h : (bif b then x else none) = some r) : b = true ∧ x = some r := by
  rcases bif_some h with h | ⟨_, h⟩
  · exact h
  · cases h

/-- A row of cells out of a longer one. -/
theorem part_spec {ρ : Env} {cells cs : List V} {xs tail : List Value} {off s : Nat} (hc : denL c.P c.Φ ρ cells = some xs) (h : cs = (cells.drop off).take s) (hl : cs.length = s) :
    denL c.P c.Φ ρ cs = some ((xs.drop off).take s) ∧ ((xs ++ tail).drop off).take s = (xs.drop off).take s ∧ (s ≠ 0 → off + s ≤ xs.length) := by
  subst h
  have h1 := denL_take s (denL_drop off hc)
  have hlen := denL_length hc
  simp only [List.length_take, List.length_drop] at hl
  refine ⟨h1, ?_, fun hs => by omega⟩
  by_cases hs : s = 0
  · subst hs; simp
  · rw [List.drop_append_of_le_length (by omega), List.take_append_of_le_length (by simp; omega)]

theorem run_loadVar {ρ : Env} {S : St} {n off b : Nat} {cells : List V} {T t : TypeId} {more : Option (Nat × Nat)} {v : V} (hs : SatH c F ρ S w) (h : S.look n = some (.blk cells T more)) (hb : blockOf (ρ n) = some b)
    (hv : partX c t cells off = some v) : ∃ x, den c.P c.Φ ρ v = some x ∧ (loadVar t ⟨b, off, none⟩).run c.P w = .ok x w := by
  obtain ⟨xs, tail, hc, hh, _⟩ := look_spec hs h hb
  unfold partX at hv
  rw [Option.bind_eq_some_iff] at hv
  obtain ⟨g, hg, hv⟩ := hv
  unfold loadVar
  rw [run_bindok (run_isAgg hg)]
  cases g with
  | true =>
    simp only at hv
    rw [Option.bind_eq_some_iff] at hv
    obtain ⟨s, hsz, hv⟩ := hv
    obtain ⟨hl, hv⟩ := bif_none hv
    simp only [Option.some.injEq] at hv
    subst hv
    obtain ⟨h1, h2, h3⟩ := part_spec (tail := tail) hc rfl (beqT hl)
    refine ⟨_, den_agg h1, ?_⟩
    simp only [if_true]
    rw [run_bindok (run_sizeOf' hsz)]
    by_cases h0 : s = 0
    · subst h0; simp [loadCells, loadCellsFrom]
    · rw [run_bindok (run_loadCells hh (by have := h3 h0; simp; omega)), h2]
      rfl
  | false =>
    simp only at hv
    obtain ⟨x, h1, h2⟩ := denL_get hc hv
    refine ⟨x, h1, ?_⟩
    simp only [Bool.false_eq_true, if_false]
    refine run_load hh ?_
    rw [List.getElem?_append_left]
    · exact h2
    · rcases Nat.lt_or_ge off xs.length with h' | h'
      · exact h'
      · rw [List.getElem?_eq_none h'] at h2; cases h2

theorem run_storeVar {ρ : Env} {S : St} {n off b s : Nat} {cells cs : List V} {T t : TypeId} {more : Option (Nat × Nat)} {x : Value} (hs : SatH c F ρ S w) (h : S.look n = some (.blk cells T more)) (hb : blockOf (ρ n) = some b)
    (hx : denL c.P c.Φ ρ cs = some x.cells.toList) (hsz : szOf c t = some s) (hl : cs.length = s) (hle : off + s ≤ cells.length) (hsc : ∀ v ∈ cs, scalarV v = true) :
    ∃ w', (storeVar t ⟨b, off, none⟩ x).run c.P w = .ok () w' ∧ SatH c F ρ (S.put n (.blk (replaceAt cells off cs) T more)) w' := by
  obtain ⟨xs, tail, hc, hh, hm⟩ := look_spec hs h hb
  have hlen := denL_length hc
  have hlx := denL_length hx
  have hsize : x.cells.size = s := by rw [← hl, ← hlx]; simp
  unfold storeVar
  rw [run_bindok (run_sizeOf' hsz)]
  rw [if_neg (by rw [hsize]; simp)]
  by_cases h0 : s = 0
  · have hnil : x.cells.toList = [] := List.eq_nil_of_length_eq_zero (by rw [hlx, hl, h0])
    have hcs : cs = [] := List.eq_nil_of_length_eq_zero (by rw [hl, h0])
    subst hcs
    refine ⟨w, by rw [hnil]; rfl, ?_⟩
    have hrep : replaceAt cells off [] = cells := by simp [replaceAt]
    have := hs.write (cells' := cells) (more' := more) (ys := xs) (tail := tail) h hb hc hm
    rw [hrep]
    have hput : putRow w b (xs ++ tail) T = w := by
      unfold putRow
      have : w.heap.setIfInBounds b (.cells (xs ++ tail).toArray T (0, 0)) = w.heap := by
        apply Array.ext_getElem?
        intro j
        rw [Array.getElem?_setIfInBounds]
        split
        · rename_i e; subst e; rw [if_pos (getElem?_lt hh), hh]
        · rfl
      rw [this]
    rwa [hput] at this
  · have hsc' : ∀ v ∈ x.cells.toList, isScalar v = true := by
      have : ∀ {cs : List V} {ys : List Value}, denL c.P c.Φ ρ cs = some ys → (∀ v ∈ cs, scalarV v = true) → ∀ y ∈ ys, isScalar y = true := by
        intro cs
        induction cs with
        | nil => intro ys h _ y hy; simp [denL] at h; subst h; cases hy
        | cons u r ih =>
          intro ys h hs' y hy
          simp only [denL, Option.bind_eq_some_iff, Option.map_eq_some_iff] at h
          obtain ⟨z, hz, zs, hzs, rfl⟩ := h
          rcases List.mem_cons.1 hy with rfl | hy
          · exact scalarV_scalar hs.sca (hs' u (by simp)) hz
          · exact ih hzs (fun v hv => hs' v (by simp [hv])) y hy
      exact this hx hsc
    have hrun := run_storeCells (P := c.P) (b := b) (off := off) (T := T) x.cells.toList 0 (xs ++ tail) w hh (by simp; omega) hsc' (by intro e; rw [e] at hlx; simp at hlx; omega)
    refine ⟨_, hrun, ?_⟩
    have hden := denL_replaceAt off hc hx
    have heq : (xs ++ tail).take (off + 0) ++ x.cells.toList ++ (xs ++ tail).drop (off + 0 + x.cells.toList.length) = (xs.take off ++ x.cells.toList ++ xs.drop (off + cs.length)) ++ tail := by
      rw [Nat.add_zero, hlx, List.take_append_of_le_length (by omega), List.drop_append_of_le_length (by omega)]
      simp
    rw [heq]
    refine hs.write h hb hden ?_
    have : (xs.take off ++ x.cells.toList ++ xs.drop (off + cs.length)).length = xs.length := by simp; omega
    rw [this]
    exact hm
end wp
end
end Go.Proofs.Ytobghgfmdjknlaa.Sx
