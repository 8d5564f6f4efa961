/- Symbolic execution: one operation of a region, whichever it is. -/
import Derived.Test.YtobghgfmdjknlaaSxOp
namespace Go.Proofs.Ytobghgfmdjknlaa.Sx
open Go
set_option linter.unusedSectionVars false

section
variable {c : Cfg} {F : Wd} [COk c]
variable {o : Oper} {a : Act} {w : World} {next : Act → World → Prop} {Q : Exit → Act → World → Prop} {call : CallX}

theorem den_cells {ρ : Env} {v : V} {cells : List V} {x : Value} (h : cellsOfAgg v = some cells)
    (hx : den c.P c.Φ ρ v = some x) : ∃ xs, denL c.P c.Φ ρ cells = some xs ∧ x = .agg xs.toArray := by
  unfold cellsOfAgg at h
  split at h
  · rename_i l
    simp only [den, D, Option.bind_eq_some_iff, Option.map_eq_some_iff] at hx
    obtain ⟨xs, ⟨ys, hy, rfl⟩, h2⟩ := hx
    simp only [single, Option.some.injEq] at h2
    exact ⟨ys, D_listV h hy, h2.symm⟩
  · rename_i cs
    simp only [Option.some.injEq] at h
    subst h
    simp only [den_k, Option.some.injEq] at hx
    exact ⟨cs.toList, denL_ks _, by simpa using hx.symm⟩
  · cases h

/-- A part of a struct or an array that is at hand. -/
theorem run_part {ρ : Env} {t off : Nat} {cells : List V} {xs : List Value} {v : V} (hc : denL c.P c.Φ ρ cells = some xs)
    (h : partX c t cells off = some v) : ∃ x, den c.P c.Φ ρ v = some x ∧ (part t xs.toArray off).run c.P w = .ok x w := by
  unfold partX at h
  rw [Option.bind_eq_some_iff] at h
  obtain ⟨g, hg, h⟩ := h
  unfold part
  rw [run_bindok (run_isAgg hg)]
  cases g with
  | true =>
    simp only at h
    rw [Option.bind_eq_some_iff] at h
    obtain ⟨s, hsz, h⟩ := h
    obtain ⟨hl, h⟩ := bif_none h
    simp only [Option.some.injEq] at h
    subst h
    obtain ⟨h1, _, _⟩ := part_spec (tail := []) hc rfl (beqT hl)
    refine ⟨_, den_agg h1, ?_⟩
    simp only [if_true]
    rw [run_bindok (run_sizeOf' hsz)]
    rw [run_pure]
    congr 2
    apply Array.ext'
    simp [List.take_drop]
  | false =>
    simp only at h
    obtain ⟨x, h1, h2⟩ := denL_get hc h
    refine ⟨x, h1, ?_⟩
    simp only [Bool.false_eq_true, if_false]
    have : xs.toArray[off]? = some x := by simpa using h2
    rw [this]
    rfl

theorem bindOne {x : Option V} {S : St} {L : List (V × St)} (h : x.bind (one S) = some L) : ∃ v, x = some v ∧ L = [(v, S)] := by
  rw [Option.bind_eq_some_iff] at h
  obtain ⟨v, hv, h⟩ := h
  simp only [one, Option.some.injEq] at h
  exact ⟨v, hv, h.symm⟩
theorem oneInj {v : V} {S : St} {L : List (V × St)} (h : one S v = some L) : L = [(v, S)] := by
  simp only [one, Option.some.injEq] at h
  exact h.symm

theorem prim_op {ρ : Env} {S : St} {p : Prim} {vs : List V} {ys : List Value} {L : List (V × St)} {s : Sem Value} (hs : SatH c F ρ S w) (hd : denL c.P c.Φ ρ vs = some ys)
    (h : (primV c p vs).bind (one S) = some L) (hsem : semPrim c.P p ys = pureRun c.P s) (he : (execOp a.eval o).run c.P w = (do pure (Next.value (← s)) : Sem Next).run c.P w)
    (hK : Outs c F ρ S L fun x w' => next (a.put o.dst x) w') : o.wp c.P a w next Q := by
  obtain ⟨v, hv, rfl⟩ := bindOne h
  obtain ⟨x, rfl, hx, _⟩ := primV_spec hv hd
  rw [hsem] at hx
  exact wp_val (he.trans (run_v (pureRun_run hx w))) (hK.one (Le.refl ρ) hs rfl rfl rfl)

theorem denL_two {ρ : Env} {u v : V} {x y : Value} (h : den c.P c.Φ ρ u = some x) (h' : den c.P c.Φ ρ v = some y) : denL c.P c.Φ ρ [u, v] = some [x, y] := by
  simp [denL, h, h']
theorem denL_one {ρ : Env} {u : V} {x : Value} (h : den c.P c.Φ ρ u = some x) : denL c.P c.Φ ρ [u] = some [x] := by
  simp [denL, h]

theorem step_move {ρ : Env} {S : St} {L : List (V × St)} {x : Operand} (hop : o.op = .move x ∨ o.op = .assign x) (hs : SatH c F ρ S w) (ht : SatT c ρ S a)
    (h : xMove S x = some L) (hK : Outs c F ρ S L fun x w' => next (a.put o.dst x) w') : o.wp c.P a w next Q := by
  obtain ⟨v, hv, rfl⟩ := bindOne h
  refine wp_val (x := a.eval x) (w' := w) ?_ (hK.one (Le.refl ρ) hs (eval_den ht hv) rfl rfl)
  rcases hop with hop | hop <;> (unfold execOp; rw [hop]; rfl)

theorem step_alloc {ρ : Env} {S : St} {L : List (V × St)} {elem nm : Nat} (hop : o.op = .alloc elem) (hs : SatH c F ρ S w)
    (h : xAlloc c nm S elem = some L) (hK : Outs c F ρ S L fun x w' => next (a.put o.dst x) w') : o.wp c.P a w next Q := by
  unfold xAlloc at h
  rw [Option.bind_eq_some_iff] at h
  obtain ⟨cs, hcs, h⟩ := h
  rw [Option.map_eq_some_iff] at h
  obtain ⟨S', hS', rfl⟩ := h
  obtain ⟨z, hz, rfl⟩ := zeroV_spec hcs w
  obtain ⟨ρ', h1, h2, h3, h4, h5, h6⟩ := alloc_spec hs hS' (denL_ks _)
  refine wp_val (x := .pointer (some ⟨w.heap.size, 0, none⟩)) (w' := w.alloc (.cells z.cells elem)) ?_ ?_
  · unfold execOp; rw [hop]
    refine run_v ?_
    unfold Instr.alloc
    rw [run_bindok hz]
    rfl
  · exact hK.one h1 (by simpa using h2) (den_ptr h3) h4 h5 h6

theorem step_box {ρ : Env} {S : St} {L : List (V × St)} {elem nm : Nat} {x : Operand} (hop : o.op = .box elem x) (hs : SatH c F ρ S w) (ht : SatT c ρ S a)
    (h : xBox nm S elem x = some L) (hK : Outs c F ρ S L fun x w' => next (a.put o.dst x) w') : o.wp c.P a w next Q := by
  unfold xBox at h
  rw [Option.bind_eq_some_iff] at h
  obtain ⟨v, hv, h⟩ := h
  rw [Option.bind_eq_some_iff] at h
  obtain ⟨cs, hcs, h⟩ := h
  rw [Option.map_eq_some_iff] at h
  obtain ⟨S', hS', rfl⟩ := h
  have hd := cellsV_den hs.sca hcs (eval_den ht hv)
  obtain ⟨ρ', h1, h2, h3, h4, h5, h6⟩ := alloc_spec hs hS' hd
  refine wp_val (x := .pointer (some ⟨w.heap.size, 0, none⟩)) (w' := w.alloc (.cells (a.eval x).cells elem)) ?_ ?_
  · unfold execOp; rw [hop]; rfl
  · exact hK.one h1 (by simpa using h2) (den_ptr h3) h4 h5 h6

theorem fields_places {fs : List Field} {pl : List (Nat × Nat)} (h : (fs.mapM fun f => (szOf c f.type).map fun s => (f.offset, s)) = some pl) :
    ∀ w : World, (fs.mapM fun f => (do pure (f.offset, ← sizeOf f.type) : Sem (Nat × Nat))).run c.P w = .ok pl w := by
  induction fs generalizing pl with
  | nil => intro w; simp at h; subst h; rfl
  | cons f r ih =>
    intro w
    simp only [List.mapM_cons, Option.bind_eq_bind, Option.bind_eq_some_iff, Option.map_eq_some_iff, Option.pure_def, Option.some.injEq] at h
    obtain ⟨p, ⟨s, hsz, rfl⟩, ps, hps, rfl⟩ := h
    rw [List.mapM_cons]
    have h1 : ((do pure (f.offset, ← sizeOf f.type) : Sem (Nat × Nat))).run c.P w = .ok (f.offset, s) w := by
      rw [run_bindok (run_sizeOf' hsz)]; rfl
    rw [run_bindok h1, run_bindok (ih hps w)]
    rfl

theorem step_build {ρ : Env} {S : St} {L : List (V × St)} {t : Nat} {parts : Array (Nat × Operand)} (hop : o.op = .build t parts) (hs : SatH c F ρ S w) (ht : SatT c ρ S a)
    (h : xBuild c S t parts = some L) (hK : Outs c F ρ S L fun x w' => next (a.put o.dst x) w') : o.wp c.P a w next Q := by
  unfold xBuild at h
  rw [Option.bind_eq_some_iff] at h
  obtain ⟨z, hz, h⟩ := h
  rw [Option.bind_eq_some_iff] at h
  obtain ⟨ps, hps, h⟩ := h
  obtain ⟨zv, hzr, rfl⟩ := zeroV_spec hz w
  have hparts := partsV_spec hs ht hps
  have harr : (parts.map fun (i, x) => (i, a.eval x)).toList = parts.toList.map fun (i, x) => (i, a.eval x) := by simp
  split at h
  · rename_i fs hu
    replace hu := und_spec hu
    rw [Option.bind_eq_some_iff] at h
    obtain ⟨pl, hpl, h⟩ := h
    rw [Option.bind_eq_some_iff] at h
    obtain ⟨cs, hcs, h⟩ := h
    obtain rfl := oneInj h
    obtain ⟨ys, hy, hf⟩ := fill_spec hcs (denL_ks (P := c.P) (Φ := c.Φ) (ρ := ρ) zv.cells.toList) hparts
    refine wp_val (x := .agg ys.toArray) (w' := w) ?_ (hK.one (Le.refl ρ) hs (den_agg hy) rfl rfl)
    unfold execOp; rw [hop]
    refine run_v ?_
    unfold Instr.build
    rw [run_bindok hzr, run_bindok (run_underlying hu)]
    have hplr : (fs.mapM fun f => (do pure (f.offset, ← sizeOf f.type) : Sem (Nat × Nat))).run c.P w = .ok pl.toArray w := by
      rw [← Array.toArray_toList (xs := fs), List.mapM_toArray]
      rw [Sem.run_map, fields_places hpl w]
      rfl
    simp only []
    rw [run_bindok hplr]
    have hfun : (fun (i : Nat) => pl.toArray[i]?) = (fun (i : Nat) => pl[i]?) := by funext i; simp
    rw [harr]
    have hz2 : zv.cells.toList.toArray = zv.cells := by simp
    rw [hz2] at hf
    simp only [hfun, hf]
    rfl
  · rename_i n e hu
    replace hu := und_spec hu
    rw [Option.bind_eq_some_iff] at h
    obtain ⟨s, hsz, h⟩ := h
    rw [Option.bind_eq_some_iff] at h
    obtain ⟨cs, hcs, h⟩ := h
    obtain rfl := oneInj h
    obtain ⟨ys, hy, hf⟩ := fill_spec hcs (denL_ks (P := c.P) (Φ := c.Φ) (ρ := ρ) zv.cells.toList) hparts
    refine wp_val (x := .agg ys.toArray) (w' := w) ?_ (hK.one (Le.refl ρ) hs (den_agg hy) rfl rfl)
    unfold execOp; rw [hop]
    refine run_v ?_
    unfold Instr.build
    rw [run_bindok hzr, run_bindok (run_underlying hu)]
    simp only []
    rw [run_bindok (run_sizeOf' hsz), harr]
    have hz2 : zv.cells.toList.toArray = zv.cells := by simp
    rw [hz2] at hf
    simp only [hf]
    rfl
  · cases h

theorem step_load {ρ : Env} {S : St} {L : List (V × St)} {t : Nat} {x : Operand} (hop : o.op = .load t x) (hs : SatH c F ρ S w) (ht : SatT c ρ S a)
    (h : xLoad c S t x = some L) (hK : Outs c F ρ S L fun x w' => next (a.put o.dst x) w') : o.wp c.P a w next Q := by
  unfold xLoad at h
  rw [Option.bind_eq_some_iff] at h
  obtain ⟨p, hp, h⟩ := h
  obtain ⟨v, hv, rfl⟩ := bindOne h
  unfold loadX at hv
  split at hv
  case h_2 => cases hv
  rename_i n off
  rw [Option.bind_eq_some_iff] at hv
  obtain ⟨e, he, hv⟩ := hv
  split at hv
  case h_2 => cases hv
  obtain ⟨b, hb, hx⟩ := den_ptr_inv (eval_den ht hp)
  obtain ⟨y, hy, hrun⟩ := run_loadVar hs he hb hv
  refine wp_val (x := y) (w' := w) ?_ (hK.one (Le.refl ρ) hs hy rfl rfl)
  unfold execOp; rw [hop]
  refine run_v ?_
  rw [hx]
  exact hrun

theorem step_store {ρ : Env} {S : St} {L : List (V × St)} {t : Nat} {p x : Operand} (hop : o.op = .store t p x) (hs : SatH c F ρ S w) (ht : SatT c ρ S a)
    (h : xStore c S t p x = some L) (hK : Outs c F ρ S L fun x w' => next (a.put o.dst x) w') : o.wp c.P a w next Q := by
  unfold xStore at h
  rw [Option.bind_eq_some_iff] at h
  obtain ⟨pv, hp, h⟩ := h
  rw [Option.bind_eq_some_iff] at h
  obtain ⟨v, hv, h⟩ := h
  rw [Option.bind_eq_some_iff] at h
  obtain ⟨cs, hcs, h⟩ := h
  split at h
  case h_2 => cases h
  rename_i n off
  rw [Option.bind_eq_some_iff] at h
  obtain ⟨e, he, h⟩ := h
  split at h
  case h_2 => cases h
  rename_i cells T more
  rw [Option.bind_eq_some_iff] at h
  obtain ⟨s, hsz, h⟩ := h
  obtain ⟨hg, h⟩ := bif_none h
  simp only [Bool.and_eq_true] at hg
  obtain ⟨⟨g1, g2⟩, g3⟩ := hg
  simp only [Option.some.injEq] at h
  subst h
  obtain ⟨b, hb, hx⟩ := den_ptr_inv (eval_den ht hp)
  have hd := cellsV_den hs.sca hcs (eval_den ht hv)
  obtain ⟨w', hrun, hs'⟩ := run_storeVar hs he hb hd hsz (beqT g1) (bleT g2) (by simpa using g3)
  refine wp_skip' (w' := w') ?_ (hK.one (Le.refl ρ) hs' rfl rfl rfl (Unch.put _ _ _))
  unfold execOp; rw [hop]
  refine run_u ?_
  rw [hx]
  exact hrun
end
end Go.Proofs.Ytobghgfmdjknlaa.Sx
