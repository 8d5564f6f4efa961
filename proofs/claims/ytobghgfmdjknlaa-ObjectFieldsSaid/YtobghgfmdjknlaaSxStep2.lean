/- Symbolic execution: one operation of a region: the rest of them. -/
import Derived.Test.YtobghgfmdjknlaaSxStep
import Derived.Test.YtobghgfmdjknlaaSxFlt
import Derived.Test.YtobghgfmdjknlaaSxAgg
namespace Go.Proofs.Ytobghgfmdjknlaa.Sx
open Go
set_option linter.unusedSectionVars false

section
variable {c : Cfg} {F : Wd} [COk c]
variable {o : Oper} {a : Act} {w : World} {next : Act → World → Prop} {Q : Exit → Act → World → Prop} {call : CallX}

theorem sym_op {ρ : Env} {S : St} {p : Prim} {vs : List V} {ys : List Value} {L : List (V × St)} {s : Sem Value} (hs : SatH c F ρ S w) (hd : denL c.P c.Φ ρ vs = some ys)
    (h : (symV c S p vs).bind (one S) = some L) (hsem : semPrim c.P p ys = pureRun c.P s) (he : (execOp a.eval o).run c.P w = (do pure (Next.value (← s)) : Sem Next).run c.P w)
    (hK : Outs c F ρ S L fun x w' => next (a.put o.dst x) w') : o.wp c.P a w next Q := by
  obtain ⟨v, hv, rfl⟩ := bindOne h
  obtain ⟨x, hx1, hx, _⟩ := symV_ok hs hv hd
  rw [hsem] at hx
  exact wp_val (he.trans (run_v (pureRun_run hx w))) (hK.one (Le.refl ρ) hs hx1 rfl rfl)

theorem step_pick {ρ : Env} {S : St} {L : List (V × St)} {cnd x y : Operand} (hop : o.op = .pick cnd x y) (hs : SatH c F ρ S w) (ht : SatT c ρ S a)
    (h : xPick c S cnd x y = some L) (hK : Outs c F ρ S L fun x w' => next (a.put o.dst x) w') : o.wp c.P a w next Q := by
  simp only [xPick, Option.bind_eq_some_iff] at h
  obtain ⟨v, hv, l, hl, h⟩ := h
  have hc := eval_den (c := c) ht hv
  obtain ⟨z, S', hz, hm, hs', hk⟩ := splitX_ok hs hc hl
  obtain ⟨s, hsx, hsub⟩ := mem_bindL h _ hm
  cases z with
  | true =>
    obtain ⟨u, hu, rfl⟩ := bindOne hsx
    refine wp_val (x := a.eval x) (w' := w) ?_ (hK u S' (hsub _ (by simp)) ρ w _ (Le.refl ρ) hs' (eval_den ht hu) hk.tmps hk.nt hk.unch)
    unfold execOp; rw [hop]
    simp only [hz]
    rfl
  | false =>
    obtain ⟨u, hu, rfl⟩ := bindOne hsx
    refine wp_val (x := a.eval y) (w' := w) ?_ (hK u S' (hsub _ (by simp)) ρ w _ (Le.refl ρ) hs' (eval_den ht hu) hk.tmps hk.nt hk.unch)
    unfold execOp; rw [hop]
    simp only [hz]
    rfl

theorem zeros_eq (z : Array Value) (len : Nat) : ((Array.range (len * z.size)).map (z[· % z.size]!)).toList = List.flatten (List.replicate len z.toList) := by
  rw [Array.toList_map, Array.toList_range]
  by_cases h0 : z.size = 0
  · rw [Array.eq_empty_of_size_eq_zero h0]
    simp
  · induction len with
    | zero => simp
    | succ n ih =>
      rw [List.replicate_succ', List.flatten_append, ← ih, Nat.succ_mul, List.range_add, List.map_append]
      congr 1
      simp only [List.map_map, List.flatten_cons, List.flatten_nil, List.append_nil]
      apply List.ext_getElem?
      intro i
      by_cases hi : i < z.size
      · have hm : (n * z.size + i) % z.size = i := by rw [Nat.mul_comm, Nat.mul_add_mod, Nat.mod_eq_of_lt hi]
        simp [hi, hm]
      · simp [hi]

theorem step_buildSlice {ρ : Env} {S : St} {L : List (V × St)} {t len nm : Nat} {parts : Array (Nat × Operand)} (hop : o.op = .buildSlice t len parts) (hs : SatH c F ρ S w) (ht : SatT c ρ S a)
    (h : xBuildSlice c nm S t len parts = some L) (hK : Outs c F ρ S L fun x w' => next (a.put o.dst x) w') : o.wp c.P a w next Q := by
  unfold xBuildSlice at h
  split at h
  case h_2 => cases h
  rename_i e hu
  replace hu := und_spec hu
  rw [Option.bind_eq_some_iff] at h
  obtain ⟨s, hsz, h⟩ := h
  rw [Option.bind_eq_some_iff] at h
  obtain ⟨z, hz, h⟩ := h
  rw [Option.bind_eq_some_iff] at h
  obtain ⟨ps, hps, h⟩ := h
  obtain ⟨hg, h⟩ := bif_none h
  simp only [Bool.and_eq_true] at hg
  obtain ⟨g1, g2⟩ := hg
  have g1 := bleT g1
  have g2 := beqT g2
  rw [Option.bind_eq_some_iff] at h
  obtain ⟨cs, hcs, h⟩ := h
  rw [Option.map_eq_some_iff] at h
  obtain ⟨S', hS', rfl⟩ := h
  obtain ⟨zv, hzr, rfl⟩ := zeroV_spec hz w
  have hzs : zv.cells.size = s := by simpa using g2
  have hparts := partsV_spec hs ht hps
  have hrep : List.flatten (List.replicate len (zv.cells.toList.map V.k)) = (List.flatten (List.replicate len zv.cells.toList)).map V.k := by
    rw [List.map_flatten, List.map_replicate]
  rw [hrep] at hcs
  obtain ⟨ys, hy, hf⟩ := fill_spec hcs (denL_ks (P := c.P) (Φ := c.Φ) (ρ := ρ) _) hparts
  obtain ⟨ρ', h1, h2, h3, h4, h5, h6⟩ := alloc_spec hs hS' hy
  have harr : (parts.map fun (i, x) => (i, a.eval x)).toList = parts.toList.map fun (i, x) => (i, a.eval x) := by simp
  refine wp_val (x := .slice (some ⟨w.heap.size, 0, none⟩) len len) (w' := w.alloc (.cells ys.toArray e)) ?_ (hK.one h1 h2 (den_slice h3 (D_natV _) (D_natV _)) h4 h5 h6)
  unfold execOp; rw [hop]
  refine run_v ?_
  unfold Instr.buildSlice
  rw [run_bindok (run_underlying hu)]
  simp only []
  rw [run_bindok (run_sizeOf' hsz)]
  rw [if_neg (by omega)]
  by_cases h0 : len * s = 0
  · rw [if_pos h0, run_bindok (run_pure _), harr]
    have hcells : ((Array.range (len * s)).map ((#[] : Array Value)[· % (#[] : Array Value).size]!)) = (List.flatten (List.replicate len zv.cells.toList)).toArray := by
      apply Array.ext'
      rw [← zeros_eq, hzs, h0]
      simp
    rw [hcells, hf]
    rfl
  · rw [if_neg h0, run_bindok hzr, run_bindok (run_pure _), harr]
    have hcells : ((Array.range (len * s)).map (zv.cells[· % zv.cells.size]!)) = (List.flatten (List.replicate len zv.cells.toList)).toArray := by
      apply Array.ext'
      rw [← zeros_eq, hzs]
    rw [hcells, hf]
    rfl

theorem step_nilCheck {ρ : Env} {S : St} {L : List (V × St)} {x : Operand} (hop : o.op = .nilCheck x) (hs : SatH c F ρ S w) (ht : SatT c ρ S a)
    (h : xNilCheck S x = some L) (hK : Outs c F ρ S L fun x w' => next (a.put o.dst x) w') : o.wp c.P a w next Q := by
  unfold xNilCheck at h
  rw [Option.bind_eq_some_iff] at h
  obtain ⟨v, hv, h⟩ := h
  have hc := eval_den (c := c) ht hv
  have fin : (execOp a.eval o).run c.P w = .ok (.value (a.eval x)) w → L = [(v, S)] → o.wp c.P a w next Q := by
    intro he hL
    subst hL
    exact wp_val he (hK.one (Le.refl ρ) hs hc rfl rfl)
  split at h
  · obtain ⟨b, _, hx⟩ := den_ptr_inv hc
    refine fin ?_ (oneInj h)
    unfold execOp; rw [hop]; simp only [hx]; rfl
  · obtain ⟨y, _, hx⟩ := asIface_den (c := c) rfl hc
    refine fin ?_ (oneInj h)
    unfold execOp; rw [hop]; simp only [hx]; rfl
  · simp only [den, D, Option.bind_eq_some_iff, Option.map_eq_some_iff] at hc
    obtain ⟨xs, ⟨fs, _, cs, _, rfl⟩, h2⟩ := hc
    simp only [single, Option.some.injEq] at h2
    refine fin ?_ (oneInj h)
    unfold execOp; rw [hop]; simp only [← h2]; rfl
  · simp only [den_k, Option.some.injEq] at hc
    refine fin ?_ (oneInj h)
    unfold execOp; rw [hop]; simp only [← hc]; rfl
  · simp only [den_k, Option.some.injEq] at hc
    refine fin ?_ (oneInj h)
    unfold execOp; rw [hop]; simp only [← hc]; rfl
  · simp only [den_k, Option.some.injEq] at hc
    refine fin ?_ (oneInj h)
    unfold execOp; rw [hop]; simp only [← hc]; rfl
  · cases h

/-- The equality of what is nil and what is not. -/
theorem nil_eq {op : BinOp} {t : TypeId} {x y : Operand} {yt : TypeId} (hop : o.op = .binOp op t x y yt) {b r : Bool} (he : (Op.equal t (a.eval x) (a.eval y)).run c.P w = .ok b w)
    (hr : boolOp op b = some r) (hg : ∀ op, (eqGuard op t x y (a.eval x) (a.eval y)).run c.P w = .ok () w)
    (hb1 : binOp .eql t (a.eval x) (a.eval y) = do pure (.bool (← Op.equal t (a.eval x) (a.eval y)))) (hb2 : binOp .neq t (a.eval x) (a.eval y) = do pure (.bool (!(← Op.equal t (a.eval x) (a.eval y))))) :
    (execOp a.eval o).run c.P w = .ok (.value (.bool r)) w := by
  unfold execOp; rw [hop]
  refine run_v ?_
  rw [run_bindok (hg op)]
  unfold boolOp at hr
  split at hr
  · simp only [Option.some.injEq] at hr
    subst hr
    rw [hb1, run_bindok he]; rfl
  · simp only [Option.some.injEq] at hr
    subst hr
    rw [hb2, run_bindok he]; rfl
  · cases hr

theorem guard_run (op : BinOp) (t : TypeId) (x y : Operand) {u v : Value} (h : (u ≠ .nilIface ∨ v ≠ .nilIface) ∧ ((∀ l, u ≠ .agg l) ∨ (∀ l, v ≠ .agg l))) : (eqGuard op t x y u v).run c.P w = .ok () w := by
  obtain ⟨h1, h2⟩ := h
  unfold eqGuard
  generalize hb : (!(match op with | .eql | .neq => true | _ => false)) = b
  cases b
  · rw [if_neg (by simp)]
    cases u <;> cases v <;> first
      | rfl
      | (rcases h1 with h1 | h1 <;> exact absurd rfl h1)
      | (rcases h2 with h2 | h2 <;> exact absurd rfl (h2 _))
  · rw [if_pos rfl]
    rfl

theorem step_bin {ρ : Env} {S : St} {L : List (V × St)} {nm : Nat} {op : BinOp} {t yt : TypeId} {x y : Operand} (hop : o.op = .binOp op t x y yt) (hs : SatH c F ρ S w) (ht : SatT c ρ S a)
    (h : xBin c nm S op t x y = some L) (hK : Outs c F ρ S L fun x w' => next (a.put o.dst x) w') : o.wp c.P a w next Q := by
  unfold xBin at h
  rw [Option.bind_eq_some_iff] at h
  obtain ⟨u, hu, h⟩ := h
  rw [Option.bind_eq_some_iff] at h
  obtain ⟨v, hv, h⟩ := h
  have hx := eval_den (c := c) ht hu
  have hy := eval_den (c := c) ht hv
  split at h
  · rename_i r hr
    rw [Option.bind_eq_some_iff] at h
    obtain ⟨r', hr', h⟩ := h
    obtain rfl := oneInj h
    unfold nilX at hr
    split at hr
    · rename_i hut
      replace hut := und_spec hut
      obtain ⟨b, _, hx'⟩ := den_ptr_inv hx
      simp only [den_k, Option.some.injEq] at hy
      simp only [Option.some.injEq] at hr; subst hr
      refine wp_val (nil_eq (b := false) hop ?_ hr' (fun op => ?_) ?_ ?_) (hK.one (Le.refl ρ) hs rfl rfl rfl)
      · rw [hx', ← hy]; unfold Op.equal Op.maxDepth Op.equalIn; rw [run_bindok (run_underlying hut)]; rfl
      · rw [hx', ← hy]; exact guard_run _ _ _ _ ⟨.inl (by simp), .inl (by simp)⟩
      · rw [hx', ← hy]; rfl
      · rw [hx', ← hy]; rfl
    · rename_i hut
      replace hut := und_spec hut
      obtain ⟨b, _, hy'⟩ := den_ptr_inv hy
      simp only [den_k, Option.some.injEq] at hx
      simp only [Option.some.injEq] at hr; subst hr
      refine wp_val (nil_eq (b := false) hop ?_ hr' (fun op => ?_) ?_ ?_) (hK.one (Le.refl ρ) hs rfl rfl rfl)
      · rw [← hx, hy']; unfold Op.equal Op.maxDepth Op.equalIn; rw [run_bindok (run_underlying hut)]; rfl
      · rw [← hx, hy']; exact guard_run _ _ _ _ ⟨.inl (by simp), .inl (by simp)⟩
      · rw [← hx, hy']; rfl
      · rw [← hx, hy']; rfl
    · rename_i hut
      replace hut := und_spec hut
      obtain ⟨z, _, hx'⟩ := asIface_den (c := c) rfl hx
      simp only [den_k, Option.some.injEq] at hy
      simp only [Option.some.injEq] at hr; subst hr
      refine wp_val (nil_eq (b := false) hop ?_ hr' (fun op => ?_) ?_ ?_) (hK.one (Le.refl ρ) hs rfl rfl rfl)
      · rw [hx', ← hy]; unfold Op.equal Op.maxDepth Op.equalIn; rw [run_bindok (run_underlying hut)]; rfl
      · rw [hx', ← hy]; exact guard_run _ _ _ _ ⟨.inl (by simp), .inl (by simp)⟩
      · rw [hx', ← hy]; rfl
      · rw [hx', ← hy]; rfl
    · rename_i hut
      replace hut := und_spec hut
      obtain ⟨b, l, k, _, _, _, hx'⟩ := den_slice_inv hx
      simp only [den_k, Option.some.injEq] at hy
      simp only [Option.some.injEq] at hr; subst hr
      refine wp_val (nil_eq (b := false) hop ?_ hr' (fun op => ?_) ?_ ?_) (hK.one (Le.refl ρ) hs rfl rfl rfl)
      · rw [hx', ← hy]; unfold Op.equal Op.maxDepth Op.equalIn; rw [run_bindok (run_underlying hut)]; rfl
      · rw [hx', ← hy]; exact guard_run _ _ _ _ ⟨.inl (by simp), .inl (by simp)⟩
      · rw [hx', ← hy]; rfl
      · rw [hx', ← hy]; rfl
    · cases hr
  · split at h
    · rename_i r hr
      obtain ⟨x1, hx1, hsem, _⟩ := symV_ok hs hr (denL_two hx hy)
      obtain rfl := oneInj h
      refine wp_val (x := x1) (w' := w) ?_ (hK.one (Le.refl ρ) hs (tidyX_ok hs hx1) rfl rfl)
      unfold execOp; rw [hop]
      simp only [eqGuard_eqG]
      exact run_v (pureRun_run hsem w)
    · replace h := bif_some h
      rcases h with ⟨hg, h⟩ | ⟨_, h⟩
      · rw [Bool.and_eq_true] at hg
        exact step_agg hop hs hx hy hg.1 hg.2 h hK
      · split at h
        · rename_i r hr
          simp only [Option.some.injEq] at h; subst h
          split at hr
          · split at hr
            · rename_i r1 hq1
              exact step_quo1 hop hs hx hy hq1 hr hK
            · exact step_quo hop hs hx hy hr hK
          · exact step_cat hop hs hx hy hr hK
          · cases hr
        · exact step_nan hop hs hx hy h hK

theorem step_un {ρ : Env} {S : St} {L : List (V × St)} {op : UnOp} {t : TypeId} {x : Operand} (hop : o.op = .unOp op t x) (hs : SatH c F ρ S w) (ht : SatT c ρ S a)
    (h : xUn c S op x = some L) (hK : Outs c F ρ S L fun x w' => next (a.put o.dst x) w') : o.wp c.P a w next Q := by
  unfold xUn at h
  rw [Option.bind_eq_some_iff] at h
  obtain ⟨u, hu, h⟩ := h
  split at h
  · rename_i r hr
    simp only [Option.some.injEq] at h; subst h
    split at hr
    · exact step_neg hop hs (eval_den ht hu) hr hK
    · cases hr
  refine sym_op hs (denL_one (eval_den ht hu)) h rfl ?_ hK
  unfold execOp; rw [hop]
end
end Go.Proofs.Ytobghgfmdjknlaa.Sx
