/- Symbolic execution: one operation of a region: whichever it is. -/
import Derived.Test.YtobghgfmdjknlaaSxStep3
import Derived.Test.YtobghgfmdjknlaaSxMap
namespace Go.Proofs.Ytobghgfmdjknlaa.Sx
open Go
set_option linter.unusedSectionVars false

section
variable {c : Cfg} {F : Wd} [COk c]
variable {o : Oper} {a : Act} {w : World} {next : Act → World → Prop} {Q : Exit → Act → World → Prop} {call : CallX}

theorem fieldInfo_spec {t f : Nat} {fi : Field} (h : fieldInfo c t f = some fi) : ∃ fs, c.P.underlying t = some (.struct fs) ∧ fs[f]? = some fi := by
  unfold fieldInfo at h
  split at h
  · rename_i fs hu; exact ⟨fs, und_spec hu, h⟩
  · cases h

theorem step_fieldAddr {ρ : Env} {S : St} {L : List (V × St)} {t f : Nat} {x : Operand} (hop : o.op = .fieldAddr t x f) (hs : SatH c F ρ S w) (ht : SatT c ρ S a)
    (h : xFieldAddr c S t x f = some L) (hK : Outs c F ρ S L fun x w' => next (a.put o.dst x) w') : o.wp c.P a w next Q := by
  unfold xFieldAddr at h
  rw [Option.bind_eq_some_iff] at h
  obtain ⟨p, hp, h⟩ := h
  split at h
  case h_2 => cases h
  rename_i n off
  rw [Option.bind_eq_some_iff] at h
  obtain ⟨fi, hfi, h⟩ := h
  rw [Option.bind_eq_some_iff] at h
  obtain ⟨s, hsz, h⟩ := h
  replace h := bif_some h
  rcases h with ⟨_, h⟩ | ⟨h0, h⟩
  · cases h
  obtain rfl := oneInj h
  obtain ⟨b, hb, hx⟩ := den_ptr_inv (eval_den ht hp)
  obtain ⟨fs, hu, hf⟩ := fieldInfo_spec hfi
  refine wp_val (x := .pointer (some ⟨b, off + fi.offset, none⟩)) (w' := w) ?_ (hK.one (Le.refl ρ) hs (den_ptr hb) rfl rfl)
  unfold execOp; rw [hop]
  refine run_v ?_
  unfold Instr.fieldAt
  rw [run_bindok (run_underlying hu)]
  simp only [hf, hx]
  have hsa : (Instr.sureAddr (.pointer (some ⟨b, off, none⟩))).run c.P w = .ok ⟨b, off, none⟩ w := rfl
  rw [run_bindok hsa]
  unfold fieldPlace
  have hpl : (do if (← sizeOf fi.type) = 0 then partAt ⟨b, off, none⟩ fi.offset fi.byteOffset else pure ((⟨b, off, none⟩ : Addr).add fi.offset) : Sem Addr).run c.P w = .ok ⟨b, off + fi.offset, none⟩ w := by
    rw [run_bindok (run_sizeOf' hsz), if_neg (fun e => by rw [e] at h0; simp at h0), addr_add]
    rfl
  rw [run_bindok hpl]
  rfl

theorem step_field {ρ : Env} {S : St} {L : List (V × St)} {t f : Nat} {x : Operand} (hop : o.op = .field t x f) (hs : SatH c F ρ S w) (ht : SatT c ρ S a)
    (h : xField c S t x f = some L) (hK : Outs c F ρ S L fun x w' => next (a.put o.dst x) w') : o.wp c.P a w next Q := by
  unfold xField at h
  rw [Option.bind_eq_some_iff] at h
  obtain ⟨v, hv, h⟩ := h
  rw [Option.bind_eq_some_iff] at h
  obtain ⟨fi, hfi, h⟩ := h
  rw [Option.bind_eq_some_iff] at h
  obtain ⟨cells, hc, h⟩ := h
  obtain ⟨r, hr, rfl⟩ := bindOne h
  obtain ⟨xs, hxs, hx⟩ := den_cells hc (eval_den (c := c) ht hv)
  obtain ⟨y, hy, hrun⟩ := run_part (w := w) hxs hr
  obtain ⟨fs, hu, hf⟩ := fieldInfo_spec hfi
  refine wp_val (x := y) (w' := w) ?_ (hK.one (Le.refl ρ) hs hy rfl rfl)
  unfold execOp; rw [hop]
  refine run_v ?_
  unfold Instr.field
  rw [run_bindok (run_underlying hu)]
  simp only [hf, hx]
  have hag : (asAgg (.agg xs.toArray)).run c.P w = .ok xs.toArray w := rfl
  rw [run_bindok hag]
  exact hrun

theorem run_asIntOf {P : Program} {k : IntKind} {i : Int} : (asIntOf (.int k i)).run P w = .ok (k, i) w := rfl

theorem step_indexAddr {ρ : Env} {S : St} {L : List (V × St)} {t : Nat} {x ix : Operand} (hop : o.op = .indexAddr t x ix) (hs : SatH c F ρ S w) (ht : SatT c ρ S a)
    (h : xIndexAddr c S t x ix = some L) (hK : Outs c F ρ S L fun x w' => next (a.put o.dst x) w') : o.wp c.P a w next Q := by
  unfold xIndexAddr at h
  rw [Option.bind_eq_some_iff] at h
  obtain ⟨p, hp, h⟩ := h
  rw [Option.bind_eq_some_iff] at h
  obtain ⟨iv, hiv, h⟩ := h
  rw [Option.bind_eq_some_iff] at h
  obtain ⟨i, hi, h⟩ := h
  obtain ⟨k, hki⟩ := litX_ok hs hi
  have hxi : Value.int k i = a.eval ix := Option.some.inj (hki.symm.trans (eval_den (c := c) ht hiv))
  have hxp := eval_den (c := c) ht hp
  split at h
  · rename_i e n off l cap hu
    replace hu := und_spec hu
    rw [Option.bind_eq_some_iff] at h
    obtain ⟨len, hlen, h⟩ := h
    rw [Option.bind_eq_some_iff] at h
    obtain ⟨s, hsz, h⟩ := h
    replace h := bif_none h
    obtain ⟨hg, h⟩ := h
    simp only [Bool.and_eq_true, decide_eq_true_eq] at hg
    obtain rfl := oneInj h
    obtain ⟨b, l', k', hb, hl', hk, hx'⟩ := den_slice_inv hxp
    have hll : len ≤ (l' : Int) := by
      unfold lenLo at hlen
      split at hlen
      · rename_i n0 hn0
        simp only [Option.some.injEq] at hlen
        obtain ⟨rfl, hd⟩ := lenNat_D (c := c) ρ hn0
        have : n0 = l' := D_inj hd hl'
        omega
      · rw [Option.map_eq_some_iff] at hlen
        obtain ⟨r, hr, rfl⟩ := hlen
        obtain ⟨k0, n0, h0, h1, _⟩ := boundsX_ok hs hr
        have hd : den c.P c.Φ ρ l = some (.int .i64 (l' : Int)) := by
          simp only [den, hl', Option.bind_some, single]; rfl
        rw [h0] at hd
        simp only [Option.some.injEq, Value.int.injEq] at hd
        omega
    have hg : 0 ≤ i ∧ i < (l' : Int) := ⟨hg.1, by omega⟩
    refine wp_val (x := .pointer (some ⟨b, off + i.toNat * s, none⟩)) (w' := w) ?_ (hK.one (Le.refl ρ) hs (den_ptr hb) rfl rfl)
    unfold execOp; rw [hop]
    refine run_v ?_
    unfold Instr.indexAt
    rw [← hxi, hx', run_bindok run_asIntOf]
    simp only []
    rw [run_bindok (run_underlying hu)]
    simp only []
    rw [run_bindok (run_pure _)]
    simp only []
    rw [run_bindok (run_underlying hu)]
    simp only []
    rw [if_pos hg, run_bindok (run_sizeOf' hsz), addr_add]
    rfl
  · rename_i len e n off hu
    replace hu := und_spec hu
    rw [Option.bind_eq_some_iff] at h
    obtain ⟨s, hsz, h⟩ := h
    replace h := bif_none h
    obtain ⟨hg, h⟩ := h
    simp only [Bool.and_eq_true, decide_eq_true_eq] at hg
    obtain rfl := oneInj h
    obtain ⟨b, hb, hx'⟩ := den_ptr_inv hxp
    refine wp_val (x := .pointer (some ⟨b, off + i.toNat * s, none⟩)) (w' := w) ?_ (hK.one (Le.refl ρ) hs (den_ptr hb) rfl rfl)
    unfold execOp; rw [hop]
    refine run_v ?_
    unfold Instr.indexAt
    rw [← hxi, hx', run_bindok run_asIntOf]
    simp only []
    rw [run_bindok (run_underlying hu)]
    simp only []
    have hsa : (Instr.sureAddr (.pointer (some ⟨b, off, none⟩))).run c.P w = .ok ⟨b, off, none⟩ w := rfl
    rw [run_bindok hsa, run_bindok (run_pure _)]
    simp only []
    rw [run_bindok (run_underlying hu)]
    simp only []
    rw [if_pos hg, run_bindok (run_sizeOf' hsz), addr_add]
    rfl
  · cases h

theorem step_index {ρ : Env} {S : St} {L : List (V × St)} {t : Nat} {x ix : Operand} (hop : o.op = .index t x ix) (hs : SatH c F ρ S w) (ht : SatT c ρ S a)
    (h : xIndex c S t x ix = some L) (hK : Outs c F ρ S L fun x w' => next (a.put o.dst x) w') : o.wp c.P a w next Q := by
  unfold xIndex at h
  rw [Option.bind_eq_some_iff] at h
  obtain ⟨v, hv, h⟩ := h
  rw [Option.bind_eq_some_iff] at h
  obtain ⟨iv, hiv, h⟩ := h
  have hxv := eval_den (c := c) ht hv
  split at h
  case h_2 =>
    obtain ⟨u, hu, rfl⟩ := bindOne h
    obtain ⟨s, p, b, hst, hxs, hp, hb, hd⟩ := byteX_ok hs hxv hu
    have hxi := eval_den (c := c) ht hiv
    rw [hp] at hxi
    have hxi := Option.some.inj hxi
    refine wp_val (x := .int .u8 b.toNat) (w' := w) ?_ (hK.one (Le.refl ρ) hs hd rfl rfl)
    unfold execOp; rw [hop]
    refine run_v ?_
    unfold Instr.index
    rw [← hxi, hxs, run_bindok run_asIntOf]
    simp only []
    rw [run_bindok (run_underlying hst)]
    have : (if (0 : Int) ≤ (p : Int) then s[(p : Int).toNat]? else none) = some b := by
      rw [if_pos (Int.natCast_nonneg p), Int.toNat_natCast]; exact hb
    simp only [this]
    rfl
  rename_i r0 hr0
  simp only [Option.some.injEq] at h; subst h
  rw [Option.bind_eq_some_iff] at hr0
  obtain ⟨i, hi, h⟩ := hr0
  obtain ⟨k, hki⟩ := litX_ok hs hi
  have hxi : Value.int k i = a.eval ix := Option.some.inj (hki.symm.trans (eval_den (c := c) ht hiv))
  split at h
  · rename_i s hu
    replace hu := und_spec hu
    simp only [den_k, Option.some.injEq] at hxv
    split at h
    case h_2 => cases h
    rename_i b hb
    obtain rfl := oneInj h
    refine wp_val (x := .int .u8 b.toNat) (w' := w) ?_ (hK.one (Le.refl ρ) hs rfl rfl rfl)
    unfold execOp; rw [hop]
    refine run_v ?_
    unfold Instr.index
    rw [← hxi, ← hxv, run_bindok run_asIntOf]
    simp only []
    rw [run_bindok (run_underlying hu)]
    simp only [hb]
    rfl
  · rename_i len e _ hu
    replace hu := und_spec hu
    rw [Option.bind_eq_some_iff] at h
    obtain ⟨cells, hc, h⟩ := h
    rw [Option.bind_eq_some_iff] at h
    obtain ⟨s, hsz, h⟩ := h
    replace h := bif_none h
    obtain ⟨hg, h⟩ := h
    simp only [Bool.and_eq_true, decide_eq_true_eq] at hg
    obtain ⟨r, hr, rfl⟩ := bindOne h
    obtain ⟨xs, hxs, hx⟩ := den_cells hc hxv
    obtain ⟨y, hy, hrun⟩ := run_part (w := w) hxs hr
    refine wp_val (x := y) (w' := w) ?_ (hK.one (Le.refl ρ) hs hy rfl rfl)
    unfold execOp; rw [hop]
    refine run_v ?_
    unfold Instr.index
    rw [← hxi, hx, run_bindok run_asIntOf]
    simp only []
    rw [run_bindok (run_underlying hu)]
    simp only []
    rw [if_pos hg, run_bindok (run_sizeOf' hsz)]
    exact hrun
  · cases h

theorem step_extract {ρ : Env} {S : St} {L : List (V × St)} {i : Nat} {x : Operand} (hop : o.op = .extract x i) (hs : SatH c F ρ S w) (ht : SatT c ρ S a)
    (h : xExtract S x i = some L) (hK : Outs c F ρ S L fun x w' => next (a.put o.dst x) w') : o.wp c.P a w next Q := by
  unfold xExtract at h
  rw [Option.bind_eq_some_iff] at h
  obtain ⟨v, hv, h⟩ := h
  rw [Option.bind_eq_some_iff] at h
  obtain ⟨l, hl, h⟩ := h
  obtain ⟨r, hr, rfl⟩ := bindOne h
  have hxv := eval_den (c := c) ht hv
  have hxs : ∃ xs, denL c.P c.Φ ρ l = some xs ∧ a.eval x = .tuple xs.toArray := by
    unfold listOfV at hl
    split at hl
    · simp only [den, D, Option.bind_eq_some_iff, Option.map_eq_some_iff] at hxv
      obtain ⟨xs, ⟨ys, hy, rfl⟩, h2⟩ := hxv
      simp only [single, Option.some.injEq] at h2
      exact ⟨ys, D_listV hl hy, h2.symm⟩
    · rename_i vs
      simp only [Option.some.injEq] at hl
      subst hl
      simp only [den_k, Option.some.injEq] at hxv
      exact ⟨vs.toList, denL_ks _, by simpa using hxv.symm⟩
    · cases hl
  obtain ⟨xs, hd, hx⟩ := hxs
  obtain ⟨y, hy, hget⟩ := denL_get hd hr
  refine wp_val (x := y) (w' := w) ?_ (hK.one (Le.refl ρ) hs hy rfl rfl)
  unfold execOp; rw [hop]
  refine run_v ?_
  unfold Instr.extract
  have : xs.toArray[i]? = some y := by simpa using hget
  rw [hx]
  simp only [this]
  rfl

theorem exec_call {k : Call} (hop : o.op = .call k) : (execOp a.eval o).run c.P w = (do let d ← resolve a.eval k o.type; invoke d.target d.args : Sem Next).run c.P w := by
  unfold execOp; rw [hop]

theorem args_arr {ρ : Env} {S : St} {xs : Array Operand} {vs : List V} (ht : SatT c ρ S a) (h : evalL S xs.toList = some vs) :
    denL c.P c.Φ ρ vs = some (xs.toList.map a.eval) ∧ (xs.toList.map a.eval).toArray = xs.map a.eval := by
  exact ⟨evalL_den ht h, by apply Array.ext'; simp⟩

theorem builtin_run {k : Call} {b : Builtin} (hop : o.op = .call k) (hk : k.callee = .builtin b) :
    (execOp a.eval o).run c.P w = (builtin b k.argTypes o.type (k.args.map fun | .const _ => true | _ => false) (k.args.map a.eval)).run c.P w := by
  rw [exec_call hop]
  unfold resolve
  rw [hk]
  simp only []
  rw [run_bindok (run_pure _)]
  unfold invoke
  rfl

theorem toList_one {α : Type} {xs : Array α} {x : α} (h : xs.toList = [x]) : xs = #[x] := by
  apply Array.ext'; simpa using h
theorem toList_two {α : Type} {xs : Array α} {x y : α} (h : xs.toList = [x, y]) : xs = #[x, y] := by
  apply Array.ext'; simpa using h

theorem denL_pair {ρ : Env} {u v : V} {xs : List Value} (h : denL c.P c.Φ ρ [u, v] = some xs) : ∃ x y, xs = [x, y] ∧ den c.P c.Φ ρ u = some x ∧ den c.P c.Φ ρ v = some y := by
  simp only [denL, Option.bind_eq_some_iff, Option.map_eq_some_iff] at h
  obtain ⟨x, hx, ys, ⟨y, hy, zs, hz, rfl⟩, rfl⟩ := h
  simp only [Option.some.injEq] at hz; subst hz
  exact ⟨x, y, rfl, hx, hy⟩
theorem step_call {ρ : Env} {S : St} {L : List (V × St)} {k : Call} {nm : Nat} (hcall : CallOk c F call) (hop : o.op = .call k) (hs : SatH c F ρ S w) (ht : SatT c ρ S a)
    (h : xCall c call nm S k o.type = some L) (hK : Outs c F ρ S L fun x w' => next (a.put o.dst x) w') : o.wp c.P a w next Q := by
  unfold xCall at h
  split at h
  · rename_i f hk
    rw [Option.bind_eq_some_iff] at h
    obtain ⟨fv, hf, h⟩ := h
    rw [Option.bind_eq_some_iff] at h
    obtain ⟨args, ha, h⟩ := h
    obtain ⟨h1, h2⟩ := args_arr ht ha
    have := callV_upon (w := w) (next := next) (Q := Q) (o := o) (a := a) hcall hs h (eval_den ht hf) h1 hK
    unfold Oper.wp
    rw [exec_call hop]
    unfold resolve
    rw [hk]
    simp only []
    rw [h2] at this
    exact this
  · rename_i r name hk
    rw [Option.bind_eq_some_iff] at h
    obtain ⟨rv, hr, h⟩ := h
    rw [Option.bind_eq_some_iff] at h
    obtain ⟨args, ha, h⟩ := h
    obtain ⟨h1, h2⟩ := args_arr ht ha
    have := callM_upon (w := w) (next := next) (Q := Q) (o := o) (a := a) hcall hs h (eval_den ht hr) h1 hK
    unfold Oper.wp
    rw [exec_call hop]
    unfold resolve
    rw [hk]
    simp only []
    rw [run_bindok (run_pure _)]
    unfold invoke
    simp only []
    rw [h2] at this
    have e1 : (#[a.eval r] ++ k.args.map a.eval)[0]? = some (a.eval r) := by rw [Array.getElem?_append_left (by simp)]; rfl
    have e2 : (#[a.eval r] ++ k.args.map a.eval).extract 1 (#[a.eval r] ++ k.args.map a.eval).size = k.args.map a.eval := by
      apply Array.ext'
      rw [Array.toList_extract, Array.toList_append, Array.size_append, List.extract_eq_take_drop]
      show (List.take _ (k.args.map a.eval).toList) = _
      rw [List.take_of_length_le]
      simp
    rw [e1, e2]
    exact this
  · rename_i hk
    split at h
    case h_2 => cases h
    rename_i x t hargs htys
    unfold xLen at h
    rw [Option.bind_eq_some_iff] at h
    obtain ⟨v, hv, h⟩ := h
    have hx := eval_den (c := c) ht hv
    have hrun : ∀ {y : Value}, (Builtin.len_ #[t] o.type #[a.eval x]).run c.P w = .ok y w → (execOp a.eval o).run c.P w = .ok (.value y) w := by
      intro y hy
      rw [builtin_run hop hk, toList_one hargs, toList_one htys]
      unfold builtin
      exact run_v (by simpa using hy)
    split at h
    · rename_i n off l cap e hu
      obtain rfl := oneInj h
      obtain ⟨b, l', k', hb, hl', hk', hx'⟩ := den_slice_inv hx
      refine wp_val (x := .int .i64 (Int.ofNat l')) (w' := w) (hrun ?_) (hK.one (Le.refl ρ) hs ?_ rfl rfl)
      · unfold Builtin.len_
        simp only [List.getElem?_toArray, List.getElem?_cons_zero]
        rw [run_bindok (run_underlying (und_spec hu)), hx']
        rfl
      · simp [den, hl', single]
    · rename_i n cap e hu
      obtain rfl := oneInj h
      simp only [den_k, Option.some.injEq] at hx
      refine wp_val (x := .int .i64 n) (w' := w) (hrun ?_) (hK.one (Le.refl ρ) hs rfl rfl rfl)
      unfold Builtin.len_
      simp only [List.getElem?_toArray, List.getElem?_cons_zero]
      rw [run_bindok (run_underlying (und_spec hu)), ← hx]
      rfl
    · rename_i s hu
      obtain rfl := oneInj h
      simp only [den_k, Option.some.injEq] at hx
      refine wp_val (x := .int .i64 s.size) (w' := w) (hrun ?_) (hK.one (Le.refl ρ) hs rfl rfl rfl)
      unfold Builtin.len_
      simp only [List.getElem?_toArray, List.getElem?_cons_zero]
      rw [run_bindok (run_underlying (und_spec hu)), ← hx]
      rfl
    · split at h
      · rename_i u hu
        obtain rfl := oneInj h
        obtain ⟨s, hst, hxs, hd⟩ := lenStr_ok hs hx hu
        refine wp_val (x := .int .i64 s.size) (w' := w) (hrun ?_) (hK.one (Le.refl ρ) hs hd rfl rfl)
        unfold Builtin.len_
        simp only [List.getElem?_toArray, List.getElem?_cons_zero]
        rw [run_bindok (run_underlying hst), hxs]
        rfl
      · obtain ⟨r, hr, rfl⟩ := bindOne h
        obtain ⟨y, hy, hsem, _⟩ := symV_ok hs hr (denL_one hx)
        exact wp_val (hrun (pureRun_run hsem w)) (hK.one (Le.refl ρ) hs hy rfl rfl)
  · rename_i hk
    split at h
    case h_2 => cases h
    rename_i s x t u hargs htys
    unfold xAppend at h
    rw [Option.bind_eq_some_iff] at h
    obtain ⟨_, hu, h⟩ := h
    rw [Option.bind_eq_some_iff] at h
    obtain ⟨sv, hsv, h⟩ := h
    rw [Option.bind_eq_some_iff] at h
    obtain ⟨xv, hxv, h⟩ := h
    rw [Option.map_eq_some_iff] at h
    obtain ⟨⟨v, S'⟩, happ, rfl⟩ := h
    have hd : ∃ d, c.P.underlying u = some d ∧ notInt d := by
      split at hu
      · rename_i e he; exact ⟨_, und_spec he, .inl ⟨e, rfl⟩⟩
      · rename_i he; exact ⟨_, und_spec he, .inr rfl⟩
      · cases hu
    obtain ⟨d, hd1, hd2⟩ := hd
    obtain ⟨y, w', ρ', h1, h2, h3, h4, h5, h6, h7⟩ := appendX_spec (ty := o.type) hs happ (eval_den ht hsv) (eval_den ht hxv) hd1 hd2
    refine wp_val (x := y) (w' := w') ?_ (hK.one h2 h3 h4 h5 h6 h7)
    rw [builtin_run hop hk, toList_two hargs, toList_two htys]
    unfold builtin
    exact run_v (by simpa using h1)
  · rename_i hk
    rw [Option.bind_eq_some_iff] at h
    obtain ⟨vs, hvs, h⟩ := h
    obtain ⟨h1, h2⟩ := args_arr ht hvs
    unfold xMM at h
    split at h
    · rename_i r hr
      obtain rfl := oneInj h
      obtain ⟨y, rfl, hsem, _⟩ := primV_spec hr h1
      refine wp_val ?_ (hK.one (Le.refl ρ) hs rfl rfl rfl)
      rw [builtin_run hop hk]
      unfold builtin
      refine run_v ?_
      rw [← h2]
      exact pureRun_run hsem w
    · split at h
      case h_2 => cases h
      rename_i u v _
      obtain ⟨x1, y1, he, hx1, hy1⟩ := denL_pair h1
      obtain ⟨r, S', z, hm, hk', hs', hd, hrun⟩ := mmX_ok hs hx1 hy1 h
      refine wp_val (x := z) (w' := w) ?_ (hK r S' hm ρ w z (Le.refl ρ) hs' hd hk'.tmps hk'.nt hk'.unch)
      rw [builtin_run hop hk]
      unfold builtin
      refine run_v ?_
      rw [← h2, he]
      show ([y1].foldlM Builtin.max2 x1).run c.P w = _
      simp only [List.foldlM_cons, List.foldlM_nil]
      have hrun : pureRun c.P (Builtin.max2 x1 y1) = some z := hrun
      rw [run_bindok (pureRun_run hrun w)]
      rfl
  · rename_i hk
    rw [Option.bind_eq_some_iff] at h
    obtain ⟨vs, hvs, h⟩ := h
    obtain ⟨h1, h2⟩ := args_arr ht hvs
    unfold xMM at h
    split at h
    · rename_i r hr
      obtain rfl := oneInj h
      obtain ⟨y, rfl, hsem, _⟩ := primV_spec hr h1
      refine wp_val ?_ (hK.one (Le.refl ρ) hs rfl rfl rfl)
      rw [builtin_run hop hk]
      unfold builtin
      refine run_v ?_
      rw [← h2]
      exact pureRun_run hsem w
    · split at h
      case h_2 => cases h
      rename_i u v _
      obtain ⟨x1, y1, he, hx1, hy1⟩ := denL_pair h1
      obtain ⟨r, S', z, hm, hk', hs', hd, hrun⟩ := mmX_ok hs hx1 hy1 h
      refine wp_val (x := z) (w' := w) ?_ (hK r S' hm ρ w z (Le.refl ρ) hs' hd hk'.tmps hk'.nt hk'.unch)
      rw [builtin_run hop hk]
      unfold builtin
      refine run_v ?_
      rw [← h2, he]
      show ([y1].foldlM Builtin.min2 x1).run c.P w = _
      simp only [List.foldlM_cons, List.foldlM_nil]
      have hrun : pureRun c.P (Builtin.min2 x1 y1) = some z := hrun
      rw [run_bindok (pureRun_run hrun w)]
      rfl
  · cases h

/-- WHAT THE EXECUTOR TELLS OF AN OPERATION IS SO. -/
theorem opX_sound {ρ : Env} {S : St} {L : List (V × St)} {nm : Nat} (hcall : CallOk c F call) (hs : SatH c F ρ S w) (ht : SatT c ρ S a)
    (h : opX c call nm S o = some L) (hK : Outs c F ρ S L fun x w' => next (a.put o.dst x) w') : o.wp c.P a w next Q := by
  unfold opX at h
  split at h
  · rename_i hop; exact step_move (.inl hop) hs ht h hK
  · rename_i hop; exact step_move (.inr hop) hs ht h hK
  · rename_i hop; exact step_pick hop hs ht h hK
  · rename_i hop; exact step_alloc hop hs h hK
  · rename_i hop; exact step_box hop hs ht h hK
  · rename_i hop; exact step_build hop hs ht h hK
  · rename_i hop; exact step_buildSlice hop hs ht h hK
  · rename_i hop; exact step_load hop hs ht h hK
  · rename_i hop; exact step_store hop hs ht h hK
  · rename_i hop; exact step_nilCheck hop hs ht h hK
  · rename_i hop; exact step_bin hop hs ht h hK
  · rename_i hop; exact step_un hop hs ht h hK
  · rename_i hop; exact step_convert hop hs ht h hK
  · rename_i hop; exact step_makeInterface hop hs ht h hK
  · rename_i hop; exact step_makeFunc hop hs ht h hK
  · rename_i hop; exact step_slice hop hs ht h hK
  · rename_i hop; exact step_fieldAddr hop hs ht h hK
  · rename_i hop; exact step_field hop hs ht h hK
  · rename_i hop; exact step_indexAddr hop hs ht h hK
  · rename_i hop; exact step_index hop hs ht h hK
  · rename_i hop; exact step_extract hop hs ht h hK
  · rename_i hop; exact step_call hcall hop hs ht h hK
  · rename_i hop; exact step_makeMap hop hs h hK
  · rename_i hop; exact step_insert hop hs ht h hK
  · rename_i hop; exact step_lookup hop hs ht h hK
  · cases h
end
end Go.Proofs.Ytobghgfmdjknlaa.Sx
