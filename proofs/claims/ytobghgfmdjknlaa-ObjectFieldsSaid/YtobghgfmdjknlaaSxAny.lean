/- Symbolic execution: a region whose order is drawn: every order is gone through. -/
import Derived.Test.YtobghgfmdjknlaaSxSyn
namespace Go.Proofs.Ytobghgfmdjknlaa.Sx
open Go
set_option linter.unusedSectionVars false

section
variable {c : Cfg} {F : Wd} [COk c]
variable {a : Act} {w : World} {Q : Exit → Act → World → Prop} {call : CallX} {ops : Array Oper}

def Bits (n m : Nat) (listed : Array Bool) : Prop := listed.size = n ∧ ∀ i, listed.getD i false = m.testBit i

def allR (ops : Array Oper) : List RO := ops.toList.zipIdx.map fun (o, i) => ⟨i, o, maskX o⟩

theorem shl_bit (i j : Nat) : (Nat.shiftLeft 1 i).testBit j = decide (i = j) := by
  show (1 <<< i).testBit j = _
  rw [Nat.one_shiftLeft, Nat.testBit_two_pow]

theorem mask_bits (o : Oper) (j : Nat) : (maskX o).testBit j = true ↔ ∃ e, e ∈ o.after.toList ∧ Region.binds .any e = true ∧ e.on = j := by
  unfold maskX
  have key : ∀ (l : List Edge) (m : Nat), (l.foldl (fun m e => bif Region.binds .any e then Nat.lor m (Nat.shiftLeft 1 e.on) else m) m).testBit j = true ↔
      m.testBit j = true ∨ ∃ e, e ∈ l ∧ Region.binds .any e = true ∧ e.on = j := by
    intro l
    induction l with
    | nil => intro m; simp
    | cons e r ih =>
      intro m
      rw [List.foldl_cons, ih]
      cases hb : Region.binds .any e with
      | false =>
        simp only [cond_false, List.mem_cons]
        constructor
        · rintro (h | ⟨e', h1, h2, h3⟩)
          · exact .inl h
          · exact .inr ⟨e', .inr h1, h2, h3⟩
        · rintro (h | ⟨e', h1 | h1, h2, h3⟩)
          · exact .inl h
          · subst h1; rw [hb] at h2; cases h2
          · exact .inr ⟨e', h1, h2, h3⟩
      | true =>
        simp only [cond_true, List.mem_cons]
        have : (Nat.lor m (Nat.shiftLeft 1 e.on)).testBit j = (m.testBit j || decide (e.on = j)) := by
          show (m ||| _).testBit j = _
          rw [Nat.testBit_or, shl_bit]
        rw [this]
        simp only [Bool.or_eq_true, decide_eq_true_eq]
        constructor
        · rintro ((h | h) | ⟨e', h1, h2, h3⟩)
          · exact .inl h
          · exact .inr ⟨e, .inl rfl, hb, h⟩
          · exact .inr ⟨e', .inr h1, h2, h3⟩
        · rintro (h | ⟨e', h1 | h1, h2, h3⟩)
          · exact .inl (.inl h)
          · subst h1; exact .inl (.inr h3)
          · exact .inr ⟨e', h1, h2, h3⟩
  rw [key]
  simp

theorem land_mask (m k : Nat) : Nat.beq (Nat.land m k) k = true ↔ ∀ j, k.testBit j = true → m.testBit j = true := by
  constructor
  · intro h j hj
    have h := beqT h
    have : (m &&& k).testBit j = k.testBit j := by rw [show m &&& k = k from h]
    rw [Nat.testBit_and, hj] at this
    simpa using this
  · intro h
    have : Nat.land m k = k := by
      apply Nat.eq_of_testBit_eq
      intro j
      show (m &&& k).testBit j = _
      rw [Nat.testBit_and]
      cases hk : k.testBit j with
      | false => simp
      | true => rw [h j hk]; rfl
    rw [this]
    exact Nat.beq_refl k

theorem ready_iff {m : Nat} {listed : Array Bool} (hb : Bits ops.size m listed) {i : Nat} {o : Oper} (ho : ops[i]? = some o) :
    i ∈ Region.ready .any ops listed ↔ (⟨i, o, maskX o⟩ : RO) ∈ readyX (allR ops) m := by
  have hi : i < ops.size := getElem?_lt ho
  have hall : (⟨i, o, maskX o⟩ : RO) ∈ allR ops := by
    unfold allR
    rw [List.mem_map]
    refine ⟨(o, i), ?_, rfl⟩
    rw [List.mem_zipIdx_iff_getElem?]
    simpa using ho
  unfold Region.ready; rw [readyX_eq]
  rw [List.mem_filter, List.mem_filter, List.mem_range]
  have e1 : listed.getD i true = m.testBit i := by
    rw [← hb.2 i]
    have : i < listed.size := by rw [hb.1]; exact hi
    simp [Array.getD, this]
  have e2 : (((ops[i]?).map (·.after.all fun e => !Region.binds .any e || listed.getD e.on false)).getD false) = (Nat.beq (Nat.land m (maskX o)) (maskX o)) := by
    rw [ho, Option.map_some, Option.getD_some, Bool.eq_iff_iff, land_mask, Array.all_eq_true']
    constructor
    · intro h j hj
      obtain ⟨e, he, hbd, rfl⟩ := (mask_bits o j).1 hj
      have := h e (by simpa using he)
      rw [hbd, hb.2] at this
      simpa using this
    · intro h e he
      cases hbd : Region.binds .any e with
      | false => rfl
      | true =>
        have := h e.on ((mask_bits o e.on).2 ⟨e, by simpa using he, hbd, rfl⟩)
        rw [hb.2, this]
        rfl
  rw [e2, e1]
  constructor
  · rintro ⟨_, h⟩; exact ⟨hall, by simpa using h⟩
  · rintro ⟨_, h⟩; exact ⟨hi, by simpa using h⟩

theorem Bits.set {n m i : Nat} {listed : Array Bool} (h : Bits n m listed) (hi : i < n) : Bits n (Nat.lor m (Nat.shiftLeft 1 i)) (listed.setIfInBounds i true) := by
  refine ⟨by simpa using h.1, fun j => ?_⟩
  have e : (Nat.lor m (Nat.shiftLeft 1 i)).testBit j = (m.testBit j || decide (i = j)) := by
    show (m ||| _).testBit j = _
    rw [Nat.testBit_or, shl_bit]
  rw [e, ← h.2 j]
  have hs : i < listed.size := by rw [h.1]; exact hi
  simp only [Array.getD_eq_getD_getElem?, Array.getElem?_setIfInBounds]
  by_cases hij : i = j
  · subst hij; simp [hs]
  · simp [hij]

theorem ready_mem {listed : Array Bool} {i : Nat} (h : i ∈ Region.ready .any ops listed) : ∃ o, ops[i]? = some o := by
  unfold Region.ready at h
  rw [List.mem_filter, List.mem_range] at h
  exact ⟨_, Array.getElem?_eq_getElem h.1⟩

theorem allR_mem {r : RO} (h : r ∈ allR ops) : ops[r.i]? = some r.o ∧ r.mask = maskX r.o := by
  unfold allR at h
  rw [List.mem_map] at h
  obtain ⟨⟨o, i⟩, hm, rfl⟩ := h
  rw [List.mem_zipIdx_iff_getElem?] at hm
  exact ⟨by simpa using hm, rfl⟩

theorem ready_nil {m : Nat} {listed : Array Bool} (hb : Bits ops.size m listed) : Region.ready .any ops listed = [] ↔ readyX (allR ops) m = [] := by
  constructor
  · intro h
    cases hr : readyX (allR ops) m with
    | nil => rfl
    | cons r rs =>
      have hm : r ∈ readyX (allR ops) m := by rw [hr]; simp
      have hall : r ∈ allR ops := by rw [readyX_eq] at hm; exact (List.mem_filter.1 hm).1
      obtain ⟨h1, h2⟩ := allR_mem hall
      have : r = ⟨r.i, r.o, maskX r.o⟩ := by rw [← h2]
      rw [this] at hm
      have := (ready_iff hb h1).2 hm
      rw [h] at this
      cases this
  · intro h
    cases hr : Region.ready .any ops listed with
    | nil => rfl
    | cons i is =>
      have hm : i ∈ Region.ready .any ops listed := by rw [hr]; simp
      obtain ⟨o, ho⟩ := ready_mem hm
      have := (ready_iff hb ho).1 hm
      rw [h] at this
      cases this

def noPanic (Q : Exit → Act → World → Prop) : Exit → Act → World → Prop := fun e a w => match e with | .panic _ => False | e => Q e a w
theorem notIn_spec {d : Option Nat} {l : List Nat} (h : notIn d l = true) : ∀ e, d = some e → e ∉ l := by
  intro e he hm
  subst he
  simp only [notIn, eachR_eq, List.all_eq_true] at h
  have := h e hm
  rw [Nat.beq_refl] at this
  cases this
theorem apartX_spec {x y : Oper} (h : apartX ops x y = true) : x.apart ops y = true := by
  simp only [apartX, an_eq, Bool.and_eq_true] at h
  obtain ⟨h1, h2, h3⟩ := h
  unfold Oper.apart
  have h1 := notIn_spec h1
  have h2 := notIn_spec h2
  have h3 := notIn_spec h3
  cases hx : x.dst with
  | none =>
    cases hy : y.dst with
    | none => simp
    | some e => simp [h3 e hy]
  | some d =>
    have e2 : y.dst ≠ some d := fun hy => h2 d hx (by rw [hy]; simp)
    cases hy : y.dst with
    | none => simp [h1 d hx]
    | some e =>
      rw [hy] at e2
      have e2 : ¬ e = d := fun q => e2 (by rw [q])
      simp [h1 d hx, h3 e hy, e2]
theorem freeX_spec {m : Nat} {listed : Array Bool} (hb : Bits ops.size m listed) {i : Nat} {oi : Oper} (h : freeX ops (allR ops) m ⟨i, oi, maskX oi⟩ = true) (j : Nat) (oj : Oper)
    (hj : ops[j]? = some oj) (hne : j ≠ i) (hun : listed.getD j true = false) (hno : ∀ e ∈ oj.after, Region.binds .any e = true → e.on ≠ i) : oi.apart ops oj = true := by
  simp only [freeX, eachR_eq, List.all_eq_true] at h
  have hall : (⟨j, oj, maskX oj⟩ : RO) ∈ allR ops := by
    unfold allR
    rw [List.mem_map]
    refine ⟨(oj, j), ?_, rfl⟩
    rw [List.mem_zipIdx_iff_getElem?]
    simpa using hj
  have h := h _ hall
  have hlt : j < listed.size := by rw [hb.1]; exact getElem?_lt hj
  have e1 : m.testBit j = false := by
    rw [← hb.2 j]
    simp [Array.getD, hlt] at hun ⊢
    exact hun
  have e2 : (maskX oj).testBit i = false := by
    cases hm : (maskX oj).testBit i with
    | false => rfl
    | true =>
      obtain ⟨e, he, hbd, hon⟩ := (mask_bits oj i).1 hm
      exact absurd hon (hno e (by simpa using he) hbd)
  have b1 : Nat.beq j i = false := Tr.beq_false hne
  simp only [b1, tbX_eq, e1, e2, cond_false] at h
  exact apartX_spec h
theorem yieldX_spec {o : Oper} {ρ : Env} {S : St} {v : V} (ht : SatT c ρ S a) (h : yieldX c S o = some v) : ∃ x, den c.P c.Φ ρ v = some x ∧ Yields c.P ops o x a := by
  unfold yieldX at h
  split at h
  · cases h
  rename_i hg
  have fin : ∀ x, (∀ w, (execOp a.eval o).run c.P w = .ok (.value x) w) → Yields c.P ops o x a := by
    intro x hx
    refine .inl ⟨?_, hx⟩
    unfold Region.wanted
    rw [hg]
  split at h
  · rename_i x hop
    exact ⟨a.eval x, eval_den ht h, fin _ fun w => by unfold execOp; rw [hop]; rfl⟩
  · rename_i x hop
    rw [Option.bind_eq_some_iff] at h
    obtain ⟨u, hu, h⟩ := h
    split at h
    case h_2 => cases h
    simp only [Option.some.injEq] at h
    subst h
    have hc := eval_den (c := c) ht hu
    obtain ⟨b, _, hx⟩ := den_ptr_inv hc
    refine ⟨a.eval x, hc, fin _ fun w => ?_⟩
    unfold execOp; rw [hop]; simp only [hx]; rfl
  · rename_i t x f hop
    rw [Option.bind_eq_some_iff] at h
    obtain ⟨p, hp, h⟩ := h
    split at h
    case h_2 => cases h
    rename_i n off
    rw [Option.bind_eq_some_iff] at h
    obtain ⟨fi, hfi, h⟩ := h
    rw [Option.bind_eq_some_iff] at h
    obtain ⟨s, hsz, h⟩ := h
    replace h := bif_some h
    rcases h with ⟨_, h⟩ | ⟨h0, h⟩
    · cases h
    simp only [Option.some.injEq] at h
    subst h
    obtain ⟨b, hb, hx⟩ := den_ptr_inv (eval_den ht hp)
    obtain ⟨fs, hu, hf⟩ := fieldInfo_spec hfi
    refine ⟨.pointer (some ⟨b, off + fi.offset, none⟩), den_ptr hb, fin _ fun w => ?_⟩
    unfold execOp; rw [hop]
    refine run_v ?_
    unfold Instr.fieldAt
    rw [run_bindok (run_underlying hu)]
    simp only [hf, hx]
    have hsa : (Instr.sureAddr (.pointer (some ⟨b, off, none⟩))).run c.P w = .ok ⟨b, off, none⟩ w := rfl
    rw [run_bindok hsa]
    unfold fieldPlace
    have hpl : (do if (← sizeOf fi.type) = 0 then partAt ⟨b, off, none⟩ fi.offset fi.byteOffset else pure ((⟨b, off, none⟩ : Addr).add fi.offset) : Sem Addr).run c.P w = .ok ⟨b, off + fi.offset, none⟩ w := by
      rw [run_bindok (run_sizeOf' hsz), if_neg (fun e => by rw [e] at h0; simp at h0), addr_add]
      rfl
    rw [run_bindok hpl]
    rfl
  · rename_i x i hop
    rw [Option.bind_eq_some_iff] at h
    obtain ⟨u, hu, h⟩ := h
    rw [Option.bind_eq_some_iff] at h
    obtain ⟨l, hl, h⟩ := h
    have hxv := eval_den (c := c) ht hu
    have hxs : ∃ xs, denL c.P c.Φ ρ l = some xs ∧ a.eval x = .tuple xs.toArray := by
      unfold listOfV at hl
      split at hl
      · simp only [den, D, Option.bind_eq_some_iff, Option.map_eq_some_iff] at hxv
        obtain ⟨xs, ⟨ys, hy, rfl⟩, h2⟩ := hxv
        simp only [single, Option.some.injEq] at h2
        exact ⟨ys, D_listV hl hy, h2.symm⟩
      · rename_i vs
        simp only [Option.some.injEq] at hl
        subst hl
        simp only [den_k, Option.some.injEq] at hxv
        exact ⟨vs.toList, denL_ks _, by simpa using hxv.symm⟩
      · cases hl
    obtain ⟨xs, hd, hx⟩ := hxs
    obtain ⟨y, hy, hget⟩ := denL_get hd h
    refine ⟨y, hy, fin _ fun w => ?_⟩
    unfold execOp; rw [hop]
    refine run_v ?_
    unfold Instr.extract
    have : xs.toArray[i]? = some y := by simpa using hget
    rw [hx]
    simp only [this]
    rfl
  · cases h
theorem firstX_spec {x y : Nat × St} : ∀ {rs : List RO}, firstX c ops (allR ops) x rs = some y → ∃ r v S', r ∈ rs ∧ yieldX c x.2 r.o = some v ∧ freeX ops (allR ops) x.1 r = true ∧ x.2.setT r.o.dst v = some S' ∧ y = (Nat.lor x.1 (Nat.shiftLeft 1 r.i), S')
  | [], h => by cases h
  | r :: rs, h => by
    unfold firstX at h
    split at h
    · rename_i S hS
      rw [Option.bind_eq_some_iff] at hS
      obtain ⟨v, hv, hS⟩ := hS
      obtain ⟨hf, hS⟩ := bif_none hS
      simp only [Option.some.injEq] at h
      exact ⟨r, v, S, by simp, hv, hf, hS, h.symm⟩
    · obtain ⟨r', v, S', h1, h2⟩ := firstX_spec h
      exact ⟨r', v, S', List.mem_cons_of_mem _ h1, h2⟩
theorem soonX_spec {x y : Nat × St} {rs : List RO} (h : soonX c ops (allR ops) x rs = some y) : noSelX (allR ops) = true ∧ firstX c ops (allR ops) x rs = some y := by
  unfold soonX at h
  split at h
  · exact bif_none h
  · cases h
theorem noSelX_spec (h : noSelX (allR ops) = true) (j : Nat) (o : Oper) (cs : Array SelectCase) (b : Bool) (ho : ops[j]? = some o) : o.op ≠ .select cs b := by
  intro he
  simp only [noSelX, eachR_eq, List.all_eq_true] at h
  have hall : (⟨j, o, maskX o⟩ : RO) ∈ allR ops := by
    unfold allR
    rw [List.mem_map]
    refine ⟨(o, j), ?_, rfl⟩
    rw [List.mem_zipIdx_iff_getElem?]
    simpa using ho
  have := h _ hall
  simp only [he] at this
  cases this

theorem expand_spec {base : Nat} {x : Nat × St} {L : List (Nat × St)} (h : expandX c call ops (allR ops) base x = some L) :
    readyX (allR ops) x.1 ≠ [] ∧ ((∃ y, noSelX (allR ops) = true ∧ firstX c ops (allR ops) x (readyX (allR ops) x.1) = some y ∧ y ∈ L) ∨
    ∀ r, r ∈ readyX (allR ops) x.1 → ∃ M, stepX c call ops (base + 2 * r.i) x.2 r.o = some M ∧ ∀ S', S' ∈ M → (Nat.lor x.1 (Nat.shiftLeft 1 r.i), S') ∈ L) := by
  unfold expandX at h
  split at h
  · cases h
  · rename_i rs hne
    refine ⟨hne, ?_⟩
    split at h
    · rename_i y hy
      simp only [Option.some.injEq] at h
      subst h
      obtain ⟨h1, h2⟩ := soonX_spec hy
      exact .inl ⟨y, h1, h2, by simp⟩
    · refine .inr fun r hr => ?_
      obtain ⟨s, hs, hsub⟩ := mem_bindL h r hr
      rw [Option.map_eq_some_iff] at hs
      obtain ⟨M, hM, rfl⟩ := hs
      exact ⟨M, hM, fun S' hS' => hsub _ (List.mem_map.2 ⟨S', hS', rfl⟩)⟩

theorem setT_from {S0 S S' : St} {ds : List Nat} {d : Option Tmp} {v : V} (hf : From S0 ds S) (hd : ∀ e, d = some e → e ∈ ds) (h : S.setT d v = some S') : From S0 ds S' := by
  have hh := setT_heap h
  refine ⟨hh.2.2.trans hf.nt, fun n hn => ?_, fun e he => ?_⟩
  · rw [setT_log h] at hn
    rw [hh.1]; exact hf.heap n hn
  · rw [setT_tmps h e (fun q => he (hd e q))]
    exact hf.tmps e he

theorem expand_syn (hcall : CallSyn call) {base : Nat} {x : Nat × St} {L : List (Nat × St)} {S0 : St} {ds : List Nat} (hd : ∀ (i : Nat) (o : Oper), ops[i]? = some o → ∀ d, o.dst = some d → d ∈ ds)
    (h : expandX c call ops (allR ops) base x = some L) (hf : From S0 ds x.2) : ∀ y, y ∈ L → From S0 ds y.2 := by
  intro y hy
  unfold expandX at h
  split at h
  · cases h
  · split at h
    · rename_i y' hy'
      simp only [Option.some.injEq] at h
      subst h
      simp only [List.mem_singleton] at hy
      subst hy
      obtain ⟨r, v, S', hr, _, _, hS, rfl⟩ := firstX_spec (soonX_spec hy').2
      have hall : r ∈ allR ops := by rw [readyX_eq] at hr; exact (List.mem_filter.1 hr).1
      exact setT_from hf (hd r.i r.o (allR_mem hall).1) hS
    · obtain ⟨r, s, hr, hs, hm⟩ := mem_bindL' h y hy
      rw [Option.map_eq_some_iff] at hs
      obtain ⟨M, hM, rfl⟩ := hs
      obtain ⟨S', hS', rfl⟩ := List.mem_map.1 hm
      have hall : r ∈ allR ops := by rw [readyX_eq] at hr; exact (List.mem_filter.1 hr).1
      exact syn_stepX hcall hM (hd r.i r.o (allR_mem hall).1) hf S' hS'

theorem addX_from {ds : List Nat} {S0 : St} {x : Nat × St} (hx : From S0 ds x.2) : ∀ {l : List (Nat × St)}, (∀ y, y ∈ l → From S0 ds y.2) → ∀ y, y ∈ addX ds x l → From S0 ds y.2
  | [], _, y, hy => by simp [addX] at hy; subst hy; exact hx
  | z :: r, hl, y, hy => by
    unfold addX at hy
    rw [an_eq] at hy
    cases hb : (Nat.beq x.1 z.1 && sameX ds x.2 z.2) with
    | true => rw [hb] at hy; exact hl y hy
    | false =>
      rw [hb] at hy
      simp only [cond_false] at hy
      rcases List.mem_cons.1 hy with rfl | hy
      · exact hl _ (List.mem_cons_self ..)
      · exact addX_from hx (fun y hy => hl y (List.mem_cons_of_mem _ hy)) y hy

theorem foldl_from {ds : List Nat} {S0 : St} : ∀ (l acc : List (Nat × St)), (∀ y, y ∈ l → From S0 ds y.2) → (∀ y, y ∈ acc → From S0 ds y.2) → ∀ y, y ∈ l.foldl (fun acc x => addX ds x acc) acc → From S0 ds y.2
  | [], _, _, ha, y, hy => ha y hy
  | z :: r, acc, hl, ha, y, hy =>
    foldl_from r (addX ds z acc) (fun y hy => hl y (List.mem_cons_of_mem _ hy)) (addX_from (hl z (List.mem_cons_self ..)) ha) y hy

theorem bfsX_sound (hp : ∀ x a w, ¬ Q (.panic x) a w) (hcall : CallOk c F call) (hsyn : CallSyn call) {S0 : St} {ds : List Nat} {base : Nat} (hd : ∀ (i : Nat) (o : Oper), ops[i]? = some o → ∀ d, o.dst = some d → d ∈ ds) :
    ∀ (n : Nat) (l : List (Nat × St)) (R : List St), bfsX c call ops (allR ops) ds base n l = some R → (∀ x, x ∈ l → From S0 ds x.2) →
      (∀ S', S' ∈ R → From S0 ds S') ∧
      ∀ x, x ∈ l → ∀ (listed : Array Bool) (ρ : Env) (a : Act) (w : World), Bits ops.size x.1 listed → SatH c F ρ x.2 w → SatT c ρ x.2 a →
        (∀ S', S' ∈ R → ∀ ρ' a' w', Le ρ ρ' → SatH c F ρ' S' w' → SatT c ρ' S' a' → Q .normal a' w') → wpAny c.P .any ops Q n listed a w
  | 0, l, R, h, hf => by
    unfold bfsX at h
    obtain ⟨hall, h⟩ := bif_none h
    simp only [Option.some.injEq] at h
    subst h
    refine ⟨fun S' hS' => ?_, fun x hx listed ρ a w hb hs ht hK => ?_⟩
    · obtain ⟨x, hx, rfl⟩ := List.mem_map.1 hS'
      exact hf x hx
    · have hr : readyX (allR ops) x.1 = [] := by
        rw [List.all_eq_true] at hall
        have := hall x hx
        split at this
        · assumption
        · cases this
      exact ⟨(ready_nil hb).2 hr, hK x.2 (List.mem_map.2 ⟨x, hx, rfl⟩) ρ a w (Le.refl ρ) hs ht⟩
  | n + 1, l, R, h, hf => by
    unfold bfsX at h
    rw [Option.bind_eq_some_iff] at h
    obtain ⟨L, hL, h⟩ := h
    have hLf : ∀ y, y ∈ L → From S0 ds y.2 := by
      intro y hy
      obtain ⟨x, s, hx, hs, hm⟩ := mem_bindL' hL y hy
      exact expand_syn hsyn hd hs (hf x hx) y hm
    have hff := foldl_from (ds := ds) (S0 := S0) L [] hLf (fun y hy => by cases hy)
    obtain ⟨ih1, ih2⟩ := bfsX_sound hp hcall hsyn hd n _ R h hff
    refine ⟨ih1, fun x hx listed ρ a w hb hs ht hK => ?_⟩
    obtain ⟨s, hsx, hsub⟩ := mem_bindL hL x hx
    obtain ⟨hne, hexp⟩ := expand_spec hsx
    rcases hexp with ⟨y0, hsel, hfst, hin⟩ | hexp
    · obtain ⟨r, v, S', hr, hy, hfree, hS, rfl⟩ := firstX_spec hfst
      have hall : r ∈ allR ops := by rw [readyX_eq] at hr; exact (List.mem_filter.1 hr).1
      obtain ⟨ho, hmk⟩ := allR_mem hall
      have er : r = ⟨r.i, r.o, maskX r.o⟩ := by rw [← hmk]
      obtain ⟨z, hz, hyl⟩ := yieldX_spec (ops := ops) ht hy
      have hh := setT_heap hS
      have hready : r.i ∈ Region.ready .any ops listed := (ready_iff hb ho).2 (by rw [← er]; exact hr)
      refine wpAny_first ho (noSelX_spec hsel) (fun x a' w' hx => absurd hx (hp x (a'.put r.o.dst z) w')) n listed a w (fun j oj => freeX_spec hb (by rw [← er]; exact hfree) j oj) hready hyl ?_
      have hin : (Nat.lor x.1 (Nat.shiftLeft 1 r.i), S') ∈ L := hsub _ hin
      obtain ⟨y, hy, hyx⟩ := (foldl_add (ds := ds) L []).2 _ hin
      have hb' := hb.set (getElem?_lt ho)
      have hs' : SatH c F ρ S' w := hs.congr hh.1 hh.2.1
      have ht' : SatT c ρ S' (a.put r.o.dst z) := ht.put hS hz
      have fin : y.1 = Nat.lor x.1 (Nat.shiftLeft 1 r.i) → SatH c F ρ y.2 w → SatT c ρ y.2 (a.put r.o.dst z) → wpAny c.P .any ops Q n (listed.setIfInBounds r.i true) (a.put r.o.dst z) w := by
        intro e1 e2 e3
        exact ih2 y hy (listed.setIfInBounds r.i true) ρ _ w (by rw [e1]; exact hb') e2 e3 hK
      rcases hyx with rfl | ⟨e1, _, e3⟩
      · exact fin rfl hs' ht'
      · have := sameX_spec (S0 := S0) e3 (hLf _ hin) (hff y hy) hs' ht'
        exact fin e1 this.1 this.2
    refine ⟨fun hr => absurd ((ready_nil hb).1 hr) hne, fun i hi => ?_⟩
    obtain ⟨o, ho⟩ := ready_mem hi
    obtain ⟨M, hM, hMs⟩ := hexp _ ((ready_iff hb ho).1 hi)
    refine wpOp_of ho (stepX_sound (ds := ds) hcall hs ht hM (hd i o ho) ?_)
    intro S' hS' ρ' a' w' hle hs' ht' _ _ _
    have hin : (Nat.lor x.1 (Nat.shiftLeft 1 i), S') ∈ L := hsub _ (hMs S' hS')
    obtain ⟨y, hy, hyx⟩ := (foldl_add (ds := ds) L []).2 _ hin
    have hb' := hb.set (getElem?_lt ho)
    have fin : y.1 = Nat.lor x.1 (Nat.shiftLeft 1 i) → SatH c F ρ' y.2 w' → SatT c ρ' y.2 a' → wpAny c.P .any ops Q n (listed.setIfInBounds i true) a' w' := by
      intro e1 e2 e3
      exact ih2 y hy (listed.setIfInBounds i true) ρ' a' w' (by rw [e1]; exact hb') e2 e3 (fun S'' hS'' ρ'' a'' w'' hle2 => hK S'' hS'' ρ'' a'' w'' (hle.trans hle2))
    rcases hyx with rfl | ⟨e1, _, e3⟩
    · exact fin rfl hs' ht'
    · have := sameX_spec (S0 := S0) e3 (hLf _ hin) (hff y hy) hs' ht'
      exact fin e1 this.1 this.2
end
end Go.Proofs.Ytobghgfmdjknlaa.Sx
