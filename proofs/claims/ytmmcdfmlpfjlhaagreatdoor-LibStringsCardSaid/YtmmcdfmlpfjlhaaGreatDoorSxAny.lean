/- Symbolic execution: a region whose order is drawn: every order is gone through. -/
import Derived.Test.YtmmcdfmlpfjlhaaGreatDoorSxSyn
namespace Go.Proofs.YtmmcdfmlpfjlhaaGreatDoor.Sx
open Go
set_option linter.unusedSectionVars false

section
variable {c : Cfg} {F : Wd} [COk c]
variable {a : Act} {w : World} {Q : Exit → Act → World → Prop} {call : CallX} {ops : Array Oper}

def Bits (n m : Nat) (listed : Array Bool) : Prop := listed.size = n ∧ ∀ i, listed.getD i false = m.testBit i

def allR (ops : Array Oper) : List RO := ops.toList.zipIdx.map fun (o, i) => ⟨i, o, maskX o⟩

theorem shl_bit (i j : Nat) : (Nat.shiftLeft 1 i).testBit j = decide (i = j) := by
  show (1 <<< i).testBit j = _
  rw [Nat.one_shiftLeft, Nat.testBit_two_pow]

theorem mask_bits (o : Oper) (j : Nat) : (maskX o).testBit j = true ↔ ∃ e, e ∈ o.after.toList ∧ Region.binds .any e = true ∧ e.on = j := by
  unfold maskX
  have key : ∀ (l : List Edge) (m : Nat), (l.foldl (fun m e => bif Region.binds .any e then Nat.lor m (Nat.shiftLeft 1 e.on) else m) m).testBit j = true ↔
      m.testBit j = true ∨ ∃ e, e ∈ l ∧ Region.binds .any e = true ∧ e.on = j := by
    intro l
    induction l with
    | nil => intro m; simp
    | cons e r ih =>
      intro m
      rw [List.foldl_cons, ih]
      cases hb : Region.binds .any e with
      | false =>
        simp only [cond_false, List.mem_cons]
        constructor
        · rintro (h | ⟨e', h1, h2, h3⟩)
          · exact .inl h
          · exact .inr ⟨e', .inr h1, h2, h3⟩
        · rintro (h | ⟨e', h1 | h1, h2, h3⟩)
          · exact .inl h
          · subst h1; rw [hb] at h2; cases h2
          · exact .inr ⟨e', h1, h2, h3⟩
      | true =>
        simp only [cond_true, List.mem_cons]
        have : (Nat.lor m (Nat.shiftLeft 1 e.on)).testBit j = (m.testBit j || decide (e.on = j)) := by
          show (m ||| _).testBit j = _
          rw [Nat.testBit_or, shl_bit]
        rw [this]
        simp only [Bool.or_eq_true, decide_eq_true_eq]
        constructor
        · rintro ((h | h) | ⟨e', h1, h2, h3⟩)
          · exact .inl h
          · exact .inr ⟨e, .inl rfl, hb, h⟩
          · exact .inr ⟨e', .inr h1, h2, h3⟩
        · rintro (h | ⟨e', h1 | h1, h2, h3⟩)
          · exact .inl (.inl h)
          · subst h1; exact .inl (.inr h3)
          · exact .inr ⟨e', h1, h2, h3⟩
  rw [key]
  simp

theorem land_mask (m k : Nat) : Nat.beq (Nat.land m k) k = true ↔ ∀ j, k.testBit j = true → m.testBit j = true := by
  constructor
  · intro h j hj
    have h := beqT h
    have : (m &&& k).testBit j = k.testBit j := by rw [show m &&& k = k from h]
    rw [Nat.testBit_and, hj] at this
    simpa using this
  · intro h
    have : Nat.land m k = k := by
      apply Nat.eq_of_testBit_eq
      intro j
      show (m &&& k).testBit j = _
      rw [Nat.testBit_and]
      cases hk : k.testBit j with
      | false => simp
      | true => rw [h j hk]; rfl
    rw [this]
    exact Nat.beq_refl k

theorem ready_iff {m : Nat} {listed : Array Bool} (hb : Bits ops.size m listed) {i : Nat} {o : Oper} (ho : ops[i]? = some o) :
    i ∈ Region.ready .any ops listed ↔ (⟨i, o, maskX o⟩ : RO) ∈ readyX (allR ops) m := by
  have hi : i < ops.size := getElem?_lt ho
  have hall : (⟨i, o, maskX o⟩ : RO) ∈ allR ops := by
    unfold allR
    rw [List.mem_map]
    refine ⟨(o, i), ?_, rfl⟩
    rw [List.mem_zipIdx_iff_getElem?]
    simpa using ho
  unfold Region.ready; rw [readyX_eq]
  rw [List.mem_filter, List.mem_filter, List.mem_range]
  have e1 : listed.getD i true = m.testBit i := by
    rw [← hb.2 i]
    have : i < listed.size := by rw [hb.1]; exact hi
    simp [Array.getD, this]
  have e2 : (((ops[i]?).map (·.after.all fun e => !Region.binds .any e || listed.getD e.on false)).getD false) = (Nat.beq (Nat.land m (maskX o)) (maskX o)) := by
    rw [ho, Option.map_some, Option.getD_some, Bool.eq_iff_iff, land_mask, Array.all_eq_true']
    constructor
    · intro h j hj
      obtain ⟨e, he, hbd, rfl⟩ := (mask_bits o j).1 hj
      have := h e (by simpa using he)
      rw [hbd, hb.2] at this
      simpa using this
    · intro h e he
      cases hbd : Region.binds .any e with
      | false => rfl
      | true =>
        have := h e.on ((mask_bits o e.on).2 ⟨e, by simpa using he, hbd, rfl⟩)
        rw [hb.2, this]
        rfl
  rw [e2, e1]
  constructor
  · rintro ⟨_, h⟩; exact ⟨hall, by simpa using h⟩
  · rintro ⟨_, h⟩; exact ⟨hi, by simpa using h⟩

theorem Bits.set {n m i : Nat} {listed : Array Bool} (h : Bits n m listed) (hi : i < n) : Bits n (Nat.lor m (Nat.shiftLeft 1 i)) (listed.setIfInBounds i true) := by
  refine ⟨by simpa using h.1, fun j => ?_⟩
  have e : (Nat.lor m (Nat.shiftLeft 1 i)).testBit j = (m.testBit j || decide (i = j)) := by
    show (m ||| _).testBit j = _
    rw [Nat.testBit_or, shl_bit]
  rw [e, ← h.2 j]
  have hs : i < listed.size := by rw [h.1]; exact hi
  simp only [Array.getD_eq_getD_getElem?, Array.getElem?_setIfInBounds]
  by_cases hij : i = j
  · subst hij; simp [hs]
  · simp [hij]

theorem ready_mem {listed : Array Bool} {i : Nat} (h : i ∈ Region.ready .any ops listed) : ∃ o, ops[i]? = some o := by
  unfold Region.ready at h
  rw [List.mem_filter, List.mem_range] at h
  exact ⟨_, Array.getElem?_eq_getElem h.1⟩

theorem allR_mem {r : RO} (h : r ∈ allR ops) : ops[r.i]? = some r.o ∧ r.mask = maskX r.o := by
  unfold allR at h
  rw [List.mem_map] at h
  obtain ⟨⟨o, i⟩, hm, rfl⟩ := h
  rw [List.mem_zipIdx_iff_getElem?] at hm
  exact ⟨by simpa using hm, rfl⟩

theorem ready_nil {m : Nat} {listed : Array Bool} (hb : Bits ops.size m listed) : Region.ready .any ops listed = [] ↔ readyX (allR ops) m = [] := by
  constructor
  · intro h
    cases hr : readyX (allR ops) m with
    | nil => rfl
    | cons r rs =>
      have hm : r ∈ readyX (allR ops) m := by rw [hr]; simp
      have hall : r ∈ allR ops := by rw [readyX_eq] at hm; exact (List.mem_filter.1 hm).1
      obtain ⟨h1, h2⟩ := allR_mem hall
      have : r = ⟨r.i, r.o, maskX r.o⟩ := by rw [← h2]
      rw [this] at hm
      have := (ready_iff hb h1).2 hm
      rw [h] at this
      cases this
  · intro h
    cases hr : Region.ready .any ops listed with
    | nil => rfl
    | cons i is =>
      have hm : i ∈ Region.ready .any ops listed := by rw [hr]; simp
      obtain ⟨o, ho⟩ := ready_mem hm
      have := (ready_iff hb ho).1 hm
      rw [h] at this
      cases this

theorem expand_spec {base : Nat} {x : Nat × St} {L : List (Nat × St)} (h : expandX c call ops (allR ops) base x = some L) :
    readyX (allR ops) x.1 ≠ [] ∧ ∀ r, r ∈ readyX (allR ops) x.1 → ∃ M, stepX c call ops (base + 2 * r.i) x.2 r.o = some M ∧ ∀ S', S' ∈ M → (Nat.lor x.1 (Nat.shiftLeft 1 r.i), S') ∈ L := by
  unfold expandX at h
  split at h
  · cases h
  · rename_i rs hne
    refine ⟨hne, fun r hr => ?_⟩
    obtain ⟨s, hs, hsub⟩ := mem_bindL h r hr
    rw [Option.map_eq_some_iff] at hs
    obtain ⟨M, hM, rfl⟩ := hs
    exact ⟨M, hM, fun S' hS' => hsub _ (List.mem_map.2 ⟨S', hS', rfl⟩)⟩

theorem expand_syn (hcall : CallSyn call) {base : Nat} {x : Nat × St} {L : List (Nat × St)} {S0 : St} {ds : List Nat} (hd : ∀ (i : Nat) (o : Oper), ops[i]? = some o → ∀ d, o.dst = some d → d ∈ ds)
    (h : expandX c call ops (allR ops) base x = some L) (hf : From S0 ds x.2) : ∀ y, y ∈ L → From S0 ds y.2 := by
  intro y hy
  unfold expandX at h
  split at h
  · cases h
  · obtain ⟨r, s, hr, hs, hm⟩ := mem_bindL' h y hy
    rw [Option.map_eq_some_iff] at hs
    obtain ⟨M, hM, rfl⟩ := hs
    obtain ⟨S', hS', rfl⟩ := List.mem_map.1 hm
    have hall : r ∈ allR ops := by rw [readyX_eq] at hr; exact (List.mem_filter.1 hr).1
    exact syn_stepX hcall hM (hd r.i r.o (allR_mem hall).1) hf S' hS'

theorem addX_from {ds : List Nat} {S0 : St} {x : Nat × St} (hx : From S0 ds x.2) : ∀ {l : List (Nat × St)}, (∀ y, y ∈ l → From S0 ds y.2) → ∀ y, y ∈ addX ds x l → From S0 ds y.2
  | [], _, y, hy => by simp [addX] at hy; subst hy; exact hx
  | z :: r, hl, y, hy => by
    unfold addX at hy
    rw [an_eq] at hy
    cases hb : (Nat.beq x.1 z.1 && sameX ds x.2 z.2) with
    | true => rw [hb] at hy; exact hl y hy
    | false =>
      rw [hb] at hy
      simp only [cond_false] at hy
      rcases List.mem_cons.1 hy with rfl | hy
      · exact hl _ (List.mem_cons_self ..)
      · exact addX_from hx (fun y hy => hl y (List.mem_cons_of_mem _ hy)) y hy

theorem foldl_from {ds : List Nat} {S0 : St} : ∀ (l acc : List (Nat × St)), (∀ y, y ∈ l → From S0 ds y.2) → (∀ y, y ∈ acc → From S0 ds y.2) → ∀ y, y ∈ l.foldl (fun acc x => addX ds x acc) acc → From S0 ds y.2
  | [], _, _, ha, y, hy => ha y hy
  | z :: r, acc, hl, ha, y, hy =>
    foldl_from r (addX ds z acc) (fun y hy => hl y (List.mem_cons_of_mem _ hy)) (addX_from (hl z (List.mem_cons_self ..)) ha) y hy

theorem bfsX_sound (hcall : CallOk c F call) (hsyn : CallSyn call) {S0 : St} {ds : List Nat} {base : Nat} (hd : ∀ (i : Nat) (o : Oper), ops[i]? = some o → ∀ d, o.dst = some d → d ∈ ds) :
    ∀ (n : Nat) (l : List (Nat × St)) (R : List St), bfsX c call ops (allR ops) ds base n l = some R → (∀ x, x ∈ l → From S0 ds x.2) →
      (∀ S', S' ∈ R → From S0 ds S') ∧
      ∀ x, x ∈ l → ∀ (listed : Array Bool) (ρ : Env) (a : Act) (w : World), Bits ops.size x.1 listed → SatH c F ρ x.2 w → SatT c ρ x.2 a →
        (∀ S', S' ∈ R → ∀ ρ' a' w', Le ρ ρ' → SatH c F ρ' S' w' → SatT c ρ' S' a' → Q .normal a' w') → wpAny c.P .any ops Q n listed a w
  | 0, l, R, h, hf => by
    unfold bfsX at h
    obtain ⟨hall, h⟩ := bif_none h
    simp only [Option.some.injEq] at h
    subst h
    refine ⟨fun S' hS' => ?_, fun x hx listed ρ a w hb hs ht hK => ?_⟩
    · obtain ⟨x, hx, rfl⟩ := List.mem_map.1 hS'
      exact hf x hx
    · have hr : readyX (allR ops) x.1 = [] := by
        rw [List.all_eq_true] at hall
        have := hall x hx
        split at this
        · assumption
        · cases this
      exact ⟨(ready_nil hb).2 hr, hK x.2 (List.mem_map.2 ⟨x, hx, rfl⟩) ρ a w (Le.refl ρ) hs ht⟩
  | n + 1, l, R, h, hf => by
    unfold bfsX at h
    rw [Option.bind_eq_some_iff] at h
    obtain ⟨L, hL, h⟩ := h
    have hLf : ∀ y, y ∈ L → From S0 ds y.2 := by
      intro y hy
      obtain ⟨x, s, hx, hs, hm⟩ := mem_bindL' hL y hy
      exact expand_syn hsyn hd hs (hf x hx) y hm
    have hff := foldl_from (ds := ds) (S0 := S0) L [] hLf (fun y hy => by cases hy)
    obtain ⟨ih1, ih2⟩ := bfsX_sound hcall hsyn hd n _ R h hff
    refine ⟨ih1, fun x hx listed ρ a w hb hs ht hK => ?_⟩
    obtain ⟨s, hsx, hsub⟩ := mem_bindL hL x hx
    obtain ⟨hne, hexp⟩ := expand_spec hsx
    refine ⟨fun hr => absurd ((ready_nil hb).1 hr) hne, fun i hi => ?_⟩
    obtain ⟨o, ho⟩ := ready_mem hi
    obtain ⟨M, hM, hMs⟩ := hexp _ ((ready_iff hb ho).1 hi)
    refine wpOp_of ho (stepX_sound (ds := ds) hcall hs ht hM (hd i o ho) ?_)
    intro S' hS' ρ' a' w' hle hs' ht' _ _ _
    have hin : (Nat.lor x.1 (Nat.shiftLeft 1 i), S') ∈ L := hsub _ (hMs S' hS')
    obtain ⟨y, hy, hyx⟩ := (foldl_add (ds := ds) L []).2 _ hin
    have hb' := hb.set (getElem?_lt ho)
    have fin : y.1 = Nat.lor x.1 (Nat.shiftLeft 1 i) → SatH c F ρ' y.2 w' → SatT c ρ' y.2 a' → wpAny c.P .any ops Q n (listed.setIfInBounds i true) a' w' := by
      intro e1 e2 e3
      exact ih2 y hy (listed.setIfInBounds i true) ρ' a' w' (by rw [e1]; exact hb') e2 e3 (fun S'' hS'' ρ'' a'' w'' hle2 => hK S'' hS'' ρ'' a'' w'' (hle.trans hle2))
    rcases hyx with rfl | ⟨e1, _, e3⟩
    · exact fin rfl hs' ht'
    · have := sameX_spec (S0 := S0) e3 (hLf _ hin) (hff y hy) hs' ht'
      exact fin e1 this.1 this.2
end
end Go.Proofs.YtmmcdfmlpfjlhaaGreatDoor.Sx
