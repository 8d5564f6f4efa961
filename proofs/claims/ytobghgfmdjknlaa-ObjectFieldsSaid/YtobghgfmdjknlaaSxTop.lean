/- Symbolic execution: from a run of the executor to a contract. -/
import Derived.Test.YtobghgfmdjknlaaSxExec
import Derived.Below
namespace Go.Proofs.Ytobghgfmdjknlaa.Sx
open Go Go.RowKit
set_option linter.unusedSectionVars false

/-- The state in which a call begins of which nothing is known but its arguments. -/
noncomputable def St0 : St := ⟨.leaf, 0, .leaf, 0, [], []⟩

section
variable {c : Cfg} [COk c]

def wd (w : World) : Wd := ⟨w, fun b => b < w.heap.size⟩

theorem sat0 (w : World) : SatH c (wd w) (fun _ => none) St0 w where
  ents := fun _ _ h => by cases h
  dom := fun _ _ => rfl
  sca := fun _ _ h => by cases h
  inj := fun _ _ _ ⟨_, h, _⟩ => by cases h
  fr := fun _ h => ⟨rfl, h⟩
  size := Nat.le_refl _
  frn := fun _ _ ⟨_, h, _⟩ => by cases h
  os := rfl
  out := rfl
  tape := rfl
  pc := fun _ h => by cases h

theorem SatH.below {ρ : Env} {S : St} {w w' : World} (h : SatH c (wd w) ρ S w') : Below w.heap.size w w' :=
  ⟨h.os, h.tape, h.out, h.size, fun k hk => (h.fr k hk).1⟩

/-- All that a run comes to is one value that is known. -/
noncomputable def leadsTo (r : Value) (L : Option (List (Exit × V × St))) : Bool := match L with
  | some l => l.all fun x => match x.2.1 with | .k y => kEq y r | _ => false
  | none => false

theorem FOk.wd {w : World} (hi : c.inv w) (hl : ∀ b, b < c.low → b < w.heap.size) : FOk c (wd w) := ⟨hi, hl⟩
/-- The summaries tell the truth, wherever what is asked of the world is so. -/
class SAll (c : Cfg) : Prop where
  ok : ∀ F, FOk c F → SOk c F
theorem closed_call [s : SAll c] {n : Nat} {f : FuncId} {args : List Value} {r : Value} (h : leadsTo r (exec c n (.call f (args.map V.k)) St0) = true) (w : World) (hi : c.inv w) (hl : ∀ b, b < c.low → b < w.heap.size) :
    Calls c.P f args.toArray w fun e w' => e = .returned r ∧ Below w.heap.size w w' := by
  haveI := s.ok (wd w) (FOk.wd hi hl)
  unfold leadsTo at h
  split at h
  · rename_i L hL
    rw [List.all_eq_true] at h
    refine (exec_ok (c := c) (F := wd w) n).call f _ St0 L hL (fun _ => none) w args (sat0 w) (denL_ks args) (fun x w' => x = r ∧ Below w.heap.size w w') ?_ _ (fun x w' hx => ⟨by rw [hx.1], hx.2⟩)
    intro e v S' hm ρ' w' x _ hs hx
    have := h _ hm
    simp only at this
    split at this
    · rename_i y
      simp only [den_k, Option.some.injEq] at hx
      subst hx
      exact ⟨kEq_eq this, hs.below⟩
    · cases this
  · cases h

/-! ### A summary out of a contract -/
/-- The world has grown alone. -/
theorem SatH.grows {F : Wd} {ρ : Env} {S : St} {w w' : World} (h : SatH c F ρ S w) (hb : Below w.heap.size w w') : SatH c F ρ S w' := by
  refine ⟨fun n e he => ?_, h.dom, h.sca, h.inj, fun b hfr => ?_, Nat.le_trans h.size hb.size, h.frn, hb.os.trans h.os, hb.output.trans h.out, hb.tape.trans h.tape, h.pc⟩
  · refine (h.ents n e he).mono (Le.refl ρ) ?_
    intro ho b hbk
    exact hb.block b (h.lives ⟨e, he, ho⟩ hbk)
  · obtain ⟨h1, h2⟩ := h.fr b hfr
    exact ⟨by rw [hb.block b (Nat.lt_of_lt_of_le h2 h.size)]; exact h1, h2⟩

/-- The calls of a function that are known: its arguments, and what comes back. -/
noncomputable def tableX (c : Cfg) (rows : List (List Value × Value)) : St → List V → Option (List (V × St)) := fun S args =>
  (groundL c args).bind fun xs => (rows.find? fun r => Nat.beq r.1.length xs.length && (r.1.zip xs).all fun p => kEq p.1 p.2).map fun r => [(.k r.2, S)]

theorem zip_eq : ∀ {l m : List Value}, l.length = m.length → (l.zip m).all (fun p => kEq p.1 p.2) = true → l = m
  | [], [], _, _ => rfl
  | a :: l, b :: m, hl, h => by
    simp only [List.zip_cons_cons, List.all_cons, Bool.and_eq_true] at h
    rw [kEq_eq h.1, zip_eq (by simpa using hl) h.2]

theorem groundL_P {c0 c : Cfg} (h : c0.P = c.P) : ∀ l, groundL c0 l = groundL c l
  | [] => rfl
  | v :: r => by
    unfold groundL ground
    rw [h, groundL_P h r]

theorem tableX_ok {c0 : Cfg} (hP : c0.P = c.P) {F : Wd} {f : FuncId} {rows : List (List Value × Value)} (hrows : ∀ r, r ∈ rows → ∀ w, Calls c.P f r.1.toArray w fun e w' => e = .returned r.2 ∧ Below w.heap.size w w')
    {S : St} {args : List V} {L : List (V × St)} (h : tableX c0 rows S args = some L) : (∀ v S', (v, S') ∈ L → Unch S S') ∧
    ∀ ρ w vals, SatH c F ρ S w → denL c.P c.Φ ρ args = some vals → ∀ K : Value → World → Prop,
      (∀ v S', (v, S') ∈ L → ∀ ρ' w' x, Le ρ ρ' → SatH c F ρ' S' w' → den c.P c.Φ ρ' v = some x → K x w') →
      ∀ R : Ending → World → Prop, (∀ x w, K x w → R (.returned x) w) → Calls c.P f vals.toArray w R := by
  unfold tableX at h
  rw [Option.bind_eq_some_iff] at h
  obtain ⟨xs, hxs, h⟩ := h
  rw [groundL_P hP] at hxs
  rw [Option.map_eq_some_iff] at h
  obtain ⟨r, hr, rfl⟩ := h
  have hp := List.find?_some hr
  have hmem := List.mem_of_find?_eq_some hr
  simp only [Bool.and_eq_true] at hp
  have heq : r.1 = xs := zip_eq (beqT hp.1) hp.2
  refine ⟨fun v S' hm => ?_, fun ρ w vals hs hv K hK R hR => ?_⟩
  · simp only [List.mem_singleton, Prod.mk.injEq] at hm
    obtain ⟨_, rfl⟩ := hm
    exact .refl _
  · rw [groundL_den hxs] at hv
    simp only [Option.some.injEq] at hv
    subst hv
    rw [← heq]
    refine (hrows r hmem w).mono ?_
    rintro e w' ⟨rfl, hb⟩
    exact hR _ _ (hK (.k r.2) S (by simp) ρ w' r.2 (Le.refl ρ) (hs.grows hb) rfl)

/-- Summaries out of calls that are known. -/
noncomputable def tableSum (c0 : Cfg) (rows : List (FuncId × List Value × Value)) : FuncId → Option (St → List V → Option (List (V × St))) := fun f =>
  bif rows.any (fun r => Nat.beq r.1 f) then some (tableX c0 ((rows.filter fun r => Nat.beq r.1 f).map (·.2))) else none

theorem tableSum_ok {c0 : Cfg} (hP : c0.P = c.P) {rows : List (FuncId × List Value × Value)} (hsum : c.sum = tableSum c0 rows)
    (hrows : ∀ r, r ∈ rows → ∀ w, Calls c.P r.1 r.2.1.toArray w fun e w' => e = .returned r.2.2 ∧ Below w.heap.size w w') (F : Wd) : SOk c F := ⟨fun f tr h S args L hL => by
  rw [hsum] at h
  unfold tableSum at h
  replace h := bif_some h
  rcases h with ⟨hb, h⟩ | ⟨_, h⟩
  · simp only [Option.some.injEq] at h
    subst h
    refine tableX_ok (c := c) hP ?_ hL
    intro r hr w
    rw [List.mem_map] at hr
    obtain ⟨r', hr', rfl⟩ := hr
    rw [List.mem_filter] at hr'
    obtain rfl := beqT hr'.2
    exact hrows r' hr'.1 w
  · cases h⟩

/-- A summary that tells the truth of a function. -/
def TrOk (c : Cfg) (F : Wd) (f : FuncId) (tr : St → List V → Option (List (V × St))) : Prop := ∀ S args L, tr S args = some L → (∀ v S', (v, S') ∈ L → Unch S S') ∧
    ∀ ρ w vals, SatH c F ρ S w → denL c.P c.Φ ρ args = some vals → ∀ K : Value → World → Prop,
      (∀ v S', (v, S') ∈ L → ∀ ρ' w' x, Le ρ ρ' → SatH c F ρ' S' w' → den c.P c.Φ ρ' v = some x → K x w') →
      ∀ R : Ending → World → Prop, (∀ x w, K x w → R (.returned x) w) → Calls c.P f vals.toArray w R

noncomputable def sumL : List (FuncId × (St → List V → Option (List (V × St)))) → FuncId → Option (St → List V → Option (List (V × St)))
  | [], _ => none
  | (g, tr) :: r, f => bif Nat.beq g f then some tr else sumL r f

theorem sumL_ok {F : Wd} {l : List (FuncId × (St → List V → Option (List (V × St))))} (hsum : c.sum = sumL l) (h : ∀ x, x ∈ l → TrOk c F x.1 x.2) : SOk c F := ⟨by
  rw [hsum]
  intro f tr htr
  induction l generalizing c with
  | nil => cases htr
  | cons x r ih =>
    obtain ⟨g, t⟩ := x
    unfold sumL at htr
    replace htr := bif_some htr
    rcases htr with ⟨hb, htr⟩ | ⟨_, htr⟩
    · obtain rfl := beqT hb
      simp only [Option.some.injEq] at htr
      subst htr
      exact h _ (List.mem_cons_self ..)
    · have key : ∀ (m : List (FuncId × (St → List V → Option (List (V × St))))), (∀ x, x ∈ m → TrOk c F x.1 x.2) → sumL m f = some tr → TrOk c F f tr := by
        intro m
        induction m with
        | nil => intro _ h; cases h
        | cons y m ihm =>
          intro hm hs
          obtain ⟨g', t'⟩ := y
          unfold sumL at hs
          replace hs := bif_some hs
          rcases hs with ⟨hb, hs⟩ | ⟨_, hs⟩
          · obtain rfl := beqT hb
            simp only [Option.some.injEq] at hs
            subst hs
            exact hm _ (List.mem_cons_self ..)
          · exact ihm (fun x hx => hm x (List.mem_cons_of_mem _ hx)) hs
      exact key r (fun x hx => h x (List.mem_cons_of_mem _ hx)) htr⟩

theorem table_tr {c0 : Cfg} (hP : c0.P = c.P) {F : Wd} {f : FuncId} {rows : List (List Value × Value)} (hrows : ∀ r, r ∈ rows → ∀ w, Calls c.P f r.1.toArray w fun e w' => e = .returned r.2 ∧ Below w.heap.size w w') : TrOk c F f (tableX c0 rows) :=
  fun _ _ _ h => tableX_ok hP hrows h
end
end Go.Proofs.Ytobghgfmdjknlaa.Sx
