/- Symbolic execution: what was made is forgotten where nothing speaks of it. -/
import Derived.Test.YtobghgfmdjknlaaSxAny
namespace Go.Proofs.Ytobghgfmdjknlaa.Sx
open Go
set_option linter.unusedSectionVars false

section
variable {c : Cfg} {F : Wd} {ρ ρ' : Env} {S S' : St} {w w' : World}

theorem has_some {h : Tr Ent} {n : Nat} (hn : has h n = true) : ∃ e, h.get n = some e := by
  unfold has at hn
  split at hn
  · exact ⟨_, ‹_›⟩
  · cases hn

theorem D_free {P : Program} {Φ : Nat → List Value → Option Value} {h : Tr Ent} (hag : ∀ n, has h n = true → ρ' n = ρ n) : ∀ {v : V}, freeV h v = true → D P Φ ρ' v = D P Φ ρ v := by
  intro v
  induction v with
  | k x => intro _; rfl
  | var n => intro hf; simp only [D, hag n hf]
  | prim p a ih => intro hf; simp only [D, ih hf]
  | app p a ih => intro hf; simp only [D, ih hf]
  | ptr n off => intro hf; simp only [D, hag n hf]
  | map n => intro hf; simp only [D, hag n hf]
  | slice n off l c ihl ihc =>
    intro hf
    simp only [freeV, an_eq, Bool.and_eq_true] at hf
    simp only [D, hag n hf.1, ihl hf.2.1, ihc hf.2.2]
  | func fn f c ihf ihc =>
    intro hf
    simp only [freeV, an_eq, Bool.and_eq_true] at hf
    simp only [D, ihf hf.1, ihc hf.2]
  | iface t v ih => intro hf; simp only [D, ih hf]
  | agg l ih => intro hf; simp only [D, ih hf]
  | tup l ih => intro hf; simp only [D, ih hf]
  | nil => intro _; rfl
  | cons a b iha ihb =>
    intro hf
    simp only [freeV, an_eq, Bool.and_eq_true] at hf
    simp only [D, iha hf.1, ihb hf.2]
theorem den_free {P : Program} {Φ : Nat → List Value → Option Value} {h : Tr Ent} (hag : ∀ n, has h n = true → ρ' n = ρ n) {v : V} (hf : freeV h v = true) : den P Φ ρ' v = den P Φ ρ v := by
  unfold den; rw [D_free hag hf]

theorem ent_def {n : Nat} {e : Ent} (h : EntOk c ρ w n e) : ∃ x, ρ n = some x := by
  have bl : ∀ {b : Nat}, blockOf (ρ n) = some b → ∃ x, ρ n = some x := by
    intro b hb
    cases hx : ρ n with
    | none => rw [hx] at hb; cases hb
    | some x => exact ⟨x, rfl⟩
  cases e with
  | blk cells T m => obtain ⟨b, _, _, hb, _⟩ := h; exact bl hb
  | map es clock => obtain ⟨b, _, hb, _⟩ := h; exact bl hb
  | dead => exact h
  | val ty => obtain ⟨x, hx, _⟩ := h; exact ⟨x, hx⟩

theorem agree (hs : SatH c F ρ S w) (hl : Le ρ ρ') : ∀ n, has S.heap n = true → ρ' n = ρ n := by
  intro n hn
  obtain ⟨e, he⟩ := has_some hn
  obtain ⟨x, hx⟩ := ent_def (hs.ents n e he)
  rw [hx, hl n x hx]

theorem ent_back {n : Nat} {e : Ent} (hl : Le ρ ρ') (h1 : EntOk c ρ w n e) (h2 : EntOk c ρ' w' n e) : EntOk c ρ w' n e := by
  cases e with
  | blk cells T m =>
    obtain ⟨b, xs, tail, hb, hc, hh, hm⟩ := h1
    obtain ⟨b', xs', tail', hb', hc', hh', hm'⟩ := h2
    rw [hl.blockOf hb] at hb'; cases hb'
    rw [denL_mono hl hc] at hc'; cases hc'
    refine ⟨b, xs, tail', hb, hc, hh', ?_⟩
    cases m with
    | none => exact hm'
    | some p =>
      obtain ⟨k, h3, _⟩ := hm
      obtain ⟨k', h3', h4'⟩ := hm'
      rw [hl _ _ h3] at h3'
      cases h3'
      exact ⟨k, h3, h4'⟩
  | map es clock =>
    obtain ⟨b, xs, hb, hc, hh⟩ := h1
    obtain ⟨b', xs', hb', hc', hh'⟩ := h2
    rw [hl.blockOf hb] at hb'; cases hb'
    rw [denE_mono hl hc] at hc'; cases hc'
    exact ⟨b, xs, hb, hc, hh'⟩
  | dead => exact h1
  | val ty => exact h1

/-- The state from before holds behind, too, with what was learned that speaks of it alone. -/
theorem SatH.back (hs : SatH c F ρ S w) (hl : Le ρ ρ') (hs' : SatH c F ρ' S' w') (hh : ∀ n e, S.heap.get n = some e → S'.heap.get n = some e) {p : List (V × Bool)}
    (hp : ∀ f, f ∈ p → den c.P c.Φ ρ f.1 = some (.bool f.2)) : SatH c F ρ (withPc S p) w' := by
  refine ⟨?_, hs.dom, hs.sca, hs.inj, hs'.fr, hs'.size, hs.frn, hs'.os, hs'.out, hs'.tape, hp⟩
  intro n e he
  exact ent_back hl (hs.ents n e he) (hs'.ents n e (hh n e he))

theorem gcOk_heap {v : V} (h : gcOk S S' v = true) (hu : Unch (S.withLog []) S') : freeV S.heap v = true ∧ ∀ n e, S.heap.get n = some e → S'.heap.get n = some e := by
  unfold gcOk at h
  rw [an_eq, Bool.and_eq_true, eachR_eq, List.all_eq_true] at h
  refine ⟨h.1, fun n e he => ?_⟩
  by_cases hn : n ∈ S'.log
  · have := h.2 n hn
    rw [he] at this
    exact (Ent.eq_eq this).symm
  · rw [hu.2 n hn]; exact he

theorem dedupV_mem : ∀ {l : List V} {v : V}, v ∈ l → v ∈ dedupV l
  | u :: r, v, h => by
    unfold dedupV
    cases hb : (dedupV r).any (V.eq u) with
    | true =>
      simp only [cond_true]
      rcases List.mem_cons.1 h with rfl | h
      · rw [List.any_eq_true] at hb
        obtain ⟨x, hx, he⟩ := hb
        rw [V.eq_eq he]; exact hx
      · exact dedupV_mem h
    | false =>
      simp only [cond_false]
      rcases List.mem_cons.1 h with rfl | h
      · exact List.mem_cons_self ..
      · exact List.mem_cons_of_mem _ (dedupV_mem h)

/-- Whatever the leaves say, those that are left say, too. -/
theorem gcL_ok {drop : Bool} {l : List (Exit × V × St)} (hs : SatH c F ρ S w) (hu : ∀ x, x ∈ l → Unch (S.withLog []) x.2.2) {K : Value → World → Prop}
    (hK : ∀ e v T, (e, v, T) ∈ gcL drop S l → ∀ ρ' w' x, Le ρ ρ' → SatH c F ρ' T w' → den c.P c.Φ ρ' v = some x → K x w') :
    ∀ e v T, (e, v, T) ∈ l → ∀ ρ' w' x, Le ρ ρ' → SatH c F ρ' T w' → den c.P c.Φ ρ' v = some x → K x w' := by
  intro e v T hm ρ' w' x hle hs' hx
  have back : gcOk S T v = true → ∀ p : List (V × Bool), (∀ f, f ∈ p → f ∈ S.pc ∨ (f ∈ T.pc ∧ freeV S.heap f.1 = true)) → SatH c F ρ (withPc S p) w' ∧ den c.P c.Φ ρ v = some x := by
    intro hg p hp
    obtain ⟨h1, h2⟩ := gcOk_heap hg (hu _ hm)
    refine ⟨hs.back hle hs' h2 ?_, by rw [← den_free (agree hs hle) h1]; exact hx⟩
    intro f hf
    rcases hp f hf with h | ⟨h, hfr⟩
    · exact hs.pc f h
    · rw [← den_free (agree hs hle) hfr]
      exact hs'.pc f h
  unfold gcL at hK
  cases hb : (drop && l.all fun x => gcOk S x.2.2 x.2.1) with
  | true =>
    rw [hb] at hK
    rw [Bool.and_eq_true, List.all_eq_true] at hb
    have hg : gcOk S T v = true := hb.2 _ hm
    obtain ⟨h1, h2⟩ := back hg S.pc (fun f hf => .inl hf)
    have : (Exit.ret, v, S) ∈ (dedupV (l.map (·.2.1))).map fun v => (Exit.ret, v, S) :=
      List.mem_map.2 ⟨v, dedupV_mem (List.mem_map.2 ⟨_, hm, rfl⟩), rfl⟩
    exact hK .ret v S this ρ w' x (Le.refl ρ) (h1.congr rfl rfl) h2
  | false =>
    rw [hb] at hK
    simp only [cond_false] at hK
    have hmm := List.mem_map_of_mem (f := fun (x : Exit × V × St) => bif gcOk S x.2.2 x.2.1 then (Exit.ret, x.2.1, withPc S (x.2.2.pc.filter fun f => freeV S.heap f.1)) else (Exit.ret, x.2.1, x.2.2.withLog (x.2.2.log ++ S.log))) hm
    cases hg : gcOk S T v with
    | true =>
      simp only [hg, cond_true] at hmm
      obtain ⟨h1, h2⟩ := back hg (T.pc.filter fun f => freeV S.heap f.1) (fun f hf => by rw [List.mem_filter] at hf; exact .inr hf)
      exact hK _ _ _ hmm ρ w' x (Le.refl ρ) h1 h2
    | false =>
      simp only [hg, cond_false] at hmm
      exact hK _ _ _ hmm ρ' w' x hle (hs'.congr rfl rfl) hx

theorem gcL_syn {drop : Bool} {l : List (Exit × V × St)} (hu : ∀ x, x ∈ l → Syn (S.withLog []) x.2.2) : ∀ e v T, (e, v, T) ∈ gcL drop S l → Syn S T := by
  intro e v T hm
  unfold gcL at hm
  cases hb : (drop && l.all fun x => gcOk S x.2.2 x.2.1) with
  | true =>
    rw [hb] at hm
    simp only [cond_true] at hm
    obtain ⟨u, _, he⟩ := List.mem_map.1 hm
    simp only [Prod.mk.injEq] at he
    obtain ⟨_, _, rfl⟩ := he
    exact .refl S
  | false =>
    rw [hb] at hm
    simp only [cond_false] at hm
    obtain ⟨x, hx, he⟩ := List.mem_map.1 hm
    cases hg : gcOk S x.2.2 x.2.1 with
    | true =>
      simp only [hg, cond_true, Prod.mk.injEq] at he
      obtain ⟨_, _, rfl⟩ := he
      exact ⟨rfl, rfl, fun n hn => hn, fun n _ => rfl⟩
    | false =>
      simp only [hg, cond_false, Prod.mk.injEq] at he
      obtain ⟨_, _, rfl⟩ := he
      obtain ⟨h1, h2, h3, h4⟩ := hu x hx
      refine ⟨h1, h2, fun n hn => List.mem_append_right _ hn, fun n hn => ?_⟩
      exact h4 n (fun e => hn (List.mem_append_left _ e))
end
end Go.Proofs.Ytobghgfmdjknlaa.Sx
