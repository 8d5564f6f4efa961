/- Symbolic execution: every operation that the executor takes. -/
import Derived.Test.YtobghgfmdjknlaaSxCall
namespace Go.Proofs.Ytobghgfmdjknlaa.Sx
open Go
set_option linter.unusedSectionVars false

section
variable {c : Cfg} {F : Wd} [COk c]
variable {o : Oper} {a : Act} {w : World} {next : Act → World → Prop} {Q : Exit → Act → World → Prop} {call : CallX}

theorem semPrim_scalar_run {p : Prim} {ys : List Value} {x : Value} (h : semPrim c.P p ys = some x) (s : Sem Value) (hs : semPrim c.P p ys = pureRun c.P s) : s.run c.P w = .ok x w := by
  rw [hs] at h; exact pureRun_run h w

theorem fill_spec {ρ : Env} {place : Nat → Option (Nat × Nat)} : ∀ {ps : List (Nat × List V)} {qs : List (Nat × Value)} {cells cells' : List V} {xs : List Value},
    fillV place cells ps = some cells' → denL c.P c.Φ ρ cells = some xs → All2 (fun p q => p.1 = q.1 ∧ denL c.P c.Φ ρ p.2 = some q.2.cells.toList) ps qs →
    ∃ ys, denL c.P c.Φ ρ cells' = some ys ∧ Instr.fill place xs.toArray qs = some ys.toArray := by
  intro ps
  induction ps with
  | nil =>
    intro qs cells cells' xs h hc hq
    cases hq
    simp only [fillV, Option.some.injEq] at h
    subst h
    exact ⟨xs, hc, rfl⟩
  | cons p r ih =>
    intro qs cells cells' xs h hc hq
    obtain ⟨i, cs⟩ := p
    cases hq with
    | cons hpq hrest =>
      rename_i q qs
      obtain ⟨j, v⟩ := q
      obtain ⟨rfl, hv⟩ := hpq
      simp only [fillV, Option.bind_eq_some_iff] at h
      obtain ⟨⟨off, size⟩, hpl, h⟩ := h
      replace h := bif_none h
      obtain ⟨hg, h⟩ := h
      simp only [Bool.and_eq_true] at hg
      obtain ⟨g1, g2⟩ := hg
      have g1 := beqT g1
      have g2 := bleT g2
      have hlv := denL_length hv
      have hlc := denL_length hc
      have hsz : v.cells.size = cs.length := by rw [← hlv]; simp
      have hxs : xs.toArray.size = cells.length := by simp [hlc]
      obtain ⟨ys, hy, hf⟩ := ih h (denL_replaceAt off hc hv) hrest
      refine ⟨ys, hy, ?_⟩
      simp only [Instr.fill, hpl]
      rw [if_neg (by
        simp only [Bool.or_eq_true, decide_eq_true_eq, ne_eq]
        rw [hsz, hxs]
        omega)]
      rw [← hf]
      congr 1
      -- the cells laid one after the other
      have key : ∀ (vs : List Value) (k : Nat) (zs : List Value), off + k + vs.length ≤ zs.length →
          (vs.zipIdx k).foldl (fun (cs : Array Value) (x : Value × Nat) => cs.setIfInBounds (off + x.2) x.1) zs.toArray = (zs.take (off + k) ++ vs ++ zs.drop (off + k + vs.length)).toArray := by
        intro vs
        induction vs with
        | nil => intro k zs _; simp
        | cons u us ihu =>
          intro k zs hk
          simp only [List.length_cons] at hk
          simp only [List.zipIdx_cons, List.foldl_cons]
          have hset : zs.toArray.setIfInBounds (off + k) u = (zs.set (off + k) u).toArray := by simp
          rw [hset, ihu (k + 1) _ (by simp; omega)]
          have hlt : off + k < zs.length := by omega
          have hcat : zs.set (off + k) u = zs.take (off + k) ++ u :: zs.drop (off + k + 1) := by
            rw [List.set_eq_take_append_cons_drop, if_pos hlt]
          have hlen : (zs.take (off + k)).length = off + k := by simp; omega
          have e1 : (zs.set (off + k) u).take (off + (k + 1)) = zs.take (off + k) ++ [u] := by
            rw [hcat, ← Nat.add_assoc, List.take_append, hlen, List.take_of_length_le (by rw [hlen]; omega)]
            simp
          have e2 : (zs.set (off + k) u).drop (off + (k + 1) + us.length) = zs.drop (off + k + (u :: us).length) := by
            rw [List.drop_set_of_lt (by omega)]
            congr 1
            simp; omega
          rw [e1, e2]
          simp
      have := key v.cells.toList 0 xs (by simp; omega)
      simp only [Nat.add_zero] at this
      rw [← Array.foldl_toList, Array.toList_zipIdx]
      rw [this]
      simp [hlv]

theorem partsV_spec {ρ : Env} {S : St} (hs : SatH c F ρ S w) (ht : SatT c ρ S a) : ∀ {xs : List (Nat × Operand)} {ps : List (Nat × List V)}, partsV S xs = some ps →
    All2 (fun p q => p.1 = q.1 ∧ denL c.P c.Φ ρ p.2 = some q.2.cells.toList) ps (xs.map fun (i, x) => (i, a.eval x))
  | [], ps, h => by simp only [partsV, Option.some.injEq] at h; subst h; exact .nil
  | (i, x) :: r, ps, h => by
    simp only [partsV, Option.bind_eq_some_iff, Option.map_eq_some_iff] at h
    obtain ⟨v, hv, cs, hc, l, hl, rfl⟩ := h
    exact .cons ⟨rfl, cellsV_den hs.sca hc (eval_den ht hv)⟩ (partsV_spec hs ht hl)
end
end Go.Proofs.Ytobghgfmdjknlaa.Sx
