/- Symbolic execution: strings.Join: a summary out of the shelf's contract. -/
import Derived.Test.YtmmcdfmlpfjlhaaGreatDoorSxLem
import Derived.Lib.Join
namespace Go.Proofs.YtmmcdfmlpfjlhaaGreatDoor.Sx
open Go Go.RowKit
set_option linter.unusedSectionVars false

noncomputable section
def strsL : List V → Option (List ByteArray)
  | [] => some []
  | .k (.string s) :: r => (strsL r).map fun l => s :: l
  | _ => none
def joinX : St → List V → Option (List (V × St)) := fun S args => match args with
  | [.slice n off l c, .k (.string sep)] => (lenNat l).bind fun len => (lenNat c).bind fun cap => (S.look n).bind fun e => match e with
    | .blk cells _ _ => (strsL ((cells.drop off).take len)).bind fun ss =>
      let r := Lib.join (ss.map (·.data.toList)) sep.data.toList
      bif Nat.beq ss.length len && Nat.ble len cap && Nat.ble len 100000 && Nat.ble r.length 100000 then some [(.k (.string ⟨r.toArray⟩), S)] else none
    | _ => none
  | _ => none
end

def Joins (P : Program) (f : FuncId) : Prop := ∀ (bk o c : Nat) (xs : List ByteArray) (sep : ByteArray) (w : World), (∀ (j : Nat) x, xs[j]? = some x → w.cell? ⟨bk, o + j, none⟩ = some (.string x)) → bk < w.heap.size → xs.length ≤ 140737488355328 → xs.length ≤ c →
  (Lib.join (xs.map (·.data.toList)) sep.data.toList).length ≤ 140737488355328 →
  Calls P f #[.slice (some ⟨bk, o, none⟩) xs.length c, .string sep] w fun e w' => e = .returned (.string ⟨(Lib.join (xs.map (·.data.toList)) sep.data.toList).toArray⟩) ∧ Below w.heap.size w w'

section
variable {c : Cfg} {F : Wd} [COk c]
theorem strsL_den {ρ : Env} : ∀ {l : List V} {ss : List ByteArray}, strsL l = some ss → denL c.P c.Φ ρ l = some (ss.map Value.string)
  | [], ss, h => by simp only [strsL, Option.some.injEq] at h; subst h; rfl
  | v :: r, ss, h => by
    unfold strsL at h
    split at h
    · cases ‹_ :: _ = []›
    · rename_i heq
      simp only [List.cons.injEq] at heq
      obtain ⟨rfl, rfl⟩ := heq
      rw [Option.map_eq_some_iff] at h
      obtain ⟨l, hl, rfl⟩ := h
      simp [denL, den_k, strsL_den hl]
    · cases h

theorem join_tr {f : FuncId} (hj : Joins c.P f) : TrOk c F f joinX := by
  intro S args L h
  unfold joinX at h
  split at h
  case h_2 => cases h
  rename_i n off l cp sep
  simp only [Option.bind_eq_some_iff] at h
  obtain ⟨len, hlen, cap, hcap, e, he, h⟩ := h
  split at h
  case h_2 => cases h
  rename_i cells T more
  simp only [Option.bind_eq_some_iff] at h
  obtain ⟨ss, hss, h⟩ := h
  obtain ⟨hg, h⟩ := bif_none h
  simp only [Option.some.injEq] at h
  subst h
  simp only [Bool.and_eq_true] at hg
  obtain ⟨⟨⟨g1, g2⟩, g3⟩, g4⟩ := hg
  have g1 := beqT g1
  have g2 := bleT g2
  have g3 := bleT g3
  have g4 := bleT g4
  refine ⟨fun v S' hm => ?_, fun ρ w vals hs hv K hK R hR => ?_⟩
  · simp only [List.mem_singleton, Prod.mk.injEq] at hm
    obtain ⟨_, rfl⟩ := hm
    exact .refl _
  · simp only [denL, Option.bind_eq_some_iff, Option.map_eq_some_iff] at hv
    obtain ⟨x1, hx1, ys, ⟨x2, hx2, zs, hz, rfl⟩, rfl⟩ := hv
    simp only [Option.some.injEq] at hz; subst hz
    simp only [den_k, Option.some.injEq] at hx2; subst hx2
    obtain ⟨b, l', k', hb, hl', hk', rfl⟩ := den_slice_inv hx1
    obtain ⟨rfl, hlD⟩ := lenNat_D (c := c) ρ hlen
    obtain ⟨rfl, hcD⟩ := lenNat_D (c := c) ρ hcap
    rw [hlD] at hl'; cases hl'
    rw [hcD] at hk'; cases hk'
    obtain ⟨xs, tail, hc, hh, _⟩ := look_spec hs he hb
    have hcl := denL_take len (denL_drop off hc)
    rw [strsL_den hss] at hcl
    simp only [Option.some.injEq] at hcl
    have hcells : ∀ (j : Nat) x, ss[j]? = some x → w.cell? ⟨b, off + j, none⟩ = some (.string x) := by
      intro j x hj
      have h1 : (ss.map Value.string)[j]? = some (.string x) := by simp [hj]
      rw [hcl] at h1
      have hjl : j < len := by rw [← g1]; exact (List.getElem?_eq_some_iff.1 hj).1
      rw [List.getElem?_take_of_lt hjl, List.getElem?_drop] at h1
      have hlt := (List.getElem?_eq_some_iff.1 h1).1
      have hh2 : w.heap[b]? = some (.cells (xs ++ tail).toArray T (0, 0)) := hh
      have h3 : (xs ++ tail)[off + j]? = some (.string x) := by
        rw [List.getElem?_append_left hlt]; exact h1
      simp [World.cell?, hh2, h3]
    have := hj b off cap ss sep w hcells (getElem?_lt hh) (by omega) (by omega) (by omega)
    rw [g1] at this
    refine this.mono ?_
    rintro e w' ⟨rfl, hbel⟩
    exact hR _ _ (hK _ _ (List.mem_singleton_self _) ρ w' _ (Le.refl ρ) (hs.grows hbel) rfl)
end
end Go.Proofs.YtmmcdfmlpfjlhaaGreatDoor.Sx
