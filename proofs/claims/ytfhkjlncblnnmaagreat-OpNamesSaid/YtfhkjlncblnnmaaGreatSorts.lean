/- The shelf's word on slices.Sorted at what maps.Keys handed back, as the executor's summary asks it. -/
import Derived.Test.YtfhkjlncblnnmaaGreatIter
import Derived.Test.YtfhkjlncblnnmaaGreatSxSorted
import Derived.Test.YtfhkjlncblnnmaaGreatSxTab
namespace Go.Proofs.YtfhkjlncblnnmaaGreat
open Go Go.RowKit Go.WideElems Go.Proofs
open Sx hiding strOf

theorem sorts : SortsKeys Tryz.prog 44 84 9 := by
  intro pb b clock xs ks w hcell hheap hst hkeys hlen hn
  have h9 : Tryz.prog.underlying 9 = some .string := Tryz.underlying9
  let R : Value → Option (DataW Unit × List MemPlace) := fun _ => some (.nil, [])
  have hxl : xs.length = ks.length := by simpa using congrArg List.length hkeys
  have hrd : ∀ x, x ∈ xs → ∃ s : List UInt8, s ∈ ks ∧ x.key = encStr s ∧ rd Tryz.prog 9 R x = some (.string s, .nil) := by
    intro x hx
    have : x.key ∈ ks.map encStr := by rw [← hkeys]; exact List.mem_map.2 ⟨x, hx, rfl⟩
    obtain ⟨s, hs, he⟩ := List.mem_map.1 this
    refine ⟨s, hs, he.symm, ?_⟩
    have hk : keyOf Tryz.prog 9 x.key = some (.string s) := by
      rw [← he]
      have := hlen s hs
      simp [keyOf, h9, mapKey, encStr]
      show s.length ≤ maxLen
      exact Nat.le_trans this (by decide)
    simp [rd, hk, R]
  have hown : w.ownsMap Tryz.prog 9 R b xs.length (.map ((xs.toArray.toList.map (rg Tryz.prog 9 R)).foldr DataW.insert [])) :=
    ⟨xs.toArray, clock, hheap, ⟨by simp only [List.size_toArray]; rw [hxl]; exact Nat.le_trans hn (by decide), hst, fun x hx => by
      obtain ⟨s, _, _, h⟩ := hrd x (by simpa using hx)
      exact ⟨_, h⟩⟩, by simp, rfl⟩
  have hmaps : xs.map (fun x => strOf (rg Tryz.prog 9 R x).1) = ks := by
    have key : ∀ (l : List MapEntry) (m : List (List UInt8)), (∀ x, x ∈ l → x ∈ xs) → l.map (·.key) = m.map encStr → l.map (fun x => strOf (rg Tryz.prog 9 R x).1) = m := by
      intro l
      induction l with
      | nil => intro m _ h; cases m with
        | nil => rfl
        | cons _ _ => cases h
      | cons x l ih =>
        intro m hm h
        cases m with
        | nil => cases h
        | cons s m =>
          simp only [List.map_cons, List.cons.injEq] at h
          obtain ⟨s', _, h1, h2⟩ := hrd x (hm x (List.mem_cons_self ..))
          have hss : s' = s := by
            have := h1.symm.trans h.1
            simpa [encStr] using this
          subst hss
          rw [List.map_cons, ih m (fun y hy => hm y (List.mem_cons_of_mem _ hy)) h.2]
          simp [rg, h2, strOf]
    exact key xs ks (fun _ h => h) hkeys
  have hperm : (strKeys (.map ((xs.toArray.toList.map (rg Tryz.prog 9 R)).foldr DataW.insert []) : DataW Unit)).Perm ks := by
    show (((xs.toArray.toList.map (rg Tryz.prog 9 R)).foldr DataW.insert []).map fun p => strOf p.1).Perm ks
    refine ((WideShapes.sorted_perm _).map _).trans ?_
    rw [List.map_map]
    refine List.Perm.of_eq (Eq.trans ?_ hmaps)
    simp only [Function.comp_def]
  have hsize : Maps.size (.map ((xs.toArray.toList.map (rg Tryz.prog 9 R)).foldr DataW.insert []) : DataW Unit) ≤ 1000 := by
    have := hperm.length_eq
    simp only [strKeys, List.length_map] at this
    exact Nat.le_trans (Nat.le_of_eq this) hn
  have hseq : SeqGives Fence.wide 2 Tryz.prog 84 #[.pointer (some ⟨pb, 0, none⟩)] encStr (fun ss => ss.Perm (strKeys (.map ((xs.toArray.toList.map (rg Tryz.prog 9 R)).foldr DataW.insert []) : DataW Unit))) (Maps.size (.map ((xs.toArray.toList.map (rg Tryz.prog 9 R)).foldr DataW.insert []) : DataW Unit)) w :=
    AnyZ.keys_gives (ρ := Tryz.keys45_ren) { Tryz.keys45 with } Fence.wide _ trivial rfl (by omega) pb b xs.length _ _ (by
      have := hcell
      unfold World.cell? at this
      cases hh : w.heap[pb]? with
      | none => rw [hh] at this; simp at this
      | some o => exact getElem?_lt hh) hcell hown
  refine ((callsIn_wide (n := 5)).1 (AnyZ.sorted_in Tryz.sorted44 Fence.wide 5 trivial trivial trivial trivial rfl (by omega) (Tryz.sorts44 _) (enters_of Tryz.func83 (by kernel_rfl) rfl) 84 #[.pointer (some ⟨pb, 0, none⟩)] trivial (enters_of Tryz.func84 (by kernel_rfl) rfl) _ _ (Nat.le_trans hsize (by decide)) (by omega) w hseq)).mono ?_
  rintro e w' ⟨v, ss, rfl, h1, h2, _, h3⟩
  exact ⟨v, ss, rfl, h1.trans hperm, h2, h3⟩
end Go.Proofs.YtfhkjlncblnnmaaGreat
