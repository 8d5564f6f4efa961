/- object.Names: the keys of the map of functions, collected by a range, and sorted. -/
import Derived.Test.YtnlenfednghmmaaGreatDoorIter
import Derived.Test.YtnlenfednghmmaaGreatDoorSxRow
import Derived.Test.YtnlenfednghmmaaGreatDoorSxTab
import Derived.Sort.MapsRangeIn
import Derived.Sort.KeysCollected
import Derived.Sort.OwnSorted
import Derived.Maps.AppendAt
import Derived.Maps.RangeWalk
import Derived.WalkKit
namespace Go.Proofs.YtnlenfednghmmaaGreatDoor
open Go Go.RowKit Go.Maps Go.Sort Go.Proofs

theorem law9 : Keyed Tryz.prog 9 := string_keyed Tryz.underlying9
theorem info9 : (Tryz.prog.info? 9).map (fun i => (i.zero, i.size, i.bytes)) = some (some (.string ⟨#[]⟩), 1, 16) := by kernel_rfl

/-- The names of the functions, in the order in which they are told. -/
def told : List (List UInt8) := [[97, 115, 115, 105, 103, 110], [99, 114, 101, 97, 116, 101], [100, 101, 102, 105, 110, 101, 80, 114, 111, 112, 101, 114, 116, 121], [102, 114, 101, 101, 122, 101], [103, 101, 116, 79, 119, 110, 80, 114, 111, 112, 101, 114, 116, 121, 68, 101, 115, 99, 114, 105, 112, 116, 111, 114], [103, 101, 116, 79, 119, 110, 80, 114, 111, 112, 101, 114, 116, 121, 78, 97, 109, 101, 115], [103, 101, 116, 79, 119, 110, 80, 114, 111, 112, 101, 114, 116, 121, 83, 121, 109, 98, 111, 108, 115], [103, 101, 116, 80, 114, 111, 116, 111, 116, 121, 112, 101, 79, 102], [105, 115], [105, 115, 69, 120, 116, 101, 110, 115, 105, 98, 108, 101], [105, 115, 70, 114, 111, 122, 101, 110], [105, 115, 83, 101, 97, 108, 101, 100], [107, 101, 121, 115], [112, 114, 101, 118, 101, 110, 116, 69, 120, 116, 101, 110, 115, 105, 111, 110, 115], [115, 101, 97, 108], [115, 101, 116, 80, 114, 111, 116, 111, 116, 121, 112, 101, 79, 102]]

set_option maxRecDepth 100000 in
set_option maxHeartbeats 1000000 in
theorem names_walk (hfun : ∀ w : World, Calls Tryz.prog 17 #[] w fun e w' => ∃ (b n : Nat) (D : DataW Unit), e = .returned (.map (some b)) ∧ w'.ownsMap Tryz.prog 9 Sx.anyV b n D ∧ (strKeys D).Perm told ∧ Maps.size D ≤ 1000 ∧ Below w.heap.size w w') (w : World) :
    Calls Tryz.prog 11 #[] w fun e w' => ∃ (v : Value) (ss : List (List UInt8)), e = .returned v ∧ ss.Perm told ∧ w'.ownsRow w.heap.size 9 1 v ss.length ((ss.mergeSort (fun x y => decide (x ≤ y))).map encStr) ∧ Below w.heap.size w w' := by
  obtain ⟨i0, hi, hz0, hz1, hz2⟩ := info_parts info9
  go_enter Tryz.func11, Tryz.ntmps11
  go_wp2_with (first
    | (go_at_call 17; refine (hfun w).mono ?_; rintro e w1 ⟨b, n, D0, rfl, hown, hperm, hmax, hbel⟩)
    | (at_range; refine wpList_range_own _ rfl _ 61 rfl 9 59 law9 Tryz.underlying61 _ b n _ rfl hown ?_; intro w0 hrg0 hg0 hs0)
    | go_in)
  go_frame
  have hbl := hown.lt
  go_loopw [1] (fun v wr => ∃ (left : Lit → Bool) (cnt : Nat) (ss : List (List UInt8)), wr.ranges Tryz.prog 9 Sx.anyV b w1.heap.size n D0 left cnt ∧ ss.length + cnt ≤ Maps.size D0 ∧
      wr.ownsRow w1.heap.size 9 1 v ss.length (ss.map encStr) ∧ Collected D0 left ss ∧ w1.heap.size ≤ wr.heap.size ∧ Below w.heap.size w wr)
    (fun _ wr => wr.rangeLeft b w1.heap.size)
  case atStart =>
    exact ⟨_, _, [], hrg0, by simp, World.ownsRow_nil _ _ _ _, Collected.start D0, hg0.size, hbel.grown hg0 hbel.size (fun j hj => by cases hj)⟩
  case round =>
    obtain ⟨left, cnt, ss, hrg, hcs, hrow, hC, hws, hnx⟩ := hrel
    go_wp2_with (first
      | (at_next; refine wpList_next_ranges _ rfl _ rfl 9 law9 Sx.anyV encStr id (fun key kl hk => by obtain ⟨x, hx, _⟩ := Maps.keyOf_str Tryz.underlying9 hk; exact ⟨x, hx⟩) (fun v y _ => ⟨v, rfl⟩) b w1.heap.size n _ _ _ rfl hrg ?_ ?_)
      | go_in)
    · intro hc0 hl0
      have hp : ss.Perm told := (hC.perm hown law9 Tryz.underlying9 hl0).trans hperm
      rcases hrow.2 with ⟨rfl, hz⟩ | ⟨g, cap, cur, rfl, hbase, hb, h1, h2, h3, h4⟩
      · have hlen := hp.length_eq
        rw [hz] at hlen
        cases hlen
      · have hH : Holds encStr _ g 0 ss.toArray := holds_of_block hb (by simpa using h4)
        have hgl := (Array.getElem?_eq_some_iff.1 hb).1
        have hc := AnyM.slices_Sort_string Tryz.sort24 g 0 cap ss _ hH hgl (by omega)
        go_wp2_with (first | (go_at_call 24; refine hc.mono ?_; rintro e w' ⟨rfl, nn, os, rfl⟩) | go_in)
        go_ret
        exact ⟨_, ss, rfl, hp, ownsRow_sorted (by simp) (Nat.le_trans hbel.size hbase) hb h1 h2 h3, hnx.grown (grownBy_sorted _) hnx.size (fun j hj => by cases hj; exact Nat.le_trans hbel.size hbase)⟩
    · intro x c kl yd yp w2 cnt2 hkey hlk hv hat hrg2 hlt hg2 hs2 hen
      obtain ⟨x', ex, rfl, _⟩ := Maps.keyOf_str Tryz.underlying9 hkey
      obtain rfl : x = x' := encStr_inj ex
      have hrow2 := hrow.kept hg2 (Or.inr (row_ne_iter hrow hrg).symm)
      clear hs2
      go_wp2_with (first
        | (at_builtin; refine wpList_append_own _ rfl _ _ 52 rfl w1.heap.size 9 i0 (.string ⟨#[]⟩) 1 16 Tryz.underlying52 hi hz0 hz1 hz2 rfl (by decide) _ _ _ rfl (hrow2.alloc _) ⟨w2.heap.size, 0, none⟩ 1 1 [encStr x] rfl rfl (cell_one_new _ _ _) (by simp [Value.oneCell', encStr]) (by unfold maxLen; omega) (by omega) (by have := hg2.size; simp; omega) ?_; intro v' w3 hown' hg3 hnil3; go_frame)
        | go_in)
      have hrg3 := (hrg2.alloc _).kept hg3 (row_ne_low hrow2 hbl) (row_ne_iter hrow2 hrg2)
      go_roundw
      case rel =>
        refine ⟨_, cnt2, ss ++ [x], hrg3, by simp; omega, by simpa using hown', hC.step hlk hat, by have := hg2.size; have := hg3.size; simp at this; omega, ?_⟩
        exact ((hnx.grown hg2 hnx.size (fun j hj => by cases hj; exact hbel.size)).alloc (by have := hnx.size; have := hg2.size; omega) _).grown hg3 (by have := hnx.size; have := hg2.size; simp; omega) (fun j hj => Nat.le_trans hbel.size (hrow2.lt j hj).1)
      case measure => rw [hrg3.left_eq, hrg.left_eq]; exact hlt

instance sokNone (w : World) : Sx.SOk (Sx.cfgOf fun _ => none) (Sx.wd w) := ⟨fun _ _ h => by cases h⟩

set_option maxRecDepth 100000 in
theorem functions_map : Sx.mapOut (Sx.exec (Sx.cfgOf fun _ => none) 400 (.call 17 []) Sx.St0) = some told := by kernel_rfl

theorem functions_gives (w : World) : Calls Tryz.prog 17 #[] w fun e w' => ∃ (b n : Nat) (D : DataW Unit), e = .returned (.map (some b)) ∧ w'.ownsMap Tryz.prog 9 Sx.anyV b n D ∧ (strKeys D).Perm told ∧ Maps.size D ≤ 1000 ∧ Below w.heap.size w w' := by
  refine (Sx.map_call (c := Sx.cfgOf fun _ => none) (args := []) functions_map w).mono ?_
  rintro e w' ⟨⟨b, clock, xs, rfl, hheap, hst, hkeys, hlen, hn⟩, hbel⟩
  obtain ⟨D, hD, hp⟩ := Sx.ownsMap_of (K := 9) Tryz.underlying9 hheap hst hkeys hlen hn
  refine ⟨b, _, D, rfl, hD, hp, ?_, hbel⟩
  have hl := hp.length_eq
  cases D with
  | map es =>
    have h2 : es.length = told.length := by simpa [strKeys] using hl
    exact Nat.le_trans (Nat.le_of_eq h2) hn
  | _ => simp [Maps.size]

theorem names_gives : Sx.GivesRow Tryz.prog 11 9 told := fun w => by
  refine (names_walk functions_gives w).mono ?_
  rintro e w' ⟨v, ss, rfl, hss, hrow, hbel⟩
  have hms : ss.mergeSort (fun x y => decide (x ≤ y)) = told := by
    refine (mergeSort_of_perm hss).trans (List.mergeSort_of_pairwise ?_)
    exact (Sx.risingB_sorted (by kernel_rfl : Sx.risingB told = true)).imp fun h => by simpa using h
  rw [hms, hss.length_eq] at hrow
  exact ⟨v, rfl, hrow, hbel⟩
end Go.Proofs.YtnlenfednghmmaaGreatDoor
