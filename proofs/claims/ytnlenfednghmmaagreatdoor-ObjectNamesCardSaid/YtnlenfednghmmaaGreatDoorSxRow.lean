/- Symbolic execution: a function without arguments that hands back a row of strings in rising order: a summary; a map that a closed run has built, as the walks read it. -/
import Derived.Test.YtnlenfednghmmaaGreatDoorSxSorted
import Derived.Maps.RangeWalk
namespace Go.Proofs.YtnlenfednghmmaaGreatDoor.Sx
open Go hiding strOf
open Go.RowKit Go.WideElems Go.Proofs
set_option linter.unusedSectionVars false

noncomputable section
def rowX (K : TypeId) (sk : List (List UInt8)) : St → List V → Option (List (V × St)) := fun S args => match args with
  | [] =>
    let n := sk.length
    let nm := S.next
    bif !(Nat.beq n 0) && S.fresh nm && S.fresh (nm + 1) then
      some [(.slice nm 0 (natV n) (.var (nm + 1)), ((S.put (nm + 1) (.val (.natGe n))).put nm (.blk (sk.map fun s => .k (.string ⟨s.toArray⟩)) K (some (nm + 1, 1)))).withNext (nm + 2))]
    else none
  | _ => none

/-- What is asked of the function. -/
def GivesRow (P : Program) (f : FuncId) (K : TypeId) (sk : List (List UInt8)) : Prop :=
  ∀ w : World, Calls P f #[] w fun e w' => ∃ v : Value, e = .returned v ∧ w'.ownsRow w.heap.size K 1 v sk.length (sk.map encStr) ∧ Below w.heap.size w w'

/-- The keys of the one map that a run has come to. -/
def mapOut : Option (List (Exit × V × St)) → Option (List (List UInt8))
  | some [(_, .map m, S)] => (S.look m).bind fun e => match e with
    | .map es clock => (keysL es).bind fun ks => bif bornsB es 0 && Nat.beq es.length clock && nodupB ks && ks.all (fun s => Nat.ble s.length 1000) && Nat.ble ks.length 1000 then some ks else none
    | _ => none
  | _ => none

/-- A map whose values nobody reads. -/
def anyV : Value → Option (DataW Unit × List MemPlace) := fun _ => some (.nil, [])

section
variable {c : Cfg} [COk c]

theorem rowX_ok {f : FuncId} {K : TypeId} {sk : List (List UInt8)} (hc : GivesRow c.P f K sk) {F : Wd} {S : St} {args : List V} {L : List (V × St)} (h : rowX K sk S args = some L) : (∀ v S', (v, S') ∈ L → Unch S S') ∧
    ∀ ρ w vals, SatH c F ρ S w → denL c.P c.Φ ρ args = some vals → ∀ Kt : Value → World → Prop,
      (∀ v S', (v, S') ∈ L → ∀ ρ' w' x, Le ρ ρ' → SatH c F ρ' S' w' → den c.P c.Φ ρ' v = some x → Kt x w') →
      ∀ R : Ending → World → Prop, (∀ x w, Kt x w → R (.returned x) w) → Calls c.P f vals.toArray w R := by
  unfold rowX at h
  split at h
  · obtain ⟨hb, h⟩ := bif_none h
    simp only [Option.some.injEq] at h
    subst h
    simp only [Bool.and_eq_true] at hb
    obtain ⟨⟨b6, b8⟩, b9⟩ := hb
    refine ⟨fun v S' hm => ?_, fun ρ w vals hs hv Kt hK R hR => ?_⟩
    · simp only [List.mem_singleton, Prod.mk.injEq] at hm
      obtain ⟨_, rfl⟩ := hm
      exact ((Unch.put _ _ _).trans (Unch.put _ _ _)).trans ⟨fun _ h => h, fun _ _ => rfl⟩
    · simp only [denL, Option.some.injEq] at hv
      subst hv
      refine (hc w).mono ?_
      rintro e w' ⟨v, rfl, ⟨hrl, hrow⟩, hbel⟩
      have hne : sk.length ≠ 0 := by
        intro e
        simp only [Bool.not_eq_true'] at b6
        rw [e] at b6; cases b6
      rcases hrow with ⟨_, hz⟩ | ⟨gb, cap, cur, rfl, hge, hgb, hcap, _, hcs, htake⟩
      · exact absurd hz hne
      · rw [Nat.mul_one] at htake
        rw [Nat.mul_one] at hcs
        have hstr : ∀ (ρ' : Env), denL c.P c.Φ ρ' (sk.map fun s => V.k (.string ⟨s.toArray⟩)) = some (sk.map encStr) := by
          intro ρ'
          have := denL_ks (P := c.P) (Φ := c.Φ) (ρ := ρ') (sk.map encStr)
          rw [List.map_map] at this
          exact this
        have w1 := hs.grows hbel
        obtain ⟨l1, w2⟩ := w1.newVar (n := S.next + 1) (x := .int .i64 (Int.ofNat cap)) (ty := .natGe sk.length) b9 ⟨cap, rfl, hcap⟩ rfl
        have hfr : (S.put (S.next + 1) (.val (.natGe sk.length))).fresh S.next = true := fresh_put b8 (by omega)
        have hcur : cur = (sk.map encStr ++ cur.toList.drop sk.length).toArray := by
          apply Array.ext'
          show cur.toList = sk.map encStr ++ cur.toList.drop sk.length
          rw [← htake]
          exact (List.take_append_drop _ _).symm
        obtain ⟨l2, w3⟩ := w2.adopt (n := S.next) (b := gb) (T := K) (more := some (S.next + 1, 1)) (cells := sk.map fun s => V.k (.string ⟨s.toArray⟩)) (xs := sk.map encStr) (tail := cur.toList.drop sk.length) hfr
          (by rw [← hcur]; exact hgb) (fun hF => absurd (Nat.lt_of_lt_of_le (hs.fr gb hF).2 hs.size) (by omega)) (by
            intro m hlm hbm
            rcases live_put hlm with ⟨_, e⟩ | ⟨hne2, hlm⟩
            · cases e
            rw [upd_other _ _ hne2] at hbm
            have := hs.lives hlm hbm
            omega) (hstr _) ⟨cap, upd_self _ _ _, by
              have h1 : (sk.map encStr ++ cur.toList.drop sk.length).length = cur.size := by
                conv => rhs; rw [hcur]
                simp
              rw [← List.length_append, h1, hcs, Nat.mul_one]⟩
        refine hR _ _ (hK _ _ (List.mem_singleton.2 rfl) _ w' _ (l1.trans l2) (w3.next _) ?_)
        refine den_slice (by rw [upd_self]; rfl) (D_natV _) (D_var ?_)
        rw [upd_other _ _ (by omega), upd_self]
  · cases h

theorem row_tr {f : FuncId} {K : TypeId} {sk : List (List UInt8)} (hc : GivesRow c.P f K sk) {F : Wd} : TrOk c F f (rowX K sk) := fun _ _ _ h => rowX_ok hc h

/-- A map out of a closed run. -/
theorem map_call [∀ w, SOk c (wd w)] {n : Nat} {f : FuncId} {args : List Value} {ks : List (List UInt8)} (h : mapOut (exec c n (.call f (args.map V.k)) St0) = some ks) (w : World) :
    Calls c.P f args.toArray w fun e w' => (∃ (b clock : Nat) (xs : List MapEntry), e = .returned (.map (some b)) ∧ w'.heap[b]? = some (.map xs.toArray clock) ∧ MapKept.Stamped xs.toArray clock ∧ xs.map (·.key) = ks.map encStr ∧
      (∀ s, s ∈ ks → s.length ≤ 1000) ∧ ks.length ≤ 1000) ∧ Below w.heap.size w w' := by
  unfold mapOut at h
  split at h
  · rename_i e0 m S hL
    refine (exec_ok (c := c) (F := wd w) n).call f _ St0 _ hL (fun _ => none) w args (sat0 w) (denL_ks args) (fun x w' => (∃ (b clock : Nat) (xs : List MapEntry), x = .map (some b) ∧ w'.heap[b]? = some (.map xs.toArray clock) ∧ MapKept.Stamped xs.toArray clock ∧ xs.map (·.key) = ks.map encStr ∧
      (∀ s, s ∈ ks → s.length ≤ 1000) ∧ ks.length ≤ 1000) ∧ Below w.heap.size w w') ?_ _ (fun x w' ⟨⟨b, cl, xs, h1, h2⟩, h3⟩ => ⟨⟨b, cl, xs, by rw [h1], h2⟩, h3⟩)
    intro e v S' hm ρ' w' x _ hs hx
    simp only [List.mem_singleton, Prod.mk.injEq] at hm
    obtain ⟨rfl, rfl, rfl⟩ := hm
    rw [Option.bind_eq_some_iff] at h
    obtain ⟨e, he, h⟩ := h
    split at h
    · rename_i es clock
      rw [Option.bind_eq_some_iff] at h
      obtain ⟨ks', hks, h⟩ := h
      obtain ⟨hb, h⟩ := bif_none h
      simp only [Option.some.injEq] at h
      subst h
      simp only [Bool.and_eq_true] at hb
      obtain ⟨⟨⟨⟨b1, b2⟩, b3⟩, b4⟩, b5⟩ := hb
      obtain ⟨b, xs, hb', hxs, hheap⟩ := look_map hs he
      obtain ⟨b'', hb'', rfl⟩ := den_map_inv hx
      rw [hb'] at hb''; cases hb''
      exact ⟨⟨b, clock, xs, rfl, hheap, stamped_of hxs hks b1 b2 (nodupB_spec b3), (keysL_spec hxs hks).1, fun s hs' => Nat.le_of_ble_eq_true (List.all_eq_true.1 b4 s hs'), Nat.le_of_ble_eq_true b5⟩, hs.below⟩
    · cases h
  · cases h

end

theorem ownsMap_of {P : Program} {K : TypeId} (h9 : P.underlying K = some .string) {w : World} {b clock : Nat} {xs : List MapEntry} {ks : List (List UInt8)} (hheap : w.heap[b]? = some (.map xs.toArray clock)) (hst : MapKept.Stamped xs.toArray clock)
    (hkeys : xs.map (·.key) = ks.map encStr) (hlen : ∀ s, s ∈ ks → s.length ≤ 1000) (hn : ks.length ≤ 1000) : ∃ D : DataW Unit, w.ownsMap P K anyV b xs.length D ∧ (Go.strKeys D).Perm ks := by
  have hxl : xs.length = ks.length := by simpa using congrArg List.length hkeys
  have hrd : ∀ x, x ∈ xs → ∃ s : List UInt8, s ∈ ks ∧ x.key = encStr s ∧ rd P K anyV x = some (.string s, .nil) := by
    intro x hx
    have : x.key ∈ ks.map encStr := by rw [← hkeys]; exact List.mem_map.2 ⟨x, hx, rfl⟩
    obtain ⟨s, hs, he⟩ := List.mem_map.1 this
    refine ⟨s, hs, he.symm, ?_⟩
    have hk : keyOf P K x.key = some (.string s) := by
      rw [← he]
      have := hlen s hs
      simp [keyOf, h9, mapKey, encStr]
      show s.length ≤ maxLen
      exact Nat.le_trans this (by decide)
    simp [rd, hk, anyV]
  have hown : w.ownsMap P K anyV b xs.length (.map ((xs.toArray.toList.map (rg P K anyV)).foldr DataW.insert [])) :=
    ⟨xs.toArray, clock, hheap, ⟨by simp only [List.size_toArray]; rw [hxl]; exact Nat.le_trans hn (by decide), hst, fun x hx => by
      obtain ⟨s, _, _, h⟩ := hrd x (by simpa using hx)
      exact ⟨_, h⟩⟩, by simp, rfl⟩
  refine ⟨_, hown, ?_⟩
  have hmaps : xs.map (fun x => Go.strOf (rg P K anyV x).1) = ks := by
    have key : ∀ (l : List MapEntry) (m : List (List UInt8)), (∀ x, x ∈ l → x ∈ xs) → l.map (·.key) = m.map encStr → l.map (fun x => Go.strOf (rg P K anyV x).1) = m := by
      intro l
      induction l with
      | nil => intro m _ h; cases m with
        | nil => rfl
        | cons _ _ => cases h
      | cons x l ih =>
        intro m hm h
        cases m with
        | nil => cases h
        | cons s m =>
          simp only [List.map_cons, List.cons.injEq] at h
          obtain ⟨s', _, h1, h2⟩ := hrd x (hm x (List.mem_cons_self ..))
          have hss : s' = s := by
            have := h1.symm.trans h.1
            simpa [encStr] using this
          subst hss
          rw [List.map_cons, ih m (fun y hy => hm y (List.mem_cons_of_mem _ hy)) h.2]
          simp [rg, h2, Go.strOf]
    exact key xs ks (fun _ h => h) hkeys
  show (((xs.toArray.toList.map (rg P K anyV)).foldr DataW.insert []).map fun p => Go.strOf p.1).Perm ks
  refine ((WideShapes.sorted_perm _).map _).trans ?_
  rw [List.map_map]
  refine List.Perm.of_eq (Eq.trans ?_ hmaps)
  simp only [Function.comp_def]
end
end Go.Proofs.YtnlenfednghmmaaGreatDoor.Sx
