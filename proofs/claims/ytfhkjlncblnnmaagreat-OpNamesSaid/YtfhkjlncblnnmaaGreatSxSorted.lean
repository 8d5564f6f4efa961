/- Symbolic execution: the keys of a map, sorted: a summary out of the shelf's contract. -/
import Derived.Test.YtfhkjlncblnnmaaGreatSxTop
import Derived.Sort.KeysCollected
import Derived.Laws.AppendOwn
import Derived.MapKept
namespace Go.Proofs.YtfhkjlncblnnmaaGreat.Sx
open Go Go.RowKit
set_option linter.unusedSectionVars false

noncomputable section
def leBytes (a b : List UInt8) : Bool := List.rec (motive := fun _ => List UInt8 → Bool) (fun _ => true) (fun x _ ih b => match b with
  | [] => false
  | y :: b => Bool.rec (motive := fun _ => Bool) (Nat.ble x.toNat y.toNat) (ih b) (Nat.beq x.toNat y.toNat)) a b
def insB (x : List UInt8) : List (List UInt8) → List (List UInt8)
  | [] => [x]
  | y :: r => bif leBytes x y then x :: y :: r else y :: insB x r
def sortB : List (List UInt8) → List (List UInt8)
  | [] => []
  | x :: r => insB x (sortB r)
def risingB : List (List UInt8) → Bool
  | [] => true
  | x :: r => match r with
    | [] => true
    | y :: _ => leBytes x y && risingB r
def nodupB : List (List UInt8) → Bool
  | [] => true
  | x :: r => eachR (fun y => Bool.rec (motive := fun _ => Bool) true false (bytesEqB x y)) r && nodupB r
def keysL : List (Value × V × Nat) → Option (List (List UInt8))
  | [] => some []
  | (.string s, _, _) :: r => (keysL r).map fun l => s.data.toList :: l
  | _ => none

/-- The iterator of maps.Keys, the map behind it, and that map's entries. -/
def keysOf (g : FuncId) (S : St) : List V → Option (Nat × Nat × List (Value × V × Nat) × Nat)
  | [.func (.func g') f l] => (match f, l with
    | .nil, .cons (.ptr n 0) .nil => bif Nat.beq g g' then some n else none
    | _, _ => none).bind fun n => (S.look n).bind fun e => match e with
      | .blk [.map m] _ _ => (S.look m).bind fun e => match e with
        | .map es clock => some (n, m, es, clock)
        | _ => none
      | _ => none
  | _ => none
def bornsB : List (Value × V × Nat) → Nat → Bool
  | [], _ => true
  | (_, _, b) :: r, k => Nat.beq b k && bornsB r (k + 1)

def sortedX (g : FuncId) (K : TypeId) : St → List V → Option (List (V × St)) := fun S args =>
  (keysOf g S args).bind fun x => (keysL x.2.2.1).bind fun ks =>
    let sk := sortB ks
    let n := sk.length
    let nm := S.next
    bif risingB sk && nodupB ks && ks.all (fun s => Nat.ble s.length 1000) && bornsB x.2.2.1 0 && Nat.beq x.2.2.1.length x.2.2.2 && !(Nat.beq n 0) && Nat.ble n 1000 && S.fresh nm && S.fresh (nm + 1) then
      some [(.slice nm 0 (natV n) (.var (nm + 1)), ((S.put (nm + 1) (.val (.natGe n))).put nm (.blk (sk.map fun s => .k (.string ⟨s.toArray⟩)) K (some (nm + 1, 1)))).withNext (nm + 2))]
    else none
end

theorem leBytes_le : ∀ {a b : List UInt8}, leBytes a b = true → a ≤ b
  | [], b, _ => List.nil_le b
  | x :: a, [], h => by cases h
  | x :: a, y :: b, h => by
    replace h : Bool.rec (motive := fun _ => Bool) (Nat.ble x.toNat y.toNat) (leBytes a b) (Nat.beq x.toNat y.toNat) = true := h
    cases he : Nat.beq x.toNat y.toNat with
    | true =>
      rw [he] at h
      have hxy : x = y := UInt8.toNat_inj.1 (Nat.eq_of_beq_eq_true he)
      subst hxy
      rw [List.cons_le_cons_iff]
      exact .inr ⟨rfl, leBytes_le h⟩
    | false =>
      rw [he] at h
      rw [List.cons_le_cons_iff]
      refine .inl ?_
      have h1 := Nat.le_of_ble_eq_true h
      have h2 : x.toNat ≠ y.toNat := fun e => by rw [e, Nat.beq_refl] at he; cases he
      rw [UInt8.lt_iff_toNat_lt]
      omega
theorem insB_perm (x : List UInt8) : ∀ l, (insB x l).Perm (x :: l)
  | [] => .refl _
  | y :: r => by
    unfold insB
    cases leBytes x y with
    | true => exact .refl _
    | false => exact ((insB_perm x r).cons y).trans (.swap x y r)
theorem sortB_perm : ∀ l, (sortB l).Perm l
  | [] => .refl _
  | x :: r => (insB_perm x _).trans ((sortB_perm r).cons x)
theorem risingB_sorted : ∀ {l : List (List UInt8)}, risingB l = true → l.Pairwise (fun a b => a ≤ b)
  | [], _ => .nil
  | [x], _ => by simp
  | x :: y :: r, h => by
    replace h : (leBytes x y && risingB (y :: r)) = true := h
    rw [Bool.and_eq_true] at h
    have hr := risingB_sorted h.2
    refine .cons ?_ hr
    intro z hz
    have hxy := leBytes_le h.1
    rcases List.mem_cons.1 hz with rfl | hz
    · exact hxy
    · exact List.le_trans hxy (List.rel_of_pairwise_cons hr hz)

/-- What the shelf says of slices.Sorted at what maps.Keys handed back. -/
def SortsKeys (P : Program) (f g : FuncId) (K : TypeId) : Prop :=
  ∀ (pb b clock : Nat) (xs : List MapEntry) (ks : List (List UInt8)) (w : World), w.cell? ⟨pb, 0, none⟩ = some (.map (some b)) → w.heap[b]? = some (.map xs.toArray clock) → MapKept.Stamped xs.toArray clock →
    xs.map (·.key) = ks.map encStr → (∀ s, s ∈ ks → s.length ≤ 1000) → ks.length ≤ 1000 →
    Calls P f #[.func (.func g) #[] #[.pointer (some ⟨pb, 0, none⟩)]] w fun e w' => ∃ (v : Value) (ss : List (List UInt8)), e = .returned v ∧ ss.Perm ks ∧
      w'.ownsRow w.heap.size K 1 v ss.length ((ss.mergeSort (fun x y => decide (x ≤ y))).map encStr) ∧ Below w.heap.size w w'

section
variable {c : Cfg} [COk c]

theorem keysL_spec {ρ : Env} : ∀ {es : List (Value × V × Nat)} {xs : List MapEntry} {ks : List (List UInt8)}, denE c ρ es = some xs → keysL es = some ks →
    xs.map (·.key) = ks.map encStr ∧ xs.map (·.born) = es.map (·.2.2) ∧ xs.length = es.length
  | [], xs, ks, hd, hk => by
    simp only [denE, Option.some.injEq] at hd
    simp only [keysL, Option.some.injEq] at hk
    subst hd; subst hk
    exact ⟨rfl, rfl, rfl⟩
  | (k, v, b) :: r, xs, ks, hd, hk => by
    simp only [denE, Option.bind_eq_some_iff, Option.map_eq_some_iff] at hd
    obtain ⟨x, _, l, hl, rfl⟩ := hd
    unfold keysL at hk
    split at hk
    · cases hk
      all_goals contradiction
    · rename_i s v' b' r' he
      simp only [List.cons.injEq, Prod.mk.injEq] at he
      obtain ⟨⟨rfl, rfl, rfl⟩, rfl⟩ := he
      rw [Option.map_eq_some_iff] at hk
      obtain ⟨ks', hk', rfl⟩ := hk
      obtain ⟨h1, h2, h3⟩ := keysL_spec hl hk'
      refine ⟨?_, ?_, ?_⟩
      · simp only [List.map_cons, h1]
      · simp only [List.map_cons, h2]
      · simp [h3]
    · cases hk

theorem bornsB_spec : ∀ {es : List (Value × V × Nat)} {k : Nat}, bornsB es k = true → es.map (·.2.2) = List.range' k es.length
  | [], _, _ => rfl
  | (_, _, b) :: r, k, h => by
    simp only [bornsB, Bool.and_eq_true] at h
    rw [List.map_cons, bornsB_spec h.2, List.length_cons, List.range'_succ, ← beqT h.1]

theorem nodupB_spec : ∀ {l : List (List UInt8)}, nodupB l = true → l.Nodup
  | [], _ => .nil
  | x :: r, h => by
    simp only [nodupB, Bool.and_eq_true, eachR_eq, List.all_eq_true] at h
    refine List.nodup_cons.2 ⟨fun hm => ?_, nodupB_spec h.2⟩
    have := h.1 x hm
    rw [bytesEqB_refl] at this
    cases this

theorem stamped_of {ρ : Env} {es : List (Value × V × Nat)} {xs : List MapEntry} {ks : List (List UInt8)} {clock : Nat} (hd : denE c ρ es = some xs) (hk : keysL es = some ks)
    (hb : bornsB es 0 = true) (hc : Nat.beq es.length clock = true) (hnd : ks.Nodup) : MapKept.Stamped xs.toArray clock := by
  obtain ⟨h1, h2, h3⟩ := keysL_spec hd hk
  have hborn : xs.map (·.born) = List.range' 0 es.length := h2.trans (bornsB_spec hb)
  refine ⟨?_, ?_, ?_⟩
  · intro x hx
    have : x.born ∈ xs.map (·.born) := List.mem_map.2 ⟨x, by simpa using hx, rfl⟩
    rw [hborn, List.mem_range'_1] at this
    have := beqT hc
    omega
  · show (xs.map (·.born)).Nodup
    rw [hborn]
    exact List.nodup_range'
  · show (xs.map (·.key)).Nodup
    rw [h1]
    exact List.pairwise_map.2 (hnd.imp fun {a b} hne h => hne (by simpa [encStr] using h))

theorem keysOf_spec {F : Wd} {ρ : Env} {S : St} {w : World} {g : FuncId} {args : List V} {vals : List Value} {x : Nat × Nat × List (Value × V × Nat) × Nat} (hs : SatH c F ρ S w) (h : keysOf g S args = some x)
    (hv : denL c.P c.Φ ρ args = some vals) : ∃ pb b xs, vals = [.func (.func g) #[] #[.pointer (some ⟨pb, 0, none⟩)]] ∧ w.cell? ⟨pb, 0, none⟩ = some (.map (some b)) ∧ denE c ρ x.2.2.1 = some xs ∧ w.heap[b]? = some (.map xs.toArray x.2.2.2) := by
  unfold keysOf at h
  split at h
  · rename_i g' f l
    rw [Option.bind_eq_some_iff] at h
    obtain ⟨n, hn, h⟩ := h
    split at hn
    · rename_i n'
      obtain ⟨hg, hn⟩ := bif_none hn
      simp only [Option.some.injEq] at hn
      subst hn
      obtain rfl := beqT hg
      rw [Option.bind_eq_some_iff] at h
      obtain ⟨e, he, h⟩ := h
      split at h
      · rename_i m T more
        rw [Option.bind_eq_some_iff] at h
        obtain ⟨e2, he2, h⟩ := h
        split at h
        · rename_i es clock
          simp only [Option.some.injEq] at h
          subst h
          obtain ⟨pb, ys, tail, hpb, hys, hheap, _⟩ := hs.ents n' _ he
          obtain ⟨b, xs, hb, hxs, hh⟩ := look_map hs he2
          simp only [denL, Option.bind_eq_some_iff, Option.map_eq_some_iff] at hys
          obtain ⟨y, hy, _, hl, rfl⟩ := hys
          simp only [Option.some.injEq] at hl
          subst hl
          obtain ⟨b', hb', rfl⟩ := den_map_inv hy
          rw [hb] at hb'; cases hb'
          refine ⟨pb, b, xs, ?_, ?_, hxs, hh⟩
          · simp only [denL, den, D, hpb, Option.bind_some, Option.map_some, single, Option.some.injEq, List.append_nil] at hv
            exact hv.symm
          · simp [World.cell?, hheap]
        · cases h
      · cases h
    · cases hn
  · cases h

theorem SatH.next {F : Wd} {ρ : Env} {S : St} {w : World} (h : SatH c F ρ S w) (n : Nat) : SatH c F ρ (S.withNext n) w := h.congr rfl rfl

theorem sortedX_ok {f g : FuncId} {K : TypeId} (hc : SortsKeys c.P f g K) {F : Wd} {S : St} {args : List V} {L : List (V × St)} (h : sortedX g K S args = some L) : (∀ v S', (v, S') ∈ L → Unch S S') ∧
    ∀ ρ w vals, SatH c F ρ S w → denL c.P c.Φ ρ args = some vals → ∀ Kt : Value → World → Prop,
      (∀ v S', (v, S') ∈ L → ∀ ρ' w' x, Le ρ ρ' → SatH c F ρ' S' w' → den c.P c.Φ ρ' v = some x → Kt x w') →
      ∀ R : Ending → World → Prop, (∀ x w, Kt x w → R (.returned x) w) → Calls c.P f vals.toArray w R := by
  unfold sortedX at h
  rw [Option.bind_eq_some_iff] at h
  obtain ⟨x, hx, h⟩ := h
  rw [Option.bind_eq_some_iff] at h
  obtain ⟨ks, hks, h⟩ := h
  obtain ⟨hb, h⟩ := bif_none h
  simp only [Option.some.injEq] at h
  subst h
  simp only [Bool.and_eq_true] at hb
  obtain ⟨⟨⟨⟨⟨⟨⟨⟨b1, b2⟩, b3⟩, b4⟩, b5⟩, b6⟩, b7⟩, b8⟩, b9⟩ := hb
  refine ⟨fun v S' hm => ?_, fun ρ w vals hs hv Kt hK R hR => ?_⟩
  · simp only [List.mem_singleton, Prod.mk.injEq] at hm
    obtain ⟨_, rfl⟩ := hm
    exact ((Unch.put _ _ _).trans (Unch.put _ _ _)).trans ⟨fun _ h => h, fun _ _ => rfl⟩
  · obtain ⟨pb, b, xs, rfl, hcell, hxs, hheap⟩ := keysOf_spec hs hx hv
    obtain ⟨k1, k2, k3⟩ := keysL_spec hxs hks
    have hperm := sortB_perm ks
    have hlen : (sortB ks).length = ks.length := hperm.length_eq
    have hst := stamped_of hxs hks b4 b5 (nodupB_spec b2)
    have b7' : ks.length ≤ 1000 := by rw [← hlen]; exact Nat.le_of_ble_eq_true b7
    refine (hc pb b x.2.2.2 xs ks w hcell hheap hst k1 (fun s hs' => Nat.le_of_ble_eq_true (List.all_eq_true.1 b3 s hs')) b7').mono ?_
    rintro e w' ⟨v, ss, rfl, hss, ⟨hrl, hrow⟩, hbel⟩
    have hms : ss.mergeSort (fun x y => decide (x ≤ y)) = sortB ks := by
      have e1 := mergeSort_of_perm (hss.trans hperm.symm)
      refine e1.trans (List.mergeSort_of_pairwise ?_)
      exact (risingB_sorted b1).imp fun h => by simpa using h
    have hsl : ss.length = (sortB ks).length := by rw [hlen]; exact hss.length_eq
    have hne : (sortB ks).length ≠ 0 := by
      intro e
      simp only [Bool.not_eq_true'] at b6
      rw [e] at b6; cases b6
    rcases hrow with ⟨_, hz⟩ | ⟨gb, cap, cur, rfl, hge, hgb, hcap, _, hcs, htake⟩
    · exact absurd (hsl.symm.trans hz) hne
    · rw [hms] at htake
      rw [Nat.mul_one, hsl] at htake
      rw [Nat.mul_one] at hcs
      have hstr : ∀ (ρ' : Env), denL c.P c.Φ ρ' ((sortB ks).map fun s => V.k (.string ⟨s.toArray⟩)) = some ((sortB ks).map encStr) := by
        intro ρ'
        have := denL_ks (P := c.P) (Φ := c.Φ) (ρ := ρ') ((sortB ks).map encStr)
        rw [List.map_map] at this
        exact this
      have w1 := hs.grows hbel
      obtain ⟨l1, w2⟩ := w1.newVar (n := S.next + 1) (x := .int .i64 (Int.ofNat cap)) (ty := .natGe (sortB ks).length) b9 ⟨cap, rfl, by rw [← hsl]; exact hcap⟩ rfl
      have hfr : (S.put (S.next + 1) (.val (.natGe (sortB ks).length))).fresh S.next = true := fresh_put b8 (by omega)
      have hcur : cur = ((sortB ks).map encStr ++ cur.toList.drop (sortB ks).length).toArray := by
        apply Array.ext'
        show cur.toList = (sortB ks).map encStr ++ cur.toList.drop (sortB ks).length
        rw [← htake]
        exact (List.take_append_drop _ _).symm
      obtain ⟨l2, w3⟩ := w2.adopt (n := S.next) (b := gb) (T := K) (more := some (S.next + 1, 1)) (cells := (sortB ks).map fun s => V.k (.string ⟨s.toArray⟩)) (xs := (sortB ks).map encStr) (tail := cur.toList.drop (sortB ks).length) hfr
        (by rw [← hcur]; exact hgb) (fun hF => absurd (Nat.lt_of_lt_of_le (hs.fr gb hF).2 hs.size) (by omega)) (by
          intro m hlm hbm
          rcases live_put hlm with ⟨_, e⟩ | ⟨hne2, hlm⟩
          · cases e
          rw [upd_other _ _ hne2] at hbm
          have := hs.lives hlm hbm
          omega) (hstr _) ⟨cap, upd_self _ _ _, by
            have h1 : ((sortB ks).map encStr ++ cur.toList.drop (sortB ks).length).length = cur.size := by
              conv => rhs; rw [hcur]
              simp
            rw [← List.length_append, h1, hcs, Nat.mul_one]⟩
      refine hR _ _ (hK _ _ (List.mem_singleton.2 rfl) _ w' _ (l1.trans l2) (w3.next _) ?_)
      have hd : den c.P c.Φ (upd (upd ρ (S.next + 1) (.int .i64 (Int.ofNat cap))) S.next (.pointer (some ⟨gb, 0, none⟩))) (.slice S.next 0 (natV (sortB ks).length) (.var (S.next + 1))) = some (.slice (some ⟨gb, 0, none⟩) (sortB ks).length cap) := by
        refine den_slice (by rw [upd_self]; rfl) (D_natV _) (D_var ?_)
        rw [upd_other _ _ (by omega), upd_self]
      rw [hd, hsl]

theorem sorted_tr {f g : FuncId} {K : TypeId} (hc : SortsKeys c.P f g K) {F : Wd} : TrOk c F f (sortedX g K) := fun _ _ _ h => sortedX_ok hc h
end
end Go.Proofs.YtfhkjlncblnnmaaGreat.Sx
