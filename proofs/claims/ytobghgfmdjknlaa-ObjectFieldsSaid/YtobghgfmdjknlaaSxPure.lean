/- Symbolic execution: a truth that a form's outcomes tell is a function of its variables. -/
import Derived.Test.YtobghgfmdjknlaaSxLem
namespace Go.Proofs.Ytobghgfmdjknlaa.Sx
open Go Go.RowKit
set_option linter.unusedSectionVars false

noncomputable section
/-- Do two outcomes shut one another out? -/
def shuts (o p : Out) : Bool := o.facts.any fun g => p.facts.any fun h => an (V.eq g.1 h.1) (!(g.2 == h.2))
/-- Do two outcomes tell one thing outright? -/
def sameLit (o p : Out) : Bool := match o.val, p.val with
  | .k (.bool a), .k (.bool b) => a == b
  | _, _ => false
def pairsB : List Out → Bool
  | [] => true
  | o :: r => an (r.all fun p => bif sameLit o p then true else shuts o p) (pairsB r)
/-- The outcomes are truths on the variables alone, and shut one another out. -/
def boolish (c : Cfg) (L : Lem) : Bool := an L.pre.isEmpty (an L.blks.isEmpty (an (pairsB L.outs) (L.outs.all fun o => an o.news.isEmpty (an (o.facts.all fun g => freeV (valsTr L.tys 0 .leaf) g.1) (an (freeV (valsTr L.tys 0 .leaf) o.val) (match tyOf c (stOf L.tys [] []) o.val with
  | some .bool => true
  | _ => false))))))
end

section
variable {c : Cfg}
def envL (xs : List Value) : Env := fun i => xs[i]?
theorem pairs_ok : ∀ {l : List Out}, pairsB l = true → ∀ o p, o ∈ l → p ∈ l → o = p ∨ (sameLit o p = true ∨ shuts o p = true) ∨ (sameLit p o = true ∨ shuts p o = true)
  | [], _, o, p, ho, _ => by cases ho
  | x :: r, h, o, p, ho, hp => by
    unfold pairsB at h
    rw [an_eq, Bool.and_eq_true, List.all_eq_true] at h
    have rel : ∀ q, q ∈ r → sameLit x q = true ∨ shuts x q = true := by
      intro q hq
      rcases bif_some' (h.1 q hq) with ⟨h1, _⟩ | ⟨_, h1⟩
      · exact .inl h1
      · exact .inr h1
    rcases List.mem_cons.1 ho with rfl | ho
    · rcases List.mem_cons.1 hp with rfl | hp
      · exact .inl rfl
      · exact .inr (.inl (rel p hp))
    · rcases List.mem_cons.1 hp with he | hp
      · exact .inr (.inr (by rw [he]; exact rel o ho))
      · exact pairs_ok h.2 o p ho hp

open Classical in
/-- The truth that a form's outcomes tell. -/
noncomputable def trueOf (c : Cfg) (L : Lem) (xs : List Value) : Bool := decide (∃ o, o ∈ L.outs ∧ den c.P c.Φ (envL xs) o.val = some (.bool true) ∧ ∀ g, g ∈ o.facts → den c.P c.Φ (envL xs) g.1 = some (.bool g.2))

theorem shuts_no {o p : Out} {ρ : Env} {P : Program} {Φ : Nat → List Value → Option Value} (h : shuts o p = true) (ho : ∀ g, g ∈ o.facts → den P Φ ρ g.1 = some (.bool g.2)) (hp : ∀ g, g ∈ p.facts → den P Φ ρ g.1 = some (.bool g.2)) : False := by
  unfold shuts at h
  rw [List.any_eq_true] at h
  obtain ⟨g, hg, h⟩ := h
  rw [List.any_eq_true] at h
  obtain ⟨k, hk, h⟩ := h
  rw [an_eq, Bool.and_eq_true] at h
  obtain ⟨he, hne⟩ := h
  have e1 := ho g hg
  have e2 := hp k hk
  rw [← V.eq_eq he, e1] at e2
  simp only [Option.some.injEq, Value.bool.injEq] at e2
  rw [e2] at hne
  simp at hne
theorem sameLit_den {o p : Out} {ρ : Env} {P : Program} {Φ : Nat → List Value → Option Value} (h : sameLit o p = true) : den P Φ ρ o.val = den P Φ ρ p.val := by
  unfold sameLit at h
  split at h
  · rename_i a b h1 h2
    rw [h1, h2]
    simp only [beq_iff_eq] at h
    rw [h]
  · cases h

theorem vals_has {tys : List Ty} {n : Nat} (hn : has (valsTr tys 0 .leaf) n = true) : n < tys.length := by
  unfold has at hn
  rw [valsTr_get, Tr.get_leaf] at hn
  by_cases h : n < tys.length
  · exact h
  · rw [if_neg (by omega)] at hn; cases hn

open Classical in
theorem trueOf_ok [COk c] {f : FuncId} {L : Lem} (hL : LemOk c f L) (hb : boolish c L = true) {xs : List Value} (hx : All2 hasTy xs L.tys) {vals : List Value} (hv : D c.P c.Φ (envL xs) (chain L.args) = some vals) (w : World) (hi : c.inv w) (hl : ∀ b, b < c.low → b < w.heap.size) :
    Calls c.P f vals.toArray w fun e w' => e = .returned (.bool (trueOf c L xs)) ∧ Below w.heap.size w w' := by
  unfold boolish at hb
  simp only [an_eq, Bool.and_eq_true] at hb
  obtain ⟨hpre, hblk, hpairs, hout⟩ := hb
  rw [List.all_eq_true] at hout
  have hpre : L.pre = [] := by simpa using hpre
  have hblk : L.blks = [] := by simpa using hblk
  have hget : ∀ {xs : List Value} {ts : List Ty}, All2 hasTy xs ts → ∀ (i : Nat) (t : Ty), ts[i]? = some t → ∃ x, xs[i]? = some x ∧ hasTy x t := by
    intro xs ts h
    induction h with
    | nil => intro i t h; simp at h
    | cons hx _ ih =>
      intro i t h
      cases i with
      | zero => simp only [List.getElem?_cons_zero, Option.some.injEq] at h; subst h; exact ⟨_, rfl, hx⟩
      | succ i => rw [List.getElem?_cons_succ] at h ⊢; exact ih i t h
  refine (hL (envL xs) w vals hi hl (hget hx) (fun j cs T h => by rw [hblk] at h; simp at h) (fun j j' b h => by rw [hblk] at h; simp at h) (fun g hg => by rw [hpre] at hg; cases hg) hv).mono ?_
  rintro e w' ⟨hbel, o, ys, x, ho, hys, hfacts, hval, rfl⟩
  have h1 := hout o ho
  simp only [Bool.and_eq_true] at h1
  obtain ⟨hn, hfree, hvf, hk⟩ := h1
  rw [List.all_eq_true] at hfree
  have hn : o.news = [] := by simpa using hn
  rw [hn] at hys
  cases hys
  have hag : ∀ n, has (valsTr L.tys 0 .leaf) n = true → withNews (envL xs) (L.tys.length + L.blks.length) [] n = envL xs n := by
    intro n hn
    have hlt := vals_has hn
    unfold withNews
    rw [show Nat.blt n (L.tys.length + L.blks.length) = true from Nat.ble_eq_true_of_le (by omega)]
    rfl
  have hf : ∀ g, g ∈ o.facts → den c.P c.Φ (envL xs) g.1 = some (.bool g.2) := by
    intro g hg
    rw [← den_free hag (hfree g hg)]
    exact hfacts g hg
  rw [den_free hag hvf] at hval
  refine ⟨?_, hbel⟩
  -- what it comes to is a truth
  have hs : SatH c ⟨w, fun _ => False⟩ (fun i => if i < L.tys.length then xs[i]? else none) (stOf L.tys [] []) w := by
    have hg : ∀ n, (stOf L.tys [] []).heap.get n = if n < L.tys.length then (L.tys[n]?).map Ent.val else none := by
      intro n
      rw [stOf_get]
      by_cases h : n < L.tys.length
      · rw [if_pos h, if_pos h]
      · rw [if_neg h, if_neg h]; simp
    have nolive : ∀ n, live (stOf L.tys [] []) n → False := by
      rintro n ⟨e, he, hlive⟩
      rw [hg] at he
      split at he
      · rw [Option.map_eq_some_iff] at he
        obtain ⟨t, _, rfl⟩ := he
        cases hlive
      · cases he
    refine ⟨?_, ?_, ?_, fun n m b h => (nolive n h).elim, fun b h => h.elim, Nat.le_refl _, fun n b h => (nolive n h).elim, rfl, rfl, rfl, fun g hg => by cases hg⟩
    · intro n e he
      rw [hg] at he
      split at he
      · rename_i hlt
        rw [Option.map_eq_some_iff] at he
        obtain ⟨t, ht, rfl⟩ := he
        obtain ⟨y, hy, hyt⟩ := hget hx n t ht
        exact ⟨y, by simp only [if_pos hlt]; exact hy, hyt⟩
      · cases he
    · intro n hn
      rw [hg] at hn
      split at hn
      · rename_i hlt
        rw [List.getElem?_eq_getElem hlt] at hn
        cases hn
      · rename_i hlt; exact if_neg hlt
    · intro n y hy
      split at hy
      · rename_i hlt
        obtain ⟨z, hz, hzt⟩ := hget hx n _ (List.getElem?_eq_getElem hlt)
        rw [hz] at hy; cases hy
        exact hasTy_scalar hzt
      · cases hy
  have hbool : ∃ b, x = .bool b := by
    split at hk
    · rename_i hty
      obtain ⟨y, hy, b, rfl⟩ := tyOf_ok hs hty
      have : den c.P c.Φ (fun i => if i < L.tys.length then xs[i]? else none) o.val = den c.P c.Φ (envL xs) o.val :=
        den_free (fun n hn => if_pos (vals_has hn)) hvf
      rw [this, hval] at hy
      cases hy
      exact ⟨b, rfl⟩
    · cases hk
  obtain ⟨b, rfl⟩ := hbool
  congr 2
  unfold trueOf
  cases b with
  | true =>
    symm
    rw [decide_eq_true_eq]
    exact ⟨o, ho, hval, hf⟩
  | false =>
    symm
    rw [decide_eq_false_iff_not]
    rintro ⟨p, hp, hpv, hpf⟩
    rcases pairs_ok hpairs o p ho hp with rfl | (h | h) | (h | h)
    · rw [hval] at hpv; cases hpv
    · rw [sameLit_den h, hpv] at hval; cases hval
    · exact shuts_no h hf hpf
    · rw [← sameLit_den h, hpv] at hval; cases hval
    · exact shuts_no h hpf hf
end
end Go.Proofs.Ytobghgfmdjknlaa.Sx
