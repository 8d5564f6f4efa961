/- Symbolic execution: what was found of a call at arguments of a form serves wherever the form fits. -/
import Derived.Test.YtobghgfmdjknlaaSxTop
namespace Go.Proofs.Ytobghgfmdjknlaa.Sx
open Go Go.RowKit
set_option linter.unusedSectionVars false

section
variable {c : Cfg} {F : Wd} {ρ : Env} {S : St} {w : World}

/-- Fresh things behind what there is. -/
def withNews (ρ : Env) (n : Nat) (ys : List Value) : Env := fun i => bif Nat.blt i n then ρ i else ys[i - n]?

/-- A form tells the truth of a function. -/
def LemOk (c : Cfg) (f : FuncId) (L : Lem) : Prop := ∀ (ρ : Env) (w : World) (vals : List Value), c.inv w → (∀ b, b < c.low → b < w.heap.size) →
  (∀ i t, L.tys[i]? = some t → ∃ x, ρ i = some x ∧ hasTy x t) →
  (∀ j cs T, L.blks[j]? = some (cs, T) → ∃ b xs, blockOf (ρ (L.tys.length + j)) = some b ∧ D c.P c.Φ ρ (chain cs) = some xs ∧ w.heap[b]? = some (.cells xs.toArray T (0, 0)) ∧ c.low ≤ b) →
  (∀ j j' b, j < L.blks.length → j' < L.blks.length → blockOf (ρ (L.tys.length + j)) = some b → blockOf (ρ (L.tys.length + j')) = some b → j = j') →
  (∀ g, g ∈ L.pre → ∀ z, den c.P c.Φ ρ g.1 = some (.bool z) → z = g.2) → D c.P c.Φ ρ (chain L.args) = some vals →
  Calls c.P f vals.toArray w fun e w' => Below w.heap.size w w' ∧ ∃ o ys x, o ∈ L.outs ∧ All2 hasTy ys o.news ∧
    (∀ g, g ∈ o.facts → den c.P c.Φ (withNews ρ (L.tys.length + L.blks.length) ys) g.1 = some (.bool g.2)) ∧ den c.P c.Φ (withNews ρ (L.tys.length + L.blks.length) ys) o.val = some x ∧ e = .returned x

/-! ### a form out of a run -/
theorem valsTr_get : ∀ (ts : List Ty) (k : Nat) (h : Tr Ent) (n : Nat), (valsTr ts k h).get n = if k ≤ n ∧ n < k + ts.length then (ts[n - k]?).map Ent.val else h.get n
  | [], k, h, n => by
    simp only [valsTr, List.length_nil, Nat.add_zero]
    rw [if_neg (by omega)]
  | t :: r, k, h, n => by
    rw [valsTr, valsTr_get r (k + 1) _ n, Tr.get_set]
    by_cases h1 : k + 1 ≤ n ∧ n < k + 1 + r.length
    · rw [if_pos h1, if_pos (by simp; omega)]
      rw [show n - k = (n - (k + 1)) + 1 by omega, List.getElem?_cons_succ]
    · rw [if_neg h1]
      by_cases h2 : n = k
      · subst h2
        rw [if_pos rfl, if_pos (by simp)]
        simp
      · rw [if_neg h2, if_neg (by simp; omega)]
theorem blksTr_get : ∀ (bs : List (List V × TypeId)) (k : Nat) (h : Tr Ent) (n : Nat), (blksTr bs k h).get n = if k ≤ n ∧ n < k + bs.length then (bs[n - k]?).map (fun b => Ent.blk b.1 b.2 none) else h.get n
  | [], k, h, n => by
    simp only [blksTr, List.length_nil, Nat.add_zero]
    rw [if_neg (by omega)]
  | (cs, T) :: r, k, h, n => by
    rw [blksTr, blksTr_get r (k + 1) _ n, Tr.get_set]
    by_cases h1 : k + 1 ≤ n ∧ n < k + 1 + r.length
    · rw [if_pos h1, if_pos (by simp; omega)]
      rw [show n - k = (n - (k + 1)) + 1 by omega, List.getElem?_cons_succ]
    · rw [if_neg h1]
      by_cases h2 : n = k
      · subst h2
        rw [if_pos rfl, if_pos (by simp)]
        simp
      · rw [if_neg h2, if_neg (by simp; omega)]

theorem stOf_get (tys : List Ty) (blks : List (List V × TypeId)) (pre : List (V × Bool)) (n : Nat) : (stOf tys blks pre).heap.get n =
    if n < tys.length then (tys[n]?).map Ent.val else (blks[n - tys.length]?).map fun b => Ent.blk b.1 b.2 none := by
  show (blksTr blks tys.length (valsTr tys 0 .leaf)).get n = _
  rw [blksTr_get, valsTr_get, Tr.get_leaf]
  by_cases h : n < tys.length
  · rw [if_pos h, if_neg (by omega), if_pos (by omega)]
    simp
  · rw [if_neg h]
    by_cases h2 : n < tys.length + blks.length
    · rw [if_pos (by omega)]
    · rw [if_neg (by omega), if_neg (by omega), List.getElem?_eq_none (by omega)]
      rfl

theorem pcMem_ok {f : V × Bool} : ∀ {l : List (V × Bool)}, pcMem f l = true → f ∈ l
  | [], h => by cases h
  | g :: r, h => by
    unfold pcMem at h
    rcases bif_some' h with ⟨hg, _⟩ | ⟨_, h⟩
    · rw [an_eq, Bool.and_eq_true, beq_iff_eq] at hg
      have : f = g := Prod.ext (V.eq_eq hg.2) hg.1
      rw [this]; exact List.mem_cons_self ..
    · exact List.mem_cons_of_mem _ (pcMem_ok h)

theorem denL_free {P : Program} {Φ : Nat → List Value → Option Value} {ρ' : Env} {h : Tr Ent} (hag : ∀ n, has h n = true → ρ' n = ρ n) : ∀ {l : List V}, l.all (freeV h) = true → denL P Φ ρ' l = denL P Φ ρ l
  | [], _ => rfl
  | v :: r, hf => by
    rw [List.all_cons, Bool.and_eq_true] at hf
    simp only [denL, den_free hag hf.1, denL_free hag hf.2]

theorem denL_chain {P : Program} {Φ : Nat → List Value → Option Value} {ρ : Env} : ∀ {l : List V} {ys : List Value}, l.all oneV = true → D P Φ ρ (chain l) = some ys → denL P Φ ρ l = some ys
  | [], _, _, h => h
  | a :: r, ys, ho, h => by
    rw [List.all_cons, Bool.and_eq_true] at ho
    simp only [chain, D, Option.bind_eq_some_iff, Option.map_eq_some_iff] at h
    obtain ⟨as, ha, bs, hb, rfl⟩ := h
    obtain ⟨x, rfl⟩ := one_single ho.1 ha
    simp [denL, den, ha, single, denL_chain ho.2 hb]
theorem all_and {α : Type} {l : List α} {p q : α → Bool} (h : l.all (fun v => p v && q v) = true) : l.all p = true ∧ l.all q = true := by
  rw [List.all_eq_true] at h
  simp only [Bool.and_eq_true] at h
  exact ⟨List.all_eq_true.2 fun x hx => (h x hx).1, List.all_eq_true.2 fun x hx => (h x hx).2⟩

theorem lem_of_run [COk c] [s : SAll c] {f : FuncId} {L : Lem} {n : Nat} (h : lemRun c L (exec c n (.call f L.args) (stOf L.tys L.blks L.pre)) = true) : LemOk c f L := by
  intro ρ0 w vals hinv hlow htys hblks hdis hpre hargs
  unfold lemRun at h
  split at h
  case h_2 => cases h
  rename_i l hl
  simp only [an_eq, Bool.and_eq_true] at h
  obtain ⟨f1, f2, f3, h⟩ := h
  rw [List.all_eq_true] at h f2 f3
  generalize hS0 : stOf L.tys L.blks L.pre = S0 at *
  have hget : ∀ n, S0.heap.get n = if n < L.tys.length then (L.tys[n]?).map Ent.val else (L.blks[n - L.tys.length]?).map fun b => Ent.blk b.1 b.2 none := by
    intro n; rw [← hS0]; exact stOf_get ..
  -- the names that are not the form's own are struck
  let ρ : Env := fun i => if has S0.heap i = true then ρ0 i else none
  have hag : ∀ n, has S0.heap n = true → ρ n = ρ0 n := fun n hn => if_pos hn
  have hagr : ∀ n, has S0.heap n = true → ρ0 n = ρ n := fun n hn => (hag n hn).symm
  have hhas : ∀ n, has S0.heap n = true ↔ n < L.tys.length + L.blks.length := by
    intro n
    unfold has
    rw [hget]
    constructor
    · intro h
      by_cases h1 : n < L.tys.length
      · omega
      · rw [if_neg h1] at h
        by_cases h2 : n - L.tys.length < L.blks.length
        · omega
        · rw [List.getElem?_eq_none (by omega)] at h
          cases h
    · intro h
      by_cases h1 : n < L.tys.length
      · rw [if_pos h1, List.getElem?_eq_getElem h1]; rfl
      · rw [if_neg h1, List.getElem?_eq_getElem (by omega)]; rfl
  have hnt : ∀ i, i < L.tys.length + L.blks.length → ρ i = ρ0 i := fun i hi => hag i ((hhas i).2 hi)
  let F : Wd := ⟨w, fun b => b < w.heap.size ∧ ∀ j, j < L.blks.length → blockOf (ρ (L.tys.length + j)) ≠ some b⟩
  have hlive : ∀ n, live S0 n → ∃ j, n = L.tys.length + j ∧ j < L.blks.length := by
    rintro n ⟨e, he, ho⟩
    rw [hget] at he
    by_cases h1 : n < L.tys.length
    · rw [if_pos h1, Option.map_eq_some_iff] at he
      obtain ⟨t, _, rfl⟩ := he
      cases ho
    · rw [if_neg h1, Option.map_eq_some_iff] at he
      obtain ⟨b, hb, rfl⟩ := he
      exact ⟨n - L.tys.length, by omega, (List.getElem?_eq_some_iff.1 hb).1⟩
  have hblk : ∀ j cs T, L.blks[j]? = some (cs, T) → ∃ b xs, blockOf (ρ (L.tys.length + j)) = some b ∧ denL c.P c.Φ ρ cs = some xs ∧ w.heap[b]? = some (.cells xs.toArray T (0, 0)) := by
    intro j cs T hj
    obtain ⟨b, xs, h1, h2, h3, _⟩ := hblks j cs T hj
    have hjl := (List.getElem?_eq_some_iff.1 hj).1
    refine ⟨b, xs, by rw [hnt _ (by omega)]; exact h1, ?_, h3⟩
    have hf := all_and (f3 _ (List.mem_of_getElem? hj))
    rw [denL_free hag hf.2]
    exact denL_chain hf.1 h2
  have hs00 : SatH c F ρ (withPc S0 []) w := by
    refine ⟨?_, ?_, ?_, ?_, fun b hb => ⟨rfl, hb.1⟩, Nat.le_refl _, ?_, rfl, rfl, rfl, fun g hg => by cases hg⟩
    · intro n e he
      replace he : S0.heap.get n = some e := he
      rw [hget] at he
      by_cases h1 : n < L.tys.length
      · rw [if_pos h1, Option.map_eq_some_iff] at he
        obtain ⟨t, ht, rfl⟩ := he
        obtain ⟨x, hx, hxt⟩ := htys n t ht
        exact ⟨x, by rw [hnt n (by omega)]; exact hx, hxt⟩
      · rw [if_neg h1, Option.map_eq_some_iff] at he
        obtain ⟨⟨cs, T⟩, hb, rfl⟩ := he
        obtain ⟨b, xs, h2, h3, h4⟩ := hblk _ _ _ hb
        refine ⟨b, xs, [], ?_, h3, by rw [List.append_nil]; exact h4, rfl⟩
        rw [show n = L.tys.length + (n - L.tys.length) by omega]; exact h2
    · intro n hn
      replace hn : S0.heap.get n = none := hn
      refine if_neg ?_
      unfold has
      rw [hn]
      simp
    · intro n x hx
      replace hx : (if has S0.heap n = true then ρ0 n else none) = some x := hx
      by_cases hn : has S0.heap n = true
      · rw [if_pos hn] at hx
        have hlt := (hhas n).1 hn
        by_cases h1 : n < L.tys.length
        · obtain ⟨y, hy, hyt⟩ := htys n _ (List.getElem?_eq_getElem h1)
          rw [hx] at hy; cases hy
          exact hasTy_scalar hyt
        · obtain ⟨b, xs, h2, _⟩ := hblks (n - L.tys.length) _ _ (List.getElem?_eq_getElem (by omega))
          rw [show L.tys.length + (n - L.tys.length) = n by omega, hx] at h2
          unfold blockOf at h2
          split at h2
          · rename_i heq; cases heq; rfl
          · cases h2
      · rw [if_neg hn] at hx; cases hx
    · intro n m b hn hm h1 h2
      obtain ⟨j, rfl, hj⟩ := hlive n hn
      obtain ⟨j', rfl, hj'⟩ := hlive m hm
      rw [hnt _ (by omega)] at h1 h2
      rw [hdis j j' b hj hj' h1 h2]
    · intro n b hn hb hfr
      obtain ⟨j, rfl, hj⟩ := hlive n hn
      exact hfr.2 j hj hb
  have hs : SatH c F ρ S0 w := by
    have hsk := hs00
    obtain ⟨a1, a2, a3, a4, a5, a6, a7, a8, a9, a10, _⟩ := hsk
    refine ⟨a1, a2, a3, a4, a5, a6, a7, a8, a9, a10, ?_⟩
    intro g hg
    have hpc : S0.pc = L.pre := by rw [← hS0]; rfl
    rw [hpc] at hg
    have hf := f2 g hg
    rw [Bool.and_eq_true] at hf
    have h1 := hf.2
    split at h1
    · rename_i hty
      have hst : stOf L.tys L.blks [] = withPc S0 [] := by rw [← hS0]; rfl
      rw [hst] at hty
      obtain ⟨x, hx, z, rfl⟩ := tyOf_ok hs00 hty
      rw [hx]
      have := hpre g hg z (by rw [← den_free hag hf.1]; exact hx)
      rw [this]
    · cases h1
  have hF : FOk c F := by
    refine ⟨hinv, fun b hb => ⟨hlow b hb, fun j hj hjb => ?_⟩⟩
    obtain ⟨b', xs, h1, _, _, h4⟩ := hblks j _ _ (List.getElem?_eq_getElem hj)
    rw [← hnt _ (by omega), hjb] at h1
    cases h1
    omega
  haveI := s.ok F hF
  have hv : denL c.P c.Φ ρ L.args = some vals := by rw [denL_free hag (all_and f1).2]; exact denL_chain (all_and f1).1 hargs
  refine (exec_ok (c := c) (F := F) n).call f L.args S0 l hl ρ w vals hs hv (fun x w' => Below w.heap.size w w' ∧ ∃ o ys, o ∈ L.outs ∧ All2 hasTy ys o.news ∧
    (∀ g, g ∈ o.facts → den c.P c.Φ (withNews ρ0 (L.tys.length + L.blks.length) ys) g.1 = some (.bool g.2)) ∧ den c.P c.Φ (withNews ρ0 (L.tys.length + L.blks.length) ys) o.val = some x) ?_ _ ?_
  · intro e v S' hm ρ' w' x hle hs' hx
    have hleaf := h _ hm
    rw [Bool.and_eq_true] at hleaf
    obtain ⟨hgc, hout⟩ := hleaf
    obtain ⟨hfr, hheap⟩ := gcOk_heap (S := S0) hgc (by
      have := (exec_ok (c := c) (F := F) n).synF f L.args S0 l hl e v S' hm
      have hlog : S0.withLog [] = S0 := by rw [← hS0]; rfl
      rw [hlog]
      exact this.2.2)
    have hagree := agree hs hle
    have hnw : ∀ n, has S0.heap n = true → withNews ρ0 (L.tys.length + L.blks.length) [] n = ρ0 n := by
      intro n hn
      have := (hhas n).1 hn
      unfold withNews
      rw [show Nat.blt n (L.tys.length + L.blks.length) = true from Nat.ble_eq_true_of_le this]
      rfl
    have hall : ∀ n, has S0.heap n = true → ρ' n = withNews ρ0 (L.tys.length + L.blks.length) [] n := fun n hn => (hagree n hn).trans ((hag n hn).trans (hnw n hn).symm)
    refine ⟨⟨hs'.os, hs'.tape, hs'.out, hs'.size, fun b hb => ?_⟩, ?_⟩
    · by_cases hbl : ∃ j, j < L.blks.length ∧ blockOf (ρ (L.tys.length + j)) = some b
      · obtain ⟨j, hj, hjb⟩ := hbl
        obtain ⟨⟨cs, T⟩, hcs⟩ : ∃ p, L.blks[j]? = some p := ⟨_, List.getElem?_eq_getElem hj⟩
        obtain ⟨b', xs, h1, h2, h3⟩ := hblk j cs T hcs
        rw [hjb] at h1; cases h1
        have he : S0.heap.get (L.tys.length + j) = some (.blk cs T none) := by
          rw [hget, if_neg (by omega), show L.tys.length + j - L.tys.length = j by omega, hcs]; rfl
        obtain ⟨b2, xs2, tail, h4, h5, h6, h7⟩ := hs'.ents _ _ (hheap _ _ he)
        rw [hle.blockOf hjb] at h4; cases h4
        rw [denL_mono hle h2] at h5; cases h5
        have h7 : tail = [] := h7
        subst h7
        rw [List.append_nil] at h6
        rw [h6, h3]
      · exact (hs'.fr b ⟨hb, fun j hj hjb => hbl ⟨j, hj, hjb⟩⟩).1
    · rw [List.any_eq_true] at hout
      obtain ⟨o, ho, hok⟩ := hout
      simp only [Bool.and_eq_true] at hok
      obtain ⟨hn, hval, hfacts⟩ := hok
      rw [List.all_eq_true] at hfacts
      have hnil : o.news = [] := by simpa using hn
      refine ⟨o, [], ho, by rw [hnil]; exact .nil, ?_, ?_⟩
      · intro g hg
        have hfg := hfacts g hg
        rw [Bool.and_eq_true] at hfg
        rw [← den_free hall hfg.1]
        exact hs'.pc g (pcMem_ok hfg.2)
      · rw [V.eq_eq hval, ← den_free hall hfr]
        exact hx
  · rintro x w' ⟨hb, o, ys, h1, h2, h3, h4⟩
    exact ⟨hb, o, ys, x, h1, h2, h3, h4, rfl⟩

/-! ### a form where it fits -/
noncomputable def envOf (c : Cfg) (ρ : Env) (σ : Tr V) : Env := fun i => (σ.get i).bind (den c.P c.Φ ρ)
def Ext (σ σ' : Tr V) : Prop := ∀ i u, σ.get i = some u → σ'.get i = some u
theorem Ext.refl (σ : Tr V) : Ext σ σ := fun _ _ h => h
theorem Ext.trans {a b d : Tr V} (h : Ext a b) (h' : Ext b d) : Ext a d := fun i u hu => h' i u (h i u hu)
theorem Ext.set {σ : Tr V} {i : Nat} {v : V} (h : σ.get i = none) : Ext σ (σ.set i v) := by
  intro j u hu
  rw [Tr.get_set]
  by_cases hj : j = i
  · subst hj; rw [h] at hu; cases hu
  · rw [if_neg hj]; exact hu
theorem Ext.le {σ σ' : Tr V} (h : Ext σ σ') : Le (envOf c ρ σ) (envOf c ρ σ') := by
  intro i x hx
  unfold envOf at hx ⊢
  rw [Option.bind_eq_some_iff] at hx ⊢
  obtain ⟨u, hu, hx⟩ := hx
  exact ⟨u, h i u hu, hx⟩
theorem D_le {ρ ρ' : Env} (h : Le ρ ρ') {v : V} {xs : List Value} (hv : D c.P c.Φ ρ v = some xs) : D c.P c.Φ ρ' v = some xs := D_mono h (fun _ _ _ h => h) hv

theorem mtchB_ok {j n : Nat} {σ σ' : Tr V} (h : mtchB j n σ = some σ') : Ext σ σ' ∧ σ'.get j = some (.ptr n 0) := by
  unfold mtchB at h
  split at h
  · rename_i u hu
    obtain ⟨hg, h⟩ := bif_none h
    simp only [Option.some.injEq] at h; subst h
    rw [V.eq_eq hg] at hu
    exact ⟨.refl σ, hu⟩
  · rename_i hn
    simp only [Option.some.injEq] at h; subst h
    exact ⟨.set hn, by rw [Tr.get_set, if_pos rfl]⟩
theorem env_block [COk c] {σ : Tr V} {j n b : Nat} (h : σ.get j = some (.ptr n 0)) (hb : blockOf (ρ n) = some b) : blockOf (envOf c ρ σ j) = some b := by
  unfold envOf
  rw [h, Option.bind_some, den_ptr hb]
  rfl

theorem mtch_ok [COk c] : ∀ {p v : V} {σ σ' : Tr V}, mtch p v σ = some σ' → Ext σ σ' ∧ ∀ {ρ : Env} {xs : List Value}, D c.P c.Φ ρ v = some xs → D c.P c.Φ (envOf c ρ σ') p = some xs := by
  intro p
  induction p with
  | k x =>
    intro v σ σ' h
    unfold mtch at h
    split at h
    · obtain ⟨hg, h⟩ := bif_none h
      simp only [Option.some.injEq] at h; subst h
      refine ⟨.refl σ, fun {ρ xs} hd => ?_⟩
      rw [kEq_eq hg]; exact hd
    · cases h
  | var i =>
    intro v σ σ' h
    unfold mtch at h
    obtain ⟨ho, h⟩ := bif_none h
    have key : Ext σ σ' ∧ σ'.get i = some v := by
      split at h
      · rename_i u hu
        obtain ⟨hg, h⟩ := bif_none h
        simp only [Option.some.injEq] at h; subst h
        rw [V.eq_eq hg] at hu
        exact ⟨.refl σ, hu⟩
      · rename_i hn
        simp only [Option.some.injEq] at h; subst h
        exact ⟨.set hn, by rw [Tr.get_set, if_pos rfl]⟩
    refine ⟨key.1, fun {ρ xs} hd => ?_⟩
    obtain ⟨x, rfl⟩ := one_single ho hd
    have hden : den c.P c.Φ ρ v = some x := by simp [den, hd, single]
    simp [D, envOf, key.2, hden]
  | prim p a ih =>
    intro v σ σ' h
    unfold mtch at h
    split at h
    · obtain ⟨hg, h0⟩ := bif_none h
      replace hg := of_decide_eq_true hg
      subst hg
      obtain ⟨h1, h2⟩ := ih h0
      refine ⟨h1, fun {ρ xs} hd => ?_⟩
      simp only [D, Option.bind_eq_some_iff, Option.map_eq_some_iff] at hd ⊢
      obtain ⟨ys, hy, x, hx, rfl⟩ := hd
      exact ⟨ys, h2 hy, x, hx, rfl⟩
    · cases h
  | app p a ih =>
    intro v σ σ' h
    unfold mtch at h
    split at h
    · obtain ⟨hg, h0⟩ := bif_none h
      replace hg := beqT hg
      subst hg
      obtain ⟨h1, h2⟩ := ih h0
      refine ⟨h1, fun {ρ xs} hd => ?_⟩
      simp only [D, Option.bind_eq_some_iff, Option.map_eq_some_iff] at hd ⊢
      obtain ⟨ys, hy, x, hx, rfl⟩ := hd
      exact ⟨ys, h2 hy, x, hx, rfl⟩
    · cases h
  | map n => intro v σ σ' h; cases h
  | func fn f a ihf iha =>
    intro v σ σ' h
    unfold mtch at h
    split at h
    · obtain ⟨hg, h0⟩ := bif_none h
      replace hg := of_decide_eq_true hg
      subst hg
      rw [Option.bind_eq_some_iff] at h0
      obtain ⟨σ1, h1, h2⟩ := h0
      obtain ⟨e1, d1⟩ := ihf h1
      obtain ⟨e2, d2⟩ := iha h2
      refine ⟨e1.trans e2, fun {ρ xs} hd => ?_⟩
      simp only [D, Option.bind_eq_some_iff, Option.map_eq_some_iff] at hd ⊢
      obtain ⟨ys, hy, zs, hz, rfl⟩ := hd
      exact ⟨ys, D_le e2.le (d1 hy), zs, d2 hz, rfl⟩
    · cases h
  | agg p ih =>
    intro v σ σ' h
    unfold mtch at h
    split at h
    · obtain ⟨h1, h2⟩ := ih h
      refine ⟨h1, fun {ρ xs} hd => ?_⟩
      simp only [D, Option.map_eq_some_iff] at hd ⊢
      obtain ⟨ys, hy, rfl⟩ := hd
      exact ⟨ys, h2 hy, rfl⟩
    · rename_i cs
      obtain ⟨h1, h2⟩ := ih h
      refine ⟨h1, fun {ρ xs} hd => ?_⟩
      simp only [D, Option.some.injEq] at hd
      subst hd
      have := h2 (ρ := ρ) (D_chain (denL_ks cs.toList))
      simp only [D, this, Option.map_some]
    · cases h
  | tup p ih =>
    intro v σ σ' h
    unfold mtch at h
    split at h
    · obtain ⟨h1, h2⟩ := ih h
      refine ⟨h1, fun {ρ xs} hd => ?_⟩
      simp only [D, Option.map_eq_some_iff] at hd ⊢
      obtain ⟨ys, hy, rfl⟩ := hd
      exact ⟨ys, h2 hy, rfl⟩
    · rename_i cs
      obtain ⟨h1, h2⟩ := ih h
      refine ⟨h1, fun {ρ xs} hd => ?_⟩
      simp only [D, Option.some.injEq] at hd
      subst hd
      have := h2 (ρ := ρ) (D_chain (denL_ks cs.toList))
      simp only [D, this, Option.map_some]
    · cases h
  | nil =>
    intro v σ σ' h
    unfold mtch at h
    split at h
    · simp only [Option.some.injEq] at h; subst h
      exact ⟨.refl σ, fun hd => hd⟩
    · cases h
  | cons a b iha ihb =>
    intro v σ σ' h
    unfold mtch at h
    split at h
    · rw [Option.bind_eq_some_iff] at h
      obtain ⟨σ1, h1, h2⟩ := h
      obtain ⟨e1, d1⟩ := iha h1
      obtain ⟨e2, d2⟩ := ihb h2
      refine ⟨e1.trans e2, fun {ρ xs} hd => ?_⟩
      simp only [D, Option.bind_eq_some_iff, Option.map_eq_some_iff] at hd ⊢
      obtain ⟨ys, hy, zs, hz, rfl⟩ := hd
      exact ⟨ys, D_le e2.le (d1 hy), zs, d2 hz, rfl⟩
    · cases h
  | ptr j o =>
    intro v σ σ' h
    unfold mtch at h
    split at h
    · obtain ⟨hg, h⟩ := bif_none h
      obtain ⟨e1, hj⟩ := mtchB_ok h
      refine ⟨e1, fun {ρ xs} hd => ?_⟩
      simp only [D, Option.map_eq_some_iff] at hd ⊢
      obtain ⟨b, hb, rfl⟩ := hd
      exact ⟨b, env_block hj hb, by rw [beqT hg]⟩
    · cases h
  | slice j o l k ihl ihk =>
    intro v σ σ' h
    unfold mtch at h
    split at h
    · obtain ⟨hg, h⟩ := bif_none h
      simp only [Option.bind_eq_some_iff] at h
      obtain ⟨σ1, h1, σ2, h2, h3⟩ := h
      obtain ⟨e1, d1⟩ := ihl h1
      obtain ⟨e2, d2⟩ := ihk h2
      obtain ⟨e3, hj⟩ := mtchB_ok h3
      refine ⟨(e1.trans e2).trans e3, fun {ρ xs} hd => ?_⟩
      simp only [D, Option.bind_eq_some_iff, Option.map_eq_some_iff] at hd ⊢
      obtain ⟨b, hb, ls, hl, cs, hc, l', hl', c', hc', rfl⟩ := hd
      exact ⟨b, env_block hj hb, ls, D_le (e2.trans e3).le (d1 hl), cs, D_le e3.le (d2 hc), l', hl', c', hc', by rw [beqT hg]⟩
    · cases h
  | iface t p ih =>
    intro v σ σ' h
    unfold mtch at h
    split at h
    · obtain ⟨hg, h⟩ := bif_none h
      obtain ⟨h1, h2⟩ := ih h
      refine ⟨h1, fun {ρ xs} hd => ?_⟩
      simp only [D, Option.bind_eq_some_iff, Option.map_eq_some_iff] at hd ⊢
      obtain ⟨ys, hy, x, hx, rfl⟩ := hd
      exact ⟨ys, h2 hy, x, hx, by rw [beqT hg]⟩
    · obtain ⟨hg, h⟩ := bif_none h
      obtain ⟨h1, h2⟩ := ih h
      refine ⟨h1, fun {ρ xs} hd => ?_⟩
      simp only [D, Option.some.injEq] at hd
      subst hd
      simp only [D, Option.bind_eq_some_iff, Option.map_eq_some_iff]
      rename_i x _ _ _
      exact ⟨_, h2 (ρ := ρ) rfl, _, rfl, by rw [beqT hg]⟩
    · cases h

theorem sub_ok [COk c] {σ : Tr V} : ∀ {v v' : V} {xs : List Value}, sub c σ v = some v' → D c.P c.Φ (envOf c ρ σ) v = some xs → D c.P c.Φ ρ v' = some xs := by
  intro v
  induction v with
  | k x => intro v' xs h hd; simp only [sub, Option.some.injEq] at h; subst h; exact hd
  | var i =>
    intro v' xs h hd
    simp only [sub] at h
    simp only [D, envOf, h, Option.bind_some, Option.map_eq_some_iff] at hd
    obtain ⟨x, hx, rfl⟩ := hd
    simp only [den, Option.bind_eq_some_iff] at hx
    obtain ⟨ys, hy, h2⟩ := hx
    rw [single_some] at h2; subst h2
    exact hy
  | prim p a ih =>
    intro v' xs h hd
    simp only [sub, Option.map_eq_some_iff] at h
    obtain ⟨a', ha, rfl⟩ := h
    simp only [D, Option.bind_eq_some_iff, Option.map_eq_some_iff] at hd
    obtain ⟨ys, hy, x, hx, rfl⟩ := hd
    have hd' := ih ha hy
    have dflt : D c.P c.Φ ρ (.prim p a') = some [x] := by simp [D, hd', hx]
    split
    · rename_i vs hvs
      split
      · rename_i v hv
        obtain ⟨x', rfl, h1, _⟩ := primV_spec hv (D_listV hvs hd')
        rw [(Option.filter_eq_some_iff.1 hx).1] at h1
        cases h1
        rfl
      · exact dflt
    · exact dflt
  | app f a ih =>
    intro v' xs h hd
    simp only [sub, Option.map_eq_some_iff] at h
    obtain ⟨a', ha, rfl⟩ := h
    simp only [D, Option.bind_eq_some_iff, Option.map_eq_some_iff] at hd ⊢
    obtain ⟨ys, hy, x, hx, rfl⟩ := hd
    exact ⟨ys, ih ha hy, x, hx, rfl⟩
  | ptr j o =>
    intro v' xs h hd
    simp only [sub, Option.bind_eq_some_iff] at h
    obtain ⟨u, hu, h⟩ := h
    split at h
    · simp only [Option.some.injEq] at h; subst h
      simp only [D, Option.map_eq_some_iff] at hd ⊢
      obtain ⟨b, hb, rfl⟩ := hd
      unfold envOf at hb
      rw [hu, Option.bind_some] at hb
      cases hdn : den c.P c.Φ ρ (V.ptr _ 0) with
      | none => rw [hdn] at hb; cases hb
      | some x =>
        obtain ⟨b', hb', rfl⟩ := den_ptr_inv hdn
        rw [hdn] at hb
        simp only [blockOf, Option.some.injEq] at hb
        subst hb
        exact ⟨_, hb', rfl⟩
    · cases h
  | map n => intro v' xs h; cases h
  | func fn f a ihf iha =>
    intro v' xs h hd
    simp only [sub, Option.bind_eq_some_iff, Option.map_eq_some_iff] at h
    obtain ⟨f', hf', a', ha', rfl⟩ := h
    simp only [D, Option.bind_eq_some_iff, Option.map_eq_some_iff] at hd ⊢
    obtain ⟨ys, hy, zs, hz, rfl⟩ := hd
    exact ⟨ys, ihf hf' hy, zs, iha ha' hz, rfl⟩
  | slice j o l k ihl ihk =>
    intro v' xs h hd
    simp only [sub, Option.bind_eq_some_iff] at h
    obtain ⟨u, hu, h⟩ := h
    split at h
    · simp only [Option.bind_eq_some_iff, Option.map_eq_some_iff] at h
      obtain ⟨l', hl', k', hk', rfl⟩ := h
      simp only [D, Option.bind_eq_some_iff, Option.map_eq_some_iff] at hd ⊢
      obtain ⟨b, hb, ls, hl, cs, hc, l2, hl2, c2, hc2, rfl⟩ := hd
      unfold envOf at hb
      rw [hu, Option.bind_some] at hb
      cases hdn : den c.P c.Φ ρ (V.ptr _ 0) with
      | none => rw [hdn] at hb; cases hb
      | some x =>
        obtain ⟨b', hb', rfl⟩ := den_ptr_inv hdn
        rw [hdn] at hb
        simp only [blockOf, Option.some.injEq] at hb
        subst hb
        exact ⟨_, hb', ls, ihl hl' hl, cs, ihk hk' hc, l2, hl2, c2, hc2, rfl⟩
    · cases h
  | iface t v ih =>
    intro v' xs h hd
    simp only [sub, Option.map_eq_some_iff] at h
    obtain ⟨a', ha, rfl⟩ := h
    simp only [D, Option.bind_eq_some_iff, Option.map_eq_some_iff] at hd ⊢
    obtain ⟨ys, hy, x, hx, rfl⟩ := hd
    exact ⟨ys, ih ha hy, x, hx, rfl⟩
  | agg l ih =>
    intro v' xs h hd
    simp only [sub, Option.map_eq_some_iff] at h
    obtain ⟨a', ha, rfl⟩ := h
    simp only [D, Option.map_eq_some_iff] at hd ⊢
    obtain ⟨ys, hy, rfl⟩ := hd
    exact ⟨ys, ih ha hy, rfl⟩
  | tup l ih =>
    intro v' xs h hd
    simp only [sub, Option.map_eq_some_iff] at h
    obtain ⟨a', ha, rfl⟩ := h
    simp only [D, Option.map_eq_some_iff] at hd ⊢
    obtain ⟨ys, hy, rfl⟩ := hd
    exact ⟨ys, ih ha hy, rfl⟩
  | nil => intro v' xs h hd; simp only [sub, Option.some.injEq] at h; subst h; exact hd
  | cons a b iha ihb =>
    intro v' xs h hd
    simp only [sub, Option.bind_eq_some_iff, Option.map_eq_some_iff] at h
    obtain ⟨a', ha, b', hb, rfl⟩ := h
    simp only [D, Option.bind_eq_some_iff, Option.map_eq_some_iff] at hd ⊢
    obtain ⟨ys, hy, zs, hz, rfl⟩ := hd
    exact ⟨ys, iha ha hy, zs, ihb hb hz, rfl⟩
theorem sub_den [COk c] {σ : Tr V} {v v' : V} {x : Value} (h : sub c σ v = some v') (hd : den c.P c.Φ (envOf c ρ σ) v = some x) : den c.P c.Φ ρ v' = some x := by
  simp only [den, Option.bind_eq_some_iff] at hd ⊢
  obtain ⟨xs, h1, h2⟩ := hd
  exact ⟨xs, sub_ok h h1, h2⟩

theorem tyLe_ok {a b : Ty} {x : Value} (h : tyLe a b = true) (hx : hasTy x a) : hasTy x b := by
  unfold tyLe at h
  split at h
  · exact hx
  · exact floaty_ok rfl hx
  · exact hx
  · exact hx
  · exact floaty_ok rfl hx
  · exact hx
  · exact numy_ok rfl hx
  · exact floaty_ok rfl hx
  · exact hx
  · exact hx
  · exact hasTy_scalar hx
  · obtain ⟨k, rfl, hk⟩ := hx
    exact ⟨k, rfl, Nat.le_trans (bleT h) hk⟩
  · obtain ⟨k, rfl, hk⟩ := hx
    simp only [decide_eq_true_eq] at h
    exact ⟨_, rfl, by simp only [Int.ofNat_eq_natCast]; omega, fun _ e => by cases e⟩
  · obtain ⟨n, rfl, h1, h2⟩ := hx
    simp only [Bool.and_eq_true, decide_eq_true_eq] at h
    obtain ⟨⟨rfl, h3⟩, h4⟩ := h
    refine ⟨n, rfl, by omega, fun hh e => ?_⟩
    subst e
    split at h4
    · rename_i heq; cases heq
    · rename_i h' heq
      cases heq
      have := h2 _ rfl
      simp only [decide_eq_true_eq] at h4
      omega
    · cases h4
  · cases h

variable [COk c]

theorem fitsX_ok (hs : SatH c F ρ S w) {v : V} {t : Ty} (h : fitsX c S v t = true) : ∃ x, den c.P c.Φ ρ v = some x ∧ hasTy x t := by
  unfold fitsX at h
  split at h
  case h_2 => cases h
  rename_i t' ht
  obtain ⟨x, hx, hxt⟩ := tyOf_ok hs ht
  refine ⟨x, hx, ?_⟩
  replace h := bif_some' h
  rcases h with ⟨hle, _⟩ | ⟨_, h⟩
  · exact tyLe_ok hle hxt
  · split at h
    · rename_i k' l1 l2 l hh hi' hb _ 
      simp only [an_eq, Bool.and_eq_true, decide_eq_true_eq] at h
      obtain ⟨rfl, h1, h2⟩ := h
      obtain ⟨n, rfl, _⟩ := inty_ok hi' hxt
      obtain ⟨k0, m, hm, h3, h4⟩ := boundsX_ok hs hb
      rw [hx] at hm; cases hm
      have := h4 _ rfl
      exact ⟨n, rfl, by simp only at h3; omega, fun e he => by simp only [Option.some.injEq] at he; omega⟩
    · rename_i k' l1 l2 l hh hi' hb _
      simp only [an_eq, Bool.and_eq_true, decide_eq_true_eq] at h
      obtain ⟨rfl, h1⟩ := h
      obtain ⟨n, rfl, _⟩ := inty_ok hi' hxt
      obtain ⟨k0, m, hm, h3, h4⟩ := boundsX_ok hs hb
      rw [hx] at hm; cases hm
      exact ⟨n, rfl, by simp only at h3; omega, fun e he => by cases he⟩
    · cases h

theorem tysOk_ok (hs : SatH c F ρ S w) {σ : Tr V} : ∀ {l : List Ty} {k : Nat}, tysOk c S σ l k = true → ∀ i t, l[i]? = some t → ∃ x, envOf c ρ σ (k + i) = some x ∧ hasTy x t
  | [], _, _, i, t, h => by simp at h
  | t :: r, k, h, i, t', hi => by
    unfold tysOk at h
    rw [Bool.and_eq_true] at h
    cases i with
    | zero =>
      simp only [List.getElem?_cons_zero, Option.some.injEq] at hi
      subst hi
      have h1 := h.1
      split at h1
      · rename_i u hu
        obtain ⟨x, hx, hxt⟩ := fitsX_ok hs h1
        exact ⟨x, by simp [envOf, hu, hx], hxt⟩
      · cases h1
    | succ i =>
      rw [List.getElem?_cons_succ] at hi
      have := tysOk_ok hs (k := k + 1) h.2 i t' hi
      rwa [show k + 1 + i = k + (i + 1) by omega] at this

theorem blksM_ok (hs : SatH c F ρ S w) : ∀ {l : List (List V × TypeId)} {k : Nat} {seen : List Nat} {σ σ' : Tr V}, blksM S l k seen σ = some σ' →
    Ext σ σ' ∧ (∀ j cs T, l[j]? = some (cs, T) → ∃ n b xs, σ'.get (k + j) = some (.ptr n 0) ∧ live S n ∧ n ∉ seen ∧ blockOf (ρ n) = some b ∧ D c.P c.Φ (envOf c ρ σ') (chain cs) = some xs ∧ w.heap[b]? = some (.cells xs.toArray T (0, 0))) ∧
    (∀ j j' n, j < l.length → j' < l.length → σ'.get (k + j) = some (.ptr n 0) → σ'.get (k + j') = some (.ptr n 0) → j = j')
  | [], k, seen, σ, σ', h => by
    simp only [blksM, Option.some.injEq] at h; subst h
    exact ⟨.refl σ, fun j cs T hj => by simp at hj, fun j j' n hj => by simp at hj⟩
  | (cs, T) :: r, k, seen, σ, σ', h => by
    simp only [blksM, Option.bind_eq_some_iff] at h
    obtain ⟨u, hu, h⟩ := h
    split at h
    case h_2 => cases h
    rename_i n
    replace h := bif_some h
    rcases h with ⟨_, h⟩ | ⟨hseen, h⟩
    · cases h
    rw [Option.bind_eq_some_iff] at h
    obtain ⟨e, he, h⟩ := h
    split at h
    case h_2 => cases h
    rename_i cells T'
    obtain ⟨hT, h⟩ := bif_none h
    rw [Option.bind_eq_some_iff] at h
    obtain ⟨σ1, hm, h⟩ := h
    obtain ⟨e1, d1⟩ := mtch_ok (c := c) hm
    obtain ⟨e2, h2, h3⟩ := blksM_ok hs h
    obtain ⟨b, xs, tail, hb, hc, hh, htail⟩ := hs.ents n _ he
    have htail : tail = [] := htail
    subst htail
    rw [List.append_nil] at hh
    have hlive : live S n := ⟨_, he, rfl⟩
    have hget : σ'.get k = some (.ptr n 0) := e2 _ _ (e1 _ _ hu)
    have hns : n ∉ seen := by
      intro hn
      have : seen.any (Nat.beq n) = true := List.any_eq_true.2 ⟨n, hn, Nat.beq_refl n⟩
      rw [this] at hseen; cases hseen
    refine ⟨e1.trans e2, fun j cs' T2 hj => ?_, fun j j' m hj hj' g1 g2 => ?_⟩
    · cases j with
      | zero =>
        simp only [List.getElem?_cons_zero, Option.some.injEq, Prod.mk.injEq] at hj
        obtain ⟨rfl, rfl⟩ := hj
        refine ⟨n, b, xs, hget, hlive, hns, hb, ?_, by rw [beqT hT]; exact hh⟩
        exact D_le e2.le (d1 (D_chain hc))
      | succ j =>
        rw [List.getElem?_cons_succ] at hj
        obtain ⟨n', b', xs', g1, g2, g3, g4⟩ := h2 j cs' T2 hj
        exact ⟨n', b', xs', by rw [show k + (j + 1) = k + 1 + j by omega]; exact g1, g2, fun hh => g3 (List.mem_cons_of_mem _ hh), g4⟩
    · have aux : ∀ j', j' < r.length → σ'.get (k + 1 + j') = some (.ptr n 0) → False := by
        intro j' hj' hg
        obtain ⟨⟨cs', T2⟩, hcs⟩ : ∃ p, r[j']? = some p := ⟨_, List.getElem?_eq_getElem hj'⟩
        obtain ⟨n', _, _, g1, _, g3, _⟩ := h2 j' cs' T2 hcs
        rw [hg] at g1
        cases g1
        exact g3 (List.mem_cons_self ..)
      simp only [List.length_cons] at hj hj'
      cases j with
      | zero =>
        cases j' with
        | zero => rfl
        | succ j' =>
          rw [Nat.add_zero, hget] at g1
          cases g1
          exact (aux j' (by omega) (by rw [show k + 1 + j' = k + (j' + 1) by omega]; exact g2)).elim
      | succ j =>
        cases j' with
        | zero =>
          rw [Nat.add_zero, hget] at g2
          cases g2
          exact (aux j (by omega) (by rw [show k + 1 + j = k + (j + 1) by omega]; exact g1)).elim
        | succ j' =>
          have := h3 j j' m (by omega) (by omega) (by rw [show k + 1 + j = k + (j + 1) by omega]; exact g1) (by rw [show k + 1 + j' = k + (j' + 1) by omega]; exact g2)
          omega

theorem withT_heap (S : St) (n : Nat) : (S.withNext n).heap = S.heap ∧ (S.withNext n).pc = S.pc := ⟨rfl, rfl⟩

/-- Two ways to learn of a truth. -/
theorem known_pol (hs : SatH c F ρ S w) {g : V} {b : Bool} (hg : den c.P c.Φ ρ g = some (.bool b)) : SatH c F ρ (S.assume (polX g b).1 (polX g b).2) w := by
  obtain ⟨z', h1, h2⟩ := polX_den (b := b) hg
  refine hs.assume ?_
  have : z' = (polX g b).2 := by cases z' <;> cases hp : (polX g b).2 <;> simp_all
  rw [← this]; exact h1

theorem preOk_ok (hs : SatH c F ρ S w) {σ : Tr V} : ∀ {l : List (V × Bool)}, preOk c S σ l = true → ∀ g, g ∈ l → ∀ z, den c.P c.Φ (envOf c ρ σ) g.1 = some (.bool z) → z = g.2
  | [], _, g, hg, _, _ => by cases hg
  | (g, b) :: r, h, g', hg, z, hz => by
    unfold preOk at h
    rw [Bool.and_eq_true] at h
    rcases List.mem_cons.1 hg with rfl | hg
    · have h1 := h.1
      split at h1
      · rename_i g2 hsub
        split at h1
        · rename_i b' hb
          have := knownX_ok hs (sub_den hsub hz) hb
          rw [this]
          simp only [beq_iff_eq] at h1
          exact h1.symm
        · cases h1
      · cases h1
    · exact preOk_ok hs h.2 g' hg z hz

theorem factsX_ok {σ : Tr V} : ∀ {l : List (V × Bool)} {S : St} {r : Option St}, SatH c F ρ S w → factsX c σ l S = some r → (∀ g, g ∈ l → den c.P c.Φ (envOf c ρ σ) g.1 = some (.bool g.2)) → ∃ S', r = some S' ∧ SatH c F ρ S' w ∧ Kin S S'
  | [], S, r, hs, h, _ => by
    simp only [factsX, Option.some.injEq] at h; subst h
    exact ⟨S, rfl, hs, .refl S⟩
  | (g, b) :: l, S, r, hs, h, hf => by
    simp only [factsX, Option.bind_eq_some_iff] at h
    obtain ⟨g', hg', h⟩ := h
    have hd := sub_den hg' (hf _ (List.mem_cons_self ..))
    split at h
    · rename_i b' hb
      have := knownX_ok hs hd hb
      dsimp only at this
      subst this
      rw [beq_self_eq_true] at h
      exact factsX_ok hs h (fun g hg => hf g (List.mem_cons_of_mem _ hg))
    · obtain ⟨S', h1, h2, h3⟩ := factsX_ok (known_pol hs hd) h (fun g hg => hf g (List.mem_cons_of_mem _ hg))
      exact ⟨S', h1, h2, (Kin.assume _ _ _).trans h3⟩
theorem factsX_kin {σ : Tr V} : ∀ {l : List (V × Bool)} {S S' : St}, factsX c σ l S = some (some S') → Kin S S'
  | [], S, S', h => by simp only [factsX, Option.some.injEq] at h; subst h; exact .refl S
  | (g, b) :: l, S, S', h => by
    simp only [factsX, Option.bind_eq_some_iff] at h
    obtain ⟨g', hg', h⟩ := h
    split at h
    · replace h := bif_some h
      rcases h with ⟨_, h⟩ | ⟨_, h⟩
      · exact factsX_kin h
      · cases h
    · exact (Kin.assume _ _ _).trans (factsX_kin h)

theorem newsX_ok : ∀ {l : List Ty} {k : Nat} {σ σ' : Tr V} {S S' : St} {ρ : Env} {ys : List Value}, SatH c F ρ S w → newsX l k σ S = some (σ', S') → All2 hasTy ys l →
    ∃ ρ', Le ρ ρ' ∧ SatH c F ρ' S' w ∧ (∀ i, i < k → σ'.get i = σ.get i) ∧ ∀ i y, ys[i]? = some y → envOf c ρ' σ' (k + i) = some y
  | [], k, σ, σ', S, S', ρ, ys, hs, h, hy => by
    simp only [newsX, Option.some.injEq, Prod.mk.injEq] at h
    obtain ⟨rfl, rfl⟩ := h
    cases hy
    exact ⟨ρ, .refl ρ, hs, fun _ _ => rfl, fun i y hi => by simp at hi⟩
  | t :: r, k, σ, σ', S, S', ρ, ys, hs, h, hy => by
    unfold newsX at h
    obtain ⟨hf, h⟩ := bif_none h
    cases hy with
    | cons hx hr =>
      rename_i x xs
      obtain ⟨h1, h2⟩ := hs.newVar hf hx (hasTy_scalar hx)
      have h3 : SatH c F (upd ρ S.next x) ((S.put S.next (.val t)).withNext (S.next + 1)) w := h2.congr rfl rfl
      obtain ⟨ρ', hle, hs', hlow, hnew⟩ := newsX_ok h3 h hr
      refine ⟨ρ', h1.trans hle, hs', fun i hi => ?_, fun i y hi => ?_⟩
      · rw [hlow i (by omega), Tr.get_set, if_neg (by omega)]
      · cases i with
        | zero =>
          simp only [List.getElem?_cons_zero, Option.some.injEq] at hi
          subst hi
          unfold envOf
          rw [Nat.add_zero, hlow k (by omega), Tr.get_set, if_pos rfl]
          simp [den, D, hle _ _ (upd_self ρ S.next _), single]
        | succ i =>
          rw [List.getElem?_cons_succ] at hi
          have := hnew i y hi
          rwa [show k + 1 + i = k + (i + 1) by omega] at this
theorem newsX_syn : ∀ {l : List Ty} {k : Nat} {σ σ' : Tr V} {S S' : St}, newsX l k σ S = some (σ', S') → Syn S S'
  | [], k, σ, σ', S, S', h => by
    simp only [newsX, Option.some.injEq, Prod.mk.injEq] at h
    obtain ⟨_, rfl⟩ := h
    exact .refl S
  | t :: r, k, σ, σ', S, S', h => by
    unfold newsX at h
    obtain ⟨_, h⟩ := bif_none h
    have h1 : Syn S ((S.put S.next (.val t)).withNext (S.next + 1)) := ⟨rfl, rfl, (Unch.put S S.next (.val t))⟩
    exact h1.trans (newsX_syn h)

theorem lemX_tr {f : FuncId} {L : Lem} (hF : FOk c F) (hL : LemOk c f L) : TrOk c F f (lemX c L) := by
  intro S args R h
  unfold lemX at h
  replace h := bif_some h
  rcases h with ⟨_, h⟩ | ⟨_, h⟩
  · cases h
  simp only [Option.bind_eq_some_iff] at h
  obtain ⟨σ1, hm, σ, hb, h⟩ := h
  obtain ⟨hg, h⟩ := bif_none h
  rw [Bool.and_eq_true] at hg
  have outs : ∀ v S', (v, S') ∈ R → ∃ (o : Out) (σ' : Tr V) (S1 : St), newsX o.news (L.tys.length + L.blks.length) σ S = some (σ', S1) ∧ factsX c σ' o.facts S1 = some (some S') ∧ sub c σ' o.val = some v := by
    intro v S' hm
    obtain ⟨o, s, _, hs, hy⟩ := mem_bindL' h _ hm
    simp only [outX, Option.bind_eq_some_iff] at hs
    obtain ⟨⟨σ', S1⟩, h1, r, h2, hs⟩ := hs
    cases r with
    | none => simp only [Option.some.injEq] at hs; subst hs; cases hy
    | some S2 =>
      simp only [Option.map_eq_some_iff] at hs
      obtain ⟨v', hv', rfl⟩ := hs
      simp only [List.mem_singleton, Prod.mk.injEq] at hy
      obtain ⟨rfl, rfl⟩ := hy
      exact ⟨o, σ', S1, h1, h2, hv'⟩
  refine ⟨fun v S' hv => ?_, ?_⟩
  · obtain ⟨o, σ', S1, h1, h2, _⟩ := outs v S' hv
    exact (newsX_syn h1).2.2.trans (factsX_kin h2).unch
  · intro ρ w vals hs hv K hK Q hQ
    obtain ⟨e1, d1⟩ := mtch_ok (c := c) hm
    obtain ⟨e2, hblk, hdis⟩ := blksM_ok hs hb
    have hargs : D c.P c.Φ (envOf c ρ σ) (chain L.args) = some vals := D_le e2.le (d1 (D_chain hv))
    refine (hL (envOf c ρ σ) w vals (hs.inv hF).1 (hs.inv hF).2 ?_ ?_ ?_ ?_ hargs).mono ?_
    · intro i t hi
      have := tysOk_ok hs hg.1 i t hi
      rwa [Nat.zero_add] at this
    · intro j cs T hj
      obtain ⟨n, b, xs, g1, g2, _, g4, g5, g6⟩ := hblk j cs T hj
      exact ⟨b, xs, env_block g1 g4, g5, g6, Nat.le_of_not_lt fun hb => hs.frn n b g2 g4 (hF.2 b hb)⟩
    · intro j j' b hj hj' h1 h2
      obtain ⟨⟨cs, T⟩, hcs⟩ : ∃ p, L.blks[j]? = some p := ⟨_, List.getElem?_eq_getElem hj⟩
      obtain ⟨⟨cs', T'⟩, hcs'⟩ : ∃ p, L.blks[j']? = some p := ⟨_, List.getElem?_eq_getElem hj'⟩
      obtain ⟨n, b1, xs, g1, g2, _, g4, _⟩ := hblk j cs T hcs
      obtain ⟨n', b2, xs', g1', g2', _, g4', _⟩ := hblk j' cs' T' hcs'
      rw [env_block g1 g4] at h1
      rw [env_block g1' g4'] at h2
      cases h1; cases h2
      have := hs.inj n n' b g2 g2' g4 g4'
      subst this
      exact hdis j j' n hj hj' g1 g1'
    · exact preOk_ok hs hg.2
    · rintro e w' ⟨hbel, o, ys, x, ho, hys, hfacts, hval, rfl⟩
      refine hQ _ _ ?_
      have hs1 : SatH c F ρ S w' := hs.grows hbel
      obtain ⟨s, hsx, hsub⟩ := mem_bindL h o ho
      simp only [outX, Option.bind_eq_some_iff] at hsx
      obtain ⟨⟨σ', S1⟩, h1, r, h2, hsx⟩ := hsx
      obtain ⟨ρ', hle, hs2, hlow, hnew⟩ := newsX_ok hs1 h1 hys
      have hLe : Le (withNews (envOf c ρ σ) (L.tys.length + L.blks.length) ys) (envOf c ρ' σ') := by
        intro i y hy
        unfold withNews at hy
        cases hlt : Nat.blt i (L.tys.length + L.blks.length) with
        | true =>
          rw [hlt] at hy
          simp only [cond_true] at hy
          have hi : i < L.tys.length + L.blks.length := Nat.le_of_ble_eq_true hlt
          unfold envOf at hy ⊢
          rw [hlow i hi]
          rw [Option.bind_eq_some_iff] at hy ⊢
          obtain ⟨u, hu, hy⟩ := hy
          exact ⟨u, hu, den_mono hle hy⟩
        | false =>
          rw [hlt] at hy
          simp only [cond_false] at hy
          have hi : ¬ i < L.tys.length + L.blks.length := fun hi => by
            have : Nat.blt i (L.tys.length + L.blks.length) = true := Nat.ble_eq_true_of_le hi
            rw [this] at hlt; cases hlt
          have := hnew _ y hy
          rwa [show L.tys.length + L.blks.length + (i - (L.tys.length + L.blks.length)) = i by omega] at this
      obtain ⟨S2, rfl, hs3, hk⟩ := factsX_ok hs2 h2 (fun g hg => den_mono hLe (hfacts g hg))
      simp only [Option.map_eq_some_iff] at hsx
      obtain ⟨v, hv', rfl⟩ := hsx
      exact hK v S2 (hsub _ (by simp)) ρ' w' x hle hs3 (sub_den hv' (den_mono hLe hval))

theorem denE_cfg {c c' : Cfg} (hP : c.P = c'.P) (hΦ : c.Φ = c'.Φ) {ρ : Env} : ∀ l, denE c ρ l = denE c' ρ l
  | [] => rfl
  | (k, v, b) :: r => by simp only [denE, hP, hΦ, denE_cfg hP hΦ r]
theorem EntOk_cfg {c c' : Cfg} (hP : c.P = c'.P) (hΦ : c.Φ = c'.Φ) {ρ : Env} {w : World} {n : Nat} : ∀ {e : Ent}, EntOk c ρ w n e → EntOk c' ρ w n e
  | .blk _ _ _, h => by unfold EntOk at h ⊢; rw [← hP, ← hΦ]; exact h
  | .map _ _, h => by unfold EntOk at h ⊢; simpa only [denE_cfg hP hΦ] using h
  | .dead, h => h
  | .val _, h => h
theorem SatH.cfg {c c' : Cfg} (hP : c.P = c'.P) (hΦ : c.Φ = c'.Φ) {F : Wd} {ρ : Env} {S : St} {w : World} (h : SatH c F ρ S w) : SatH c' F ρ S w := by
  obtain ⟨a1, a2, a3, a4, a5, a6, a7, a8, a9, a10, a11⟩ := h
  exact ⟨fun n e he => EntOk_cfg hP hΦ (a1 n e he), a2, a3, a4, a5, a6, a7, a8, a9, a10, fun v hv => by rw [← hP, ← hΦ]; exact a11 v hv⟩
theorem TrOk.cfg {c c' : Cfg} (hP : c.P = c'.P) (hΦ : c.Φ = c'.Φ) {F : Wd} {f : FuncId} {tr : St → List V → Option (List (V × St))} (h : TrOk c F f tr) : TrOk c' F f tr := by
  intro S args L hL
  obtain ⟨h1, h2⟩ := h S args L hL
  refine ⟨h1, fun ρ w vals hs hv K hK R hR => ?_⟩
  rw [← hP]
  refine h2 ρ w vals (hs.cfg hP.symm hΦ.symm) (by rw [hP, hΦ]; exact hv) K ?_ R hR
  intro v S' hm ρ' w' x hle hs' hx
  exact hK v S' hm ρ' w' x hle (hs'.cfg hP hΦ) (by rw [← hP, ← hΦ]; exact hx)

theorem lemsX_tr {f : FuncId} (hF : FOk c F) : ∀ {Ls : List Lem}, (∀ L, L ∈ Ls → LemOk c f L) → TrOk c F f (lemsX c Ls)
  | [], _, _, _, _, h => by cases h
  | L :: r, hL, S, args, R, h => by
    unfold lemsX at h
    split at h
    · rename_i l hl
      simp only [Option.some.injEq] at h; subst h
      exact lemX_tr hF (hL L (List.mem_cons_self ..)) S args l hl
    · exact lemsX_tr hF (fun M hM => hL M (List.mem_cons_of_mem _ hM)) S args R h
end
end Go.Proofs.Ytobghgfmdjknlaa.Sx
