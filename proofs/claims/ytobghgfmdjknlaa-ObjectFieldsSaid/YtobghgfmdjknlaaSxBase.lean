/- Symbolic execution: tries, pure runs, what symbolic values denote; the first lemmas. -/
import Derived.Test.YtobghgfmdjknlaaSxDefs
import Derived.Laws.Sem
import Derived.Laws.World
namespace Go.Proofs.Ytobghgfmdjknlaa.Sx
open Go

namespace Tr
variable {α : Type}
theorem strict_eq (t : Tr α) (k : Tr α → Tr α) : t.strict k = k t := by cases t <;> rfl

theorem beq_false {a b : Nat} (h : a ≠ b) : Nat.beq a b = false := by
  cases hb : Nat.beq a b with
  | false => rfl
  | true => exact absurd (Nat.eq_of_beq_eq_true hb) h
theorem beq_self (a : Nat) : Nat.beq a a = true := Nat.beq_refl a

theorem get_leaf (m : Nat) : (Tr.leaf : Tr α).get m = none := rfl
theorem get_node (v : Option α) (l r : Tr α) (n : Nat) : (Tr.node v l r).get n = if n = 0 then v else if n % 2 = 1 then l.get (n / 2) else r.get (n / 2 - 1) := by
  show Bool.rec (motive := fun _ => Option α) (Bool.rec (motive := fun _ => Option α) (r.get (n / 2 - 1)) (l.get (n / 2)) (Nat.beq (n % 2) 1)) v (Nat.beq n 0) = _
  by_cases h0 : n = 0
  · subst h0; rfl
  · rw [beq_false h0, if_neg h0]
    by_cases h1 : n % 2 = 1
    · rw [h1, if_pos rfl]; rfl
    · rw [beq_false h1, if_neg h1]

theorem pathR_succ (a : α) (f n : Nat) : pathR a (f + 1) n = if n = 0 then .node (some a) .leaf .leaf else if n % 2 = 1 then .node none (pathR a f (n / 2)) .leaf else .node none .leaf (pathR a f (n / 2 - 1)) := by
  show Bool.rec (motive := fun _ => Tr α) (Bool.rec (motive := fun _ => Tr α) (strict (pathR a f (n / 2 - 1)) fun r => .node none .leaf r) (strict (pathR a f (n / 2)) fun l => .node none l .leaf) (Nat.beq (n % 2) 1)) (.node (some a) .leaf .leaf) (Nat.beq n 0) = _
  rw [strict_eq, strict_eq]
  by_cases h0 : n = 0
  · subst h0; rfl
  · rw [beq_false h0, if_neg h0]
    by_cases h1 : n % 2 = 1
    · rw [h1, if_pos rfl]; rfl
    · rw [beq_false h1, if_neg h1]

theorem set_leaf (n : Nat) (a : α) : (Tr.leaf : Tr α).set n a = pathR a (n + 1) n := rfl
theorem set_node (v : Option α) (l r : Tr α) (n : Nat) (a : α) : (Tr.node v l r).set n a = if n = 0 then .node (some a) l r else if n % 2 = 1 then .node v (l.set (n / 2) a) r else .node v l (r.set (n / 2 - 1) a) := by
  show Bool.rec (motive := fun _ => Tr α) (Bool.rec (motive := fun _ => Tr α) (strict (r.set (n / 2 - 1) a) fun r => .node v l r) (strict (l.set (n / 2) a) fun l => .node v l r) (Nat.beq (n % 2) 1)) (.node (some a) l r) (Nat.beq n 0) = _
  rw [strict_eq, strict_eq]
  by_cases h0 : n = 0
  · subst h0; rfl
  · rw [beq_false h0, if_neg h0]
    by_cases h1 : n % 2 = 1
    · rw [h1, if_pos rfl]; rfl
    · rw [beq_false h1, if_neg h1]

theorem get_pathR (a : α) : ∀ (f n m : Nat), n < f → (pathR a f n).get m = if m = n then some a else none
  | 0, _, _, h => by omega
  | f + 1, n, m, h => by
    rw [pathR_succ]
    by_cases h0 : n = 0
    · rw [if_pos h0, get_node, get_leaf, get_leaf]; subst h0
      by_cases hm : m = 0
      · rw [if_pos hm, if_pos hm]
      · rw [if_neg hm, if_neg hm]; split <;> rfl
    · rw [if_neg h0]
      by_cases h1 : n % 2 = 1
      · rw [if_pos h1, get_node, get_leaf, get_pathR a f (n / 2) (m / 2) (by omega)]
        by_cases hm : m = n
        · subst hm; rw [if_neg h0, if_pos h1, if_pos rfl, if_pos rfl]
        · rw [if_neg hm]
          split
          · rfl
          · split
            · rw [if_neg (by omega)]
            · rfl
      · rw [if_neg h1, get_node, get_leaf, get_pathR a f (n / 2 - 1) (m / 2 - 1) (by omega)]
        by_cases hm : m = n
        · subst hm; rw [if_neg h0, if_neg h1, if_pos rfl, if_pos rfl]
        · rw [if_neg hm]
          split
          · rfl
          · split
            · rfl
            · rw [if_neg (by omega)]

theorem get_set : ∀ (t : Tr α) (n : Nat) (a : α) (m : Nat), (t.set n a).get m = if m = n then some a else t.get m
  | .leaf, n, a, m => by rw [set_leaf, get_leaf]; exact get_pathR a (n + 1) n m (Nat.lt_succ_self n)
  | .node v l r, n, a, m => by
    rw [set_node, get_node v l r m]
    by_cases h0 : n = 0
    · rw [if_pos h0, get_node]; subst h0
      by_cases hm : m = 0
      · rw [if_pos hm, if_pos hm]
      · rw [if_neg hm, if_neg hm, if_neg hm]
    · rw [if_neg h0]
      by_cases h1 : n % 2 = 1
      · rw [if_pos h1, get_node, get_set l (n / 2) a (m / 2)]
        by_cases hm : m = n
        · subst hm; rw [if_neg h0, if_pos h1, if_pos rfl, if_pos rfl]
        · rw [if_neg hm]
          split
          · rfl
          · split
            · rw [if_neg (by omega)]
            · rfl
      · rw [if_neg h1, get_node, get_set r (n / 2 - 1) a (m / 2 - 1)]
        by_cases hm : m = n
        · subst hm; rw [if_neg h0, if_neg h1, if_pos rfl, if_pos rfl]
        · rw [if_neg hm]
          split
          · rfl
          · split
            · rfl
            · rw [if_neg (by omega)]
end Tr

theorem an_eq (a b : Bool) : an a b = (a && b) := by cases a <;> rfl
theorem eachR_eq {α : Type} (p : α → Bool) (l : List α) : eachR p l = l.all p := by
  induction l with
  | nil => rfl
  | cons x r ih =>
    rw [List.all_cons, ← ih, ← an_eq]
    rfl
theorem filterR_eq {α : Type} (p : α → Bool) (l : List α) : filterR p l = l.filter p := by
  induction l with
  | nil => rfl
  | cons x r ih =>
    rw [List.filter_cons, ← ih]
    show Bool.rec (motive := fun _ => List α) (filterR p r) (x :: filterR p r) (p x) = _
    cases p x <;> rfl
theorem tbX_eq (m i : Nat) : tbX m i = m.testBit i := by
  unfold tbX Nat.testBit
  show Nat.beq ((m >>> i) &&& 1) 1 = _
  rw [Nat.and_comm]
  have h2 : 1 &&& (m >>> i) = (m >>> i) % 2 := by rw [Nat.and_comm]; exact Nat.and_one_is_mod _
  rw [h2]
  rcases Nat.mod_two_eq_zero_or_one (m >>> i) with h | h <;> rw [h] <;> rfl
theorem readyB_eq (m : Nat) (r : RO) : readyB m r = (!(m.testBit r.i) && Nat.beq (Nat.land m r.mask) r.mask) := by
  unfold readyB
  rw [tbX_eq]
  cases m.testBit r.i <;> rfl
theorem readyX_eq (l : List RO) (m : Nat) : readyX l m = l.filter fun r => !(m.testBit r.i) && Nat.beq (Nat.land m r.mask) r.mask := by
  unfold readyX
  rw [filterR_eq]
  exact congrArg (fun p => l.filter p) (funext fun r => readyB_eq m r)
theorem intEqB_eq {a b : Int} (h : intEqB a b = true) : a = b := by
  unfold intEqB at h
  split at h
  · rw [Nat.eq_of_beq_eq_true h]
  · rw [Nat.eq_of_beq_eq_true h]
  · cases h
theorem bytesEqB_eq : ∀ {a b : List UInt8}, bytesEqB a b = true → a = b
  | [], [], _ => rfl
  | [], _ :: _, h => by cases h
  | _ :: _, [], h => by cases h
  | x :: a, y :: b, h => by
    replace h : an (Nat.beq x.toNat y.toNat) (bytesEqB a b) = true := h
    rw [an_eq, Bool.and_eq_true] at h
    rw [UInt8.toNat_inj.1 (Nat.eq_of_beq_eq_true h.1), bytesEqB_eq h.2]

theorem bytesEqB_self : ∀ (a : List UInt8), bytesEqB a a = true
  | [] => rfl
  | x :: a => by
    show an (Nat.beq x.toNat x.toNat) (bytesEqB a a) = true
    rw [bytesEqB_self a, Nat.beq_refl]
    rfl
theorem bif_some' {b x y r : Bool} (h : (bif b then x else y) = r) : (b = true ∧ x = r) ∨ (b = false ∧ y = r) := by
  cases b
  · exact .inr ⟨rfl, h⟩
  · exact .inl ⟨rfl, h⟩
theorem mem_bindL {α β : Type} {f : α → Option (List β)} : ∀ {l : List α} {r : List β}, bindL f l = some r → ∀ x, x ∈ l → ∃ s, f x = some s ∧ ∀ y, y ∈ s → y ∈ r
  | [], r, _, x, hx => by cases hx
  | a :: l, r, h, x, hx => by
    simp only [bindL, Option.bind_eq_some_iff, Option.map_eq_some_iff] at h
    obtain ⟨s, hs, t, ht, rfl⟩ := h
    rcases List.mem_cons.1 hx with rfl | hx
    · exact ⟨s, hs, fun y hy => List.mem_append_left _ hy⟩
    · obtain ⟨u, hu, hm⟩ := mem_bindL ht x hx
      exact ⟨u, hu, fun y hy => List.mem_append_right _ (hm y hy)⟩

theorem mem_bindL' {α β : Type} {f : α → Option (List β)} : ∀ {l : List α} {r : List β}, bindL f l = some r → ∀ y, y ∈ r → ∃ x s, x ∈ l ∧ f x = some s ∧ y ∈ s
  | [], r, h, y, hy => by simp only [bindL, Option.some.injEq] at h; subst h; cases hy
  | a :: l, r, h, y, hy => by
    simp only [bindL, Option.bind_eq_some_iff, Option.map_eq_some_iff] at h
    obtain ⟨s, hs, t, ht, rfl⟩ := h
    rcases List.mem_append.1 hy with hy | hy
    · exact ⟨a, s, by simp, hs, hy⟩
    · obtain ⟨x, s', hx, hf, hm⟩ := mem_bindL' ht y hy
      exact ⟨x, s', List.mem_cons_of_mem _ hx, hf, hm⟩

theorem get_foldT {α : Type} {f : Nat → Option α} : ∀ (l : List Nat) (t : Tr α), (∀ n a, t.get n = some a → f n = some a) → ∀ n a, (l.foldl (fun t n => addT t n (f n)) t).get n = some a → f n = some a
  | [], _, h, n, a, hg => h n a hg
  | m :: r, t, h, n, a, hg => by
    refine get_foldT r _ ?_ n a hg
    intro n a hn
    replace hn : (addT t m (f m)).get n = some a := hn
    cases hf : f m with
    | none => rw [hf] at hn; exact h n a hn
    | some b =>
      rw [hf] at hn
      replace hn : (t.set m b).get n = some a := hn
      rw [Tr.get_set] at hn
      by_cases he : n = m
      · rw [if_pos he] at hn; rw [he, hf]; exact hn
      · rw [if_neg he] at hn; exact h n a hn
theorem get_mkT {α : Type} {f : Nat → Option α} {l : List Nat} {t : Tr α} (ht : mkT f l = t) (n : Nat) (a : α) (h : t.get n = some a) : f n = some a := by
  subst ht
  exact get_foldT l .leaf (fun _ _ h => by cases h) n a h

theorem pureRun_run {P : Program} {α : Type} : ∀ {s : Sem α} {a : α}, pureRun P s = some a → ∀ w, s.run P w = .ok a w
  | .pure _, _, h, w => by simp only [pureRun, Option.some.injEq] at h; subst h; rfl
  | .program k, _, h, w => by
    simp only [pureRun] at h
    simpa [Sem.run] using pureRun_run h w
  | .mark _ k, _, h, w => by
    simp only [pureRun] at h
    simpa [Sem.run] using pureRun_run h w
  | .load _ _ _, _, h, _ => by simp [pureRun] at h
  | .store _ _ _ _, _, h, _ => by simp [pureRun] at h
  | .new _ _, _, h, _ => by simp [pureRun] at h
  | .shape _ _, _, h, _ => by simp [pureRun] at h
  | .freeze _ _ _, _, h, _ => by simp [pureRun] at h
  | .frozen _ _, _, h, _ => by simp [pureRun] at h
  | .getObj _ _, _, h, _ => by simp [pureRun] at h
  | .setObj _ _ _, _, h, _ => by simp [pureRun] at h
  | .choose _ _, _, h, _ => by simp [pureRun] at h
  | .sys _ _, _, h, _ => by simp [pureRun] at h
  | .halt _, _, h, _ => by simp [pureRun] at h

inductive All2 {α β : Type} (R : α → β → Prop) : List α → List β → Prop where
  | nil : All2 R [] []
  | cons {x : α} {y : β} {l : List α} {m : List β} (h : R x y) (t : All2 R l m) : All2 R (x :: l) (y :: m)

/-! ### What symbolic values denote -/
section
variable (P : Program) (Φ : Nat → List Value → Option Value)

def den (ρ : Env) (v : V) : Option Value := (D P Φ ρ v).bind single
def denL (ρ : Env) : List V → Option (List Value)
  | [] => some []
  | v :: r => (den P Φ ρ v).bind fun x => (denL ρ r).map fun xs => x :: xs

def Le (ρ ρ' : Env) : Prop := ∀ n x, ρ n = some x → ρ' n = some x
theorem Le.refl (ρ : Env) : Le ρ ρ := fun _ _ h => h
theorem Le.trans {ρ ρ' ρ'' : Env} (h : Le ρ ρ') (h' : Le ρ' ρ'') : Le ρ ρ'' := fun n x hx => h' n x (h n x hx)
theorem Le.blockOf {ρ ρ' : Env} (h : Le ρ ρ') {n b : Nat} (hb : blockOf (ρ n) = some b) : blockOf (ρ' n) = some b := by
  cases hx : ρ n with
  | none => rw [hx] at hb; simp [Sx.blockOf] at hb
  | some x => rw [h n x hx, ← hx]; exact hb

variable {P Φ}
theorem single_some {xs : List Value} {x : Value} : single xs = some x ↔ xs = [x] := by
  cases xs with
  | nil => simp [single]
  | cons a r => cases r <;> simp [single]

theorem D_mono {Ψ : Nat → List Value → Option Value} {ρ ρ' : Env} (h : Le ρ ρ') (hΦ : ∀ f xs x, Ψ f xs = some x → Φ f xs = some x) :
    ∀ {v : V} {xs : List Value}, D P Ψ ρ v = some xs → D P Φ ρ' v = some xs := by
  intro v
  induction v with
  | k x => intro xs hx; exact hx
  | var n =>
    intro xs hx
    simp only [D, Option.map_eq_some_iff] at hx ⊢
    obtain ⟨a, ha, rfl⟩ := hx
    exact ⟨a, h _ _ ha, rfl⟩
  | prim p a ih =>
    intro xs hx
    simp only [D, Option.bind_eq_some_iff, Option.map_eq_some_iff] at hx ⊢
    obtain ⟨ys, hy, x, hx, rfl⟩ := hx
    exact ⟨ys, ih hy, x, hx, rfl⟩
  | app f a ih =>
    intro xs hx
    simp only [D, Option.bind_eq_some_iff, Option.map_eq_some_iff] at hx ⊢
    obtain ⟨ys, hy, x, hx, rfl⟩ := hx
    exact ⟨ys, ih hy, x, Option.filter_eq_some_iff.2 ⟨hΦ _ _ _ (Option.filter_eq_some_iff.1 hx).1, (Option.filter_eq_some_iff.1 hx).2⟩, rfl⟩
  | ptr n off =>
    intro xs hx
    simp only [D, Option.map_eq_some_iff] at hx ⊢
    obtain ⟨b, hb, rfl⟩ := hx
    exact ⟨b, h.blockOf hb, rfl⟩
  | map n =>
    intro xs hx
    simp only [D, Option.map_eq_some_iff] at hx ⊢
    obtain ⟨b, hb, rfl⟩ := hx
    exact ⟨b, h.blockOf hb, rfl⟩
  | slice n off l c ihl ihc =>
    intro xs hx
    simp only [D, Option.bind_eq_some_iff, Option.map_eq_some_iff] at hx ⊢
    obtain ⟨b, hb, ls, hl, cs, hc, l', hl', c', hc', rfl⟩ := hx
    exact ⟨b, h.blockOf hb, ls, ihl hl, cs, ihc hc, l', hl', c', hc', rfl⟩
  | func fn f c ihf ihc =>
    intro xs hx
    simp only [D, Option.bind_eq_some_iff, Option.map_eq_some_iff] at hx ⊢
    obtain ⟨fs, hf, cs, hc, rfl⟩ := hx
    exact ⟨fs, ihf hf, cs, ihc hc, rfl⟩
  | iface t v ih =>
    intro xs hx
    simp only [D, Option.bind_eq_some_iff, Option.map_eq_some_iff] at hx ⊢
    obtain ⟨ys, hy, x, hx, rfl⟩ := hx
    exact ⟨ys, ih hy, x, hx, rfl⟩
  | agg l ih =>
    intro xs hx
    simp only [D, Option.map_eq_some_iff] at hx ⊢
    obtain ⟨ys, hy, rfl⟩ := hx
    exact ⟨ys, ih hy, rfl⟩
  | tup l ih =>
    intro xs hx
    simp only [D, Option.map_eq_some_iff] at hx ⊢
    obtain ⟨ys, hy, rfl⟩ := hx
    exact ⟨ys, ih hy, rfl⟩
  | nil => intro xs hx; exact hx
  | cons a b iha ihb =>
    intro xs hx
    simp only [D, Option.bind_eq_some_iff, Option.map_eq_some_iff] at hx ⊢
    obtain ⟨as, ha, bs, hb, rfl⟩ := hx
    exact ⟨as, iha ha, bs, ihb hb, rfl⟩

theorem den_mono {ρ ρ' : Env} (h : Le ρ ρ') {v : V} {x : Value} (hv : den P Φ ρ v = some x) : den P Φ ρ' v = some x := by
  simp only [den, Option.bind_eq_some_iff] at hv ⊢
  obtain ⟨xs, hx, hs⟩ := hv
  exact ⟨xs, D_mono h (fun _ _ _ h => h) hx, hs⟩

theorem denL_mono {ρ ρ' : Env} (h : Le ρ ρ') : ∀ {vs : List V} {xs : List Value}, denL P Φ ρ vs = some xs → denL P Φ ρ' vs = some xs
  | [], _, hv => hv
  | v :: r, xs, hv => by
    simp only [denL, Option.bind_eq_some_iff, Option.map_eq_some_iff] at hv ⊢
    obtain ⟨x, hx, ys, hy, rfl⟩ := hv
    exact ⟨x, den_mono h hx, ys, denL_mono h hy, rfl⟩

theorem den_k (ρ : Env) (x : Value) : den P Φ ρ (.k x) = some x := rfl

theorem one_single {ρ : Env} {v : V} {xs : List Value} (ho : oneV v = true) (h : D P Φ ρ v = some xs) : ∃ x, xs = [x] := by
  cases v <;> simp only [oneV, Bool.false_eq_true] at ho <;> simp only [D, Option.bind_eq_some_iff, Option.map_eq_some_iff] at h
  case k => exact ⟨_, by simpa using h.symm⟩
  case var => obtain ⟨_, _, rfl⟩ := h; exact ⟨_, rfl⟩
  case prim => obtain ⟨_, _, _, _, rfl⟩ := h; exact ⟨_, rfl⟩
  case app => obtain ⟨_, _, _, _, rfl⟩ := h; exact ⟨_, rfl⟩
  case ptr => obtain ⟨_, _, rfl⟩ := h; exact ⟨_, rfl⟩
  case map => obtain ⟨_, _, rfl⟩ := h; exact ⟨_, rfl⟩
  case slice => obtain ⟨_, _, _, _, _, _, _, _, _, _, rfl⟩ := h; exact ⟨_, rfl⟩
  case func => obtain ⟨_, _, _, _, rfl⟩ := h; exact ⟨_, rfl⟩
  case iface => obtain ⟨_, _, _, _, rfl⟩ := h; exact ⟨_, rfl⟩
  case agg => obtain ⟨_, _, rfl⟩ := h; exact ⟨_, rfl⟩
  case tup => obtain ⟨_, _, rfl⟩ := h; exact ⟨_, rfl⟩

theorem D_listV {ρ : Env} : ∀ {l : V} {vs : List V} {xs : List Value}, listV l = some vs → D P Φ ρ l = some xs → denL P Φ ρ vs = some xs := by
  intro l
  induction l with
  | nil => intro vs xs hl hx; simp only [listV, Option.some.injEq] at hl; subst hl; exact hx
  | cons a b _ ihb =>
    intro vs xs hl hx
    simp only [listV] at hl
    cases ho : oneV a with
    | false => rw [ho] at hl; simp at hl
    | true =>
      rw [ho] at hl
      simp only [cond_true, Option.map_eq_some_iff] at hl
      obtain ⟨r, hr, rfl⟩ := hl
      simp only [D, Option.bind_eq_some_iff, Option.map_eq_some_iff] at hx
      obtain ⟨as, ha, bs, hb, rfl⟩ := hx
      obtain ⟨x, rfl⟩ := one_single ho ha
      simp only [denL, den, ha, Option.bind_some, single, ihb hr hb, Option.map_some, List.singleton_append]
  | _ => intro vs xs hl _; simp [listV] at hl

theorem D_chain {ρ : Env} : ∀ {vs : List V} {xs : List Value}, denL P Φ ρ vs = some xs → D P Φ ρ (chain vs) = some xs
  | [], _, h => h
  | v :: r, xs, h => by
    simp only [denL, Option.bind_eq_some_iff, Option.map_eq_some_iff] at h
    obtain ⟨x, hx, ys, hy, rfl⟩ := h
    simp only [den, Option.bind_eq_some_iff] at hx
    obtain ⟨zs, hz, hs⟩ := hx
    rw [single_some] at hs
    subst hs
    simp [chain, D, hz, D_chain hy]

theorem den_agg {ρ : Env} {vs : List V} {xs : List Value} (h : denL P Φ ρ vs = some xs) : den P Φ ρ (.agg (chain vs)) = some (.agg xs.toArray) := by
  simp [den, D, D_chain h, single]
theorem den_tup {ρ : Env} {vs : List V} {xs : List Value} (h : denL P Φ ρ vs = some xs) : den P Φ ρ (.tup (chain vs)) = some (.tuple xs.toArray) := by
  simp [den, D, D_chain h, single]

theorem denL_ks {ρ : Env} : ∀ (xs : List Value), denL P Φ ρ (xs.map V.k) = some xs
  | [] => rfl
  | x :: r => by simp [denL, den_k, denL_ks r]

theorem denL_length {ρ : Env} : ∀ {vs : List V} {xs : List Value}, denL P Φ ρ vs = some xs → xs.length = vs.length
  | [], _, h => by simp [denL] at h; subst h; rfl
  | v :: r, xs, h => by
    simp only [denL, Option.bind_eq_some_iff, Option.map_eq_some_iff] at h
    obtain ⟨x, hx, ys, hy, rfl⟩ := h
    simp [denL_length hy]

theorem denL_append {ρ : Env} : ∀ {us vs : List V} {xs ys : List Value}, denL P Φ ρ us = some xs → denL P Φ ρ vs = some ys → denL P Φ ρ (us ++ vs) = some (xs ++ ys)
  | [], _, _, _, h, h' => by simp [denL] at h; subst h; simpa using h'
  | u :: r, vs, xs, ys, h, h' => by
    simp only [denL, Option.bind_eq_some_iff, Option.map_eq_some_iff] at h
    obtain ⟨x, hx, zs, hz, rfl⟩ := h
    simp [denL, hx, denL_append hz h']

theorem denL_append_inv {ρ : Env} : ∀ {us vs : List V} {zs : List Value}, denL P Φ ρ (us ++ vs) = some zs → ∃ xs ys, denL P Φ ρ us = some xs ∧ denL P Φ ρ vs = some ys ∧ zs = xs ++ ys
  | [], vs, zs, h => ⟨[], zs, rfl, h, rfl⟩
  | u :: r, vs, zs, h => by
    simp only [List.cons_append, denL, Option.bind_eq_some_iff, Option.map_eq_some_iff] at h
    obtain ⟨x, hx, ws, hw, rfl⟩ := h
    obtain ⟨xs, ys, h1, h2, rfl⟩ := denL_append_inv hw
    exact ⟨x :: xs, ys, by simp [denL, hx, h1], h2, rfl⟩

theorem denL_drop {ρ : Env} : ∀ {vs : List V} {xs : List Value} (n : Nat), denL P Φ ρ vs = some xs → denL P Φ ρ (vs.drop n) = some (xs.drop n)
  | vs, xs, 0, h => by simpa using h
  | [], xs, n + 1, h => by simp [denL] at h; subst h; rfl
  | v :: r, xs, n + 1, h => by
    simp only [denL, Option.bind_eq_some_iff, Option.map_eq_some_iff] at h
    obtain ⟨x, hx, ys, hy, rfl⟩ := h
    simpa using denL_drop n hy

theorem denL_take {ρ : Env} : ∀ {vs : List V} {xs : List Value} (n : Nat), denL P Φ ρ vs = some xs → denL P Φ ρ (vs.take n) = some (xs.take n)
  | vs, xs, 0, h => by simp [denL]
  | [], xs, n + 1, h => by simp [denL] at h; subst h; rfl
  | v :: r, xs, n + 1, h => by
    simp only [denL, Option.bind_eq_some_iff, Option.map_eq_some_iff] at h
    obtain ⟨x, hx, ys, hy, rfl⟩ := h
    simp [denL, hx, denL_take n hy]

theorem denL_get {ρ : Env} : ∀ {vs : List V} {xs : List Value} {n : Nat} {v : V}, denL P Φ ρ vs = some xs → vs[n]? = some v → ∃ x, den P Φ ρ v = some x ∧ xs[n]? = some x
  | [], _, _, _, _, h' => by simp at h'
  | u :: r, xs, 0, v, h, h' => by
    simp only [denL, Option.bind_eq_some_iff, Option.map_eq_some_iff] at h
    obtain ⟨x, hx, ys, hy, rfl⟩ := h
    simp only [List.getElem?_cons_zero, Option.some.injEq] at h'
    subst h'
    exact ⟨x, hx, rfl⟩
  | u :: r, xs, n + 1, v, h, h' => by
    simp only [denL, Option.bind_eq_some_iff, Option.map_eq_some_iff] at h
    obtain ⟨x, hx, ys, hy, rfl⟩ := h
    simpa using denL_get hy (by simpa using h')

theorem denL_replaceAt {ρ : Env} {l cs : List V} {xs ys : List Value} (off : Nat) (h : denL P Φ ρ l = some xs) (h' : denL P Φ ρ cs = some ys) :
    denL P Φ ρ (replaceAt l off cs) = some (xs.take off ++ ys ++ xs.drop (off + cs.length)) :=
  denL_append (denL_append (denL_take off h) h') (denL_drop _ h)

/-- What is known to be no struct and no tuple. -/
theorem scalar_cells {x : Value} (h : isScalar x = true) : x.cells = #[x] := by
  cases x <;> simp [isScalar, Value.cells] at *

/-- A value whose denotation is a value of one cell, the variables being so. -/
theorem scalarV_scalar {ρ : Env} (hρ : ∀ n x, ρ n = some x → isScalar x = true) {v : V} {x : Value} (hs : scalarV v = true) (h : den P Φ ρ v = some x) : isScalar x = true := by
  cases v <;> simp only [scalarV, Bool.false_eq_true] at hs <;> simp only [den, D, Option.bind_eq_some_iff, Option.map_eq_some_iff] at h
  case k => obtain ⟨xs, h1, h2⟩ := h; simp only [Option.some.injEq] at h1; subst h1; simp only [single, Option.some.injEq] at h2; subst h2; exact hs
  case var => obtain ⟨xs, ⟨a, ha, rfl⟩, h2⟩ := h; simp only [single, Option.some.injEq] at h2; subst h2; exact hρ _ _ ha
  case prim =>
    obtain ⟨xs, ⟨ys, _, a, ha, rfl⟩, h2⟩ := h
    simp only [single, Option.some.injEq] at h2; subst h2
    exact (Option.filter_eq_some_iff.1 ha).2
  case app =>
    obtain ⟨xs, ⟨ys, _, a, ha, rfl⟩, h2⟩ := h
    simp only [single, Option.some.injEq] at h2; subst h2
    exact (Option.filter_eq_some_iff.1 ha).2
  case ptr => obtain ⟨xs, ⟨b, _, rfl⟩, h2⟩ := h; simp only [single, Option.some.injEq] at h2; subst h2; rfl
  case map => obtain ⟨xs, ⟨b, _, rfl⟩, h2⟩ := h; simp only [single, Option.some.injEq] at h2; subst h2; rfl
  case slice => obtain ⟨xs, ⟨b, _, _, _, _, _, _, _, _, _, rfl⟩, h2⟩ := h; simp only [single, Option.some.injEq] at h2; subst h2; rfl
  case func => obtain ⟨xs, ⟨b, _, _, _, rfl⟩, h2⟩ := h; simp only [single, Option.some.injEq] at h2; subst h2; rfl
  case iface => obtain ⟨xs, ⟨b, _, _, _, rfl⟩, h2⟩ := h; simp only [single, Option.some.injEq] at h2; subst h2; rfl

theorem cellsV_den {ρ : Env} (hρ : ∀ n x, ρ n = some x → isScalar x = true) {v : V} {cs : List V} {x : Value} (hc : cellsV v = some cs) (h : den P Φ ρ v = some x) :
    denL P Φ ρ cs = some x.cells.toList := by
  have sc : ∀ {v : V} {x : Value}, (bif scalarV v then some [v] else none) = some cs → den P Φ ρ v = some x → denL P Φ ρ cs = some x.cells.toList := by
    intro v x hc h
    cases hs : scalarV v with
    | false => rw [hs] at hc; simp at hc
    | true =>
      rw [hs] at hc
      simp only [cond_true, Option.some.injEq] at hc
      subst hc
      rw [scalar_cells (scalarV_scalar hρ hs h)]
      simp [denL, h]
  cases v with
  | agg l =>
    simp only [cellsV] at hc
    simp only [den, D, Option.bind_eq_some_iff, Option.map_eq_some_iff] at h
    obtain ⟨xs, ⟨ys, hy, rfl⟩, h2⟩ := h
    simp only [single, Option.some.injEq] at h2; subst h2
    simpa [Value.cells] using D_listV hc hy
  | k y =>
    cases y with
    | agg cs' =>
      simp only [cellsV, Option.some.injEq] at hc
      subst hc
      simp only [den_k, Option.some.injEq] at h
      subst h
      simpa [Value.cells] using denL_ks cs'.toList
    | _ => exact sc (by simp only [cellsV] at hc; exact hc) h
  | _ => exact sc (by simp only [cellsV] at hc; exact hc) h

end
end Go.Proofs.Ytobghgfmdjknlaa.Sx
