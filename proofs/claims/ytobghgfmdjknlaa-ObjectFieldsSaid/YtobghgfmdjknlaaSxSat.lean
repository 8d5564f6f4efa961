/- Symbolic execution: when a symbolic state tells of a world; how it goes on telling. -/
import Derived.Test.YtobghgfmdjknlaaSxMem
namespace Go.Proofs.Ytobghgfmdjknlaa.Sx
open Go
set_option linter.unusedSectionVars false

/-- The world in which it all began, and which of its blocks stay as they are. -/
structure Wd where
  w0 : World
  Fr : Nat → Prop

def MoreOk (ρ : Env) : Option (Nat × Nat) → Nat → List Value → Prop
  | none, _, tail => tail = []
  | some (j, z), len, _ => ∃ k : Nat, ρ j = some (.int .i64 (Int.ofNat k)) ∧ len = k * z

section
variable (c : Cfg) (F : Wd)

/-- What the entries of a map denote. -/
def denE (ρ : Env) : List (Value × V × Nat) → Option (List MapEntry)
  | [] => some []
  | (k, v, b) :: r => (den c.P c.Φ ρ v).bind fun x => (denE ρ r).map fun l => ⟨k, x, b⟩ :: l

def EntOk (ρ : Env) (w : World) (n : Nat) : Ent → Prop
  | .blk cells elem more => ∃ b xs tail, blockOf (ρ n) = some b ∧ denL c.P c.Φ ρ cells = some xs ∧
      w.heap[b]? = some (.cells (xs ++ tail).toArray elem (0, 0)) ∧ MoreOk ρ more (xs.length + tail.length) tail
  | .dead => ∃ x, ρ n = some x
  | .val ty => ∃ x, ρ n = some x ∧ hasTy x ty
  | .map es clock => ∃ b xs, blockOf (ρ n) = some b ∧ denE c ρ es = some xs ∧ w.heap[b]? = some (.map xs.toArray clock)

def live (S : St) (n : Nat) : Prop := ∃ e, S.heap.get n = some e ∧ e.owns = true

structure SatH (ρ : Env) (S : St) (w : World) : Prop where
  ents : ∀ n e, S.heap.get n = some e → EntOk c ρ w n e
  dom : ∀ n, S.heap.get n = none → ρ n = none
  sca : ∀ n x, ρ n = some x → isScalar x = true
  inj : ∀ n m b, live S n → live S m → blockOf (ρ n) = some b → blockOf (ρ m) = some b → n = m
  fr : ∀ b, F.Fr b → w.heap[b]? = F.w0.heap[b]? ∧ b < F.w0.heap.size
  size : F.w0.heap.size ≤ w.heap.size
  frn : ∀ n b, live S n → blockOf (ρ n) = some b → ¬ F.Fr b
  os : w.os = F.w0.os
  out : w.output = F.w0.output
  tape : w.tape = F.w0.tape
  pc : ∀ v, v ∈ S.pc → den c.P c.Φ ρ v.1 = some (.bool v.2)

structure SatT (ρ : Env) (S : St) (a : Act) : Prop where
  defers : a.defers = []
  size : a.tmps.size = S.nt
  tmps : ∀ i v, S.tmps.get i = some v → ∃ x, den c.P c.Φ ρ v = some x ∧ a.tmps[i]? = some x

/-- What was so of the world ahead of it all stays so: its memory is among what stays. -/
def FOk : Prop := c.inv F.w0 ∧ ∀ b, b < c.low → F.Fr b

variable {c F}

theorem SatH.inv [k : COk c] {ρ : Env} {S : St} {w : World} (hF : FOk c F) (h : SatH c F ρ S w) : c.inv w ∧ ∀ b, b < c.low → b < w.heap.size :=
  ⟨k.invOk F.w0 w hF.1 (fun b hb => (h.fr b (hF.2 b hb)).1), fun b hb => Nat.lt_of_lt_of_le (h.fr b (hF.2 b hb)).2 h.size⟩

theorem SatT.mono {ρ ρ' : Env} {S : St} {a : Act} (h : SatT c ρ S a) (hl : Le ρ ρ') : SatT c ρ' S a :=
  ⟨h.defers, h.size, fun i v hv => let ⟨x, h1, h2⟩ := h.tmps i v hv; ⟨x, den_mono hl h1, h2⟩⟩
theorem SatT.congr {ρ : Env} {S S' : St} {a : Act} (h : SatT c ρ S a) (ht : S'.tmps = S.tmps) (hn : S'.nt = S.nt) : SatT c ρ S' a :=
  ⟨h.defers, by rw [hn]; exact h.size, by rw [ht]; exact h.tmps⟩

theorem SatT.put {ρ : Env} {S S' : St} {a : Act} {d : Option Tmp} {v : V} {x : Value} (h : SatT c ρ S a) (hs : S.setT d v = some S') (hv : den c.P c.Φ ρ v = some x) :
    SatT c ρ S' (a.put d x) := by
  cases d with
  | none => simp only [St.setT, Option.some.injEq] at hs; subst hs; exact h
  | some t =>
    simp only [St.setT] at hs
    cases hb : Nat.blt t S.nt with
    | false => rw [hb] at hs; simp at hs
    | true =>
      rw [hb] at hs
      simp only [cond_true, Option.some.injEq] at hs
      subst hs
      have hlt : t < a.tmps.size := by rw [h.size]; exact Nat.le_of_ble_eq_true hb
      refine ⟨h.defers, by simp only [Act.put, Array.size_setIfInBounds, h.size]; rfl, ?_⟩
      intro i u hu
      replace hu : (S.tmps.set t v).get i = some u := hu
      simp only [Tr.get_set] at hu
      simp only [Act.put, Array.getElem?_setIfInBounds]
      by_cases hi : i = t
      · subst hi
        rw [if_pos rfl] at hu
        simp only [Option.some.injEq] at hu
        subst hu
        exact ⟨x, hv, by simp [hlt]⟩
      · rw [if_neg hi] at hu
        rw [if_neg (fun e => hi e.symm)]
        exact h.tmps i u hu

theorem setT_heap {S S' : St} {d : Option Tmp} {v : V} (hs : S.setT d v = some S') : S'.heap = S.heap ∧ S'.pc = S.pc ∧ S'.nt = S.nt := by
  cases d with
  | none => simp only [St.setT, Option.some.injEq] at hs; subst hs; exact ⟨rfl, rfl, rfl⟩
  | some t =>
    simp only [St.setT] at hs
    cases hb : Nat.blt t S.nt with
    | false => rw [hb] at hs; simp at hs
    | true => rw [hb] at hs; simp only [cond_true, Option.some.injEq] at hs; subst hs; exact ⟨rfl, rfl, rfl⟩

theorem SatH.congr {ρ : Env} {S S' : St} {w : World} (h : SatH c F ρ S w) (hh : S'.heap = S.heap) (hp : S'.pc = S.pc) : SatH c F ρ S' w := by
  obtain ⟨a1, a2, a3, a4, a5, a6, a7, a8, a9, a10, a11⟩ := h
  have hl : ∀ n, live S' n ↔ live S n := fun n => by simp [live, hh]
  exact ⟨by rw [hh]; exact a1, by rw [hh]; exact a2, a3, fun n m b h1 h2 => a4 n m b ((hl n).1 h1) ((hl m).1 h2), a5, a6, fun n b h1 => a7 n b ((hl n).1 h1), a8, a9, a10, by rw [hp]; exact a11⟩

theorem SatH.drew {ρ : Env} {S : St} {w : World} (h : SatH c F ρ S w) (n : Nat) : SatH c F ρ S { w with drawn := n } := by
  obtain ⟨a1, a2, a3, a4, a5, a6, a7, a8, a9, a10, a11⟩ := h
  refine ⟨?_, a2, a3, a4, a5, a6, a7, a8, a9, a10, a11⟩
  intro n e he
  have := a1 n e he
  cases e <;> exact this

/-- What has not been written down as written is as it was. -/
def Unch (S S' : St) : Prop := (∀ n, n ∈ S.log → n ∈ S'.log) ∧ (∀ n, n ∉ S'.log → S'.heap.get n = S.heap.get n)
theorem Unch.refl (S : St) : Unch S S := ⟨fun _ h => h, fun _ _ => rfl⟩
theorem Unch.trans {S S' S'' : St} (h : Unch S S') (h' : Unch S' S'') : Unch S S'' :=
  ⟨fun n hn => h'.1 n (h.1 n hn), fun n hn => (h'.2 n hn).trans (h.2 n (fun e => hn (h'.1 n e)))⟩
theorem Unch.put (S : St) (n : Nat) (e : Ent) : Unch S (S.put n e) := by
  refine ⟨fun m hm => List.mem_cons_of_mem _ hm, fun m hm => ?_⟩
  have hne : m ≠ n := fun e => hm (e ▸ List.mem_cons_self ..)
  simp only [St.put, Tr.get_set, if_neg hne]

def upd (ρ : Env) (n : Nat) (x : Value) : Env := fun m => if m = n then some x else ρ m
theorem upd_self (ρ : Env) (n : Nat) (x : Value) : upd ρ n x n = some x := by simp [upd]
theorem upd_other (ρ : Env) {n m : Nat} (x : Value) (h : m ≠ n) : upd ρ n x m = ρ m := by simp [upd, h]
theorem Le.upd {ρ : Env} {n : Nat} {x : Value} (h : ρ n = none) : Le ρ (upd ρ n x) := by
  intro m y hy
  by_cases hm : m = n
  · subst hm; rw [h] at hy; cases hy
  · rw [upd_other _ _ hm]; exact hy

theorem MoreOk.mono {ρ ρ' : Env} (hl : Le ρ ρ') {m : Option (Nat × Nat)} {n : Nat} {t : List Value} (h : MoreOk ρ m n t) : MoreOk ρ' m n t := by
  cases m with
  | none => exact h
  | some p => obtain ⟨k, h1, h2⟩ := h; exact ⟨k, hl _ _ h1, h2⟩

theorem denE_mono {ρ ρ' : Env} (hl : Le ρ ρ') : ∀ {es : List (Value × V × Nat)} {xs : List MapEntry}, denE c ρ es = some xs → denE c ρ' es = some xs
  | [], _, h => h
  | (k, v, b) :: r, xs, h => by
    simp only [denE, Option.bind_eq_some_iff, Option.map_eq_some_iff] at h ⊢
    obtain ⟨x, hx, l, hl', rfl⟩ := h
    exact ⟨x, den_mono hl hx, l, denE_mono hl hl', rfl⟩

theorem EntOk.mono {ρ ρ' : Env} {w w' : World} (hl : Le ρ ρ') {n : Nat} {e : Ent} (h : EntOk c ρ w n e)
    (hw : e.owns = true → ∀ b, blockOf (ρ n) = some b → w'.heap[b]? = w.heap[b]?) : EntOk c ρ' w' n e := by
  cases e with
  | blk cells T m =>
    obtain ⟨b, xs, tail, h1, h2, h3, h4⟩ := h
    exact ⟨b, xs, tail, hl.blockOf h1, denL_mono hl h2, by rw [hw rfl b h1]; exact h3, h4.mono hl⟩
  | map es clock =>
    obtain ⟨b, xs, h1, h2, h3⟩ := h
    exact ⟨b, xs, hl.blockOf h1, denE_mono hl h2, by rw [hw rfl b h1]; exact h3⟩
  | dead => obtain ⟨x, hx⟩ := h; exact ⟨x, hl _ _ hx⟩
  | val ty => obtain ⟨x, hx, ht⟩ := h; exact ⟨x, hl _ _ hx, ht⟩

theorem SatH.lives {ρ : Env} {S : St} {w : World} (h : SatH c F ρ S w) {n b : Nat} (hn : live S n) (hb : blockOf (ρ n) = some b) : b < w.heap.size := by
  obtain ⟨e, he, ho⟩ := hn
  have := h.ents n _ he
  cases e with
  | blk cells T m =>
    obtain ⟨b', xs, tail, h1, _, h3, _⟩ := this
    rw [h1] at hb
    cases hb
    exact getElem?_lt h3
  | map es clock =>
    obtain ⟨b', xs, h1, _, h3⟩ := this
    rw [h1] at hb
    cases hb
    exact getElem?_lt h3
  | dead => cases ho
  | val ty => cases ho

theorem fresh_none {S : St} {n : Nat} (h : S.fresh n = true) : S.heap.get n = none := by
  unfold St.fresh at h
  cases hg : S.heap.get n with
  | none => rfl
  | some e => rw [hg] at h; simp at h

theorem live_put {S : St} {n m : Nat} {e : Ent} (h : live (S.put n e) m) : (m = n ∧ e.owns = true) ∨ (m ≠ n ∧ live S m) := by
  obtain ⟨e', he, ho⟩ := h
  simp only [St.put, Tr.get_set] at he
  by_cases hm : m = n
  · rw [if_pos hm] at he
    simp only [Option.some.injEq] at he
    exact .inl ⟨hm, by rw [he]; exact ho⟩
  · rw [if_neg hm] at he
    exact .inr ⟨hm, e', he, ho⟩

/-- A new block, whatever it holds. -/
theorem SatH.allocG {ρ : Env} {S : St} {w : World} (h : SatH c F ρ S w) {n : Nat} (hn : S.fresh n = true) {e0 : Ent} {ob : Obj}
    (hok : ∀ ρ' w', Le ρ ρ' → blockOf (ρ' n) = some w.heap.size → w'.heap[w.heap.size]? = some ob → EntOk c ρ' w' n e0) :
    let ρ' := upd ρ n (.pointer (some ⟨w.heap.size, 0, none⟩))
    Le ρ ρ' ∧ SatH c F ρ' (S.put n e0) (w.alloc ob) := by
  have hnone := fresh_none hn
  have hρ := h.dom n hnone
  have hle : Le ρ (upd ρ n (.pointer (some ⟨w.heap.size, 0, none⟩))) := Le.upd hρ
  have hold : ∀ b, b < w.heap.size → (w.alloc ob).heap[b]? = w.heap[b]? := by
    intro b hb
    simp only [World.alloc, Array.getElem?_push]
    rw [if_neg (by omega)]
  have hnew : blockOf (upd ρ n (.pointer (some ⟨w.heap.size, 0, none⟩)) n) = some w.heap.size := by rw [upd_self]; rfl
  refine ⟨hle, ?_, ?_, ?_, ?_, ?_, ?_, ?_, h.os, h.out, h.tape, fun v hv => den_mono hle (h.pc v hv)⟩
  · intro m e he
    simp only [St.put, Tr.get_set] at he
    by_cases hm' : m = n
    · subst hm'
      rw [if_pos rfl] at he
      simp only [Option.some.injEq] at he
      subst he
      exact hok _ _ hle hnew (by show (w.heap.push _)[w.heap.size]? = _; simp)
    · rw [if_neg hm'] at he
      refine (h.ents m e he).mono hle ?_
      intro ho b hb
      exact hold b (h.lives ⟨e, he, ho⟩ hb)
  · intro m hm'
    simp only [St.put, Tr.get_set] at hm'
    by_cases e : m = n
    · rw [if_pos e] at hm'; cases hm'
    · rw [if_neg e] at hm'; rw [upd_other _ _ e]; exact h.dom m hm'
  · intro m x hx
    by_cases e : m = n
    · subst e; rw [upd_self] at hx; cases hx; rfl
    · rw [upd_other _ _ e] at hx; exact h.sca m x hx
  · intro m m' b hlm hlm' hb hb'
    rcases live_put hlm with ⟨rfl, _⟩ | ⟨hne, hl⟩ <;> rcases live_put hlm' with ⟨rfl, _⟩ | ⟨hne', hl'⟩
    · rfl
    · rw [hnew] at hb; cases hb
      rw [upd_other _ _ hne'] at hb'
      exact absurd (h.lives hl' hb') (Nat.lt_irrefl _)
    · rw [hnew] at hb'; cases hb'
      rw [upd_other _ _ hne] at hb
      exact absurd (h.lives hl hb) (Nat.lt_irrefl _)
    · rw [upd_other _ _ hne] at hb
      rw [upd_other _ _ hne'] at hb'
      exact h.inj m m' b hl hl' hb hb'
  · intro b hb
    obtain ⟨h1, h2⟩ := h.fr b hb
    exact ⟨by rw [hold b (Nat.lt_of_lt_of_le h2 h.size)]; exact h1, h2⟩
  · exact Nat.le_trans h.size (by rw [World.size_alloc]; omega)
  · intro m b hlm hb hfr
    rcases live_put hlm with ⟨rfl, _⟩ | ⟨hne, hl⟩
    · rw [hnew] at hb; cases hb
      exact absurd (Nat.lt_of_lt_of_le (h.fr _ hfr).2 h.size) (Nat.lt_irrefl _)
    · rw [upd_other _ _ hne] at hb
      exact h.frn m b hl hb hfr

/-- A new block. -/
theorem SatH.alloc {ρ : Env} {S : St} {w : World} (h : SatH c F ρ S w) {n : Nat} (hn : S.fresh n = true) {cells : List V} {xs tail : List Value} {T : TypeId} {more : Option (Nat × Nat)}
    (hc : denL c.P c.Φ ρ cells = some xs) (hm : MoreOk ρ more (xs.length + tail.length) tail) :
    let ρ' := upd ρ n (.pointer (some ⟨w.heap.size, 0, none⟩))
    Le ρ ρ' ∧ SatH c F ρ' (S.put n (.blk cells T more)) (w.alloc (.cells (xs ++ tail).toArray T)) :=
  h.allocG hn (fun _ _ hle hb hw => ⟨w.heap.size, xs, tail, hb, denL_mono hle hc, hw, hm.mono hle⟩)

/-- A new variable. -/
theorem SatH.newVar {ρ : Env} {S : St} {w : World} (h : SatH c F ρ S w) {n : Nat} (hn : S.fresh n = true) {x : Value} {ty : Ty} (hx : hasTy x ty) (hs : isScalar x = true) :
    Le ρ (upd ρ n x) ∧ SatH c F (upd ρ n x) (S.put n (.val ty)) w := by
  have hnone := fresh_none hn
  have hle : Le ρ (upd ρ n x) := Le.upd (h.dom n hnone)
  refine ⟨hle, ?_, ?_, ?_, ?_, h.fr, h.size, ?_, h.os, h.out, h.tape, fun v hv => den_mono hle (h.pc v hv)⟩
  · intro m e he
    simp only [St.put, Tr.get_set] at he
    by_cases hm' : m = n
    · subst hm'
      rw [if_pos rfl] at he
      simp only [Option.some.injEq] at he
      subst he
      exact ⟨x, upd_self _ _ _, hx⟩
    · rw [if_neg hm'] at he
      exact (h.ents m e he).mono hle (fun _ _ _ => rfl)
  · intro m hm'
    simp only [St.put, Tr.get_set] at hm'
    by_cases e : m = n
    · rw [if_pos e] at hm'; cases hm'
    · rw [if_neg e] at hm'; rw [upd_other _ _ e]; exact h.dom m hm'
  · intro m y hy
    by_cases e : m = n
    · subst e; rw [upd_self] at hy; cases hy; exact hs
    · rw [upd_other _ _ e] at hy; exact h.sca m y hy
  · intro m m' b hlm hlm' hb hb'
    rcases live_put hlm with ⟨_, he⟩ | ⟨hne, hl⟩
    · cases he
    rcases live_put hlm' with ⟨_, he⟩ | ⟨hne', hl'⟩
    · cases he
    rw [upd_other _ _ hne] at hb
    rw [upd_other _ _ hne'] at hb'
    exact h.inj m m' b hl hl' hb hb'
  · intro m b hlm hb
    rcases live_put hlm with ⟨_, he⟩ | ⟨hne, hl⟩
    · cases he
    rw [upd_other _ _ hne] at hb
    exact h.frn m b hl hb

/-- A block of which nothing more is told. -/
theorem SatH.kill {ρ : Env} {S : St} {w : World} (h : SatH c F ρ S w) {n : Nat} {x : Value} (hx : ρ n = some x) : SatH c F ρ (S.put n .dead) w := by
  refine ⟨?_, ?_, h.sca, ?_, h.fr, h.size, ?_, h.os, h.out, h.tape, h.pc⟩
  · intro m e he
    simp only [St.put, Tr.get_set] at he
    by_cases hm' : m = n
    · subst hm'
      rw [if_pos rfl] at he
      simp only [Option.some.injEq] at he
      subst he
      exact ⟨x, hx⟩
    · rw [if_neg hm'] at he
      exact h.ents m e he
  · intro m hm'
    simp only [St.put, Tr.get_set] at hm'
    by_cases e : m = n
    · rw [if_pos e] at hm'; cases hm'
    · rw [if_neg e] at hm'; exact h.dom m hm'
  · intro m m' b hlm hlm' hb hb'
    rcases live_put hlm with ⟨_, he⟩ | ⟨hne, hl⟩
    · cases he
    rcases live_put hlm' with ⟨_, he⟩ | ⟨hne', hl'⟩
    · cases he
    exact h.inj m m' b hl hl' hb hb'
  · intro m b hlm hb
    rcases live_put hlm with ⟨_, he⟩ | ⟨hne, hl⟩
    · cases he
    exact h.frn m b hl hb

def putObj (w : World) (b : Nat) (ob : Obj) : World := { w with heap := w.heap.setIfInBounds b ob }
theorem putObj_get {b b' : Nat} {ob : Obj} {w : World} (h : b < w.heap.size) : (putObj w b ob).heap[b']? = if b' = b then some ob else w.heap[b']? := by
  simp only [putObj, Array.getElem?_setIfInBounds]
  by_cases hb : b = b'
  · subst hb; simp [h]
  · rw [if_neg hb, if_neg (fun e => hb e.symm)]

/-- A block written: its own row alone has turned. -/
theorem SatH.writeG {ρ : Env} {S : St} {w : World} (h : SatH c F ρ S w) {n b : Nat} {e1 : Ent} {ob : Obj}
    (hlive : live S n) (hb : blockOf (ρ n) = some b) (hok : ∀ w', w'.heap[b]? = some ob → EntOk c ρ w' n e1) :
    SatH c F ρ (S.put n e1) (putObj w b ob) := by
  have hlt : b < w.heap.size := h.lives hlive hb
  refine ⟨?_, ?_, h.sca, ?_, ?_, ?_, ?_, h.os, h.out, h.tape, h.pc⟩
  · intro m e he'
    simp only [St.put, Tr.get_set] at he'
    by_cases hm' : m = n
    · subst hm'
      rw [if_pos rfl] at he'
      simp only [Option.some.injEq] at he'
      subst he'
      exact hok _ (by rw [putObj_get hlt, if_pos rfl])
    · rw [if_neg hm'] at he'
      refine (h.ents m e he').mono (Le.refl ρ) ?_
      intro ho b' hb'
      rw [putObj_get hlt, if_neg]
      intro e'
      subst e'
      exact hm' (h.inj m n b' ⟨e, he', ho⟩ hlive hb' hb)
  · intro m hm'
    simp only [St.put, Tr.get_set] at hm'
    by_cases e : m = n
    · rw [if_pos e] at hm'; cases hm'
    · rw [if_neg e] at hm'; exact h.dom m hm'
  · have hl : ∀ m, live (S.put n e1) m → live S m := by
      intro m hlm
      rcases live_put hlm with ⟨rfl, _⟩ | ⟨_, hl⟩
      · exact hlive
      · exact hl
    intro m m' b hlm hlm' hb hb'
    exact h.inj m m' b (hl m hlm) (hl m' hlm') hb hb'
  · intro b' hfr
    obtain ⟨h1, h2⟩ := h.fr b' hfr
    refine ⟨?_, h2⟩
    rw [putObj_get hlt, if_neg, h1]
    intro e
    subst e
    exact h.frn n b' hlive hb hfr
  · simpa [putObj] using h.size
  · intro m b' hlm hb'
    rcases live_put hlm with ⟨rfl, _⟩ | ⟨_, hl⟩
    · exact h.frn m b' hlive hb'
    · exact h.frn m b' hl hb'

theorem SatH.write {ρ : Env} {S : St} {w : World} (h : SatH c F ρ S w) {n b : Nat} {cells cells' : List V} {T : TypeId} {more more' : Option (Nat × Nat)} {ys tail : List Value}
    (he : S.heap.get n = some (.blk cells T more)) (hb : blockOf (ρ n) = some b) (hc : denL c.P c.Φ ρ cells' = some ys) (hm : MoreOk ρ more' (ys.length + tail.length) tail) :
    SatH c F ρ (S.put n (.blk cells' T more')) (putRow w b (ys ++ tail) T) :=
  h.writeG ⟨_, he, rfl⟩ hb (fun _ hw => ⟨b, ys, tail, hb, hc, hw, hm⟩)
end
end Go.Proofs.Ytobghgfmdjknlaa.Sx
