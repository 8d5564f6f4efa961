/- Symbolic execution: runs of the model's memory words over a block that is known. -/
import Derived.Test.YtobghgfmdjknlaaSxBase
namespace Go.Proofs.Ytobghgfmdjknlaa.Sx
open Go
set_option linter.unusedSectionVars false

def hasTy (x : Value) : Ty → Prop
  | .nan => ∃ b s t, x = .float .f64 b ∧ Ieee.double.read b = .nan s t
  | .natGe m => ∃ k : Nat, x = .int .i64 (Int.ofNat k) ∧ m ≤ k
  | .int k lo hi => ∃ n : Int, x = .int k n ∧ lo ≤ n ∧ ∀ h, hi = some h → n ≤ h
  | .f64 => ∃ b, x = .float .f64 b
  | .num => ∃ b, x = .float .f64 b ∧ ∀ s t, Ieee.double.read b ≠ .nan s t
  | .fin => ∃ b s m i, x = .float .f64 b ∧ Ieee.double.read b = .number s m i
  | .any => isScalar x = true
  | .bool => ∃ b, x = .bool b
  | .str => ∃ s, x = .string s

/-- The tables tell what the program says. -/
class COk (c : Cfg) : Prop where
  mixed : c.P.follows .mixedOrders = true
  ty : ∀ t i, c.ty.get t = some i → tiOf c.P t = some i
  fn : ∀ f fn, c.fn.get f = some fn → fnOf c.P f = some fn
  ext : ∀ f g, c.ext f = some g → ∀ xs x w, (g xs).run c.P w = .ok x w → (callFunc f xs).run c.P w = .ok (.value x) w
  extTy : ∀ f ts t xs, c.extTy f ts = some t → All2 hasTy xs ts → ∃ x, pureRun c.P (callFunc f xs.toArray) = some (.value x) ∧ hasTy x t := by intro _ _ _ _ h; cases h
  app : ∀ f ts t xs, c.appTy f ts = some t → All2 hasTy xs ts → ∃ x, c.Φ f xs = some x ∧ hasTy x t := by intro _ _ _ _ h; cases h
  invOk : ∀ w w' : World, c.inv w → (∀ b, b < c.low → w'.heap[b]? = w.heap[b]?) → c.inv w'

theorem ty_spec {c : Cfg} [k : COk c] {t : Nat} {i : TI} (h : c.ty.get t = some i) : c.P.info? t = some i.info ∧ c.P.underlying t = some i.und := by
  have := k.ty t i h
  simp only [tiOf, Option.bind_eq_some_iff, Option.map_eq_some_iff] at this
  obtain ⟨a, ha, d, hd, rfl⟩ := this
  exact ⟨ha, hd⟩
theorem und_spec {c : Cfg} [COk c] {t : Nat} {d : TypeDesc} (h : und c t = some d) : c.P.underlying t = some d := by
  simp only [und, Option.map_eq_some_iff] at h
  obtain ⟨i, hi, rfl⟩ := h
  exact (ty_spec hi).2
theorem fn_spec {c : Cfg} [k : COk c] {f : Nat} {fn : Func} (h : c.fn.get f = some fn) : c.P.funcs[f]? = some fn ∧ (fn.name == "runtime.NumGoroutine") = false := by
  have := k.fn f fn h
  simp only [fnOf, Option.bind_eq_some_iff] at this
  obtain ⟨g, hg, h2⟩ := this
  cases hb : (g.name == "runtime.NumGoroutine") with
  | true => rw [hb] at h2; simp at h2
  | false =>
    rw [hb] at h2
    simp only [cond_false, Option.some.injEq] at h2
    subst h2
    exact ⟨hg, hb⟩

section
variable {P : Program} {w : World}

theorem run_pure {α : Type} (a : α) : (pure a : Sem α).run P w = .ok a w := rfl
theorem run_program : program.run P w = .ok P w := rfl
theorem run_bindok {α β : Type} {s : Sem α} {f : α → Sem β} {a : α} {w' : World} (h : s.run P w = .ok a w') : (s >>= f).run P w = (f a).run P w' := by
  rw [Sem.run_bind, h]; rfl
theorem run_typeInfo {t : TypeId} {i : TypeInfo} (h : P.info? t = some i) : (typeInfo t).run P w = .ok i w := by
  unfold typeInfo
  rw [run_bindok run_program, h]; rfl
theorem run_underlying {t : TypeId} {d : TypeDesc} (h : P.underlying t = some d) : (underlying t).run P w = .ok d w := by
  unfold underlying
  rw [run_bindok run_program, h]; rfl
theorem run_zeroValue {t : TypeId} {i : TypeInfo} {v : Value} (h : P.info? t = some i) (hz : i.zero = some v) : (zeroValue t).run P w = .ok v w := by
  unfold zeroValue
  rw [run_bindok (run_typeInfo h), hz]; rfl
theorem run_sizeOf {t : TypeId} {i : TypeInfo} (h : P.info? t = some i) : (sizeOf t).run P w = .ok i.size w := by
  unfold sizeOf
  rw [run_bindok (run_typeInfo h)]; rfl
theorem run_sizeOf' {c : Cfg} [COk c] {t s : Nat} (h : szOf c t = some s) : (sizeOf t).run c.P w = .ok s w := by
  unfold szOf at h
  rw [Option.map_eq_some_iff] at h
  obtain ⟨i, hi, rfl⟩ := h
  exact run_sizeOf (ty_spec hi).1
theorem run_isAgg {c : Cfg} [COk c] {t : Nat} {g : Bool} (h : aggT c t = some g) : (isAgg t).run c.P w = .ok g w := by
  unfold aggT at h
  unfold isAgg
  split at h
  · rename_i d hd; rw [run_bindok (run_underlying (und_spec hd))]; simp at h; subst h; rfl
  · rename_i d e hd; rw [run_bindok (run_underlying (und_spec hd))]; simp at h; subst h; rfl
  · rename_i d hne1 hne2 hd
    rw [run_bindok (run_underlying (und_spec hd))]
    simp at h; subst h
    cases d <;> first | rfl | (exfalso; exact hne1 _ rfl) | (exfalso; exact hne2 _ _ rfl)
  · simp at h

theorem addr_add (b off n : Nat) : (⟨b, off, none⟩ : Addr).add n = ⟨b, off + n, none⟩ := by
  unfold Addr.add
  split
  · rename_i h; subst h; rfl
  · rfl

/-- One row of cells put in another's place. -/
def putRow (w : World) (b : Nat) (l : List Value) (T : TypeId) : World := { w with heap := w.heap.setIfInBounds b (.cells l.toArray T (0, 0)) }

theorem putRow_get {b b' : Nat} {l : List Value} {T : TypeId} (h : b < w.heap.size) : (putRow w b l T).heap[b']? = if b' = b then some (.cells l.toArray T (0, 0)) else w.heap[b']? := by
  simp only [putRow, Array.getElem?_setIfInBounds]
  by_cases hb : b = b'
  · subst hb; simp [h]
  · rw [if_neg hb, if_neg (fun e => hb e.symm)]

theorem getElem?_lt {α : Type} {a : Array α} {i : Nat} {x : α} (h : a[i]? = some x) : i < a.size := by
  rcases Nat.lt_or_ge i a.size with h' | h'
  · exact h'
  · rw [Array.getElem?_eq_none h'] at h; cases h

theorem run_load {b off : Nat} {zs : List Value} {T : TypeId} {fr : Nat × Nat} {x : Value} (hb : w.heap[b]? = some (.cells zs.toArray T fr)) (hx : zs[off]? = some x) :
    (load ⟨b, off, none⟩).run P w = .ok x w := by
  have hc : w.cell? ⟨b, off, none⟩ = some x := by simp [World.cell?, hb, hx]
  simp [load, Sem.run, hc]

theorem run_loadCellsFrom {b off : Nat} {zs : List Value} {T : TypeId} {fr : Nat × Nat} (hb : w.heap[b]? = some (.cells zs.toArray T fr)) :
    ∀ (n i : Nat) (acc : Array Value), off + i + n ≤ zs.length → (loadCellsFrom ⟨b, off, none⟩ i n acc).run P w = .ok (acc ++ ((zs.drop (off + i)).take n).toArray) w
  | 0, i, acc, _ => by simp [loadCellsFrom]
  | n + 1, i, acc, h => by
    have hlt : off + i < zs.length := by omega
    unfold loadCellsFrom
    rw [addr_add, run_bindok (run_load hb (List.getElem?_eq_getElem hlt)), run_loadCellsFrom hb n (i + 1) _ (by omega)]
    congr 1
    apply Array.ext'
    rw [List.drop_eq_getElem_cons hlt]
    simp [Nat.add_assoc]

theorem run_loadCells {b off n : Nat} {zs : List Value} {T : TypeId} {fr : Nat × Nat} (hb : w.heap[b]? = some (.cells zs.toArray T fr)) (h : off + n ≤ zs.length) :
    (loadCells ⟨b, off, none⟩ n).run P w = .ok ((zs.drop off).take n).toArray w := by
  unfold loadCells
  rw [run_loadCellsFrom hb n 0 #[] (by omega)]
  simp

theorem run_store {b off : Nat} {zs : List Value} {T : TypeId} {x : Value} (hb : w.heap[b]? = some (.cells zs.toArray T (0, 0))) (hx : isScalar x = true) (hlt : off < zs.length) :
    (store ⟨b, off, none⟩ x).run P w = .ok () (putRow w b (zs.set off x) T) := by
  have hc : w.cell? ⟨b, off, none⟩ = some zs[off] := by simp [World.cell?, hb, hlt]
  have hf : w.frozen? ⟨b, off, none⟩ = false := by simp [World.frozen?, hb]
  have hset : w.setCell ⟨b, off, none⟩ x = putRow w b (zs.set off x) T := by
    have hlt' := getElem?_lt hb
    simp only [World.setCell, putRow]
    congr 1
    apply Array.ext_getElem?
    intro j
    simp only [Array.getElem?_modify, Array.getElem?_setIfInBounds]
    by_cases hj : b = j
    · subst hj
      obtain ⟨_, h2⟩ := Array.getElem?_eq_some_iff.1 hb
      simp [hlt', h2]
    · simp [hj]
  unfold store
  cases x <;> simp only [isScalar, Bool.false_eq_true] at hx <;> simp [Sem.run, hc, hf, hset]

theorem run_storeCells {b off : Nat} {T : TypeId} : ∀ (vs : List Value) (i : Nat) (zs : List Value) (w : World), w.heap[b]? = some (.cells zs.toArray T (0, 0)) →
    off + i + vs.length ≤ zs.length → (∀ v ∈ vs, isScalar v = true) → (vs = [] → False) →
    (storeCells ⟨b, off, none⟩ vs i).run P w = .ok () (putRow w b (zs.take (off + i) ++ vs ++ zs.drop (off + i + vs.length)) T)
  | [], _, _, _, _, _, _, h => (h rfl).elim
  | v :: rest, i, zs, w, hb, hl, hs, _ => by
    have hlt : off + i < zs.length := by simp at hl; omega
    unfold storeCells
    rw [addr_add, run_bindok (run_store hb (hs v (by simp)) hlt)]
    have hb' : (putRow w b (zs.set (off + i) v) T).heap[b]? = some (.cells (zs.set (off + i) v).toArray T (0, 0)) := by
      rw [putRow_get (getElem?_lt hb), if_pos rfl]
    have hcat : zs.set (off + i) v = zs.take (off + i) ++ v :: zs.drop (off + i + 1) := by
      rw [List.set_eq_take_append_cons_drop, if_pos hlt]
    cases rest with
    | nil =>
      simp only [storeCells, run_pure, List.length_cons, List.length_nil]
      rw [hcat]
      simp
    | cons u r =>
      rw [run_storeCells (u :: r) (i + 1) _ _ hb' (by simp at hl ⊢; omega) (fun x hx => hs x (by simp at hx ⊢; exact .inr hx)) (by simp)]
      congr 1
      simp only [putRow, Array.setIfInBounds_setIfInBounds]
      have hlen : (zs.take (off + i)).length = off + i := by simp; omega
      have e1 : (zs.set (off + i) v).take (off + (i + 1)) = zs.take (off + i) ++ [v] := by
        rw [hcat, ← Nat.add_assoc, List.take_append, hlen, List.take_of_length_le (by rw [hlen]; omega)]
        simp
      have e2 : (zs.set (off + i) v).drop (off + (i + 1) + (u :: r).length) = zs.drop (off + i + (v :: u :: r).length) := by
        rw [List.drop_set_of_lt (by simp; omega)]
        congr 1
        simp; omega
      rw [e1, e2]
      simp

end
end Go.Proofs.Ytobghgfmdjknlaa.Sx
