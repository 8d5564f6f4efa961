/- Symbolic execution: append. -/
import Derived.Test.YtobghgfmdjknlaaSxOps
namespace Go.Proofs.Ytobghgfmdjknlaa.Sx
open Go
set_option linter.unusedSectionVars false

section
variable {c : Cfg} {F : Wd} [COk c]

theorem SatH.congr' {ρ : Env} {S S' : St} {w : World} (h : SatH c F ρ S w) (hh : ∀ n, S'.heap.get n = S.heap.get n) (hp : S'.pc = S.pc) : SatH c F ρ S' w := by
  obtain ⟨a1, a2, a3, a4, a5, a6, a7, a8, a9, a10, a11⟩ := h
  have hl : ∀ n, live S' n ↔ live S n := fun n => by simp [live, hh]
  exact ⟨fun n e he => a1 n e (by rw [← hh]; exact he), fun n he => a2 n (by rw [← hh]; exact he), a3, fun n m b h1 h2 => a4 n m b ((hl n).1 h1) ((hl m).1 h2), a5, a6, fun n b h1 => a7 n b ((hl n).1 h1), a8, a9, a10, by rw [hp]; exact a11⟩

/-- A block that nobody holds gets a name. -/
theorem SatH.adopt {ρ : Env} {S : St} {w : World} (h : SatH c F ρ S w) {n b : Nat} (hn : S.fresh n = true) {cells : List V} {xs tail : List Value} {T : TypeId} {more : Option (Nat × Nat)}
    (hb : w.heap[b]? = some (.cells (xs ++ tail).toArray T (0, 0))) (hf : ¬ F.Fr b) (hfree : ∀ m, live S m → blockOf (ρ m) ≠ some b)
    (hc : denL c.P c.Φ ρ cells = some xs) (hm : MoreOk ρ more (xs.length + tail.length) tail) :
    let ρ' := upd ρ n (.pointer (some ⟨b, 0, none⟩))
    Le ρ ρ' ∧ SatH c F ρ' (S.put n (.blk cells T more)) w := by
  have hnone := fresh_none hn
  have hρ := h.dom n hnone
  have hle : Le ρ (upd ρ n (.pointer (some ⟨b, 0, none⟩))) := Le.upd hρ
  have hnew : blockOf (upd ρ n (.pointer (some ⟨b, 0, none⟩)) n) = some b := by rw [upd_self]; rfl
  refine ⟨hle, ?_, ?_, ?_, ?_, h.fr, h.size, ?_, h.os, h.out, h.tape, fun v hv => den_mono hle (h.pc v hv)⟩
  · intro m e he
    simp only [St.put, Tr.get_set] at he
    by_cases hm' : m = n
    · subst hm'
      rw [if_pos rfl] at he
      simp only [Option.some.injEq] at he
      subst he
      exact ⟨b, xs, tail, hnew, denL_mono hle hc, hb, hm.mono hle⟩
    · rw [if_neg hm'] at he
      exact (h.ents m e he).mono hle (fun _ _ _ => rfl)
  · intro m hm'
    simp only [St.put, Tr.get_set] at hm'
    by_cases e : m = n
    · rw [if_pos e] at hm'; cases hm'
    · rw [if_neg e] at hm'; rw [upd_other _ _ e]; exact h.dom m hm'
  · intro m x hx
    by_cases e : m = n
    · subst e; rw [upd_self] at hx; cases hx; rfl
    · rw [upd_other _ _ e] at hx; exact h.sca m x hx
  · intro m m' b' hlm hlm' hb hb'
    rcases live_put hlm with ⟨rfl, _⟩ | ⟨hne, hl⟩ <;> rcases live_put hlm' with ⟨rfl, _⟩ | ⟨hne', hl'⟩
    · rfl
    · rw [hnew] at hb; cases hb
      rw [upd_other _ _ hne'] at hb'
      exact absurd hb' (hfree m' hl')
    · rw [hnew] at hb'; cases hb'
      rw [upd_other _ _ hne] at hb
      exact absurd hb (hfree m hl)
    · rw [upd_other _ _ hne] at hb
      rw [upd_other _ _ hne'] at hb'
      exact h.inj m m' b' hl hl' hb hb'
  · intro m b' hlm hb' hfr
    rcases live_put hlm with ⟨rfl, _⟩ | ⟨hne, hl⟩
    · rw [hnew] at hb'; cases hb'
      exact hf hfr
    · rw [upd_other _ _ hne] at hb'
      exact h.frn m b' hl hb' hfr

theorem fresh_put {S : St} {n m : Nat} {e : Ent} (h : S.fresh n = true) (hne : n ≠ m) : (S.put m e).fresh n = true := by
  have := fresh_none h
  simp only [St.fresh, St.put, Tr.get_set, if_neg hne, this]

theorem putRow_same {w : World} {b : Nat} {l : List Value} {T : TypeId} (h : w.heap[b]? = some (.cells l.toArray T (0, 0))) : putRow w b l T = w := by
  unfold putRow
  have : w.heap.setIfInBounds b (.cells l.toArray T (0, 0)) = w.heap := by
    apply Array.ext_getElem?
    intro j
    rw [Array.getElem?_setIfInBounds]
    split
    · rename_i e; subst e; rw [if_pos (getElem?_lt h), h]
    · rfl
  rw [this]

theorem run_storeCells' {P : Program} {b off : Nat} {T : TypeId} (vs : List Value) (zs : List Value) (w : World) (hb : w.heap[b]? = some (.cells zs.toArray T (0, 0)))
    (hl : off + vs.length ≤ zs.length) (hs : ∀ v ∈ vs, isScalar v = true) :
    (storeCells ⟨b, off, none⟩ vs).run P w = .ok () (putRow w b (zs.take off ++ vs ++ zs.drop (off + vs.length)) T) := by
  cases vs with
  | nil =>
    have : zs.take off ++ [] ++ zs.drop (off + 0) = zs := by simp
    simp only [List.length_nil] at *
    rw [this, putRow_same hb]; rfl
  | cons v r =>
    have := run_storeCells (P := P) (b := b) (off := off) (T := T) (v :: r) 0 zs w hb (by simpa using hl) hs (by simp)
    simpa using this

theorem denL_scalar {ρ : Env} (hρ : ∀ n x, ρ n = some x → isScalar x = true) : ∀ {cs : List V} {ys : List Value}, denL c.P c.Φ ρ cs = some ys → cs.all scalarV = true → ∀ y ∈ ys, isScalar y = true
  | [], ys, h, _, y, hy => by simp [denL] at h; subst h; cases hy
  | u :: r, ys, h, hs', y, hy => by
    simp only [denL, Option.bind_eq_some_iff, Option.map_eq_some_iff] at h
    obtain ⟨z, hz, zs, hzs, rfl⟩ := h
    simp only [List.all_cons, Bool.and_eq_true] at hs'
    rcases List.mem_cons.1 hy with rfl | hy
    · exact scalarV_scalar hρ hs'.1 hz
    · exact denL_scalar hρ hzs hs'.2 y hy

/-- What is appended: how many elements, and their cells, in every world with this heap. -/
theorem srcCells_spec {ρ : Env} {S : St} {w : World} {size n : Nat} {xv : V} {x : Value} {new : List V} (hs : SatH c F ρ S w) (h : srcCells S size xv = some (n, new)) (hx : den c.P c.Φ ρ xv = some x) :
    ∃ ys, denL c.P c.Φ ρ new = some ys ∧ ∀ d, (Builtin.lenOf x).run c.P { w with drawn := d } = .ok n { w with drawn := d } ∧
      (Builtin.firstCells size n x).run c.P { w with drawn := d } = .ok ys.toArray { w with drawn := d } := by
  unfold srcCells at h
  split at h
  · simp only [Option.some.injEq, Prod.mk.injEq] at h
    obtain ⟨rfl, rfl⟩ := h
    simp only [den_k, Option.some.injEq] at hx
    subst hx
    exact ⟨[], rfl, fun d => ⟨rfl, rfl⟩⟩
  · rename_i s
    replace h := (bif_none h).2
    simp only [Option.some.injEq, Prod.mk.injEq] at h
    obtain ⟨rfl, rfl⟩ := h
    simp only [den_k, Option.some.injEq] at hx
    subst hx
    refine ⟨s.data.toList.map fun b => .int .u8 b.toNat, ?_, fun d => ⟨rfl, ?_⟩⟩
    · have := denL_ks (P := c.P) (Φ := c.Φ) (ρ := ρ) (s.data.toList.map fun b => Value.int .u8 b.toNat)
      rwa [List.map_map] at this
    · simp only [Builtin.firstCells, run_pure]
      congr 1
      have : s.extract 0 s.size = s := by simp
      rw [this]
      apply Array.ext'
      rw [Array.toList_map, List.toList_toArray]
  · rename_i n' off l k
    simp only [Option.bind_eq_some_iff] at h
    obtain ⟨len, hlen, e, he, h⟩ := h
    split at h
    · rename_i cells T more
      obtain ⟨hl, h⟩ := bif_none h
      simp only [Option.some.injEq, Prod.mk.injEq] at h
      obtain ⟨rfl, rfl⟩ := h
      obtain ⟨b, l', k', hb, hl', hk, rfl⟩ := den_slice_inv hx
      obtain ⟨rfl, hd⟩ := lenNat_D (c := c) ρ hlen
      rw [hd] at hl'
      have hll : len = l' := by
        simp only [Option.some.injEq, List.cons.injEq, Value.int.injEq] at hl'
        have := hl'.1.2
        exact Int.ofNat.inj this
      subst hll
      obtain ⟨xs, tail, hc, hh, hm⟩ := look_spec hs he hb
      obtain ⟨h1, h2, h3⟩ := part_spec (tail := tail) hc rfl (beqT hl)
      refine ⟨_, h1, fun d => ⟨rfl, ?_⟩⟩
      simp only [Builtin.firstCells]
      by_cases h0 : len * size = 0
      · rw [h0]; simp [loadCells, loadCellsFrom]
      · rw [run_loadCells (w := { w with drawn := d }) hh (by have := h3 h0; simp; omega), h2]
    · cases h
  · cases h


def notInt (d : TypeDesc) : Prop := (∃ e, d = .slice e) ∨ d = .string

theorem run_append_room {P : Program} {w : World} {sT xT ty elem size n sLen sCap : Nat} {d : TypeDesc} {base : Option Addr} {x : Value} {new : Array Value} {i : TypeInfo}
    (hu : P.underlying sT = some (.slice elem)) (hx : P.underlying xT = some d) (hd : notInt d) (hi : P.info? elem = some i) (hsz : i.size = size)
    (hn : (Builtin.lenOf x).run P w = .ok n w) (hf : (Builtin.firstCells size n x).run P w = .ok new w) (hle : sLen + n ≤ sCap) :
    (Builtin.append_ #[sT, xT] ty #[.slice base sLen sCap, x]).run P w =
      match base with
      | some a => ((storeCells (a.add (sLen * size)) new.toList).run P w).andThen fun _ w => .ok (.slice base (sLen + n) sCap) w
      | none => .ok (.slice none (sLen + n) sCap) w := by
  have h1 := run_underlying (w := w) hu
  have h2 := run_underlying (w := w) hx
  have h3 := run_sizeOf (w := w) hi
  rw [hsz] at h3
  unfold Builtin.append_
  rcases hd with ⟨e, rfl⟩ | rfl <;> cases base <;> simp [h1, h2, h3, hn, hf, hle]

theorem nextcap_le (need oldCap : Nat) (h : oldCap < need) : Builtin.nextslicecap need oldCap ≤ 2 * need := by
  have key : ∀ r cc, 256 ≤ cc → cc ≤ 2 * need → Builtin.growBy need r cc ≤ 2 * need := by
    intro r
    induction r with
    | zero => intro cc _ h; exact h
    | succ r ih =>
      intro cc h1 h2
      unfold Builtin.growBy
      split
      · exact h2
      · exact ih _ (by omega) (by omega)
  unfold Builtin.nextslicecap
  split
  · omega
  · split
    · omega
    · exact key _ _ (by omega) (by omega)

theorem run_append_grow {P : Program} {w w1 : World} {sT xT ty elem n sLen sCap : Nat} {d : TypeDesc} {base : Option Addr} {x z : Value} {new old : Array Value} {i : TypeInfo}
    (hu : P.underlying sT = some (.slice elem)) (hx : P.underlying xT = some d) (hd : notInt d) (hi : P.info? elem = some i) (hz : i.zero = some z) (hw1 : w1 = { w with drawn := w.drawn + 1 })
    (hn : (Builtin.lenOf x).run P w = .ok n w) (hf : (Builtin.firstCells i.size n x).run P w1 = .ok new w1)
    (ho : (Builtin.firstCells i.size sLen (.slice base sLen sCap)).run P w1 = .ok old w1)
    (hlt : sCap < sLen + n) (hb : (sLen + n) * (i.bytes + 1) ≤ 100000000000) :
    ∃ newCap, sLen + n ≤ newCap ∧ (Builtin.append_ #[sT, xT] ty #[.slice base sLen sCap, x]).run P w =
      .ok (.slice (some ⟨w1.heap.size, 0, none⟩) (sLen + n) newCap) (w1.alloc (.cells (old ++ new ++ Builtin.zeroCells z.cells (newCap - (sLen + n))) elem)) := by
  have h1 := fun w => run_underlying (P := P) (w := w) hu
  have h2 := fun w => run_underlying (P := P) (w := w) hx
  have h3 := fun w => run_sizeOf (P := P) (w := w) hi
  have h4 := fun w => run_typeInfo (P := P) (w := w) hi
  have h5 := fun w => run_zeroValue (P := P) (w := w) hi hz
  have hle : ¬ (sLen + n ≤ sCap) := by omega
  have hbig : ¬ ((sLen + n : Nat) : Int) > IntKind.i64.max := by
    have : sLen + n ≤ 100000000000 := Nat.le_trans (Nat.le_mul_of_pos_right _ (Nat.succ_pos _)) hb
    show ¬ ((sLen + n : Nat) : Int) > 9223372036854775807
    omega
  have hcap : ¬ (Builtin.nextslicecap (sLen + n) sCap * i.bytes > 2 ^ 48) := by
    have k1 := nextcap_le (sLen + n) sCap hlt
    have k2 : Builtin.nextslicecap (sLen + n) sCap * i.bytes ≤ 2 * (sLen + n) * i.bytes := Nat.mul_le_mul_right _ k1
    have k3 : 2 * (sLen + n) * i.bytes ≤ 2 * ((sLen + n) * (i.bytes + 1)) := by
      rw [Nat.mul_assoc]; exact Nat.mul_le_mul_left 2 (Nat.mul_le_mul_left _ (Nat.le_succ _))
    omega
  refine ⟨Question.cut (.appendCap (sLen + n) sCap elem) (w.tape w.drawn (.appendCap (sLen + n) sCap elem)), Nat.le_add_right _ _, ?_⟩
  generalize hcut : Question.cut (.appendCap (sLen + n) sCap elem) (w.tape w.drawn (.appendCap (sLen + n) sCap elem)) = nc
  have hch : (choose (.appendCap (sLen + n) sCap elem)).run P w = .ok nc w1 := by
    simp [choose, Sem.run, Question.forced, hcut, hw1]
  have hask : ∀ k (w : World), (askRoom k).run P w = .ok () w := by
    intro k dr; unfold askRoom; split <;> rfl
  unfold Builtin.append_
  rcases hd with ⟨e, rfl⟩ | rfl <;> simp only [List.getElem?_toArray, List.getElem?_cons_zero, List.getElem?_cons_succ, Sem.run_bind, Result.andThen_ok, h1, h2, h3, h4, h5, hn, hf, ho, hle, hbig, hcap, hch, hask, run_newRow, run_pure,
    Bool.false_eq_true, if_false, if_true, Bool.not_false, false_and]


theorem szOf_spec {t s : Nat} (h : szOf c t = some s) : ∃ i, c.ty.get t = some i ∧ i.info.size = s := by
  simp only [szOf, Option.map_eq_some_iff] at h; exact h

theorem D_natV {ρ : Env} (n : Nat) : D c.P c.Φ ρ (natV n) = some [.int .i64 (Int.ofNat n)] := rfl
theorem D_var {ρ : Env} {n : Nat} {x : Value} (h : ρ n = some x) : D c.P c.Φ ρ (.var n) = some [x] := by simp [D, h]
theorem D_inj {ρ : Env} {v : V} {a b : Nat} (h : D c.P c.Φ ρ v = some [.int .i64 (Int.ofNat a)]) (h' : D c.P c.Φ ρ v = some [.int .i64 (Int.ofNat b)]) : a = b := by
  rw [h] at h'
  simp only [Option.some.injEq, List.cons.injEq, Value.int.injEq] at h'
  exact Int.ofNat.inj h'.1.2

/-- A new array, longer than what is asked by nobody knows how much. -/
theorem grow_spec {ρ : Env} {S S' : St} {w : World} {nm sT xT ty elem size n len k bytes : Nat} {d : TypeDesc} {base : Option Addr} {x : Value} {old new : List V} {ov nv : List Value} {v : V}
    (hs : SatH c F ρ S w) (hu : c.P.underlying sT = some (.slice elem)) (hx : c.P.underlying xT = some d) (hd : notInt d) (hsz : szOf c elem = some size) (hby : (c.ty.get elem).map (·.info.bytes) = some bytes)
    (ho : denL c.P c.Φ ρ old = some ov) (hn : denL c.P c.Φ ρ new = some nv) (hol : old.length = len * size) (hnl : nv.length = n * size)
    (hlen : ∀ d, (Builtin.lenOf x).run c.P { w with drawn := d } = .ok n { w with drawn := d })
    (hf : ∀ d, (Builtin.firstCells size n x).run c.P { w with drawn := d } = .ok nv.toArray { w with drawn := d })
    (hof : ∀ d, (Builtin.firstCells size len (.slice base len k)).run c.P { w with drawn := d } = .ok ov.toArray { w with drawn := d })
    (hlt : k < len + n)
    (h : (bif Nat.ble ((len + n) * (bytes + 1)) 100000000000 && S.fresh nm && S.fresh (nm + 1) && !(Nat.beq size 0) && !(Nat.beq n 0) && Nat.beq (((zeroV c elem).map (·.length)).getD 0) size then
        some (V.slice nm 0 (natV (len + n)) (.var (nm + 1)), (S.put (nm + 1) (.val (.natGe (len + n)))).put nm (.blk (old ++ new) elem (some (nm + 1, size))))
      else none) = some (v, S')) :
    ∃ y w' ρ', (Builtin.append_ #[sT, xT] ty #[.slice base len k, x]).run c.P w = .ok y w' ∧ Le ρ ρ' ∧ SatH c F ρ' S' w' ∧ den c.P c.Φ ρ' v = some y ∧ S'.tmps = S.tmps ∧ S'.nt = S.nt ∧ Unch S S' := by
  replace h := bif_none h
  obtain ⟨hg, h⟩ := h
  simp only [Bool.and_eq_true, Bool.not_eq_true'] at hg
  obtain ⟨⟨⟨⟨⟨g1, g2⟩, g3⟩, g4⟩, g5⟩, g6⟩ := hg
  simp only [Option.some.injEq, Prod.mk.injEq] at h
  obtain ⟨rfl, rfl⟩ := h
  obtain ⟨i, hi, his⟩ := szOf_spec hsz
  rw [hi] at hby
  simp only [Option.map_some, Option.some.injEq] at hby
  have hz0 : size ≠ 0 := fun e => by rw [e] at g4; simp at g4
  obtain ⟨zc, hzc⟩ : ∃ zc, zeroV c elem = some zc := by
    cases hz : zeroV c elem with
    | none => rw [hz] at g6; simp only [Option.map_none, Option.getD_none] at g6; exact absurd (beqT g6).symm hz0
    | some zc => exact ⟨zc, rfl⟩
  rw [hzc] at g6
  have hzl : zc.length = size := beqT g6
  simp only [zeroV, hi, Option.bind_some, Option.map_eq_some_iff] at hzc
  obtain ⟨z, hz, rfl⟩ := hzc
  have hzs : z.cells.size = size := by simpa using hzl
  obtain ⟨nc, hnc, hrun⟩ := run_append_grow (P := c.P) (w := w) (w1 := { w with drawn := w.drawn + 1 }) (ty := ty) (x := x) (new := nv.toArray) (old := ov.toArray) (base := base) hu hx hd (ty_spec hi).1 hz rfl
    (hlen w.drawn) (by rw [his]; exact hf _) (by rw [his]; exact hof _) hlt (by rw [hby]; exact bleT g1)
  rw [hrun]
  have hs1 := hs.drew (w.drawn + 1)
  have hint : hasTy (.int .i64 (Int.ofNat nc)) (.natGe (len + n)) := ⟨nc, rfl, hnc⟩
  obtain ⟨l1, hs2⟩ := hs1.newVar (x := .int .i64 (Int.ofNat nc)) (ty := .natGe (len + n)) g3 hint rfl
  have hfr : (S.put (nm + 1) (.val (.natGe (len + n)))).fresh nm = true := fresh_put g2 (by omega)
  have hcat := denL_append (denL_mono l1 ho) (denL_mono l1 hn)
  have hovl := denL_length ho
  have hzcl : (Builtin.zeroCells z.cells (nc - (len + n))).toList.length = (nc - (len + n)) * size := by
    simp [Builtin.zeroCells, hzs]
  have hmore : MoreOk (upd ρ (nm + 1) (.int .i64 (Int.ofNat nc))) (some (nm + 1, size)) ((ov ++ nv).length + (Builtin.zeroCells z.cells (nc - (len + n))).toList.length) (Builtin.zeroCells z.cells (nc - (len + n))).toList := by
    refine ⟨nc, upd_self _ _ _, ?_⟩
    rw [hzcl, List.length_append, hovl, hol, hnl, ← Nat.add_mul, ← Nat.add_mul]
    congr 1
    omega
  obtain ⟨l2, hs3⟩ := hs2.alloc (n := nm) (T := elem) (more := some (nm + 1, size)) hfr hcat hmore
  refine ⟨_, _, _, rfl, l1.trans l2, ?_, ?_, rfl, rfl, (Unch.put _ _ _).trans (Unch.put _ _ _)⟩
  · have heq : (ov.toArray ++ nv.toArray ++ Builtin.zeroCells z.cells (nc - (len + n))) = ((ov ++ nv) ++ (Builtin.zeroCells z.cells (nc - (len + n))).toList).toArray := by
      apply Array.ext'; simp
    rw [heq]
    exact hs3
  · refine den_slice (l := len + n) (k := nc) (by rw [upd_self]; rfl) (D_natV _) (D_var ?_)
    rw [upd_other _ _ (by omega), upd_self]

theorem appendX_spec {ρ : Env} {S S' : St} {w : World} {nm sT xT ty : Nat} {d : TypeDesc} {s x v : V} {sv xv : Value} (hs : SatH c F ρ S w) (h : appendX c nm S sT s x = some (v, S'))
    (hsv : den c.P c.Φ ρ s = some sv) (hxv : den c.P c.Φ ρ x = some xv) (hx : c.P.underlying xT = some d) (hd : notInt d) :
    ∃ y w' ρ', (Builtin.append_ #[sT, xT] ty #[sv, xv]).run c.P w = .ok y w' ∧ Le ρ ρ' ∧ SatH c F ρ' S' w' ∧ den c.P c.Φ ρ' v = some y ∧ S'.tmps = S.tmps ∧ S'.nt = S.nt ∧ Unch S S' := by
  unfold appendX at h
  split at h
  case h_2 => cases h
  rename_i elem hu
  replace hu := und_spec hu
  simp only [Option.bind_eq_some_iff] at h
  obtain ⟨size, hsz, bytes, hby, ⟨n, new⟩, hsrc, h⟩ := h
  obtain ⟨nv, hn, hrun⟩ := srcCells_spec hs hsrc hxv
  have hnl : nv.length = n * size := by
    have h1 := denL_length hn
    rw [h1]
    unfold srcCells at hsrc
    split at hsrc
    · simp only [Option.some.injEq, Prod.mk.injEq] at hsrc; obtain ⟨rfl, rfl⟩ := hsrc; simp
    · replace hsrc := bif_none hsrc
      obtain ⟨hq1, hsrc⟩ := hsrc
      simp only [Option.some.injEq, Prod.mk.injEq] at hsrc
      obtain ⟨rfl, rfl⟩ := hsrc
      rw [beqT hq1]
      simp
    · simp only [Option.bind_eq_some_iff] at hsrc
      obtain ⟨len, hlen, e, he, hsrc⟩ := hsrc
      split at hsrc
      · obtain ⟨hl, hsrc⟩ := bif_none hsrc
        simp only [Option.some.injEq, Prod.mk.injEq] at hsrc
        obtain ⟨rfl, rfl⟩ := hsrc
        exact beqT hl
      · cases hsrc
    · cases hsrc
  obtain ⟨i, hi, his⟩ := szOf_spec hsz
  split at h
  · -- nil
    simp only [den_k, Option.some.injEq] at hsv
    subst hsv
    replace h := bif_some h
    rcases h with ⟨h0, h⟩ | ⟨_, h⟩
    · have h0 := beqT h0
      subst h0
      simp only [Option.some.injEq, Prod.mk.injEq] at h
      obtain ⟨rfl, rfl⟩ := h
      have := run_append_room (P := c.P) (w := w) (ty := ty) (base := none) (sLen := 0) (sCap := 0) (x := xv) hu hx hd (ty_spec hi).1 his (hrun w.drawn).1 (hrun w.drawn).2 (Nat.le_refl 0)
      exact ⟨_, _, ρ, this, Le.refl ρ, hs, rfl, rfl, rfl, Unch.refl _⟩
    · by_cases hn0 : n = 0
      · subst hn0
        exfalso
        obtain ⟨hg, _⟩ := bif_none h
        simp at hg
      · exact grow_spec (old := []) (ov := []) (len := 0) (k := 0) (base := none) hs hu hx hd hsz hby rfl hn (by simp) hnl (fun d => (hrun d).1) (fun d => (hrun d).2) (fun d => rfl) (by omega) h
  · -- a slice that is there
    rename_i b off l cap
    simp only [Option.bind_eq_some_iff] at h
    obtain ⟨len, hlen, e, he, h⟩ := h
    split at h
    case h_2 => cases h
    rename_i cells el more
    replace h := bif_some h
    rcases h with ⟨_, h⟩ | ⟨hol, h⟩
    · cases h
    have hol : ((cells.drop off).take (len * size)).length = len * size := by
      simp only [Bool.not_eq_false'] at hol; exact beqT hol
    obtain ⟨bk, l', k, hb, hl', hk, rfl⟩ := den_slice_inv hsv
    obtain ⟨rfl, hdl⟩ := lenNat_D (c := c) ρ hlen
    have hll : len = l' := D_inj hdl hl'
    subst hll
    obtain ⟨xs, tail, hc, hh, hm⟩ := look_spec hs he hb
    obtain ⟨hp1, hp2, hp3⟩ := part_spec (tail := tail) hc rfl hol
    have hxl := denL_length hc
    have hof : ∀ dr, (Builtin.firstCells size len (.slice (some ⟨bk, off, none⟩) len k)).run c.P { w with drawn := dr } = .ok ((xs.drop off).take (len * size)).toArray { w with drawn := dr } := by
      intro dr
      simp only [Builtin.firstCells]
      by_cases h0 : len * size = 0
      · rw [h0]; simp [loadCells, loadCellsFrom]
      · rw [run_loadCells (w := { w with drawn := dr }) hh (by have := hp3 h0; simp; omega), hp2]
    split at h
    · -- its capacity is known
      rename_i k'
      have hkk : k' = k := D_inj (c := c) (ρ := ρ) (v := .k (.int .i64 (Int.ofNat k'))) rfl hk
      subst hkk
      replace h := bif_some h
      rcases h with ⟨hle, h⟩ | ⟨hle, h⟩
      · have hle := bleT hle
        replace h := bif_none h
        obtain ⟨hg, h⟩ := h
        simp only [Bool.and_eq_true] at hg
        obtain ⟨g1, g2⟩ := hg
        have g1 := bleT g1
        simp only [Option.some.injEq, Prod.mk.injEq] at h
        obtain ⟨rfl, rfl⟩ := h
        have hrn := run_append_room (P := c.P) (w := w) (ty := ty) (base := some ⟨bk, off, none⟩) (sLen := len) (sCap := k') (x := xv) hu hx hd (ty_spec hi).1 his (hrun w.drawn).1 (hrun w.drawn).2 hle
        have hmul : (len + n) * size = len * size + n * size := Nat.add_mul _ _ _
        have hst := run_storeCells' (P := c.P) (b := bk) (off := off + len * size) (T := el) nv (xs ++ tail) w hh (by simp; omega) (denL_scalar hs.sca hn g2)
        simp only [addr_add] at hrn
        rw [hst, Result.andThen_ok] at hrn
        refine ⟨_, _, ρ, hrn, Le.refl ρ, ?_, ?_, rfl, rfl, Unch.put _ _ _⟩
        · have hden := denL_replaceAt (off + len * size) hc hn
          have hnvl := denL_length hn
          have heq : (xs ++ tail).take (off + len * size) ++ nv ++ (xs ++ tail).drop (off + len * size + nv.length) = (xs.take (off + len * size) ++ nv ++ xs.drop (off + len * size + new.length)) ++ tail := by
            rw [List.take_append_of_le_length (by omega), List.drop_append_of_le_length (by omega), hnvl]
            simp
          rw [heq]
          refine hs.write he hb hden ?_
          have : (xs.take (off + len * size) ++ nv ++ xs.drop (off + len * size + new.length)).length = xs.length := by simp; omega
          rw [this]
          exact hm
        · exact den_slice hb (D_natV _) hk
      · have hle : ¬ (len + n ≤ k') := fun e => by rw [Nat.ble_eq_true_of_le e] at hle; cases hle
        exact grow_spec (base := some ⟨bk, off, none⟩) hs hu hx hd hsz hby hp1 hn hol hnl (fun d => (hrun d).1) (fun d => (hrun d).2) hof (by omega) h
    · -- its capacity is not known
      rename_i j
      split at h
      case h_2 => cases h
      rename_i j' z
      replace h := bif_none h
      obtain ⟨hg, h⟩ := h
      simp only [Bool.and_eq_true] at hg
      obtain ⟨⟨⟨⟨⟨g1, g2⟩, g3⟩, g4⟩, g5⟩, g6⟩ := hg
      have g1 := beqT g1; have g2 := beqT g2; have g3 := beqT g3; have g4 := beqT g4; have g5 := beqT g5
      subst g1; subst g2; subst g3; subst g5
      obtain ⟨k2, hk2, hmk⟩ := hm
      have hkk : k2 = k := D_inj (c := c) (ρ := ρ) (v := .var j) (D_var hk2) hk
      subst hkk
      have hold : (cells.drop 0).take (len * z) = cells := by simp [List.take_of_length_le, g4]
      obtain ⟨xx, hxx⟩ : ∃ y, ρ b = some y := by
        cases hbb : ρ b with
        | none => rw [hbb] at hb; cases hb
        | some y => exact ⟨y, rfl⟩
      rcases Nat.lt_or_ge k2 (len + n) with hlt | hge
      · -- a new array
        have hs' := hs.kill hxx
        have hres := grow_spec (ty := ty) (S' := S') (v := v) (base := some ⟨bk, 0, none⟩) hs' hu hx hd hsz hby hp1 hn hol hnl (fun d => (hrun d).1) (fun d => (hrun d).2) hof hlt h
        obtain ⟨y, w', ρ', r1, r2, r3, r4, r5, r6, r7⟩ := hres
        exact ⟨y, w', ρ', r1, r2, r3, r4, r5, r6, (Unch.put _ _ _).trans r7⟩
      · -- in place
        replace h := bif_none h
        obtain ⟨hg, h⟩ := h
        simp only [Bool.and_eq_true, Bool.not_eq_true'] at hg
        obtain ⟨⟨⟨⟨⟨q1, q2⟩, q3⟩, q4⟩, q5⟩, q6⟩ := hg
        simp only [Option.some.injEq, Prod.mk.injEq] at h
        obtain ⟨rfl, rfl⟩ := h
        have hrn := run_append_room (P := c.P) (w := w) (ty := ty) (base := some ⟨bk, 0, none⟩) (sLen := len) (sCap := k2) (x := xv) hu hx hd (ty_spec hi).1 his (hrun w.drawn).1 (hrun w.drawn).2 hge
        have hmul : (len + n) * z = len * z + n * z := Nat.add_mul _ _ _
        have hmono : (len + n) * z ≤ k2 * z := Nat.mul_le_mul_right _ hge
        have htl : n * z ≤ tail.length := by omega
        have hst := run_storeCells' (P := c.P) (b := bk) (off := 0 + len * z) (T := el) nv (xs ++ tail) w hh (by simp; omega) (denL_scalar hs.sca hn g6)
        simp only [addr_add] at hrn
        rw [hst, Result.andThen_ok] at hrn
        have hrow : (xs ++ tail).take (0 + len * z) ++ nv ++ (xs ++ tail).drop (0 + len * z + nv.length) = (xs ++ nv) ++ tail.drop (n * z) := by
          rw [Nat.zero_add, ← g4, ← hxl, hnl, List.take_append_of_le_length (Nat.le_refl _), List.take_length, List.drop_append, List.drop_of_length_le (by omega)]
          simp
        rw [hrow] at hrn
        have hfx : (xs.drop 0).take (len * z) = xs := by simp [List.take_of_length_le, hxl, g4]
        have hcat : denL c.P c.Φ ρ ((cells.drop 0).take (len * z) ++ new) = some (xs ++ nv) := by
          have := denL_append hp1 hn; rwa [hfx] at this
        -- the row is written; its old name is given up; the new length is named; the row is named anew
        have hlen2 : (xs ++ nv).length + (tail.drop (n * z)).length = k2 * z := by simp; omega
        have w1 := hs.write (cells' := (cells.drop 0).take (len * z) ++ new) (more' := some (j, z)) (ys := xs ++ nv) (tail := tail.drop (n * z)) he hb hcat ⟨k2, hk2, hlen2⟩
        have w2 := w1.kill hxx
        have w3 : SatH c F ρ (S.put b .dead) (putRow w bk (xs ++ nv ++ tail.drop (n * z)) el) := by
          refine w2.congr' ?_ rfl
          intro m
          simp only [St.put, Tr.get_set]
          split <;> rfl
        obtain ⟨l1, w4⟩ := w3.newVar (x := .int .i64 (Int.ofNat k2)) (ty := .natGe (len + n)) q3 ⟨k2, rfl, hge⟩ rfl
        have hbne : b ≠ nm + 1 := by
          intro e
          have := w3.dom (nm + 1) (fresh_none q3)
          rw [← e, hxx] at this; cases this
        have hfr : ((S.put b .dead).put (nm + 1) (.val (.natGe (len + n)))).fresh nm = true := fresh_put q2 (by omega)
        obtain ⟨l2, w5⟩ := w4.adopt (n := nm) (b := bk) (T := el) (more := some (nm + 1, z)) hfr (by rw [putRow_get (getElem?_lt hh), if_pos rfl]) (hs.frn b bk ⟨_, he, rfl⟩ hb) (by
            intro m hlm hbm
            rcases live_put hlm with ⟨_, e⟩ | ⟨hne, hlm⟩
            · cases e
            rcases live_put hlm with ⟨_, e⟩ | ⟨hne2, hlm⟩
            · cases e
            rw [upd_other _ _ hne] at hbm
            exact hne2 (hs.inj m b bk hlm ⟨_, he, rfl⟩ hbm hb)) (denL_mono l1 hcat) ⟨k2, upd_self _ _ _, hlen2⟩
        refine ⟨_, _, _, hrn, l1.trans l2, w5, ?_, rfl, rfl, ((Unch.put _ _ _).trans (Unch.put _ _ _)).trans (Unch.put _ _ _)⟩
        refine den_slice (l := len + n) (k := k2) (by rw [upd_self]; rfl) (D_natV _) (D_var ?_)
        rw [upd_other _ _ (by omega), upd_self]
    · cases h
  · cases h

end
end Go.Proofs.Ytobghgfmdjknlaa.Sx
