/- Symbolic execution: one operation of a region: the last of them, and all together. -/
import Derived.Test.YtobghgfmdjknlaaSxStep2
namespace Go.Proofs.Ytobghgfmdjknlaa.Sx
open Go
set_option linter.unusedSectionVars false

section
variable {c : Cfg} {F : Wd} [COk c]
variable {o : Oper} {a : Act} {w : World} {next : Act → World → Prop} {Q : Exit → Act → World → Prop} {call : CallX}

theorem bytesV_spec {ρ : Env} : ∀ {cs : List V} {bs : List UInt8} {xs : List Value}, bytesV cs = some bs → denL c.P c.Φ ρ cs = some xs →
    ∃ ns : List Int, xs = ns.map (Value.int .u8) ∧ bs = ns.map fun n => UInt8.ofNat n.toNat
  | [], bs, xs, h, hx => by simp [bytesV] at h; simp [denL] at hx; subst h; subst hx; exact ⟨[], rfl, rfl⟩
  | v :: r, bs, xs, h, hx => by
    unfold bytesV at h
    split at h
    · simp_all
    · rename_i n r' heq
      simp only [List.cons.injEq] at heq
      obtain ⟨rfl, rfl⟩ := heq
      rw [Option.map_eq_some_iff] at h
      obtain ⟨l, hl, rfl⟩ := h
      simp only [denL, Option.bind_eq_some_iff, Option.map_eq_some_iff] at hx
      obtain ⟨x, hx1, ys, hy, rfl⟩ := hx
      simp only [den_k, Option.some.injEq] at hx1
      subst hx1
      obtain ⟨ns, rfl, rfl⟩ := bytesV_spec hl hy
      exact ⟨n :: ns, rfl, rfl⟩
    · cases h

theorem run_bytesToString {P : Program} {b off n : Nat} {ns : List Int} {zs : List Value} {T k : Nat} (hb : w.heap[b]? = some (.cells zs.toArray T (0, 0))) (hz : (zs.drop off).take n = ns.map (Value.int .u8)) (hle : off + n ≤ zs.length) :
    (Conv.bytesToString (.slice (some ⟨b, off, none⟩) n k)).run P w = .ok (.string ⟨(ns.map fun n => UInt8.ofNat n.toNat).toArray⟩) w := by
  unfold Conv.bytesToString
  simp only []
  rw [run_bindok (run_loadCells hb hle), hz]
  have key : ∀ (ns : List Int) (s : ByteArray), (do
      let mut s := s
      for c in (ns.map (Value.int .u8)).toArray do
        let .int .u8 n := c | stuck "bytesToString: byte expected"
        s := s.push (UInt8.ofNat n.toNat)
      pure (Value.string s) : Sem Value).run P w = .ok (.string (ns.foldl (fun s n => s.push (UInt8.ofNat n.toNat)) s)) w := by
    intro ns
    induction ns with
    | nil => intro s; rfl
    | cons n r _ => intro s; simp
  have := key ns .empty
  refine this.trans ?_
  congr 2
  have fold : ∀ (ns : List Int) (s : ByteArray), ns.foldl (fun s n => s.push (UInt8.ofNat n.toNat)) s = ⟨s.data ++ (ns.map fun n => UInt8.ofNat n.toNat).toArray⟩ := by
    intro ns
    induction ns with
    | nil => intro s; simp
    | cons n r ih => intro s; rw [List.foldl_cons, ih]; simp [ByteArray.push]
  rw [fold]
  simp [ByteArray.empty, ByteArray.emptyWithCapacity]
  rfl

theorem step_convert {ρ : Env} {S : St} {L : List (V × St)} {s d : TypeId} {x : Operand} (hop : o.op = .convert s d x) (hs : SatH c F ρ S w) (ht : SatT c ρ S a)
    (h : xConvert c S s d x = some L) (hK : Outs c F ρ S L fun x w' => next (a.put o.dst x) w') : o.wp c.P a w next Q := by
  unfold xConvert at h
  rw [Option.bind_eq_some_iff] at h
  obtain ⟨v, hv, h⟩ := h
  have hx := eval_den (c := c) ht hv
  split at h
  · rename_i ds k _ n hds hdd
    obtain rfl := oneInj h
    simp only [den_k, Option.some.injEq] at hx
    refine wp_val (x := .int k (k.wrap n)) (w' := w) ?_ (hK.one (Le.refl ρ) hs rfl rfl rfl)
    unfold execOp; rw [hop]
    refine run_v ?_
    unfold convert
    rw [run_bindok (run_underlying (und_spec hds)), run_bindok (run_underlying (und_spec hdd)), ← hx]
    cases ds <;> rfl
  · rename_i e n off l k hds hdd
    rw [Option.bind_eq_some_iff] at h
    obtain ⟨_, he, h⟩ := h
    rw [Option.bind_eq_some_iff] at h
    obtain ⟨len, hlen, h⟩ := h
    rw [Option.bind_eq_some_iff] at h
    obtain ⟨en, hen, h⟩ := h
    split at h
    case h_2 => cases h
    rename_i cells T more
    replace h := bif_none h
    obtain ⟨hl, h⟩ := h
    rw [Option.bind_eq_some_iff] at h
    obtain ⟨bs, hbs, h⟩ := h
    obtain rfl := oneInj h
    obtain ⟨b, l', k', hb, hl', hk, hx'⟩ := den_slice_inv hx
    obtain ⟨rfl, hd⟩ := lenNat_D (c := c) ρ hlen
    have hll : len = l' := D_inj hd hl'
    subst hll
    obtain ⟨xs, tail, hc, hh, _⟩ := look_spec hs hen hb
    obtain ⟨h1, h2, h3⟩ := part_spec (tail := tail) hc rfl (beqT hl)
    obtain ⟨ns, hns, rfl⟩ := bytesV_spec hbs h1
    have he' : c.P.underlying e = some (.int .u8) := by
      split at he
      · rename_i hu; exact und_spec hu
      · cases he
    refine wp_val (x := .string ⟨(ns.map fun n => UInt8.ofNat n.toNat).toArray⟩) (w' := w) ?_ (hK.one (Le.refl ρ) hs rfl rfl rfl)
    unfold execOp; rw [hop]
    refine run_v ?_
    unfold convert
    rw [run_bindok (run_underlying (und_spec hds)), run_bindok (run_underlying (und_spec hdd)), hx']
    simp only []
    rw [run_bindok (run_underlying he')]
    simp only []
    by_cases h0 : len = 0
    · subst h0
      simp at hns
      subst hns
      simp [Conv.bytesToString, loadCells, loadCellsFrom]
      rfl
    · exact run_bytesToString hh (by rw [h2, hns]) (by have := h3 h0; simp; omega)
  · split at h
    · rename_i r hr
      obtain rfl := oneInj h
      obtain ⟨z, hz, hrun⟩ := convX_ok hs hx hr
      refine wp_val (x := z) (w' := w) ?_ (hK.one (Le.refl ρ) hs hz rfl rfl)
      unfold execOp; rw [hop]
      exact run_v hrun
    · exact sym_op hs (denL_one hx) h rfl (by unfold execOp; rw [hop]) hK

theorem step_makeInterface {ρ : Env} {S : St} {L : List (V × St)} {t : TypeId} {x : Operand} (hop : o.op = .makeInterface t x) (hs : SatH c F ρ S w) (ht : SatT c ρ S a)
    (h : xMakeInterface c S t x = some L) (hK : Outs c F ρ S L fun x w' => next (a.put o.dst x) w') : o.wp c.P a w next Q := by
  unfold xMakeInterface at h
  rw [Option.bind_eq_some_iff] at h
  obtain ⟨v, hv, h⟩ := h
  have hx := eval_den (c := c) ht hv
  split at h
  · cases h
  · cases h
  · rename_i d hne hu
    obtain rfl := oneInj h
    refine wp_val (x := .iface t (a.eval x)) (w' := w) ?_ (hK.one (Le.refl ρ) hs ?_ rfl rfl)
    · unfold execOp; rw [hop]
      refine run_v ?_
      unfold Instr.makeInterface
      rw [run_bindok (run_underlying (und_spec hu))]
      cases d <;> first | rfl | exact (hne _ rfl).elim
    · simp only [den, Option.bind_eq_some_iff] at hx ⊢
      obtain ⟨xs, h1, h2⟩ := hx
      exact ⟨[.iface t (a.eval x)], by simp [D, h1, h2], rfl⟩

theorem step_makeFunc {ρ : Env} {S : St} {L : List (V × St)} {fn : Fn} {first captured : Array Operand} (hop : o.op = .makeFunc fn first captured) (hs : SatH c F ρ S w) (ht : SatT c ρ S a)
    (h : xMakeFunc S fn first captured = some L) (hK : Outs c F ρ S L fun x w' => next (a.put o.dst x) w') : o.wp c.P a w next Q := by
  unfold xMakeFunc at h
  rw [Option.bind_eq_some_iff] at h
  obtain ⟨as, ha, h⟩ := h
  rw [Option.bind_eq_some_iff] at h
  obtain ⟨bs, hb, h⟩ := h
  obtain rfl := oneInj h
  have h1 := D_chain (evalL_den (c := c) ht ha)
  have h2 := D_chain (evalL_den (c := c) ht hb)
  refine wp_val (x := .func fn (first.map a.eval) (captured.map a.eval)) (w' := w) ?_ (hK.one (Le.refl ρ) hs ?_ rfl rfl)
  · unfold execOp; rw [hop]; rfl
  · have e1 : (first.toList.map a.eval).toArray = first.map a.eval := by apply Array.ext'; simp
    have e2 : (captured.toList.map a.eval).toArray = captured.map a.eval := by apply Array.ext'; simp
    simp [den, D, h1, h2, single, e1, e2]

theorem bound_spec {ρ : Env} {S : St} {x : Option Operand} {dflt n : Nat} (ht : SatT c ρ S a) (h : boundX S x dflt = some n) :
    (x = none ∧ n = dflt) ∨ (∃ y, x = some y ∧ a.eval y = .int .i64 (Int.ofNat n)) := by
  unfold boundX at h
  split at h
  · simp only [Option.some.injEq] at h; exact .inl ⟨rfl, h.symm⟩
  · rename_i y
    rw [Option.bind_eq_some_iff] at h
    obtain ⟨v, hv, hl⟩ := h
    obtain ⟨rfl, _⟩ := lenNat_D (c := c) ρ hl
    have hx := eval_den (c := c) ht hv
    simp only [den_k, Option.some.injEq] at hx
    exact .inr ⟨y, rfl, hx.symm⟩

theorem run_sliceBound {P : Program} {n y : Nat} {code : BoundsCode} (h : n ≤ y) : (Instr.sliceBound (.int .i64 (Int.ofNat n)) y code).run P w = .ok n w := by
  unfold Instr.sliceBound
  have h1 : (asIntOf (.int .i64 (Int.ofNat n))).run P w = .ok (.i64, Int.ofNat n) w := rfl
  rw [run_bindok h1]
  simp only []
  rw [if_pos ⟨Int.natCast_nonneg n, Int.ofNat_le.2 h⟩]
  rfl

theorem run_sliceBounds {P : Program} {ρ : Env} {S : St} {lo hi : Option Operand} {isS : Bool} {len cap h lw : Nat} (ht : SatT c ρ S a) (hh : boundX S hi len = some h) (hl : boundX S lo 0 = some lw) (h1 : h ≤ cap) (h2 : lw ≤ h) :
    (Instr.sliceBounds isS len cap (lo.map a.eval) (hi.map a.eval) none).run P w = .ok (lw, h, cap) w := by
  unfold Instr.sliceBounds
  rcases bound_spec (c := c) ht hh with ⟨rfl, rfl⟩ | ⟨y, rfl, hy⟩ <;> rcases bound_spec (c := c) ht hl with ⟨rfl, rfl⟩ | ⟨z, rfl, hz⟩
  · rfl
  · simp only [Option.map_some, Option.map_none, hz]
    rw [run_bindok (run_pure _), run_bindok (run_pure _), run_bindok (run_sliceBound h2)]
    rfl
  · simp only [Option.map_some, Option.map_none, hy]
    rw [run_bindok (run_pure _), run_bindok (run_sliceBound h1)]
    rfl
  · simp only [Option.map_some, hy, hz]
    rw [run_bindok (run_pure _), run_bindok (run_sliceBound h1), run_bindok (run_sliceBound h2)]
    rfl

theorem step_slice {ρ : Env} {S : St} {L : List (V × St)} {t : TypeId} {x : Operand} {lo hi mx : Option Operand} (hop : o.op = .slice t x lo hi mx) (hs : SatH c F ρ S w) (ht : SatT c ρ S a)
    (h : xSlice c S t x lo hi mx = some L) (hK : Outs c F ρ S L fun x w' => next (a.put o.dst x) w') : o.wp c.P a w next Q := by
  unfold xSlice at h
  rw [Option.bind_eq_some_iff] at h
  obtain ⟨v, hv, h⟩ := h
  have hx := eval_den (c := c) ht hv
  split at h
  · rename_i n off l cap
    rw [Option.bind_eq_some_iff] at h
    obtain ⟨len, hlen, h⟩ := h
    split at h
    case h_2 => cases h
    rename_i e hu
    replace hu := und_spec hu
    rw [Option.bind_eq_some_iff] at h
    obtain ⟨s, hsz, h⟩ := h
    rw [Option.bind_eq_some_iff] at h
    obtain ⟨hh, hhi, h⟩ := h
    rw [Option.bind_eq_some_iff] at h
    obtain ⟨lw, hlo, h⟩ := h
    split at h
    case h_2 => cases h
    rename_i k hcap
    replace h := bif_none h
    obtain ⟨hg, h⟩ := h
    simp only [Bool.and_eq_true] at hg
    have g1 := bleT hg.1
    have g2 := bleT hg.2
    obtain rfl := oneInj h
    obtain ⟨b, l', k', hb, hl', hk, hx'⟩ := den_slice_inv hx
    obtain ⟨rfl, hd⟩ := lenNat_D (c := c) ρ hlen
    obtain ⟨rfl, hd2⟩ := lenNat_D (c := c) ρ hcap
    have hll : len = l' := D_inj hd hl'
    have hkk : k = k' := D_inj hd2 hk
    subst hll; subst hkk
    refine wp_val (x := .slice (some ⟨b, if k = lw then off else off + lw * s, none⟩) (hh - lw) (k - lw)) (w' := w) ?_ (hK.one (Le.refl ρ) hs ?_ rfl rfl)
    · unfold execOp; rw [hop]
      refine run_v ?_
      unfold Instr.sliceAt
      rw [run_bindok (run_underlying hu)]
      simp only []
      unfold Instr.slice
      rw [run_bindok (run_underlying hu), hx']
      simp only [Option.map_none]
      rw [run_bindok (run_sliceBounds (isS := true) ht hhi hlo g1 g2)]
      simp only []
      rw [run_bindok (run_sizeOf' hsz)]
      by_cases he : k = lw
      · simp only [he, if_true]; rfl
      · simp only [he, if_false, Option.map_some, addr_add]; rfl
    · have := den_slice (c := c) (ρ := ρ) (n := n) (off := if k = lw then off else off + lw * s) hb (D_natV (hh - lw)) (D_natV (k - lw))
      by_cases he : k = lw
      · subst he; simpa using this
      · rw [Tr.beq_false he]; rw [if_neg he] at this; simpa [he] using this
  · rename_i n off
    split at h
    case h_2 => cases h
    rename_i k e hu
    replace hu := und_spec hu
    rw [Option.bind_eq_some_iff] at h
    obtain ⟨s, hsz, h⟩ := h
    rw [Option.bind_eq_some_iff] at h
    obtain ⟨hh, hhi, h⟩ := h
    rw [Option.bind_eq_some_iff] at h
    obtain ⟨lw, hlo, h⟩ := h
    replace h := bif_none h
    obtain ⟨hg, h⟩ := h
    simp only [Bool.and_eq_true] at hg
    have g1 := bleT hg.1
    have g2 := bleT hg.2
    obtain rfl := oneInj h
    obtain ⟨b, hb, hx'⟩ := den_ptr_inv hx
    refine wp_val (x := .slice (some ⟨b, if k = lw then off else off + lw * s, none⟩) (hh - lw) (k - lw)) (w' := w) ?_ (hK.one (Le.refl ρ) hs ?_ rfl rfl)
    · unfold execOp; rw [hop]
      refine run_v ?_
      unfold Instr.sliceAt
      rw [run_bindok (run_underlying hu), hx']
      simp only [Option.map_none]
      have hsa : (Instr.sureAddr (.pointer (some ⟨b, off, none⟩))).run c.P w = .ok ⟨b, off, none⟩ w := rfl
      rw [run_bindok hsa, run_bindok (run_sliceBounds (isS := false) ht hhi hlo g1 g2)]
      simp only []
      rw [run_bindok (run_sizeOf' hsz)]
      by_cases he : k = lw
      · simp only [he, if_true]; rfl
      · simp only [he, if_false, addr_add]; rfl
    · have := den_slice (c := c) (ρ := ρ) (n := n) (off := if k = lw then off else off + lw * s) hb (D_natV (hh - lw)) (D_natV (k - lw))
      by_cases he : k = lw
      · subst he; simpa using this
      · rw [Tr.beq_false he]; rw [if_neg he] at this; simpa [he] using this
  · rw [Option.bind_eq_some_iff] at h
    obtain ⟨r, hr, h⟩ := h
    have hrd := evalL_den (c := c) ht hr
    have hall : denL c.P c.Φ ρ (v :: r) = some (a.eval x :: (lo.toList ++ hi.toList).map a.eval) := by simp [denL, hx, hrd]
    split at h
    · rename_i u hu
      have h : (primV c (.slice t lo.isSome hi.isSome) (v :: r)).bind (one S) = some L := by rw [hu]; exact h
      refine prim_op (s := Instr.sliceAt t (a.eval x) (lo.map a.eval) (hi.map a.eval) none) hs hall h ?_ (by unfold execOp; rw [hop]; rfl) hK
      cases lo <;> cases hi <;> rfl
    · simp only [Option.bind_eq_some_iff] at h
      obtain ⟨l, hl, hh, hhi, h⟩ := h
      obtain ⟨u, hu, rfl⟩ := bindOne (Option.bind_eq_some_iff.2 h)
      obtain ⟨s, p, q, hst, hxs, hp, hq, h1, h2, hd⟩ := partStr_ok hs hx hu
      refine wp_val (x := .string (s.extract p q)) (w' := w) ?_ (hK.one (Le.refl ρ) hs hd rfl rfl)
      unfold execOp; rw [hop]
      refine run_v ?_
      unfold Instr.sliceAt
      rw [run_bindok (run_underlying hst), hxs]
      simp only []
      unfold Instr.slice
      rw [run_bindok (run_underlying hst)]
      simp only [Option.map_none, Option.isSome_none, Bool.false_eq_true, if_false]
      have hb : (Instr.sliceBounds false s.size s.size (lo.map a.eval) (hi.map a.eval) none).run c.P w = .ok (p, q, s.size) w := by
        rw [hxs] at hx
        have hlen := lenOf_den hs hst hx
        have eL : ∀ y, lo = some y → a.eval y = .int .i64 (Int.ofNat p) := by
          intro y hy; subst hy
          have := eval_den (c := c) ht hl
          rw [hp] at this; exact (Option.some.inj this).symm
        have eH : ∀ y, hi = some y → a.eval y = .int .i64 (Int.ofNat q) := by
          intro y hy; subst hy
          have := eval_den (c := c) ht hhi
          rw [hq] at this; exact (Option.some.inj this).symm
        unfold Instr.sliceBounds
        cases lo with
        | none =>
          have hp0 : p = 0 := by
            simp only [evalO, Option.some.injEq] at hl; subst hl
            simp only [den_k, Option.some.injEq, Value.int.injEq, true_and] at hp; omega
          subst hp0
          cases hi with
          | none =>
            have hq0 : q = s.size := by
              simp only [evalO, Option.some.injEq] at hhi; subst hhi
              rw [hlen] at hq
              simp only [Option.some.injEq, Value.int.injEq, true_and] at hq; omega
            subst hq0
            rfl
          | some y =>
            simp only [Option.map_some, Option.map_none, eH y rfl]
            rw [run_bindok (run_pure _), run_bindok (run_sliceBound h2)]
            rfl
        | some z =>
          cases hi with
          | none =>
            have hq0 : q = s.size := by
              simp only [evalO, Option.some.injEq] at hhi; subst hhi
              rw [hlen] at hq
              simp only [Option.some.injEq, Value.int.injEq, true_and] at hq; omega
            subst hq0
            simp only [Option.map_some, Option.map_none, eL z rfl]
            rw [run_bindok (run_pure _), run_bindok (run_pure _), run_bindok (run_sliceBound h1)]
            rfl
          | some y =>
            simp only [Option.map_some, eH y rfl, eL z rfl]
            rw [run_bindok (run_pure _), run_bindok (run_sliceBound h2), run_bindok (run_sliceBound h1)]
            rfl
      rw [run_bindok hb]
      rfl
  · cases h
end
end Go.Proofs.Ytobghgfmdjknlaa.Sx
