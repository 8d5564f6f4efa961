/- Symbolic execution: maps whose keys are strings. -/
import Derived.Test.YtobghgfmdjknlaaSxStep3
import Derived.MapKept
namespace Go.Proofs.Ytobghgfmdjknlaa.Sx
open Go
set_option linter.unusedSectionVars false

section
variable {c : Cfg} {F : Wd} [COk c]
variable {o : Oper} {a : Act} {w : World} {next : Act → World → Prop} {Q : Exit → Act → World → Prop}

theorem bytesEqB_refl : ∀ (a : List UInt8), bytesEqB a a = true
  | [] => rfl
  | x :: a => by
    show an (Nat.beq x.toNat x.toNat) (bytesEqB a a) = true
    rw [an_eq, Nat.beq_refl, bytesEqB_refl a]; rfl
theorem bytesEqB_ne {a b : List UInt8} (h : bytesEqB a b = false) : a ≠ b := by
  rintro rfl
  rw [bytesEqB_refl] at h; cases h
theorem byteArr_eq {s t : ByteArray} (h : s.data.toList = t.data.toList) : s = t := by
  apply ByteArray.ext
  exact Array.ext' h

/-- What the model's search says where the executor's says something. -/
theorem findNow_spec {ρ : Env} {s : ByteArray} : ∀ {es : List (Value × V × Nat)} {xs : List MapEntry} {r : Option V} (i : Nat), denE c ρ es = some xs → findX s.data.toList es = some r →
    (r = none ∧ Instr.findNow .string (.string s) xs i = some none) ∨ ∃ v x j, r = some v ∧ den c.P c.Φ ρ v = some x ∧ Instr.findNow .string (.string s) xs i = some (some (j, x))
  | [], xs, r, i, hd, hf => by
    simp only [denE, Option.some.injEq] at hd
    simp only [findX, Option.some.injEq] at hf
    subst hd; subst hf
    exact .inl ⟨rfl, rfl⟩
  | (k, v, b) :: es, xs, r, i, hd, hf => by
    simp only [denE, Option.bind_eq_some_iff, Option.map_eq_some_iff] at hd
    obtain ⟨x, hx, l, hl, rfl⟩ := hd
    unfold findX at hf
    split at hf
    · cases hf
      all_goals contradiction
    · rename_i e2 v' _ r' he
      simp only [List.cons.injEq, Prod.mk.injEq] at he
      obtain ⟨⟨rfl, rfl, _⟩, rfl⟩ := he
      have hsame : Instr.sameNow .string (.string s) (.string e2) = some (s == e2) := rfl
      replace hf := bif_some hf
      rcases hf with ⟨hb, hf⟩ | ⟨hb, hf⟩
      · simp only [Option.some.injEq] at hf
        subst hf
        have : s = e2 := (byteArr_eq (bytesEqB_eq hb)).symm
        subst this
        exact .inr ⟨_, x, i, rfl, hx, by unfold Instr.findNow; rw [hsame, (MapKept.bytes_beq s s).2 rfl]⟩
      · have hne : ¬ s = e2 := fun e => bytesEqB_ne hb (by rw [e])
        have hbe : (s == e2) = false := by
          cases hq : (s == e2) with
          | false => rfl
          | true => exact absurd ((MapKept.bytes_beq s e2).1 hq) hne
        have hgo : Instr.findNow .string (.string s) ({ key := .string e2, val := x, born := b } :: l) i = Instr.findNow .string (.string s) l (i + 1) := by
          conv => lhs; unfold Instr.findNow
          rw [hsame, hbe]
        rw [hgo]
        exact findNow_spec (i + 1) hl hf
    · cases hf

theorem mapT_spec {t k e : TypeId} (h : mapT c t = some (k, e)) : c.P.underlying t = some (.map k e) ∧ c.P.underlying k = some .string := by
  unfold mapT at h
  split at h
  · rename_i k' e' hu
    split at h
    · rename_i hk
      simp only [Option.some.injEq, Prod.mk.injEq] at h
      obtain ⟨rfl, rfl⟩ := h
      exact ⟨und_spec hu, und_spec hk⟩
    · cases h
  · cases h

theorem run_findKey_str {k : TypeId} (hk : c.P.underlying k = some .string) {s : ByteArray} {xs : List MapEntry} {r : Option (Nat × Value)} (h : Instr.findNow .string (.string s) xs 0 = some r) (w : World) :
    (Instr.findKey k (.string s) xs).run c.P w = .ok r w := by
  unfold Instr.findKey
  rw [run_bindok (run_underlying hk)]
  simp only [h]
  rfl
theorem run_checkKey_str {k : TypeId} (hk : c.P.underlying k = some .string) (s : ByteArray) (b : Bool) (w : World) : (Instr.checkKey b 10000 k (.string s)).run c.P w = .ok () w := by
  unfold Instr.checkKey
  rw [run_bindok (run_underlying hk)]
  rfl
theorem look_map {ρ : Env} {S : St} {n : Nat} {es : List (Value × V × Nat)} {clock : Nat} (hs : SatH c F ρ S w) (h : S.look n = some (.map es clock)) :
    ∃ b xs, blockOf (ρ n) = some b ∧ denE c ρ es = some xs ∧ w.heap[b]? = some (.map xs.toArray clock) := hs.ents n _ h
theorem den_map {ρ : Env} {n b : Nat} (h : blockOf (ρ n) = some b) : den c.P c.Φ ρ (.map n) = some (.map (some b)) := by
  simp [den, D, h, single]
theorem den_map_inv {ρ : Env} {n : Nat} {x : Value} (h : den c.P c.Φ ρ (.map n) = some x) : ∃ b, blockOf (ρ n) = some b ∧ x = .map (some b) := by
  simp only [den, D, Option.bind_eq_some_iff, Option.map_eq_some_iff] at h
  obtain ⟨_, ⟨b, hb, rfl⟩, h2⟩ := h
  simp only [single, Option.some.injEq] at h2
  exact ⟨b, hb, h2.symm⟩

theorem step_makeMap {ρ : Env} {S : St} {L : List (V × St)} {nm : Nat} {t : TypeId} {r : Option Operand} (hop : o.op = .makeMap t r) (hs : SatH c F ρ S w)
    (h : xMakeMap nm S r = some L) (hK : Outs c F ρ S L fun x w' => next (a.put o.dst x) w') : o.wp c.P a w next Q := by
  unfold xMakeMap at h
  split at h
  · obtain ⟨hf, h⟩ := bif_none h
    simp only [Option.some.injEq] at h
    subst h
    obtain ⟨h1, h2⟩ := hs.allocG (n := nm) (e0 := .map [] 0) (ob := .map #[] 0) hf (fun ρ' w' _ hb hw => ⟨_, [], hb, rfl, hw⟩)
    refine wp_val (x := .map (some w.heap.size)) (w' := w.alloc (.map #[] 0)) ?_ ?_
    · unfold execOp; rw [hop]; rfl
    · exact hK.one h1 h2 (den_map (by rw [upd_self]; rfl)) rfl rfl (Unch.put _ _ _)
  · cases h

theorem run_lookup_str {t kt et : TypeId} {b clock : Nat} {xs : List MapEntry} {s : ByteArray} {ok : Bool} {q : Option (Nat × Value)} {v : Value} {bo : Bool} (hu : c.P.underlying t = some (.map kt et)) (huk : c.P.underlying kt = some .string)
    (hh : w.heap[b]? = some (.map xs.toArray clock)) (hq : Instr.findNow .string (.string s) xs 0 = some q)
    (hv : (∃ j, q = some (j, v) ∧ bo = true) ∨ (q = none ∧ (zeroValue et).run c.P w = .ok v w ∧ bo = false)) :
    (Instr.lookup t (.map (some b)) (.string s) ok).run c.P w = .ok (if ok then .tuple #[v, .bool bo] else v) w := by
  have hget : (getObj b).run c.P w = .ok (.map xs.toArray clock) w := MapKept.run_getObj_map hh
  rcases hv with ⟨j, rfl, rfl⟩ | ⟨rfl, hz, rfl⟩
  · simp [Instr.lookup, run_underlying hu, hget, run_checkKey_str huk, run_findKey_str huk hq, Result.andThen]
  · simp [Instr.lookup, run_underlying hu, hget, run_checkKey_str huk, run_findKey_str huk hq, hz, Result.andThen]

theorem den_okV {ρ : Env} {v : V} {x : Value} (ok b : Bool) (h : den c.P c.Φ ρ v = some x) : den c.P c.Φ ρ (okV ok v b) = some (if ok then .tuple #[x, .bool b] else x) := by
  cases ok
  · exact h
  · exact den_tup (by simp [denL, h, den_k])

theorem lookX_ok {ρ : Env} {s : ByteArray} {kv : V} (hkv : den c.P c.Φ ρ kv = some (.string s)) : ∀ {es : List (Value × V × Nat)} {S : St} {xs : List MapEntry} {L : List (Option V × St)} (i : Nat), SatH c F ρ S w → denE c ρ es = some xs → lookX c kv es S = some L →
    ∃ r S', (r, S') ∈ L ∧ SatH c F ρ S' w ∧ Kin S S' ∧ ((r = none ∧ Instr.findNow .string (.string s) xs i = some none) ∨ ∃ v x j, r = some v ∧ den c.P c.Φ ρ v = some x ∧ Instr.findNow .string (.string s) xs i = some (some (j, x)))
  | [], S, xs, L, i, hs, hd, h => by
    simp only [denE, Option.some.injEq] at hd; subst hd
    simp only [lookX, Option.some.injEq] at h; subst h
    exact ⟨none, S, by simp, hs, .refl S, .inl ⟨rfl, rfl⟩⟩
  | (k, v, b) :: es, S, xs, L, i, hs, hd, h => by
    simp only [denE, Option.bind_eq_some_iff, Option.map_eq_some_iff] at hd
    obtain ⟨x, hx, l, hl, rfl⟩ := hd
    unfold lookX at h
    split at h
    · cases ‹_ :: _ = []›
    · rename_i e2 v' _ r' he
      simp only [List.cons.injEq, Prod.mk.injEq] at he
      obtain ⟨⟨rfl, rfl, _⟩, rfl⟩ := he
      simp only [Option.bind_eq_some_iff] at h
      obtain ⟨e, hes, ll, hll, h⟩ := h
      obtain ⟨ex, hex, hsem, _⟩ := symV_ok hs hes (denL_two hkv (den_k ρ _))
      obtain ⟨z, S1, rfl, hm, hs1, hk⟩ := splitX_ok hs hex hll
      obtain ⟨sx, hsx, hsub⟩ := mem_bindL h _ hm
      have hz := eql_str (c := c) hsem
      have hsame : Instr.sameNow .string (.string s) (.string e2) = some (s == e2) := rfl
      cases z with
      | true =>
        have he := of_decide_eq_true hz.symm
        subst he
        simp only [cond_true, Option.some.injEq] at hsx; subst hsx
        exact ⟨some v, S1, hsub _ (by simp), hs1, hk, .inr ⟨v, x, i, rfl, hx, by unfold Instr.findNow; rw [hsame, (MapKept.bytes_beq s s).2 rfl]⟩⟩
      | false =>
        have hne : ¬ s = e2 := of_decide_eq_false hz.symm
        have hbe : (s == e2) = false := by
          cases hq : (s == e2) with
          | false => rfl
          | true => exact absurd ((MapKept.bytes_beq s e2).1 hq) hne
        have hgo : Instr.findNow .string (.string s) ({ key := .string e2, val := x, born := b } :: l) i = Instr.findNow .string (.string s) l (i + 1) := by
          conv => lhs; unfold Instr.findNow
          rw [hsame, hbe]
        rw [hgo]
        obtain ⟨r, S', hm', hs', hk', hr⟩ := lookX_ok hkv (i + 1) hs1 hl hsx
        exact ⟨r, S', hsub _ hm', hs', hk.trans hk', hr⟩
    · cases h

theorem lookX_kin {kv : V} : ∀ {es : List (Value × V × Nat)} {S : St} {L : List (Option V × St)}, lookX c kv es S = some L → ∀ x, x ∈ L → Kin S x.2
  | [], S, L, h, x, hx => by
    simp only [lookX, Option.some.injEq] at h; subst h
    simp only [List.mem_singleton] at hx; subst hx
    exact .refl S
  | (k, v, b) :: es, S, L, h, x, hx => by
    unfold lookX at h
    split at h
    · cases ‹_ :: _ = []›
    · rename_i he
      simp only [List.cons.injEq, Prod.mk.injEq] at he
      obtain ⟨⟨rfl, rfl, _⟩, rfl⟩ := he
      simp only [Option.bind_eq_some_iff] at h
      obtain ⟨e, hes, ll, hll, h⟩ := h
      obtain ⟨⟨z, S1⟩, sx, hm, hsx, hx⟩ := mem_bindL' h x hx
      have hk := splitX_kin hll _ hm
      cases z with
      | true =>
        simp only [cond_true, Option.some.injEq] at hsx; subst hsx
        simp only [List.mem_singleton] at hx; subst hx
        exact hk
      | false => exact hk.trans (lookX_kin hsx x hx)
    · cases h

theorem step_lookup {ρ : Env} {S : St} {L : List (V × St)} {t : TypeId} {m k : Operand} {ok : Bool} (hop : o.op = .lookup t m k ok) (hs : SatH c F ρ S w) (ht : SatT c ρ S a)
    (h : xLookup c S t m k ok = some L) (hK : Outs c F ρ S L fun x w' => next (a.put o.dst x) w') : o.wp c.P a w next Q := by
  unfold xLookup at h
  rw [Option.bind_eq_some_iff] at h
  obtain ⟨mv, hm, h⟩ := h
  rw [Option.bind_eq_some_iff] at h
  obtain ⟨kv, hk, h⟩ := h
  rw [Option.bind_eq_some_iff] at h
  obtain ⟨⟨kt, et⟩, hte, h⟩ := h
  obtain ⟨hu, huk⟩ := mapT_spec hte
  have dm := eval_den ht hm
  have dk := eval_den ht hk
  split at h
  · rename_i n s
    rw [Option.bind_eq_some_iff] at h
    obtain ⟨e, he, h⟩ := h
    split at h
    · rename_i es clock
      rw [Option.bind_eq_some_iff] at h
      obtain ⟨r, hr, h⟩ := h
      obtain ⟨b, xs, hb, hxs, hh⟩ := look_map hs he
      obtain ⟨b', hb', hev⟩ := den_map_inv dm
      rw [hb] at hb'; cases hb'
      simp only [den_k, Option.some.injEq] at dk
      have hexec : ∀ {v : Value}, (Instr.lookup t (.map (some b)) (.string s) ok).run c.P w = .ok v w → (execOp a.eval o).run c.P w = .ok (.value v) w := by
        intro v hv
        unfold execOp; rw [hop]
        refine run_v ?_
        rw [hev, ← dk]
        exact hv
      rcases findNow_spec 0 hxs hr with ⟨rfl, hq⟩ | ⟨v, x, j, rfl, hx, hq⟩
      · simp only at h
        rw [Option.bind_eq_some_iff] at h
        obtain ⟨z, hz, h⟩ := h
        obtain rfl := oneInj h
        rw [Option.bind_eq_some_iff] at hz
        obtain ⟨ti, hti, hz⟩ := hz
        have hzr : (zeroValue et).run c.P w = .ok z w := run_zeroValue (ty_spec hti).1 hz
        exact wp_val (hexec (run_lookup_str hu huk hh hq (.inr ⟨rfl, hzr, rfl⟩))) (hK.one (Le.refl ρ) hs (den_okV ok false (den_k ρ z)) rfl rfl)
      · obtain rfl := oneInj h
        exact wp_val (hexec (run_lookup_str hu huk hh hq (.inl ⟨j, rfl, rfl⟩))) (hK.one (Le.refl ρ) hs (den_okV ok true hx) rfl rfl)
    · cases h
  · rename_i n _
    rw [Option.bind_eq_some_iff] at h
    obtain ⟨e, he, h⟩ := h
    split at h
    case h_2 => cases h
    rename_i es clock
    simp only [Option.bind_eq_some_iff, Option.map_eq_some_iff] at h
    obtain ⟨z, ⟨ti, hti, hz⟩, _, hty, l, hl, rfl⟩ := h
    split at hty
    case h_2 => cases hty
    rename_i hstr
    obtain ⟨sv, hsv, s, rfl⟩ := tyOf_ok hs hstr
    rw [dk] at hsv
    simp only [Option.some.injEq] at hsv
    rw [hsv] at dk
    obtain ⟨b, xs, hb, hxs, hh⟩ := look_map hs he
    obtain ⟨b', hb', hev⟩ := den_map_inv dm
    rw [hb] at hb'; cases hb'
    have hexec : ∀ {v : Value}, (Instr.lookup t (.map (some b)) (.string s) ok).run c.P w = .ok v w → (execOp a.eval o).run c.P w = .ok (.value v) w := by
      intro v hv
      unfold execOp; rw [hop]
      refine run_v ?_
      rw [hev, hsv]
      exact hv
    have hzr : (zeroValue et).run c.P w = .ok z w := run_zeroValue (ty_spec hti).1 hz
    obtain ⟨r, S', hm', hs', hk', hr⟩ := lookX_ok dk 0 hs hxs hl
    rcases hr with ⟨rfl, hq⟩ | ⟨v, x, j, rfl, hx, hq⟩
    · exact wp_val (hexec (run_lookup_str hu huk hh hq (.inr ⟨rfl, hzr, rfl⟩))) (hK (okV ok (.k z) false) S' (List.mem_map.2 ⟨_, hm', rfl⟩) ρ w _ (Le.refl ρ) hs' (den_okV ok false (den_k ρ z)) hk'.tmps hk'.nt hk'.unch)
    · exact wp_val (hexec (run_lookup_str hu huk hh hq (.inl ⟨j, rfl, rfl⟩))) (hK (okV ok v true) S' (List.mem_map.2 ⟨_, hm', rfl⟩) ρ w _ (Le.refl ρ) hs' (den_okV ok true hx) hk'.tmps hk'.nt hk'.unch)
  · cases h

theorem denE_snoc {ρ : Env} {k : Value} {v : V} {b : Nat} {x : Value} (hx : den c.P c.Φ ρ v = some x) : ∀ {es : List (Value × V × Nat)} {xs : List MapEntry}, denE c ρ es = some xs →
    denE c ρ (es ++ [(k, v, b)]) = some (xs ++ [⟨k, x, b⟩])
  | [], xs, h => by
    simp only [denE, Option.some.injEq] at h
    subst h
    simp [denE, hx]
  | (k', v', b') :: r, xs, h => by
    simp only [denE, Option.bind_eq_some_iff, Option.map_eq_some_iff] at h
    obtain ⟨y, hy, l, hl, rfl⟩ := h
    simp [denE, hy, denE_snoc hx hl]

theorem step_insert {ρ : Env} {S : St} {L : List (V × St)} {t : TypeId} {m k x : Operand} (hop : o.op = .insert t m k x) (hs : SatH c F ρ S w) (ht : SatT c ρ S a)
    (h : xInsert c S t m k x = some L) (hK : Outs c F ρ S L fun x w' => next (a.put o.dst x) w') : o.wp c.P a w next Q := by
  unfold xInsert at h
  rw [Option.bind_eq_some_iff] at h
  obtain ⟨mv, hm, h⟩ := h
  rw [Option.bind_eq_some_iff] at h
  obtain ⟨kv, hk, h⟩ := h
  rw [Option.bind_eq_some_iff] at h
  obtain ⟨xv, hx, h⟩ := h
  rw [Option.bind_eq_some_iff] at h
  obtain ⟨⟨kt, et⟩, hte, h⟩ := h
  obtain ⟨hu, huk⟩ := mapT_spec hte
  have dm := eval_den ht hm
  have dk := eval_den ht hk
  have dx := eval_den ht hx
  split at h
  · rename_i n s
    rw [Option.bind_eq_some_iff] at h
    obtain ⟨e, he, h⟩ := h
    split at h
    · rename_i es clock
      rw [Option.bind_eq_some_iff] at h
      obtain ⟨r, hr, h⟩ := h
      split at h
      · obtain ⟨_, h⟩ := bif_none h
        simp only [Option.some.injEq] at h
        subst h
        obtain ⟨b, xs, hb, hxs, hh⟩ := look_map hs he
        obtain ⟨b', hb', hev⟩ := den_map_inv dm
        rw [hb] at hb'; cases hb'
        simp only [den_k, Option.some.injEq] at dk
        rcases findNow_spec 0 hxs hr with ⟨_, hq⟩ | ⟨_, _, _, hne, _⟩
        · have hrun : (Instr.mapUpdate t (.map (some b)) (.string s) (a.eval x)).run c.P w = .ok () (putObj w b (.map (xs.toArray.push ⟨.string s, a.eval x, clock⟩) (clock + 1))) := by
            have hget : (getObj b).run c.P w = .ok (.map xs.toArray clock) w := MapKept.run_getObj_map hh
            simp [Instr.mapUpdate, run_underlying hu, hget, run_checkKey_str huk, run_findKey_str huk hq, Result.andThen, MapKept.run_setObj_map _ hh]
            rfl
          have hsat : SatH c F ρ (S.put n (.map (es ++ [(.string s, xv, clock)]) (clock + 1))) (putObj w b (.map (xs.toArray.push ⟨.string s, a.eval x, clock⟩) (clock + 1))) := by
            refine hs.writeG ⟨_, he, rfl⟩ hb (fun w' hw => ⟨b, xs ++ [⟨.string s, a.eval x, clock⟩], hb, denE_snoc dx hxs, ?_⟩)
            rw [hw]; simp
          refine wp_skip' (w' := _) ?_ (hK.one (Le.refl ρ) hsat (den_k ρ undef) rfl rfl (Unch.put _ _ _))
          unfold execOp; rw [hop]
          refine run_u ?_
          rw [hev, ← dk]
          exact hrun
        · cases hne
      · cases h
    · cases h
  · cases h
end
end Go.Proofs.Ytobghgfmdjknlaa.Sx
