/- Symbolic execution: == of structs, part by part. -/
import Derived.Test.YtobghgfmdjknlaaSxStep
import Derived.Test.YtobghgfmdjknlaaSxSym3
import Derived.Laws.StructEq
namespace Go.Proofs.Ytobghgfmdjknlaa.Sx
open Go
set_option linter.unusedSectionVars false

section
variable {c : Cfg} {F : Wd} [COk c]
variable {o : Oper} {a : Act} {w : World} {next : Act → World → Prop} {Q : Exit → Act → World → Prop}

/-- One after the other, up to the first that is not so. -/
def runAll (e : Nat) : List (TypeId × Value × Value) → Sem Bool
  | [] => pure true
  | (t, x, y) :: r => do
    let b ← Op.equalIn e t x y
    if (!b) = true then pure false else runAll e r

def denT (ρ : Env) : List (TypeId × V × V) → Option (List (TypeId × Value × Value))
  | [] => some []
  | (t, u, v) :: r => (den c.P c.Φ ρ u).bind fun x => (den c.P c.Φ ρ v).bind fun y => (denT ρ r).map fun l => (t, x, y) :: l

theorem denT_append {ρ : Env} : ∀ {l m : List (TypeId × V × V)} {xs ys : List (TypeId × Value × Value)}, denT (c := c) ρ l = some xs → denT (c := c) ρ m = some ys → denT (c := c) ρ (l ++ m) = some (xs ++ ys)
  | [], _, _, _, h, h' => by simp only [denT, Option.some.injEq] at h; subst h; exact h'
  | (t, u, v) :: r, m, xs, ys, h, h' => by
    simp only [denT, Option.bind_eq_some_iff, Option.map_eq_some_iff] at h
    obtain ⟨x, hx, y, hy, l, hl, rfl⟩ := h
    simp [denT, hx, hy, denT_append hl h']

theorem runAll_append {P : Program} {e : Nat} : ∀ {l m : List (TypeId × Value × Value)} {w w' : World} {b : Bool}, (runAll e l).run P w = .ok b w' → (runAll e (l ++ m)).run P w = if b then (runAll e m).run P w' else .ok false w'
  | [], m, w, w', b, h => by
    have h : Result.ok true w = .ok b w' := h
    cases h
    rfl
  | (t, x, y) :: r, m, w, w', b, h => by
    simp only [List.cons_append, runAll, Sem.run_bind] at h ⊢
    generalize (Op.equalIn e t x y).run P w = q at h ⊢
    cases q with
    | halt _ _ => simp [Result.andThen] at h
    | ok z w1 =>
      simp only [Result.andThen_ok] at h ⊢
      cases z with
      | false =>
        simp only [Bool.not_false, if_true] at h ⊢
        have h : Result.ok false w1 = .ok b w' := h
        cases h
        rfl
      | true =>
        simp only [Bool.not_true, Bool.false_eq_true, if_false] at h ⊢
        exact runAll_append h
theorem runAll_halt {P : Program} {e : Nat} : ∀ {l m : List (TypeId × Value × Value)} {w w' : World} {h : Halt}, (runAll e l).run P w = .halt h w' → (runAll e (l ++ m)).run P w = .halt h w'
  | [], m, w, w', b, h => by cases (show Result.ok true w = .halt b w' from h)
  | (t, x, y) :: r, m, w, w', b, h => by
    simp only [List.cons_append, runAll, Sem.run_bind] at h ⊢
    generalize (Op.equalIn e t x y).run P w = q at h ⊢
    cases q with
    | halt _ _ => exact h
    | ok z w1 =>
      simp only [Result.andThen_ok] at h ⊢
      cases z with
      | false => cases (show Result.ok false w1 = .halt _ w' from h)
      | true =>
        simp only [Bool.not_true, Bool.false_eq_true, if_false] at h ⊢
        exact runAll_halt h

/-- Values of a type that is no struct, as the type wants them. -/
theorem fits_cases {dd : TypeDesc} {a b : Ty} {x y : Value} (ha : fitsTy dd a = true) (hb : fitsTy dd b = true) (hx : hasTy x a) (hy : hasTy y b) :
    (∃ k k1 k2 n m, dd = .int k ∧ x = .int k1 n ∧ y = .int k2 m) ∨ (∃ n m, dd = .float .f64 ∧ x = .float .f64 n ∧ y = .float .f64 m) ∨ (∃ s s', dd = .string ∧ x = .string s ∧ y = .string s') ∨ (∃ s s', dd = .bool ∧ x = .bool s ∧ y = .bool s') := by
  unfold fitsTy at ha
  split at ha
  · obtain ⟨⟨k1, lo, hi⟩, h1⟩ := Option.isSome_iff_exists.1 ha
    obtain ⟨⟨k2, lo', hi'⟩, h2⟩ := Option.isSome_iff_exists.1 (show (inty b).isSome = true from hb)
    obtain ⟨n, rfl, _⟩ := inty_ok h1 hx
    obtain ⟨m, rfl, _⟩ := inty_ok h2 hy
    exact .inl ⟨_, _, _, _, _, rfl, rfl, rfl⟩
  · obtain ⟨n, rfl⟩ := floaty_ok ha hx
    obtain ⟨m, rfl⟩ := floaty_ok (show floaty b = true from hb) hy
    exact .inr (.inl ⟨_, _, rfl, rfl, rfl⟩)
  · obtain ⟨s, rfl⟩ := hx
    cases b <;> simp only [fitsTy, Bool.false_eq_true] at hb
    obtain ⟨s', rfl⟩ := hy
    exact .inr (.inr (.inl ⟨_, _, rfl, rfl, rfl⟩))
  · obtain ⟨s, rfl⟩ := hx
    cases b <;> simp only [fitsTy, Bool.false_eq_true] at hb
    obtain ⟨s', rfl⟩ := hy
    exact .inr (.inr (.inr ⟨_, _, rfl, rfl, rfl⟩))
  · cases ha

theorem equalIn_depth {P : Program} {w : World} {t : TypeId} {d : TypeDesc} (hu : P.underlying t = some d) (e e' : Nat) {a b : Ty} {x y : Value} (ha : fitsTy d a = true) (hb : fitsTy d b = true) (hx : hasTy x a) (hy : hasTy y b) :
    (Op.equalIn (e + 1) t x y).run P w = (Op.equalIn (e' + 1) t x y).run P w := by
  unfold Op.equalIn
  rw [run_bindok (run_underlying hu), run_bindok (run_underlying hu)]
  rcases fits_cases ha hb hx hy with ⟨_, _, _, _, _, rfl, rfl, rfl⟩ | ⟨_, _, rfl, rfl, rfl⟩ | ⟨_, _, rfl, rfl, rfl⟩ | ⟨_, _, rfl, rfl, rfl⟩ <;> rfl

def Flat (c : Cfg) (S : St) (l : List (TypeId × V × V)) : Prop := ∀ i, i ∈ l → ∃ dd tx ty, c.P.underlying i.1 = some dd ∧ tyOf c S i.2.1 = some tx ∧ tyOf c S i.2.2 = some ty ∧ fitsTy dd tx = true ∧ fitsTy dd ty = true
theorem flat_ok {ρ : Env} {S : St} (hs : SatH c F ρ S w) : ∀ (d : Nat) {t : TypeId} {u v : V} {x y : Value} {l : List (TypeId × V × V)}, eqFlat c S d t u v = some l → den c.P c.Φ ρ u = some x → den c.P c.Φ ρ v = some y →
    ∃ ls, denT (c := c) ρ l = some ls ∧ Flat c S l ∧ ∀ e w, (Op.equalIn (d + e) t x y).run c.P w = (runAll 10000 ls).run c.P w
  | 0, _, _, _, _, _, _, h, _, _ => by cases h
  | d + 1, t, u, v, x, y, l, h, hu, hv => by
    have sc : ∀ {dd}, und c t = some dd → ((tyOf c S u).bind fun a => (tyOf c S v).bind fun b => bif fitsTy dd a && fitsTy dd b then some [(t, u, v)] else none) = some l → ∃ ls, denT (c := c) ρ l = some ls ∧ Flat c S l ∧ ∀ e w, (Op.equalIn (d + 1 + e) t x y).run c.P w = (runAll 10000 ls).run c.P w := by
      intro dd hdd hl
      simp only [Option.bind_eq_some_iff] at hl
      obtain ⟨tu, htu, tv, htv, hl⟩ := hl
      obtain ⟨hg, hl⟩ := bif_none hl
      simp only [Option.some.injEq] at hl; subst hl
      rw [Bool.and_eq_true] at hg
      refine ⟨[(t, x, y)], by simp [denT, hu, hv], ?_, ?_⟩
      · intro i hi
        simp only [List.mem_singleton] at hi
        subst hi
        exact ⟨dd, tu, tv, und_spec hdd, htu, htv, hg.1, hg.2⟩
      · intro e w
        obtain ⟨x', hx', hxt⟩ := tyOf_ok hs htu
        obtain ⟨y', hy', hyt⟩ := tyOf_ok hs htv
        rw [hu] at hx'; cases hx'
        rw [hv] at hy'; cases hy'
        rw [show d + 1 + e = (d + e) + 1 by omega, equalIn_depth (und_spec hdd) (d + e) 9999 hg.1 hg.2 hxt hyt]
        simp only [runAll, Sem.run_bind]
        generalize (Op.equalIn (9999 + 1) t x y).run c.P w = q
        cases q with
        | halt _ _ => rfl
        | ok z w1 => simp only [Result.andThen_ok]; cases z <;> rfl
    unfold eqFlat at h
    split at h
    · rename_i fs hfs
      replace h := bif_some h
      rcases h with ⟨_, h⟩ | ⟨hst, h⟩
      · cases h
      simp only [Option.bind_eq_some_iff] at h
      obtain ⟨us, hus, vs, hvs, h⟩ := h
      obtain ⟨xs, hxs, rfl⟩ := den_cells hus hu
      obtain ⟨ys, hys, rfl⟩ := den_cells hvs hv
      have hund := und_spec hfs
      have hf : c.P.fieldsOf t = fs := by unfold Program.fieldsOf; rw [hund]
      have key : ∀ (fl : List Field) (l : List (TypeId × V × V)), bindL (fun f => bif f.name == "_" then some [] else (partX c f.type us f.offset).bind fun a => (partX c f.type vs f.offset).bind fun b => eqFlat c S d f.type a b) fl = some l →
          ∃ ls, denT (c := c) ρ l = some ls ∧ Flat c S l ∧ ∀ e w, (Op.eqFields (d + e) xs.toArray ys.toArray fl).run c.P w = (runAll 10000 ls).run c.P w := by
        intro fl
        induction fl with
        | nil =>
          intro l h
          simp only [bindL, Option.some.injEq] at h
          subst h
          exact ⟨[], rfl, fun i (hi : i ∈ []) => absurd hi (List.not_mem_nil ), fun e w => rfl⟩
        | cons f r ih =>
          intro l h
          simp only [bindL, Option.bind_eq_some_iff, Option.map_eq_some_iff] at h
          obtain ⟨l1, h1, l2, h2, rfl⟩ := h
          obtain ⟨ls2, d2, s2, r2⟩ := ih l2 h2
          replace h1 := bif_some h1
          rcases h1 with ⟨hn, h1⟩ | ⟨hn, h1⟩
          · simp only [Option.some.injEq] at h1; subst h1
            refine ⟨ls2, d2, s2, fun e w => ?_⟩
            simp only [Op.eqFields]
            rw [if_neg (by simpa using hn)]
            exact r2 e w
          · simp only [Option.bind_eq_some_iff] at h1
            obtain ⟨p, hp, q, hq, h1⟩ := h1
            obtain ⟨px, hpx, rp⟩ := run_part (w := w) hxs hp
            obtain ⟨qx, hqx, rq⟩ := run_part (w := w) hys hq
            obtain ⟨ls1, d1, s1, r1⟩ := flat_ok hs d h1 hpx hqx
            refine ⟨ls1 ++ ls2, denT_append d1 d2, fun i hi => ?_, fun e w' => ?_⟩
            · rcases List.mem_append.1 hi with hi | hi
              · exact s1 i hi
              · exact s2 i hi
            · obtain ⟨px', hpx', rp'⟩ := run_part (w := w') hxs hp
              obtain ⟨qx', hqx', rq'⟩ := run_part (w := w') hys hq
              rw [hpx] at hpx'; cases hpx'
              rw [hqx] at hqx'; cases hqx'
              simp only [Op.eqFields]
              rw [if_pos (by simpa using hn), run_bindok rp', run_bindok rq']
              simp only [Sem.run_bind, r1 e w']
              generalize hg : (runAll 10000 ls1).run c.P w' = g
              cases g with
              | halt hh w2 => rw [runAll_halt hg]; rfl
              | ok z w2 =>
                rw [runAll_append hg]
                simp only [Result.andThen_ok]
                cases z with
                | false => rfl
                | true => simp only [Bool.not_true, Bool.false_eq_true, if_false, if_true]; exact r2 e w2
      obtain ⟨ls, h1, h2, h3⟩ := key _ _ h
      refine ⟨ls, h1, h2, fun e w => ?_⟩
      rw [show d + 1 + e = (d + e) + 1 by omega, run_equalIn_struct w (d + e) t _ _ (by rw [hf]; exact hund) hst, hf]
      exact h3 e w
    · exact sc ‹_› h
    · cases h

theorem scal_eq {t : TypeId} {dd : TypeDesc} (hu : c.P.underlying t = some dd) {a b : Ty} {x y : Value} (ha : fitsTy dd a = true) (hb : fitsTy dd b = true) (hx : hasTy x a) (hy : hasTy y b) {z : Bool}
    (h : semPrim c.P (.bin .eql t false) [x, y] = some (.bool z)) : (Op.equalIn 10000 t x y).run c.P w = .ok z w := by
  rcases fits_cases ha hb hx hy with ⟨k, k1, k2, n, m, rfl, rfl, rfl⟩ | ⟨n, m, rfl, rfl, rfl⟩ | ⟨s, s', rfl, rfl, rfl⟩ | ⟨s, s', rfl, rfl, rfl⟩
  · by_cases hk : k1 = k2
    · subst hk
      rw [semInt rfl] at h
      have h' : some (Value.bool (n == m)) = some (.bool z) := h
      simp only [Option.some.injEq, Value.bool.injEq] at h'
      rw [run_equalIn_int w 9999 t k1 k n m hu, h']
    · rw [semInt_other rfl hk] at h; cases h
  · rw [semFloat rfl] at h
    have h' : some (Value.bool (FloatKind.f64.format.order n m == some .eq)) = some (.bool z) := h
    simp only [Option.some.injEq, Value.bool.injEq] at h'
    unfold Op.equalIn
    rw [run_bindok (run_underlying hu), ← h']
    rfl
  · rw [semStr] at h
    have h' : some (Value.bool (s.toList == s'.toList)) = some (.bool z) := h
    simp only [Option.some.injEq, Value.bool.injEq] at h'
    rw [run_equalIn_string w 9999 t s s' hu, h']
  · rw [semBool hu rfl] at h
    have h' : some (Value.bool (s == s')) = some (.bool z) := h
    simp only [Option.some.injEq, Value.bool.injEq] at h'
    rw [run_equalIn_bool' w 9999 t s s' hu, h']

theorem tyOf_kin {S S' : St} (h : Kin S S') (v : V) : tyOf c S' v = tyOf c S v := by
  have hd : ∀ v, tyD c S' v = tyD c S v := by
    intro v
    induction v with
    | var n => simp only [tyD, St.look, h.heap]
    | prim p a ih => simp only [tyD, ih]
    | app f a ih => simp only [tyD, ih]
    | cons a b iha ihb => simp only [tyD, iha, ihb]
    | _ => rfl
  unfold tyOf
  rw [hd]

theorem allX_ok {ρ : Env} : ∀ {l : List (TypeId × V × V)} {S : St} {ls : List (TypeId × Value × Value)} {L : List (Bool × St)}, SatH c F ρ S w → Flat c S l → denT (c := c) ρ l = some ls → allX c l S = some L →
    ∃ z S', (z, S') ∈ L ∧ SatH c F ρ S' w ∧ Kin S S' ∧ (runAll 10000 ls).run c.P w = .ok z w
  | [], S, ls, L, hs, _, hd, h => by
    simp only [denT, Option.some.injEq] at hd; subst hd
    simp only [allX, Option.some.injEq] at h; subst h
    exact ⟨true, S, by simp, hs, .refl S, rfl⟩
  | (t, u, v) :: r, S, ls, L, hs, hf, hd, h => by
    simp only [denT, Option.bind_eq_some_iff, Option.map_eq_some_iff] at hd
    obtain ⟨x, hx, y, hy, lr, hlr, rfl⟩ := hd
    simp only [allX, Option.bind_eq_some_iff] at h
    obtain ⟨e, he, l, hl, h⟩ := h
    obtain ⟨ex, hex, hsem, _⟩ := symV_ok hs he (denL_two hx hy)
    obtain ⟨z, S1, rfl, hm, hs1, hk⟩ := splitX_ok hs hex hl
    obtain ⟨s, hsx, hsub⟩ := mem_bindL h _ hm
    obtain ⟨dd, tx, ty, hu, htx, hty, g1, g2⟩ := hf (t, u, v) (by simp)
    obtain ⟨x', hx', hxt⟩ := tyOf_ok hs htx
    obtain ⟨y', hy', hyt⟩ := tyOf_ok hs hty
    rw [hx] at hx'; cases hx'
    rw [hy] at hy'; cases hy'
    have hq := scal_eq (w := w) hu g1 g2 hxt hyt hsem
    cases z with
    | false =>
      simp only [cond_false, Option.some.injEq] at hsx; subst hsx
      refine ⟨false, S1, hsub _ (by simp), hs1, hk, ?_⟩
      simp only [runAll]
      rw [run_bindok hq]
      rfl
    | true =>
      simp only [cond_true] at hsx
      have hf' : Flat c S1 r := by
        intro i hi
        obtain ⟨dd, tx, ty, h1, h2, h3, h4⟩ := hf i (by simp [hi])
        exact ⟨dd, tx, ty, h1, by rw [tyOf_kin hk]; exact h2, by rw [tyOf_kin hk]; exact h3, h4⟩
      obtain ⟨z', S', hm', hs', hk', hr'⟩ := allX_ok hs1 hf' hlr hsx
      refine ⟨z', S', hsub _ hm', hs', hk.trans hk', ?_⟩
      simp only [runAll]
      rw [run_bindok hq]
      exact hr'

theorem allX_kin : ∀ {l : List (TypeId × V × V)} {S : St} {L : List (Bool × St)}, allX c l S = some L → ∀ x, x ∈ L → Kin S x.2
  | [], S, L, h, x, hx => by
    simp only [allX, Option.some.injEq] at h; subst h
    simp only [List.mem_singleton] at hx; subst hx
    exact .refl S
  | (t, u, v) :: r, S, L, h, x, hx => by
    simp only [allX, Option.bind_eq_some_iff] at h
    obtain ⟨e, he, l, hl, h⟩ := h
    obtain ⟨⟨b, S1⟩, s, hm, hsx, hx⟩ := mem_bindL' h x hx
    have hk := splitX_kin hl _ hm
    cases b with
    | false =>
      simp only [cond_false, Option.some.injEq] at hsx; subst hsx
      simp only [List.mem_singleton] at hx; subst hx
      exact hk
    | true => exact hk.trans (allX_kin hsx x hx)

theorem step_agg {ρ : Env} {S : St} {L : List (V × St)} {op : BinOp} {t yt : TypeId} {x y : Operand} {u v : V} (hop : o.op = .binOp op t x y yt) (hs : SatH c F ρ S w)
    (hx : den c.P c.Φ ρ u = some (a.eval x)) (hy : den c.P c.Φ ρ v = some (a.eval y)) (hu : isAggV u = true) (hv : isAggV v = true)
    (h : aggEqX c S op t u v = some L) (hK : Outs c F ρ S L fun x w' => next (a.put o.dst x) w') : o.wp c.P a w next Q := by
  have agg : ∀ {u : V} {x : Value}, isAggV u = true → den c.P c.Φ ρ u = some x → ∃ xs, x = .agg xs := by
    intro u x hu hx
    unfold isAggV at hu
    split at hu
    · simp only [den, D, Option.bind_eq_some_iff, Option.map_eq_some_iff] at hx
      obtain ⟨xs, ⟨ys, _, rfl⟩, h2⟩ := hx
      simp only [single, Option.some.injEq] at h2
      exact ⟨_, h2.symm⟩
    · simp only [den_k, Option.some.injEq] at hx; exact ⟨_, hx.symm⟩
    · cases hu
  obtain ⟨xs, hxs⟩ := agg hu hx
  obtain ⟨ys, hys⟩ := agg hv hy
  unfold aggEqX at h
  replace h := bif_some h
  rcases h with ⟨_, h⟩ | ⟨hg, h⟩
  · cases h
  simp only [Option.bind_eq_some_iff] at h
  obtain ⟨l, hl, r, hr, h⟩ := h
  obtain ⟨ls, hd, hflat, hrun⟩ := flat_ok hs 20 hl hx hy
  obtain ⟨z, S', hm, hs', hk, hz⟩ := allX_ok hs hflat hd hr
  obtain ⟨s, hsx, hsub⟩ := mem_bindL h _ hm
  simp only [Option.map_eq_some_iff] at hsx
  obtain ⟨rb, hrb, rfl⟩ := hsx
  have hq : (Op.equalIn 10000 t (.agg xs) (.agg ys)).run c.P w = .ok z w := by
    rw [← hxs, ← hys, ← hz, ← hrun 9980 w]
  refine wp_val (x := .bool rb) (w' := w) ?_ (hK (.k (.bool rb)) S' (hsub _ (by simp)) ρ w (.bool rb) (Le.refl ρ) hs' rfl hk.tmps hk.nt hk.unch)
  unfold execOp; rw [hop]
  refine run_v ?_
  rw [hxs, hys, run_bindok (run_eqGuard_agg w op t x y xs ys hg)]
  unfold boolOp at hrb
  split at hrb
  · simp only [Option.some.injEq] at hrb; subst hrb
    rw [run_eql_struct w, hq]; rfl
  · simp only [Option.some.injEq] at hrb; subst hrb
    rw [run_neq_struct w, hq]; rfl
  · cases hrb
end
end Go.Proofs.Ytobghgfmdjknlaa.Sx
