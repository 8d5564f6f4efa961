/- Symbolic execution: regions, in the text's order and in any order. -/
import Derived.Test.YtobghgfmdjknlaaSxStep4
import Derived.Orders
namespace Go.Proofs.Ytobghgfmdjknlaa.Sx
open Go
set_option linter.unusedSectionVars false

section
variable {c : Cfg} {F : Wd} [COk c]
variable {o : Oper} {a : Act} {w : World} {Q : Exit → Act → World → Prop} {call : CallX} {ops : Array Oper}

theorem wantedX_spec {ρ : Env} {S : St} {l : List (Bool × St)} (hs : SatH c F ρ S w) (ht : SatT c ρ S a) (h : wantedX c ops S o = some l) :
    ∃ S', (Region.wanted o (yielded ops a.tmps), S') ∈ l ∧ SatH c F ρ S' w ∧ Kin S S' := by
  unfold wantedX at h
  unfold Region.wanted
  split at h
  · rename_i hg
    simp only [Option.some.injEq] at h
    subst h
    simp only [hg]
    exact ⟨S, by simp, hs, .refl S⟩
  · rename_i j want hg
    simp only [hg]
    simp only [Option.bind_eq_some_iff] at h
    obtain ⟨v, ⟨d, ⟨oj, hoj, hd⟩, hv⟩, h⟩ := h
    obtain ⟨x, hx, hx2⟩ := ht.tmps d v hv
    have hy : yielded ops a.tmps j = match x with | .bool b => some b | _ => none := by
      unfold yielded
      simp only [hoj, Option.bind_some, hd, hx2]
      cases x <;> rfl
    rw [hy]
    split at h
    · simp only [den_k, Option.some.injEq] at hx
      subst hx
      simp only [Option.some.injEq] at h
      subst h
      refine ⟨S, ?_, hs, .refl S⟩
      cases want <;> rename_i b <;> cases b <;> exact List.mem_singleton_self _
    · rename_i y hne
      simp only [den_k, Option.some.injEq] at hx
      subst hx
      replace h := bif_some h
      rcases h with ⟨_, h⟩ | ⟨hsc, h⟩
      · cases h
      · simp only [Option.some.injEq] at h
        subst h
        refine ⟨S, ?_, hs, .refl S⟩
        cases y <;> simp only [isScalar, reduceCtorEq] at hsc <;> exact List.mem_singleton_self _
    · rw [Option.map_eq_some_iff] at h
      obtain ⟨m, hm, rfl⟩ := h
      obtain ⟨z, S', rfl, hmem, hs', hk⟩ := splitX_ok hs hx hm
      refine ⟨S', List.mem_map.2 ⟨(z, S'), hmem, ?_⟩, hs', hk⟩
      cases want <;> cases z <;> rfl
theorem wantedX_kin {S : St} {l : List (Bool × St)} (h : wantedX c ops S o = some l) : ∀ x, x ∈ l → Kin S x.2 := by
  have one : ∀ {b : Bool} {l : List (Bool × St)}, some [(b, S)] = some l → ∀ x, x ∈ l → Kin S x.2 := by
    intro b l h x hx
    simp only [Option.some.injEq] at h; subst h
    simp only [List.mem_singleton] at hx; subst hx
    exact .refl S
  unfold wantedX at h
  split at h
  · exact one h
  · simp only [Option.bind_eq_some_iff] at h
    obtain ⟨v, _, h⟩ := h
    split at h
    · exact one h
    · replace h := bif_some h
      rcases h with ⟨_, h⟩ | ⟨_, h⟩
      · cases h
      · exact one h
    · rw [Option.map_eq_some_iff] at h
      obtain ⟨m, hm, rfl⟩ := h
      intro x hx
      obtain ⟨y, hy, rfl⟩ := List.mem_map.1 hx
      exact splitX_kin hm y hy

/-- What is asked of each state that may follow. -/
def Goes (c : Cfg) (F : Wd) (ρ : Env) (S : St) (ds : List Nat) (L : List St) (K : Act → World → Prop) : Prop :=
  ∀ S', S' ∈ L → ∀ ρ' a' w', Le ρ ρ' → SatH c F ρ' S' w' → SatT c ρ' S' a' → S'.nt = S.nt → Unch S S' → (∀ d, d ∉ ds → S'.tmps.get d = S.tmps.get d) → K a' w'

theorem setT_tmps {S S' : St} {d : Option Tmp} {v : V} (h : S.setT d v = some S') (e : Nat) (he : d ≠ some e) : S'.tmps.get e = S.tmps.get e := by
  cases d with
  | none => simp only [St.setT, Option.some.injEq] at h; subst h; rfl
  | some t =>
    simp only [St.setT] at h
    obtain ⟨_, h⟩ := bif_none h
    simp only [Option.some.injEq] at h
    subst h
    show (S.tmps.set t v).get e = _
    rw [Tr.get_set, if_neg (fun x => he (by rw [x]))]
theorem setT_log {S S' : St} {d : Option Tmp} {v : V} (h : S.setT d v = some S') : S'.log = S.log := by
  cases d with
  | none => simp only [St.setT, Option.some.injEq] at h; subst h; rfl
  | some t =>
    simp only [St.setT] at h
    obtain ⟨_, h⟩ := bif_none h
    simp only [Option.some.injEq] at h
    subst h
    rfl

theorem SatT.kin {ρ : Env} {S S' : St} (h : SatT c ρ S a) (hk : Kin S S') : SatT c ρ S' a := h.congr hk.tmps hk.nt

theorem stepX_sound {ρ : Env} {S : St} {L : List St} {nm : Nat} {K : Act → World → Prop} {ds : List Nat} (hcall : CallOk c F call) (hs0 : SatH c F ρ S w) (ht0 : SatT c ρ S a)
    (h : stepX c call ops nm S o = some L) (hd : ∀ d, o.dst = some d → d ∈ ds) (hK0 : Goes c F ρ S ds L K) :
    if Region.wanted o (yielded ops a.tmps) then o.wp c.P a w K Q else K (a.put o.dst undef) w := by
  simp only [stepX, Option.bind_eq_some_iff] at h
  obtain ⟨ws, hws, h⟩ := h
  obtain ⟨S1, hm1, hs, hkin⟩ := wantedX_spec hs0 ht0 hws
  have ht := ht0.kin hkin
  obtain ⟨L', h, hsub0⟩ := mem_bindL h _ hm1
  have hK : Goes c F ρ S1 ds L' K := by
    intro S' hm ρ' a' w' hle hs' ht' hnt hun htm
    refine hK0 S' (hsub0 S' hm) ρ' a' w' hle hs' ht' (hnt.trans hkin.nt) (hkin.unch.trans hun) (fun d hd => (htm d hd).trans (by rw [hkin.tmps]))
  generalize Region.wanted o (yielded ops a.tmps) = b at h ⊢
  have hds : ∀ e, e ∉ ds → o.dst ≠ some e := fun e he hx => he (hd e hx)
  replace h := bif_some h
  rcases h with ⟨rfl, h⟩ | ⟨rfl, h⟩
  · rw [if_pos rfl]
    rw [Option.bind_eq_some_iff] at h
    obtain ⟨L1, h1, h2⟩ := h
    refine opX_sound hcall hs ht h1 ?_
    intro v S' hm ρ' w' x hle hs' hv htm hnt hun
    obtain ⟨s, hset, hsub⟩ := mem_bindL h2 (v, S') hm
    simp only [Option.map_eq_some_iff] at hset
    obtain ⟨S'', hset, rfl⟩ := hset
    have hh := setT_heap hset
    refine hK S'' (hsub S'' (by simp)) ρ' _ w' hle (hs'.congr hh.1 hh.2.1) (((ht.mono hle).congr htm hnt).put hset hv) (hh.2.2.trans hnt) ?_ ?_
    · refine hun.trans ⟨fun n hn => ?_, fun n _ => by rw [hh.1]⟩
      rw [setT_log hset]; exact hn
    · intro e he
      rw [setT_tmps hset e (hds e he), htm]
  · rw [if_neg (by simp)]
    rw [Option.map_eq_some_iff] at h
    obtain ⟨S'', hset, rfl⟩ := h
    have hh := setT_heap hset
    refine hK S'' (by simp) ρ _ w (Le.refl ρ) (hs.congr hh.1 hh.2.1) (ht.put hset rfl) hh.2.2 ?_ ?_
    · refine ⟨fun n hn => ?_, fun n _ => by rw [hh.1]⟩
      rw [setT_log hset]; exact hn
    · intro e he
      exact setT_tmps hset e (hds e he)

theorem wpOp_of {i : Nat} {K : Act → World → Prop} (ho : ops[i]? = some o) (h : if Region.wanted o (yielded ops a.tmps) then o.wp c.P a w K Q else K (a.put o.dst undef) w) : wpOp c.P ops Q i K a w := by
  unfold wpOp
  simp only [ho]
  split
  · rename_i hw; rw [if_pos hw] at h; exact .inl h
  · rename_i hw; rw [if_neg hw] at h; exact h

theorem opsX_sound (hcall : CallOk c F call) : ∀ (r : List Oper) (k nm : Nat) (ρ : Env) (S : St) (a : Act) (w : World) (L : List St) (ds : List Nat), (∀ j, r[j]? = ops[k + j]?) → (∀ o, o ∈ r → ∀ d, o.dst = some d → d ∈ ds) →
    SatH c F ρ S w → SatT c ρ S a → opsX c call ops r nm S = some L → Goes c F ρ S ds L (Q .normal) → wpOps c.P ops Q (List.range' k r.length) a w
  | [], k, nm, ρ, S, a, w, L, ds, _, _, hs, ht, h, hK => by
    simp only [opsX, Option.some.injEq] at h
    subst h
    simp only [List.length_nil, List.range'_zero, wpOps]
    exact hK S (by simp) ρ a w (Le.refl ρ) hs ht rfl (Unch.refl _) (fun _ _ => rfl)
  | o :: r, k, nm, ρ, S, a, w, L, ds, hj, hd, hs, ht, h, hK => by
    simp only [opsX, Option.bind_eq_some_iff] at h
    obtain ⟨L1, h1, h2⟩ := h
    have ho : ops[k]? = some o := by have := hj 0; simpa using this.symm
    rw [List.length_cons, List.range'_succ, wpOps_cons]
    refine wpOp_of ho (stepX_sound hcall hs ht h1 (fun d hd' => hd o (by simp) d hd') ?_)
    intro S' hm ρ' a' w' hle hs' ht' hnt hun htm
    obtain ⟨L2, hL2, hsub⟩ := mem_bindL h2 S' hm
    refine opsX_sound hcall r (k + 1) (nm + 2) ρ' S' a' w' L2 ds (fun j => ?_) (fun o ho => hd o (by simp [ho])) hs' ht' hL2 ?_
    · have := hj (j + 1)
      rw [List.getElem?_cons_succ] at this
      rw [this]
      congr 1
      omega
    · intro S'' hm2 ρ'' a'' w'' hle2 hs2 ht2 hnt2 hun2 htm2
      exact hK S'' (hsub S'' hm2) ρ'' a'' w'' (hle.trans hle2) hs2 ht2 (hnt2.trans hnt) (hun.trans hun2) (fun d hd => (htm2 d hd).trans (htm d hd))

/-! #### any order -/
/-- Come of one state by writing what is written down alone. -/
structure From (S0 : St) (ds : List Nat) (S : St) : Prop where
  nt : S.nt = S0.nt
  heap : ∀ n, n ∉ S.log → S.heap.get n = S0.heap.get n
  tmps : ∀ d, d ∉ ds → S.tmps.get d = S0.tmps.get d

theorem sameX_spec {S0 S T : St} {ds : List Nat} {ρ : Env} (h : sameX ds S T = true) (hS : From S0 ds S) (hT : From S0 ds T) (hs : SatH c F ρ S w) (ht : SatT c ρ S a) : SatH c F ρ T w ∧ SatT c ρ T a := by
  simp only [sameX, an_eq, eachR_eq, Bool.and_eq_true, List.all_eq_true] at h
  obtain ⟨h1, h2, h3, h4, h5⟩ := h
  have hheap : ∀ n, T.heap.get n = S.heap.get n := by
    intro n
    by_cases hn : n ∈ S.log
    · exact (Ent.eq_eq (h4 n hn)).symm
    · by_cases hm : n ∈ T.log
      · exact (Ent.eq_eq (h5 n hm)).symm
      · rw [hS.heap n hn, hT.heap n hm]
  have htm : ∀ d, T.tmps.get d = S.tmps.get d := by
    intro d
    by_cases hd : d ∈ ds
    · exact (V.eqO_eq (h3 d hd)).symm
    · rw [hS.tmps d hd, hT.tmps d hd]
  refine ⟨hs.congr' hheap (V.eqP_eq h2).symm, ht.defers, by rw [ht.size, hS.nt, hT.nt], fun i v hv => ht.tmps i v (by rw [← htm]; exact hv)⟩

theorem addX_mem {ds : List Nat} {x : Nat × St} : ∀ {l : List (Nat × St)}, (∃ y, y ∈ addX ds x l ∧ (y = x ∨ (y.1 = x.1 ∧ y ∈ l ∧ sameX ds x.2 y.2 = true))) ∧ ∀ y, y ∈ l → y ∈ addX ds x l
  | [] => ⟨⟨x, by simp [addX], .inl rfl⟩, fun y hy => by cases hy⟩
  | z :: r => by
    unfold addX
    rw [an_eq]
    cases hb : (Nat.beq x.1 z.1 && sameX ds x.2 z.2) with
    | true =>
      simp only [Bool.and_eq_true] at hb
      exact ⟨⟨z, by simp, .inr ⟨(beqT hb.1).symm, by simp, hb.2⟩⟩, fun y hy => hy⟩
    | false =>
      obtain ⟨⟨y, hy, hyx⟩, hall⟩ := addX_mem (ds := ds) (x := x) (l := r)
      refine ⟨⟨y, by simp only [cond_false]; exact List.mem_cons_of_mem _ hy, ?_⟩, ?_⟩
      · rcases hyx with h | ⟨h1, h2, h3⟩
        · exact .inl h
        · exact .inr ⟨h1, List.mem_cons_of_mem _ h2, h3⟩
      · intro y' hy'
        simp only [cond_false]
        rcases List.mem_cons.1 hy' with rfl | hy'
        · exact List.mem_cons_self ..
        · exact List.mem_cons_of_mem _ (hall y' hy')

theorem foldl_add {ds : List Nat} : ∀ (l acc : List (Nat × St)), (∀ y, y ∈ acc → y ∈ l.foldl (fun acc x => addX ds x acc) acc) ∧
    ∀ x, x ∈ l → ∃ y, y ∈ l.foldl (fun acc x => addX ds x acc) acc ∧ (y = x ∨ (y.1 = x.1 ∧ (y ∈ l ∨ y ∈ acc) ∧ sameX ds x.2 y.2 = true))
  | [], acc => ⟨fun y hy => hy, fun x hx => by cases hx⟩
  | z :: r, acc => by
    obtain ⟨h1, h2⟩ := foldl_add (ds := ds) r (addX ds z acc)
    obtain ⟨⟨y, hy, hyz⟩, hall⟩ := addX_mem (ds := ds) (x := z) (l := acc)
    refine ⟨fun y hy => h1 y (hall y hy), fun x hx => ?_⟩
    rcases List.mem_cons.1 hx with rfl | hx
    · refine ⟨y, h1 y hy, ?_⟩
      rcases hyz with h | ⟨e1, e2, e3⟩
      · exact .inl h
      · exact .inr ⟨e1, .inr e2, e3⟩
    · obtain ⟨y', hy', hx'⟩ := h2 x hx
      refine ⟨y', hy', ?_⟩
      rcases hx' with h | ⟨e1, e2, e3⟩
      · exact .inl h
      · by_cases hr : y' ∈ r
        · exact .inr ⟨e1, .inl (List.mem_cons_of_mem _ hr), e3⟩
        · rcases e2 with e2 | e2
          · exact absurd e2 hr
          · -- it came in with z, or was there
            have : y' = z ∨ y' ∈ acc := by
              have key : ∀ {l : List (Nat × St)} {y : Nat × St}, y ∈ addX ds z l → y = z ∨ y ∈ l := by
                intro l
                induction l with
                | nil => intro y hy; simp [addX] at hy; exact .inl hy
                | cons u us ih =>
                  intro y hy
                  unfold addX at hy
                  rw [an_eq] at hy
                  cases hb : (Nat.beq z.1 u.1 && sameX ds z.2 u.2) with
                  | true => rw [hb] at hy; exact .inr hy
                  | false =>
                    rw [hb] at hy
                    simp only [cond_false] at hy
                    rcases List.mem_cons.1 hy with rfl | hy
                    · exact .inr (List.mem_cons_self ..)
                    · rcases ih hy with h | h
                      · exact .inl h
                      · exact .inr (List.mem_cons_of_mem _ h)
              exact key e2
            rcases this with rfl | h
            · exact .inr ⟨e1, .inl (List.mem_cons_self ..), e3⟩
            · exact .inr ⟨e1, .inr h, e3⟩

end
end Go.Proofs.Ytobghgfmdjknlaa.Sx
