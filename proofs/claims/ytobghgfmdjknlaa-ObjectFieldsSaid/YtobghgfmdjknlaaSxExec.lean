/- Symbolic execution: code and calls: what the executor tells is so. -/
import Derived.Test.YtobghgfmdjknlaaSxGc
import Derived.LoopN
namespace Go.Proofs.Ytobghgfmdjknlaa.Sx
open Go
set_option linter.unusedSectionVars false

section
variable {c : Cfg} {F : Wd}

/-- A summary of a function says what its calls do. -/
class SOk (c : Cfg) (F : Wd) : Prop where
  ok : ∀ f tr, c.sum f = some tr → ∀ S args L, tr S args = some L → (∀ v S', (v, S') ∈ L → Unch S S') ∧
    ∀ ρ w vals, SatH c F ρ S w → denL c.P c.Φ ρ args = some vals → ∀ K : Value → World → Prop,
      (∀ v S', (v, S') ∈ L → ∀ ρ' w' x, Le ρ ρ' → SatH c F ρ' S' w' → den c.P c.Φ ρ' v = some x → K x w') →
      ∀ R : Ending → World → Prop, (∀ x w, K x w → R (.returned x) w) → Calls c.P f vals.toArray w R

variable [COk c] [SOk c F]

structure RecOk (c : Cfg) (F : Wd) (k : Nat) (rec : Rec) : Prop where
  code : ∀ cd S L, rec (.code cd) S = some L → ∀ ρ a w, SatH c F ρ S w → SatT c ρ S a → ∀ Q : Exit → Act → World → Prop,
    (∀ e v S', (e, v, S') ∈ L → ∀ ρ' a' w', Le ρ ρ' → SatH c F ρ' S' w' → SatT c ρ' S' a' → Q e a' w') → cd.wp c.P Q a w
  loop : ∀ cd S L, rec (.loop cd) S = some L → ∀ ρ a w, SatH c F ρ S w → SatT c ρ S a → ∀ Q : Exit → Act → World → Prop,
    (∀ e v S', (e, v, S') ∈ L → ∀ ρ' a' w', Le ρ ρ' → SatH c F ρ' S' w' → SatT c ρ' S' a' → Q e a' w') → Code.rounds c.P cd Q k a w
  call : ∀ f args S L, rec (.call f args) S = some L → ∀ ρ w vals, SatH c F ρ S w → denL c.P c.Φ ρ args = some vals → ∀ K : Value → World → Prop,
    (∀ e v S', (e, v, S') ∈ L → ∀ ρ' w' x, Le ρ ρ' → SatH c F ρ' S' w' → den c.P c.Φ ρ' v = some x → K x w') →
    ∀ R : Ending → World → Prop, (∀ x w, K x w → R (.returned x) w) → Calls c.P f vals.toArray w R
  synC : ∀ cd S L, rec (.code cd) S = some L → ∀ e v S', (e, v, S') ∈ L → S'.nt = S.nt ∧ Unch S S'
  synL : ∀ cd S L, rec (.loop cd) S = some L → ∀ e v S', (e, v, S') ∈ L → S'.nt = S.nt ∧ Unch S S'
  synF : ∀ f args S L, rec (.call f args) S = some L → ∀ e v S', (e, v, S') ∈ L → Syn S S'

theorem synT {S S' S'' : St} (h : S'.nt = S.nt ∧ Unch S S') (h' : S''.nt = S'.nt ∧ Unch S' S'') : S''.nt = S.nt ∧ Unch S S'' := ⟨h'.1.trans h.1, h.2.trans h'.2⟩

theorem mem_map3 {L : List (Exit × V × St)} {v : V} {S : St} (h : (v, S) ∈ L.map fun x => (x.2.1, x.2.2)) : ∃ e, (e, v, S) ∈ L := by
  obtain ⟨⟨e, v', S'⟩, hm, he⟩ := List.mem_map.1 h
  simp only [Prod.mk.injEq] at he
  obtain ⟨rfl, rfl⟩ := he
  exact ⟨e, hm⟩

def callOf (rec : Rec) : CallX := fun f args S => (rec (.call f args) S).map fun l => l.map fun (_, v, S) => (v, S)

theorem callOf_ok {k : Nat} {rec : Rec} (h : RecOk c F k rec) : CallOk c F (callOf rec) := by
  intro f args S L hL ρ w vals hs hv K hK R hR
  simp only [callOf, Option.map_eq_some_iff] at hL
  obtain ⟨l, hl, rfl⟩ := hL
  refine h.call f args S l hl ρ w vals hs hv K ?_ R hR
  intro e v S' hm ρ' w' x hle hs' hx
  have hsy := h.synF f args S l hl e v S' hm
  exact hK v S' (List.mem_map.2 ⟨(e, v, S'), hm, rfl⟩) ρ' w' x hle hs' hx hsy.1 hsy.2.1 hsy.2.2
theorem callOf_syn {k : Nat} {rec : Rec} (h : RecOk c F k rec) : CallSyn (callOf rec) := by
  intro f args S L hL v S' hm
  simp only [callOf, Option.map_eq_some_iff] at hL
  obtain ⟨l, hl, rfl⟩ := hL
  obtain ⟨⟨e, v', S''⟩, hm2, he⟩ := List.mem_map.1 hm
  simp only [Prod.mk.injEq] at he
  obtain ⟨rfl, rfl⟩ := he
  exact h.synF f args S l hl e v' S'' hm2

theorem syn_opsX {call : CallX} {ops : Array Oper} (hcall : CallSyn call) {S0 : St} {ds : List Nat} : ∀ (r : List Oper) (nm : Nat) (S : St) (L : List St), (∀ o, o ∈ r → ∀ d, o.dst = some d → d ∈ ds) →
    opsX c call ops r nm S = some L → From S0 ds S → ∀ S', S' ∈ L → From S0 ds S'
  | [], nm, S, L, _, h, hf, S', hm => by
    simp only [opsX, Option.some.injEq] at h
    subst h
    simp only [List.mem_singleton] at hm
    subst hm
    exact hf
  | o :: r, nm, S, L, hd, h, hf, S', hm => by
    simp only [opsX, Option.bind_eq_some_iff] at h
    obtain ⟨L1, h1, h2⟩ := h
    obtain ⟨S1, s, hx, hs, hy⟩ := mem_bindL' h2 S' hm
    exact syn_opsX hcall r (nm + 2) S1 s (fun o ho => hd o (List.mem_cons_of_mem _ ho)) hs (syn_stepX hcall h1 (hd o (by simp)) hf S1 hx) S' hy

/-- The log of a region put before what was written down. -/
theorem from_unch {S S0 S' : St} {ds : List Nat} (h0 : S0.heap = S.heap) (h1 : S0.nt = S.nt) (h : From S0 ds S') : (S'.withLog (S'.log ++ S.log)).nt = S.nt ∧ Unch S (S'.withLog (S'.log ++ S.log)) := by
  refine ⟨h.nt.trans h1, fun n hn => List.mem_append_right _ hn, fun n hn => ?_⟩
  have : n ∉ S'.log := fun e => hn (List.mem_append_left _ e)
  show S'.heap.get n = _
  rw [h.heap n this, h0]

def resRun (a : Act) : ResultVar → Sem Value
  | .tmp t => pure (a.tmps.getD t undef)
  | .cell ad t => do loadVar t (← asAddr (a.tmps.getD ad undef))

theorem run_results {ρ : Env} {S : St} {a : Act} {w : World} (hs : SatH c F ρ S w) (ht : SatT c ρ S a) : ∀ {rs : List ResultVar} {vs : List V}, resultsV c S rs = some vs →
    ∃ xs, denL c.P c.Φ ρ vs = some xs ∧ (rs.mapM (resRun a)).run c.P w = .ok xs w
  | [], vs, h => by simp only [resultsV, Option.some.injEq] at h; subst h; exact ⟨[], rfl, rfl⟩
  | r :: rs, vs, h => by
    simp only [resultsV, Option.bind_eq_some_iff, Option.map_eq_some_iff] at h
    obtain ⟨v, hv, l, hl, rfl⟩ := h
    obtain ⟨xs, h1, h2⟩ := run_results hs ht hl
    have hx : ∃ x, den c.P c.Φ ρ v = some x ∧ (resRun a r).run c.P w = .ok x w := by
      cases r with
      | tmp t =>
        obtain ⟨x, hx1, hx2⟩ := ht.tmps t v hv
        refine ⟨x, hx1, ?_⟩
        simp only [resRun, Array.getD_eq_getD_getElem?, hx2, Option.getD_some]
        rfl
      | cell ad t =>
        simp only [resultV, Option.bind_eq_some_iff] at hv
        obtain ⟨p, hp, hv⟩ := hv
        unfold loadX at hv
        split at hv
        case h_2 => cases hv
        rename_i n off
        rw [Option.bind_eq_some_iff] at hv
        obtain ⟨e, he, hv⟩ := hv
        split at hv
        case h_2 => cases hv
        obtain ⟨y, hy1, hy2⟩ := ht.tmps ad _ hp
        obtain ⟨b, hb, rfl⟩ := den_ptr_inv hy1
        obtain ⟨x, hx1, hx2⟩ := run_loadVar hs he hb hv
        refine ⟨x, hx1, ?_⟩
        simp only [resRun, Array.getD_eq_getD_getElem?, hy2, Option.getD_some]
        have had : (asAddr (.pointer (some ⟨b, off, none⟩))).run c.P w = .ok ⟨b, off, none⟩ w := rfl
        rw [run_bindok had]
        exact hx2
    obtain ⟨x, hx1, hx2⟩ := hx
    refine ⟨x :: xs, by simp [denL, hx1, h1], ?_⟩
    rw [List.mapM_cons, run_bindok hx2, run_bindok h2]
    rfl

theorem results_eq (fn : Func) (a : Act) : results fn a.tmps = (fn.results.mapM (resRun a) >>= fun vs => pure (if h : vs.size = 1 then vs[0] else .tuple vs)) := by
  unfold results
  congr 1

theorem results_run {ρ : Env} {S : St} {a : Act} {w : World} {fn : Func} {vs : List V} (hs : SatH c F ρ S w) (ht : SatT c ρ S a) (h : resultsV c S fn.results.toList = some vs) :
    ∃ x, den c.P c.Φ ρ (match vs with | [v] => v | vs => .tup (chain vs)) = some x ∧ (results fn a.tmps).run c.P w = .ok x w := by
  obtain ⟨xs, h1, h2⟩ := run_results hs ht h
  have hlen := denL_length h1
  have hm : (fn.results.mapM (resRun a)).run c.P w = .ok xs.toArray w := by
    rw [← Array.toArray_toList (xs := fn.results), List.mapM_toArray]
    rw [Sem.run_map, h2]
    rfl
  have hrun : (results fn a.tmps).run c.P w = .ok (if h : xs.toArray.size = 1 then xs.toArray[0] else .tuple xs.toArray) w := by
    rw [results_eq]
    exact run_bindok hm
  refine ⟨_, ?_, hrun⟩
  match vs, xs, h1, hlen with
  | [v], [x], h1, _ =>
    simp only [denL, Option.bind_eq_some_iff, Option.map_eq_some_iff] at h1
    obtain ⟨y, hy, ys, hys, he⟩ := h1
    simp only [List.cons.injEq] at he
    obtain ⟨rfl, _⟩ := he
    simpa using hy
  | [], [], h1, _ => simpa using den_tup h1
  | u :: v :: r, x :: y :: ys, h1, _ =>
    have := den_tup h1
    simpa using this

theorem argTr_get : ∀ (l : List V) (i : Nat) (t : Tr V) (j : Nat), (argTr l i t).get j = if i ≤ j ∧ j < i + l.length then l[j - i]? else t.get j
  | [], i, t, j => by simp [argTr]; omega
  | v :: r, i, t, j => by
    rw [argTr, argTr_get r (i + 1) _ j, Tr.get_set]
    simp only [List.length_cons]
    by_cases h1 : i + 1 ≤ j ∧ j < i + 1 + r.length
    · rw [if_pos h1, if_pos (by omega)]
      obtain ⟨k, rfl⟩ : ∃ k, j = i + 1 + k := ⟨j - (i + 1), by omega⟩
      have e1 : i + 1 + k - (i + 1) = k := by omega
      have e2 : i + 1 + k - i = k + 1 := by omega
      rw [e1, e2, List.getElem?_cons_succ]
    · rw [if_neg h1]
      by_cases h2 : j = i
      · subst h2
        rw [if_pos rfl, if_pos (by omega)]
        simp
      · rw [if_neg h2, if_neg (by omega)]

theorem bfsX_syn {call : CallX} {ops : Array Oper} (hsyn : CallSyn call) {S0 : St} {ds : List Nat} {base : Nat} (hd : ∀ (i : Nat) (o : Oper), ops[i]? = some o → ∀ d, o.dst = some d → d ∈ ds) :
    ∀ (n : Nat) (l : List (Nat × St)) (R : List St), bfsX c call ops (allR ops) ds base n l = some R → (∀ x, x ∈ l → From S0 ds x.2) → ∀ S', S' ∈ R → From S0 ds S'
  | 0, l, R, h, hf, S', hS' => by
    unfold bfsX at h
    obtain ⟨_, h⟩ := bif_none h
    simp only [Option.some.injEq] at h
    subst h
    obtain ⟨x, hx, rfl⟩ := List.mem_map.1 hS'
    exact hf x hx
  | n + 1, l, R, h, hf, S', hS' => by
    unfold bfsX at h
    rw [Option.bind_eq_some_iff] at h
    obtain ⟨L, hL, h⟩ := h
    have hLf : ∀ y, y ∈ L → From S0 ds y.2 := by
      intro y hy
      obtain ⟨x, s, hx, hs, hm⟩ := mem_bindL' hL y hy
      exact expand_syn hsyn hd hs (hf x hx) y hm
    exact bfsX_syn hsyn hd n _ R h (foldl_from (ds := ds) (S0 := S0) L [] hLf (fun y hy => by cases hy)) S' hS'

theorem step_unch {call : CallX} {ops : Array Oper} {o : Oper} (hcall : CallSyn call) {S : St} {nm : Nat} {L : List St} (h : stepX c call ops nm S o = some L) : ∀ S', S' ∈ L → S'.nt = S.nt ∧ Unch S S' := by
  intro S' hm
  have fin : ∀ {S1 : St} {v : V}, S1.nt = S.nt ∧ Unch S S1 → S1.setT o.dst v = some S' → S'.nt = S.nt ∧ Unch S S' := by
    intro S1 v h1 hset
    have hh := setT_heap hset
    refine ⟨hh.2.2.trans h1.1, h1.2.trans ⟨fun n hn => ?_, fun n _ => by rw [hh.1]⟩⟩
    rw [setT_log hset]; exact hn
  simp only [stepX, Option.bind_eq_some_iff] at h
  obtain ⟨ws, hws, h⟩ := h
  obtain ⟨⟨b, S00⟩, L', hmw, h, hm⟩ := mem_bindL' h S' hm
  have hkin := wantedX_kin hws _ hmw
  replace h := bif_some h
  rcases h with ⟨_, h⟩ | ⟨_, h⟩
  · rw [Option.bind_eq_some_iff] at h
    obtain ⟨L1, h1, h2⟩ := h
    obtain ⟨⟨v, S1⟩, s, hx, hfx, hy⟩ := mem_bindL' h2 S' hm
    simp only [Option.map_eq_some_iff] at hfx
    obtain ⟨S2, hset, rfl⟩ := hfx
    simp only [List.mem_singleton] at hy
    subst hy
    have hsyn := syn_opX hcall h1 v S1 hx
    exact fin ⟨hsyn.2.1.trans hkin.nt, hkin.unch.trans hsyn.2.2⟩ hset
  · rw [Option.map_eq_some_iff] at h
    obtain ⟨S2, hset, rfl⟩ := h
    simp only [List.mem_singleton] at hm
    subst hm
    exact fin ⟨hkin.nt, hkin.unch⟩ hset

theorem syn_unch {call : CallX} {ops : Array Oper} (hcall : CallSyn call) : ∀ (r : List Oper) (nm : Nat) (S : St) (L : List St), opsX c call ops r nm S = some L → ∀ S', S' ∈ L → S'.nt = S.nt ∧ Unch S S'
  | [], nm, S, L, h, S', hm => by
    simp only [opsX, Option.some.injEq] at h
    subst h
    simp only [List.mem_singleton] at hm
    subst hm
    exact ⟨rfl, .refl _⟩
  | o :: r, nm, S, L, h, S', hm => by
    simp only [opsX, Option.bind_eq_some_iff] at h
    obtain ⟨L1, h1, h2⟩ := h
    obtain ⟨S1, s, hx, hs, hy⟩ := mem_bindL' h2 S' hm
    exact synT (step_unch hcall h1 S1 hx) (syn_unch hcall r (nm + 2) S1 s hs S' hy)

theorem withTN_heap (S : St) (t : Tr V) (n : Nat) : (S.withTN t n).heap = S.heap ∧ (S.withTN t n).pc = S.pc ∧ (S.withTN t n).log = S.log ∧ (S.withTN t n).tmps = t ∧ (S.withTN t n).nt = n := ⟨rfl, rfl, rfl, rfl, rfl⟩

theorem body_call {k : Nat} {rec : Rec} (h : RecOk c F k rec) {f : FuncId} {fn : Func} {cd : Code} {args : List V} {S : St} {L : List (Exit × V × St)} (hfn : c.P.funcs[f]? = some fn) (hcd : fn.body = some cd) (hL : bodyX c rec fn cd args S = some L)
    {ρ : Env} {w : World} {vals : List Value} (hs : SatH c F ρ S w) (hv : denL c.P c.Φ ρ args = some vals) {K : Value → World → Prop}
    (hK : ∀ e v S', (e, v, S') ∈ L → ∀ ρ' w' x, Le ρ ρ' → SatH c F ρ' S' w' → den c.P c.Φ ρ' v = some x → K x w') {R : Ending → World → Prop} (hR : ∀ x w, K x w → R (.returned x) w) : Calls c.P f vals.toArray w R := by
  unfold bodyX at hL
  obtain ⟨hlen, hL⟩ := bif_none hL
  simp only [Option.bind_eq_some_iff] at hL
  obtain ⟨l, hl, hL⟩ := hL
  have hvl := denL_length hv
  refine calls_of_wp hfn hcd ?_
  refine h.code cd _ l hl ρ _ w (hs.congr rfl rfl) ?_ _ ?_
  · refine ⟨rfl, ?_, ?_⟩
    · have := bleT hlen
      show (vals.toArray ++ Array.replicate (fn.ntmps - vals.toArray.size) undef).size = fn.ntmps
      simp [hvl]
      omega
    · intro i v hg
      replace hg : (argTr args 0 .leaf).get i = some v := hg
      rw [argTr_get] at hg
      split at hg
      · rename_i hi
        simp only [Nat.sub_zero] at hg
        obtain ⟨x, hx1, hx2⟩ := denL_get hv hg
        refine ⟨x, hx1, ?_⟩
        show (vals.toArray ++ Array.replicate (fn.ntmps - vals.toArray.size) undef)[i]? = some x
        have hlt : i < vals.toArray.size := by rw [List.size_toArray, hvl]; omega
        rw [Array.getElem?_append_left hlt]
        simpa using hx2
      · cases hg
  · intro e v S' hm ρ' a' w' hle hs' ht'
    obtain ⟨s, hsx, hsub⟩ := mem_bindL hL _ hm
    have fin : (resultsV c S' fn.results.toList).map (fun vs => [(Exit.ret, (match vs with | [v] => v | vs => .tup (chain vs)), S'.withTN S.tmps S.nt)]) = some s → ∃ v, (results fn a'.tmps).run c.P w' = .ok v w' ∧ R (.returned v) w' := by
      intro hres
      rw [Option.map_eq_some_iff] at hres
      obtain ⟨vs, hvs, rfl⟩ := hres
      obtain ⟨x, hx1, hx2⟩ := results_run hs' ht' hvs
      exact ⟨x, hx2, hR x w' (hK .ret _ _ (hsub _ (List.mem_singleton_self _)) ρ' w' x hle (hs'.congr rfl rfl) hx1)⟩
    cases e with
    | normal => exact ⟨ht'.defers, fin hsx⟩
    | ret => exact ⟨ht'.defers, fin hsx⟩
    | _ => cases hsx

theorem body_syn {k : Nat} {rec : Rec} (h : RecOk c F k rec) {fn : Func} {cd : Code} {args : List V} {S : St} {L : List (Exit × V × St)} (hL : bodyX c rec fn cd args S = some L) : ∀ e v S', (e, v, S') ∈ L → Syn S S' := by
  intro e v S' hm
  unfold bodyX at hL
  obtain ⟨_, hL⟩ := bif_none hL
  simp only [Option.bind_eq_some_iff] at hL
  obtain ⟨l, hl, hL⟩ := hL
  obtain ⟨⟨e1, v1, S1⟩, s, hx, hs, hy⟩ := mem_bindL' hL _ hm
  have h1 := (h.synC _ _ l hl e1 v1 S1 hx).2
  have fin : ∀ {fn : Func}, (resultsV c S1 fn.results.toList).map (fun vs => [(Exit.ret, (match vs with | [v] => v | vs => .tup (chain vs)), S1.withTN S.tmps S.nt)]) = some s → Syn S S' := by
    intro fn hres
    rw [Option.map_eq_some_iff] at hres
    obtain ⟨vs, hvs, rfl⟩ := hres
    simp only [List.mem_singleton, Prod.mk.injEq] at hy
    obtain ⟨_, _, rfl⟩ := hy
    exact ⟨rfl, rfl, h1⟩
  cases e1 with
  | normal => exact fin hs
  | ret => exact fin hs
  | _ => cases hs

/-- One level more of the executor. -/
theorem execF_ok {k : Nat} {rec : Rec} (h : RecOk c F k rec) : RecOk c F (k + 1) (execF c rec) where
  code := by
    intro cd S L hL ρ a w hs ht Q hQ
    have hcall := callOf_ok h
    have hsyn := callOf_syn h
    unfold execF at hL
    cases cd with
    | skip =>
      simp only [Option.some.injEq] at hL; subst hL
      exact wp_skip (hQ .normal .nil S (by simp) ρ a w (Le.refl ρ) hs ht)
    | label l =>
      simp only [Option.some.injEq] at hL; subst hL
      exact wp_label (hQ .normal .nil S (by simp) ρ a w (Le.refl ρ) hs ht)
    | exit id =>
      simp only [Option.some.injEq] at hL; subst hL
      exact wp_exit (hQ (.exit id) .nil S (by simp) ρ a w (Le.refl ρ) hs ht)
    | ret =>
      simp only [Option.some.injEq] at hL; subst hL
      exact wp_ret (hQ .ret .nil S (by simp) ρ a w (Le.refl ρ) hs ht)
    | region id ops draw =>
      have hdst : ∀ (i : Nat) (o : Oper), ops[i]? = some o → ∀ d, o.dst = some d → d ∈ ops.toList.filterMap (·.dst) := by
        intro i o ho d hd
        rw [List.mem_filterMap]
        exact ⟨o, List.mem_of_getElem? (by simpa using ho), hd⟩
      have hs0 : SatH c F ρ (S.withNext (S.next + 2 * ops.size)) w := hs.congr rfl rfl
      have ht0 : SatT c ρ (S.withNext (S.next + 2 * ops.size)) a := ht.congr rfl rfl
      cases draw with
      | false =>
        simp only [Option.map_eq_some_iff] at hL
        obtain ⟨l, hl, rfl⟩ := hL
        refine wp_region ?_
        have := opsX_sound (Q := Q) hcall ops.toList 0 S.next ρ _ a w l (ops.toList.filterMap (·.dst)) (fun j => by simp) (fun o ho d hd => List.mem_filterMap.2 ⟨o, ho, hd⟩) hs0 ht0 hl ?_
        · rw [Array.length_toList] at this
          rw [List.range_eq_range']
          exact this
        · intro S' hm ρ' a' w' hle hs' ht' _ _ _
          exact hQ .normal .nil S' (List.mem_map.2 ⟨S', hm, rfl⟩) ρ' a' w' hle hs' ht'
      | true =>
        simp only [Option.map_eq_some_iff] at hL
        obtain ⟨l, hl, rfl⟩ := hL
        refine wp_mono (Q := noPanic Q) ?_ (fun e a w h => by cases e <;> first | exact h | exact absurd h (fun x => x))
        refine wp_region_any COk.mixed ?_
        have hb := (bfsX_sound (Q := noPanic Q) (fun _ _ _ h => h) (S0 := (S.withNext (S.next + 2 * ops.size)).withLog []) (ds := ops.toList.filterMap (·.dst)) (base := S.next) hcall hsyn hdst ops.size
          [(0, (S.withNext (S.next + 2 * ops.size)).withLog [])] l hl (by
            intro x hx
            simp only [List.mem_singleton] at hx
            subst hx
            exact ⟨rfl, fun _ _ => rfl, fun _ _ => rfl⟩)).2
        refine hb (0, (S.withNext (S.next + 2 * ops.size)).withLog []) (by simp) _ ρ a _ ⟨by simp, fun i => ?_⟩ ((hs0.congr (S' := (S.withNext (S.next + 2 * ops.size)).withLog []) rfl rfl).drew _) (ht0.congr (S' := (S.withNext (S.next + 2 * ops.size)).withLog []) rfl rfl) ?_
        · rw [Nat.zero_testBit, Array.getD_eq_getD_getElem?, Array.getElem?_replicate]
          split <;> rfl
        · intro S' hm ρ' a' w' hle hs' ht'
          exact hQ .normal .nil _ (List.mem_map.2 ⟨S', hm, rfl⟩) ρ' a' w' hle (hs'.congr rfl rfl) (ht'.congr rfl rfl)
    | seq x y =>
      simp only [Option.bind_eq_some_iff] at hL
      obtain ⟨l, hl, hL⟩ := hL
      refine wp_seq (h.code x S l hl ρ a w hs ht _ ?_)
      intro e v S' hm ρ' a' w' hle hs' ht'
      obtain ⟨s, hsx, hsub⟩ := mem_bindL hL _ hm
      cases e with
      | normal =>
        exact h.code y S' s hsx ρ' a' w' hs' ht' Q (fun e2 v2 S2 hm2 ρ2 a2 w2 hle2 => hQ e2 v2 S2 (hsub _ hm2) ρ2 a2 w2 (hle.trans hle2))
      | _ =>
        simp only [Option.some.injEq] at hsx
        subst hsx
        exact hQ _ v S' (hsub _ (by simp)) ρ' a' w' hle hs' ht'
    | cond x y z =>
      simp only [Option.bind_eq_some_iff] at hL
      obtain ⟨v, hv, l, hl, hL⟩ := hL
      have hx := eval_den (c := c) ht hv
      obtain ⟨b, S', hb, hm, hs', hk⟩ := splitX_ok hs hx hl
      obtain ⟨s, hsx, hsub⟩ := mem_bindL hL _ hm
      cases b with
      | true => exact wp_cond_true hb (h.code y S' s hsx ρ a w hs' (ht.kin hk) Q (fun e v S2 hm2 => hQ e v S2 (hsub _ hm2)))
      | false => exact wp_cond_false hb (h.code z S' s hsx ρ a w hs' (ht.kin hk) Q (fun e v S2 hm2 => hQ e v S2 (hsub _ hm2)))
    | block id b =>
      simp only [Option.map_eq_some_iff] at hL
      obtain ⟨l, hl, rfl⟩ := hL
      refine wp_block (h.code b S l hl ρ a w hs ht _ ?_)
      intro e v S' hm ρ' a' w' hle hs' ht'
      have hm2 := List.mem_map_of_mem (f := fun (x : Exit × V × St) => match x with | (.exit i, v, S) => bif Nat.beq i id then (Exit.normal, v, S) else (.exit i, v, S) | x => x) hm
      cases e with
      | exit i =>
        simp only [Exit.inBlock]
        simp only at hm2
        by_cases hi : i = id
        · subst hi
          rw [if_pos rfl]
          rw [Nat.beq_refl] at hm2
          exact hQ .normal v S' hm2 ρ' a' w' hle hs' ht'
        · rw [if_neg hi]
          rw [Tr.beq_false hi] at hm2
          exact hQ (.exit i) v S' hm2 ρ' a' w' hle hs' ht'
      | _ => exact hQ _ v S' hm2 ρ' a' w' hle hs' ht'
    | loop b =>
      exact wp_loop_rounds k (h.loop b S L hL ρ a w hs ht Q hQ)
    | _ => cases hL
  loop := by
    intro cd S L hL ρ a w hs ht Q hQ
    unfold execF at hL
    simp only [Option.bind_eq_some_iff] at hL
    obtain ⟨l, hl, hL⟩ := hL
    rw [rounds_succ]
    refine h.code cd S l hl ρ a w hs ht _ ?_
    intro e v S' hm ρ' a' w' hle hs' ht'
    obtain ⟨s, hsx, hsub⟩ := mem_bindL hL _ hm
    cases e with
    | normal =>
      exact h.loop cd S' s hsx ρ' a' w' hs' ht' Q (fun e2 v2 S2 hm2 ρ2 a2 w2 hle2 => hQ e2 v2 S2 (hsub _ hm2) ρ2 a2 w2 (hle.trans hle2))
    | _ =>
      simp only [Option.some.injEq] at hsx
      subst hsx
      exact hQ _ v S' (hsub _ (by simp)) ρ' a' w' hle hs' ht'
  call := by
    intro f args S L hL ρ w vals hs hv K hK R hR
    unfold execF at hL
    simp only at hL
    split at hL
    · rename_i l hl
      simp only [Option.bind_eq_some_iff] at hl
      obtain ⟨tr, htr, hl⟩ := hl
      simp only [Option.some.injEq] at hL
      subst hL
      obtain ⟨_, h2⟩ := SOk.ok (F := F) f tr htr S args l hl
      refine h2 ρ w vals hs hv K ?_ R hR
      intro v S' hm ρ' w' x hle hs' hx
      exact hK .ret v _ (List.mem_map.2 ⟨(v, S'), hm, rfl⟩) ρ' w' x hle (hs'.congr rfl rfl) hx
    · split at hL
      · cases hL
      rename_i fn hfn
      obtain ⟨hfn, _⟩ := fn_spec hfn
      split at hL
      · cases hL
      rename_i cd hcd
      split at hL
      · exact body_call h hfn hcd hL hs hv hK hR
      · rename_i drop _
        rw [Option.map_eq_some_iff] at hL
        obtain ⟨l, hl, rfl⟩ := hL
        have hs1 : SatH c F ρ (S.withLog []) w := hs.congr rfl rfl
        exact body_call h hfn hcd hl hs1 hv (gcL_ok hs (fun x hx => (body_syn h hl x.1 x.2.1 x.2.2 hx).2.2) hK) hR
  synC := by
    intro cd S L hL e v S' hm
    have hsyn := callOf_syn h
    unfold execF at hL
    cases cd with
    | skip => simp only [Option.some.injEq] at hL; subst hL; simp only [List.mem_singleton, Prod.mk.injEq] at hm; obtain ⟨_, _, rfl⟩ := hm; exact ⟨rfl, .refl _⟩
    | label l => simp only [Option.some.injEq] at hL; subst hL; simp only [List.mem_singleton, Prod.mk.injEq] at hm; obtain ⟨_, _, rfl⟩ := hm; exact ⟨rfl, .refl _⟩
    | exit id => simp only [Option.some.injEq] at hL; subst hL; simp only [List.mem_singleton, Prod.mk.injEq] at hm; obtain ⟨_, _, rfl⟩ := hm; exact ⟨rfl, .refl _⟩
    | ret => simp only [Option.some.injEq] at hL; subst hL; simp only [List.mem_singleton, Prod.mk.injEq] at hm; obtain ⟨_, _, rfl⟩ := hm; exact ⟨rfl, .refl _⟩
    | region id ops draw =>
      have hdst : ∀ (i : Nat) (o : Oper), ops[i]? = some o → ∀ d, o.dst = some d → d ∈ ops.toList.filterMap (·.dst) := by
        intro i o ho d hd
        rw [List.mem_filterMap]
        exact ⟨o, List.mem_of_getElem? (by simpa using ho), hd⟩
      cases draw with
      | false =>
        simp only [Option.map_eq_some_iff] at hL
        obtain ⟨l, hl, rfl⟩ := hL
        obtain ⟨S1, hx, he⟩ := List.mem_map.1 hm
        simp only [Prod.mk.injEq] at he
        obtain ⟨_, _, rfl⟩ := he
        have := syn_unch hsyn ops.toList S.next _ l hl S1 hx
        exact ⟨this.1, this.2⟩
      | true =>
        simp only [Option.map_eq_some_iff] at hL
        obtain ⟨l, hl, rfl⟩ := hL
        obtain ⟨S1, hx, he⟩ := List.mem_map.1 hm
        simp only [Prod.mk.injEq] at he
        obtain ⟨_, _, rfl⟩ := he
        have := bfsX_syn (S0 := (S.withNext (S.next + 2 * ops.size)).withLog []) (ds := ops.toList.filterMap (·.dst)) (base := S.next) hsyn hdst ops.size
          [(0, (S.withNext (S.next + 2 * ops.size)).withLog [])] l hl (by
            intro x hx
            simp only [List.mem_singleton] at hx
            subst hx
            exact ⟨rfl, fun _ _ => rfl, fun _ _ => rfl⟩) S1 hx
        exact from_unch (S := S) (S0 := (S.withNext (S.next + 2 * ops.size)).withLog []) rfl rfl this
    | seq x y =>
      simp only [Option.bind_eq_some_iff] at hL
      obtain ⟨l, hl, hL⟩ := hL
      obtain ⟨⟨e1, v1, S1⟩, s, hx, hs, hy⟩ := mem_bindL' hL _ hm
      have h1 := h.synC x S l hl e1 v1 S1 hx
      cases e1 with
      | normal => exact synT h1 (h.synC y S1 s hs e v S' hy)
      | _ => simp only [Option.some.injEq] at hs; subst hs; simp only [List.mem_singleton, Prod.mk.injEq] at hy; obtain ⟨_, _, rfl⟩ := hy; exact h1
    | cond x y z =>
      simp only [Option.bind_eq_some_iff] at hL
      obtain ⟨u, hu, l, hl, hL⟩ := hL
      obtain ⟨⟨b, S1⟩, s, hx, hs, hy⟩ := mem_bindL' hL _ hm
      have hk := splitX_kin hl _ hx
      cases b with
      | true => exact synT ⟨hk.nt, hk.unch⟩ (h.synC y S1 s hs e v S' hy)
      | false => exact synT ⟨hk.nt, hk.unch⟩ (h.synC z S1 s hs e v S' hy)
    | block id b =>
      simp only [Option.map_eq_some_iff] at hL
      obtain ⟨l, hl, rfl⟩ := hL
      obtain ⟨⟨e1, v1, S1⟩, hx, he⟩ := List.mem_map.1 hm
      have h1 := h.synC b S l hl e1 v1 S1 hx
      cases e1 with
      | exit i =>
        simp only at he
        cases hi : Nat.beq i id with
        | true => rw [hi] at he; simp only [cond_true, Prod.mk.injEq] at he; obtain ⟨_, _, rfl⟩ := he; exact h1
        | false => rw [hi] at he; simp only [cond_false, Prod.mk.injEq] at he; obtain ⟨_, _, rfl⟩ := he; exact h1
      | _ => simp only [Prod.mk.injEq] at he; obtain ⟨_, _, rfl⟩ := he; exact h1
    | loop b => exact h.synL b S L hL e v S' hm
    | _ => cases hL
  synL := by
    intro cd S L hL e v S' hm
    unfold execF at hL
    simp only [Option.bind_eq_some_iff] at hL
    obtain ⟨l, hl, hL⟩ := hL
    obtain ⟨⟨e1, v1, S1⟩, s, hx, hs, hy⟩ := mem_bindL' hL _ hm
    have h1 := h.synC cd S l hl e1 v1 S1 hx
    cases e1 with
    | normal => exact synT h1 (h.synL cd S1 s hs e v S' hy)
    | _ => simp only [Option.some.injEq] at hs; subst hs; simp only [List.mem_singleton, Prod.mk.injEq] at hy; obtain ⟨_, _, rfl⟩ := hy; exact h1
  synF := by
    intro f args S L hL e v S' hm
    unfold execF at hL
    simp only at hL
    split at hL
    · rename_i l hl
      simp only [Option.bind_eq_some_iff] at hl
      obtain ⟨tr, htr, hl⟩ := hl
      simp only [Option.some.injEq] at hL
      subst hL
      obtain ⟨⟨v1, S1⟩, hx, he⟩ := List.mem_map.1 hm
      simp only [Prod.mk.injEq] at he
      obtain ⟨_, _, rfl⟩ := he
      have := (SOk.ok (F := F) f tr htr S args l hl).1 v1 S1 hx
      exact ⟨rfl, rfl, this⟩
    · split at hL
      · cases hL
      split at hL
      · cases hL
      split at hL
      · exact body_syn h hL e v S' hm
      · rw [Option.map_eq_some_iff] at hL
        obtain ⟨l, hl, rfl⟩ := hL
        exact gcL_syn (fun x hx => body_syn h hl x.1 x.2.1 x.2.2 hx) e v S' hm

/-- WHAT THE EXECUTOR TELLS IS SO. -/
theorem exec_ok : ∀ n, RecOk c F n (exec c n)
  | 0 => ⟨fun _ _ _ h => by simp [exec] at h, fun _ _ _ h => by simp [exec] at h, fun _ _ _ _ h => by simp [exec] at h, fun _ _ _ h => by simp [exec] at h, fun _ _ _ h => by simp [exec] at h, fun _ _ _ _ h => by simp [exec] at h⟩
  | n + 1 => execF_ok (exec_ok n)

end
end Go.Proofs.Ytobghgfmdjknlaa.Sx
