/- Symbolic execution: what an operation leaves of a state, by its text alone. -/
import Derived.Test.YtobghgfmdjknlaaSxRegion
namespace Go.Proofs.Ytobghgfmdjknlaa.Sx
open Go
set_option linter.unusedSectionVars false

section
variable {c : Cfg} [COk c] {call : CallX} {ops : Array Oper} {o : Oper}

def Syn (S S' : St) : Prop := S'.tmps = S.tmps ∧ S'.nt = S.nt ∧ Unch S S'
theorem Syn.refl (S : St) : Syn S S := ⟨rfl, rfl, Unch.refl S⟩
theorem Syn.put (S : St) (n : Nat) (e : Ent) : Syn S (S.put n e) := ⟨rfl, rfl, Unch.put S n e⟩
theorem Syn.trans {S S' S'' : St} (h : Syn S S') (h' : Syn S' S'') : Syn S S'' := ⟨h'.1.trans h.1, h'.2.1.trans h.2.1, h.2.2.trans h'.2.2⟩
def SynL (S : St) (L : List (V × St)) : Prop := ∀ v S', (v, S') ∈ L → Syn S S'
def CallSyn (call : CallX) : Prop := ∀ f args S L, call f args S = some L → SynL S L

theorem SynL.one {S S' : St} {v : V} (h : Syn S S') : SynL S [(v, S')] := by
  intro u T hm
  simp only [List.mem_singleton, Prod.mk.injEq] at hm
  obtain ⟨rfl, rfl⟩ := hm
  exact h
theorem synOne {S : St} {x : Option V} {L : List (V × St)} (h : x.bind (one S) = some L) : SynL S L := by
  obtain ⟨v, _, rfl⟩ := bindOne h
  exact .one (.refl S)
theorem synOne' {S : St} {v : V} {L : List (V × St)} (h : one S v = some L) : SynL S L := by
  obtain rfl := oneInj h
  exact .one (.refl S)
theorem Kin.syn {S S' : St} (h : Kin S S') : Syn S S' := ⟨h.tmps, h.nt, h.unch⟩
theorem syn_alloc {S S' : St} {nm : Nat} {cells : List V} {T : TypeId} (h : alloc S nm cells T = some S') : Syn S S' := by
  unfold alloc at h
  obtain ⟨_, h⟩ := bif_none h
  simp only [Option.some.injEq] at h
  subst h
  exact .put _ _ _

theorem SynL.kin {S S1 : St} {M : List (V × St)} (h : SynL S1 M) (hk : Kin S S1) : SynL S M := fun u T hm => hk.syn.trans (h u T hm)
theorem syn_quo {S : St} {nm : Nat} {u v : V} {L : List (V × St)} (h : quoX c nm S u v = some L) : SynL S L := by
  unfold quoX at h
  simp only [Option.bind_eq_some_iff] at h
  obtain ⟨p, _, q, _, h⟩ := h
  obtain ⟨_, h⟩ := bif_none h
  simp only [Option.bind_eq_some_iff] at h
  obtain ⟨l, hl, h⟩ := h
  intro r T hm
  obtain ⟨⟨z, S1⟩, s, hx, hs, hy⟩ := mem_bindL' h _ hm
  have hk1 := splitX_kin hl _ hx
  refine SynL.kin ?_ hk1 r T hy
  cases z with
  | false => simp only [cond_false, Option.some.injEq] at hs; subst hs; exact .one (.refl _)
  | true =>
    simp only [cond_true, Option.bind_eq_some_iff] at hs
    obtain ⟨l2, hl2, hs⟩ := hs
    intro r T hm
    obtain ⟨⟨z, S2⟩, s2, hx2, hs2, hy2⟩ := mem_bindL' hs _ hm
    refine SynL.kin ?_ (splitX_kin hl2 _ hx2) r T hy2
    cases z with
    | true =>
      simp only [cond_true] at hs2
      obtain ⟨_, hs2⟩ := bif_none hs2
      simp only [Option.some.injEq] at hs2; subst hs2
      exact .one (.put _ _ _)
    | false =>
      simp only [cond_false, Option.map_eq_some_iff] at hs2
      obtain ⟨l3, hl3, rfl⟩ := hs2
      intro r T hm
      obtain ⟨x, hx3, he⟩ := List.mem_map.1 hm
      simp only [Prod.mk.injEq] at he
      obtain ⟨_, rfl⟩ := he
      exact (splitX_kin hl3 _ hx3).syn
theorem syn_cat {S : St} {t : TypeId} {u v : V} {L : List (V × St)} (h : catX c S t u v = some L) : SynL S L := by
  unfold catX at h
  split at h
  · obtain ⟨_, h⟩ := bif_none h; exact synOne' h
  · cases h
theorem syn_neg {S : St} {u : V} {L : List (V × St)} (h : negX c S u = some L) : SynL S L := by
  unfold negX at h
  replace h := bif_some h
  rcases h with ⟨_, h⟩ | ⟨_, h⟩
  · cases h
  rw [Option.bind_eq_some_iff] at h
  obtain ⟨p, hp, h⟩ := h
  obtain ⟨_, h⟩ := bif_none h
  rw [Option.map_eq_some_iff] at h
  obtain ⟨l, hl, rfl⟩ := h
  intro r T hm
  obtain ⟨x, hx3, he⟩ := List.mem_map.1 hm
  simp only [Prod.mk.injEq] at he
  obtain ⟨_, rfl⟩ := he
  exact (splitX_kin hl _ hx3).syn
theorem syn_mm {S : St} {mx : Bool} {t : TypeId} {vs : List V} {L : List (V × St)} (h : xMM c S mx t vs = some L) : SynL S L := by
  unfold xMM at h
  split at h
  · exact synOne' h
  split at h
  case h_2 => cases h
  have key : ∀ {e p q : V}, (splitX c S e).map (fun l => l.map fun (x : Bool × St) => (canonX c x.2 (bif x.1 == mx then p else q), x.2)) = some L → SynL S L := by
    intro e p q h
    rw [Option.map_eq_some_iff] at h
    obtain ⟨l, hl, rfl⟩ := h
    intro r T hm
    obtain ⟨x, hx3, he⟩ := List.mem_map.1 hm
    simp only [Prod.mk.injEq] at he
    obtain ⟨_, rfl⟩ := he
    exact (splitX_kin hl _ hx3).syn
  unfold mmX at h
  dsimp only at h
  split at h
  · obtain ⟨_, h⟩ := bif_none h
    exact key h
  · obtain ⟨_, h⟩ := bif_none h
    exact key h

theorem syn_append {S S' : St} {nm sT : Nat} {s x v : V} (h : appendX c nm S sT s x = some (v, S')) : Syn S S' := by
  have grow : ∀ {g : Bool} {S1 : St} {e1 e2 : Ent} {n1 n2 : Nat} {u : V}, (bif g then some (u, (S1.put n1 e1).put n2 e2) else none) = some (v, S') → Syn S1 S' := by
    intro g S1 e1 e2 n1 n2 u h
    obtain ⟨_, h⟩ := bif_none h
    simp only [Option.some.injEq, Prod.mk.injEq] at h
    obtain ⟨_, rfl⟩ := h
    exact (Syn.put _ _ _).trans (Syn.put _ _ _)
  unfold appendX at h
  split at h
  case h_2 => cases h
  simp only [Option.bind_eq_some_iff] at h
  obtain ⟨size, _, bytes, _, ⟨n, new⟩, _, h⟩ := h
  split at h
  · replace h := bif_some h
    rcases h with ⟨_, h⟩ | ⟨_, h⟩
    · simp only [Option.some.injEq, Prod.mk.injEq] at h
      obtain ⟨_, rfl⟩ := h
      exact .refl _
    · exact grow h
  · simp only [Option.bind_eq_some_iff] at h
    obtain ⟨len, _, e, _, h⟩ := h
    split at h
    case h_2 => cases h
    replace h := bif_some h
    rcases h with ⟨_, h⟩ | ⟨_, h⟩
    · cases h
    split at h
    · replace h := bif_some h
      rcases h with ⟨_, h⟩ | ⟨_, h⟩
      · obtain ⟨_, h⟩ := bif_none h
        simp only [Option.some.injEq, Prod.mk.injEq] at h
        obtain ⟨_, rfl⟩ := h
        exact .put _ _ _
      · exact grow h
    · split at h
      case h_2 => cases h
      obtain ⟨_, h⟩ := bif_none h
      exact (Syn.put _ _ _).trans (grow h)
    · cases h
  · cases h

theorem syn_callF (hcall : CallSyn call) {S : St} {f : FuncId} {args : List V} {L : List (V × St)} (h : callF c call S f args = some L) : SynL S L := by
  unfold callF at h
  split at h
  · split at h
    · simp only [Option.map_eq_some_iff] at h
      obtain ⟨x, _, rfl⟩ := h
      exact .one (.refl S)
    · simp only [Option.map_eq_some_iff] at h
      obtain ⟨x, _, rfl⟩ := h
      exact .one (.refl S)
  · split at h
    · cases h
    · split at h
      · cases h
      · exact hcall _ _ _ _ h
theorem syn_callM (hcall : CallSyn call) {S : St} {recv : V} {name : String} {args : List V} {L : List (V × St)} (h : callM c call S recv name args = some L) : SynL S L := by
  simp only [callM, Option.bind_eq_some_iff] at h
  obtain ⟨⟨t, v⟩, _, f, _, h⟩ := h
  exact syn_callF hcall h
theorem syn_callV (hcall : CallSyn call) {S : St} {fv : V} {args : List V} {L : List (V × St)} (h : callV c call S fv args = some L) : SynL S L := by
  unfold callV at h
  split at h
  · exact syn_callF hcall h
  · simp only [Option.bind_eq_some_iff] at h
    obtain ⟨_, _, _, _, h⟩ := h
    exact syn_callF hcall h
  · simp only [Option.bind_eq_some_iff] at h
    obtain ⟨_, _, h⟩ := h
    split at h
    · exact syn_callM hcall h
    · cases h
  · cases h

theorem syn_opX (hcall : CallSyn call) {S : St} {nm : Nat} {L : List (V × St)} (h : opX c call nm S o = some L) : SynL S L := by
  unfold opX at h
  split at h
  · exact synOne h
  · exact synOne h
  · simp only [xPick, Option.bind_eq_some_iff] at h
    obtain ⟨v, _, l, hl, h⟩ := h
    intro u T hm
    obtain ⟨⟨b, S1⟩, s, hx, hs, hy⟩ := mem_bindL' h _ hm
    have hk := splitX_kin hl _ hx
    have one : ∀ {x : Option V}, x.bind (one S1) = some s → Syn S T := by
      intro x hx
      obtain ⟨u', _, rfl⟩ := bindOne hx
      simp only [List.mem_singleton, Prod.mk.injEq] at hy
      obtain ⟨_, rfl⟩ := hy
      exact hk.syn
    cases b
    · exact one hs
    · exact one hs
  · simp only [xAlloc, Option.bind_eq_some_iff, Option.map_eq_some_iff] at h
    obtain ⟨_, _, S', hS, rfl⟩ := h
    exact .one (syn_alloc hS)
  · simp only [xBox, Option.bind_eq_some_iff, Option.map_eq_some_iff] at h
    obtain ⟨_, _, _, _, S', hS, rfl⟩ := h
    exact .one (syn_alloc hS)
  · simp only [xBuild, Option.bind_eq_some_iff] at h
    obtain ⟨_, _, _, _, h⟩ := h
    split at h
    · simp only [Option.bind_eq_some_iff] at h
      obtain ⟨_, _, _, _, h⟩ := h
      exact synOne' h
    · simp only [Option.bind_eq_some_iff] at h
      obtain ⟨_, _, _, _, h⟩ := h
      exact synOne' h
    · cases h
  · unfold xBuildSlice at h
    split at h
    · simp only [Option.bind_eq_some_iff] at h
      obtain ⟨_, _, _, _, _, _, h⟩ := h
      obtain ⟨_, h⟩ := bif_none h
      simp only [Option.bind_eq_some_iff, Option.map_eq_some_iff] at h
      obtain ⟨_, _, S', hS, rfl⟩ := h
      exact .one (syn_alloc hS)
    · cases h
  · simp only [xLoad, Option.bind_eq_some_iff] at h
    obtain ⟨_, _, _, _, h⟩ := h
    exact synOne' h
  · simp only [xStore, Option.bind_eq_some_iff] at h
    obtain ⟨_, _, _, _, _, _, h⟩ := h
    split at h
    · simp only [Option.bind_eq_some_iff] at h
      obtain ⟨_, _, h⟩ := h
      split at h
      · simp only [Option.bind_eq_some_iff] at h
        obtain ⟨_, _, h⟩ := h
        obtain ⟨_, h⟩ := bif_none h
        simp only [Option.some.injEq] at h
        subst h
        exact .one (.put _ _ _)
      · cases h
    · cases h
  · simp only [xNilCheck, Option.bind_eq_some_iff] at h
    obtain ⟨_, _, h⟩ := h
    split at h <;> first | exact synOne' h | cases h
  · simp only [xBin, Option.bind_eq_some_iff] at h
    obtain ⟨_, _, _, _, h⟩ := h
    split at h
    · simp only [Option.bind_eq_some_iff] at h
      obtain ⟨_, _, h⟩ := h
      exact synOne' h
    · split at h
      · exact synOne' h
      · replace h := bif_some h
        rcases h with ⟨_, h⟩ | ⟨_, h⟩
        · unfold aggEqX at h
          replace h := bif_some h
          rcases h with ⟨_, h⟩ | ⟨_, h⟩
          · cases h
          simp only [Option.bind_eq_some_iff] at h
          obtain ⟨fl, _, r, hr, h⟩ := h
          intro u T hm
          obtain ⟨⟨b, S1⟩, s, hx, hs, hy⟩ := mem_bindL' h _ hm
          simp only [Option.map_eq_some_iff] at hs
          obtain ⟨_, _, rfl⟩ := hs
          simp only [List.mem_singleton, Prod.mk.injEq] at hy
          obtain ⟨_, rfl⟩ := hy
          exact (allX_kin hr _ hx).syn
        split at h
        · rename_i r hr
          simp only [Option.some.injEq] at h; subst h
          split at hr
          · split at hr
            · exact synOne' hr
            · exact syn_quo hr
          · exact syn_cat hr
          · cases hr
        unfold nanX at h
        split at h
        · obtain ⟨_, h⟩ := bif_none h
          simp only [Option.some.injEq] at h
          subst h
          exact .one (.put _ _ _)
        · simp only [Option.bind_eq_some_iff] at h
          obtain ⟨_, _, _, _, h⟩ := h
          obtain ⟨_, h⟩ := bif_none h
          replace h := bif_some h
          rcases h with ⟨_, h⟩ | ⟨_, h⟩
          · obtain ⟨_, h⟩ := bif_none h
            simp only [Option.some.injEq] at h
            subst h
            exact .one (.put _ _ _)
          simp only [Option.bind_eq_some_iff] at h
          obtain ⟨_, _, h⟩ := h
          exact synOne' h
  · simp only [xUn, Option.bind_eq_some_iff] at h
    obtain ⟨_, _, h⟩ := h
    split at h
    · rename_i r hr
      simp only [Option.some.injEq] at h; subst h
      split at hr
      · exact syn_neg hr
      · cases hr
    · exact synOne h
  · simp only [xConvert, Option.bind_eq_some_iff] at h
    obtain ⟨_, _, h⟩ := h
    split at h
    · exact synOne' h
    · simp only [Option.bind_eq_some_iff] at h
      obtain ⟨_, _, _, _, _, _, h⟩ := h
      split at h
      · obtain ⟨_, h⟩ := bif_none h
        simp only [Option.bind_eq_some_iff] at h
        obtain ⟨_, _, h⟩ := h
        exact synOne' h
      · cases h
    · split at h
      · exact synOne' h
      · exact synOne h
  · simp only [xMakeInterface, Option.bind_eq_some_iff] at h
    obtain ⟨_, _, h⟩ := h
    split at h <;> first | exact synOne' h | cases h
  · simp only [xMakeFunc, Option.bind_eq_some_iff] at h
    obtain ⟨_, _, _, _, h⟩ := h
    exact synOne' h
  · simp only [xSlice, Option.bind_eq_some_iff] at h
    obtain ⟨_, _, h⟩ := h
    split at h
    · simp only [Option.bind_eq_some_iff] at h
      obtain ⟨_, _, h⟩ := h
      split at h
      · simp only [Option.bind_eq_some_iff] at h
        obtain ⟨_, _, _, _, _, _, h⟩ := h
        split at h
        · obtain ⟨_, h⟩ := bif_none h
          exact synOne' h
        · cases h
      · cases h
    · split at h
      · simp only [Option.bind_eq_some_iff] at h
        obtain ⟨_, _, _, _, _, _, h⟩ := h
        obtain ⟨_, h⟩ := bif_none h
        exact synOne' h
      · cases h
    · simp only [Option.bind_eq_some_iff] at h
      obtain ⟨_, _, h⟩ := h
      split at h
      · exact synOne' h
      · simp only [Option.bind_eq_some_iff] at h
        obtain ⟨_, _, _, _, _, _, h⟩ := h
        exact synOne' h
    · cases h
  · simp only [xFieldAddr, Option.bind_eq_some_iff] at h
    obtain ⟨_, _, h⟩ := h
    split at h
    · simp only [Option.bind_eq_some_iff] at h
      obtain ⟨_, _, _, _, h⟩ := h
      replace h := bif_some h
      rcases h with ⟨_, h⟩ | ⟨_, h⟩
      · cases h
      · exact synOne' h
    · cases h
  · simp only [xField, Option.bind_eq_some_iff] at h
    obtain ⟨_, _, _, _, _, _, _, _, h⟩ := h
    exact synOne' h
  · simp only [xIndexAddr, Option.bind_eq_some_iff] at h
    obtain ⟨_, _, _, _, _, _, h⟩ := h
    split at h
    · simp only [Option.bind_eq_some_iff] at h
      obtain ⟨_, _, _, _, h⟩ := h
      obtain ⟨_, h⟩ := bif_none h
      exact synOne' h
    · simp only [Option.bind_eq_some_iff] at h
      obtain ⟨_, _, h⟩ := h
      obtain ⟨_, h⟩ := bif_none h
      exact synOne' h
    · cases h
  · simp only [xIndex, Option.bind_eq_some_iff] at h
    obtain ⟨_, _, _, _, h⟩ := h
    split at h
    case h_2 => exact synOne h
    rename_i r0 hr0
    simp only [Option.some.injEq] at h; subst h
    rw [Option.bind_eq_some_iff] at hr0
    obtain ⟨_, _, h⟩ := hr0
    split at h
    · split at h
      · exact synOne' h
      · cases h
    · simp only [Option.bind_eq_some_iff] at h
      obtain ⟨_, _, _, _, h⟩ := h
      obtain ⟨_, h⟩ := bif_none h
      exact synOne h
    · cases h
  · simp only [xExtract, Option.bind_eq_some_iff] at h
    obtain ⟨_, _, _, _, _, _, h⟩ := h
    exact synOne' h
  · unfold xCall at h
    split at h
    · simp only [Option.bind_eq_some_iff] at h
      obtain ⟨_, _, _, _, h⟩ := h
      exact syn_callV hcall h
    · simp only [Option.bind_eq_some_iff] at h
      obtain ⟨_, _, _, _, h⟩ := h
      exact syn_callM hcall h
    · split at h
      · simp only [xLen, Option.bind_eq_some_iff] at h
        obtain ⟨_, _, h⟩ := h
        split at h
        · exact synOne' h
        · exact synOne' h
        · exact synOne' h
        · split at h
          · exact synOne' h
          · exact synOne h
      · cases h
    · split at h
      · simp only [xAppend, Option.bind_eq_some_iff, Option.map_eq_some_iff] at h
        obtain ⟨_, _, _, _, _, _, ⟨v, S'⟩, hr, rfl⟩ := h
        exact .one (syn_append hr)
      · cases h
    · simp only [Option.bind_eq_some_iff] at h
      obtain ⟨_, _, h⟩ := h
      exact syn_mm h
    · simp only [Option.bind_eq_some_iff] at h
      obtain ⟨_, _, h⟩ := h
      exact syn_mm h
    · cases h
  · unfold xMakeMap at h
    split at h
    · obtain ⟨_, h⟩ := bif_none h
      simp only [Option.some.injEq] at h
      subst h
      exact .one (.put _ _ _)
    · cases h
  · simp only [xInsert, Option.bind_eq_some_iff] at h
    obtain ⟨_, _, _, _, _, _, _, _, h⟩ := h
    split at h
    · simp only [Option.bind_eq_some_iff] at h
      obtain ⟨_, _, h⟩ := h
      split at h
      · simp only [Option.bind_eq_some_iff] at h
        obtain ⟨_, _, h⟩ := h
        split at h
        · obtain ⟨_, h⟩ := bif_none h
          simp only [Option.some.injEq] at h
          subst h
          exact .one (.put _ _ _)
        · cases h
      · cases h
    · cases h
  · simp only [xLookup, Option.bind_eq_some_iff] at h
    obtain ⟨_, _, _, _, _, _, h⟩ := h
    split at h
    · simp only [Option.bind_eq_some_iff] at h
      obtain ⟨_, _, h⟩ := h
      split at h
      · simp only [Option.bind_eq_some_iff] at h
        obtain ⟨_, _, h⟩ := h
        split at h
        · exact synOne' h
        · simp only [Option.bind_eq_some_iff] at h
          obtain ⟨_, _, h⟩ := h
          exact synOne' h
      · cases h
    · simp only [Option.bind_eq_some_iff] at h
      obtain ⟨_, _, h⟩ := h
      split at h
      case h_2 => cases h
      simp only [Option.bind_eq_some_iff, Option.map_eq_some_iff] at h
      obtain ⟨_, _, _, _, l, hl, rfl⟩ := h
      intro u T hm
      obtain ⟨⟨r, S1⟩, hx, he⟩ := List.mem_map.1 hm
      have hk := lookX_kin hl _ hx
      cases r <;> (simp only [Prod.mk.injEq] at he; obtain ⟨_, rfl⟩ := he; exact hk.syn)
    · cases h
  · cases h

/-- A step keeps to what may be written. -/
theorem syn_stepX (hcall : CallSyn call) {S S0 : St} {nm : Nat} {L : List St} {ds : List Nat} (h : stepX c call ops nm S o = some L) (hd : ∀ d, o.dst = some d → d ∈ ds) (hf : From S0 ds S) : ∀ S', S' ∈ L → From S0 ds S' := by
  intro S' hm
  have hds : ∀ e, e ∉ ds → o.dst ≠ some e := fun e he hx => he (hd e hx)
  have fin : ∀ {S1 : St} {v : V}, From S0 ds S1 → S1.setT o.dst v = some S' → From S0 ds S' := by
    intro S1 v h1 hset
    have hh := setT_heap hset
    refine ⟨hh.2.2.trans h1.nt, fun n hn => ?_, fun d hd => (setT_tmps hset d (hds d hd)).trans (h1.tmps d hd)⟩
    rw [hh.1]
    rw [setT_log hset] at hn
    exact h1.heap n hn
  simp only [stepX, Option.bind_eq_some_iff] at h
  obtain ⟨ws, hws, h⟩ := h
  obtain ⟨⟨b, S00⟩, L', hmw, h, hm⟩ := mem_bindL' h S' hm
  have hkin := wantedX_kin hws _ hmw
  replace hf : From S0 ds S00 := ⟨hkin.nt.trans hf.nt, fun n hn => by rw [hkin.heap]; rw [hkin.log] at hn; exact hf.heap n hn, fun d hd => by rw [hkin.tmps]; exact hf.tmps d hd⟩
  replace h := bif_some h
  rcases h with ⟨_, h⟩ | ⟨_, h⟩
  · rw [Option.bind_eq_some_iff] at h
    obtain ⟨L1, h1, h2⟩ := h
    obtain ⟨⟨v, S1⟩, s, hx, hfx, hy⟩ := mem_bindL' h2 S' hm
    simp only [Option.map_eq_some_iff] at hfx
    obtain ⟨S2, hset, rfl⟩ := hfx
    simp only [List.mem_singleton] at hy
    subst hy
    have hsyn := syn_opX hcall h1 v S1 hx
    refine fin ⟨hsyn.2.1.trans hf.nt, fun n hn => ?_, fun d hd => ?_⟩ hset
    · have h3 := hsyn.2.2.2 n hn
      rw [h3]
      exact hf.heap n (fun e => hn (hsyn.2.2.1 n e))
    · rw [hsyn.1]; exact hf.tmps d hd
  · rw [Option.map_eq_some_iff] at h
    obtain ⟨S2, hset, rfl⟩ := h
    simp only [List.mem_singleton] at hm
    subst hm
    exact fin hf hset
end
end Go.Proofs.Ytobghgfmdjknlaa.Sx
