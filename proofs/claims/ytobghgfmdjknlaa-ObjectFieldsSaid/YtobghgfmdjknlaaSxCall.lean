/- Symbolic execution: calls. -/
import Derived.Test.YtobghgfmdjknlaaSxAppend
import Derived.Test.YtobghgfmdjknlaaSxSym3
namespace Go.Proofs.Ytobghgfmdjknlaa.Sx
open Go
set_option linter.unusedSectionVars false

section
variable {c : Cfg} {F : Wd} [COk c]

def CallOk (c : Cfg) (F : Wd) (call : CallX) : Prop := ∀ f args S L, call f args S = some L → ∀ ρ w vals, SatH c F ρ S w → denL c.P c.Φ ρ args = some vals →
  ∀ K : Value → World → Prop, Outs c F ρ S L K → ∀ R : Ending → World → Prop, (∀ x w, K x w → R (.returned x) w) → Calls c.P f vals.toArray w R

variable {o : Oper} {a : Act} {w : World} {next : Act → World → Prop} {Q : Exit → Act → World → Prop} {call : CallX}

theorem callF_upon {ρ : Env} {S : St} {f : FuncId} {args : List V} {L : List (V × St)} {vals : List Value} (hcall : CallOk c F call) (hs : SatH c F ρ S w) (h : callF c call S f args = some L)
    (hv : denL c.P c.Φ ρ args = some vals) (hK : Outs c F ρ S L fun x w' => next (a.put o.dst x) w') : o.upon c.P a next Q ((callFunc f vals.toArray).run c.P w) := by
  unfold callF at h
  split at h
  · rename_i g hg
    split at h
    · rename_i xs hxs
      simp only [Option.map_eq_some_iff] at h
      obtain ⟨x, hf, rfl⟩ := h
      rw [groundL_den hxs] at hv
      simp only [Option.some.injEq] at hv
      subst hv
      rw [COk.ext f g hg _ _ w (pureRun_run (Option.filter_eq_some_iff.1 hf).1 w)]
      exact hK.one (Le.refl ρ) hs rfl rfl rfl
    · rw [Option.map_eq_some_iff] at h
      obtain ⟨v, hv', rfl⟩ := h
      obtain ⟨x, hx, hsem, _⟩ := symV_ok hs hv' hv
      simp only [semPrim, Option.bind_eq_some_iff] at hsem
      obtain ⟨nx, hnx, hsem⟩ := hsem
      rw [pureRun_run hnx w]
      split at hsem
      · simp only [Option.some.injEq] at hsem; subst hsem
        exact hK.one (Le.refl ρ) hs hx rfl rfl
      · cases hsem
  split at h
  · cases h
  rename_i fn hfn
  obtain ⟨hfn, hname⟩ := fn_spec hfn
  split at h
  · cases h
  · rename_i cd hb
    have hrun : (callFunc f vals.toArray).run c.P w = .ok (.enter f vals.toArray) w := by
      unfold callFunc
      rw [run_bindok run_program, hfn]
      simp only [hname, hb, Option.isNone_some, Bool.false_eq_true, if_false]
      rfl
    rw [hrun]
    simp only [Oper.upon]
    exact hcall f args S L h ρ w vals hs hv _ hK _ (fun x w' hx => hx)

theorem method_run {t f : Nat} {name : String} {v : Value} (h : methodX c t name = some f) : (method (c.P.types.size + Made.depth) t v name).run c.P w = .ok (f, v) w := by
  have hd : 0 < Made.depth := by decide
  obtain ⟨k, hk⟩ : ∃ k, c.P.types.size + Made.depth = k + 1 := ⟨c.P.types.size + Made.depth - 1, by omega⟩
  rw [hk]
  simp only [methodX, Option.bind_eq_some_iff] at h
  obtain ⟨i, hi, m, hm, h⟩ := h
  unfold method
  obtain ⟨hi1, hi2⟩ := ty_spec hi
  rw [run_bindok (run_typeInfo hi1), hm]
  split at h
  · rename_i f' e hp hf hu
    replace hu : c.P.underlying t = some (.pointer e) := by rw [hi2]; exact hu
    rw [hf] at h
    simp only [Option.map_some, Option.some.injEq] at h
    subst h
    have hfl : (follow m.path.toList t (.val v)).run c.P w = .ok (t, .val v) w := by rw [hp]; rfl
    simp only []
    rw [run_bindok hfl]
    simp only [hf]
    have hr : ∀ wr, (receiverAt t (.val v) true wr).run c.P w = .ok v w := by
      intro wr
      unfold receiverAt
      rw [run_bindok (run_underlying hu)]
      rfl
    rw [run_bindok (hr _)]
    rfl
  · cases h
  · rename_i f' d hne hp hf hu
    replace hu : c.P.underlying t = some d := by rw [hi2]; exact hu
    simp only [Option.some.injEq] at h
    subst h
    have hfl : (follow m.path.toList t (.val v)).run c.P w = .ok (t, .val v) w := by rw [hp]; rfl
    simp only []
    rw [run_bindok hfl]
    simp only [hf]
    have hr : ∀ wr, (receiverAt t (.val v) false wr).run c.P w = .ok v w := by
      intro wr
      unfold receiverAt
      rw [run_bindok (run_underlying hu)]
      cases d <;> first | rfl | exact (hne _ _ rfl rfl).elim | exact (hne _ rfl).elim
    rw [run_bindok (hr _)]
    rfl
  · cases h

theorem asIface_den {ρ : Env} {v u : V} {t : TypeId} {x : Value} (h : asIface v = some (t, u)) (hx : den c.P c.Φ ρ v = some x) : ∃ y, den c.P c.Φ ρ u = some y ∧ x = .iface t y := by
  unfold asIface at h
  split at h
  · simp only [Option.some.injEq, Prod.mk.injEq] at h
    obtain ⟨rfl, rfl⟩ := h
    simp only [den, D, Option.bind_eq_some_iff, Option.map_eq_some_iff] at hx
    obtain ⟨xs, ⟨ys, hy, y, hs, rfl⟩, h2⟩ := hx
    simp only [single, Option.some.injEq] at h2
    exact ⟨y, Option.bind_eq_some_iff.2 ⟨ys, hy, hs⟩, h2.symm⟩
  · simp only [Option.some.injEq, Prod.mk.injEq] at h
    obtain ⟨rfl, rfl⟩ := h
    simp only [den_k, Option.some.injEq] at hx
    exact ⟨_, rfl, hx.symm⟩
  · cases h

theorem callM_upon {ρ : Env} {S : St} {recv : V} {name : String} {args : List V} {L : List (V × St)} {rv : Value} {vals : List Value} (hcall : CallOk c F call) (hs : SatH c F ρ S w)
    (h : callM c call S recv name args = some L) (hr : den c.P c.Φ ρ recv = some rv) (hv : denL c.P c.Φ ρ args = some vals) (hK : Outs c F ρ S L fun x w' => next (a.put o.dst x) w') :
    o.upon c.P a next Q ((callMethod rv name vals.toArray).run c.P w) := by
  simp only [callM, Option.bind_eq_some_iff] at h
  obtain ⟨⟨t, v⟩, hi, f, hm, h⟩ := h
  obtain ⟨y, hy, rfl⟩ := asIface_den hi hr
  have hrun : (callMethod (.iface t y) name vals.toArray).run c.P w = (callFunc f (y :: vals).toArray).run c.P w := by
    unfold callMethod
    simp only []
    rw [run_bindok run_program, run_bindok (method_run hm)]
    simp
  rw [hrun]
  exact callF_upon hcall hs h (by simp [denL, hy, hv]) hK

theorem callV_upon {ρ : Env} {S : St} {fv : V} {args : List V} {L : List (V × St)} {x : Value} {vals : List Value} (hcall : CallOk c F call) (hs : SatH c F ρ S w)
    (h : callV c call S fv args = some L) (hr : den c.P c.Φ ρ fv = some x) (hv : denL c.P c.Φ ρ args = some vals) (hK : Outs c F ρ S L fun x w' => next (a.put o.dst x) w') :
    o.upon c.P a next Q ((do let d ← Deferred.ofValue x vals.toArray; invoke d.target d.args : Sem Next).run c.P w) := by
  unfold callV at h
  split at h
  · rename_i f first captured
    simp only [den_k, Option.some.injEq] at hr
    subst hr
    have hargs : denL c.P c.Φ ρ (first.toList.map V.k ++ args ++ captured.toList.map V.k) = some (first.toList ++ vals ++ captured.toList) := denL_append (denL_append (denL_ks _) hv) (denL_ks _)
    have := callF_upon (w := w) (next := next) (Q := Q) (o := o) (a := a) hcall hs h hargs hK
    have heq : (first.toList ++ vals ++ captured.toList).toArray = first ++ vals.toArray ++ captured := by apply Array.ext'; simp
    rw [heq] at this
    exact this
  · rename_i f first captured
    simp only [Option.bind_eq_some_iff] at h
    obtain ⟨as, ha, bs, hb, h⟩ := h
    simp only [den, D, Option.bind_eq_some_iff, Option.map_eq_some_iff] at hr
    obtain ⟨xs, ⟨fs, hf, cs, hc, rfl⟩, h2⟩ := hr
    simp only [single, Option.some.injEq] at h2
    subst h2
    have hargs : denL c.P c.Φ ρ (as ++ args ++ bs) = some (fs ++ vals ++ cs) := denL_append (denL_append (D_listV ha hf) hv) (D_listV hb hc)
    have := callF_upon (w := w) (next := next) (Q := Q) (o := o) (a := a) hcall hs h hargs hK
    have heq : (fs ++ vals ++ cs).toArray = fs.toArray ++ vals.toArray ++ cs.toArray := by apply Array.ext'; simp
    rw [heq] at this
    exact this
  · rename_i name first captured
    simp only [Option.bind_eq_some_iff] at h
    obtain ⟨as, ha, h⟩ := h
    split at h
    case h_2 => cases h
    rename_i recv r hlist
    simp only [den, D, Option.bind_eq_some_iff, Option.map_eq_some_iff] at hr
    obtain ⟨xs, ⟨fs, hf, cs, hc, rfl⟩, h2⟩ := hr
    simp only [single, Option.some.injEq] at h2
    subst h2
    have hargs : denL c.P c.Φ ρ (as ++ args) = some (fs ++ vals) := denL_append (D_listV ha hf) hv
    rw [hlist] at hargs
    simp only [denL, Option.bind_eq_some_iff, Option.map_eq_some_iff] at hargs
    obtain ⟨y, hy, ys, hys, heq⟩ := hargs
    have := callM_upon (w := w) (next := next) (Q := Q) (o := o) (a := a) hcall hs h hy hys hK
    have hrun : ((do let d ← Deferred.ofValue (.func (.method name) fs.toArray cs.toArray) vals.toArray; invoke d.target d.args : Sem Next).run c.P w) = (callMethod y name ys.toArray).run c.P w := by
      have harr : fs.toArray ++ vals.toArray = (y :: ys).toArray := by rw [heq]; simp
      show (invoke (.fn (.method name) cs.toArray) (fs.toArray ++ vals.toArray)).run c.P w = _
      rw [harr]
      unfold invoke
      simp
    rw [hrun]
    exact this
  · cases h

end
end Go.Proofs.Ytobghgfmdjknlaa.Sx
