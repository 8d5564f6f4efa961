/- The tables of this seat: what the program says of its types and functions. Printed by seat.py, a program of this workplace's own. -/
import Derived.Test.YtobghgfmdjknlaaProg
import Derived.Test.YtobghgfmdjknlaaSxTop
namespace Go.Proofs.Ytobghgfmdjknlaa.Sx
open Go
set_option maxRecDepth 100000
noncomputable def tyT : Tr TI := (.node (some ⟨Try.t0, Try.t0.desc⟩) (.node (some ⟨Try.t1, Try.t1.desc⟩) (.node (some ⟨Try.t3, Try.t3.desc⟩) (.node (some ⟨Try.t7, Try.t7.desc⟩) (.node (some ⟨Try.t15, Try.t15.desc⟩) (.node (some ⟨Try.t31, Try.t31.desc⟩) (.node (some ⟨Try.t63, Try.t63.desc⟩) .leaf .leaf) .leaf) (.node (some ⟨Try.t47, Try.t47.desc⟩) (.node (some ⟨Try.t79, Try.t79.desc⟩) .leaf .leaf) .leaf)) (.node (some ⟨Try.t23, Try.t23.desc⟩) (.node (some ⟨Try.t39, Try.t39.desc⟩) (.node (some ⟨Try.t71, Try.t71.desc⟩) .leaf .leaf) .leaf) (.node (some ⟨Try.t55, Try.t55.desc⟩) .leaf .leaf))) (.node (some ⟨Try.t11, Try.t9.desc⟩) (.node (some ⟨Try.t19, Try.t18.desc⟩) (.node (some ⟨Try.t35, Try.t34.desc⟩) (.node (some ⟨Try.t67, Try.t66.desc⟩) .leaf .leaf) .leaf) (.node (some ⟨Try.t51, Try.t51.desc⟩) .leaf .leaf)) (.node (some ⟨Try.t27, Try.t27.desc⟩) (.node (some ⟨Try.t43, Try.t43.desc⟩) (.node (some ⟨Try.t75, Try.t75.desc⟩) .leaf .leaf) .leaf) (.node (some ⟨Try.t59, Try.t59.desc⟩) .leaf .leaf)))) (.node (some ⟨Try.t5, Try.t5.desc⟩) (.node (some ⟨Try.t9, Try.t9.desc⟩) (.node (some ⟨Try.t17, Try.t17.desc⟩) (.node (some ⟨Try.t33, Try.t33.desc⟩) (.node (some ⟨Try.t65, Try.t65.desc⟩) .leaf .leaf) .leaf) (.node (some ⟨Try.t49, Try.t49.desc⟩) (.node (some ⟨Try.t81, Try.t81.desc⟩) .leaf .leaf) .leaf)) (.node (some ⟨Try.t25, Try.t25.desc⟩) (.node (some ⟨Try.t41, Try.t41.desc⟩) (.node (some ⟨Try.t73, Try.t5.desc⟩) .leaf .leaf) .leaf) (.node (some ⟨Try.t57, Try.t57.desc⟩) .leaf .leaf))) (.node (some ⟨Try.t13, Try.t13.desc⟩) (.node (some ⟨Try.t21, Try.t21.desc⟩) (.node (some ⟨Try.t37, Try.t36.desc⟩) (.node (some ⟨Try.t69, Try.t69.desc⟩) .leaf .leaf) .leaf) (.node (some ⟨Try.t53, Try.t53.desc⟩) .leaf .leaf)) (.node (some ⟨Try.t29, Try.t29.desc⟩) (.node (some ⟨Try.t45, Try.t45.desc⟩) (.node (some ⟨Try.t77, Try.t21.desc⟩) .leaf .leaf) .leaf) (.node (some ⟨Try.t61, Try.t61.desc⟩) .leaf .leaf))))) (.node (some ⟨Try.t2, Try.t2.desc⟩) (.node (some ⟨Try.t4, Try.t4.desc⟩) (.node (some ⟨Try.t8, Try.t7.desc⟩) (.node (some ⟨Try.t16, Try.t16.desc⟩) (.node (some ⟨Try.t32, Try.t32.desc⟩) (.node (some ⟨Try.t64, Try.t64.desc⟩) .leaf .leaf) .leaf) (.node (some ⟨Try.t48, Try.t48.desc⟩) (.node (some ⟨Try.t80, Try.t79.desc⟩) .leaf .leaf) .leaf)) (.node (some ⟨Try.t24, Try.t23.desc⟩) (.node (some ⟨Try.t40, Try.t40.desc⟩) (.node (some ⟨Try.t72, Try.t72.desc⟩) .leaf .leaf) .leaf) (.node (some ⟨Try.t56, Try.t56.desc⟩) .leaf .leaf))) (.node (some ⟨Try.t12, Try.t12.desc⟩) (.node (some ⟨Try.t20, Try.t20.desc⟩) (.node (some ⟨Try.t36, Try.t36.desc⟩) (.node (some ⟨Try.t68, Try.t68.desc⟩) .leaf .leaf) .leaf) (.node (some ⟨Try.t52, Try.t52.desc⟩) .leaf .leaf)) (.node (some ⟨Try.t28, Try.t3.desc⟩) (.node (some ⟨Try.t44, Try.t44.desc⟩) (.node (some ⟨Try.t76, Try.t76.desc⟩) .leaf .leaf) .leaf) (.node (some ⟨Try.t60, Try.t60.desc⟩) .leaf .leaf)))) (.node (some ⟨Try.t6, Try.t5.desc⟩) (.node (some ⟨Try.t10, Try.t9.desc⟩) (.node (some ⟨Try.t18, Try.t18.desc⟩) (.node (some ⟨Try.t34, Try.t34.desc⟩) (.node (some ⟨Try.t66, Try.t66.desc⟩) .leaf .leaf) .leaf) (.node (some ⟨Try.t50, Try.t50.desc⟩) .leaf .leaf)) (.node (some ⟨Try.t26, Try.t25.desc⟩) (.node (some ⟨Try.t42, Try.t42.desc⟩) (.node (some ⟨Try.t74, Try.t5.desc⟩) .leaf .leaf) .leaf) (.node (some ⟨Try.t58, Try.t58.desc⟩) .leaf .leaf))) (.node (some ⟨Try.t14, Try.t13.desc⟩) (.node (some ⟨Try.t22, Try.t22.desc⟩) (.node (some ⟨Try.t38, Try.t38.desc⟩) (.node (some ⟨Try.t70, Try.t69.desc⟩) .leaf .leaf) .leaf) (.node (some ⟨Try.t54, Try.t54.desc⟩) .leaf .leaf)) (.node (some ⟨Try.t30, Try.t30.desc⟩) (.node (some ⟨Try.t46, Try.t46.desc⟩) (.node (some ⟨Try.t78, Try.t21.desc⟩) .leaf .leaf) .leaf) (.node (some ⟨Try.t62, Try.t62.desc⟩) .leaf .leaf))))))
noncomputable def fnT : Tr Func := (.node (some Try.f0) (.node (some Try.f1) (.node (some Try.f3) (.node (some Try.f7) (.node (some Try.f15) (.node (some Try.f31) .leaf .leaf) (.node (some Try.f47) .leaf .leaf)) (.node (some Try.f23) (.node (some Try.f39) .leaf .leaf) (.node (some Try.f55) .leaf .leaf))) (.node (some Try.f11) (.node (some Try.f19) (.node (some Try.f35) .leaf .leaf) (.node (some Try.f51) .leaf .leaf)) (.node (some Try.f27) (.node (some Try.f43) .leaf .leaf) (.node (some Try.f59) .leaf .leaf)))) (.node (some Try.f5) (.node (some Try.f9) (.node (some Try.f17) (.node (some Try.f33) .leaf .leaf) (.node (some Try.f49) .leaf .leaf)) (.node (some Try.f25) (.node (some Try.f41) .leaf .leaf) (.node (some Try.f57) .leaf .leaf))) (.node (some Try.f13) (.node (some Try.f21) (.node (some Try.f37) .leaf .leaf) (.node (some Try.f53) .leaf .leaf)) (.node (some Try.f29) (.node (some Try.f45) .leaf .leaf) .leaf)))) (.node (some Try.f2) (.node (some Try.f4) (.node (some Try.f8) (.node (some Try.f16) (.node (some Try.f32) .leaf .leaf) (.node (some Try.f48) .leaf .leaf)) (.node (some Try.f24) (.node (some Try.f40) .leaf .leaf) (.node (some Try.f56) .leaf .leaf))) (.node (some Try.f12) (.node (some Try.f20) (.node (some Try.f36) .leaf .leaf) (.node (some Try.f52) .leaf .leaf)) (.node (some Try.f28) (.node (some Try.f44) .leaf .leaf) (.node (some Try.f60) .leaf .leaf)))) (.node (some Try.f6) (.node (some Try.f10) (.node (some Try.f18) (.node (some Try.f34) .leaf .leaf) (.node (some Try.f50) .leaf .leaf)) (.node (some Try.f26) (.node (some Try.f42) .leaf .leaf) (.node (some Try.f58) .leaf .leaf))) (.node (some Try.f14) (.node (some Try.f22) (.node (some Try.f38) .leaf .leaf) (.node (some Try.f54) .leaf .leaf)) (.node (some Try.f30) (.node (some Try.f46) .leaf .leaf) .leaf)))))
theorem tyT_eq : mkT (tiOf Try.prog) (List.range 82) = tyT := by kernel_rfl
theorem fnT_eq : mkT (fnOf Try.prog) (List.range 61) = fnT := by kernel_rfl
noncomputable def extT (f : FuncId) : Option (Array Value → Sem Value) := bif Nat.beq f 39 then some (Extern.MathFloor.toIntegral "math.archTrunc" .zero) else bif Nat.beq f 41 then some (Extern.MathFloatBits.float64frombits) else bif Nat.beq f 42 then some (Extern.MathFloatBits.float64bits) else none
theorem ext39 (xs : Array Value) (w : World) : (callFunc 39 xs).run Try.prog w = (Extern.MathFloor.toIntegral "math.archTrunc" .zero xs >>= fun x => pure (Next.value x) : Sem Next).run Try.prog w := by kernel_rfl
theorem ext41 (xs : Array Value) (w : World) : (callFunc 41 xs).run Try.prog w = (Extern.MathFloatBits.float64frombits xs >>= fun x => pure (Next.value x) : Sem Next).run Try.prog w := by kernel_rfl
theorem ext42 (xs : Array Value) (w : World) : (callFunc 42 xs).run Try.prog w = (Extern.MathFloatBits.float64bits xs >>= fun x => pure (Next.value x) : Sem Next).run Try.prog w := by kernel_rfl
noncomputable def extTyT (f : FuncId) (ts : List Ty) : Option Ty := bif Nat.beq f 42 then extFloat (.int .u64 0 none) ts else bif Nat.beq f 41 then extU64 .f64 ts else bif Nat.beq f 39 then extNum .f64 ts else none
theorem pr42 (b : Nat) : pureRun Try.prog (callFunc 42 #[.float .f64 b]) = some (.value (.int .u64 b)) := by kernel_rfl
theorem pr41 (n : Int) : pureRun Try.prog (callFunc 41 #[.int .u64 n]) = some (.value (.float .f64 n.toNat)) := by kernel_rfl
theorem pr39 (x : Value) : pureRun Try.prog (callFunc 39 #[x]) = pureRun Try.prog (Extern.MathFloor.toIntegral "math.archTrunc" .zero #[x] >>= fun x => pure (Next.value x) : Sem Next) := by kernel_rfl
theorem extTy_ok (f : FuncId) (ts : List Ty) (t : Ty) (xs : List Value) (h : extTyT f ts = some t) (hx : All2 hasTy xs ts) : ∃ x, pureRun Try.prog (callFunc f xs.toArray) = some (.value x) ∧ hasTy x t := by
  unfold extTyT at h
  replace h := bif_some h
  rcases h with ⟨hb, h⟩ | ⟨_, h⟩
  · obtain rfl := beqT hb
    obtain ⟨rfl, b, rfl⟩ := extFloat_ok h hx
    exact ⟨_, pr42 b, _, rfl, by omega, fun _ e => by cases e⟩
  replace h := bif_some h
  rcases h with ⟨hb, h⟩ | ⟨_, h⟩
  · obtain rfl := beqT hb
    obtain ⟨rfl, n, rfl⟩ := extU64_ok h hx
    exact ⟨_, pr41 n, _, rfl⟩
  replace h := bif_some h
  rcases h with ⟨hb, h⟩ | ⟨_, h⟩
  · obtain rfl := beqT hb
    obtain ⟨rfl, b, rfl, hn⟩ := extNum_ok h hx
    obtain ⟨d, hd⟩ := trunc_num (P := Try.prog) (nm := "math.archTrunc") (way := .zero) hn
    exact ⟨_, (pr39 _).trans (by rw [pureRun_bind, hd]; rfl), _, rfl⟩
  cases h
/-- What the functions that have names of their own come to. -/
structure Base where
  Φ : Nat → List Value → Option Value
  appTy : Nat → List Ty → Option Ty
  ok : ∀ f ts t xs, appTy f ts = some t → All2 hasTy xs ts → ∃ x, Φ f xs = some x ∧ hasTy x t
  /-- What is so of the world ahead of it all, and below which block it is told. -/
  inv : World → Prop := fun _ => True
  low : Nat := 0
  invOk : ∀ w w' : World, inv w → (∀ b, b < low → w'.heap[b]? = w.heap[b]?) → inv w' := by intro _ _ _ _; trivial
noncomputable def base0 : Base := { Φ := fun _ _ => none, appTy := fun _ _ => none, ok := fun _ _ _ _ h => by cases h }
noncomputable def cfgB (B : Base) (s : FuncId → Option (St → List V → Option (List (V × St)))) (gc : FuncId → Option Bool) : Cfg := { P := Try.prog, Φ := B.Φ, sum := s, ty := tyT, fn := fnT, ext := extT, gc := gc, extTy := extTyT, appTy := B.appTy, inv := B.inv, low := B.low }
noncomputable abbrev cfgOf (s : FuncId → Option (St → List V → Option (List (V × St)))) : Cfg := cfgB base0 s fun _ => none
theorem mixed : Try.prog.follows .mixedOrders = true := by kernel_rfl
instance (B : Base) (s : FuncId → Option (St → List V → Option (List (V × St)))) (gc : FuncId → Option Bool) : COk (cfgB B s gc) where
  mixed := mixed
  extTy := extTy_ok
  app := B.ok
  invOk := B.invOk
  ty := fun t i h => get_mkT tyT_eq t i h
  fn := fun t i h => get_mkT fnT_eq t i h
  ext := by
    intro f g h xs x w hr
    replace h : extT f = some g := h
    unfold extT at h
    replace h := bif_some h
    rcases h with ⟨hb, h⟩ | ⟨_, h⟩
    · obtain rfl := beqT hb
      simp only [Option.some.injEq] at h
      subst h
      exact (ext39 xs w).trans (run_bindok (P := Try.prog) hr)
    replace h := bif_some h
    rcases h with ⟨hb, h⟩ | ⟨_, h⟩
    · obtain rfl := beqT hb
      simp only [Option.some.injEq] at h
      subst h
      exact (ext41 xs w).trans (run_bindok (P := Try.prog) hr)
    replace h := bif_some h
    rcases h with ⟨hb, h⟩ | ⟨_, h⟩
    · obtain rfl := beqT hb
      simp only [Option.some.injEq] at h
      subst h
      exact (ext42 xs w).trans (run_bindok (P := Try.prog) hr)
    cases h
end Go.Proofs.Ytobghgfmdjknlaa.Sx
