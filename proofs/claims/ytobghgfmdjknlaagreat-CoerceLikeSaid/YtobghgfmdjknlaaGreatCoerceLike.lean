/- CoerceLike answers true at any two values; all memory that was there reads as it did. No condition. -/
import Derived.Test.YtobghgfmdjknlaaGreatRows
import Derived.WalkKit
import Derived.ProofKit
import Derived.OpenShut
import Derived.Test.YtobghgfmdjknlaaGreatCoerceLikeK0
import Derived.Test.YtobghgfmdjknlaaGreatCoerceLikeK1
import Derived.Test.YtobghgfmdjknlaaGreatCoerceLikeK2
import Derived.Test.YtobghgfmdjknlaaGreatCoerceLikeK3
import Derived.Test.YtobghgfmdjknlaaGreatCoerceLikeK4
import Derived.Test.YtobghgfmdjknlaaGreatCoerceLikeK5
namespace Go.Proofs.YtobghgfmdjknlaaGreat.coerceLike
open Go.ChangeShapes Go.WideShapes Go.ChangeAt Go.RowKit
set_option linter.unusedVariables false

theorem own : ownKnob Tryz.prog.godebug = none := by kernel_rfl
theorem walk (c0_0 : Int) (c0_1 : Nat) (c0_2 : ByteArray) (c0_3 : Int) (c1_0 : Int) (c1_1 : Nat) (c1_2 : ByteArray) (c1_3 : Int) (lc0_0 : IntKind.u8.min ≤ c0_0) (uc0_0 : c0_0 ≤ IntKind.u8.max) (lc0_3 : IntKind.i64.min ≤ c0_3) (uc0_3 : c0_3 ≤ IntKind.i64.max) (lc1_0 : IntKind.u8.min ≤ c1_0) (uc1_0 : c1_0 ≤ IntKind.u8.max) (lc1_3 : IntKind.i64.min ≤ c1_3) (uc1_3 : c1_3 ≤ IntKind.i64.max) (wb0 : c0_1 < 2 ^ 64) (wb1 : c1_1 < 2 ^ 64) (w : World) :
    Calls Tryz.prog 7 #[.agg #[.int .u8 c0_0, .float .f64 c0_1, .string c0_2, .int .i64 c0_3], .agg #[.int .u8 c1_0, .float .f64 c1_1, .string c1_2, .int .i64 c1_3]] w fun e w' => e = .returned (.bool true) ∧ Below w.heap.size w w' := by
  have hr0 : Sx.hasTy (.int .i64 c0_3) (Sx.fullTy .i64) := ⟨_, rfl, lc0_3, fun _ e => by cases e; exact uc0_3⟩
  have hr1 : Sx.hasTy (.int .i64 c1_3) (Sx.fullTy .i64) := ⟨_, rfl, lc1_3, fun _ e => by cases e; exact uc1_3⟩
  have l1 : (0 : Int) ≤ c1_0 := lc1_0
  have u1 : c1_0 ≤ 255 := uc1_0
  have l0 : (0 : Int) ≤ c0_0 := lc0_0
  have u0 : c0_0 ≤ 255 := uc0_0
  have q0 : c0_0 = 0 ∨ c0_0 = 1 ∨ c0_0 = 2 ∨ c0_0 = 3 ∨ c0_0 = 4 ∨ c0_0 = 5 ∨ c0_0 = 6 ∨ c0_0 = 7 ∨ c0_0 = 8 ∨ 9 ≤ c0_0 := by omega
  rcases q0 with rfl | rfl | rfl | rfl | rfl | rfl | rfl | rfl | rfl | h90
  · exact row0 c0_1 c0_2 c0_3 c1_0 c1_1 c1_2 c1_3 hr0 hr1 l1 u1 wb0 wb1 trivial w
  · exact row1 c0_1 c0_2 c0_3 c1_0 c1_1 c1_2 c1_3 hr0 hr1 l1 u1 wb0 wb1 trivial w
  · rcases Sx.float_cases c0_1 with hf | hf
    · exact row2n c0_1 c0_2 c0_3 c1_0 c1_1 c1_2 c1_3 hr0 hr1 l1 u1 wb0 wb1 hf w
    · by_cases ho : c0_1 = 4607182418800017408
      · exact row2o c0_1 c0_2 c0_3 c1_0 c1_1 c1_2 c1_3 hr0 hr1 l1 u1 wb0 wb1 ho w
      · exact row2 c0_1 c0_2 c0_3 c1_0 c1_1 c1_2 c1_3 hr0 hr1 l1 u1 wb0 wb1 ⟨hf, ho⟩ w
  · rcases Sx.float_cases c0_1 with hf | hf
    · exact row3n c0_1 c0_2 c0_3 c1_0 c1_1 c1_2 c1_3 hr0 hr1 l1 u1 wb0 wb1 hf w
    · exact row3 c0_1 c0_2 c0_3 c1_0 c1_1 c1_2 c1_3 hr0 hr1 l1 u1 wb0 wb1 ⟨hf, trivial⟩ w
  · exact row4 c0_1 c0_2 c0_3 c1_0 c1_1 c1_2 c1_3 hr0 hr1 l1 u1 wb0 wb1 trivial w
  · exact row5 c0_1 c0_2 c0_3 c1_0 c1_1 c1_2 c1_3 hr0 hr1 l1 u1 wb0 wb1 trivial w
  · exact row6 c0_1 c0_2 c0_3 c1_0 c1_1 c1_2 c1_3 hr0 hr1 l1 u1 wb0 wb1 trivial w
  · exact row7 c0_1 c0_2 c0_3 c1_0 c1_1 c1_2 c1_3 hr0 hr1 l1 u1 wb0 wb1 trivial w
  · exact row8 c0_1 c0_2 c0_3 c1_0 c1_1 c1_2 c1_3 hr0 hr1 l1 u1 wb0 wb1 trivial w
  · exact row9 c0_1 c0_2 c0_3 c1_0 c1_1 c1_2 c1_3 c0_0 hr0 hr1 l1 u1 wb0 wb1 ⟨h90, by omega⟩ w

/-! ### THE ROW's STEP -/
set_option maxRecDepth 100000 in
theorem lifted (os : Os) (started : os.Started) (H : Type) (enc : TypeId × Value → H) :
    ReturnsInHanded {} Tryz.checked os 7 .any (Rows.coerceLikeSpec.pre6 enc Tryz.prog Tryz.f7 Rows.coerceLikeRow.domain false) (Rows.coerceLikeSpec.post enc Tryz.prog Tryz.f7 false true false false) := by
  refine returnsInHanded_of_change (C := Tryz.checked) own started (by kernel_rfl) Tryz.func7
    (ChangeSpec.witness6 (enc := enc) (C := Tryz.checked) false ⟨#[], #[.agg #[.int .u8 0, .float .f64 0, .string ⟨#[]⟩, .int .i64 0], .agg #[.int .u8 0, .float .f64 0, .string ⟨#[]⟩, .int .i64 0]], []⟩ 8 (by kernel_rfl) (by kernel_rfl) (by kernel_rfl) (by kernel_rfl)) ?_
  intro W base args ds gs before hval0 hW hcnd _
  have hval : ∀ (j : Nat) t v, Tryz.f7.params[j]? = some t → args[j]? = some v → Value.okWide Tryz.prog W .any base t v := hval0
  have hW' := hW
  obtain ⟨p, q, hA0, hV, rfl, hfz, hnd⟩ := hW
  have hA : DataW.TrodAll enc Tryz.prog W 0 (fun _ => true) true Tryz.f7.params.toList args.toList ds p := hA0
  rw [Tryz.params7] at hA hval
  obtain ⟨v0, vs0, d0, ds0, p0, q0, hargs, rfl, rfl, h0, r0⟩ := trodAll_cons hA
  obtain ⟨v1, vs1, d1, ds1, p1, q1, rfl, rfl, rfl, h1, r1⟩ := trodAll_cons r0
  obtain ⟨rfl, rfl, rfl⟩ := trodAll_nil r1
  obtain rfl : args = #[v0, v1] := by cases args; simp_all
  obtain ⟨rfl, rfl⟩ := trodVars_none hV
  obtain ⟨f0, g0⟩ := Sx.open_flat (d := 10) (hval 0 24 v0 rfl rfl) h0 (tys := [Sx.fullTy .u8, .f64, .str, Sx.fullTy .i64]) (by kernel_rfl)
  have wl0 := Sx.open_wordly (d := 10) h0 (tys := [Sx.fullTy .u8, .f64, .str, Sx.fullTy .i64]) (by kernel_rfl)
  obtain ⟨x0_0, y0_0, e0_0, ⟨c0_0, rfl, l0_0, u0_0⟩, f0_0⟩ := Sx.all2_cons f0
  obtain ⟨x0_1, y0_1, e0_1, ⟨c0_1, rfl⟩, f0_1⟩ := Sx.all2_cons f0_0
  obtain ⟨x0_2, y0_2, e0_2, ⟨c0_2, rfl⟩, f0_2⟩ := Sx.all2_cons f0_1
  obtain ⟨x0_3, y0_3, e0_3, ⟨c0_3, rfl, l0_3, u0_3⟩, f0_3⟩ := Sx.all2_cons f0_2
  obtain rfl := Sx.all2_nil f0_3
  have a0 : v0.cells.toList = [.int .u8 c0_0, .float .f64 c0_1, .string c0_2, .int .i64 c0_3] := by rw [e0_0, e0_1, e0_2, e0_3]
  have b0 : v0 = .agg #[.int .u8 c0_0, .float .f64 c0_1, .string c0_2, .int .i64 c0_3] := by
    rcases g0 with ⟨_, g⟩ | ⟨hn, _⟩
    · rw [g, ← Array.toArray_toList (xs := v0.cells), a0]
    · exact absurd Tryz.underlying24 (hn _)
  subst b0
  obtain ⟨f1, g1⟩ := Sx.open_flat (d := 10) (hval 1 24 v1 rfl rfl) h1 (tys := [Sx.fullTy .u8, .f64, .str, Sx.fullTy .i64]) (by kernel_rfl)
  have wl1 := Sx.open_wordly (d := 10) h1 (tys := [Sx.fullTy .u8, .f64, .str, Sx.fullTy .i64]) (by kernel_rfl)
  obtain ⟨x1_0, y1_0, e1_0, ⟨c1_0, rfl, l1_0, u1_0⟩, f1_0⟩ := Sx.all2_cons f1
  obtain ⟨x1_1, y1_1, e1_1, ⟨c1_1, rfl⟩, f1_1⟩ := Sx.all2_cons f1_0
  obtain ⟨x1_2, y1_2, e1_2, ⟨c1_2, rfl⟩, f1_2⟩ := Sx.all2_cons f1_1
  obtain ⟨x1_3, y1_3, e1_3, ⟨c1_3, rfl, l1_3, u1_3⟩, f1_3⟩ := Sx.all2_cons f1_2
  obtain rfl := Sx.all2_nil f1_3
  have a1 : v1.cells.toList = [.int .u8 c1_0, .float .f64 c1_1, .string c1_2, .int .i64 c1_3] := by rw [e1_0, e1_1, e1_2, e1_3]
  have b1 : v1 = .agg #[.int .u8 c1_0, .float .f64 c1_1, .string c1_2, .int .i64 c1_3] := by
    rcases g1 with ⟨_, g⟩ | ⟨hn, _⟩
    · rw [g, ← Array.toArray_toList (xs := v1.cells), a1]
    · exact absurd Tryz.underlying24 (hn _)
  subst b1
  have bf0 : c0_1 < 2 ^ 64 := wl0 (.float .f64 c0_1) (by simp [Value.cells])
  have bf1 : c1_1 < 2 ^ 64 := wl1 (.float .f64 c1_1) (by simp [Value.cells])
  refine (walk c0_0 c0_1 c0_2 c0_3 c1_0 c1_1 c1_2 c1_3 l0_0 (u0_0 _ rfl) l0_3 (u0_3 _ rfl) l1_0 (u1_0 _ rfl) l1_3 (u1_3 _ rfl) bf0 bf1 W).mono fun e W' ⟨he, hg⟩ => ?_
  subst he
  refine ⟨_, rfl, Sx.law_post (tb := 4) (by kernel_rfl) ?_ rfl Tryz.underlying4 rfl rfl rfl rfl hW' hg⟩
  intro t ht
  rw [Tryz.params7] at ht
  simp only [List.mem_cons, List.not_mem_nil, or_false] at ht
  rcases ht with rfl | rfl <;> exact ⟨by kernel_rfl, of_decide_eq_true (by kernel_rfl)⟩

theorem over : Rows.coerceLikeRow.holds Tryz.pinned (OpenSpec.ofChange Rows.coerceLikeSpec) :=
  OpenClaim.holds_of_wide 7 Tryz.f7 rfl rfl rfl rfl rfl rfl rfl ⟨rfl, rfl, rfl, rfl, rfl⟩ rfl rfl rfl rfl rfl (by kernel_rfl) Tryz.func7 (by kernel_rfl)
    (of_decide_eq_true (by kernel_rfl)) (by unfold Func.isWrapper; first | (rw [if_pos (by decide +kernel)]; kernel_rfl) | (rw [if_neg (by decide +kernel)]; exact ⟨rfl, rfl⟩))
    (fun os started H enc _ => lifted os started H enc)

/-- THE STATEMENT -/
theorem proved : Rows.CoerceLikeSaid :=
  over
#print axioms proved
end Go.Proofs.YtobghgfmdjknlaaGreat.coerceLike
