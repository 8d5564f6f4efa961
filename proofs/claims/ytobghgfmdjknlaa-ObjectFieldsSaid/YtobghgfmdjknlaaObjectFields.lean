/- ObjectFields answers true at any descriptor; all memory that was there reads as it did. No condition. -/
import Derived.Test.YtobghgfmdjknlaaRows
import Derived.WalkKit
import Derived.ProofKit
import Derived.OpenShut
import Derived.Test.YtobghgfmdjknlaaSxLaw
import Derived.Test.YtobghgfmdjknlaaObjectFieldsB
import Derived.Test.YtobghgfmdjknlaaObjectFieldsR0
import Derived.Test.YtobghgfmdjknlaaObjectFieldsR1
import Derived.Test.YtobghgfmdjknlaaObjectFieldsR2
import Derived.Test.YtobghgfmdjknlaaObjectFieldsR3
namespace Go.Proofs.Ytobghgfmdjknlaa.objectFields
open Go.ChangeShapes Go.WideShapes Go.ChangeAt Go.RowKit
set_option linter.unusedVariables false

theorem own : ownKnob Try.prog.godebug = none := by kernel_rfl

open Sx in
def all256 : List Nat := bad0 ++ bad1 ++ bad2 ++ bad3 ++ bad4 ++ bad5 ++ [0, 1, 2, 3, 4, 8, 12, 16, 17, 18, 19, 20, 24, 28, 32, 33, 34, 35, 36, 40, 44, 48, 49, 50, 51, 52, 56, 60]
open Sx in
theorem all_good : ∀ n, n < 256 → Good n := by
  intro n hn
  have : n ∈ all256 := by
    have key : ∀ m : Fin 256, m.val ∈ all256 := by decide +kernel
    exact key ⟨n, hn⟩
  simp only [all256, List.mem_append] at this
  rcases this with (((((h | h) | h) | h) | h) | h) | h
  · exact bad0_good n h
  · exact bad1_good n h
  · exact bad2_good n h
  · exact bad3_good n h
  · exact bad4_good n h
  · exact bad5_good n h
  · simp only [List.mem_cons, List.not_mem_nil, or_false] at h
    rcases h with rfl | rfl | rfl | rfl | rfl | rfl | rfl | rfl | rfl | rfl | rfl | rfl | rfl | rfl | rfl | rfl | rfl | rfl | rfl | rfl | rfl | rfl | rfl | rfl | rfl | rfl | rfl | rfl
    · exact good0
    · exact good1
    · exact good2
    · exact good3
    · exact good4
    · exact good8
    · exact good12
    · exact good16
    · exact good17
    · exact good18
    · exact good19
    · exact good20
    · exact good24
    · exact good28
    · exact good32
    · exact good33
    · exact good34
    · exact good35
    · exact good36
    · exact good40
    · exact good44
    · exact good48
    · exact good49
    · exact good50
    · exact good51
    · exact good52
    · exact good56
    · exact good60

open Sx in
theorem walk (c0_0 : Int) (c0_1 : Int) (c0_2 : Nat) (c0_3 : ByteArray) (c0_4 : Int) (c0_5 : Int) (c0_6 : Nat) (c0_7 : ByteArray) (c0_8 : Int) (c0_9 : Int) (c0_10 : Nat) (c0_11 : ByteArray) (c0_12 : Int) (c0_13 : Bool) (c0_14 : Bool) (c0_15 : Bool) (lc0_0 : IntKind.u8.min ≤ c0_0) (uc0_0 : c0_0 ≤ IntKind.u8.max) (lc0_1 : IntKind.u8.min ≤ c0_1) (uc0_1 : c0_1 ≤ IntKind.u8.max) (lc0_4 : IntKind.i64.min ≤ c0_4) (uc0_4 : c0_4 ≤ IntKind.i64.max) (lc0_5 : IntKind.u8.min ≤ c0_5) (uc0_5 : c0_5 ≤ IntKind.u8.max) (lc0_8 : IntKind.i64.min ≤ c0_8) (uc0_8 : c0_8 ≤ IntKind.i64.max) (lc0_9 : IntKind.u8.min ≤ c0_9) (uc0_9 : c0_9 ≤ IntKind.u8.max) (lc0_12 : IntKind.i64.min ≤ c0_12) (uc0_12 : c0_12 ≤ IntKind.i64.max) (w : World) :
    Calls Try.prog 3 #[.agg #[.int .u8 c0_0, .int .u8 c0_1, .float .f64 c0_2, .string c0_3, .int .i64 c0_4, .int .u8 c0_5, .float .f64 c0_6, .string c0_7, .int .i64 c0_8, .int .u8 c0_9, .float .f64 c0_10, .string c0_11, .int .i64 c0_12, .bool c0_13, .bool c0_14, .bool c0_15]] w fun e w' => e = .returned (.bool true) ∧ Below w.heap.size w w' := by
  obtain ⟨n, rfl⟩ : ∃ n : Nat, c0_0 = n := ⟨c0_0.toNat, by have : (0 : Int) ≤ c0_0 := lc0_0; omega⟩
  have hn : n < 256 := by have : (n : Int) ≤ 255 := uc0_0; omega
  exact all_good n hn ⟨⟨c0_1, c0_2, c0_3, c0_4⟩, ⟨c0_5, c0_6, c0_7, c0_8⟩, ⟨c0_9, c0_10, c0_11, c0_12⟩, c0_13, c0_14, c0_15⟩ ⟨⟨lc0_1, uc0_1, lc0_4, uc0_4⟩, ⟨lc0_5, uc0_5, lc0_8, uc0_8⟩, ⟨lc0_9, uc0_9, lc0_12, uc0_12⟩⟩ w

/-! ### THE ROW's STEP -/
set_option maxRecDepth 100000 in
theorem lifted (os : Os) (started : os.Started) (H : Type) (enc : TypeId × Value → H) :
    ReturnsInHanded {} Try.checked os 3 .any (Rows.objectFieldsSpec.pre6 enc Try.prog Try.f3 Rows.objectFieldsRow.domain false) (Rows.objectFieldsSpec.post enc Try.prog Try.f3 false true false false) := by
  refine returnsInHanded_of_change (C := Try.checked) own started (by kernel_rfl) Try.func3
    (ChangeSpec.witness6 (enc := enc) (C := Try.checked) false ⟨#[], #[.agg #[.int .u8 0, .int .u8 0, .float .f64 0, .string ⟨#[]⟩, .int .i64 0, .int .u8 0, .float .f64 0, .string ⟨#[]⟩, .int .i64 0, .int .u8 0, .float .f64 0, .string ⟨#[]⟩, .int .i64 0, .bool false, .bool false, .bool false]], []⟩ 8 (by kernel_rfl) (by kernel_rfl) (by kernel_rfl) (by kernel_rfl)) ?_
  intro W base args ds gs before hval0 hW hcnd _
  have hval : ∀ (j : Nat) t v, Try.f3.params[j]? = some t → args[j]? = some v → Value.okWide Try.prog W .any base t v := hval0
  have hW' := hW
  obtain ⟨p, q, hA0, hV, rfl, hfz, hnd⟩ := hW
  have hA : DataW.TrodAll enc Try.prog W 0 (fun _ => true) true Try.f3.params.toList args.toList ds p := hA0
  rw [Try.params3] at hA hval
  obtain ⟨v0, vs0, d0, ds0, p0, q0, hargs, rfl, rfl, h0, r0⟩ := trodAll_cons hA
  obtain ⟨rfl, rfl, rfl⟩ := trodAll_nil r0
  obtain rfl : args = #[v0] := by cases args; simp_all
  obtain ⟨rfl, rfl⟩ := trodVars_none hV
  obtain ⟨f0, g0⟩ := Sx.open_flat (d := 10) (hval 0 26 v0 rfl rfl) h0 (tys := [Sx.fullTy .u8, Sx.fullTy .u8, .f64, .str, Sx.fullTy .i64, Sx.fullTy .u8, .f64, .str, Sx.fullTy .i64, Sx.fullTy .u8, .f64, .str, Sx.fullTy .i64, .bool, .bool, .bool]) (by kernel_rfl)
  obtain ⟨x0_0, y0_0, e0_0, ⟨c0_0, rfl, l0_0, u0_0⟩, f0_0⟩ := Sx.all2_cons f0
  obtain ⟨x0_1, y0_1, e0_1, ⟨c0_1, rfl, l0_1, u0_1⟩, f0_1⟩ := Sx.all2_cons f0_0
  obtain ⟨x0_2, y0_2, e0_2, ⟨c0_2, rfl⟩, f0_2⟩ := Sx.all2_cons f0_1
  obtain ⟨x0_3, y0_3, e0_3, ⟨c0_3, rfl⟩, f0_3⟩ := Sx.all2_cons f0_2
  obtain ⟨x0_4, y0_4, e0_4, ⟨c0_4, rfl, l0_4, u0_4⟩, f0_4⟩ := Sx.all2_cons f0_3
  obtain ⟨x0_5, y0_5, e0_5, ⟨c0_5, rfl, l0_5, u0_5⟩, f0_5⟩ := Sx.all2_cons f0_4
  obtain ⟨x0_6, y0_6, e0_6, ⟨c0_6, rfl⟩, f0_6⟩ := Sx.all2_cons f0_5
  obtain ⟨x0_7, y0_7, e0_7, ⟨c0_7, rfl⟩, f0_7⟩ := Sx.all2_cons f0_6
  obtain ⟨x0_8, y0_8, e0_8, ⟨c0_8, rfl, l0_8, u0_8⟩, f0_8⟩ := Sx.all2_cons f0_7
  obtain ⟨x0_9, y0_9, e0_9, ⟨c0_9, rfl, l0_9, u0_9⟩, f0_9⟩ := Sx.all2_cons f0_8
  obtain ⟨x0_10, y0_10, e0_10, ⟨c0_10, rfl⟩, f0_10⟩ := Sx.all2_cons f0_9
  obtain ⟨x0_11, y0_11, e0_11, ⟨c0_11, rfl⟩, f0_11⟩ := Sx.all2_cons f0_10
  obtain ⟨x0_12, y0_12, e0_12, ⟨c0_12, rfl, l0_12, u0_12⟩, f0_12⟩ := Sx.all2_cons f0_11
  obtain ⟨x0_13, y0_13, e0_13, ⟨c0_13, rfl⟩, f0_13⟩ := Sx.all2_cons f0_12
  obtain ⟨x0_14, y0_14, e0_14, ⟨c0_14, rfl⟩, f0_14⟩ := Sx.all2_cons f0_13
  obtain ⟨x0_15, y0_15, e0_15, ⟨c0_15, rfl⟩, f0_15⟩ := Sx.all2_cons f0_14
  obtain rfl := Sx.all2_nil f0_15
  have a0 : v0.cells.toList = [.int .u8 c0_0, .int .u8 c0_1, .float .f64 c0_2, .string c0_3, .int .i64 c0_4, .int .u8 c0_5, .float .f64 c0_6, .string c0_7, .int .i64 c0_8, .int .u8 c0_9, .float .f64 c0_10, .string c0_11, .int .i64 c0_12, .bool c0_13, .bool c0_14, .bool c0_15] := by rw [e0_0, e0_1, e0_2, e0_3, e0_4, e0_5, e0_6, e0_7, e0_8, e0_9, e0_10, e0_11, e0_12, e0_13, e0_14, e0_15]
  have b0 : v0 = .agg #[.int .u8 c0_0, .int .u8 c0_1, .float .f64 c0_2, .string c0_3, .int .i64 c0_4, .int .u8 c0_5, .float .f64 c0_6, .string c0_7, .int .i64 c0_8, .int .u8 c0_9, .float .f64 c0_10, .string c0_11, .int .i64 c0_12, .bool c0_13, .bool c0_14, .bool c0_15] := by
    rcases g0 with ⟨_, g⟩ | ⟨hn, _⟩
    · rw [g, ← Array.toArray_toList (xs := v0.cells), a0]
    · exact absurd Try.underlying26 (hn _)
  subst b0
  refine (walk c0_0 c0_1 c0_2 c0_3 c0_4 c0_5 c0_6 c0_7 c0_8 c0_9 c0_10 c0_11 c0_12 c0_13 c0_14 c0_15 l0_0 (u0_0 _ rfl) l0_1 (u0_1 _ rfl) l0_4 (u0_4 _ rfl) l0_5 (u0_5 _ rfl) l0_8 (u0_8 _ rfl) l0_9 (u0_9 _ rfl) l0_12 (u0_12 _ rfl)  W).mono fun e W' ⟨he, hg⟩ => ?_
  subst he
  refine ⟨_, rfl, Sx.law_post (tb := 4) (by kernel_rfl) ?_ rfl Try.underlying4 rfl rfl rfl rfl hW' hg⟩
  intro t ht
  rw [Try.params3] at ht
  simp only [List.mem_cons, List.not_mem_nil, or_false] at ht
  rcases ht with rfl <;> exact ⟨by kernel_rfl, of_decide_eq_true (by kernel_rfl)⟩

theorem over : Rows.objectFieldsRow.holds Try.pinned (OpenSpec.ofChange Rows.objectFieldsSpec) :=
  OpenClaim.holds_of_wide 3 Try.f3 rfl rfl rfl rfl rfl rfl rfl ⟨rfl, rfl, rfl, rfl, rfl⟩ rfl rfl rfl rfl rfl (by kernel_rfl) Try.func3 (by kernel_rfl)
    (of_decide_eq_true (by kernel_rfl)) (by unfold Func.isWrapper; first | (rw [if_pos (by decide +kernel)]; kernel_rfl) | (rw [if_neg (by decide +kernel)]; exact ⟨rfl, rfl⟩))
    (fun os started H enc _ => lifted os started H enc)

/-- THE STATEMENT -/
theorem proved : Rows.ObjectFieldsSaid :=
  over
#print axioms proved
end Go.Proofs.Ytobghgfmdjknlaa.objectFields
