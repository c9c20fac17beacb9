/-
  Texts merged into one, to keep the claim small: ProtoUnlike.
-/
import Derived.Test.YtahhecendjfenaaMd0
import Derived.Test.YtahhecendjfenaaMuC
import Derived.Test.YtahhecendjfenaaMbC
/-
  ProtoUnlike: the call returns true for every input, and each argument reads afterwards as it read before. No condition of our own.
-/
namespace Go.Proofs.Ytahhecendjfenaa.protoUnlike
open Go.ChangeShapes Go.WideShapes Go.ChangeAt Go.RowKit Go.Deep Go.Joins
open Go.ChangeMaps (open_string shut_string)
set_option linter.unusedVariables false

theorem own : ownKnob Try.prog.godebug = none := by kernel_rfl
theorem laidOut : laidOutB Try.prog = true := by kernel_rfl

set_option maxHeartbeats 4000000 in
set_option maxRecDepth 100000 in
theorem lifted (os : Os) (started : os.Started) (H : Type) (enc : TypeId × Value → H) :
    ReturnsInHanded {} Try.checked os 6 .any (Rows.protoUnlikeSpec.pre6 enc Try.prog Try.f6 Rows.protoUnlikeRow.domain false) (Rows.protoUnlikeSpec.post enc Try.prog Try.f6 false true false false) := by
  refine returnsInHanded_of_change_sized (C := Try.checked) own started (by kernel_rfl) Try.func6
    (ChangeSpec.witness6 (enc := enc) (C := Try.checked) false ⟨#[], #[.agg #[.int .i64 0, .int .i64 0, .string ⟨#[]⟩, .int .i64 0, .int .u64 0, .int .i64 0, .int .i64 0, .int .i64 0, .int .i64 0, .int .i64 0, .int .u64 0, .int .u64 0, .slice none 0 0, .int .i64 0, .int .i64 0, .int .i64 0, .int .i64 0, .int .i64 0, .int .i64 0, .int .u64 0, .int .u64 0, .int .u64 0, .int .i64 0, .slice none 0 0], .agg #[.int .i64 0, .int .i64 0, .string ⟨#[]⟩, .int .i64 0, .int .u64 0, .int .i64 0, .int .i64 0, .int .i64 0, .int .i64 0, .int .i64 0, .int .u64 0, .int .u64 0, .slice none 0 0, .int .i64 0, .int .i64 0, .int .i64 0, .int .i64 0, .int .i64 0, .int .i64 0, .int .u64 0, .int .u64 0, .int .u64 0, .int .i64 0, .slice none 0 0], .agg #[.int .i64 0, .int .i64 0, .int .i64 0, .int .u64 0, .slice none 0 0, .string ⟨#[]⟩, .int .u32 0, .int .i64 0, .int .i64 0, .int .i64 0, .int .i64 0, .int .i64 0, .int .i64 0, .int .u64 0, .int .u64 0, .int .u64 0, .int .i64 0, .slice none 0 0], .agg #[.int .i64 0, .int .i64 0, .int .i64 0, .int .u64 0, .slice none 0 0, .string ⟨#[]⟩, .int .u32 0, .int .i64 0, .int .i64 0, .int .i64 0, .int .i64 0, .int .i64 0, .int .i64 0, .int .u64 0, .int .u64 0, .int .u64 0, .int .i64 0, .slice none 0 0]], []⟩ 8 (by kernel_rfl) (by kernel_rfl) (by kernel_rfl) (by kernel_rfl)) ?_
  intro W base args ds gs before hval0 hW _ hsz0 _
  have hval : ∀ (j : Nat) t v, Try.f6.params[j]? = some t → args[j]? = some v → Value.okWide Try.prog W .any base t v := hval0
  refine law_contract laidOut (of_decide_eq_true (by kernel_rfl)) rfl Try.underlying4 rfl (fun ds h => by have h2 : ds.length = 4 := h.trans (by kernel_rfl); match ds, h2 with | [e0, e1, e2, e3], _ => exact ⟨rfl, rfl, rfl⟩) hW ?_
  obtain ⟨p, q, hA0, hV, hpq, hfz, hnd⟩ := hW
  have hA : DataW.TrodAll enc Try.prog W 0 (fun _ => true) true Try.f6.params.toList args.toList ds p := hA0
  obtain ⟨rfl, rfl⟩ := trodVars_none hV
  have hsz := hsz0
  rw [Try.params6] at hA hval hsz
  obtain ⟨v0, vs0, d0, ds0, p0, q0, hargs, rfl, rfl, h0, r0⟩ := trodAll_cons hA
  obtain ⟨v1, vs1, d1, ds1, p1, q1, rfl, rfl, rfl, h1, r1⟩ := trodAll_cons r0
  obtain ⟨v2, vs2, d2, ds2, p2, q2, rfl, rfl, rfl, h2, r2⟩ := trodAll_cons r1
  obtain ⟨v3, vs3, d3, ds3, p3, q3, rfl, rfl, rfl, h3, r3⟩ := trodAll_cons r2
  obtain ⟨rfl, rfl, rfl⟩ := trodAll_nil r3
  obtain rfl : args = #[v0, v1, v2, v3] := by cases args; simp_all
  clear hA0 hval0 hsz0
  obtain ⟨fu0, hf0⟩ := h0
  have hw0 : ∀ v ∈ d0.weights Try.prog 47, v ≤ reachBytes := fun v hv => of_decide_eq_true (List.all_eq_true.1 hsz _ (DataW.weights_mem_each (j := 0) rfl rfl _ hv))
  obtain ⟨y0, hcs0, hat0, hwf0⟩ := open_command hf0 hw0
  obtain ⟨cs0, rfl, -⟩ := okWide_struct Try.underlying47 (hval 0 _ v0 rfl rfl)
  have eq0 : cs0 = y0.cells.toArray := by
    have h3 : cs0.toList = y0.cells := by simpa [Value.cells] using hcs0
    rw [← h3]
  subst eq0
  obtain ⟨fu1, hf1⟩ := h1
  have hw1 : ∀ v ∈ d1.weights Try.prog 47, v ≤ reachBytes := fun v hv => of_decide_eq_true (List.all_eq_true.1 hsz _ (DataW.weights_mem_each (j := 1) rfl rfl _ hv))
  obtain ⟨y1, hcs1, hat1, hwf1⟩ := open_command hf1 hw1
  obtain ⟨cs1, rfl, -⟩ := okWide_struct Try.underlying47 (hval 1 _ v1 rfl rfl)
  have eq1 : cs1 = y1.cells.toArray := by
    have h3 : cs1.toList = y1.cells := by simpa [Value.cells] using hcs1
    rw [← h3]
  subst eq1
  obtain ⟨fu2, hf2⟩ := h2
  have hw2 : ∀ v ∈ d2.weights Try.prog 30, v ≤ reachBytes := fun v hv => of_decide_eq_true (List.all_eq_true.1 hsz _ (DataW.weights_mem_each (j := 2) rfl rfl _ hv))
  obtain ⟨y2, hcs2, hat2, hwf2⟩ := open_reply hf2 hw2
  obtain ⟨cs2, rfl, -⟩ := okWide_struct Try.underlying30 (hval 2 _ v2 rfl rfl)
  have eq2 : cs2 = y2.cells.toArray := by
    have h3 : cs2.toList = y2.cells := by simpa [Value.cells] using hcs2
    rw [← h3]
  subst eq2
  obtain ⟨fu3, hf3⟩ := h3
  have hw3 : ∀ v ∈ d3.weights Try.prog 30, v ≤ reachBytes := fun v hv => of_decide_eq_true (List.all_eq_true.1 hsz _ (DataW.weights_mem_each (j := 3) rfl rfl _ hv))
  obtain ⟨y3, hcs3, hat3, hwf3⟩ := open_reply hf3 hw3
  obtain ⟨cs3, rfl, -⟩ := okWide_struct Try.underlying30 (hval 3 _ v3 rfl rfl)
  have eq3 : cs3 = y3.cells.toArray := by
    have h3 : cs3.toList = y3.cells := by simpa [Value.cells] using hcs3
    rw [← h3]
  subst eq3
  exact protoUnlike_any W y0 y1 hat0 hwf0 hat1 hwf1 y2 y3 hat2 hwf2 hat3 hwf3

theorem over : Rows.protoUnlikeRow.holds Try.pinned (OpenSpec.ofChange Rows.protoUnlikeSpec) :=
  OpenClaim.holds_of_wide 6 Try.f6 rfl rfl rfl rfl rfl rfl rfl ⟨rfl, rfl, rfl, rfl, rfl⟩ rfl rfl rfl rfl rfl (by kernel_rfl) Try.func6 (by kernel_rfl)
    (of_decide_eq_true (by kernel_rfl)) (by unfold Func.isWrapper; first | (rw [if_pos (by decide +kernel)]; kernel_rfl) | (rw [if_neg (by decide +kernel)]; exact ⟨rfl, rfl⟩))
    (fun os started H enc _ => lifted os started H enc)

/-- The statement. -/
theorem proved : Rows.ProtoUnlikeSaid := over
#print axioms proved
end Go.Proofs.Ytahhecendjfenaa.protoUnlike
