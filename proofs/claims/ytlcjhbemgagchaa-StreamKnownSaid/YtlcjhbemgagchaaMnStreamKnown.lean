/-
  Texts merged into one, to keep the claim small: StreamKnown.
-/
import Derived.Test.YtlcjhbemgagchaaMc0
import Derived.Test.YtlcjhbemgagchaaMnSx2
/-
  StreamKnown: the call returns true for every input, and each argument reads afterwards as it read before. No condition of our own.
-/
namespace Go.Proofs.Ytlcjhbemgagchaa.streamKnown
open Go.ChangeShapes Go.WideShapes Go.ChangeAt Go.RowKit Go.Deep Go.Joins
open Go.ChangeMaps (open_string shut_string)
set_option linter.unusedVariables false

theorem own : ownKnob Try.prog.godebug = none := by kernel_rfl
theorem laidOut : laidOutB Try.prog = true := by kernel_rfl

set_option maxRecDepth 100000 in
theorem lifted (os : Os) (started : os.Started) (H : Type) (enc : TypeId × Value → H) :
    ReturnsInHanded {} Try.checked os 7 .any (Rows.streamKnownSpec.pre6 enc Try.prog Try.f7 Rows.streamKnownRow.domain false) (Rows.streamKnownSpec.post enc Try.prog Try.f7 false true false false) := by
  refine returnsInHanded_of_change_sized (C := Try.checked) own started (by kernel_rfl) Try.func7
    (ChangeSpec.witness6 (enc := enc) (C := Try.checked) false ⟨#[], #[], []⟩ 8 (by kernel_rfl) (by kernel_rfl) (by kernel_rfl) (by kernel_rfl)) ?_
  intro W base args ds gs before hval0 hW _ hsz0 _
  have hval : ∀ (j : Nat) t v, Try.f7.params[j]? = some t → args[j]? = some v → Value.okWide Try.prog W .any base t v := hval0
  refine law_contract laidOut (of_decide_eq_true (by kernel_rfl)) rfl Try.underlying4 rfl (fun ds h => by have h2 : ds.length = 0 := h.trans (by kernel_rfl); match ds, h2 with | [], _ => exact ⟨rfl, rfl, rfl⟩) hW ?_
  obtain ⟨p, q, hA0, hV, hpq, hfz, hnd⟩ := hW
  have hA : DataW.TrodAll enc Try.prog W 0 (fun _ => true) true Try.f7.params.toList args.toList ds p := hA0
  obtain ⟨rfl, rfl⟩ := trodVars_none hV
  have hsz := hsz0
  rw [Try.params7] at hA hval hsz
  obtain hargs : args.toList = [] := List.eq_nil_of_length_eq_zero (by have := (trodAll_length hA).2; simpa using this)
  obtain rfl : ds = [] := List.eq_nil_of_length_eq_zero (by have := (trodAll_length hA).1; simpa using this)
  obtain rfl : args = #[] := by cases args; simp_all
  clear hA0 hval0 hsz0
  exact (known_walk29 W).mono fun e w' ⟨he, hf⟩ => ⟨he, hf.toBelow (Nat.le_refl _) (fun _ _ => id)⟩

theorem over : Rows.streamKnownRow.holds Try.pinned (OpenSpec.ofChange Rows.streamKnownSpec) :=
  OpenClaim.holds_of_wide 7 Try.f7 rfl rfl rfl rfl rfl rfl rfl ⟨rfl, rfl, rfl, rfl, rfl⟩ rfl rfl rfl rfl rfl (by kernel_rfl) Try.func7 (by kernel_rfl)
    (of_decide_eq_true (by kernel_rfl)) (by unfold Func.isWrapper; first | (rw [if_pos (by decide +kernel)]; kernel_rfl) | (rw [if_neg (by decide +kernel)]; exact ⟨rfl, rfl⟩))
    (fun os started H enc _ => lifted os started H enc)

/-- The statement. -/
theorem proved : Rows.StreamKnownSaid := over
#print axioms proved
end Go.Proofs.Ytlcjhbemgagchaa.streamKnown
