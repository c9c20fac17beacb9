/-
  Texts merged into one, to keep the claim small: ProtoDecodes.
-/
import Derived.Test.YtahhecendjfenaaMd0
import Derived.Test.YtahhecendjfenaaMd48
/-
  ProtoDecodes: the call returns true for every input, and each argument reads afterwards as it read before. No condition of our own.
-/
namespace Go.Proofs.Ytahhecendjfenaa.protoDecodes
open Go.ChangeShapes Go.WideShapes Go.ChangeAt Go.RowKit Go.Deep Go.Joins
open Go.ChangeMaps (open_string shut_string)
set_option linter.unusedVariables false

theorem own : ownKnob Try.prog.godebug = none := by kernel_rfl
theorem laidOut : laidOutB Try.prog = true := by kernel_rfl

set_option maxRecDepth 100000 in
theorem lifted (os : Os) (started : os.Started) (H : Type) (enc : TypeId × Value → H) :
    ReturnsInHanded {} Try.checked os 5 .any (Rows.protoDecodesSpec.pre6 enc Try.prog Try.f5 Rows.protoDecodesRow.domain false) (Rows.protoDecodesSpec.post enc Try.prog Try.f5 false true false false) := by
  refine returnsInHanded_of_change_sized (C := Try.checked) own started (by kernel_rfl) Try.func5
    (ChangeSpec.witness6 (enc := enc) (C := Try.checked) false ⟨#[], #[.slice none 0 0, .slice none 0 0], []⟩ 8 (by kernel_rfl) (by kernel_rfl) (by kernel_rfl) (by kernel_rfl)) ?_
  intro W base args ds gs before hval0 hW _ hsz0 _
  have hval : ∀ (j : Nat) t v, Try.f5.params[j]? = some t → args[j]? = some v → Value.okWide Try.prog W .any base t v := hval0
  refine law_contract laidOut (of_decide_eq_true (by kernel_rfl)) rfl Try.underlying4 rfl (fun ds h => by have h2 : ds.length = 2 := h.trans (by kernel_rfl); match ds, h2 with | [e0, e1], _ => exact ⟨rfl, rfl, rfl⟩) hW ?_
  obtain ⟨p, q, hA0, hV, hpq, hfz, hnd⟩ := hW
  have hA : DataW.TrodAll enc Try.prog W 0 (fun _ => true) true Try.f5.params.toList args.toList ds p := hA0
  obtain ⟨rfl, rfl⟩ := trodVars_none hV
  have hsz := hsz0
  rw [Try.params5] at hA hval hsz
  obtain ⟨v0, vs0, d0, ds0, p0, q0, hargs, rfl, rfl, h0, r0⟩ := trodAll_cons hA
  obtain ⟨v1, vs1, d1, ds1, p1, q1, rfl, rfl, rfl, h1, r1⟩ := trodAll_cons r0
  obtain ⟨rfl, rfl, rfl⟩ := trodAll_nil r1
  obtain rfl : args = #[v0, v1] := by cases args; simp_all
  clear hA0 hval0 hsz0
  obtain ⟨fuel, hf⟩ := h0
  obtain ⟨A, n, c, xs, hcs, hn, hc, hl, h256, hS, hlen⟩ := open_bytes Try.underlying33 Try.underlying5 (by kernel_rfl) hf
  obtain ⟨la, ll, lc, rfl⟩ := okWide_slice Try.underlying33 (hval 0 _ v0 rfl rfl)
  simp [Value.cells] at hcs
  obtain ⟨rfl, rfl, rfl⟩ := hcs
  obtain ⟨fuel2, hf2⟩ := h1
  obtain ⟨B, m, d, zs, hcs2, hm, hd2, hl2, hz256, hSz, hlen2⟩ := open_bytes Try.underlying33 Try.underlying5 (by kernel_rfl) hf2
  obtain ⟨lb, lm, ld, rfl⟩ := okWide_slice Try.underlying33 (hval 1 _ v1 rfl rfl)
  simp [Value.cells] at hcs2
  obtain ⟨rfl, rfl, rfl⟩ := hcs2
  have hsl : ll ≤ 140737488351232 := by
    rcases hlen with h0 | ⟨el, sp, hd, hl⟩
    · subst h0; omega
    · have := sized_slice hsz (j := 0) (t := 33) (elems := el) (spare := sp) rfl (by simpa using hd) Try.underlying33
      rw [show Try.checked.prog.bytesOf 5 = 1 from by kernel_rfl] at this
      have e : reachBytes = 140737488351232 := by decide
      omega
  exact decodes_any W xs la ll lc hl hsl h256 hS zs lb lm ld hl2 hz256 hSz

theorem over : Rows.protoDecodesRow.holds Try.pinned (OpenSpec.ofChange Rows.protoDecodesSpec) :=
  OpenClaim.holds_of_wide 5 Try.f5 rfl rfl rfl rfl rfl rfl rfl ⟨rfl, rfl, rfl, rfl, rfl⟩ rfl rfl rfl rfl rfl (by kernel_rfl) Try.func5 (by kernel_rfl)
    (of_decide_eq_true (by kernel_rfl)) (by unfold Func.isWrapper; first | (rw [if_pos (by decide +kernel)]; kernel_rfl) | (rw [if_neg (by decide +kernel)]; exact ⟨rfl, rfl⟩))
    (fun os started H enc _ => lifted os started H enc)

/-- The statement. -/
theorem proved : Rows.ProtoDecodesSaid := over
#print axioms proved
end Go.Proofs.Ytahhecendjfenaa.protoDecodes
