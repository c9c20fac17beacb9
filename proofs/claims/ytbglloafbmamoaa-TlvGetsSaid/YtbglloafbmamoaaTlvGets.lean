/-
  TlvGets: the call returns true for every input, and each argument reads afterwards as it read before. No condition of our own.
-/
import Derived.Test.YtbglloafbmamoaaFrame
import Derived.Test.YtbglloafbmamoaaBytes
import Derived.Test.YtbglloafbmamoaaTlvGets2
namespace Go.Proofs.Ytbglloafbmamoaa.tlvGets
open Go.ChangeShapes Go.WideShapes Go.ChangeAt Go.RowKit Go.Deep Go.Joins
open Go.ChangeMaps (open_string shut_string)
set_option linter.unusedVariables false

theorem own : ownKnob Try.prog.godebug = none := by kernel_rfl
theorem laidOut : laidOutB Try.prog = true := by kernel_rfl

set_option maxRecDepth 100000 in
theorem lifted (os : Os) (started : os.Started) (H : Type) (enc : TypeId × Value → H) :
    ReturnsInHanded {} Try.checked os 6 .any (Rows.tlvGetsSpec.pre6 enc Try.prog Try.f6 Rows.tlvGetsRow.domain false) (Rows.tlvGetsSpec.post enc Try.prog Try.f6 false true false false) := by
  refine returnsInHanded_of_change_sized (C := Try.checked) own started (by kernel_rfl) Try.func6
    (ChangeSpec.witness6 (enc := enc) (C := Try.checked) false ⟨#[], #[.slice none 0 0], []⟩ 8 (by kernel_rfl) (by kernel_rfl) (by kernel_rfl) (by kernel_rfl)) ?_
  intro W base args ds gs before hval0 hW _ hsz0 _
  have hval : ∀ (j : Nat) t v, Try.f6.params[j]? = some t → args[j]? = some v → Value.okWide Try.prog W .any base t v := hval0
  refine law_contract laidOut (of_decide_eq_true (by kernel_rfl)) rfl Try.underlying4 rfl (fun ds h => by have h2 : ds.length = 1 := h.trans (by kernel_rfl); match ds, h2 with | [e0], _ => exact ⟨rfl, rfl, rfl⟩) hW ?_
  obtain ⟨p, q, hA0, hV, hpq, hfz, hnd⟩ := hW
  have hA : DataW.TrodAll enc Try.prog W 0 (fun _ => true) true Try.f6.params.toList args.toList ds p := hA0
  obtain ⟨rfl, rfl⟩ := trodVars_none hV
  have hsz := hsz0
  rw [Try.params6] at hA hval hsz
  obtain ⟨v0, vs0, d0, ds0, p0, q0, hargs, rfl, rfl, h0, r0⟩ := trodAll_cons hA
  obtain ⟨rfl, rfl, rfl⟩ := trodAll_nil r0
  obtain rfl : args = #[v0] := by cases args; simp_all
  clear hA0 hval0 hsz0
  obtain ⟨fuel, hf⟩ := h0
  obtain ⟨A, n, c, xs, hcs, hn, hc, hl, h256, hS, hlen⟩ := open_bytes Try.underlying23 Try.underlying5 (by kernel_rfl) hf
  obtain ⟨la, ll, lc, rfl⟩ := okWide_slice Try.underlying23 (hval 0 _ v0 rfl rfl)
  simp [Value.cells] at hcs
  obtain ⟨rfl, rfl, rfl⟩ := hcs
  have hsl : ll ≤ 140737488351232 := by
    rcases hlen with h0 | ⟨el, sp, hd, hl⟩
    · subst h0; omega
    · have := sized_slice hsz (j := 0) (t := 23) (elems := el) (spare := sp) rfl (by simpa using hd) Try.underlying23
      rw [show Try.checked.prog.bytesOf 5 = 1 from by kernel_rfl] at this
      have e : reachBytes = 140737488351232 := by decide
      omega
  exact gets_walk W xs la ll lc (by omega) hn (by unfold maxLen at hc; exact hc) hl h256 hS

theorem over : Rows.tlvGetsRow.holds Try.pinned (OpenSpec.ofChange Rows.tlvGetsSpec) :=
  OpenClaim.holds_of_wide 6 Try.f6 rfl rfl rfl rfl rfl rfl rfl ⟨rfl, rfl, rfl, rfl, rfl⟩ rfl rfl rfl rfl rfl (by kernel_rfl) Try.func6 (by kernel_rfl)
    (of_decide_eq_true (by kernel_rfl)) (by unfold Func.isWrapper; first | (rw [if_pos (by decide +kernel)]; kernel_rfl) | (rw [if_neg (by decide +kernel)]; exact ⟨rfl, rfl⟩))
    (fun os started H enc _ => lifted os started H enc)

/-- The statement. -/
theorem proved : Rows.TlvGetsSaid := over
#print axioms proved
end Go.Proofs.Ytbglloafbmamoaa.tlvGets
