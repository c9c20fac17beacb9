/-
  TlvReads: the call returns true for every input, and each argument reads afterwards as it read before. No condition of our own.
-/
import Derived.Test.YtbglloafbmamoaaFrame
import Derived.Test.YtbglloafbmamoaaBulkR
namespace Go.Proofs.Ytbglloafbmamoaa.tlvReads
open Go.ChangeShapes Go.WideShapes Go.ChangeAt Go.RowKit Go.Deep Go.Joins
open Go.ChangeMaps (open_string shut_string)
set_option linter.unusedVariables false

theorem own : ownKnob Try.prog.godebug = none := by kernel_rfl
theorem laidOut : laidOutB Try.prog = true := by kernel_rfl

set_option maxRecDepth 100000 in
theorem lifted (os : Os) (started : os.Started) (H : Type) (enc : TypeId × Value → H) :
    ReturnsInHanded {} Try.checked os 9 .any (Rows.tlvReadsSpec.pre6 enc Try.prog Try.f9 Rows.tlvReadsRow.domain false) (Rows.tlvReadsSpec.post enc Try.prog Try.f9 false true false false) := by
  refine returnsInHanded_of_change_sized (C := Try.checked) own started (by kernel_rfl) Try.func9
    (ChangeSpec.witness6 (enc := enc) (C := Try.checked) false ⟨#[], #[.slice none 0 0, .slice none 0 0], []⟩ 8 (by kernel_rfl) (by kernel_rfl) (by kernel_rfl) (by kernel_rfl)) ?_
  intro W base args ds gs before hval0 hW _ hsz0 _
  have hval : ∀ (j : Nat) t v, Try.f9.params[j]? = some t → args[j]? = some v → Value.okWide Try.prog W .any base t v := hval0
  refine law_contract laidOut (of_decide_eq_true (by kernel_rfl)) rfl Try.underlying4 rfl (fun ds h => by have h2 : ds.length = 2 := h.trans (by kernel_rfl); match ds, h2 with | [e0, e1], _ => exact ⟨rfl, rfl, rfl⟩) hW ?_
  obtain ⟨p, q, hA0, hV, hpq, hfz, hnd⟩ := hW
  have hA : DataW.TrodAll enc Try.prog W 0 (fun _ => true) true Try.f9.params.toList args.toList ds p := hA0
  obtain ⟨rfl, rfl⟩ := trodVars_none hV
  have hsz := hsz0
  rw [Try.params9] at hA hval hsz
  obtain ⟨v0, vs0, d0, ds0, p0, q0, hargs, rfl, rfl, h0, r0⟩ := trodAll_cons hA
  obtain ⟨v1, vs1, d1, ds1, p1, q1, rfl, rfl, rfl, h1, r1⟩ := trodAll_cons r0
  obtain ⟨rfl, rfl, rfl⟩ := trodAll_nil r1
  obtain rfl : args = #[v0, v1] := by cases args; simp_all
  clear hA0 hval0 hsz0
  obtain ⟨fuel, hf⟩ := h0
  obtain ⟨fuel1, hf1⟩ := h1
  obtain ⟨A, n, c, xs, hcs, hn, hc, hl, h256, hS, hlen⟩ := open_bytes Try.underlying23 Try.underlying5 (by kernel_rfl) hf
  obtain ⟨la, ll, lc, rfl⟩ := okWide_slice Try.underlying23 (hval 0 _ v0 rfl rfl)
  simp [Value.cells] at hcs
  obtain ⟨rfl, rfl, rfl⟩ := hcs
  obtain ⟨V, m, d, sc, hcs, hmd, hd, hlen2, hR⟩ := open_rscript hf1
  obtain ⟨va, vl, vc, rfl⟩ := okWide_slice Try.underlying83 (hval 1 _ v1 rfl rfl)
  simp [Value.cells] at hcs
  obtain ⟨rfl, rfl, rfl⟩ := hcs
  have e : reachBytes = 140737488351232 := by decide
  have hsl : ll ≤ 140737488351232 := by
    rcases hlen with h0 | ⟨el, sp, hd, hl⟩
    · subst h0; omega
    · have := sized_slice hsz (j := 0) (t := 23) (elems := el) (spare := sp) rfl (by simpa using hd) Try.underlying23
      rw [show Try.checked.prog.bytesOf 5 = 1 from by kernel_rfl] at this
      omega
  have hsv : vl ≤ 140737488351232 := by
    rcases hlen2 with h0 | ⟨el, sp, hd, hl⟩
    · subst h0; omega
    · have := sized_slice hsz (j := 1) (t := 83) (elems := el) (spare := sp) rfl (by simpa using hd) Try.underlying83
      rw [show Try.checked.prog.bytesOf 91 = 40 from by kernel_rfl] at this
      omega
  exact treads_walk W xs la ll lc (by omega) hn (by unfold maxLen at hc; exact hc) hl h256 hS sc va vl vc (by omega) hR

theorem over : Rows.tlvReadsRow.holds Try.pinned (OpenSpec.ofChange Rows.tlvReadsSpec) :=
  OpenClaim.holds_of_wide 9 Try.f9 rfl rfl rfl rfl rfl rfl rfl ⟨rfl, rfl, rfl, rfl, rfl⟩ rfl rfl rfl rfl rfl (by kernel_rfl) Try.func9 (by kernel_rfl)
    (of_decide_eq_true (by kernel_rfl)) (by unfold Func.isWrapper; first | (rw [if_pos (by decide +kernel)]; kernel_rfl) | (rw [if_neg (by decide +kernel)]; exact ⟨rfl, rfl⟩))
    (fun os started H enc _ => lifted os started H enc)

/-- The statement. -/
theorem proved : Rows.TlvReadsSaid := over
#print axioms proved
end Go.Proofs.Ytbglloafbmamoaa.tlvReads
