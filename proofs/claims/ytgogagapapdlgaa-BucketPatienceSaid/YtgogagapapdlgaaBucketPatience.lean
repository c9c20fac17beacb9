/-
  BucketPatience: the call returns true for every input, and each argument reads afterwards as it read before. No condition of our own.
-/
import Derived.Test.YtgogagapapdlgaaFrame
import Derived.Test.YtgogagapapdlgaaBkPat
namespace Go.Proofs.Ytgogagapapdlgaa.bucketPatience
open Go.ChangeShapes Go.WideShapes Go.ChangeAt Go.RowKit Go.Deep Go.Joins
open Go.ChangeMaps (open_string shut_string)
set_option linter.unusedVariables false

theorem own : ownKnob Try.prog.godebug = none := by kernel_rfl
theorem laidOut : laidOutB Try.prog = true := by kernel_rfl

set_option maxRecDepth 100000 in
theorem lifted (os : Os) (started : os.Started) (H : Type) (enc : TypeId × Value → H) :
    ReturnsInHanded {} Try.checked os 5 .any (Rows.bucketPatienceSpec.pre6 enc Try.prog Try.f5 Rows.bucketPatienceRow.domain false) (Rows.bucketPatienceSpec.post enc Try.prog Try.f5 false true false false) := by
  refine returnsInHanded_of_change_sized (C := Try.checked) own started (by kernel_rfl) Try.func5
    (ChangeSpec.witness6 (enc := enc) (C := Try.checked) false ⟨#[], #[.agg #[.int .i64 0, .int .i64 0, .int .i64 0], .slice none 0 0, .int .i64 0, .int .i64 0], []⟩ 8 (by kernel_rfl) (by kernel_rfl) (by kernel_rfl) (by kernel_rfl)) ?_
  intro W base args ds gs before hval0 hW _ hsz0 _
  have hval : ∀ (j : Nat) t v, Try.f5.params[j]? = some t → args[j]? = some v → Value.okWide Try.prog W .any base t v := hval0
  refine law_contract laidOut (of_decide_eq_true (by kernel_rfl)) rfl Try.underlying4 rfl (fun ds h => by have h2 : ds.length = 4 := h.trans (by kernel_rfl); match ds, h2 with | [e0, e1, e2, e3], _ => exact ⟨rfl, rfl, rfl⟩) hW ?_
  obtain ⟨p, q, hA0, hV, hpq, hfz, hnd⟩ := hW
  have hA : DataW.TrodAll enc Try.prog W 0 (fun _ => true) true Try.f5.params.toList args.toList ds p := hA0
  obtain ⟨rfl, rfl⟩ := trodVars_none hV
  have hsz := hsz0
  rw [Try.params5] at hA hval hsz
  obtain ⟨v0, vs0, d0, ds0, p0, q0, hargs, rfl, rfl, h0, r0⟩ := trodAll_cons hA
  obtain ⟨v1, vs1, d1, ds1, p1, q1, rfl, rfl, rfl, h1, r1⟩ := trodAll_cons r0
  obtain ⟨v2, vs2, d2, ds2, p2, q2, rfl, rfl, rfl, h2, r2⟩ := trodAll_cons r1
  obtain ⟨v3, vs3, d3, ds3, p3, q3, rfl, rfl, rfl, h3, r3⟩ := trodAll_cons r2
  obtain ⟨rfl, rfl, rfl⟩ := trodAll_nil r3
  obtain rfl : args = #[v0, v1, v2, v3] := by cases args; simp_all
  clear hA0 hval0 hsz0
  obtain ⟨a0, a1, a2, y0, y1, y2, m, rfl, _, _, hy0, hy1, hy2⟩ := open_agg3 Try.underlying23 (by kernel_rfl) (by kernel_rfl) (hval 0 _ v0 rfl rfl) h0
  obtain ⟨x0, e0, _, w0⟩ := DataW.trod_int Try.underlying3 hy0
  obtain ⟨x1, e1, _, w1⟩ := DataW.trod_int Try.underlying3 hy1
  obtain ⟨x2, e2, _, w2⟩ := DataW.trod_int Try.underlying3 hy2
  simp only [List.cons.injEq, and_true] at e0 e1 e2
  subst e0 e1 e2
  obtain ⟨fuel, hf⟩ := h1
  obtain ⟨A, n, c, f, hcs, hn, hc, hlen, hcell, hfld⟩ := open_structs Try.underlying24 Try.underlying31 (by kernel_rfl) (by kernel_rfl) (by decide) hf
  obtain ⟨la, ll, lc, rfl⟩ := okWide_slice Try.underlying24 (hval 1 _ v1 rfl rfl)
  simp [Value.cells] at hcs
  obtain ⟨rfl, rfl, rfl⟩ := hcs
  have hf0 : ∀ i, i < ll → ∃ z, f i 0 = .int .i64 z := fun i hi => by
    obtain ⟨y, m, hy⟩ := hfld i hi 0 _ rfl
    obtain ⟨z, e, _⟩ := DataW.trod_int Try.underlying3 hy
    exact ⟨z, by simpa using e⟩
  have hf2 : ∀ i, i < ll → ∃ z, f i 2 = .int .i64 z ∧ -9223372036854775808 ≤ z ∧ z ≤ 9223372036854775807 := fun i hi => by
    obtain ⟨y, m, hy⟩ := hfld i hi 2 _ rfl
    obtain ⟨z, e, _, wf⟩ := DataW.trod_int Try.underlying3 hy
    exact ⟨z, by simpa using e, bd64 wf⟩
  have hkd : ∀ i, i < ll → f i 0 = .int .i64 (intOf (f i 0)) := fun i hi => by obtain ⟨z, e⟩ := hf0 i hi; rw [e]; rfl
  have hnn : ∀ i, i < ll → f i 2 = .int .i64 (intOf (f i 2)) ∧ -9223372036854775808 ≤ intOf (f i 2) ∧ intOf (f i 2) ≤ 9223372036854775807 := fun i hi => by obtain ⟨z, e, b⟩ := hf2 i hi; rw [e]; exact ⟨rfl, b⟩
  have hsl : ll * 48 ≤ 140737488355328 := by
    rcases hlen with h0 | ⟨el, sp, hd, hl⟩
    · subst h0; omega
    · have := sized_slice hsz (j := 1) (t := 24) (elems := el) (spare := sp) rfl (by simpa using hd) Try.underlying24
      rw [show Try.checked.prog.bytesOf 31 = 48 from by kernel_rfl] at this
      have := reachBytes_lt
      omega
  obtain ⟨nq, rfl, rfl, rfl, wf2⟩ := open_int Try.underlying3 (hval 2 _ v2 rfl rfl) h2
  obtain ⟨mr, rfl, rfl, rfl, wf3⟩ := open_int Try.underlying3 (hval 3 _ v3 rfl rfl) h3
  exact patience_walk W x0 x1 x2 (bd64 w0).1 (bd64 w0).2 (bd64 w1).1 (bd64 w1).2 (bd64 w2).1 (bd64 w2).2 la ll lc (by omega) nq mr f (fun i => intOf (f i 0)) (fun i => intOf (f i 2)) hcell hkd hnn

theorem over : Rows.bucketPatienceRow.holds Try.pinned (OpenSpec.ofChange Rows.bucketPatienceSpec) :=
  OpenClaim.holds_of_wide 5 Try.f5 rfl rfl rfl rfl rfl rfl rfl ⟨rfl, rfl, rfl, rfl, rfl⟩ rfl rfl rfl rfl rfl (by kernel_rfl) Try.func5 (by kernel_rfl)
    (of_decide_eq_true (by kernel_rfl)) (by unfold Func.isWrapper; first | (rw [if_pos (by decide +kernel)]; kernel_rfl) | (rw [if_neg (by decide +kernel)]; exact ⟨rfl, rfl⟩))
    (fun os started H enc _ => lifted os started H enc)

/-- The statement. -/
theorem proved : Rows.BucketPatienceSaid := over
#print axioms proved
end Go.Proofs.Ytgogagapapdlgaa.bucketPatience
