/-
  HandlesNever: the call returns true for every input, and each argument reads afterwards as it read before. No condition of our own.
-/
import Derived.Test.YtcfpmnlpoihgfaaFrame
import Derived.Test.YtcfpmnlpoihgfaaFrameW
import Derived.Test.YtcfpmnlpoihgfaaHi4
namespace Go.Proofs.Ytcfpmnlpoihgfaa.handlesNever
open Go.ChangeShapes Go.WideShapes Go.ChangeAt Go.RowKit Go.Deep Go.Joins
open Go.ChangeMaps (open_string shut_string)
set_option linter.unusedVariables false

theorem own : ownKnob Try.prog.godebug = none := by kernel_rfl
theorem laidOut : laidOutB Try.prog = true := by kernel_rfl

set_option maxRecDepth 100000 in
theorem lifted (os : Os) (started : os.Started) (H : Type) (enc : TypeId × Value → H) :
    ReturnsInHanded {} Try.checked os 4 .any (Rows.handlesNeverSpec.pre6 enc Try.prog Try.f4 Rows.handlesNeverRow.domain false) (Rows.handlesNeverSpec.post enc Try.prog Try.f4 false true false false) := by
  refine returnsInHanded_of_change_sized (C := Try.checked) own started (by kernel_rfl) Try.func4
    (ChangeSpec.witness6 (enc := enc) (C := Try.checked) false ⟨#[], #[.int .i64 0, .int .i64 1, .slice none 0 0], []⟩ 8 (by kernel_rfl) (by kernel_rfl) (by kernel_rfl) (by kernel_rfl)) ?_
  intro W base args ds gs before hval0 hW _ hsz0 _
  have hval : ∀ (j : Nat) t v, Try.f4.params[j]? = some t → args[j]? = some v → Value.okWide Try.prog W .any base t v := hval0
  refine law_contract laidOut (of_decide_eq_true (by kernel_rfl)) rfl Try.underlying4 rfl (fun ds h => by have h2 : ds.length = 3 := h.trans (by kernel_rfl); match ds, h2 with | [e0, e1, e2], _ => exact ⟨rfl, rfl, rfl⟩) hW ?_
  obtain ⟨p, q, hA0, hV, hpq, hfz, hnd⟩ := hW
  have hA : DataW.TrodAll enc Try.prog W 0 (fun _ => true) true Try.f4.params.toList args.toList ds p := hA0
  obtain ⟨rfl, rfl⟩ := trodVars_none hV
  have hsz := hsz0
  rw [Try.params4] at hA hval hsz
  obtain ⟨v0, vs0, d0, ds0, p0, q0, hargs, rfl, rfl, h0, r0⟩ := trodAll_cons hA
  obtain ⟨v1, vs1, d1, ds1, p1, q1, rfl, rfl, rfl, h1, r1⟩ := trodAll_cons r0
  obtain ⟨v2, vs2, d2, ds2, p2, q2, rfl, rfl, rfl, h2, r2⟩ := trodAll_cons r1
  obtain ⟨rfl, rfl, rfl⟩ := trodAll_nil r2
  obtain rfl : args = #[v0, v1, v2] := by cases args; simp_all
  clear hA0 hval0 hsz0
  obtain ⟨one, rfl, rfl, rfl, wf0⟩ := open_int Try.underlying3 (hval 0 _ v0 rfl rfl) h0
  obtain ⟨two, rfl, rfl, rfl, wf1⟩ := open_int Try.underlying3 (hval 1 _ v1 rfl rfl) h1
  obtain ⟨fuel, hf⟩ := h2
  obtain ⟨A, n, c, f, hcs, hn, hc, hlen, hcell, hfld⟩ := open_structsW Try.underlying34 Try.underlying37 (by kernel_rfl) (by kernel_rfl) (by decide) hf
  obtain ⟨la, ll, lc, rfl⟩ := okWide_slice Try.underlying34 (hval 2 _ v2 rfl rfl)
  simp [Value.cells] at hcs
  obtain ⟨rfl, rfl, rfl⟩ := hcs
  have hI0 : ∀ i, i < ll → f i 0 = .int .i64 (intOf (f i 0)) := fun i hi => by
    obtain ⟨y, m, hy, _⟩ := hfld i hi 0 _ rfl
    obtain ⟨z, e, _⟩ := DataW.trod_int Try.underlying3 hy
    have e2 : f i 0 = .int .i64 z := by simpa using e
    rw [e2]; rfl
  have hI1 : ∀ i, i < ll → f i 1 = .int .i64 (intOf (f i 1)) := fun i hi => by
    obtain ⟨y, m, hy, _⟩ := hfld i hi 1 _ rfl
    obtain ⟨z, e, _⟩ := DataW.trod_int Try.underlying3 hy
    have e2 : f i 1 = .int .i64 z := by simpa using e
    rw [e2]; rfl
  have hI2 : ∀ i, i < ll → f i 2 = .int .i64 (intOf (f i 2)) := fun i hi => by
    obtain ⟨y, m, hy, _⟩ := hfld i hi 2 _ rfl
    obtain ⟨z, e, _⟩ := DataW.trod_int Try.underlying3 hy
    have e2 : f i 2 = .int .i64 z := by simpa using e
    rw [e2]; rfl
  have hI3 : ∀ i, i < ll → f i 3 = .int .i64 (intOf (f i 3)) := fun i hi => by
    obtain ⟨y, m, hy, _⟩ := hfld i hi 3 _ rfl
    obtain ⟨z, e, _⟩ := DataW.trod_int Try.underlying3 hy
    have e2 : f i 3 = .int .i64 z := by simpa using e
    rw [e2]; rfl
  have hI4 : ∀ i, i < ll → f i 4 = .int .i64 (intOf (f i 4)) := fun i hi => by
    obtain ⟨y, m, hy, _⟩ := hfld i hi 4 _ rfl
    obtain ⟨z, e, _⟩ := DataW.trod_int Try.underlying3 hy
    have e2 : f i 4 = .int .i64 z := by simpa using e
    rw [e2]; rfl
  have hsl : ll * 40 ≤ 140737488355328 := by
    rcases hlen with h0 | ⟨el, sp, hd, hl⟩
    · subst h0; omega
    · have := sized_slice hsz (j := 2) (t := 34) (elems := el) (spare := sp) rfl (by simpa using hd) Try.underlying34
      rw [show Try.checked.prog.bytesOf 37 = 40 from by kernel_rfl] at this
      have := reachBytes_lt
      omega
  exact never_walk W one two la ll lc hsl f (fun i => intOf (f i 0)) (fun i => intOf (f i 1)) (fun i => intOf (f i 2)) (fun i => intOf (f i 3)) (fun i => intOf (f i 4)) hcell hI0 hI1 hI2 hI3 hI4

theorem over : Rows.handlesNeverRow.holds Try.pinned (OpenSpec.ofChange Rows.handlesNeverSpec) :=
  OpenClaim.holds_of_wide 4 Try.f4 rfl rfl rfl rfl rfl rfl rfl ⟨rfl, rfl, rfl, rfl, rfl⟩ rfl rfl rfl rfl rfl (by kernel_rfl) Try.func4 (by kernel_rfl)
    (of_decide_eq_true (by kernel_rfl)) (by unfold Func.isWrapper; first | (rw [if_pos (by decide +kernel)]; kernel_rfl) | (rw [if_neg (by decide +kernel)]; exact ⟨rfl, rfl⟩))
    (fun os started H enc _ => lifted os started H enc)

/-- The statement. -/
theorem proved : Rows.HandlesNeverSaid := over
#print axioms proved
end Go.Proofs.Ytcfpmnlpoihgfaa.handlesNever
