/-
  DrrTime: the call returns true for every input, and each argument reads afterwards as it read before. No condition of our own.
-/
import Derived.Test.YtanfhmebjgmdpaaFrame
import Derived.Test.YtanfhmebjgmdpaaFrameW
import Derived.Test.YtanfhmebjgmdpaaDt9
import Derived.Test.YtanfhmebjgmdpaaDtA
namespace Go.Proofs.Ytanfhmebjgmdpaa.drrTime
open Go.ChangeShapes Go.WideShapes Go.ChangeAt Go.RowKit Go.Deep Go.Joins
open Go.ChangeMaps (open_string shut_string)
set_option linter.unusedVariables false

theorem own : ownKnob Try.prog.godebug = none := by kernel_rfl
theorem laidOut : laidOutB Try.prog = true := by kernel_rfl

set_option maxRecDepth 100000 in
theorem lifted (os : Os) (started : os.Started) (H : Type) (enc : TypeId × Value → H) :
    ReturnsInHanded {} Try.checked os 3 .any (Rows.drrTimeSpec.pre6 enc Try.prog Try.f3 Rows.drrTimeRow.domain false) (Rows.drrTimeSpec.post enc Try.prog Try.f3 false true false false) := by
  refine returnsInHanded_of_change_sized (C := Try.checked) own started (by kernel_rfl) Try.func3
    (ChangeSpec.witness6 (enc := enc) (C := Try.checked) false ⟨#[], #[.agg #[.int .i64 1, .int .i64 1, .int .i64 1], .slice none 0 0], []⟩ 8 (by kernel_rfl) (by kernel_rfl) (by kernel_rfl) (by kernel_rfl)) ?_
  intro W base args ds gs before hval0 hW _ hsz0 _
  have hval : ∀ (j : Nat) t v, Try.f3.params[j]? = some t → args[j]? = some v → Value.okWide Try.prog W .any base t v := hval0
  refine law_contract laidOut (of_decide_eq_true (by kernel_rfl)) rfl Try.underlying4 rfl (fun ds h => by have h2 : ds.length = 2 := h.trans (by kernel_rfl); match ds, h2 with | [e0, e1], _ => exact ⟨rfl, rfl, rfl⟩) hW ?_
  obtain ⟨p, q, hA0, hV, hpq, hfz, hnd⟩ := hW
  have hA : DataW.TrodAll enc Try.prog W 0 (fun _ => true) true Try.f3.params.toList args.toList ds p := hA0
  obtain ⟨rfl, rfl⟩ := trodVars_none hV
  have hsz := hsz0
  rw [Try.params3] at hA hval hsz
  obtain ⟨v0, vs0, d0, ds0, p0, q0, hargs, rfl, rfl, h0, r0⟩ := trodAll_cons hA
  obtain ⟨v1, vs1, d1, ds1, p1, q1, rfl, rfl, rfl, h1, r1⟩ := trodAll_cons r0
  obtain ⟨rfl, rfl, rfl⟩ := trodAll_nil r1
  obtain rfl : args = #[v0, v1] := by cases args; simp_all
  clear hA0 hval0 hsz0
  obtain ⟨fuel0, hf0⟩ := h0
  obtain ⟨a, b, c, hcs0, ha, hb, hc0⟩ := open_shape hf0
  obtain ⟨cs0, rfl, -⟩ := okWide_struct Try.underlying23 (hval 0 _ v0 rfl rfl)
  have e0 : cs0 = #[.int .i64 a, .int .i64 b, .int .i64 c] := by
    have h3 : cs0.toList = [.int .i64 a, .int .i64 b, .int .i64 c] := by simpa [Value.cells] using hcs0
    rw [← Array.toArray_toList (xs := cs0), h3]
  subst e0
  obtain ⟨fuel, hf⟩ := h1
  obtain ⟨A, n, c2, f, hcs, hn, hc, hlen, hcell, hfld⟩ := open_structsW Try.underlying24 Try.underlying35 (by kernel_rfl) (by kernel_rfl) (by decide) hf
  obtain ⟨la, ll, lc, rfl⟩ := okWide_slice Try.underlying24 (hval 1 _ v1 rfl rfl)
  simp [Value.cells] at hcs
  obtain ⟨rfl, rfl, rfl⟩ := hcs
  have hI0 : ∀ i, i < ll → f i 0 = .int .i64 (intOf (f i 0)) ∧ Qj.in64 (intOf (f i 0)) := fun i hi => by
    obtain ⟨y, m, hy, _⟩ := hfld i hi 0 _ rfl
    obtain ⟨z, e, -, wz⟩ := DataW.trod_int Try.underlying3 hy
    have e2 : f i 0 = .int .i64 z := by simpa using e
    rw [e2]; exact ⟨rfl, bd64 wz⟩
  have hI1 : ∀ i, i < ll → f i 1 = .int .i64 (intOf (f i 1)) ∧ Qj.in64 (intOf (f i 1)) := fun i hi => by
    obtain ⟨y, m, hy, _⟩ := hfld i hi 1 _ rfl
    obtain ⟨z, e, -, wz⟩ := DataW.trod_int Try.underlying3 hy
    have e2 : f i 1 = .int .i64 z := by simpa using e
    rw [e2]; exact ⟨rfl, bd64 wz⟩
  have hI2 : ∀ i, i < ll → f i 2 = .int .i64 (intOf (f i 2)) ∧ Qj.in64 (intOf (f i 2)) := fun i hi => by
    obtain ⟨y, m, hy, _⟩ := hfld i hi 2 _ rfl
    obtain ⟨z, e, -, wz⟩ := DataW.trod_int Try.underlying3 hy
    have e2 : f i 2 = .int .i64 z := by simpa using e
    rw [e2]; exact ⟨rfl, bd64 wz⟩
  have hI3 : ∀ i, i < ll → f i 3 = .int .i64 (intOf (f i 3)) ∧ Qj.in64 (intOf (f i 3)) := fun i hi => by
    obtain ⟨y, m, hy, _⟩ := hfld i hi 3 _ rfl
    obtain ⟨z, e, -, wz⟩ := DataW.trod_int Try.underlying3 hy
    have e2 : f i 3 = .int .i64 z := by simpa using e
    rw [e2]; exact ⟨rfl, bd64 wz⟩
  have hI4 : ∀ i, i < ll → f i 4 = .int .i64 (intOf (f i 4)) ∧ Qj.in64 (intOf (f i 4)) := fun i hi => by
    obtain ⟨y, m, hy, _⟩ := hfld i hi 4 _ rfl
    obtain ⟨z, e, -, wz⟩ := DataW.trod_int Try.underlying3 hy
    have e2 : f i 4 = .int .i64 z := by simpa using e
    rw [e2]; exact ⟨rfl, bd64 wz⟩
  have hI5 : ∀ i, i < ll → f i 5 = .int .i64 (intOf (f i 5)) ∧ Qj.in64 (intOf (f i 5)) := fun i hi => by
    obtain ⟨y, m, hy, _⟩ := hfld i hi 5 _ rfl
    obtain ⟨z, e, -, wz⟩ := DataW.trod_int Try.underlying3 hy
    have e2 : f i 5 = .int .i64 z := by simpa using e
    rw [e2]; exact ⟨rfl, bd64 wz⟩
  have hsl : ll * 48 ≤ 140737488355328 := by
    rcases hlen with h0 | ⟨el, sp, hd, hl⟩
    · subst h0; omega
    · have := sized_slice hsz (j := 1) (t := 24) (elems := el) (spare := sp) rfl (by simpa using hd) Try.underlying24
      rw [show Try.checked.prog.bytesOf 35 = 48 from by kernel_rfl] at this
      have := reachBytes_lt
      omega
  exact Qj.time_walk W a b c ha hb hc0 la ll lc hsl f (fun i => intOf (f i 0)) (fun i => intOf (f i 1)) (fun i => intOf (f i 2)) (fun i => intOf (f i 3)) (fun i => intOf (f i 4)) (fun i => intOf (f i 5)) hcell (fun i hi => (hI0 i hi).1) (fun i hi => (hI1 i hi).1) (fun i hi => (hI2 i hi).1) (fun i hi => (hI3 i hi).1) (fun i hi => (hI4 i hi).1) (fun i hi => (hI5 i hi).1) (fun i hi => (hI2 i hi).2) (fun i hi => (hI3 i hi).2)

theorem over : Rows.drrTimeRow.holds Try.pinned (OpenSpec.ofChange Rows.drrTimeSpec) :=
  OpenClaim.holds_of_wide 3 Try.f3 rfl rfl rfl rfl rfl rfl rfl ⟨rfl, rfl, rfl, rfl, rfl⟩ rfl rfl rfl rfl rfl (by kernel_rfl) Try.func3 (by kernel_rfl)
    (of_decide_eq_true (by kernel_rfl)) (by unfold Func.isWrapper; first | (rw [if_pos (by decide +kernel)]; kernel_rfl) | (rw [if_neg (by decide +kernel)]; exact ⟨rfl, rfl⟩))
    (fun os started H enc _ => lifted os started H enc)

/-- The statement. -/
theorem proved : Rows.DrrTimeSaid := over
#print axioms proved
end Go.Proofs.Ytanfhmebjgmdpaa.drrTime
