/-
  DrrOwn: the call returns true for every input, and each argument reads afterwards as it read before. No condition of our own.
-/
import Derived.Test.YtanfhmebjgmdpaaFrame
import Derived.Test.YtanfhmebjgmdpaaFrameW
import Derived.Test.YtanfhmebjgmdpaaDo4
namespace Go.Proofs.Ytanfhmebjgmdpaa.drrOwn
open Go.ChangeShapes Go.WideShapes Go.ChangeAt Go.RowKit Go.Deep Go.Joins
open Go.ChangeMaps (open_string shut_string)
set_option linter.unusedVariables false

theorem own : ownKnob Try.prog.godebug = none := by kernel_rfl
theorem laidOut : laidOutB Try.prog = true := by kernel_rfl

set_option maxRecDepth 100000 in
theorem lifted (os : Os) (started : os.Started) (H : Type) (enc : TypeId × Value → H) :
    ReturnsInHanded {} Try.checked os 5 .any (Rows.drrOwnSpec.pre6 enc Try.prog Try.f5 Rows.drrOwnRow.domain false) (Rows.drrOwnSpec.post enc Try.prog Try.f5 false true false false) := by
  refine returnsInHanded_of_change_sized (C := Try.checked) own started (by kernel_rfl) Try.func5
    (ChangeSpec.witness6 (enc := enc) (C := Try.checked) false ⟨#[], #[.slice none 0 0, .slice none 0 0], []⟩ 8 (by kernel_rfl) (by kernel_rfl) (by kernel_rfl) (by kernel_rfl)) ?_
  intro W base args ds gs before hval0 hW _ hsz0 _
  have hval : ∀ (j : Nat) t v, Try.f5.params[j]? = some t → args[j]? = some v → Value.okWide Try.prog W .any base t v := hval0
  refine law_contract laidOut (of_decide_eq_true (by kernel_rfl)) rfl Try.underlying4 rfl (fun ds h => by have h2 : ds.length = 2 := h.trans (by kernel_rfl); match ds, h2 with | [e0, e1], _ => exact ⟨rfl, rfl, rfl⟩) hW ?_
  obtain ⟨p, q, hA0, hV, hpq, hfz, hnd⟩ := hW
  have hA : DataW.TrodAll enc Try.prog W 0 (fun _ => true) true Try.f5.params.toList args.toList ds p := hA0
  obtain ⟨rfl, rfl⟩ := trodVars_none hV
  have hsz := hsz0
  rw [Try.params5] at hA hval hsz
  obtain ⟨v0, vs0, d0, ds0, p0, q0, hargs, rfl, rfl, h0, r0⟩ := trodAll_cons hA
  obtain ⟨v1, vs1, d1, ds1, p1, q1, rfl, rfl, rfl, h1, r1⟩ := trodAll_cons r0
  obtain ⟨rfl, rfl, rfl⟩ := trodAll_nil r1
  obtain rfl : args = #[v0, v1] := by cases args; simp_all
  clear hA0 hval0 hsz0
  obtain ⟨fu2, h2⟩ := h1
  obtain ⟨fu1, h1⟩ := h0
  obtain ⟨A1, n1, c1, f1, e1, -, -, hl1, hC1, hE1⟩ := open_ones Try.underlying30 (by kernel_rfl) h1
  obtain ⟨A2, n2, c2, f2, e2, -, -, hl2, hC2, hE2⟩ := open_ones Try.underlying30 (by kernel_rfl) h2
  obtain ⟨la, ll, lc, rfl⟩ := okWide_slice Try.underlying30 (hval 0 _ v0 rfl rfl)
  obtain ⟨oa, ol, oc, rfl⟩ := okWide_slice Try.underlying30 (hval 1 _ v1 rfl rfl)
  simp [Value.cells] at e1 e2
  obtain ⟨rfl, rfl, rfl⟩ := e1
  obtain ⟨rfl, rfl, rfl⟩ := e2
  have hS1 := Qi.ints_sl hC1 (fun i hi => by
    obtain ⟨y2, m2, hy2⟩ := hE1 i hi
    obtain ⟨z, e, _⟩ := DataW.trod_int Try.underlying3 hy2
    have e2 : f1 i 0 = .int .i64 z := by simpa using e
    rw [e2]; rfl)
  have hS2 := Qi.ints_sl hC2 (fun i hi => by
    obtain ⟨y2, m2, hy2⟩ := hE2 i hi
    obtain ⟨z, e, _⟩ := DataW.trod_int Try.underlying3 hy2
    have e2 : f2 i 0 = .int .i64 z := by simpa using e
    rw [e2]; rfl)
  by_cases hr : 30000 < ll ∨ 30000 < ol
  · exact Qi.own_long W la oa ll lc ol oc hr
  · exact Qi.own_walk W la oa ll lc ol oc _ _ (by simp) (by simp) (by omega) (by omega) hS1 hS2

theorem over : Rows.drrOwnRow.holds Try.pinned (OpenSpec.ofChange Rows.drrOwnSpec) :=
  OpenClaim.holds_of_wide 5 Try.f5 rfl rfl rfl rfl rfl rfl rfl ⟨rfl, rfl, rfl, rfl, rfl⟩ rfl rfl rfl rfl rfl (by kernel_rfl) Try.func5 (by kernel_rfl)
    (of_decide_eq_true (by kernel_rfl)) (by unfold Func.isWrapper; first | (rw [if_pos (by decide +kernel)]; kernel_rfl) | (rw [if_neg (by decide +kernel)]; exact ⟨rfl, rfl⟩))
    (fun os started H enc _ => lifted os started H enc)

/-- The statement. -/
theorem proved : Rows.DrrOwnSaid := over
#print axioms proved
end Go.Proofs.Ytanfhmebjgmdpaa.drrOwn
