/-
  DrrFair: the call returns true for every input, and each argument reads afterwards as it read before. No condition of our own.
-/
import Derived.Test.YtanfhmebjgmdpaaFrame
import Derived.Test.YtanfhmebjgmdpaaFrameW
import Derived.Test.YtanfhmebjgmdpaaDf3
import Derived.Test.YtanfhmebjgmdpaaDfA
namespace Go.Proofs.Ytanfhmebjgmdpaa.drrFair
open Go.ChangeShapes Go.WideShapes Go.ChangeAt Go.RowKit Go.Deep Go.Joins
open Go.ChangeMaps (open_string shut_string)
set_option linter.unusedVariables false

theorem own : ownKnob Try.prog.godebug = none := by kernel_rfl
theorem laidOut : laidOutB Try.prog = true := by kernel_rfl

set_option maxRecDepth 100000 in
theorem lifted (os : Os) (started : os.Started) (H : Type) (enc : TypeId × Value → H) :
    ReturnsInHanded {} Try.checked os 4 .any (Rows.drrFairSpec.pre6 enc Try.prog Try.f4 Rows.drrFairRow.domain false) (Rows.drrFairSpec.post enc Try.prog Try.f4 false true false false) := by
  refine returnsInHanded_of_change_sized (C := Try.checked) own started (by kernel_rfl) Try.func4
    (ChangeSpec.witness6 (enc := enc) (C := Try.checked) false ⟨#[], #[.agg #[.int .i64 1, .int .i64 1, .int .i64 1, .slice none 0 0, .int .i64 0, .int .i64 0, .int .i64 0]], []⟩ 8 (by kernel_rfl) (by kernel_rfl) (by kernel_rfl) (by kernel_rfl)) ?_
  intro W base args ds gs before hval0 hW _ hsz0 _
  have hval : ∀ (j : Nat) t v, Try.f4.params[j]? = some t → args[j]? = some v → Value.okWide Try.prog W .any base t v := hval0
  refine law_contract laidOut (of_decide_eq_true (by kernel_rfl)) rfl Try.underlying4 rfl (fun ds h => by have h2 : ds.length = 1 := h.trans (by kernel_rfl); match ds, h2 with | [e0], _ => exact ⟨rfl, rfl, rfl⟩) hW ?_
  obtain ⟨p, q, hA0, hV, hpq, hfz, hnd⟩ := hW
  have hA : DataW.TrodAll enc Try.prog W 0 (fun _ => true) true Try.f4.params.toList args.toList ds p := hA0
  obtain ⟨rfl, rfl⟩ := trodVars_none hV
  have hsz := hsz0
  rw [Try.params4] at hA hval hsz
  obtain ⟨v0, vs0, d0, ds0, p0, q0, hargs, rfl, rfl, h0, r0⟩ := trodAll_cons hA
  obtain ⟨rfl, rfl, rfl⟩ := trodAll_nil r0
  obtain rfl : args = #[v0] := by cases args; simp_all
  clear hA0 hval0 hsz0
  obtain ⟨fuel0, hf0⟩ := h0
  have hw : ∀ v ∈ d0.weights Try.prog 46, v ≤ reachBytes := fun v hv => of_decide_eq_true (List.all_eq_true.1 hsz _ (DataW.weights_mem_each (j := 0) rfl rfl _ hv))
  obtain ⟨a0, b0, c0, A, n, c2, pa, pb, pf, f, hcs0, ha, hb, hc0, hpa, hpb, hpf, hcell, hI, hsl⟩ := open_pair hf0 hw
  obtain ⟨cs0, rfl, -⟩ := okWide_struct Try.underlying46 (hval 0 _ v0 rfl rfl)
  have e0 : cs0 = #[.int .i64 a0, .int .i64 b0, .int .i64 c0, .slice A n c2, .int .i64 pa, .int .i64 pb, .int .i64 pf] := by
    rw [← Array.toArray_toList (xs := cs0), show cs0.toList = [.int .i64 a0, .int .i64 b0, .int .i64 c0, .slice A n c2, .int .i64 pa, .int .i64 pb, .int .i64 pf] by simpa [Value.cells] using hcs0]
  subst e0
  exact Qj.fair_walk W a0 b0 c0 pa pb pf ha hb hc0 hpa hpb hpf A n c2 hsl f (fun i => intOf (f i 0)) (fun i => intOf (f i 1)) (fun i => intOf (f i 2)) (fun i => intOf (f i 3)) (fun i => intOf (f i 4)) (fun i => intOf (f i 5)) hcell (fun i hi => (hI i hi 0 (by omega)).1) (fun i hi => (hI i hi 1 (by omega)).1) (fun i hi => (hI i hi 2 (by omega)).1) (fun i hi => (hI i hi 3 (by omega)).1) (fun i hi => (hI i hi 4 (by omega)).1) (fun i hi => (hI i hi 5 (by omega)).1) (fun i hi => (hI i hi 2 (by omega)).2) (fun i hi => (hI i hi 3 (by omega)).2)

theorem over : Rows.drrFairRow.holds Try.pinned (OpenSpec.ofChange Rows.drrFairSpec) :=
  OpenClaim.holds_of_wide 4 Try.f4 rfl rfl rfl rfl rfl rfl rfl ⟨rfl, rfl, rfl, rfl, rfl⟩ rfl rfl rfl rfl rfl (by kernel_rfl) Try.func4 (by kernel_rfl)
    (of_decide_eq_true (by kernel_rfl)) (by unfold Func.isWrapper; first | (rw [if_pos (by decide +kernel)]; kernel_rfl) | (rw [if_neg (by decide +kernel)]; exact ⟨rfl, rfl⟩))
    (fun os started H enc _ => lifted os started H enc)

/-- The statement. -/
theorem proved : Rows.DrrFairSaid := over
#print axioms proved
end Go.Proofs.Ytanfhmebjgmdpaa.drrFair
