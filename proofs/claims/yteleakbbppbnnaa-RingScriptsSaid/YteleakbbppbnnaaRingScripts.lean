/-
  RingScripts: the call returns true for every input, and each argument reads afterwards as it read before. No condition of our own.
-/
import Derived.Test.YteleakbbppbnnaaFrame
import Derived.Test.YteleakbbppbnnaaFrameW
import Derived.Test.YteleakbbppbnnaaRrq
namespace Go.Proofs.Yteleakbbppbnnaa.ringScripts
open Go.ChangeShapes Go.WideShapes Go.ChangeAt Go.RowKit Go.Deep Go.Joins
open Go.ChangeMaps (open_string shut_string)
set_option linter.unusedVariables false

theorem own : ownKnob Try.prog.godebug = none := by kernel_rfl
theorem laidOut : laidOutB Try.prog = true := by kernel_rfl

set_option maxRecDepth 100000 in
theorem lifted (os : Os) (started : os.Started) (H : Type) (enc : TypeId × Value → H) :
    ReturnsInHanded {} Try.checked os 5 .any (Rows.ringScriptsSpec.pre6 enc Try.prog Try.f5 Rows.ringScriptsRow.domain false) (Rows.ringScriptsSpec.post enc Try.prog Try.f5 false true false false) := by
  refine returnsInHanded_of_change_sized (C := Try.checked) own started (by kernel_rfl) Try.func5
    (ChangeSpec.witness6 (enc := enc) (C := Try.checked) false ⟨#[], #[.slice none 0 0, .slice none 0 0], []⟩ 8 (by kernel_rfl) (by kernel_rfl) (by kernel_rfl) (by kernel_rfl)) ?_
  intro W base args ds gs before hval0 hW _ hsz0 _
  have hval : ∀ (j : Nat) t v, Try.f5.params[j]? = some t → args[j]? = some v → Value.okWide Try.prog W .any base t v := hval0
  refine law_contract laidOut (of_decide_eq_true (by kernel_rfl)) rfl Try.underlying4 rfl (fun ds h => by have h2 : ds.length = 2 := h.trans (by kernel_rfl); match ds, h2 with | [e0, e1], _ => exact ⟨rfl, rfl, rfl⟩) hW ?_
  obtain ⟨p, q, hA0, hV, hpq, hfz, hnd⟩ := hW
  have hA : DataW.TrodAll enc Try.prog W 0 (fun _ => true) true Try.f5.params.toList args.toList ds p := hA0
  obtain ⟨rfl, rfl⟩ := trodVars_none hV
  have hsz := hsz0
  rw [Try.params5] at hA hval hsz
  obtain ⟨v0, vs0, d0, ds0, p0, q0, hargs, rfl, rfl, h0, r0⟩ := trodAll_cons hA
  obtain ⟨v1, vs1, d1, ds1, p1, q1, rfl, rfl, rfl, h1, r1⟩ := trodAll_cons r0
  obtain ⟨rfl, rfl, rfl⟩ := trodAll_nil r1
  obtain rfl : args = #[v0, v1] := by cases args; simp_all
  clear hA0 hval0 hsz0
  obtain ⟨fu0, h0⟩ := h0
  obtain ⟨A0, n0, c0, f0, e0, -, -, hl0, hC0, hE0⟩ := open_ones Try.underlying22 (by kernel_rfl) h0
  obtain ⟨ra, rl, rc, rfl⟩ := okWide_slice Try.underlying22 (hval 0 _ v0 rfl rfl)
  simp [Value.cells] at e0
  obtain ⟨rfl, rfl, rfl⟩ := e0
  have hS0 : SlB W W.heap.size ra rl (((List.range rl).map fun i => intOf (f0 i 0)).map iv) := slB_of hC0 (fun i hi => by
    obtain ⟨y2, m2, hy2⟩ := hE0 i hi
    obtain ⟨z, e, _⟩ := DataW.trod_int Try.underlying3 hy2
    have e2 : f0 i 0 = .int .i64 z := by simpa using e
    rw [e2]; rfl)
  obtain ⟨fuel, hf⟩ := h1
  obtain ⟨A, n, c, f, hcs, hn, hc, hlen, hcell, hfld⟩ := open_structsW Try.underlying34 Try.underlying36 (by kernel_rfl) (by kernel_rfl) (by decide) hf
  obtain ⟨la, ll, lc, rfl⟩ := okWide_slice Try.underlying34 (hval 1 _ v1 rfl rfl)
  simp [Value.cells] at hcs
  obtain ⟨rfl, rfl, rfl⟩ := hcs
  have hI0 : ∀ i, i < ll → f i 0 = .int .i64 (intOf (f i 0)) := fun i hi => by
    obtain ⟨y, m, hy, _⟩ := hfld i hi 0 _ rfl
    obtain ⟨z, e, _⟩ := DataW.trod_int Try.underlying3 hy
    have e2 : f i 0 = .int .i64 z := by simpa using e
    rw [e2]; rfl
  have hI1 : ∀ i, i < ll → f i 1 = .int .i64 (intOf (f i 1)) := fun i hi => by
    obtain ⟨y, m, hy, _⟩ := hfld i hi 1 _ rfl
    obtain ⟨z, e, _⟩ := DataW.trod_int Try.underlying3 hy
    have e2 : f i 1 = .int .i64 z := by simpa using e
    rw [e2]; rfl
  have hI2 : ∀ i, i < ll → f i 2 = .int .i64 (intOf (f i 2)) := fun i hi => by
    obtain ⟨y, m, hy, _⟩ := hfld i hi 2 _ rfl
    obtain ⟨z, e, _⟩ := DataW.trod_int Try.underlying3 hy
    have e2 : f i 2 = .int .i64 z := by simpa using e
    rw [e2]; rfl
  have hI3 : ∀ i, i < ll → f i 3 = .int .i64 (intOf (f i 3)) := fun i hi => by
    obtain ⟨y, m, hy, _⟩ := hfld i hi 3 _ rfl
    obtain ⟨z, e, _⟩ := DataW.trod_int Try.underlying3 hy
    have e2 : f i 3 = .int .i64 z := by simpa using e
    rw [e2]; rfl
  have hI4 : ∀ i, i < ll → f i 4 = .int .i64 (intOf (f i 4)) := fun i hi => by
    obtain ⟨y, m, hy, _⟩ := hfld i hi 4 _ rfl
    obtain ⟨z, e, _⟩ := DataW.trod_int Try.underlying3 hy
    have e2 : f i 4 = .int .i64 z := by simpa using e
    rw [e2]; rfl
  have hrow : ∀ i, i < ll → ∃ r : Option Addr × Nat × Nat × (Nat → Int), f i 5 = .slice r.1 r.2.1 r.2.2.1 ∧ r.2.1 * 8 ≤ 140737488351232 ∧ Cells W W.heap.size r.1 r.2.1 1 (fun j _ => .int .i64 (r.2.2.2 j)) := fun i hi => by
    obtain ⟨y, m, hy, hw⟩ := hfld i hi 5 _ rfl
    obtain ⟨A', n', c', f', e', hn', hc', hl', hC', hE'⟩ := open_ones Try.underlying22 (by kernel_rfl) hy
    have hb : n' * 8 ≤ 140737488351232 := by
      rcases hl' with h0 | ⟨el, sp, hd, hl⟩
      · subst h0; omega
      · rw [hd] at hw
        have h3 := List.all_eq_true.1 hsz _ (DataW.weights_mem_each (j := 1) rfl rfl _ (hw _ (weights_own Try.underlying22)))
        have h4 : (el.length + sp.length) * Try.prog.bytesOf 3 ≤ reachBytes := of_decide_eq_true h3
        rw [show Try.prog.bytesOf 3 = 8 from by kernel_rfl] at h4
        have h9 : reachBytes = 140737488351232 := by decide
        omega
    refine ⟨⟨A', n', c', fun j => intOf (f' j 0)⟩, by simpa using e', hb, fun hp => ?_⟩
    obtain ⟨b, o, hA', hb', hcc⟩ := hC' hp
    refine ⟨b, o, hA', hb', fun j k hj hk => ?_⟩
    obtain rfl : k = 0 := by omega
    obtain ⟨y2, m2, hy2⟩ := hE' j hj
    obtain ⟨z, e, _⟩ := DataW.trod_int Try.underlying3 hy2
    have e2 : f' j 0 = .int .i64 z := by simpa using e
    refine (hcc j 0 hj hk).trans ?_
    show some (f' j 0) = some (.int .i64 (intOf (f' j 0)))
    rw [e2]; rfl
  have hch : ∃ R : Nat → Option Addr × Nat × Nat × (Nat → Int), ∀ i, i < ll → f i 5 = .slice (R i).1 (R i).2.1 (R i).2.2.1 ∧ (R i).2.1 * 8 ≤ 140737488351232 ∧ Cells W W.heap.size (R i).1 (R i).2.1 1 (fun j _ => .int .i64 ((R i).2.2.2 j)) :=
    ⟨fun i => if hil : i < ll then Classical.choose (hrow i hil) else ⟨none, 0, 0, fun _ => 0⟩, fun i hil => by simp only [dif_pos hil]; exact Classical.choose_spec (hrow i hil)⟩
  obtain ⟨R, hR⟩ := hch
  have hsl : ll * 64 ≤ 140737488355328 := by
    rcases hlen with h0 | ⟨el, sp, hd, hl⟩
    · subst h0; omega
    · have := sized_slice hsz (j := 1) (t := 34) (elems := el) (spare := sp) rfl (by simpa using hd) Try.underlying34
      rw [show Try.checked.prog.bytesOf 36 = 64 from by kernel_rfl] at this
      have := reachBytes_lt
      omega
  exact scripts_walk W ra rl rc _ hS0 la ll lc (by omega) f (fun i => intOf (f i 0)) (fun i => intOf (f i 1)) (fun i => intOf (f i 2)) (fun i => intOf (f i 3)) (fun i => intOf (f i 4)) (fun i => (R i).1) (fun i => (R i).2.1) (fun i => (R i).2.2.1) (fun i => (List.range (R i).2.1).map (R i).2.2.2) hcell hI0 hI1 hI2 hI3 hI4 (fun i hi => (hR i hi).1) (fun i hi => ⟨(hR i hi).2.1, slB_of (hR i hi).2.2 (fun j hj => rfl)⟩)

theorem over : Rows.ringScriptsRow.holds Try.pinned (OpenSpec.ofChange Rows.ringScriptsSpec) :=
  OpenClaim.holds_of_wide 5 Try.f5 rfl rfl rfl rfl rfl rfl rfl ⟨rfl, rfl, rfl, rfl, rfl⟩ rfl rfl rfl rfl rfl (by kernel_rfl) Try.func5 (by kernel_rfl)
    (of_decide_eq_true (by kernel_rfl)) (by unfold Func.isWrapper; first | (rw [if_pos (by decide +kernel)]; kernel_rfl) | (rw [if_neg (by decide +kernel)]; exact ⟨rfl, rfl⟩))
    (fun os started H enc _ => lifted os started H enc)

/-- The statement. -/
theorem proved : Rows.RingScriptsSaid := over
#print axioms proved
end Go.Proofs.Yteleakbbppbnnaa.ringScripts
