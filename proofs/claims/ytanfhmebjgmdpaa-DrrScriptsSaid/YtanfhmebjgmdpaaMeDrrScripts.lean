/-
  Texts merged into one, to keep the claim small: DrrScripts.
-/
import Derived.Test.YtanfhmebjgmdpaaMe1
import Derived.Test.YtanfhmebjgmdpaaMe43
/-
  DrrScripts: the call returns true for every input, and each argument reads afterwards as it read before. No condition of our own.
-/
namespace Go.Proofs.Ytanfhmebjgmdpaa.drrScripts
open Go.ChangeShapes Go.WideShapes Go.ChangeAt Go.RowKit Go.Deep Go.Joins
open Go.ChangeMaps (open_string shut_string)
set_option linter.unusedVariables false

theorem own : ownKnob Try.prog.godebug = none := by kernel_rfl
theorem laidOut : laidOutB Try.prog = true := by kernel_rfl

set_option maxRecDepth 100000 in
theorem lifted (os : Os) (started : os.Started) (H : Type) (enc : TypeId × Value → H) :
    ReturnsInHanded {} Try.checked os 6 .any (Rows.drrScriptsSpec.pre6 enc Try.prog Try.f6 Rows.drrScriptsRow.domain false) (Rows.drrScriptsSpec.post enc Try.prog Try.f6 false true false false) := by
  refine returnsInHanded_of_change_sized (C := Try.checked) own started (by kernel_rfl) Try.func6
    (ChangeSpec.witness6 (enc := enc) (C := Try.checked) false ⟨#[], #[.slice none 0 0, .slice none 0 0], []⟩ 8 (by kernel_rfl) (by kernel_rfl) (by kernel_rfl) (by kernel_rfl)) ?_
  intro W base args ds gs before hval0 hW _ hsz0 _
  have hval : ∀ (j : Nat) t v, Try.f6.params[j]? = some t → args[j]? = some v → Value.okWide Try.prog W .any base t v := hval0
  refine law_contract laidOut (of_decide_eq_true (by kernel_rfl)) rfl Try.underlying4 rfl (fun ds h => by have h2 : ds.length = 2 := h.trans (by kernel_rfl); match ds, h2 with | [e0, e1], _ => exact ⟨rfl, rfl, rfl⟩) hW ?_
  obtain ⟨p, q, hA0, hV, hpq, hfz, hnd⟩ := hW
  have hA : DataW.TrodAll enc Try.prog W 0 (fun _ => true) true Try.f6.params.toList args.toList ds p := hA0
  obtain ⟨rfl, rfl⟩ := trodVars_none hV
  have hsz := hsz0
  rw [Try.params6] at hA hval hsz
  obtain ⟨v0, vs0, d0, ds0, p0, q0, hargs, rfl, rfl, h0, r0⟩ := trodAll_cons hA
  obtain ⟨v1, vs1, d1, ds1, p1, q1, rfl, rfl, rfl, h1, r1⟩ := trodAll_cons r0
  obtain ⟨rfl, rfl, rfl⟩ := trodAll_nil r1
  obtain rfl : args = #[v0, v1] := by cases args; simp_all
  clear hA0 hval0 hsz0
  obtain ⟨fuel0, hf0⟩ := h0
  obtain ⟨A0, n0, c0, f0, hcs0, hn0, hc0, hlen0, hcell0, hfld0⟩ := open_structsW Try.underlying58 Try.underlying23 (by kernel_rfl) (by kernel_rfl) (by decide) hf0
  obtain ⟨ra, rl, rc, rfl⟩ := okWide_slice Try.underlying58 (hval 0 _ v0 rfl rfl)
  simp [Value.cells] at hcs0
  obtain ⟨rfl, rfl, rfl⟩ := hcs0
  have hE0 : ∀ i, i < rl → f0 i 0 = .int .i64 (intOf (f0 i 0)) := fun i hi => by
    obtain ⟨y, m, hy, _⟩ := hfld0 i hi 0 _ rfl
    obtain ⟨z, e, _⟩ := DataW.trod_int Try.underlying3 hy
    have e2 : f0 i 0 = .int .i64 z := by simpa using e
    rw [e2]; rfl
  have hE1 : ∀ i, i < rl → f0 i 1 = .int .i64 (intOf (f0 i 1)) := fun i hi => by
    obtain ⟨y, m, hy, _⟩ := hfld0 i hi 1 _ rfl
    obtain ⟨z, e, _⟩ := DataW.trod_int Try.underlying3 hy
    have e2 : f0 i 1 = .int .i64 z := by simpa using e
    rw [e2]; rfl
  have hE2 : ∀ i, i < rl → f0 i 2 = .int .i64 (intOf (f0 i 2)) := fun i hi => by
    obtain ⟨y, m, hy, _⟩ := hfld0 i hi 2 _ rfl
    obtain ⟨z, e, _⟩ := DataW.trod_int Try.underlying3 hy
    have e2 : f0 i 2 = .int .i64 z := by simpa using e
    rw [e2]; rfl
  obtain ⟨fuel, hf⟩ := h1
  obtain ⟨A, n, c, f, hcs, hn, hc, hlen, hcell, hfld⟩ := open_structsW Try.underlying24 Try.underlying35 (by kernel_rfl) (by kernel_rfl) (by decide) hf
  obtain ⟨la, ll, lc, rfl⟩ := okWide_slice Try.underlying24 (hval 1 _ v1 rfl rfl)
  simp [Value.cells] at hcs
  obtain ⟨rfl, rfl, rfl⟩ := hcs
  have hI0 : ∀ i, i < ll → f i 0 = .int .i64 (intOf (f i 0)) := fun i hi => by
    obtain ⟨y, m, hy, _⟩ := hfld i hi 0 _ rfl
    obtain ⟨z, e, _⟩ := DataW.trod_int Try.underlying3 hy
    have e2 : f i 0 = .int .i64 z := by simpa using e
    rw [e2]; rfl
  have hI1 : ∀ i, i < ll → f i 1 = .int .i64 (intOf (f i 1)) := fun i hi => by
    obtain ⟨y, m, hy, _⟩ := hfld i hi 1 _ rfl
    obtain ⟨z, e, _⟩ := DataW.trod_int Try.underlying3 hy
    have e2 : f i 1 = .int .i64 z := by simpa using e
    rw [e2]; rfl
  have hI2 : ∀ i, i < ll → f i 2 = .int .i64 (intOf (f i 2)) := fun i hi => by
    obtain ⟨y, m, hy, _⟩ := hfld i hi 2 _ rfl
    obtain ⟨z, e, _⟩ := DataW.trod_int Try.underlying3 hy
    have e2 : f i 2 = .int .i64 z := by simpa using e
    rw [e2]; rfl
  have hI3 : ∀ i, i < ll → f i 3 = .int .i64 (intOf (f i 3)) := fun i hi => by
    obtain ⟨y, m, hy, _⟩ := hfld i hi 3 _ rfl
    obtain ⟨z, e, _⟩ := DataW.trod_int Try.underlying3 hy
    have e2 : f i 3 = .int .i64 z := by simpa using e
    rw [e2]; rfl
  have hI4 : ∀ i, i < ll → f i 4 = .int .i64 (intOf (f i 4)) := fun i hi => by
    obtain ⟨y, m, hy, _⟩ := hfld i hi 4 _ rfl
    obtain ⟨z, e, _⟩ := DataW.trod_int Try.underlying3 hy
    have e2 : f i 4 = .int .i64 z := by simpa using e
    rw [e2]; rfl
  have hI5 : ∀ i, i < ll → f i 5 = .int .i64 (intOf (f i 5)) := fun i hi => by
    obtain ⟨y, m, hy, _⟩ := hfld i hi 5 _ rfl
    obtain ⟨z, e, _⟩ := DataW.trod_int Try.underlying3 hy
    have e2 : f i 5 = .int .i64 z := by simpa using e
    rw [e2]; rfl
  have hsl : ll * 48 ≤ 140737488355328 := by
    rcases hlen with h0 | ⟨el, sp, hd, hl⟩
    · subst h0; omega
    · have := sized_slice hsz (j := 1) (t := 24) (elems := el) (spare := sp) rfl (by simpa using hd) Try.underlying24
      rw [show Try.checked.prog.bytesOf 35 = 48 from by kernel_rfl] at this
      have := reachBytes_lt
      omega
  exact Qi.scripts_walk W ra rl rc f0 (fun i => intOf (f0 i 0)) (fun i => intOf (f0 i 1)) (fun i => intOf (f0 i 2)) hcell0 hE0 hE1 hE2 la ll lc hsl f (fun i => intOf (f i 0)) (fun i => intOf (f i 1)) (fun i => intOf (f i 2)) (fun i => intOf (f i 3)) (fun i => intOf (f i 4)) (fun i => intOf (f i 5)) hcell hI0 hI1 hI2 hI3 hI4 hI5

theorem over : Rows.drrScriptsRow.holds Try.pinned (OpenSpec.ofChange Rows.drrScriptsSpec) :=
  OpenClaim.holds_of_wide 6 Try.f6 rfl rfl rfl rfl rfl rfl rfl ⟨rfl, rfl, rfl, rfl, rfl⟩ rfl rfl rfl rfl rfl (by kernel_rfl) Try.func6 (by kernel_rfl)
    (of_decide_eq_true (by kernel_rfl)) (by unfold Func.isWrapper; first | (rw [if_pos (by decide +kernel)]; kernel_rfl) | (rw [if_neg (by decide +kernel)]; exact ⟨rfl, rfl⟩))
    (fun os started H enc _ => lifted os started H enc)

/-- The statement. -/
theorem proved : Rows.DrrScriptsSaid := over
#print axioms proved
end Go.Proofs.Ytanfhmebjgmdpaa.drrScripts
