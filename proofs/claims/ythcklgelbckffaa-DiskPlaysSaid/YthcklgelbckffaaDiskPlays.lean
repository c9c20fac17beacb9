/-
  DiskPlays: the call returns true for every input, and each argument reads afterwards as it read before. No condition of our own.
-/
import Derived.Test.YthcklgelbckffaaFrame
import Derived.Test.YthcklgelbckffaaDs6
import Derived.Test.YthcklgelbckffaaDkS
import Derived.Test.YthcklgelbckffaaBy
namespace Go.Proofs.Ythcklgelbckffaa.diskPlays
open Go.ChangeShapes Go.WideShapes Go.ChangeAt Go.RowKit Go.Deep Go.Joins
open Go.ChangeMaps (open_string shut_string)
set_option linter.unusedVariables false

theorem own : ownKnob Try.prog.godebug = none := by kernel_rfl
theorem laidOut : laidOutB Try.prog = true := by kernel_rfl

set_option maxRecDepth 100000 in
theorem lifted (os : Os) (started : os.Started) (H : Type) (enc : TypeId × Value → H) :
    ReturnsInHanded {} Try.checked os 5 .any (Rows.diskPlaysSpec.pre6 enc Try.prog Try.f5 Rows.diskPlaysRow.domain false) (Rows.diskPlaysSpec.post enc Try.prog Try.f5 false true false false) := by
  refine returnsInHanded_of_change_sized (C := Try.checked) own started (by kernel_rfl) Try.func5
    (ChangeSpec.witness6 (enc := enc) (C := Try.checked) false ⟨#[], #[.int .i64 1, .slice none 0 0, .slice none 0 0], []⟩ 8 (by kernel_rfl) (by kernel_rfl) (by kernel_rfl) (by kernel_rfl)) ?_
  intro W base args ds gs before hval0 hW _ hsz0 _
  have hval : ∀ (j : Nat) t v, Try.f5.params[j]? = some t → args[j]? = some v → Value.okWide Try.prog W .any base t v := hval0
  refine law_contract laidOut (of_decide_eq_true (by kernel_rfl)) rfl Try.underlying4 rfl (fun ds h => by have h2 : ds.length = 3 := h.trans (by kernel_rfl); match ds, h2 with | [e0, e1, e2], _ => exact ⟨rfl, rfl, rfl⟩) hW ?_
  obtain ⟨p, q, hA0, hV, hpq, hfz, hnd⟩ := hW
  have hA : DataW.TrodAll enc Try.prog W 0 (fun _ => true) true Try.f5.params.toList args.toList ds p := hA0
  obtain ⟨rfl, rfl⟩ := trodVars_none hV
  have hsz := hsz0
  rw [Try.params5] at hA hval hsz
  obtain ⟨v0, vs0, d0, ds0, p0, q0, hargs, rfl, rfl, h0, r0⟩ := trodAll_cons hA
  obtain ⟨v1, vs1, d1, ds1, p1, q1, rfl, rfl, rfl, h1, r1⟩ := trodAll_cons r0
  obtain ⟨v2, vs2, d2, ds2, p2, q2, rfl, rfl, rfl, h2, r2⟩ := trodAll_cons r1
  obtain ⟨rfl, rfl, rfl⟩ := trodAll_nil r2
  obtain rfl : args = #[v0, v1, v2] := by cases args; simp_all
  clear hA0 hval0 hsz0
  obtain ⟨sectors, rfl, rfl, rfl, wf0⟩ := open_int Try.underlying3 (hval 0 _ v0 rfl rfl) h0
  obtain ⟨fuel, hf⟩ := h1
  obtain ⟨fuel1, hf1⟩ := h2
  obtain ⟨A, n, c, xs, hcs, hn, hc, hl, h256, hS, hlen⟩ := open_bytes Try.underlying34 Try.underlying5 (by kernel_rfl) hf
  obtain ⟨la, ll, lc, rfl⟩ := okWide_slice Try.underlying34 (hval 1 _ v1 rfl rfl)
  simp [Value.cells] at hcs
  obtain ⟨rfl, rfl, rfl⟩ := hcs
  obtain ⟨SA, sn, scp, O, hcs, hsn, hsc, hScript, hslen⟩ := open_script hf1 hsz (j := 2) rfl rfl
  obtain ⟨sa, sl, sc, rfl⟩ := okWide_slice Try.underlying53 (hval 2 _ v2 rfl rfl)
  simp [Value.cells] at hcs
  obtain ⟨rfl, rfl, rfl⟩ := hcs
  have e : reachBytes = 140737488351232 := by decide
  have hsl : ll ≤ 140737488351232 := by
    rcases hlen with h0 | ⟨el, sp, hd, hl⟩
    · subst h0; omega
    · have := sized_slice hsz (j := 1) (t := 34) (elems := el) (spare := sp) rfl (by simpa using hd) Try.underlying34
      rw [show Try.checked.prog.bytesOf 5 = 1 from by kernel_rfl] at this
      omega
  have hss : sl ≤ 1600000000000 := by
    rcases hslen with h0 | ⟨el, sp, hd, hl⟩
    · subst h0; omega
    · have := sized_slice hsz (j := 2) (t := 53) (elems := el) (spare := sp) rfl (by simpa using hd) Try.underlying53
      rw [show Try.checked.prog.bytesOf 61 = 88 from by kernel_rfl] at this
      omega
  exact (dplays_walk W sectors xs la ll lc hl hsl hS sa sl sc O hss hScript).mono fun e w' ⟨h1, h2⟩ => ⟨h1, h2.toBelow (Nat.le_refl _) (fun _ _ => id)⟩

theorem over : Rows.diskPlaysRow.holds Try.pinned (OpenSpec.ofChange Rows.diskPlaysSpec) :=
  OpenClaim.holds_of_wide 5 Try.f5 rfl rfl rfl rfl rfl rfl rfl ⟨rfl, rfl, rfl, rfl, rfl⟩ rfl rfl rfl rfl rfl (by kernel_rfl) Try.func5 (by kernel_rfl)
    (of_decide_eq_true (by kernel_rfl)) (by unfold Func.isWrapper; first | (rw [if_pos (by decide +kernel)]; kernel_rfl) | (rw [if_neg (by decide +kernel)]; exact ⟨rfl, rfl⟩))
    (fun os started H enc _ => lifted os started H enc)

/-- The statement. -/
theorem proved : Rows.DiskPlaysSaid := over
#print axioms proved
end Go.Proofs.Ythcklgelbckffaa.diskPlays
