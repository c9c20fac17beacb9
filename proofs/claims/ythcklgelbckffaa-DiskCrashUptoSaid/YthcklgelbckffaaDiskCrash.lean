/-
  DiskCrash: the call returns true for every input whose arguments are of bulk at most 1048576, and each argument reads afterwards as it read before.
-/
import Derived.Test.YthcklgelbckffaaFrame
import Derived.Test.YthcklgelbckffaaDkW
import Derived.Test.YthcklgelbckffaaDkS
import Derived.Test.YthcklgelbckffaaLs
import Derived.Test.YthcklgelbckffaaBy
namespace Go.Proofs.Ythcklgelbckffaa.diskCrash
open Go.ChangeShapes Go.WideShapes Go.ChangeAt Go.RowKit Go.Deep Go.Joins
open Go.ChangeMaps (open_string shut_string)
set_option linter.unusedVariables false

theorem own : ownKnob Try.prog.godebug = none := by kernel_rfl
theorem laidOut : laidOutB Try.prog = true := by kernel_rfl

set_option maxRecDepth 100000 in
theorem lifted (os : Os) (started : os.Started) (H : Type) (enc : TypeId × Value → H) (F : Stop.Interp) :
    ReturnsInHanded {} Try.checked os 3 .any ((Rows.OpenSpec.upto Rows.diskCrashSpec).pre6 enc Try.prog Try.f3 Rows.diskCrashUptoRow.domain false) (((Rows.OpenSpec.upto Rows.diskCrashSpec).at F).post enc Try.prog Try.f3 false true false false) := by
  refine returnsInHanded_of_cond (C := Try.checked) (s := Rows.OpenSpec.upto Rows.diskCrashSpec) (k := Rows.uptoSmall) rfl own started (by kernel_rfl) Try.func3
    (OpenSpec.witness (enc := enc) (C := Try.checked) (s := Rows.OpenSpec.upto Rows.diskCrashSpec) (k := Rows.uptoSmall) rfl false ⟨#[], #[.int .i64 1, .int .i64 1, .slice none 0 0, .slice none 0 0, .slice none 0 0, .slice none 0 0, .int .i64 1, .int .i64 1], []⟩ 8 (by kernel_rfl) (by kernel_rfl) (by kernel_rfl)
      (x := ([.lit (.int .i64 1), .lit (.int .i64 1), .nil, .nil, .nil, .nil, .lit (.int .i64 1), .lit (.int .i64 1)], [], [])) (by kernel_rfl) rfl (by kernel_rfl)) ?_
  intro W base args ds gs before hval0 hW _ hk0 _
  have hval : ∀ (j : Nat) t v, Try.f3.params[j]? = some t → args[j]? = some v → Value.okWide Try.prog W .any base t v := hval0
  refine law_contract laidOut (of_decide_eq_true (by kernel_rfl)) rfl Try.underlying4 rfl (fun ds h => by have h2 : ds.length = 8 := h.trans (by kernel_rfl); match ds, h2 with | [e0, e1, e2, e3, e4, e5, e6, e7], _ => exact ⟨rfl, rfl, rfl⟩) hW ?_
  obtain ⟨p, q, hA0, hV, hpq, hfz, hnd⟩ := hW
  have hA : DataW.TrodAll enc Try.prog W 0 (fun _ => true) true Try.f3.params.toList args.toList ds p := hA0
  obtain ⟨rfl, rfl⟩ := trodVars_none hV
  rw [Try.params3] at hA hval
  obtain ⟨v0, vs0, d0, ds0, p0, q0, hargs, rfl, rfl, h0, r0⟩ := trodAll_cons hA
  obtain ⟨v1, vs1, d1, ds1, p1, q1, rfl, rfl, rfl, h1, r1⟩ := trodAll_cons r0
  obtain ⟨v2, vs2, d2, ds2, p2, q2, rfl, rfl, rfl, h2, r2⟩ := trodAll_cons r1
  obtain ⟨v3, vs3, d3, ds3, p3, q3, rfl, rfl, rfl, h3, r3⟩ := trodAll_cons r2
  obtain ⟨v4, vs4, d4, ds4, p4, q4, rfl, rfl, rfl, h4, r4⟩ := trodAll_cons r3
  obtain ⟨v5, vs5, d5, ds5, p5, q5, rfl, rfl, rfl, h5, r5⟩ := trodAll_cons r4
  obtain ⟨v6, vs6, d6, ds6, p6, q6, rfl, rfl, rfl, h6, r6⟩ := trodAll_cons r5
  obtain ⟨v7, vs7, d7, ds7, p7, q7, rfl, rfl, rfl, h7, r7⟩ := trodAll_cons r6
  obtain ⟨rfl, rfl, rfl⟩ := trodAll_nil r7
  obtain rfl : args = #[v0, v1, v2, v3, v4, v5, v6, v7] := by cases args; simp_all
  clear hA0 hval0
  have hk : Rows.uptoBulkAll ([d0, d1, d2, d3, d4, d5, d6, d7]) ≤ 1048576 := by simpa [Rows.uptoSmall] using hk0
  clear hk0
  obtain ⟨sectors, rfl, rfl, rfl, wf0⟩ := open_int Try.underlying3 (hval 0 _ v0 rfl rfl) h0
  obtain ⟨fuse, rfl, rfl, rfl, wf1⟩ := open_int Try.underlying3 (hval 1 _ v1 rfl rfl) h1
  obtain ⟨fuel2, hf2⟩ := h2
  obtain ⟨fuel3, hf3⟩ := h3
  obtain ⟨fuel4, hf4⟩ := h4
  obtain ⟨fuel5, hf5⟩ := h5
  obtain ⟨tn, rfl, rfl, rfl, wf6⟩ := open_int Try.underlying3 (hval 6 _ v6 rfl rfl) h6
  obtain ⟨ct, rfl, rfl, rfl, wf7⟩ := open_int Try.underlying3 (hval 7 _ v7 rfl rfl) h7
  obtain ⟨A, n, c, xss, hcs, hn, hc, hF, _, hb⟩ := open_lists Try.underlying22 Try.underlying34 Try.underlying5 (by kernel_rfl) (by kernel_rfl) hf2
  obtain ⟨wa, wl, wc, rfl⟩ := okWide_slice Try.underlying22 (hval 2 _ v2 rfl rfl)
  simp [Value.cells] at hcs
  obtain ⟨rfl, rfl, rfl⟩ := hcs
  obtain ⟨P3, n3, c3, ps, hcs, hn3, hc3, hl3, hS3, -⟩ := open_intsL Try.underlying23 Try.underlying3 (by kernel_rfl) hf3
  obtain ⟨pa, pl, pc, rfl⟩ := okWide_slice Try.underlying23 (hval 3 _ v3 rfl rfl)
  simp [Value.cells] at hcs
  obtain ⟨rfl, rfl, rfl⟩ := hcs
  obtain ⟨P4, n4, c4, ys, hcs, hn4, hc4, hl4, hS4, -⟩ := open_bools Try.underlying24 Try.underlying4 (by kernel_rfl) hf4
  obtain ⟨ya, yl, yc, rfl⟩ := okWide_slice Try.underlying24 (hval 4 _ v4 rfl rfl)
  simp [Value.cells] at hcs
  obtain ⟨rfl, rfl, rfl⟩ := hcs
  obtain ⟨P5, n5, c5, kk, hcs, hn5, hc5, hl5, hS5, -⟩ := open_bools Try.underlying24 Try.underlying4 (by kernel_rfl) hf5
  obtain ⟨ka, kl, kc, rfl⟩ := okWide_slice Try.underlying24 (hval 5 _ v5 rfl rfl)
  simp [Value.cells] at hcs
  obtain ⟨rfl, rfl, rfl⟩ := hcs
  have hb2 : Rows.uptoBulk d2 ≤ 1048576 := Nat.le_trans (bulk_mem (by simp)) hk
  have hb3 : (xss.map fun x => x.length + 1).sum ≤ 1048576 := Nat.le_trans hb hb2
  have hwl : wl ≤ 1048576 := by have h1 := len_sum xss; have h2 := hF.1; omega
  exact (crash_walk W sectors fuse (bd64 wf1).2 wa wl wc xss hwl hF pa pl pc ps hl3 hS3 ya yl yc ys hl4 hS4 ka kl kc kk hl5 hS5 tn ct).mono fun e w' ⟨h1, h2⟩ => ⟨h1, h2.toBelow (Nat.le_refl _) (fun _ _ => id)⟩

theorem over : Rows.diskCrashUptoRow.holds Try.pinned (Rows.OpenSpec.upto Rows.diskCrashSpec) :=
  OpenClaim.holds_of_cond 3 Try.f3 rfl rfl rfl rfl rfl rfl rfl ⟨rfl, rfl, rfl, rfl, rfl⟩ rfl rfl rfl rfl rfl (by kernel_rfl) Try.func3 (by kernel_rfl)
    (of_decide_eq_true (by kernel_rfl)) (by unfold Func.isWrapper; first | (rw [if_pos (by decide +kernel)]; kernel_rfl) | (rw [if_neg (by decide +kernel)]; exact ⟨rfl, rfl⟩))
    (fun os started H enc _ F => lifted os started H enc F)

/-- The statement. -/
theorem proved : Rows.DiskCrashUptoSaid := over
#print axioms proved
end Go.Proofs.Ythcklgelbckffaa.diskCrash
