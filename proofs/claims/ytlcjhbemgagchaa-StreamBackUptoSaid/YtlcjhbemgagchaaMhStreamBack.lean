/-
  Texts merged into one, to keep the claim small: StreamBack.
-/
import Derived.Test.YtlcjhbemgagchaaMc0
import Derived.Test.YtlcjhbemgagchaaMhS
import Derived.Test.YtlcjhbemgagchaaMhW
/-
  StreamBack: the call returns true for every input whose arguments are of bulk at most 1048576, and each argument reads afterwards as it read before.
-/
namespace Go.Proofs.Ytlcjhbemgagchaa.streamBack
open Go.ChangeShapes Go.WideShapes Go.ChangeAt Go.RowKit Go.Deep Go.Joins
open Go.ChangeMaps (open_string shut_string)
set_option linter.unusedVariables false

theorem own : ownKnob Try.prog.godebug = none := by kernel_rfl
theorem laidOut : laidOutB Try.prog = true := by kernel_rfl

set_option maxRecDepth 100000 in
theorem lifted (os : Os) (started : os.Started) (H : Type) (enc : TypeId × Value → H) (F : Stop.Interp) :
    ReturnsInHanded {} Try.checked os 8 .any ((Rows.OpenSpec.upto Rows.streamBackSpec).pre6 enc Try.prog Try.f8 Rows.streamBackUptoRow.domain false) (((Rows.OpenSpec.upto Rows.streamBackSpec).at F).post enc Try.prog Try.f8 false true false false) := by
  refine returnsInHanded_of_cond (C := Try.checked) (s := Rows.OpenSpec.upto Rows.streamBackSpec) (k := Rows.uptoSmall) rfl own started (by kernel_rfl) Try.func8
    (OpenSpec.witness (enc := enc) (C := Try.checked) (s := Rows.OpenSpec.upto Rows.streamBackSpec) (k := Rows.uptoSmall) rfl false ⟨#[], #[.slice none 0 0, .slice none 0 0, .int .i64 0, .int .i64 0], []⟩ 8 (by kernel_rfl) (by kernel_rfl) (by kernel_rfl)
      (x := ([.nil, .nil, .lit (.int .i64 0), .lit (.int .i64 0)], [], [])) (by kernel_rfl) rfl (by kernel_rfl)) ?_
  intro W base args ds gs before hval0 hW _ hk0 _
  have hval : ∀ (j : Nat) t v, Try.f8.params[j]? = some t → args[j]? = some v → Value.okWide Try.prog W .any base t v := hval0
  refine law_contract laidOut (of_decide_eq_true (by kernel_rfl)) rfl Try.underlying4 rfl (fun ds h => by have h2 : ds.length = 4 := h.trans (by kernel_rfl); match ds, h2 with | [e0, e1, e2, e3], _ => exact ⟨rfl, rfl, rfl⟩) hW ?_
  obtain ⟨p, q, hA0, hV, hpq, hfz, hnd⟩ := hW
  have hA : DataW.TrodAll enc Try.prog W 0 (fun _ => true) true Try.f8.params.toList args.toList ds p := hA0
  obtain ⟨rfl, rfl⟩ := trodVars_none hV
  rw [Try.params8] at hA hval
  obtain ⟨v0, vs0, d0, ds0, p0, q0, hargs, rfl, rfl, h0, r0⟩ := trodAll_cons hA
  obtain ⟨v1, vs1, d1, ds1, p1, q1, rfl, rfl, rfl, h1, r1⟩ := trodAll_cons r0
  obtain ⟨v2, vs2, d2, ds2, p2, q2, rfl, rfl, rfl, h2, r2⟩ := trodAll_cons r1
  obtain ⟨v3, vs3, d3, ds3, p3, q3, rfl, rfl, rfl, h3, r3⟩ := trodAll_cons r2
  obtain ⟨rfl, rfl, rfl⟩ := trodAll_nil r3
  obtain rfl : args = #[v0, v1, v2, v3] := by cases args; simp_all
  clear hA0 hval0
  have hk : Rows.uptoBulkAll ([d0, d1, d2, d3]) ≤ 1048576 := by simpa [Rows.uptoSmall] using hk0
  clear hk0
  obtain ⟨fuel0, hf0⟩ := h0
  obtain ⟨fuel1, hf1⟩ := h1
  simp only [Rows.uptoBulkAll] at hk
  obtain ⟨A, n, c, qs, hcs, hn, hc, hC, hl⟩ := open_commands hf0 (show Rows.uptoBulk d0 ≤ 1048576 by omega)
  obtain ⟨la, ll, lc, rfl⟩ := okWide_slice Try.underlying77 (hval 0 _ v0 rfl rfl)
  simp [Value.cells] at hcs
  obtain ⟨rfl, rfl, rfl⟩ := hcs
  obtain ⟨R, m, d, rs, hcs, hm, hd, hR, hl2⟩ := open_replies hf1 (show Rows.uptoBulk d1 ≤ 1048576 by omega)
  obtain ⟨ra, rl, rc, rfl⟩ := okWide_slice Try.underlying49 (hval 1 _ v1 rfl rfl)
  simp [Value.cells] at hcs
  obtain ⟨rfl, rfl, rfl⟩ := hcs
  obtain ⟨x, rfl, rfl, rfl, wx⟩ := open_int Try.underlying3 (hval 2 _ v2 rfl rfl) h2
  obtain ⟨y, rfl, rfl, rfl, wy⟩ := open_int Try.underlying3 (hval 3 _ v3 rfl rfl) h3
  have hb1 : ll + 1 ≤ Rows.uptoBulk d0 := hl
  have hb2 : rl + 1 ≤ Rows.uptoBulk d1 := hl2
  exact (back_walk29 W qs rs x y la ra ll lc rl rc (by omega) (by omega) hn hm hC hR (bd64 wy)).mono fun e w' ⟨he, hf⟩ => ⟨he, hf.toBelow (Nat.le_refl _) (fun _ _ => id)⟩

theorem over : Rows.streamBackUptoRow.holds Try.pinned (Rows.OpenSpec.upto Rows.streamBackSpec) :=
  OpenClaim.holds_of_cond 8 Try.f8 rfl rfl rfl rfl rfl rfl rfl ⟨rfl, rfl, rfl, rfl, rfl⟩ rfl rfl rfl rfl rfl (by kernel_rfl) Try.func8 (by kernel_rfl)
    (of_decide_eq_true (by kernel_rfl)) (by unfold Func.isWrapper; first | (rw [if_pos (by decide +kernel)]; kernel_rfl) | (rw [if_neg (by decide +kernel)]; exact ⟨rfl, rfl⟩))
    (fun os started H enc _ F => lifted os started H enc F)

/-- The statement. -/
theorem proved : Rows.StreamBackUptoSaid := over
#print axioms proved
end Go.Proofs.Ytlcjhbemgagchaa.streamBack
