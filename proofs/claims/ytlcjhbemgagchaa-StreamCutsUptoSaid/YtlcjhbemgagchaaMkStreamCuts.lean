/-
  Texts merged into one, to keep the claim small: StreamCuts.
-/
import Derived.Test.YtlcjhbemgagchaaMc0
import Derived.Test.YtlcjhbemgagchaaMc1
import Derived.Test.YtlcjhbemgagchaaMc2
import Derived.Test.YtlcjhbemgagchaaMdBulkL
import Derived.Test.YtlcjhbemgagchaaMkPrO
import Derived.Test.YtlcjhbemgagchaaMkSv4
/-
  StreamCuts: the call returns true for every input whose arguments are of bulk at most 1048576, and each argument reads afterwards as it read before.
-/
namespace Go.Proofs.Ytlcjhbemgagchaa.streamCuts
open Go.ChangeShapes Go.WideShapes Go.ChangeAt Go.RowKit Go.Deep Go.Joins
open Go.ChangeMaps (open_string shut_string)
set_option linter.unusedVariables false

theorem own : ownKnob Try.prog.godebug = none := by kernel_rfl
theorem laidOut : laidOutB Try.prog = true := by kernel_rfl

set_option maxRecDepth 100000 in
theorem lifted (os : Os) (started : os.Started) (H : Type) (enc : TypeId × Value → H) (F : Stop.Interp) :
    ReturnsInHanded {} Try.checked os 6 .any ((Rows.OpenSpec.upto Rows.streamCutsSpec).pre6 enc Try.prog Try.f6 Rows.streamCutsUptoRow.domain false) (((Rows.OpenSpec.upto Rows.streamCutsSpec).at F).post enc Try.prog Try.f6 false true false false) := by
  refine returnsInHanded_of_cond (C := Try.checked) (s := Rows.OpenSpec.upto Rows.streamCutsSpec) (k := Rows.uptoSmall) rfl own started (by kernel_rfl) Try.func6
    (OpenSpec.witness (enc := enc) (C := Try.checked) (s := Rows.OpenSpec.upto Rows.streamCutsSpec) (k := Rows.uptoSmall) rfl false ⟨#[], #[.slice none 0 0, .slice none 0 0, .slice none 0 0], []⟩ 8 (by kernel_rfl) (by kernel_rfl) (by kernel_rfl)
      (x := ([.nil, .nil, .nil], [], [])) (by kernel_rfl) rfl (by kernel_rfl)) ?_
  intro W base args ds gs before hval0 hW _ hk0 _
  have hval : ∀ (j : Nat) t v, Try.f6.params[j]? = some t → args[j]? = some v → Value.okWide Try.prog W .any base t v := hval0
  refine law_contract laidOut (of_decide_eq_true (by kernel_rfl)) rfl Try.underlying4 rfl (fun ds h => by have h2 : ds.length = 3 := h.trans (by kernel_rfl); match ds, h2 with | [e0, e1, e2], _ => exact ⟨rfl, rfl, rfl⟩) hW ?_
  obtain ⟨p, q, hA0, hV, hpq, hfz, hnd⟩ := hW
  have hA : DataW.TrodAll enc Try.prog W 0 (fun _ => true) true Try.f6.params.toList args.toList ds p := hA0
  obtain ⟨rfl, rfl⟩ := trodVars_none hV
  rw [Try.params6] at hA hval
  obtain ⟨v0, vs0, d0, ds0, p0, q0, hargs, rfl, rfl, h0, r0⟩ := trodAll_cons hA
  obtain ⟨v1, vs1, d1, ds1, p1, q1, rfl, rfl, rfl, h1, r1⟩ := trodAll_cons r0
  obtain ⟨v2, vs2, d2, ds2, p2, q2, rfl, rfl, rfl, h2, r2⟩ := trodAll_cons r1
  obtain ⟨rfl, rfl, rfl⟩ := trodAll_nil r2
  obtain rfl : args = #[v0, v1, v2] := by cases args; simp_all
  clear hA0 hval0
  have hk : Rows.uptoBulkAll ([d0, d1, d2]) ≤ 1048576 := by simpa [Rows.uptoSmall] using hk0
  clear hk0
  obtain ⟨fuel0, hf0⟩ := h0
  obtain ⟨fuel1, hf1⟩ := h1
  obtain ⟨fuel2, hf2⟩ := h2
  obtain ⟨A, n, c, xs, hcs, hn, hc, hl, h256, hS, hlen⟩ := open_bytes Try.underlying22 Try.underlying5 (by kernel_rfl) hf0
  obtain ⟨la, ll, lc, rfl⟩ := okWide_slice Try.underlying22 (hval 0 _ v0 rfl rfl)
  simp [Value.cells] at hcs
  obtain ⟨rfl, rfl, rfl⟩ := hcs
  obtain ⟨Z, nz, cz, zs, hcs, hnz, hcz, hlz, hSz, hlenz⟩ := open_intsL Try.underlying24 Try.underlying3 (by kernel_rfl) hf1
  obtain ⟨za, zl, zc, rfl⟩ := okWide_slice Try.underlying24 (hval 1 _ v1 rfl rfl)
  simp [Value.cells] at hcs
  obtain ⟨rfl, rfl, rfl⟩ := hcs
  obtain ⟨F, nf, cf, fs, hcs, hnf, hcf, hlf, hf256, hSf, hlenf⟩ := open_bytes Try.underlying22 Try.underlying5 (by kernel_rfl) hf2
  obtain ⟨fa, fl, fc, rfl⟩ := okWide_slice Try.underlying22 (hval 2 _ v2 rfl rfl)
  simp [Value.cells] at hcs
  obtain ⟨rfl, rfl, rfl⟩ := hcs
  have hb1 : ll + 1 ≤ Rows.uptoBulk d0 := bytes_bulk hlen
  have hb2 : zl + 1 ≤ Rows.uptoBulk d1 := bytes_bulk hlenz
  have hb3 : fl + 1 ≤ Rows.uptoBulk d2 := bytes_bulk hlenf
  simp only [Rows.uptoBulkAll] at hk
  exact cuts_walk W xs fs zs la za fa ll lc zl zc fl fc hl hlf hlz (by omega) (by omega) hn hc h256 hf256 hS hSz hSf

theorem over : Rows.streamCutsUptoRow.holds Try.pinned (Rows.OpenSpec.upto Rows.streamCutsSpec) :=
  OpenClaim.holds_of_cond 6 Try.f6 rfl rfl rfl rfl rfl rfl rfl ⟨rfl, rfl, rfl, rfl, rfl⟩ rfl rfl rfl rfl rfl (by kernel_rfl) Try.func6 (by kernel_rfl)
    (of_decide_eq_true (by kernel_rfl)) (by unfold Func.isWrapper; first | (rw [if_pos (by decide +kernel)]; kernel_rfl) | (rw [if_neg (by decide +kernel)]; exact ⟨rfl, rfl⟩))
    (fun os started H enc _ F => lifted os started H enc F)

/-- The statement. -/
theorem proved : Rows.StreamCutsUptoSaid := over
#print axioms proved
end Go.Proofs.Ytlcjhbemgagchaa.streamCuts
