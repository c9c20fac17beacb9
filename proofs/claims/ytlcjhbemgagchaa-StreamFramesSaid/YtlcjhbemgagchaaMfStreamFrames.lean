/-
  Texts merged into one, to keep the claim small: StreamFrames.
-/
import Derived.Test.YtlcjhbemgagchaaMf1
import Derived.Test.YtlcjhbemgagchaaMf4
import Derived.Test.YtlcjhbemgagchaaMf23
import Derived.Test.YtlcjhbemgagchaaMf25
import Derived.Test.YtlcjhbemgagchaaMf48
/-
  StreamFrames: the call returns true for every input, and each argument reads afterwards as it read before. No condition of our own.
-/
namespace Go.Proofs.Ytlcjhbemgagchaa.streamFrames
open Go.ChangeShapes Go.WideShapes Go.ChangeAt Go.RowKit Go.Deep Go.Joins
open Go.ChangeMaps (open_string shut_string)
set_option linter.unusedVariables false

theorem own : ownKnob Try.prog.godebug = none := by kernel_rfl
theorem laidOut : laidOutB Try.prog = true := by kernel_rfl

set_option maxRecDepth 100000 in
theorem lifted (os : Os) (started : os.Started) (H : Type) (enc : TypeId × Value → H) :
    ReturnsInHanded {} Try.checked os 3 .any (Rows.streamFramesSpec.pre6 enc Try.prog Try.f3 Rows.streamFramesRow.domain false) (Rows.streamFramesSpec.post enc Try.prog Try.f3 false true false false) := by
  refine returnsInHanded_of_change_sized (C := Try.checked) own started (by kernel_rfl) Try.func3
    (ChangeSpec.witness6 (enc := enc) (C := Try.checked) false ⟨#[], #[.slice none 0 0, .agg #[.int .i64 0, .int .i64 0, .string ⟨#[]⟩, .int .i64 0, .int .u64 0, .int .i64 0, .int .i64 0, .int .i64 0, .int .i64 0, .int .i64 0, .int .u64 0, .int .u64 0, .slice none 0 0, .int .i64 0, .int .i64 0, .int .i64 0, .int .i64 0, .int .i64 0, .int .i64 0, .int .u64 0, .int .u64 0, .int .u64 0, .int .i64 0, .slice none 0 0], .agg #[.int .i64 0, .int .i64 0, .int .i64 0, .int .u64 0, .slice none 0 0, .string ⟨#[]⟩, .int .u32 0, .int .i64 0, .int .i64 0, .int .i64 0, .int .i64 0, .int .i64 0, .int .i64 0, .int .u64 0, .int .u64 0, .int .u64 0, .int .i64 0, .slice none 0 0]], []⟩ 8 (by kernel_rfl) (by kernel_rfl) (by kernel_rfl) (by kernel_rfl)) ?_
  intro W base args ds gs before hval0 hW _ hsz0 _
  have hval : ∀ (j : Nat) t v, Try.f3.params[j]? = some t → args[j]? = some v → Value.okWide Try.prog W .any base t v := hval0
  refine law_contract laidOut (of_decide_eq_true (by kernel_rfl)) rfl Try.underlying4 rfl (fun ds h => by have h2 : ds.length = 3 := h.trans (by kernel_rfl); match ds, h2 with | [e0, e1, e2], _ => exact ⟨rfl, rfl, rfl⟩) hW ?_
  obtain ⟨p, q, hA0, hV, hpq, hfz, hnd⟩ := hW
  have hA : DataW.TrodAll enc Try.prog W 0 (fun _ => true) true Try.f3.params.toList args.toList ds p := hA0
  obtain ⟨rfl, rfl⟩ := trodVars_none hV
  have hsz := hsz0
  rw [Try.params3] at hA hval hsz
  obtain ⟨v0, vs0, d0, ds0, p0, q0, hargs, rfl, rfl, h0, r0⟩ := trodAll_cons hA
  obtain ⟨v1, vs1, d1, ds1, p1, q1, rfl, rfl, rfl, h1, r1⟩ := trodAll_cons r0
  obtain ⟨v2, vs2, d2, ds2, p2, q2, rfl, rfl, rfl, h2, r2⟩ := trodAll_cons r1
  obtain ⟨rfl, rfl, rfl⟩ := trodAll_nil r2
  obtain rfl : args = #[v0, v1, v2] := by cases args; simp_all
  clear hA0 hval0 hsz0
  obtain ⟨fuel0, hf0⟩ := h0
  obtain ⟨fuel1, hf1⟩ := h1
  obtain ⟨fuel2, hf2⟩ := h2
  obtain ⟨A, n, c, xs, hcs, -, -, hn, hx, hSA, hlen⟩ := open_bytes Try.underlying22 Try.underlying5 (by kernel_rfl) hf0
  obtain ⟨la, ll, lc, rfl⟩ := okWide_slice Try.underlying22 (hval 0 _ v0 rfl rfl)
  simp [Value.cells] at hcs
  obtain ⟨rfl, rfl, rfl⟩ := hcs
  have hb : ll ≤ 140737488351232 := by
    rcases hlen with h0 | ⟨el, sp, hd, hl⟩
    · subst h0; omega
    · have := sized_slice hsz (j := 0) (t := 22) (elems := el) (spare := sp) rfl (by simpa using hd) Try.underlying22
      rw [show Try.checked.prog.bytesOf 5 = 1 from by kernel_rfl] at this
      have h9 : reachBytes = 140737488351232 := by decide
      omega
  have hw1 : ∀ v ∈ d1.weights Try.prog 31, v ≤ reachBytes := fun v hv => of_decide_eq_true (List.all_eq_true.1 hsz _ (DataW.weights_mem_each (j := 1) rfl rfl _ hv))
  have hw2 : ∀ v ∈ d2.weights Try.prog 35, v ≤ reachBytes := fun v hv => of_decide_eq_true (List.all_eq_true.1 hsz _ (DataW.weights_mem_each (j := 2) rfl rfl _ hv))
  obtain ⟨q, hcs1, hat1, hwf1⟩ := open_command hf1 hw1
  obtain ⟨r, hcs2, hat2, hwf2⟩ := open_reply hf2 hw2
  obtain ⟨cs1, rfl, -⟩ := okWide_struct Try.underlying31 (hval 1 _ v1 rfl rfl)
  obtain ⟨cs2, rfl, -⟩ := okWide_struct Try.underlying35 (hval 2 _ v2 rfl rfl)
  have e1 : cs1 = q.cells.toArray := by
    have h3 : cs1.toList = q.cells := by simpa [Value.cells] using hcs1
    rw [← h3]
  have e2 : cs2 = r.cells.toArray := by
    have h3 : cs2.toList = r.cells := by simpa [Value.cells] using hcs2
    rw [← h3]
  subst e1 e2
  exact frames_any W xs la ll lc hn hb hSA q r hat1 hwf1 hat2 hwf2

theorem over : Rows.streamFramesRow.holds Try.pinned (OpenSpec.ofChange Rows.streamFramesSpec) :=
  OpenClaim.holds_of_wide 3 Try.f3 rfl rfl rfl rfl rfl rfl rfl ⟨rfl, rfl, rfl, rfl, rfl⟩ rfl rfl rfl rfl rfl (by kernel_rfl) Try.func3 (by kernel_rfl)
    (of_decide_eq_true (by kernel_rfl)) (by unfold Func.isWrapper; first | (rw [if_pos (by decide +kernel)]; kernel_rfl) | (rw [if_neg (by decide +kernel)]; exact ⟨rfl, rfl⟩))
    (fun os started H enc _ => lifted os started H enc)

/-- The statement. -/
theorem proved : Rows.StreamFramesSaid := over
#print axioms proved
end Go.Proofs.Ytlcjhbemgagchaa.streamFrames
