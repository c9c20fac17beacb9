/-
  Texts merged into one, to keep the claim small: StreamReplies.
-/
import Derived.Test.YtlcjhbemgagchaaMr0
import Derived.Test.YtlcjhbemgagchaaMr2
import Derived.Test.YtlcjhbemgagchaaMr8
import Derived.Test.YtlcjhbemgagchaaMr48
/-
  StreamReplies: the call returns true for every input whose arguments are of bulk at most 1048576, and each argument reads afterwards as it read before.
-/
namespace Go.Proofs.Ytlcjhbemgagchaa.streamReplies
open Go.ChangeShapes Go.WideShapes Go.ChangeAt Go.RowKit Go.Deep Go.Joins
open Go.ChangeMaps (open_string shut_string)
set_option linter.unusedVariables false

theorem own : ownKnob Try.prog.godebug = none := by kernel_rfl
theorem laidOut : laidOutB Try.prog = true := by kernel_rfl

set_option maxRecDepth 100000 in
theorem lifted (os : Os) (started : os.Started) (H : Type) (enc : TypeId × Value → H) (F : Stop.Interp) :
    ReturnsInHanded {} Try.checked os 4 .any ((Rows.OpenSpec.upto Rows.streamRepliesSpec).pre6 enc Try.prog Try.f4 Rows.streamRepliesUptoRow.domain false) (((Rows.OpenSpec.upto Rows.streamRepliesSpec).at F).post enc Try.prog Try.f4 false true false false) := by
  refine returnsInHanded_of_cond (C := Try.checked) (s := Rows.OpenSpec.upto Rows.streamRepliesSpec) (k := Rows.uptoSmall) rfl own started (by kernel_rfl) Try.func4
    (OpenSpec.witness (enc := enc) (C := Try.checked) (s := Rows.OpenSpec.upto Rows.streamRepliesSpec) (k := Rows.uptoSmall) rfl false ⟨#[], #[.slice none 0 0], []⟩ 8 (by kernel_rfl) (by kernel_rfl) (by kernel_rfl)
      (x := ([.nil], [], [])) (by kernel_rfl) rfl (by kernel_rfl)) ?_
  intro W base args ds gs before hval0 hW _ hk0 _
  have hval : ∀ (j : Nat) t v, Try.f4.params[j]? = some t → args[j]? = some v → Value.okWide Try.prog W .any base t v := hval0
  refine law_contract laidOut (of_decide_eq_true (by kernel_rfl)) rfl Try.underlying4 rfl (fun ds h => by have h2 : ds.length = 1 := h.trans (by kernel_rfl); match ds, h2 with | [e0], _ => exact ⟨rfl, rfl, rfl⟩) hW ?_
  obtain ⟨p, q, hA0, hV, hpq, hfz, hnd⟩ := hW
  have hA : DataW.TrodAll enc Try.prog W 0 (fun _ => true) true Try.f4.params.toList args.toList ds p := hA0
  obtain ⟨rfl, rfl⟩ := trodVars_none hV
  rw [Try.params4] at hA hval
  obtain ⟨v0, vs0, d0, ds0, p0, q0, hargs, rfl, rfl, h0, r0⟩ := trodAll_cons hA
  obtain ⟨rfl, rfl, rfl⟩ := trodAll_nil r0
  obtain rfl : args = #[v0] := by cases args; simp_all
  clear hA0 hval0
  have hk : Rows.uptoBulkAll ([d0]) ≤ 1048576 := by simpa [Rows.uptoSmall] using hk0
  clear hk0
  obtain ⟨fuel, hf⟩ := h0
  obtain ⟨A, n, c, xs, hcs, hn, hc, hl, h256, hS, hlen⟩ := open_bytes Try.underlying22 Try.underlying5 (by kernel_rfl) hf
  obtain ⟨la, ll, lc, rfl⟩ := okWide_slice Try.underlying22 (hval 0 _ v0 rfl rfl)
  simp [Value.cells] at hcs
  obtain ⟨rfl, rfl, rfl⟩ := hcs
  have hb1 := bytes_bulk hlen
  simp only [Rows.uptoBulkAll] at hk
  have hb3 : ll ≤ 1048576 := Nat.le_trans (Nat.le_succ _) (Nat.le_trans hb1 (by show Rows.uptoBulk d0 ≤ _; omega))
  exact replies_walk W xs la ll lc hl (by omega) hn hc h256 hS

theorem over : Rows.streamRepliesUptoRow.holds Try.pinned (Rows.OpenSpec.upto Rows.streamRepliesSpec) :=
  OpenClaim.holds_of_cond 4 Try.f4 rfl rfl rfl rfl rfl rfl rfl ⟨rfl, rfl, rfl, rfl, rfl⟩ rfl rfl rfl rfl rfl (by kernel_rfl) Try.func4 (by kernel_rfl)
    (of_decide_eq_true (by kernel_rfl)) (by unfold Func.isWrapper; first | (rw [if_pos (by decide +kernel)]; kernel_rfl) | (rw [if_neg (by decide +kernel)]; exact ⟨rfl, rfl⟩))
    (fun os started H enc _ F => lifted os started H enc F)

/-- The statement. -/
theorem proved : Rows.StreamRepliesUptoSaid := over
#print axioms proved
end Go.Proofs.Ytlcjhbemgagchaa.streamReplies
