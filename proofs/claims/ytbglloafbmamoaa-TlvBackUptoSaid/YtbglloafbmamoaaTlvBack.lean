/-
  TlvBack: the call returns true for every input whose arguments are of bulk at most 1048576, and each argument reads afterwards as it read before.
-/
import Derived.Test.YtbglloafbmamoaaFrame
import Derived.Test.YtbglloafbmamoaaBulk
import Derived.Test.YtbglloafbmamoaaBulkL
import Derived.Test.YtbglloafbmamoaaTlvU4
namespace Go.Proofs.Ytbglloafbmamoaa.tlvBack
open Go.ChangeShapes Go.WideShapes Go.ChangeAt Go.RowKit Go.Deep Go.Joins
open Go.ChangeMaps (open_string shut_string)
set_option linter.unusedVariables false

theorem own : ownKnob Try.prog.godebug = none := by kernel_rfl
theorem laidOut : laidOutB Try.prog = true := by kernel_rfl

set_option maxRecDepth 100000 in
theorem lifted (os : Os) (started : os.Started) (H : Type) (enc : TypeId × Value → H) (F : Stop.Interp) :
    ReturnsInHanded {} Try.checked os 12 .any ((Rows.OpenSpec.upto Rows.tlvBackSpec).pre6 enc Try.prog Try.f12 Rows.tlvBackUptoRow.domain false) (((Rows.OpenSpec.upto Rows.tlvBackSpec).at F).post enc Try.prog Try.f12 false true false false) := by
  refine returnsInHanded_of_cond (C := Try.checked) (s := Rows.OpenSpec.upto Rows.tlvBackSpec) (k := Rows.uptoSmall) rfl own started (by kernel_rfl) Try.func12
    (OpenSpec.witness (enc := enc) (C := Try.checked) (s := Rows.OpenSpec.upto Rows.tlvBackSpec) (k := Rows.uptoSmall) rfl false ⟨#[], #[.int .u64 0, .string ⟨#[]⟩, .slice none 0 0, .slice none 0 0, .int .i64 0], []⟩ 8 (by kernel_rfl) (by kernel_rfl) (by kernel_rfl)
      (x := ([.lit (.int .u64 0), .lit (.string []), .nil, .nil, .lit (.int .i64 0)], [], [])) (by kernel_rfl) rfl (by kernel_rfl)) ?_
  intro W base args ds gs before hval0 hW _ hk0 _
  have hval : ∀ (j : Nat) t v, Try.f12.params[j]? = some t → args[j]? = some v → Value.okWide Try.prog W .any base t v := hval0
  refine law_contract laidOut (of_decide_eq_true (by kernel_rfl)) rfl Try.underlying4 rfl (fun ds h => by have h2 : ds.length = 5 := h.trans (by kernel_rfl); match ds, h2 with | [e0, e1, e2, e3, e4], _ => exact ⟨rfl, rfl, rfl⟩) hW ?_
  obtain ⟨p, q, hA0, hV, hpq, hfz, hnd⟩ := hW
  have hA : DataW.TrodAll enc Try.prog W 0 (fun _ => true) true Try.f12.params.toList args.toList ds p := hA0
  obtain ⟨rfl, rfl⟩ := trodVars_none hV
  rw [Try.params12] at hA hval
  obtain ⟨v0, vs0, d0, ds0, p0, q0, hargs, rfl, rfl, h0, r0⟩ := trodAll_cons hA
  obtain ⟨v1, vs1, d1, ds1, p1, q1, rfl, rfl, rfl, h1, r1⟩ := trodAll_cons r0
  obtain ⟨v2, vs2, d2, ds2, p2, q2, rfl, rfl, rfl, h2, r2⟩ := trodAll_cons r1
  obtain ⟨v3, vs3, d3, ds3, p3, q3, rfl, rfl, rfl, h3, r3⟩ := trodAll_cons r2
  obtain ⟨v4, vs4, d4, ds4, p4, q4, rfl, rfl, rfl, h4, r4⟩ := trodAll_cons r3
  obtain ⟨rfl, rfl, rfl⟩ := trodAll_nil r4
  obtain rfl : args = #[v0, v1, v2, v3, v4] := by cases args; simp_all
  clear hA0 hval0
  have hk : Rows.uptoBulkAll ([d0, d1, d2, d3, d4]) ≤ 1048576 := by simpa [Rows.uptoSmall] using hk0
  clear hk0
  obtain ⟨y, rfl, rfl, rfl, wf0⟩ := open_int Try.underlying22 (hval 0 _ v0 rfl rfl) h0
  have by_ := bdu64 wf0
  obtain ⟨n, rfl⟩ : ∃ n : Nat, y = (n : Int) := ⟨y.toNat, by omega⟩
  obtain ⟨st, rfl, rfl, rfl, hst⟩ := open_string Try.underlying9 (hval 1 _ v1 rfl rfl) h1
  obtain ⟨s, rfl, hsl, s256⟩ := strOf_of st
  obtain ⟨fuel2, hf2⟩ := h2
  obtain ⟨V, m, d, raw, hcs, hmd, hd, hl, r256, hV, hlen⟩ := open_bytes Try.underlying23 Try.underlying5 (by kernel_rfl) hf2
  obtain ⟨la, ll, lc, rfl⟩ := okWide_slice Try.underlying23 (hval 2 _ v2 rfl rfl)
  simp [Value.cells] at hcs
  obtain ⟨rfl, rfl, rfl⟩ := hcs
  obtain ⟨fuel3, hf3⟩ := h3
  obtain ⟨A, k, c, xss, hcs, hkc, hc, hB, x256, hb⟩ := open_lists Try.underlying58 Try.underlying23 Try.underlying5 (by kernel_rfl) (by kernel_rfl) hf3
  obtain ⟨va, vl, vc, rfl⟩ := okWide_slice Try.underlying58 (hval 3 _ v3 rfl rfl)
  simp [Value.cells] at hcs
  obtain ⟨rfl, rfl, rfl⟩ := hcs
  obtain ⟨deep, rfl, rfl, rfl, wf4⟩ := open_int Try.underlying3 (hval 4 _ v4 rfl rfl) h4
  simp only [Rows.uptoBulkAll] at hk
  have b2 := bytes_bulk hlen
  have e1 : Rows.uptoBulk (DataW.lit (.string (strOf s).data.toList) : DataW H) = (strOf s).data.toList.length + 1 := rfl
  have b3 : (xss.map fun x => x.length + 1).sum ≤ 1048576 := Nat.le_trans hb (by show Rows.uptoBulk d3 ≤ _; omega)
  have b4 := szs_sum xss
  exact back_walk W n (by unfold U64; omega) s raw xss la va ll lc vl vc deep (by omega) s256 (by have b2' : ll + 1 ≤ Rows.uptoBulk d2 := b2; omega) r256 x256 hV (by omega) hB

theorem over : Rows.tlvBackUptoRow.holds Try.pinned (Rows.OpenSpec.upto Rows.tlvBackSpec) :=
  OpenClaim.holds_of_cond 12 Try.f12 rfl rfl rfl rfl rfl rfl rfl ⟨rfl, rfl, rfl, rfl, rfl⟩ rfl rfl rfl rfl rfl (by kernel_rfl) Try.func12 (by kernel_rfl)
    (of_decide_eq_true (by kernel_rfl)) (by unfold Func.isWrapper; first | (rw [if_pos (by decide +kernel)]; kernel_rfl) | (rw [if_neg (by decide +kernel)]; exact ⟨rfl, rfl⟩))
    (fun os started H enc _ F => lifted os started H enc F)

/-- The statement. -/
theorem proved : Rows.TlvBackUptoSaid := over
#print axioms proved
end Go.Proofs.Ytbglloafbmamoaa.tlvBack
