/-
  TlvTwo: the call returns true for every input whose arguments are of bulk at most 1048576, and each argument reads afterwards as it read before.
-/
import Derived.Test.YtbglloafbmamoaaFrame
import Derived.Test.YtbglloafbmamoaaBytes
import Derived.Test.YtbglloafbmamoaaBulkL
import Derived.Test.YtbglloafbmamoaaBulkT
import Derived.Test.YtbglloafbmamoaaTlvT3
namespace Go.Proofs.Ytbglloafbmamoaa.tlvTwo
open Go.ChangeShapes Go.WideShapes Go.ChangeAt Go.RowKit Go.Deep Go.Joins
open Go.ChangeMaps (open_string shut_string)
set_option linter.unusedVariables false

theorem own : ownKnob Try.prog.godebug = none := by kernel_rfl
theorem laidOut : laidOutB Try.prog = true := by kernel_rfl

set_option maxRecDepth 100000 in
theorem lifted (os : Os) (started : os.Started) (H : Type) (enc : TypeId × Value → H) (F : Stop.Interp) :
    ReturnsInHanded {} Try.checked os 11 .any ((Rows.OpenSpec.upto Rows.tlvTwoSpec).pre6 enc Try.prog Try.f11 Rows.tlvTwoUptoRow.domain false) (((Rows.OpenSpec.upto Rows.tlvTwoSpec).at F).post enc Try.prog Try.f11 false true false false) := by
  refine returnsInHanded_of_cond (C := Try.checked) (s := Rows.OpenSpec.upto Rows.tlvTwoSpec) (k := Rows.uptoSmall) rfl own started (by kernel_rfl) Try.func11
    (OpenSpec.witness (enc := enc) (C := Try.checked) (s := Rows.OpenSpec.upto Rows.tlvTwoSpec) (k := Rows.uptoSmall) rfl false ⟨#[], #[.slice none 0 0, .slice none 0 0, .int .u64 0], []⟩ 8 (by kernel_rfl) (by kernel_rfl) (by kernel_rfl)
      (x := ([.nil, .nil, .lit (.int .u64 0)], [], [])) (by kernel_rfl) rfl (by kernel_rfl)) ?_
  intro W base args ds gs before hval0 hW _ hk0 _
  have hval : ∀ (j : Nat) t v, Try.f11.params[j]? = some t → args[j]? = some v → Value.okWide Try.prog W .any base t v := hval0
  refine law_contract laidOut (of_decide_eq_true (by kernel_rfl)) rfl Try.underlying4 rfl (fun ds h => by have h2 : ds.length = 3 := h.trans (by kernel_rfl); match ds, h2 with | [e0, e1, e2], _ => exact ⟨rfl, rfl, rfl⟩) hW ?_
  obtain ⟨p, q, hA0, hV, hpq, hfz, hnd⟩ := hW
  have hA : DataW.TrodAll enc Try.prog W 0 (fun _ => true) true Try.f11.params.toList args.toList ds p := hA0
  obtain ⟨rfl, rfl⟩ := trodVars_none hV
  rw [Try.params11] at hA hval
  obtain ⟨v0, vs0, d0, ds0, p0, q0, hargs, rfl, rfl, h0, r0⟩ := trodAll_cons hA
  obtain ⟨v1, vs1, d1, ds1, p1, q1, rfl, rfl, rfl, h1, r1⟩ := trodAll_cons r0
  obtain ⟨v2, vs2, d2, ds2, p2, q2, rfl, rfl, rfl, h2, r2⟩ := trodAll_cons r1
  obtain ⟨rfl, rfl, rfl⟩ := trodAll_nil r2
  obtain rfl : args = #[v0, v1, v2] := by cases args; simp_all
  clear hA0 hval0
  have hk : Rows.uptoBulkAll ([d0, d1, d2]) ≤ 1048576 := by simpa [Rows.uptoSmall] using hk0
  clear hk0
  obtain ⟨fuel, hf⟩ := h0
  obtain ⟨fuel1, hf1⟩ := h1
  obtain ⟨A, n, c, fs, hcs, hn, hc, hF, hb, hf256⟩ := open_fieldsB Try.underlying35 Try.underlying39 (by kernel_rfl) (by kernel_rfl) rfl rfl Try.underlying3 Try.underlying23 Try.underlying5 (by kernel_rfl) hf
  obtain ⟨la, ll, lc, rfl⟩ := okWide_slice Try.underlying35 (hval 0 _ v0 rfl rfl)
  simp [Value.cells] at hcs
  obtain ⟨rfl, rfl, rfl⟩ := hcs
  obtain ⟨B, m, d, xss, hcs, hmd, hd, hB, h256, hb'⟩ := open_lists Try.underlying58 Try.underlying23 Try.underlying5 (by kernel_rfl) (by kernel_rfl) hf1
  obtain ⟨va, vl, vc, rfl⟩ := okWide_slice Try.underlying58 (hval 1 _ v1 rfl rfl)
  simp [Value.cells] at hcs
  obtain ⟨rfl, rfl, rfl⟩ := hcs
  obtain ⟨x, rfl, rfl, rfl, wx⟩ := open_int Try.underlying22 (hval 2 _ v2 rfl rfl) h2
  have bx := bdu64 wx
  obtain ⟨y, rfl⟩ : ∃ y : Nat, x = (y : Int) := ⟨x.toNat, by omega⟩
  simp only [Rows.uptoBulkAll] at hk
  have hb1 : (fs.map fun f => f.2.length + 1).sum ≤ 1048576 := Nat.le_trans hb (by show Rows.uptoBulk d0 ≤ _; omega)
  have hb2 : (xss.map fun x => x.length + 1).sum ≤ 1048576 := Nat.le_trans hb' (by show Rows.uptoBulk d1 ≤ _; omega)
  obtain ⟨k1, k2, k3⟩ := putAll_sum fs hb1
  obtain ⟨l1, l2, l3⟩ := listAll_sum xss hb2
  exact two_walk W fs la ll lc (by rw [hF.1]; omega) hF (by omega) k3 xss va vl vc (by rw [hB.1]; omega) hB (by omega) l3 h256 hf256 y (by unfold U64; omega)

theorem over : Rows.tlvTwoUptoRow.holds Try.pinned (Rows.OpenSpec.upto Rows.tlvTwoSpec) :=
  OpenClaim.holds_of_cond 11 Try.f11 rfl rfl rfl rfl rfl rfl rfl ⟨rfl, rfl, rfl, rfl, rfl⟩ rfl rfl rfl rfl rfl (by kernel_rfl) Try.func11 (by kernel_rfl)
    (of_decide_eq_true (by kernel_rfl)) (by unfold Func.isWrapper; first | (rw [if_pos (by decide +kernel)]; kernel_rfl) | (rw [if_neg (by decide +kernel)]; exact ⟨rfl, rfl⟩))
    (fun os started H enc _ F => lifted os started H enc F)

/-- The statement. -/
theorem proved : Rows.TlvTwoUptoSaid := over
#print axioms proved
end Go.Proofs.Ytbglloafbmamoaa.tlvTwo
