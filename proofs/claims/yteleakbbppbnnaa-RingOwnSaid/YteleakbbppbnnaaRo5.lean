/-
  RingOwn: a room that is none; slices of integers that are handed in.
-/
import Derived.Test.YteleakbbppbnnaaRo4
namespace Go.Proofs.Yteleakbbppbnnaa
open Go.RowKit
set_option linter.unusedVariables false

theorem ints_sl {w : World} {B : Nat} {A : Option Addr} {n : Nat} {f : Nat → Nat → Value} (h : Cells w B A n 1 f) (hi : ∀ i, i < n → f i 0 = .int .i64 (intOf (f i 0))) :
    Sl w 1 A n (((List.range n).map fun j => intOf (f j 0)).map iv) := by
  refine ⟨by simp, fun hn => ?_⟩
  obtain ⟨b, o, hA, -, hc⟩ := h hn
  refine ⟨b, o, hA, fun j u hu => ?_⟩
  have hj : j < n := by have := (List.getElem?_eq_some_iff.1 hu).1; simpa using this
  have h1 := hc j 0 hj (by omega)
  rw [Nat.mul_one, Nat.add_zero, hi j hj] at h1
  rw [h1]
  simp [iv, hj] at hu
  rw [← hu]
set_option maxHeartbeats 1000000 in
set_option maxRecDepth 100000 in
theorem own_bad (w : World) (room : Int) (hb : room < 1 ∨ 65536 < room) (v1 v2 : Value) :
    Calls Try.prog 3 #[.int .i64 room, v1, v2] w fun e w' => e = .returned (.bool true) ∧ Below w.heap.size w w' := by
  have Hb := hide hb
  clear hb
  go_enter Try.func3, Try.ntmps3
  go_wp2_with fail
  refine (awake_any _).mono ?_
  rintro e w1 ⟨rfl, hf1⟩
  go_wp2_with fail
  refine (new_bad _ room Hb.out).mono ?_
  rintro e w2 ⟨rfl, rfl⟩
  go_wp2_with fail
  refine (new_ok _ 65536 (by omega) (by omega)).mono ?_
  rintro e w3 ⟨rfl, hR3, hf3, hs3⟩
  clear hR3 hs3
  go_wp2_with fail
  go_ret
  exact ⟨rfl, (hf1.trans hf3).toBelow (Nat.le_refl _) (fun _ _ => id)⟩
end Go.Proofs.Yteleakbbppbnnaa
