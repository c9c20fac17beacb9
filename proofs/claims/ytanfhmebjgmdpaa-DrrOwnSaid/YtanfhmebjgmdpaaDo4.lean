/-
  Slices of integers that are handed in.
-/
import Derived.Test.YtanfhmebjgmdpaaDo3
namespace Go.Proofs.Ytanfhmebjgmdpaa.Qi
open Go.RowKit
set_option linter.unusedVariables false
theorem ints_sl {w : World} {B : Nat} {A : Option Addr} {n : Nat} {f : Nat → Nat → Value} (h : Cells w B A n 1 f) (hi : ∀ i, i < n → f i 0 = .int .i64 (intOf (f i 0))) :
    Sl w 1 A n (((List.range n).map fun j => intOf (f j 0)).map giv) := by
  refine ⟨by simp, fun hn => ?_⟩
  obtain ⟨b, o, hA, -, hc⟩ := h hn
  refine ⟨b, o, hA, fun j u hu => ?_⟩
  have hj : j < n := by have := (List.getElem?_eq_some_iff.1 hu).1; simpa using this
  have h1 := hc j 0 hj (by omega)
  rw [Nat.mul_one, Nat.add_zero, hi j hj] at h1
  rw [h1]
  simp [giv, hj] at hu
  rw [← hu]
end Go.Proofs.Ytanfhmebjgmdpaa.Qi
