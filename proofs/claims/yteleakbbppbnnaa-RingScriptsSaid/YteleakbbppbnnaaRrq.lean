/-
  Numbers handed in, as a list.
-/
import Derived.Test.YteleakbbppbnnaaRrp
namespace Go.Proofs.Yteleakbbppbnnaa
open Go.RowKit
set_option linter.unusedVariables false
theorem slB_of {w : World} {B : Nat} {A : Option Addr} {n : Nat} {f : Nat → Nat → Value} {g : Nat → Int} (h : Cells w B A n 1 f) (hf : ∀ i, i < n → f i 0 = .int .i64 (g i)) : SlB w B A n (((List.range n).map g).map iv) :=
  ⟨by simp, fun hn => by
    obtain ⟨b, o, hA, hb, hc⟩ := h hn
    refine ⟨b, o, hA, hb, fun j u hu => ?_⟩
    have hj : j < n := by have := (List.getElem?_eq_some_iff.1 hu).1; simpa using this
    rw [List.getElem?_map, List.getElem?_map, List.getElem?_range hj] at hu
    have h1 := hc j 0 hj (by omega)
    rw [hf j hj] at h1
    have h2 : u = .int .i64 (g j) := (Option.some.inj hu).symm
    rw [h2]
    simpa using h1⟩
end Go.Proofs.Yteleakbbppbnnaa
