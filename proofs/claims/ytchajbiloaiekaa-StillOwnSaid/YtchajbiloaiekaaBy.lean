/-
  An argument that is a slice of bytes, opened.
-/
import Derived.Test.YtchajbiloaiekaaFrame
import Derived.Test.YtchajbiloaiekaaOwn
namespace Go.Proofs.Ytchajbiloaiekaa
open Go.ChangeShapes Go.WideShapes Go.ChangeAt Go.RowKit Go.Deep Go.Joins
set_option linter.unusedVariables false

def bn (b : Nat) : Value := .int .u8 (b : Int)
theorem bn_one (xs : List Nat) : ∀ u ∈ xs.map bn, u.oneCell' = true := by
  intro u hu; obtain ⟨_, _, rfl⟩ := List.mem_map.1 hu; rfl
theorem bn_get {xs : List Nat} {k : Nat} (h : k < xs.length) : (xs.map bn)[k]? = some (.int .u8 ((xs.getD k 0 : Nat) : Int)) := by
  simp [bn, List.getElem?_eq_getElem h, List.getD]
section
variable {H : Type} {enc : TypeId × Value → H} {P : Program} {w : World} {base : Nat} {spare : Nat → Bool} {held : Bool}
theorem open_bytes {t e : TypeId} {fuel : Nat} {cs : List Value} {x : DataW H × List MemPlace} (ht : P.underlying t = some (.slice e)) (he : P.underlying e = some (.int .u8)) (hC : P.cellsOf e = 1)
    (h : DataW.trod enc P w base spare held fuel t cs = some x) :
    ∃ (A : Option Addr) (n c : Nat) (xs : List Nat), cs = [.slice A n c] ∧ n ≤ c ∧ c ≤ maxLen ∧ n = xs.length ∧ (∀ y ∈ xs, y < 256) ∧ Sl w 1 A n (xs.map bn) ∧ (n = 0 ∨ ∃ el sp, x.1 = .slice el sp ∧ el.length = n) := by
  obtain ⟨A, n, c, f, hcs, hn, hc, hlen, hcell, hfld⟩ := open_ones ht hC h
  have hf : ∀ i, i < n → ∃ z : Nat, f i 0 = bn z ∧ z < 256 := fun i hi => by
    obtain ⟨y, m, hy⟩ := hfld i hi
    obtain ⟨z, e, _, wf⟩ := DataW.trod_int he hy
    have b := bdu8 wf
    refine ⟨z.toNat, ?_, by omega⟩
    have : f i 0 = .int .u8 z := by simpa using e
    rw [this]; unfold bn; congr 1; omega
  refine ⟨A, n, c, (List.range n).map fun i => (intOf (f i 0)).toNat, hcs, hn, hc, by simp, ?_, ⟨by simp, ?_⟩, hlen⟩
  · intro y hy
    simp only [List.mem_map, List.mem_range] at hy
    obtain ⟨i, hi, rfl⟩ := hy
    obtain ⟨z, e, hz⟩ := hf i hi
    rw [e]; simp [bn, intOf, hz]
  · intro hn0
    obtain ⟨b, o, hA, hb, hcc⟩ := hcell hn0
    refine ⟨b, o, hA, fun j u hu => ?_⟩
    have hj : j < n := by simpa using (List.getElem?_eq_some_iff.1 hu).1
    obtain ⟨z, e, hz⟩ := hf j hj
    have := hcc j 0 hj (by omega)
    rw [Nat.mul_one, Nat.add_zero, e] at this
    rw [this]
    simp [hj, e] at hu
    rw [← hu]; simp [bn, intOf]
end
end Go.Proofs.Ytchajbiloaiekaa
