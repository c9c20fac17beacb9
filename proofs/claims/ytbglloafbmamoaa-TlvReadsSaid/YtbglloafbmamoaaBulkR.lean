/-
  A script of readers, opened.
-/
import Derived.Test.YtbglloafbmamoaaBytes
import Derived.Test.YtbglloafbmamoaaTlvQ4
namespace Go.Proofs.Ytbglloafbmamoaa
open Go.ChangeShapes Go.WideShapes Go.ChangeAt Go.RowKit Go.Deep Go.Joins
set_option linter.unusedVariables false

section
variable {H : Type} {enc : TypeId × Value → H} {w : World} {base : Nat} {spare : Nat → Bool} {held : Bool}
theorem open_rscript {fuel : Nat} {cs : List Value} {x : DataW H × List MemPlace} (h : DataW.trod enc Try.prog w base spare held fuel 83 cs = some x) :
    ∃ (A : Option Addr) (n c : Nat) (sc : List RStep), cs = [.slice A n c] ∧ n ≤ c ∧ c ≤ maxLen ∧ (n = 0 ∨ ∃ el sp, x.1 = .slice el sp ∧ el.length = n) ∧ RScript w w.heap.size A n sc := by
  obtain ⟨A, n, c, f, hcs, h1, h2, hlen, hcell, hY⟩ := open_structs Try.underlying83 Try.underlying91 (by kernel_rfl) (by kernel_rfl) (by decide) h
  have hstep : ∀ i, i < n → ∃ s : RStep, s.above < U64 ∧ ∀ j u, (rbox s.who s.kind s.tag s.most s.above)[j]? = some u → f i j = u := by
    intro i hi
    have hf := hY i hi
    obtain ⟨y0, m0, t0⟩ := hf 0 _ rfl
    obtain ⟨y1, m1, t1⟩ := hf 1 _ rfl
    obtain ⟨y2, m2, t2⟩ := hf 2 _ rfl
    obtain ⟨y3, m3, t3⟩ := hf 3 _ rfl
    obtain ⟨y4, m4, t4⟩ := hf 4 _ rfl
    obtain ⟨who, e0, _, _⟩ := DataW.trod_int Try.underlying3 t0
    obtain ⟨kind, e1, _, _⟩ := DataW.trod_int Try.underlying3 t1
    obtain ⟨tag, e2, _, _⟩ := DataW.trod_int Try.underlying3 t2
    obtain ⟨most, e3, _, _⟩ := DataW.trod_int Try.underlying3 t3
    obtain ⟨N, e4, _, wN⟩ := DataW.trod_int Try.underlying22 t4
    have bN := bdu64 wN
    refine ⟨⟨who, kind, tag, most, N.toNat⟩, by show N.toNat < _; unfold U64; omega, fun j u hu => ?_⟩
    have hj : j < 5 := by simpa [rbox] using (Array.getElem?_eq_some_iff.1 hu).1
    simp at e0 e1 e2 e3 e4
    have hN2 : ((N.toNat : Nat) : Int) = N := by omega
    have : j = 0 ∨ j = 1 ∨ j = 2 ∨ j = 3 ∨ j = 4 := by omega
    rcases this with rfl | rfl | rfl | rfl | rfl
    · rw [e0]; exact Option.some.inj hu
    · rw [e1]; exact Option.some.inj hu
    · rw [e2]; exact Option.some.inj hu
    · rw [e3]; exact Option.some.inj hu
    · rw [e4, ← hN2]; exact Option.some.inj hu
  have hch : ∃ r : Nat → RStep, ∀ i, i < n → (r i).above < U64 ∧ ∀ j u, (rbox (r i).who (r i).kind (r i).tag (r i).most (r i).above)[j]? = some u → f i j = u := by
    refine ⟨fun i => if hi : i < n then Classical.choose (hstep i hi) else ⟨0, 0, 0, 0, 0⟩, fun i hi => ?_⟩
    simp only [dif_pos hi]
    exact Classical.choose_spec (hstep i hi)
  obtain ⟨r, hr⟩ := hch
  refine ⟨A, n, c, (List.range n).map r, hcs, h1, h2, hlen, by simp, fun h0 => ?_⟩
  obtain ⟨b, o, hA, hbl, hc⟩ := hcell h0
  refine ⟨b, o, hA, hbl, fun i hi => ?_⟩
  have hi' : i < n := by simpa using hi
  have e : ((List.range n).map r)[i] = r i := by simp
  rw [e]
  refine ⟨(hr i hi').1, fun j u hu => ?_⟩
  have hj : j < 5 := by simpa [rbox] using (Array.getElem?_eq_some_iff.1 hu).1
  rw [← (hr i hi').2 j u hu]
  exact hc i j hi' hj
end
end Go.Proofs.Ytbglloafbmamoaa
