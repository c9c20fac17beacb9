/-
  Texts merged into one, to keep the claim small: PrO.
-/
import Derived.Test.YtlcjhbemgagchaaMc14
import Derived.Test.YtlcjhbemgagchaaMc0
import Derived.Test.YtlcjhbemgagchaaRows
import Derived.Test.YtlcjhbemgagchaaChecked
/-
  Openings: entries, contracts, replies as arguments. (printed by pr_open.py)
-/
namespace Go.Proofs.Ytlcjhbemgagchaa
open Go.ChangeShapes Go.WideShapes Go.ChangeAt Go.RowKit Go.Deep Go.Joins
set_option linter.unusedVariables false
set_option linter.unusedSimpArgs false
theorem open_intsL {H : Type} {enc : TypeId × Value → H} {P : Program} {w : World} {base : Nat} {spare : Nat → Bool} {held : Bool} {t e : TypeId} {fuel : Nat} {cs : List Value} {x : DataW H × List MemPlace} (ht : P.underlying t = some (.slice e)) (he : P.underlying e = some (.int .i64)) (hC : P.cellsOf e = 1)
    (h : DataW.trod enc P w base spare held fuel t cs = some x) :
    ∃ (A : Option Addr) (n c : Nat) (xs : List Int), cs = [.slice A n c] ∧ n ≤ c ∧ c ≤ maxLen ∧ n = xs.length ∧ Sl w 1 A n (xs.map fun z => .int .i64 z) ∧ (n = 0 ∨ ∃ el sp, x.1 = .slice el sp ∧ el.length = n) := by
  obtain ⟨A, n, c, f, hcs, hn, hc, hlen, hcell, hfld⟩ := open_ones ht hC h
  have hf : ∀ i, i < n → ∃ z : Int, f i 0 = .int .i64 z := fun i hi => by
    obtain ⟨y, m, hy⟩ := hfld i hi
    obtain ⟨z, e, _⟩ := DataW.trod_int he hy
    exact ⟨z, by simpa using e⟩
  refine ⟨A, n, c, (List.range n).map fun i => intOf (f i 0), hcs, hn, hc, by simp, ⟨by simp, ?_⟩, hlen⟩
  intro hn0
  obtain ⟨b, o, hA, hb, hcc⟩ := hcell hn0
  refine ⟨b, o, hA, fun j u hu => ?_⟩
  have hj : j < n := by simpa using (List.getElem?_eq_some_iff.1 hu).1
  obtain ⟨z, e⟩ := hf j hj
  have := hcc j 0 hj (by omega)
  rw [Nat.mul_one, Nat.add_zero, e] at this
  rw [this]
  simp [hj, e] at hu
  rw [← hu]; simp [intOf]
section
variable {H : Type} {enc : TypeId × Value → H} {W : World} {base : Nat} {spare : Nat → Bool} {held : Bool}
theorem fld {fs : Array Field} {ys : List (DataW H × List MemPlace)} {n' : Nat} {cs : List Value} {P : Program} (hf : ∀ (i : Nat) (f : Field), fs[i]? = some f → DataW.trod enc P W base spare held n' f.type ((cs.drop f.offset).take (P.cellsOf f.type)) = ys[i]?)
    {i : Nat} {f : Field} (hi : fs[i]? = some f) (hl : ys.length = fs.size) {t : TypeId} {o k : Nat} (ht : f.type = t) (ho : f.offset = o) (hk : P.cellsOf t = k) : ∃ y, ys[i]? = some y ∧ DataW.trod enc P W base spare held n' t ((cs.drop o).take k) = some y := by
  have h := hf i f hi
  rw [ht, ho, hk] at h
  have hil : i < ys.length := by rw [hl]; exact (Array.getElem?_eq_some_iff.1 hi).1
  exact ⟨ys[i], List.getElem?_eq_getElem hil, by rw [h]; exact List.getElem?_eq_getElem hil⟩
def RR.cells (r : RR) : List Value := [.int .i64 r.id, .int .i64 r.err, .int .i64 r.num, .int .u64 (r.co : Int), .slice r.A r.n r.c, .string (strOf r.txt), .int .u32 (r.bits : Int)] ++ r.k.cells
end
end Go.Proofs.Ytlcjhbemgagchaa
