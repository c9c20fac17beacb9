/-
  Texts merged into one, to keep the claim small: PrF.
-/
import Derived.Laws.Rows
import Derived.Test.YtahhecendjfenaaMr33
/-
  proto's law: contract and reply, where both are the same; markedContract.
-/
namespace Go.Proofs.Ytahhecendjfenaa
open Go.RowKit
set_option linter.unusedVariables false
set_option linter.unusedSimpArgs false
theorem LEr.row {W w : World} {es : List ER} {L : Option Addr} {N cl : Nat} {rs : List ER} {g : Option Nat} {more : List Value} (h : LEr W w es L N cl rs g more) {i : Nat} (hi : i < rs.length) : ∃ b o, L = some ⟨b, o, none⟩ ∧ ∀ j u, (rs[i].cells)[j]? = some u → w.cell? ⟨b, o + i * 5 + j, none⟩ = some u := by
  have hat : ∀ j u, (rs[i].cells)[j]? = some u → (rs.flatMap ER.cells ++ more)[i * 5 + j]? = some u := fun j u hu => by
    have hj : j < 5 := by
      rcases Nat.lt_or_ge j 5 with h | h
      · exact h
      · rw [List.getElem?_eq_none (by rw [ER.cells_len]; exact h)] at hu; cases hu
    rw [List.getElem?_append_left (by rw [rows_len ER.cells 5 ER.cells_len]; omega), rows_get ER.cells 5 ER.cells_len _ _ _ hi hj]
    exact hu
  obtain ⟨b, o, hA, -, -⟩ := h.ow.look (hat 0 _ rfl)
  refine ⟨b, o, hA, fun j u hu => ?_⟩
  obtain ⟨b', o', hA', -, hc, -⟩ := h.ow.look (hat j u hu)
  rw [hA] at hA'
  cases hA'
  rwa [← Nat.add_assoc] at hc
theorem LEr.at_ {W w : World} {es : List ER} {L : Option Addr} {N cl : Nat} {rs : List ER} {g : Option Nat} {more : List Value} (h : LEr W w es L N cl rs g more) {r : ER} (hr : r ∈ rs) : r.at_ w := by
  obtain ⟨gi, hi⟩ := h.li r hr
  exact ⟨hi.sl, h.small r hr, hi.cap⟩
end Go.Proofs.Ytahhecendjfenaa
