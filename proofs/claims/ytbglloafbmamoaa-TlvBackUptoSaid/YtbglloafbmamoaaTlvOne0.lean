/-
  TlvOne: what the walk wants: fields got as fields put, a beginning of bytes, a number read is below 2^64.
-/
import Derived.Test.YtbglloafbmamoaaTlvAwake
import Derived.Test.YtbglloafbmamoaaTlvPlain
import Derived.Test.YtbglloafbmamoaaTlvL6
namespace Go.Proofs.Ytbglloafbmamoaa
open Go.RowKit
set_option linter.unusedVariables false

theorem FOs.fat {w : World} {bs : List Nat} {B : Nat} {rs : List FO} (h : FOs w bs B rs) {e : TypeId} {A : Option Addr} {n c : Nat} {g : Option Nat} (hO : Ow w e 2 A n c (rs.flatMap FO.tCells) g) : FAt w 2 A n (rs.map fun r => ((r.F.tag : Int), r.F.val bs)) := by
  have hn := hO.rowsLen FO.tCells_len (by omega)
  refine ⟨by simpa using hn, fun h0 => ?_⟩
  obtain ⟨b, o, hA, hg, _⟩ := hO.rowAt FO.tCells_len (k := 0) (by omega) (by omega)
  refine ⟨b, o, hA, fun i hi => ?_⟩
  have hi' : i < rs.length := by simpa using hi
  obtain ⟨b', o', hA', _, hc⟩ := hO.rowAt FO.tCells_len hi' (by omega)
  rw [hA] at hA'; cases hA'
  have ho := h.own _ (List.getElem_mem hi')
  have e : (rs.map fun r => ((r.F.tag : Int), r.F.val bs))[i] = ((rs[i].F.tag : Int), rs[i].F.val bs) := by simp
  rw [e]
  exact ⟨_, _, _, by simpa using (hc 0 _ rfl).1, (hc 1 _ rfl).1, ho.sl⟩
/-- A beginning of a slice. -/
theorem Sl.pre {w : World} {A : Option Addr} {n : Nat} {xs : List Value} (h : Sl w 1 A n xs) {t : Nat} (ht : t ≤ n) : Sl w 1 A t (xs.take t) := by
  have hl := h.1
  refine ⟨by rw [List.length_take]; omega, fun h0 => ?_⟩
  obtain ⟨b, o, hA, hc⟩ := h.2 (by omega)
  refine ⟨b, o, hA, fun j u hu => hc j u ?_⟩
  rw [List.getElem?_take] at hu
  split at hu
  · exact hu
  · cases hu

theorem readF_lt : ∀ (f k n : Nat) (l : List Nat) (N k' : Nat), readF f k n l = (N, k', 0) → k ≤ 9 → n < 128 ^ k → N < U64
  | 0, _, _, _, _, _, h, _, _ => by simp [readF] at h
  | f + 1, k, n, [], N, k', h, _, _ => by simp [readF] at h
  | f + 1, k, n, c :: l, N, k', h, hk, hn => by
    have h9 : (128 : Nat) ^ 9 = 9223372036854775808 := rfl
    have hm : c % 128 * 128 ^ k ≤ 127 * 128 ^ k := Nat.mul_le_mul_right _ (by omega)
    have hs : 128 ^ (k + 1) = 128 ^ k * 128 := Nat.pow_succ ..
    rw [readF] at h
    split at h
    · simp at h
    · rename_i hfar
      split at h
      · rename_i hc
        split at h
        · simp at h
        · simp only [Prod.mk.injEq] at h
          rw [← h.1]
          unfold U64
          by_cases h8 : k = 9
          · subst h8
            have : c % 128 * 128 ^ 9 ≤ 1 * 128 ^ 9 := Nat.mul_le_mul_right _ (by omega)
            omega
          · have : 128 ^ (k + 1) ≤ 128 ^ 9 := Nat.pow_le_pow_right (by omega) (by omega)
            omega
      · rename_i hc
        by_cases h8 : k = 9
        · exact absurd ⟨h8, by omega⟩ hfar
        · exact readF_lt f (k + 1) _ l N k' h (by omega) (by omega)
theorem readShort_lt {bs : List Nat} {a N : Nat} {t : Int} (h : readShort bs (a : Int) = (N, t, 0)) : N < U64 := by
  unfold readShort at h
  split at h
  · simp at h
  · simp only at h
    split at h
    · rename_i h0
      generalize hg : readF 10 0 0 (bs.drop (a : Int).toNat) = r at h0 h
      obtain ⟨x, y, z⟩ := r
      simp only at h0 h
      subst h0
      simp only [Prod.mk.injEq] at h
      rw [← h.1]
      exact readF_lt 10 0 0 _ _ _ hg (by omega) (by simp)
    · rename_i h0
      simp at h h0; omega
end Go.Proofs.Ytbglloafbmamoaa
