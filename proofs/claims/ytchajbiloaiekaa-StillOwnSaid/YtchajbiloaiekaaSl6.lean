/-
  What stands in a place, as lists; arrays compared.
-/
import Derived.Test.YtchajbiloaiekaaSl5
import Derived.Lib.SliceRun
namespace Go.Proofs.Ytchajbiloaiekaa
open Go.RowKit
set_option linter.unusedVariables false
theorem seck_eq (w : World) (xs ys : List Nat) (hx : xs.length = 64) (hy : ys.length = 64) : (Op.equalIn 10000 61 (.agg (xs.map bn).toArray) (.agg (ys.map bn).toArray)).run Try.prog w = .ok (decide (xs = ys)) w := by
  obtain ⟨i, hi, -⟩ := info_parts infoU8
  rw [run_equalIn_array w 9999 _ _ Try.underlying61 hi, items_eq xs ys w _ (fun i hi => by rw [List.mem_range] at hi; omega), all_eq xs ys hx hy]
/-- Bytes of a sector i of a picture of l bytes. -/
def partN (l i : Nat) : Nat := min 64 (l - 64 * i)
/-- The picture of l bytes that stands from a sector on, so far. -/
def picN (T : Nat → List Nat) (b l : Nat) : Nat → List Nat
  | 0 => []
  | j + 1 => picN T b l j ++ (T (b + j)).take (partN l j)
def padN (T : Nat → List Nat) (b l : Nat) : Nat → Bool
  | 0 => true
  | j + 1 => padN T b l j && decide ((T (b + j)).drop (partN l j) = zeros (64 - partN l j))
theorem picN_len {T : Nat → List Nat} {b l : Nat} : ∀ {j : Nat}, (∀ i, i < j → (T (b + i)).length = 64) → (picN T b l j).length = min (64 * j) l
  | 0, _ => by simp [picN]
  | j + 1, h => by
    rw [picN, List.length_append, picN_len (fun i hi => h i (by omega)), List.length_take, h j (by omega)]
    unfold partN; omega
def turnN (h : List Nat) : Nat := beG ((h.drop 1).take 8)
def longN (h : List Nat) : Nat := beG ((h.drop 9).take 4)
def standsN (T : Nat → List Nat) (fr n k : Nat) : List Nat × Nat :=
  let h := T (fr + k * n)
  if turnN h < 1 ∨ 1099511627776 < turnN h ∨ turnN h % 2 ≠ k ∨ 64 * (n - 1) < longN h then ([], 0)
  else if padN T (fr + k * n + 1) (longN h) ((longN h + 63) / 64) = false then ([], 0)
  else if headN (turnN h) (picN T (fr + k * n + 1) (longN h) ((longN h + 63) / 64)) ≠ h then ([], 0)
  else (picN T (fr + k * n + 1) (longN h) ((longN h + 63) / 64), turnN h)
/-- What standsN hangs on. -/
theorem standsN_congr {T U : Nat → List Nat} {fr n k : Nat} (h : ∀ i, i < n → T (fr + k * n + i) = U (fr + k * n + i)) (hn : 1 ≤ n) : standsN T fr n k = standsN U fr n k := by
  have h0 := h 0 (by omega)
  rw [Nat.add_zero] at h0
  have hp : ∀ l j, j ≤ n - 1 → picN T (fr + k * n + 1) l j = picN U (fr + k * n + 1) l j := fun l j => by
    induction j with
    | zero => intro _; rfl
    | succ j ih =>
      intro hj
      rw [picN, picN, ih (by omega), show fr + k * n + 1 + j = fr + k * n + (j + 1) by omega, h (j + 1) (by omega)]
  have hq : ∀ l j, j ≤ n - 1 → padN T (fr + k * n + 1) l j = padN U (fr + k * n + 1) l j := fun l j => by
    induction j with
    | zero => intro _; rfl
    | succ j ih =>
      intro hj
      rw [padN, padN, ih (by omega), show fr + k * n + 1 + j = fr + k * n + (j + 1) by omega, h (j + 1) (by omega)]
  unfold standsN
  simp only [h0]
  by_cases hc : turnN (U (fr + k * n)) < 1 ∨ 1099511627776 < turnN (U (fr + k * n)) ∨ turnN (U (fr + k * n)) % 2 ≠ k ∨ 64 * (n - 1) < longN (U (fr + k * n))
  · rw [if_pos hc, if_pos hc]
  · rw [if_neg hc, if_neg hc, hp _ _ (by omega), hq _ _ (by omega)]
/-- A picture laid down: its sectors. -/
def sectN (p : List Nat) (i : Nat) : List Nat := (p.drop (64 * i)).take 64 ++ zeros (64 - ((p.drop (64 * i)).take 64).length)
theorem sectN_len (p : List Nat) (i : Nat) : (sectN p i).length = 64 := by
  unfold sectN
  rw [List.length_append]
  simp [zeros]
  omega
theorem sectN_part (p : List Nat) (i : Nat) : ((p.drop (64 * i)).take 64).length = partN p.length i := by
  unfold partN
  rw [List.length_take, List.length_drop]
theorem picN_laid {T : Nat → List Nat} {b : Nat} {p : List Nat} : ∀ {j : Nat}, (∀ i, i < j → T (b + i) = sectN p i) → picN T b p.length j = p.take (64 * j) ∧ padN T b p.length j = true
  | 0, _ => by simp [picN, padN]
  | j + 1, h => by
    obtain ⟨h1, h2⟩ := picN_laid (j := j) (fun i hi => h i (by omega))
    have hs := sectN_part p j
    rw [picN, padN, h1, h2, h j (by omega)]
    unfold sectN
    rw [hs, List.take_left' hs, List.drop_left' hs]
    refine ⟨?_, by simp⟩
    rw [show 64 * (j + 1) = 64 * j + 64 by omega, List.take_add]
theorem headN_shape (t : Nat) (p : List Nat) : ∃ Y, headN t p = 83 :: (beP 8 t ++ (beP 4 p.length ++ Y)) :=
  ⟨beP 8 (sumN p) ++ (zeros 34 ++ (beP 8 (sumN (head55 t p)) ++ [76])), by
    unfold headN
    generalize beP 8 (sumN (head55 t p)) = Z
    unfold head55
    simp only [List.append_assoc, List.cons_append, List.nil_append]⟩
theorem headN_turn (t : Nat) (p : List Nat) (ht : t < 18446744073709551616) : turnN (headN t p) = t := by
  obtain ⟨Y, hY⟩ := headN_shape t p
  unfold turnN
  rw [hY, show (1 : Nat) = 0 + 1 from rfl, List.drop_succ_cons, List.drop_zero, List.take_left' (beP_len 8 t), beG_beP]
  exact Nat.mod_eq_of_lt ht
theorem headN_long (t : Nat) (p : List Nat) (hp : p.length < 4294967296) : longN (headN t p) = p.length := by
  obtain ⟨Y, hY⟩ := headN_shape t p
  unfold longN
  rw [hY, show (9 : Nat) = 8 + 1 from rfl, List.drop_succ_cons, List.drop_left' (beP_len 8 t), List.take_left' (beP_len 4 _), beG_beP]
  exact Nat.mod_eq_of_lt hp
/-- A picture laid down stands. -/
theorem standsN_laid {T : Nat → List Nat} {fr n k t : Nat} {p : List Nat} (hh : T (fr + k * n) = headN t p) (hp : ∀ i, i < (p.length + 63) / 64 → T (fr + k * n + 1 + i) = sectN p i) (h1 : 1 ≤ t) (h2 : t ≤ 1099511627776) (hk : t % 2 = k) (hl : p.length ≤ 64 * (n - 1)) (hl2 : p.length < 4294967296) :
    standsN T fr n k = (p, t) := by
  have ht := headN_turn t p (by omega)
  have hlg := headN_long t p hl2
  obtain ⟨a, b⟩ := picN_laid hp
  unfold standsN
  simp only [hh, ht, hlg, a, b]
  rw [if_neg (by omega), if_neg (by simp), List.take_of_length_le (by omega), if_neg (by simp)]
/-- An empty head: nothing stands. -/
theorem standsN_blank {T : Nat → List Nat} {fr n k : Nat} (hh : T (fr + k * n) = zeros 64) : standsN T fr n k = ([], 0) := by
  have ht : turnN (zeros 64) = 0 := by decide
  unfold standsN
  simp only [hh, ht]
  rw [if_pos (.inl (by omega))]
end Go.Proofs.Ytchajbiloaiekaa
