/-
  Plain laws of a disk's sectors: what writes, a sync and a crash make of each.
-/
import Derived.Test.YtchajbiloaiekaaDkO
namespace Go.Proofs.Ytchajbiloaiekaa
set_option linter.unusedVariables false
set_option linter.unusedSimpArgs false
theorem putSec_get {sf : List Nat} {a n : Nat} {d : List Nat} (h : sf.length = n * 64) (ha : a < n) (hd : d.length = 64) (i : Nat) : (putSec sf a d)[i]? = if a * 64 ≤ i ∧ i < a * 64 + 64 then d[i - a * 64]? else sf[i]? := by
  have hh := Nat.mul_le_mul_right 64 (show a + 1 ≤ n by omega)
  unfold putSec
  by_cases h1 : i < a * 64
  · rw [if_neg (by omega), List.append_assoc, List.getElem?_append_left (by rw [List.length_take]; omega), List.getElem?_take_of_lt h1]
  · by_cases h2 : i < a * 64 + 64
    · rw [if_pos (by omega), List.append_assoc, List.getElem?_append_right (by rw [List.length_take]; omega), List.length_take, Nat.min_eq_left (by omega), List.getElem?_append_left (by omega)]
    · rw [if_neg (by omega), List.getElem?_append_right (by rw [List.length_append, List.length_take]; omega), List.length_append, List.length_take, Nat.min_eq_left (by omega), List.getElem?_drop, hd]
      congr 1; omega
theorem sec_get (sf : List Nat) (k i : Nat) (hi : i < 64) : (sec sf k)[i]? = sf[k * 64 + i]? := by
  unfold sec
  rw [List.getElem?_take_of_lt hi, List.getElem?_drop]
theorem sec_other {sf : List Nat} {a k n : Nat} {d : List Nat} (h : sf.length = n * 64) (ha : a < n) (hk : k < n) (hd : d.length = 64) (hne : a ≠ k) : sec (putSec sf a d) k = sec sf k := by
  apply List.ext_getElem?
  intro i
  by_cases hi : i < 64
  · rw [sec_get _ _ _ hi, sec_get _ _ _ hi, putSec_get h ha hd, if_neg (by omega)]
  · rw [List.getElem?_eq_none (by rw [sec_len (putSec_len h ha hd) hk]; omega), List.getElem?_eq_none (by rw [sec_len h hk]; omega)]
theorem lastOf_cons (r : Nat × List Nat) (l : List (Nat × List Nat)) (k : Nat) : lastOf (r :: l) k = match lastOf l k with | some j => some (j + 1) | none => if r.1 = k then some 0 else none := rfl
theorem sec_laid {n k : Nat} (hk : k < n) : ∀ (row : List (Nat × List Nat)) (sf : List Nat), sf.length = n * 64 → (∀ r ∈ row, r.1 < n ∧ r.2.length = 64) →
    sec (laidAll sf row) k = match lastOf row k with | some j => (row.getD j (0, [])).2 | none => sec sf k
  | [], sf, h, _ => rfl
  | r :: row, sf, h, hr => by
    have h1 := hr r (List.mem_cons_self ..)
    have ih := sec_laid hk row (putSec sf r.1 r.2) (putSec_len h h1.1 h1.2) (fun x hx => hr x (List.mem_cons_of_mem _ hx))
    have e : laidAll sf (r :: row) = laidAll (putSec sf r.1 r.2) row := rfl
    rw [e, ih, lastOf_cons]
    cases hq : lastOf row k with
    | some j => rfl
    | none =>
      by_cases h2 : r.1 = k
      · simp only [h2, if_true]
        have := sec_put h hk h1.2
        rw [this]; rfl
      · simp only [h2, if_false]
        exact sec_other h h1.1 hk h1.2 h2
theorem told_laid {s : DS} {n k : Nat} (h : s.Ok n) (hk : k < n) : sec (laidAll s.sf s.row) k = s.told k := by
  rw [sec_laid hk s.row s.sf h.len h.row]
  unfold DS.told
  rfl
theorem told_sf {s : DS} (k : Nat) (h : s.row = []) : s.told k = sec s.sf k := by
  unfold DS.told; rw [h]; rfl
theorem readS_at {s : DS} {n k : Nat} (hf : s.fuse ≠ 0) (hk : k < n) : readN n s (k : Int) = 0 ∧ s.readS n (k : Int) = s.told k := by
  have h : readN n s (k : Int) = 0 := by unfold readN; rw [if_neg hf, if_neg (by omega)]
  refine ⟨h, ?_⟩
  unfold DS.readS; rw [if_pos h, Int.toNat_natCast]
/-- One write of a crash, of one sector. -/
def beat (keep : List Bool) (tn cut : Int) (p : List Nat) (k i : Nat) (r : Nat × List Nat) : List Nat :=
  if r.1 = k then (if (i : Int) = tn then r.2.take (clampN cut) ++ p.drop (clampN cut) else if keep.getD i false then r.2 else p) else p
theorem sec_crash1 {keep : List Bool} {tn cut : Int} {sf : List Nat} {n k i : Nat} {r : Nat × List Nat} (h : sf.length = n * 64) (hk : k < n) (hr : r.1 < n ∧ r.2.length = 64) : sec (crash1 keep tn cut sf i r) k = beat keep tn cut (sec sf k) k i r := by
  unfold crash1 beat torn
  have hc : clampN cut ≤ 64 := (clamp_eq cut).2
  by_cases h1 : r.1 = k
  · rw [if_pos h1]
    by_cases h2 : (i : Int) = tn
    · rw [if_pos h2, if_pos h2, h1]
      refine sec_put h hk ?_
      have := sec_len h hk
      show (List.take _ _ ++ List.drop _ (sec sf k)).length = 64
      rw [List.length_append, List.length_take, List.length_drop, this, hr.2]; omega
    · rw [if_neg h2, if_neg h2]
      by_cases h3 : keep.getD i false = true
      · rw [if_pos h3, if_pos h3, h1]; exact sec_put h hk hr.2
      · rw [if_neg h3, if_neg h3]
  · rw [if_neg h1]
    by_cases h2 : (i : Int) = tn
    · rw [if_pos h2]
      refine sec_other h hr.1 hk ?_ h1
      have := sec_len h hr.1
      show (List.take _ _ ++ List.drop _ (sec sf r.1)).length = 64
      rw [List.length_append, List.length_take, List.length_drop, this, hr.2]; omega
    · rw [if_neg h2]
      by_cases h3 : keep.getD i false = true
      · rw [if_pos h3]; exact sec_other h hr.1 hk hr.2 h1
      · rw [if_neg h3]
def beats (keep : List Bool) (tn cut : Int) (p : List Nat) (k : Nat) (row : List (Nat × List Nat)) : Nat → List Nat
  | 0 => p
  | j + 1 => beat keep tn cut (beats keep tn cut p k row j) k j (row.getD j (0, []))
theorem sec_crash {keep : List Bool} {tn cut : Int} {sf : List Nat} {n k : Nat} {row : List (Nat × List Nat)} (h : sf.length = n * 64) (hk : k < n) (hr : ∀ r ∈ row, r.1 < n ∧ r.2.length = 64) : ∀ j, j ≤ row.length → sec (crashTo keep tn cut sf row j) k = beats keep tn cut (sec sf k) k row j
  | 0, _ => rfl
  | j + 1, hj => by
    show sec (crash1 keep tn cut (crashTo keep tn cut sf row j) j (row.getD j (0, []))) k = beat keep tn cut (beats keep tn cut (sec sf k) k row j) k j (row.getD j (0, []))
    rw [sec_crash1 (crashTo_len h hr j (by omega)) hk (hr _ (by rw [List.getD_eq_getElem?_getD, List.getElem?_eq_getElem (by omega)]; exact List.getElem_mem ..)), sec_crash h hk hr j (by omega)]
end Go.Proofs.Ytchajbiloaiekaa
