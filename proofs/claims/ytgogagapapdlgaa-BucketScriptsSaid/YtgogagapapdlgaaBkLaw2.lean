/-
  The plain law of a bucket, on: waiting. No program in sight.
-/
import Derived.Test.YtgogagapapdlgaaBkLaw
namespace Go.Proofs.Ytgogagapapdlgaa
set_option linter.unusedVariables false

/-- Two refills are one of both ticks together. -/
theorem refill_add {rate per burst level rest s t : Int} (p1 : 1 ≤ per) (s1 : 0 ≤ rest) (s2 : rest < per) (l2 : level ≤ burst) (x1 : 0 ≤ rate * s) (x2 : 0 ≤ rate * t) :
    let l' := (if burst ≤ level + (rest + rate * s) / per then burst else level + (rest + rate * s) / per)
    let r' := (if burst ≤ level + (rest + rate * s) / per then 0 else (rest + rate * s) % per)
    (if burst ≤ l' + (r' + rate * t) / per then burst else l' + (r' + rate * t) / per) = (if burst ≤ level + (rest + rate * (s + t)) / per then burst else level + (rest + rate * (s + t)) / per) ∧
    (if burst ≤ l' + (r' + rate * t) / per then 0 else (r' + rate * t) % per) = (if burst ≤ level + (rest + rate * (s + t)) / per then 0 else (rest + rate * (s + t)) % per) := by
  intro l' r'
  obtain ⟨e1, e2⟩ := @meter_flow per level rest (rate * s) p1
  obtain ⟨f1, f2⟩ := @meter_flow per level rest (rate * (s + t)) p1
  obtain ⟨g1, g2⟩ := @meter_flow per l' r' (rate * t) p1
  have e3 := Int.mul_ediv_add_emod (level * per + rest + rate * s) per
  rw [Int.mul_comm] at e3
  by_cases hc : burst ≤ level + (rest + rate * s) / per
  · have hl : l' = burst := if_pos hc
    have hr : r' = 0 := if_pos hc
    have h1 : burst ≤ l' + (r' + rate * t) / per := by
      rw [g1, le_div p1, hl, hr]; omega
    have h2 : burst ≤ level + (rest + rate * (s + t)) / per := by
      rw [f1, le_div p1, Int.mul_add]; rw [e1, le_div p1] at hc; omega
    rw [if_pos h1, if_pos h1, if_pos h2, if_pos h2]; exact ⟨rfl, rfl⟩
  · have hl : l' = level + (rest + rate * s) / per := if_neg hc
    have hr : r' = (rest + rate * s) % per := if_neg hc
    have h3 : l' * per + r' + rate * t = level * per + rest + rate * (s + t) := by
      rw [hl, hr, e1, e2, Int.mul_add]; omega
    rw [g1, g2, f1, f2, h3]; exact ⟨rfl, rfl⟩
theorem ediv_pos_aux {a b : Int} (hb : 1 ≤ b) (h : b ≤ a) : 0 < a / b := by
  have := (Int.le_ediv_iff_mul_le (a := 1) (b := a) (c := b) (by omega)).2 (by omega)
  omega
/-- Behind as many ticks as When says there is enough, behind one less there is not. -/
theorem when_ok {rate per burst level rest n : Int} (r1 : 1 ≤ rate) (p1 : 1 ≤ per) (s1 : 0 ≤ rest) (s2 : rest < per) (hl : level < n) :
    let T := ((n - level) * per - rest + rate - 1) / rate
    0 < T ∧ n * per ≤ level * per + rest + rate * T ∧ level * per + rest + rate * (T - 1) < n * per := by
  intro T
  have h1 : per ≤ (n - level) * per := by
    have := Int.mul_le_mul_of_nonneg_right (show 1 ≤ n - level by omega) (show 0 ≤ per by omega)
    omega
  have e3 := Int.mul_ediv_add_emod ((n - level) * per - rest + rate - 1) rate
  have e4 := Int.emod_nonneg ((n - level) * per - rest + rate - 1) (show rate ≠ 0 by omega)
  have e5 := Int.emod_lt_of_pos ((n - level) * per - rest + rate - 1) (show 0 < rate by omega)
  have hT : 0 < T := ediv_pos_aux r1 (by omega)
  have hs := Int.sub_mul n level per
  refine ⟨hT, ?_, ?_⟩
  · show _ ≤ _ + rate * (((n - level) * per - rest + rate - 1) / rate); omega
  · rw [Int.mul_sub]; show _ + (rate * (((n - level) * per - rest + rate - 1) / rate) - _) < _; omega
end Go.Proofs.Ytgogagapapdlgaa
