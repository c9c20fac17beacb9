/-
  The plain law of a bucket: a meter of one number. No program in sight.
-/
namespace Go.Proofs.Ytgogagapapdlgaa
set_option linter.unusedVariables false

theorem meter_split {per level rest S : Int} (p1 : 1 ≤ per) (s1 : 0 ≤ rest) (s2 : rest < per) (h : S = level * per + rest) : S / per = level ∧ S % per = rest := by
  subst h
  constructor
  · rw [Int.mul_comm, Int.add_comm, Int.add_mul_ediv_left _ _ (by omega), Int.ediv_eq_zero_of_lt s1 s2, Int.zero_add]
  · rw [Int.mul_comm, Int.add_comm, Int.add_mul_emod_self_left, Int.emod_eq_of_lt s1 s2]
theorem meter_flow {per level rest x : Int} (p1 : 1 ≤ per) : level + (rest + x) / per = (level * per + rest + x) / per ∧ (rest + x) % per = (level * per + rest + x) % per := by
  constructor
  · rw [show level * per + rest + x = (rest + x) + per * level by rw [Int.mul_comm]; omega, Int.add_mul_ediv_left _ _ (by omega)]; omega
  · rw [show level * per + rest + x = (rest + x) + per * level by rw [Int.mul_comm]; omega, Int.add_mul_emod_self_left]
theorem le_div {a b per : Int} (p1 : 1 ≤ per) : a ≤ b / per ↔ a * per ≤ b := Int.le_ediv_iff_mul_le (by omega)
/-- What the meter's check reckons. -/
theorem meter_check {per burst level rest d : Int} (p1 : 1 ≤ per) (s1 : 0 ≤ rest) (s2 : rest < per) (l1 : 0 ≤ level) (h : d = burst * per - (level * per + rest)) :
    (burst * per - d).tdiv per = level ∧ (burst * per - d).tmod per = rest ∧ 0 ≤ burst * per - d := by
  have h0 : 0 ≤ level * per := Int.mul_nonneg l1 (by omega)
  have h1 : burst * per - d = level * per + rest := by omega
  have h2 := meter_split p1 s1 s2 h1
  exact ⟨by rw [Int.tdiv_eq_ediv_of_nonneg (by omega)]; exact h2.1, by rw [Int.tmod_eq_emod_of_nonneg (by omega)]; exact h2.2, by omega⟩
theorem meter_bd {per burst level rest d : Int} (p1 : 1 ≤ per) (s1 : 0 ≤ rest) (s2 : rest < per) (l1 : 0 ≤ level) (l2 : level ≤ burst) (f : level = burst → rest = 0) (h : d = burst * per - (level * per + rest)) : 0 ≤ d ∧ d ≤ burst * per := by
  have h5 : level * per + rest ≤ burst * per := by
    by_cases hlb : level = burst
    · have := f hlb; rw [hlb]; omega
    · have h6 : level + 1 ≤ burst := by omega
      have h7 := Int.mul_le_mul_of_nonneg_right h6 (show 0 ≤ per by omega)
      rw [Int.add_mul] at h7
      omega
  have h8 : 0 ≤ level * per := Int.mul_nonneg l1 (by omega)
  exact ⟨by omega, by omega⟩
theorem meter_refill {rate per burst level rest t d : Int} (p1 : 1 ≤ per) (h : d = burst * per - (level * per + rest)) :
    max 0 (d - rate * t) = burst * per - ((if burst ≤ level + (rest + rate * t) / per then burst else level + (rest + rate * t) / per) * per + (if burst ≤ level + (rest + rate * t) / per then 0 else (rest + rate * t) % per)) := by
  obtain ⟨e1, e2⟩ := @meter_flow per level rest (rate * t) p1
  have e3 := Int.mul_ediv_add_emod (level * per + rest + rate * t) per
  rw [e1, e2]
  rw [Int.mul_comm] at e3
  split
  · rename_i hc
    rw [le_div p1] at hc
    rw [Int.max_eq_left (by omega)]; omega
  · rename_i hc
    rw [le_div p1] at hc
    rw [Int.max_eq_right (by omega)]; omega
theorem meter_take {per burst level rest n d : Int} (p1 : 1 ≤ per) (s1 : 0 ≤ rest) (s2 : rest < per) (h : d = burst * per - (level * per + rest)) : d + n * per ≤ burst * per ↔ n ≤ level := by
  have h3 : n ≤ level ↔ n * per ≤ level * per + rest := by
    rw [← le_div p1, (meter_split p1 s1 s2 (rfl : level * per + rest = level * per + rest)).1]
  rw [h3]; omega
/-- In any span: the tokens there are (level * per + rest), with what was taken, are at most a full bucket and what flowed. -/
theorem span_refill {rate per burst level rest t ticks taken : Int} (p1 : 1 ≤ per) (h : level * per + rest + taken * per ≤ burst * per + rate * ticks) :
    (if burst ≤ level + (rest + rate * t) / per then burst else level + (rest + rate * t) / per) * per + (if burst ≤ level + (rest + rate * t) / per then 0 else (rest + rate * t) % per) + taken * per ≤ burst * per + rate * (ticks + t) := by
  obtain ⟨e1, e2⟩ := @meter_flow per level rest (rate * t) p1
  have e3 := Int.mul_ediv_add_emod (level * per + rest + rate * t) per
  rw [e1, e2, Int.mul_add]
  rw [Int.mul_comm] at e3
  split
  · rename_i hc
    rw [le_div p1] at hc
    omega
  · omega
theorem span_take {per burst level rest n taken x : Int} (h : level * per + rest + taken * per ≤ burst * per + x) : (level - n) * per + rest + (taken + n) * per ≤ burst * per + x := by
  rw [Int.sub_mul, Int.add_mul]; omega
theorem span_full {per burst level rest rate : Int} (p1 : 1 ≤ per) (s1 : 0 ≤ rest) (s2 : rest < per) (l1 : 0 ≤ level) (l2 : level ≤ burst) (f : level = burst → rest = 0) : level * per + rest + 0 * per ≤ burst * per + rate * 0 := by
  have := meter_bd p1 s1 s2 l1 l2 f rfl
  omega
theorem span_told {rate per burst level rest ticks taken : Int} (r1 : 1 ≤ rate) (r2 : rate ≤ 65536) (p1 : 1 ≤ per) (p2 : per ≤ 65536) (b1 : 1 ≤ burst) (s1 : 0 ≤ rest) (l1 : 0 ≤ level) (h : level * per + rest + taken * per ≤ burst * per + rate * ticks)
    (t1 : 0 ≤ ticks) (t2 : ticks ≤ 42949672960000) (k1 : 0 ≤ taken) (k2 : taken ≤ 20971520000) :
    0 ≤ rate * ticks ∧ rate * ticks ≤ 2814749767106560000 ∧ (taken - burst) * per ≤ rate * ticks ∧ (burst < taken → 0 ≤ (taken - burst) * per) := by
  have a : 0 ≤ rate * ticks := Int.mul_nonneg (by omega) t1
  have b : rate * ticks ≤ 65536 * 42949672960000 := Int.mul_le_mul r2 t2 t1 (by omega)
  have c : 0 ≤ level * per := Int.mul_nonneg l1 (by omega)
  refine ⟨a, by omega, ?_, fun h => Int.mul_nonneg (by omega) (by omega)⟩
  rw [Int.sub_mul]; omega
end Go.Proofs.Ytgogagapapdlgaa
