/-
  drr's law: round, made.
-/
import Derived.Test.YtanfhmebjgmdpaaDr5j
namespace Go.Proofs.Ytanfhmebjgmdpaa
open Go.RowKit
set_option linter.unusedVariables false
theorem tmod_emod (a b : Int) (hb : 1 ≤ b) : (if a.tmod b < 0 then a.tmod b + b else a.tmod b) = a % b := by
  rcases Int.lt_or_le a 0 with h | h
  · have h1 : a.tmod b = -((-a) % b) := by
      rw [← Int.tmod_eq_emod_of_nonneg (by omega)]
      rw [Int.neg_tmod]; omega
    have h2 := Int.emod_nonneg (-a) (show b ≠ 0 by omega)
    have h3 := Int.emod_lt_of_pos (-a) (show 0 < b by omega)
    rw [h1]
    have h4 : a % b = if (-a) % b = 0 then 0 else b - (-a) % b := by
      have h5 := Int.emod_add_mul_ediv (-a) b
      by_cases h6 : (-a) % b = 0
      · rw [if_pos h6]
        exact Int.emod_eq_zero_of_dvd ((Int.dvd_neg).1 (Int.dvd_of_emod_eq_zero h6))
      · rw [if_neg h6]
        have h7 : a = (b - (-a) % b) + b * (-((-a) / b) - 1) := by rw [Int.mul_sub, Int.mul_neg]; omega
        conv => lhs; rw [h7]
        rw [Int.add_mul_emod_self_left, Int.emod_eq_of_lt (by omega) (by omega)]
    rw [h4]
    split <;> split <;> omega
  · rw [Int.tmod_eq_emod_of_nonneg h, if_neg (by have := Int.emod_nonneg a (show b ≠ 0 by omega); omega)]
set_option maxHeartbeats 400000 in
theorem round_any (w : World) (a b : Int) (hb : 1 ≤ b) (hb2 : b ≤ 4611686018427387904) (ha : -9223372036854775808 ≤ a ∧ a ≤ 9223372036854775807) :
    Calls Try.prog 9 #[.int .i64 a, .int .i64 b] w fun e w' => e = .returned (.int .i64 (a % b)) ∧ w = w' := by
  have h0 : ¬ b = 0 := by omega
  have he := tmod_emod a b hb
  have hm1 := Int.emod_nonneg a (show b ≠ 0 by omega)
  have hm2 := Int.emod_lt_of_pos a (show 0 < b by omega)
  obtain ⟨r, hr⟩ : ∃ r, a.tmod b = r := ⟨_, rfl⟩
  obtain ⟨m, hm⟩ : ∃ m, a % b = m := ⟨_, rfl⟩
  rw [hr, hm] at he
  rw [hm] at hm1 hm2
  have hrb : -4611686018427387904 ≤ r ∧ r ≤ 4611686018427387904 := by split at he <;> omega
  have iw : IntKind.i64.wrap r = r := IntWalk.i64_in _ (by omega)
  rw [hm]
  clear hm
  by_cases hlt : r < 0
  · rw [if_pos hlt] at he
    have HE := hide he
    clear he
    go_enter Try.func9, Try.ntmps9
    go_wp2_with fail
    go_ret
    exact ⟨by rw [← HE.out]; rfl, rfl⟩
  · rw [if_neg hlt] at he
    have HE := hide he
    clear he
    go_enter Try.func9, Try.ntmps9
    go_wp2_with fail
    go_ret
    exact ⟨by rw [← HE.out]; rfl, rfl⟩
end Go.Proofs.Ytanfhmebjgmdpaa
