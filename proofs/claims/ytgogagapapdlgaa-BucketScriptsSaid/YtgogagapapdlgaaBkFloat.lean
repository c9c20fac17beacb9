/-
  float32(a) / float32(b): for small whole numbers, b above 0, it is a number, whatever it is.
-/
import Derived.Laws.FloatArith
namespace Go.Proofs.Ytgogagapapdlgaa
set_option linter.unusedVariables false
open Ieee

theorem cut_zero (neg : Bool) (n : Nat) : Toward.even.cut neg n 0 = n := by
  have h1 : (1 <<< min 0 (n.log2 + 2) : Nat) = 1 := by rw [Nat.zero_min]; rfl
  unfold Toward.cut
  rw [h1]
  simp [Nat.mod_one]
theorem read_nearest {n : Nat} (h : n ≤ 1048576) : ∃ s m e, Ieee.single.read (Ieee.single.nearest false n 0) = .number s m e ∧ (1 ≤ n → m ≠ 0) := by
  by_cases h0 : n = 0
  · subst h0
    exact ⟨false, 0, -149, by decide, fun h => absurd h (by omega)⟩
  · have hk : n.log2 ≤ 20 := by
      have := (Nat.log2_lt h0 (k := 21)).2 (by omega)
      omega
    have hlo : 2 ^ n.log2 ≤ n := Nat.log2_self_le h0
    have hhi : n < 2 ^ (n.log2 + 1) := Nat.lt_log2_self
    obtain ⟨k, hk'⟩ : ∃ k, n.log2 = k := ⟨_, rfl⟩
    rw [hk'] at hk hlo hhi
    have b1 : 2 ^ (23 - k) * 2 ^ k = 8388608 := by rw [← Nat.pow_add, show 23 - k + k = 23 by omega]
    have b2 : 2 ^ (23 - k) * 2 ^ (k + 1) = 16777216 := by rw [← Nat.pow_add, show 23 - k + (k + 1) = 24 by omega]
    have b3 := Nat.mul_le_mul_left (2 ^ (23 - k)) hlo
    have b4 := Nat.mul_lt_mul_of_pos_left hhi (Nat.two_pow_pos (23 - k))
    obtain ⟨K, hK⟩ : ∃ K, n <<< (23 - k) = K := ⟨_, rfl⟩
    have hK2 : K = 2 ^ (23 - k) * n := by rw [← hK, Nat.shiftLeft_eq, Nat.mul_comm]
    have e : Ieee.single.nearest false n 0 = (k + 126) * 8388608 + K := by
      unfold Format.nearest
      rw [if_neg h0, hk']
      have hl : Ieee.single.leastPlace = -149 := by decide
      have hf : (Ieee.single.fractionBits : Int) = 23 := by decide
      have hm : max ((0 : Int) + (k : Int) - 23) (-149) = (k : Int) - 23 := by omega
      have hb : Ieee.single.binade = 8388608 := by decide
      have hi : Ieee.single.infRung = 2139095040 := by decide
      simp only [hl, hf, hm, hb, hi]
      rw [show ((0 : Int) - ((k : Int) - 23)).toNat = 23 - k by omega, show ((k : Int) - 23 - 0).toNat = 0 by omega, show ((k : Int) - 23 - -149).toNat = k + 126 by omega, cut_zero, hK]
      unfold Format.word
      rw [if_neg (by decide)]
      exact Nat.min_eq_left (by omega)
    rw [e]
    unfold Format.read
    have hw : Ieee.single.signWeight = 2147483648 := by decide
    have hb : Ieee.single.binade = 8388608 := by decide
    have hi : Ieee.single.infRung = 2139095040 := by decide
    simp only [hw, hb, hi]
    rw [Nat.mod_eq_of_lt (show (k + 126) * 8388608 + K < 2147483648 by omega), if_neg (by omega), if_pos (by omega)]
    exact ⟨_, _, _, rfl, fun _ => by omega⟩

def fullBits (a b : Int) : Nat := (floatBits .quo .f32 (floatOfInt .f32 a) (floatOfInt .f32 b)).getD 0
theorem full_bits {a b : Int} (h0 : 0 ≤ a) (h1 : a ≤ 1048576) (h2 : 1 ≤ b) (h3 : b ≤ 1048576) : floatBits .quo .f32 (floatOfInt .f32 a) (floatOfInt .f32 b) = some (fullBits a b) := by
  have hs : ∃ r, floatBits .quo .f32 (floatOfInt .f32 a) (floatOfInt .f32 b) = some r := by
    obtain ⟨s, m, e, k1, -⟩ := @read_nearest a.natAbs (by omega)
    obtain ⟨s', m', e', k2, k3⟩ := @read_nearest b.natAbs (by omega)
    have ha : floatOfInt .f32 a = Ieee.single.nearest false a.natAbs 0 := by
      show Ieee.single.nearest (decide (a < 0)) a.natAbs 0 = _
      rw [decide_eq_false (by omega)]
    have hb : floatOfInt .f32 b = Ieee.single.nearest false b.natAbs 0 := by
      show Ieee.single.nearest (decide (b < 0)) b.natAbs 0 = _
      rw [decide_eq_false (by omega)]
    show ∃ r, Ieee.single.div _ _ = some r
    rw [ha, hb]
    unfold Format.div
    rw [k1, k2]
    unfold Datum.quotient
    simp only
    rw [if_neg (k3 (by omega))]
    exact ⟨_, rfl⟩
  obtain ⟨r, hr⟩ := hs
  rw [fullBits, hr]; rfl
end Go.Proofs.Ytgogagapapdlgaa
