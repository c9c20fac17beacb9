/-
  tlv: what the functions compute, in plain lists of numbers. No program in sight.
-/
namespace Go.Proofs.Ytbglloafbmamoaa
set_option linter.unusedVariables false

/-- 2^64, behind a name. -/
def U64 : Nat := 18446744073709551616
theorem U64_eq : U64 = 18446744073709551616 := rfl
/-- A short number. -/
def short (n : Nat) : List Nat := if h : n < 128 then [n] else (n % 128 + 128) :: short (n / 128)
termination_by n
decreasing_by omega
theorem short_small {n : Nat} (h : n < 128) : short n = [n] := by rw [short, dif_pos h]
theorem short_big {n : Nat} (h : ¬ n < 128) : short n = (n % 128 + 128) :: short (n / 128) := by rw [short, dif_neg h]
theorem short_len : ∀ (k n : Nat), n < 128 ^ (k + 1) → 1 ≤ (short n).length ∧ (short n).length ≤ k + 1
  | 0, n, h => by rw [short_small (by omega)]; simp
  | k + 1, n, h => by
    by_cases hn : n < 128
    · rw [short_small hn]; simp
    · rw [short_big hn]
      have := short_len k (n / 128) (by rw [Nat.pow_succ] at h; omega)
      simp; omega
theorem short_le {n : Nat} (h : n < U64) : 1 ≤ (short n).length ∧ (short n).length ≤ 10 := short_len 9 n (by have : (128 : Nat) ^ 10 = 1180591620717411303424 := rfl; unfold U64 at h; omega)
theorem short_bytes : ∀ (k n : Nat), n ≤ k → ∀ x ∈ short n, x < 256
  | 0, n, h, x, hx => by rw [short_small (by omega)] at hx; simp at hx; omega
  | k + 1, n, h, x, hx => by
    by_cases hn : n < 128
    · rw [short_small hn] at hx; simp at hx; omega
    · rw [short_big hn] at hx
      simp at hx
      rcases hx with rfl | hx
      · omega
      · exact short_bytes k (n / 128) (by omega) x hx

/-- A short number read: k bytes are behind, n is their worth; the number, how many bytes it has, what is wrong. -/
def readF : Nat → Nat → Nat → List Nat → Nat × Nat × Nat
  | 0, _, _, _ => (0, 0, 20)
  | _ + 1, _, _, [] => (0, 0, 22)
  | f + 1, k, n, c :: l =>
    if k = 9 ∧ 1 < c then (0, 0, 20)
    else if c < 128 then (if 0 < k ∧ c = 0 then (0, 0, 20) else (n + c % 128 * 128 ^ k, k + 1, 0))
    else readF f (k + 1) (n + c % 128 * 128 ^ k) l
/-- ReadShort: the number, the place behind it, the error. -/
def readShort (b : List Nat) (at_ : Int) : Nat × Int × Int :=
  if at_ < 0 ∨ (b.length : Int) < at_ then (0, 0, 2)
  else
    let r := readF 10 0 0 (b.drop at_.toNat)
    if r.2.2 = 0 then (r.1, at_ + r.2.1, 0) else (0, 0, r.2.2)
end Go.Proofs.Ytbglloafbmamoaa
