/-
  The check sum as numbers: one byte that is another one makes another sum. Numbers of several bytes. No program here.
-/
import Derived.Test.YtchajbiloaiekaaRows
namespace Go.Proofs.Ytchajbiloaiekaa
set_option linter.unusedVariables false
def polyN : Nat := 14514072000185962306
def stepN (r : Nat) : Nat := (r / 2) ^^^ (if r % 2 = 1 then polyN else 0)
def tabN (i : Nat) : Nat := stepN (stepN (stepN (stepN i)))
def nibN (r : Nat) : Nat := (r / 16) ^^^ tabN (r % 16)
def takeB (r c : Nat) : Nat := nibN (nibN (r ^^^ c))
def takeN (r : Nat) (xs : List Nat) : Nat := xs.foldl takeB r
def notN (r : Nat) : Nat := 18446744073709551615 ^^^ r
def sumN (xs : List Nat) : Nat := notN (takeN (notN 0) xs)
abbrev B64 : Nat := 18446744073709551616
theorem xor_lt64 {a b : Nat} (ha : a < B64) (hb : b < B64) : a ^^^ b < B64 := Nat.xor_lt_two_pow (n := 64) ha hb
theorem stepN_lt {r : Nat} (h : r < B64) : stepN r < B64 := by
  unfold stepN
  refine xor_lt64 (by unfold B64 at *; omega) ?_
  split
  · decide
  · decide
theorem tabN_lt {i : Nat} (h : i < B64) : tabN i < B64 := stepN_lt (stepN_lt (stepN_lt (stepN_lt h)))
theorem nibN_lt {r : Nat} (h : r < B64) : nibN r < B64 := xor_lt64 (by unfold B64 at *; omega) (tabN_lt (by unfold B64; omega))
theorem takeB_lt {r c : Nat} (h : r < B64) (hc : c < 256) : takeB r c < B64 := nibN_lt (nibN_lt (xor_lt64 h (by unfold B64; omega)))
theorem takeN_lt {r : Nat} : ∀ {xs : List Nat}, r < B64 → (∀ x ∈ xs, x < 256) → takeN r xs < B64
  | [], h, _ => h
  | x :: xs, h, hx => takeN_lt (xs := xs) (takeB_lt h (hx x (by simp))) (fun y hy => hx y (by simp [hy]))
theorem notN_lt {r : Nat} (h : r < B64) : notN r < B64 := xor_lt64 (by decide) h
theorem sumN_lt {xs : List Nat} (h : ∀ x ∈ xs, x < 256) : sumN xs < B64 := notN_lt (takeN_lt (by decide) h)
theorem xor_left {a b c : Nat} (h : a ^^^ b = a ^^^ c) : b = c := by
  have := congrArg (a ^^^ ·) h
  simpa [← Nat.xor_assoc] using this
theorem xor_right {a b c : Nat} (h : a ^^^ c = b ^^^ c) : a = b := by
  rw [Nat.xor_comm a, Nat.xor_comm b] at h
  exact xor_left h
theorem tab_top : ∀ i : Fin 16, ∀ j : Fin 16, tabN i.val / 1152921504606846976 = tabN j.val / 1152921504606846976 → i = j := by decide
theorem nibN_inj {r s : Nat} (hr : r < B64) (hs : s < B64) (h : nibN r = nibN s) : r = s := by
  have top : ∀ r, r < B64 → nibN r / 1152921504606846976 = tabN (r % 16) / 1152921504606846976 := fun r hr => by
    have h0 : r / 16 / 2 ^ 60 = 0 := by unfold B64 at hr; omega
    have := Nat.xor_div_two_pow (a := r / 16) (b := tabN (r % 16)) (n := 60)
    rw [h0, Nat.zero_xor] at this
    exact this
  have e : tabN (r % 16) / 1152921504606846976 = tabN (s % 16) / 1152921504606846976 := by rw [← top r hr, ← top s hs, h]
  have e2 : r % 16 = s % 16 := by
    have := tab_top ⟨r % 16, by omega⟩ ⟨s % 16, by omega⟩ e
    exact Fin.mk.inj this
  have e3 : r / 16 = s / 16 := by
    unfold nibN at h
    rw [e2] at h
    exact xor_right h
  omega
theorem takeB_inj {r s c : Nat} (hr : r < B64) (hs : s < B64) (hc : c < 256) (h : takeB r c = takeB s c) : r = s := by
  have hc' : c < B64 := by unfold B64; omega
  exact xor_right (nibN_inj (xor_lt64 hr hc') (xor_lt64 hs hc') (nibN_inj (nibN_lt (xor_lt64 hr hc')) (nibN_lt (xor_lt64 hs hc')) h))
theorem takeB_inj2 {r c d : Nat} (hr : r < B64) (hc : c < 256) (hd : d < 256) (h : takeB r c = takeB r d) : c = d := by
  have hc' : c < B64 := by unfold B64; omega
  have hd' : d < B64 := by unfold B64; omega
  exact xor_left (nibN_inj (xor_lt64 hr hc') (xor_lt64 hr hd') (nibN_inj (nibN_lt (xor_lt64 hr hc')) (nibN_lt (xor_lt64 hr hd')) h))
theorem takeN_inj : ∀ {xs : List Nat} {r s : Nat}, r < B64 → s < B64 → (∀ x ∈ xs, x < 256) → takeN r xs = takeN s xs → r = s
  | [], _, _, _, _, _, h => h
  | x :: xs, r, s, hr, hs, hx, h => takeB_inj hr hs (hx x (by simp)) (takeN_inj (xs := xs) (takeB_lt hr (hx x (by simp))) (takeB_lt hs (hx x (by simp))) (fun y hy => hx y (by simp [hy])) h)
theorem takeN_ne : ∀ {xs : List Nat} {r i y : Nat}, r < B64 → (∀ x ∈ xs, x < 256) → y < 256 → xs[i]? ≠ some y → i < xs.length → takeN r (xs.set i y) ≠ takeN r xs
  | [], _, _, _, _, _, _, _, h => by simp at h
  | x :: xs, r, 0, y, hr, hx, hy, hn, _ => fun h => by
    have hx0 := hx x (by simp)
    have := takeN_inj (xs := xs) (takeB_lt hr hy) (takeB_lt hr hx0) (fun z hz => hx z (by simp [hz])) h
    have := takeB_inj2 hr hy hx0 this
    subst this
    exact hn rfl
  | x :: xs, r, i + 1, y, hr, hx, hy, hn, hl => takeN_ne (xs := xs) (takeB_lt hr (hx x (by simp))) (fun z hz => hx z (by simp [hz])) hy (by simpa using hn) (by simpa using hl)
/-- A byte that is another one makes another sum. -/
theorem sumN_ne {xs : List Nat} {i y : Nat} (hx : ∀ x ∈ xs, x < 256) (hy : y < 256) (hn : xs[i]? ≠ some y) (hl : i < xs.length) : sumN (xs.set i y) ≠ sumN xs := fun h =>
  takeN_ne (by decide) hx hy hn hl (xor_left h)
/-- A number in m bytes, the highest first. -/
def beP : Nat → Nat → List Nat
  | 0, _ => []
  | m + 1, v => beP m (v / 256) ++ [v % 256]
def beG (xs : List Nat) : Nat := xs.foldl (fun a c => a * 256 + c) 0
theorem beP_len : ∀ (m v : Nat), (beP m v).length = m
  | 0, _ => rfl
  | m + 1, v => by simp [beP, beP_len m]
theorem beP_lt : ∀ {m v : Nat}, ∀ x ∈ beP m v, x < 256
  | 0, _, x, h => by simp [beP] at h
  | m + 1, v, x, h => by
    rcases List.mem_append.1 h with h | h
    · exact beP_lt x h
    · simp at h; omega
theorem beG_snoc (xs : List Nat) (c : Nat) : beG (xs ++ [c]) = beG xs * 256 + c := by simp [beG, List.foldl_append]
theorem beG_beP : ∀ (m v : Nat), beG (beP m v) = v % 256 ^ m
  | 0, v => by simp [beP, beG, Nat.mod_one]
  | m + 1, v => by
    rw [beP, beG_snoc, beG_beP m, Nat.pow_succ]
    have := Nat.mod_mul (a := 256) (b := 256 ^ m) (x := v)
    rw [Nat.mul_comm 256 (256 ^ m)] at this
    rw [this]
    omega
theorem beG_lt : ∀ {xs : List Nat} {a : Nat}, (∀ x ∈ xs, x < 256) → xs.foldl (fun a c => a * 256 + c) a < (a + 1) * 256 ^ xs.length
  | [], a, _ => by simp
  | x :: xs, a, h => by
    have h1 := beG_lt (xs := xs) (a := a * 256 + x) (fun y hy => h y (by simp [hy]))
    have hx := h x (by simp)
    have h2 : (a * 256 + x + 1) * 256 ^ xs.length ≤ ((a + 1) * 256) * 256 ^ xs.length := Nat.mul_le_mul_right _ (by omega)
    simp only [List.foldl_cons, List.length_cons, Nat.pow_succ]
    rw [Nat.mul_assoc, Nat.mul_comm 256] at h2
    rw [Nat.mul_comm (256 ^ xs.length) 256, Nat.mul_comm 256]
    exact Nat.lt_of_lt_of_le h1 h2
theorem beG_lt0 {xs : List Nat} (h : ∀ x ∈ xs, x < 256) : beG xs < 256 ^ xs.length := by
  have := beG_lt (a := 0) h
  simpa [beG] using this
/-- Byte j of the number. -/
theorem beP_get : ∀ (m v j : Nat), j < m → (beP m v)[j]? = some (v / 256 ^ (m - 1 - j) % 256)
  | 0, _, j, h => by omega
  | m + 1, v, j, h => by
    rw [beP]
    by_cases hj : j < m
    · rw [List.getElem?_append_left (by rw [beP_len]; exact hj), beP_get m _ j hj, Nat.div_div_eq_div_mul]
      have e : m + 1 - 1 - j = (m - 1 - j) + 1 := by omega
      rw [e, Nat.pow_succ, Nat.mul_comm 256]
    · obtain rfl : j = m := by omega
      rw [List.getElem?_append_right (by rw [beP_len]; exact Nat.le_refl _), beP_len]
      simp
end Go.Proofs.Ytchajbiloaiekaa
