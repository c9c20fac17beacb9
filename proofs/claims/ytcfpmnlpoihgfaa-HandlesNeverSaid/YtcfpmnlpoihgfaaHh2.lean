/-
  A heap of numbers, plain: what an exchange leaves.
-/
import Derived.Test.YtcfpmnlpoihgfaaHh1
namespace Go.Proofs.Ytcfpmnlpoihgfaa
set_option linter.unusedVariables false
set_option linter.unusedSimpArgs false
theorem swp_len (xs : List Nat) (i j : Nat) : (swp xs i j).length = xs.length := by simp [swp]
theorem swp_at {xs : List Nat} {i j : Nat} (hi : i < xs.length) (hj : j < xs.length) (k : Nat) : (swp xs i j).getD k 0 = if k = j then xs.getD i 0 else if k = i then xs.getD j 0 else xs.getD k 0 := by
  unfold swp
  simp only [List.getD_eq_getElem?_getD]
  by_cases h1 : k = j
  · subst h1
    rw [if_pos rfl, List.getElem?_set_self (by simpa using hj)]; rfl
  · rw [if_neg h1, List.getElem?_set_ne (by omega)]
    by_cases h2 : k = i
    · subst h2
      rw [if_pos rfl, List.getElem?_set_self (by simpa using hi)]; rfl
    · rw [if_neg h2, List.getElem?_set_ne (by omega)]
theorem swp_perm {xs : List Nat} {i j : Nat} (hi : i < xs.length) (hj : j < xs.length) : (swp xs i j).Perm xs := by
  have e1 : xs.getD i 0 = xs[i] := by rw [List.getD_eq_getElem?_getD, List.getElem?_eq_getElem hi]; rfl
  have e2 : xs.getD j 0 = xs[j] := by rw [List.getD_eq_getElem?_getD, List.getElem?_eq_getElem hj]; rfl
  unfold swp
  rw [e1, e2]
  exact List.set_set_perm hi hj
/-- The first n are a heap. -/
def HeapN (xs : List Nat) (n : Nat) : Prop := ∀ k, 0 < k → k < n → xs.getD ((k - 1) / 2) 0 ≤ xs.getD k 0
/-- A heap, but that place i may be too great for those below it. -/
def DownAt (xs : List Nat) (n i : Nat) : Prop := (∀ k, 0 < k → k < n → (k - 1) / 2 ≠ i → xs.getD ((k - 1) / 2) 0 ≤ xs.getD k 0) ∧ (0 < i → ∀ k, 0 < k → k < n → (k - 1) / 2 = i → xs.getD ((i - 1) / 2) 0 ≤ xs.getD k 0)
/-- A heap, but that place j may be too small for the one above it. -/
def UpAt (xs : List Nat) (n j : Nat) : Prop := (∀ k, 0 < k → k < n → k ≠ j → xs.getD ((k - 1) / 2) 0 ≤ xs.getD k 0) ∧ (0 < j → ∀ k, 0 < k → k < n → (k - 1) / 2 = j → xs.getD ((j - 1) / 2) 0 ≤ xs.getD k 0)
theorem down_end {xs : List Nat} {n i : Nat} (h : DownAt xs n i) (hc : ∀ k, 0 < k → k < n → (k - 1) / 2 = i → xs.getD i 0 ≤ xs.getD k 0) : HeapN xs n := by
  intro k h0 hk
  by_cases e : (k - 1) / 2 = i
  · rw [e]; exact hc k h0 hk e
  · exact h.1 k h0 hk e
theorem down_step {xs : List Nat} {n i j : Nat} (h : DownAt xs n i) (hn : n ≤ xs.length) (hj : j < n) (hp : 0 < j ∧ (j - 1) / 2 = i) (hlt : xs.getD j 0 < xs.getD i 0) (hmin : ∀ k, 0 < k → k < n → (k - 1) / 2 = i → xs.getD j 0 ≤ xs.getD k 0) : DownAt (swp xs i j) n j := by
  obtain ⟨hj0, hji⟩ := hp
  have hij : i < j := by omega
  have at_ := fun k => swp_at (xs := xs) (i := i) (j := j) (by omega) (by omega) k
  refine ⟨fun k h0 hk hne => ?_, fun _ k h0 hk e => ?_⟩
  · rw [at_, at_]
    by_cases e1 : (k - 1) / 2 = i
    · rw [if_neg hne, if_pos e1]
      by_cases e2 : k = j
      · rw [if_pos e2]; omega
      · rw [if_neg e2, if_neg (by omega)]
        exact hmin k h0 hk e1
    · rw [if_neg hne, if_neg e1]
      by_cases e2 : k = j
      · exact absurd (by rw [e2]; exact hji) e1
      · rw [if_neg e2]
        by_cases e3 : k = i
        · rw [if_pos e3]
          subst e3
          exact h.2 h0 j hj0 hj hji
        · rw [if_neg e3]
          exact h.1 k h0 hk e1
  · rw [at_, at_]
    have e1 : ¬ (j - 1) / 2 = j := by omega
    have e2 : ¬ k = j := by omega
    have e3 : ¬ k = i := by omega
    rw [if_neg e1, if_pos hji, if_neg e2, if_neg e3]
    have := h.1 k h0 hk (by omega)
    rw [e] at this
    exact this
theorem up_end {xs : List Nat} {n j : Nat} (h : UpAt xs n j) (hc : 0 < j → xs.getD ((j - 1) / 2) 0 ≤ xs.getD j 0) : HeapN xs n := by
  intro k h0 hk
  by_cases e : k = j
  · subst e; exact hc h0
  · exact h.1 k h0 hk e
theorem up_step {xs : List Nat} {n j : Nat} (h : UpAt xs n j) (hn : n ≤ xs.length) (hj : j < n) (h0 : 0 < j) (hlt : xs.getD j 0 < xs.getD ((j - 1) / 2) 0) : UpAt (swp xs ((j - 1) / 2) j) n ((j - 1) / 2) := by
  obtain ⟨i, hi⟩ : ∃ i, (j - 1) / 2 = i := ⟨_, rfl⟩
  rw [hi] at hlt ⊢
  have hij : i < j := by omega
  have at_ := fun k => swp_at (xs := xs) (i := i) (j := j) (by omega) (by omega) k
  refine ⟨fun k hk0 hk hne => ?_, fun hi0 k hk0 hk e => ?_⟩
  · rw [at_, at_]
    by_cases e1 : k = j
    · subst e1
      rw [if_pos rfl, hi, if_neg (by omega), if_pos rfl]
      omega
    · rw [if_neg e1, if_neg hne]
      by_cases e2 : (k - 1) / 2 = j
      · rw [if_pos e2]
        have := h.2 h0 k hk0 hk e2
        rwa [hi] at this
      · rw [if_neg e2]
        by_cases e3 : (k - 1) / 2 = i
        · rw [if_pos e3]
          have := h.1 k hk0 hk e1
          rw [e3] at this
          omega
        · rw [if_neg e3]
          exact h.1 k hk0 hk e1
  · rw [at_, at_]
    have e1 : ¬ (i - 1) / 2 = j := by omega
    have e2 : ¬ (i - 1) / 2 = i := by omega
    rw [if_neg e1, if_neg e2]
    have hpi := h.1 i hi0 (by omega) (by omega)
    by_cases e3 : k = j
    · rw [if_pos e3]; exact hpi
    · rw [if_neg e3, if_neg (by omega)]
      have := h.1 k hk0 hk e3
      rw [e] at this
      omega
theorem heap_min {xs : List Nat} {n : Nat} (h : HeapN xs n) : ∀ k, k < n → xs.getD 0 0 ≤ xs.getD k 0 := by
  intro k
  induction k using Nat.strongRecOn with
  | _ k ih =>
    intro hk
    by_cases h0 : k = 0
    · subst h0; exact Nat.le_refl _
    · have h1 := ih ((k - 1) / 2) (by omega) (by omega)
      have h2 := h k (by omega) hk
      omega
theorem heap_less {xs : List Nat} {n m : Nat} (h : HeapN xs n) (hm : m ≤ n) : HeapN xs m := fun k h0 hk => h k h0 (by omega)
end Go.Proofs.Ytcfpmnlpoihgfaa
