/-
  What Get tells of bytes that go on, and of a beginning of bytes. No program in sight.
-/
import Derived.Test.YtbglloafbmamoaaTlvPlain
namespace Go.Proofs.Ytbglloafbmamoaa
set_option linter.unusedVariables false

theorem readF_ext : ∀ (f k n : Nat) (l m : List Nat), (readF f k n l).2.2 ≠ 22 → readF f k n (l ++ m) = readF f k n l
  | 0, _, _, _, _, _ => rfl
  | f + 1, k, n, [], m, h => by simp [readF] at h
  | f + 1, k, n, c :: l, m, h => by
    rw [readF] at h
    rw [List.cons_append, readF, readF]
    split
    · rfl
    · rename_i h1
      rw [if_neg h1] at h
      split
      · rfl
      · rename_i h2
        rw [if_neg h2] at h
        exact readF_ext f (k + 1) _ l m h
theorem readF_err : ∀ (f k n : Nat) (l : List Nat), (readF f k n l).2.2 = 0 ∨ (readF f k n l).2.2 = 20 ∨ (readF f k n l).2.2 = 22
  | 0, _, _, _ => .inr (.inl rfl)
  | f + 1, k, n, [] => .inr (.inr rfl)
  | f + 1, k, n, c :: l => by
    rw [readF]
    split
    · exact .inr (.inl rfl)
    · split
      · split
        · exact .inr (.inl rfl)
        · exact .inl rfl
      · exact readF_err f (k + 1) _ l
theorem readF_cut : ∀ (f k n : Nat) (l : List Nat) (N k' : Nat), readF f k n l = (N, k', 0) → ∀ j, (k' - k ≤ j → readF f k n (l.take j) = (N, k', 0)) ∧ (j < k' - k → readF f k n (l.take j) = (0, 0, 22))
  | 0, _, _, _, _, _, h, _ => by simp [readF] at h
  | f + 1, k, n, [], N, k', h, _ => by simp [readF] at h
  | f + 1, k, n, c :: l, N, k', h, j => by
    have hok := readF_ok _ _ _ _ _ _ h
    cases j with
    | zero => exact ⟨fun hj => by omega, fun _ => rfl⟩
    | succ j =>
      rw [readF] at h
      rw [List.take_succ_cons, readF]
      split
      · rename_i h1; rw [if_pos h1] at h; simp at h
      · rename_i h1
        rw [if_neg h1] at h
        split
        · rename_i h2
          rw [if_pos h2] at h
          refine ⟨fun _ => h, fun hj => ?_⟩
          split at h
          · simp at h
          · simp only [Prod.mk.injEq] at h; omega
        · rename_i h2
          rw [if_neg h2] at h
          obtain ⟨a, b⟩ := readF_cut f (k + 1) _ l N k' h j
          exact ⟨fun hj => a (by omega), fun hj => b (by omega)⟩

theorem readShort_at {bs : List Nat} {a : Nat} (h : a ≤ bs.length) : readShort bs (a : Int) = if (readF 10 0 0 (bs.drop a)).2.2 = 0 then ((readF 10 0 0 (bs.drop a)).1, (a : Int) + (readF 10 0 0 (bs.drop a)).2.1, 0) else (0, 0, ((readF 10 0 0 (bs.drop a)).2.2 : Int)) := by
  rw [readShort, if_neg (by omega)]
  simp only [Int.toNat_natCast]
theorem readShort_ext {bs ys : List Nat} {a : Nat} (h : a ≤ bs.length) (he : (readShort bs (a : Int)).2.2 ≠ 22) : readShort (bs ++ ys) (a : Int) = readShort bs (a : Int) := by
  have h2 : (readF 10 0 0 (bs.drop a)).2.2 ≠ 22 := by
    rw [readShort_at h] at he
    intro e
    rw [e] at he
    simp at he
  rw [readShort_at h, readShort_at (by rw [List.length_append]; omega), List.drop_append_of_le_length h, readF_ext _ _ _ _ _ h2]
theorem pieceS_ext {bs ys : List Nat} {a : Nat} (h : a ≤ bs.length) (he : ∀ p, pieceS bs a ≠ .inr (p, 22)) : pieceS (bs ++ ys) a = pieceS bs a := by
  have h1 : (readShort bs (a : Int)).2.2 ≠ 22 := by
    intro e
    exact he a (by rw [pieceS]; rw [if_pos (by rw [e]; decide), e])
  unfold pieceS at he ⊢
  rw [readShort_ext h h1]
  simp only at he ⊢
  split
  · rfl
  · rename_i h2
    rw [if_neg h2] at he
    split
    · rename_i h3
      split
      · rfl
      · rw [List.length_append] at h3; omega
    · rename_i h3
      split
      · rename_i h4
        rw [if_pos h4] at he
        exact absurd rfl (he _)
      · rfl
theorem getD_ext {bs ys : List Nat} {a : Nat} (h : a < bs.length) : (bs ++ ys).getD a 0 = bs.getD a 0 := by
  rw [List.getD_eq_getElem?_getD, List.getD_eq_getElem?_getD, List.getElem?_append_left h]
theorem stepG_ext {bs ys : List Nat} {a last : Nat} (h : a < bs.length) (he : ∀ p, stepG bs a last ≠ .inr (p, 22)) : stepG (bs ++ ys) a last = stepG bs a last := by
  unfold stepG at he ⊢
  rw [getD_ext h]
  split
  · rfl
  · rename_i h1
    rw [if_neg h1] at he
    have h2 : ∀ p, pieceS bs (a + 1) ≠ .inr (p, 22) := fun p e => he p (by rw [e])
    rw [pieceS_ext h h2]
/-- What is wrong ahead of the end is told whatever stands behind. -/
theorem getS_ext (bs ys : List Nat) (a last : Nat) (ha : a ≤ bs.length) (h0 : (getS bs a last).2.2 ≠ 0) (h22 : (getS bs a last).2.2 ≠ 22) : (getS (bs ++ ys) a last).2 = (getS bs a last).2 := by
  by_cases hlt : a < bs.length
  · rcases hs : stepG bs a last with F | ⟨p, e⟩
    · have hs' : stepG (bs ++ ys) a last = .inl F := by rw [stepG_ext hlt (by rw [hs]; intro p h; cases h), hs]
      by_cases h2 : a < F.to_
      · rw [getS_one hlt hs h2] at h0 h22 ⊢
        rw [getS_one (by rw [List.length_append]; omega) hs' h2]
        by_cases hF : F.to_ ≤ bs.length
        · exact getS_ext bs ys F.to_ F.tag hF h0 h22
        · rw [getS_end (by omega)] at h0
          exact absurd rfl h0
      · rw [getS, dif_pos hlt, hs] at h0
        simp only [dif_neg h2] at h0
        exact absurd rfl h0
    · rw [getS_bad hlt hs] at h0 h22 ⊢
      rw [getS_bad (by rw [List.length_append]; omega) (by rw [stepG_ext hlt (by rw [hs]; intro q hq; cases hq; exact h22 rfl), hs])]
  · rw [getS_end hlt] at h0
    exact absurd rfl h0
termination_by bs.length - a
theorem stepG_place {bs : List Nat} {a last p : Nat} {e : Int} (h : stepG bs a last = .inr (p, e)) (ha : a < bs.length) : p ≤ bs.length := by
  unfold stepG at h
  split at h
  · cases h; omega
  · split at h
    · rename_i pe hp
      cases h
      rcases (pieceS_bad hp).2 with h | h <;> omega
    · split at h
      · cases h; omega
      · cases h
theorem getS_le (bs : List Nat) (a last : Nat) (ha : a ≤ bs.length) : (getS bs a last).2.1 ≤ bs.length := by
  by_cases hlt : a < bs.length
  · rcases hs : stepG bs a last with F | ⟨p, e⟩
    · by_cases h2 : a < F.to_
      · rw [getS_one hlt hs h2]
        by_cases hF : F.to_ ≤ bs.length
        · exact getS_le bs F.to_ F.tag hF
        · rw [getS_end (by omega)]; exact Nat.zero_le _
      · rw [getS, dif_pos hlt, hs]; simp only [dif_neg h2]; exact Nat.zero_le _
    · rw [getS_bad hlt hs]; exact stepG_place hs hlt
  · rw [getS_end hlt]; exact Nat.zero_le _
termination_by bs.length - a

/-- What stands wrong is told, with no fields, within the bytes; and whatever stands behind it. -/
theorem getAll_wrong {bs : List Nat} (h : (getAll bs).2.2 ≠ 0) : (getAll bs).1 = [] ∧ (getAll bs).2.1 ≤ bs.length := by
  unfold getAll at h ⊢
  split
  · exact ⟨rfl, Nat.zero_le _⟩
  · rename_i hb
    rw [if_neg hb] at h
    split
    · rename_i h0; rw [if_pos h0] at h; exact absurd h0 h
    · exact ⟨rfl, getS_le bs 0 0 (Nat.zero_le _)⟩
theorem getAll_more {bs ys : List Nat} (h : (getAll bs).2.2 ≠ 0) (h22 : (getAll bs).2.2 ≠ 22) (hl : (bs ++ ys).length ≤ 1048576) : (getAll (bs ++ ys)).2 = (getAll bs).2 := by
  have hb : ¬ 1048576 < bs.length := by rw [List.length_append] at hl; omega
  unfold getAll at h h22 ⊢
  rw [if_neg hb] at h h22 ⊢
  rw [if_neg (by omega)]
  split at h
  · rename_i h0; exact absurd h0 h
  · rename_i h0
    rw [if_neg h0] at h22 ⊢
    have := getS_ext bs ys 0 0 (Nat.zero_le _) h0 h22
    rw [if_neg (by rw [this]; exact h0), this]
end Go.Proofs.Ytbglloafbmamoaa
