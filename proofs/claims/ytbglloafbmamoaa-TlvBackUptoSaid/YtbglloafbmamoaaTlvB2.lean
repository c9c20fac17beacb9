/-
  What Get tells of a beginning of right bytes: right where a field ends, else cut short. No program in sight.
-/
import Derived.Test.YtbglloafbmamoaaTlvB1
namespace Go.Proofs.Ytbglloafbmamoaa
set_option linter.unusedVariables false

theorem readShort_cut {bs : List Nat} {a N k : Nat} {t : Int} (h : readShort bs (a : Int) = (N, t, 0)) (ha : a ≤ k) (hk : k ≤ bs.length) :
    (t ≤ k → readShort (bs.take k) (a : Int) = (N, t, 0)) ∧ ((k : Int) < t → readShort (bs.take k) (a : Int) = (0, 0, 22)) := by
  have hab : a ≤ bs.length := by omega
  have hd : (bs.take k).drop a = (bs.drop a).take (k - a) := by rw [List.drop_take]
  rw [readShort_at hab] at h
  rw [readShort_at (by rw [List.length_take]; omega), hd]
  split at h
  · rename_i h0
    generalize hg : readF 10 0 0 (bs.drop a) = r at h0 h
    obtain ⟨x, y, z⟩ := r
    simp only at h0 h
    subst h0
    simp only [Prod.mk.injEq] at h
    obtain ⟨c1, c2⟩ := readF_cut 10 0 0 _ _ _ hg (k - a)
    refine ⟨fun ht => ?_, fun ht => ?_⟩
    · rw [c1 (by omega), if_pos rfl, h.1, h.2.1]
    · rw [c2 (by omega)]; rfl
  · rename_i h0
    simp only [Prod.mk.injEq] at h
    omega
theorem pieceS_cut {bs : List Nat} {a f t k : Nat} (h : pieceS bs a = .inl (f, t)) (ha : a ≤ k) (hk : k ≤ bs.length) :
    (t ≤ k → pieceS (bs.take k) a = .inl (f, t)) ∧ (k < t → ∃ p, p ≤ k ∧ pieceS (bs.take k) a = .inr (p, 22)) := by
  have hok := pieceS_ok h
  have hl : (bs.take k).length = k := by rw [List.length_take]; omega
  unfold pieceS at h
  simp only at h
  split at h
  · cases h
  · rename_i h0
    split at h
    · cases h
    · rename_i h1
      simp only [Sum.inl.injEq, Prod.mk.injEq] at h
      have h0' : (readShort bs (a : Int)).2.2 = 0 := by simpa using h0
      have hr : readShort bs (a : Int) = ((readShort bs (a : Int)).1, (readShort bs (a : Int)).2.1, 0) := by rw [← h0']
      have hro := readShort_ok hr
      obtain ⟨c1, c2⟩ := readShort_cut hr ha hk
      by_cases hf : f ≤ k
      · have c := c1 (by omega)
        refine ⟨fun ht => ?_, fun ht => ⟨f, hf, ?_⟩⟩
        · unfold pieceS
          rw [c]
          simp only
          rw [if_neg (by simp), hl, if_neg (by omega)]
          rw [h.1]
          congr 2
          omega
        · unfold pieceS
          rw [c]
          simp only
          rw [if_neg (by simp), hl, if_pos (by omega), h.1]
      · have c := c2 (by omega)
        refine ⟨fun ht => by omega, fun ht => ⟨a, ha, ?_⟩⟩
        unfold pieceS
        rw [c]
        simp
theorem stepG_inl {bs : List Nat} {a last : Nat} {F : GF} (hs : stepG bs a last = .inl F) : pieceS bs (a + 1) = .inl (F.from_, F.to_) ∧ F.tag = bs.getD a 0 ∧ F.at_ = a ∧ ¬ bs.getD a 0 ≤ last ∧ ¬ F.to_ - F.from_ = 0 := by
  unfold stepG at hs
  split at hs
  · cases hs
  · rename_i hl
    split at hs
    · cases hs
    · rename_i f t hp
      split at hs
      · cases hs
      · rename_i hz
        cases hs
        exact ⟨hp, rfl, rfl, hl, hz⟩
theorem getS_to (bs : List Nat) (a last : Nat) : ∀ F ∈ (getS bs a last).1, a < F.to_ := by
  by_cases hlt : a < bs.length
  · rcases hs : stepG bs a last with F | ⟨p, e⟩
    · by_cases h2 : a < F.to_
      · rw [getS_one hlt hs h2]
        intro G hG
        rcases List.mem_cons.1 hG with rfl | hG
        · exact h2
        · exact Nat.lt_trans h2 (getS_to bs F.to_ F.tag G hG)
      · rw [getS, dif_pos hlt, hs]; simp only [dif_neg h2]; intro G hG; cases hG
    · rw [getS_bad hlt hs]; intro G hG; cases hG
  · rw [getS_end hlt]; intro G hG; cases hG
termination_by bs.length - a
theorem getS_cut (bs : List Nat) (k a last : Nat) (h0 : (getS bs a last).2.2 = 0) (ha : a ≤ k) (hk : k ≤ bs.length) :
    ((k = a ∨ ∃ F ∈ (getS bs a last).1, F.to_ = k) → (getS (bs.take k) a last).2.2 = 0) ∧ (¬ (k = a ∨ ∃ F ∈ (getS bs a last).1, F.to_ = k) → (getS (bs.take k) a last).2.2 = 22 ∧ (getS (bs.take k) a last).2.1 ≤ k) := by
  have hl : (bs.take k).length = k := by rw [List.length_take]; omega
  by_cases hka : k = a
  · refine ⟨fun _ => ?_, fun h => absurd (.inl hka) h⟩
    rw [getS_end (by omega)]
  · have hlt : a < bs.length := by omega
    rcases hs : stepG bs a last with F | ⟨p, e⟩
    · obtain ⟨hp, ht, hat, hla, hz⟩ := stepG_inl hs
      have hok := pieceS_ok hp
      have h2 : a < F.to_ := by omega
      have hg : (bs.take k).getD a 0 = bs.getD a 0 := by
        rw [List.getD_eq_getElem?_getD, List.getD_eq_getElem?_getD, List.getElem?_take_of_lt (by omega)]
      obtain ⟨c1, c2⟩ := pieceS_cut hp (show a + 1 ≤ k by omega) hk
      rw [getS_one hlt hs h2] at h0 ⊢
      by_cases htk : F.to_ ≤ k
      · have hs' : stepG (bs.take k) a last = .inl F := by
          rw [stepG_one (by rw [hg]; exact hla) (c1 htk) (by omega), hg, ← ht]
          rw [← hat]
        rw [getS_one (by omega) hs' h2]
        obtain ⟨i1, i2⟩ := getS_cut bs k F.to_ F.tag h0 htk hk
        refine ⟨fun h => i1 ?_, fun h => i2 fun h' => h ?_⟩
        · rcases h with h | ⟨G, hG, hGk⟩
          · exact absurd h hka
          · rcases List.mem_cons.1 hG with rfl | hG
            · exact .inl hGk.symm
            · exact .inr ⟨G, hG, hGk⟩
        · rcases h' with h' | ⟨G, hG, hGk⟩
          · exact .inr ⟨F, List.mem_cons_self .., h'.symm⟩
          · exact .inr ⟨G, List.mem_cons_of_mem _ hG, hGk⟩
      · obtain ⟨p, hpk, hp2⟩ := c2 (by omega)
        have hs' : stepG (bs.take k) a last = .inr (p, 22) := stepG_piece (by rw [hg]; exact hla) hp2
        rw [getS_bad (by omega) hs']
        refine ⟨fun h => ?_, fun _ => ⟨rfl, hpk⟩⟩
        rcases h with h | ⟨G, hG, hGk⟩
        · exact absurd h hka
        · rcases List.mem_cons.1 hG with rfl | hG
          · omega
          · have := getS_to bs F.to_ F.tag G hG; omega
    · rw [getS_bad hlt hs] at h0
      exact absurd h0 (stepG_bad hs)
termination_by bs.length - a

/-- Where the fields end. -/
def pos : Nat → List GF → Nat → Nat
  | a, _, 0 => a
  | a, [], _ + 1 => a
  | a, F :: r, i + 1 => pos F.to_ r i
theorem getS_pos (bs : List Nat) (h256 : ∀ x ∈ bs, x < 256) (a last : Nat) (h0 : (getS bs a last).2.2 = 0) (ha : a ≤ bs.length) :
    (∀ i F, (getS bs a last).1[i]? = some F → F.to_ = pos a (getS bs a last).1 (i + 1) ∧ F.to_ = pos a (getS bs a last).1 i + 1 + (short (F.to_ - F.from_)).length + (F.to_ - F.from_) ∧ F.to_ ≤ bs.length) ∧
      pos a (getS bs a last).1 (getS bs a last).1.length = bs.length := by
  by_cases hlt : a < bs.length
  · rcases hs : stepG bs a last with F | ⟨p, e⟩
    · obtain ⟨hp, ht, hat, hla, hz⟩ := stepG_inl hs
      have hok := pieceS_ok hp
      have h2 : a < F.to_ := by omega
      rw [getS_one hlt hs h2] at h0 ⊢
      obtain ⟨i1, i2⟩ := getS_pos bs h256 F.to_ F.tag h0 hok.2.2
      refine ⟨fun i G hG => ?_, by rw [List.length_cons]; exact i2⟩
      cases i with
      | zero =>
        simp only [List.getElem?_cons_zero, Option.some.injEq] at hG
        subst hG
        have hform := congrArg List.length (pieceS_form hp h256)
        rw [List.length_append, List.length_take, List.length_take, List.length_drop, List.length_drop] at hform
        refine ⟨rfl, ?_, hok.2.2⟩
        show F.to_ = a + 1 + _ + _
        omega
      | succ i =>
        simp only [List.getElem?_cons_succ] at hG
        exact i1 i G hG
    · rw [getS_bad hlt hs] at h0
      exact absurd h0 (stepG_bad hs)
  · rw [getS_end hlt]
    exact ⟨fun i F h => by simp at h, by show a = _; omega⟩
termination_by bs.length - a

theorem getAll_eq {bs : List Nat} (h : (getAll bs).2.2 = 0) : getAll bs = getS bs 0 0 ∧ (getS bs 0 0).2.2 = 0 ∧ ¬ 1048576 < bs.length := by
  unfold getAll at h ⊢
  split at h
  · simp at h
  · rename_i hb
    rw [if_neg hb]
    split at h
    · rename_i h0; rw [if_pos h0]; exact ⟨rfl, h0, hb⟩
    · rename_i h0; exact absurd h h0
theorem getAll_cut {bs : List Nat} {k : Nat} (h : (getAll bs).2.2 = 0) (hk : k ≤ bs.length) :
    ((k = 0 ∨ ∃ F ∈ (getAll bs).1, F.to_ = k) → (getAll (bs.take k)).2.2 = 0) ∧ (¬ (k = 0 ∨ ∃ F ∈ (getAll bs).1, F.to_ = k) → (getAll (bs.take k)).2.2 = 22 ∧ (getAll (bs.take k)).2.1 ≤ k) := by
  obtain ⟨e, h0, hb⟩ := getAll_eq h
  have hl : (bs.take k).length = k := by rw [List.length_take]; omega
  obtain ⟨c1, c2⟩ := getS_cut bs k 0 0 h0 (Nat.zero_le _) hk
  rw [e]
  unfold getAll
  rw [if_neg (by omega)]
  refine ⟨fun h => ?_, fun h => ?_⟩
  · rw [if_pos (c1 h)]; exact c1 h
  · obtain ⟨a, b⟩ := c2 h
    rw [if_neg (by rw [a]; decide)]; exact ⟨a, b⟩
theorem getAll_pos {bs : List Nat} (h256 : ∀ x ∈ bs, x < 256) (h : (getAll bs).2.2 = 0) :
    (∀ i F, (getAll bs).1[i]? = some F → F.to_ = pos 0 (getAll bs).1 (i + 1) ∧ F.to_ = pos 0 (getAll bs).1 i + 1 + (short (F.to_ - F.from_)).length + (F.to_ - F.from_) ∧ F.to_ ≤ bs.length) ∧ pos 0 (getAll bs).1 (getAll bs).1.length = bs.length := by
  obtain ⟨e, h0, -⟩ := getAll_eq h
  rw [e]
  exact getS_pos bs h256 0 0 h0 (Nat.zero_le _)
end Go.Proofs.Ytbglloafbmamoaa
