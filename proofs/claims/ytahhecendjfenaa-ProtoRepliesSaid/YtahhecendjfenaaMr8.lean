/-
  Texts merged into one, to keep the claim small: TlvGetSpec.
-/
import Derived.Test.YtahhecendjfenaaMr4
/-
  What Get, Items and what stands within them read, in plain lists of numbers.
-/
namespace Go.Proofs.Ytahhecendjfenaa
set_option linter.unusedVariables false

theorem readF_ok : ∀ (f k n : Nat) (l : List Nat) (N k' : Nat), readF f k n l = (N, k', 0) → k < k' ∧ k' ≤ k + l.length
  | 0, _, _, _, _, _, h => by simp [readF] at h
  | f + 1, k, n, [], N, k', h => by simp [readF] at h
  | f + 1, k, n, c :: l, N, k', h => by
    rw [readF] at h
    split at h
    · simp at h
    · split at h
      · split at h
        · simp at h
        · simp at h; simp; omega
      · have := readF_ok f (k + 1) _ l N k' h
        simp; omega
theorem readShort_ok {bs : List Nat} {a : Nat} {N : Nat} {t : Int} (h : readShort bs (a : Int) = (N, t, 0)) : (a : Int) < t ∧ t ≤ bs.length := by
  unfold readShort at h
  split at h
  · simp at h
  · rename_i hr
    simp only at h
    split at h
    · rename_i h0
      simp only [Int.toNat_natCast] at h0 h hr
      generalize hg : readF 10 0 0 (bs.drop a) = r at h0 h
      obtain ⟨x, y, z⟩ := r
      simp only at h0 h
      subst h0
      have h1 := readF_ok 10 0 0 (bs.drop a) _ _ hg
      simp only [List.length_drop] at h1
      simp only [Prod.mk.injEq] at h
      omega
    · rename_i h0
      simp at h h0; omega

/-- A length and so many bytes: where they begin and end, or where what is wrong. -/
def pieceS (bs : List Nat) (a : Nat) : (Nat × Nat) ⊕ (Nat × Int) :=
  let r := readShort bs (a : Int)
  if r.2.2 ≠ 0 then .inr (a, r.2.2) else if bs.length - r.2.1.toNat < r.1 then .inr (r.2.1.toNat, 22) else .inl (r.2.1.toNat, r.2.1.toNat + r.1)
theorem pieceS_ok {bs : List Nat} {a f t : Nat} (h : pieceS bs a = .inl (f, t)) : a < f ∧ f ≤ t ∧ t ≤ bs.length := by
  unfold pieceS at h
  simp only at h
  split at h
  · cases h
  · rename_i h0
    split at h
    · cases h
    · simp only [Sum.inl.injEq, Prod.mk.injEq] at h
      have h1 := readShort_ok (bs := bs) (a := a) (N := (readShort bs a).1) (t := (readShort bs a).2.1) (by
        have : (readShort bs (a : Int)).2.2 = 0 := by simpa using h0
        rw [← this])
      omega
theorem pieceS_bad {bs : List Nat} {a p : Nat} {e : Int} (h : pieceS bs a = .inr (p, e)) : e ≠ 0 ∧ (p ≤ a ∨ p ≤ bs.length) := by
  unfold pieceS at h
  simp only at h
  split at h
  · rename_i h0
    simp only [Sum.inr.injEq, Prod.mk.injEq] at h
    exact ⟨by rw [← h.2]; exact h0, by omega⟩
  · rename_i h0
    have h1 := readShort_ok (bs := bs) (a := a) (N := (readShort bs a).1) (t := (readShort bs a).2.1) (by
      have : (readShort bs (a : Int)).2.2 = 0 := by simpa using h0
      rw [← this])
    split at h
    · simp only [Sum.inr.injEq, Prod.mk.injEq] at h; omega
    · cases h

/-- A field that stands in bytes. -/
structure GF where
  tag : Nat
  at_ : Nat
  from_ : Nat
  to_ : Nat
def GF.val (bs : List Nat) (F : GF) : List Nat := (bs.drop F.from_).take (F.to_ - F.from_)
theorem GF.val_len {bs : List Nat} {F : GF} (h : F.to_ ≤ bs.length) : (F.val bs).length = F.to_ - F.from_ := by simp [GF.val]; omega
theorem GF.val_bytes {bs : List Nat} {F : GF} (h : ∀ x ∈ bs, x < 256) : ∀ x ∈ F.val bs, x < 256 := fun x hx => h x (List.mem_of_mem_drop (List.mem_of_mem_take hx))

/-- One field read. -/
def stepG (bs : List Nat) (a last : Nat) : GF ⊕ (Nat × Int) :=
  if bs.getD a 0 ≤ last then .inr (a, 21)
  else match pieceS bs (a + 1) with
    | .inr pe => .inr pe
    | .inl (f, t) => if t - f = 0 then .inr (a + 1, 20) else .inl ⟨bs.getD a 0, a, f, t⟩
/-- All fields from a place on: those that are right, then what is wrong first, and where. -/
def getS (bs : List Nat) (a last : Nat) : List GF × Nat × Int :=
  if h : a < bs.length then
    match stepG bs a last with
    | .inr (p, e) => ([], p, e)
    | .inl F => if h2 : a < F.to_ then
        let r := getS bs F.to_ F.tag
        (F :: r.1, r.2)
      else ([], 0, 0)
  else ([], 0, 0)
termination_by bs.length - a
decreasing_by omega
theorem getS_end {bs : List Nat} {a last : Nat} (h : ¬ a < bs.length) : getS bs a last = ([], 0, 0) := by rw [getS, dif_neg h]
theorem getS_bad {bs : List Nat} {a last p : Nat} {e : Int} (h : a < bs.length) (hs : stepG bs a last = .inr (p, e)) : getS bs a last = ([], p, e) := by rw [getS, dif_pos h, hs]
theorem getS_one {bs : List Nat} {a last : Nat} {F : GF} (h : a < bs.length) (hs : stepG bs a last = .inl F) (h2 : a < F.to_) : getS bs a last = (F :: (getS bs F.to_ F.tag).1, (getS bs F.to_ F.tag).2) := by
  rw [getS, dif_pos h, hs]; simp only [dif_pos h2]
theorem stepG_order {bs : List Nat} {a last : Nat} (h : bs.getD a 0 ≤ last) : stepG bs a last = .inr (a, 21) := by rw [stepG, if_pos h]
theorem stepG_piece {bs : List Nat} {a last p : Nat} {e : Int} (h : ¬ bs.getD a 0 ≤ last) (hp : pieceS bs (a + 1) = .inr (p, e)) : stepG bs a last = .inr (p, e) := by rw [stepG, if_neg h, hp]
theorem stepG_none {bs : List Nat} {a last f : Nat} (h : ¬ bs.getD a 0 ≤ last) (hp : pieceS bs (a + 1) = .inl (f, f)) : stepG bs a last = .inr (a + 1, 20) := by rw [stepG, if_neg h, hp]; simp
theorem stepG_one {bs : List Nat} {a last f t : Nat} (h : ¬ bs.getD a 0 ≤ last) (hp : pieceS bs (a + 1) = .inl (f, t)) (hft : f < t) : stepG bs a last = .inl ⟨bs.getD a 0, a, f, t⟩ := by
  rw [stepG, if_neg h, hp]; simp; omega
theorem stepG_bad {bs : List Nat} {a last p : Nat} {e : Int} (h : stepG bs a last = .inr (p, e)) : e ≠ 0 := by
  unfold stepG at h
  split at h
  · cases h; omega
  · split at h
    · rename_i pe hp
      cases h
      exact (pieceS_bad hp).1
    · split at h
      · cases h; omega
      · cases h
theorem getS_place (bs : List Nat) (a last : Nat) (h : (getS bs a last).2.2 = 0) : (getS bs a last).2.1 = 0 := by
  by_cases ha : a < bs.length
  · rcases hs : stepG bs a last with F | ⟨p, e⟩
    · by_cases h2 : a < F.to_
      · rw [getS_one ha hs h2] at h ⊢
        exact getS_place bs F.to_ F.tag h
      · rw [getS, dif_pos ha, hs]; simp only [dif_neg h2]
    · rw [getS_bad ha hs] at h
      exact absurd h (stepG_bad hs)
  · rw [getS_end ha]
termination_by bs.length - a
/-- What Get answers: the fields (none beside an error), the place, the error. -/
def getAll (bs : List Nat) : List GF × Nat × Int :=
  if 1048576 < bs.length then ([], 0, 3) else if (getS bs 0 0).2.2 = 0 then getS bs 0 0 else ([], (getS bs 0 0).2)
theorem getAll_place {bs : List Nat} (h : (getAll bs).2.2 = 0) : (getAll bs).2.1 = 0 := by
  unfold getAll at h ⊢
  split at h
  · simp at h
  · rename_i hb
    rw [if_neg hb]
    split at h
    · rename_i h0; rw [if_pos h0]; exact getS_place _ _ _ h0
    · rename_i h0; exact absurd h h0
end Go.Proofs.Ytahhecendjfenaa
