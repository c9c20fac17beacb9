/-
  Texts merged into one, to keep the claim small: TlvT1.
-/
import Derived.Test.YtahhecendjfenaaMr18
/-
  What was written is read: short numbers, fields, items. No program in sight.
-/
namespace Go.Proofs.Ytahhecendjfenaa
set_option linter.unusedVariables false

theorem readF_of : ∀ (g k acc M : Nat) (rest : List Nat), g + k = 10 → 1 ≤ g → (0 < k → 0 < M) → M * 128 ^ k < U64 → readF g k acc (short M ++ rest) = (acc + M * 128 ^ k, k + (short M).length, 0)
  | 0, _, _, _, _, _, h, _, _ => by omega
  | g + 1, k, acc, M, rest, hg, _, hM, hU => by
    have h9 : (128 : Nat) ^ 9 = 9223372036854775808 := rfl
    have hk9 : k = 9 → M < 2 := fun e => by
      subst e; unfold U64 at hU; omega
    by_cases hs : M < 128
    · rw [short_small hs]
      show readF (g + 1) k acc (M :: rest) = _
      rw [readF_last _ _ _ _ _ (fun h => by have := hk9 h.1; omega) hs (fun h => by have := hM h.1; omega), Nat.mod_eq_of_lt hs]
      rfl
    · rw [short_big hs]
      show readF (g + 1) k acc ((M % 128 + 128) :: (short (M / 128) ++ rest)) = _
      have hk8 : k ≠ 9 := fun e => by have := hk9 e; omega
      have e1 : (M % 128 + 128) % 128 = M % 128 := by omega
      have e2 : M / 128 * 128 ^ (k + 1) = M / 128 * 128 * 128 ^ k := by rw [Nat.pow_succ, Nat.mul_comm (128 ^ k) 128, Nat.mul_assoc]
      have e3 : M % 128 * 128 ^ k + M / 128 * 128 * 128 ^ k = M * 128 ^ k := by rw [← Nat.add_mul]; congr 1; omega
      rw [readF_on _ _ _ _ _ (fun h => hk8 h.1) (by omega), e1, readF_of g (k + 1) _ (M / 128) rest (by omega) (by omega) (fun _ => by omega) (by rw [e2]; omega), e2]
      simp only [Prod.mk.injEq, List.length_cons]
      exact ⟨by omega, by omega, trivial⟩
theorem readShort_of (pre rest : List Nat) {N : Nat} (h : N < U64) : readShort (pre ++ (short N ++ rest)) (pre.length : Int) = (N, (pre.length : Int) + (short N).length, 0) := by
  have h1 : readF 10 0 0 (short N ++ rest) = (N, (short N).length, 0) := by
    rw [readF_of 10 0 0 N rest rfl (by omega) (fun h => by omega) (by simpa using h)]; simp
  rw [readShort, if_neg (by rw [List.length_append]; omega)]
  simp only [Int.toNat_natCast, List.drop_left]
  rw [h1]
  simp
theorem pieceS_of (pre rest v : List Nat) (h : v.length < U64) : pieceS (pre ++ (short v.length ++ (v ++ rest))) pre.length = .inl (pre.length + (short v.length).length, pre.length + (short v.length).length + v.length) := by
  unfold pieceS
  rw [readShort_of pre (v ++ rest) h]
  simp only
  have e : ((pre.length : Int) + ((short v.length).length : Int)).toNat = pre.length + (short v.length).length := by omega
  rw [if_neg (by simp), e, if_neg (by simp only [List.length_append]; omega)]
theorem getS_of : ∀ (fs : List (Int × List Nat)) (pre : List Nat) (last : Nat), putScan (last : Int) fs = 0 → (∀ f ∈ fs, f.2.length < U64) →
    (getS (pre ++ putAll fs) pre.length last).2 = (0, 0) ∧ (getS (pre ++ putAll fs) pre.length last).1.map (fun F => ((F.tag : Int), F.val (pre ++ putAll fs))) = fs
  | [], pre, last, _, _ => by
    rw [getS_end (by simp [putAll])]; exact ⟨rfl, rfl⟩
  | (t, v) :: r, pre, last, h, hU => by
    rw [putScan] at h
    split at h
    · simp at h
    · rename_i ht
      split at h
      · simp at h
      · rename_i hv
        obtain ⟨tn, rfl⟩ : ∃ tn : Nat, t = (tn : Int) := ⟨t.toNat, by omega⟩
        have hvU : v.length < U64 := hU _ (List.mem_cons_self ..)
        have e0 : putAll (((tn : Int), v) :: r) = tn :: (short v.length ++ (v ++ putAll r)) := by simp [putAll, formF]
        rw [e0]
        obtain ⟨bs, hbs⟩ : ∃ bs, pre ++ tn :: (short v.length ++ (v ++ putAll r)) = bs := ⟨_, rfl⟩
        have e1 : bs = (pre ++ [tn]) ++ (short v.length ++ (v ++ putAll r)) := by rw [← hbs]; simp
        have e2 : bs = ((pre ++ [tn]) ++ short v.length ++ v) ++ putAll r := by rw [← hbs]; simp
        have hp := pieceS_of (pre ++ [tn]) (putAll r) v hvU
        rw [← e1] at hp
        have hl1 : (pre ++ [tn]).length = pre.length + 1 := by simp
        rw [hl1] at hp
        have hg : bs.getD pre.length 0 = tn := by rw [← hbs, List.getD_eq_getElem?_getD]; simp
        have hlt : pre.length < bs.length := by rw [← hbs]; simp
        have hs := stepG_one (bs := bs) (a := pre.length) (last := last) (by rw [hg]; omega) hp (by omega)
        rw [hg] at hs
        rw [hbs]
        have hto : pre.length < (GF.mk tn pre.length (pre.length + 1 + (short v.length).length) (pre.length + 1 + (short v.length).length + v.length)).to_ := by simp only; omega
        rw [getS_one hlt hs hto]
        obtain ⟨i1, i2⟩ := getS_of r ((pre ++ [tn]) ++ short v.length ++ v) tn h (fun f hf => hU f (List.mem_cons_of_mem _ hf))
        rw [← e2] at i1 i2
        have hl2 : ((pre ++ [tn]) ++ short v.length ++ v).length = pre.length + 1 + (short v.length).length + v.length := by simp only [List.length_append, List.length_cons, List.length_nil]
        rw [hl2] at i1 i2
        refine ⟨i1, ?_⟩
        simp only [List.map_cons, List.cons.injEq, Prod.mk.injEq, true_and]
        refine ⟨?_, i2⟩
        have hl3 : ((pre ++ [tn]) ++ short v.length).length = pre.length + 1 + (short v.length).length := by simp only [List.length_append, List.length_cons, List.length_nil]
        rw [GF.val]
        simp only
        rw [e2, List.append_assoc ((pre ++ [tn]) ++ short v.length), ← hl3, List.drop_left, show ((pre ++ [tn]) ++ short v.length).length + v.length - ((pre ++ [tn]) ++ short v.length).length = v.length by omega, List.take_left]
theorem getAll_of {fs : List (Int × List Nat)} (h : putErr fs = 0) (hU : ∀ f ∈ fs, f.2.length < U64) : (getAll (putAll fs)).2 = (0, 0) ∧ (getAll (putAll fs)).1.map (fun F => ((F.tag : Int), F.val (putAll fs))) = fs := by
  unfold putErr at h
  split at h
  · rename_i h1; exact absurd h h1
  · rename_i h1
    split at h
    · simp at h
    · rename_i h2
      have h3 : putScan ((0 : Nat) : Int) fs = 0 := Decidable.not_not.1 h1
      have := getS_of fs [] 0 h3 hU
      simp only [List.nil_append, List.length_nil] at this
      unfold getAll
      rw [if_neg h2, if_pos (by rw [this.1])]
      exact this
theorem itemsS_of : ∀ (xss : List (List Nat)) (pre : List Nat), (∀ x ∈ xss, x.length < U64) →
    (itemsS (pre ++ listAll xss) pre.length).2 = (0, 0) ∧ (itemsS (pre ++ listAll xss) pre.length).1.map (GF.val (pre ++ listAll xss)) = xss
  | [], pre, _ => by rw [itemsS_end (by simp [listAll])]; exact ⟨rfl, rfl⟩
  | v :: r, pre, hU => by
    have hvU : v.length < U64 := hU _ (List.mem_cons_self ..)
    have e0 : listAll (v :: r) = short v.length ++ (v ++ listAll r) := by simp [listAll]
    rw [e0]
    obtain ⟨bs, hbs⟩ : ∃ bs, pre ++ (short v.length ++ (v ++ listAll r)) = bs := ⟨_, rfl⟩
    have e2 : bs = (pre ++ short v.length ++ v) ++ listAll r := by rw [← hbs]; simp
    have hp := pieceS_of pre (listAll r) v hvU
    rw [hbs] at hp ⊢
    have hsl := (short_le hvU).1
    have hlt : pre.length < bs.length := by rw [← hbs]; simp only [List.length_append]; omega
    rw [itemsS_one hlt hp (by omega)]
    obtain ⟨i1, i2⟩ := itemsS_of r (pre ++ short v.length ++ v) (fun f hf => hU f (List.mem_cons_of_mem _ hf))
    rw [← e2] at i1 i2
    have hl2 : (pre ++ short v.length ++ v).length = pre.length + (short v.length).length + v.length := by simp only [List.length_append]
    rw [hl2] at i1 i2
    refine ⟨i1, ?_⟩
    simp only [List.map_cons, List.cons.injEq]
    refine ⟨?_, i2⟩
    have hl3 : (pre ++ short v.length).length = pre.length + (short v.length).length := by simp only [List.length_append]
    rw [GF.val]
    simp only
    rw [e2, List.append_assoc (pre ++ short v.length), ← hl3, List.drop_left, show (pre ++ short v.length).length + v.length - (pre ++ short v.length).length = v.length by omega, List.take_left]
theorem itemsAll_of {xss : List (List Nat)} (h : xss ≠ []) (hU : ∀ x ∈ xss, x.length < U64) : (itemsAll (listAll xss)).2 = (0, 0) ∧ (itemsAll (listAll xss)).1.map (GF.val (listAll xss)) = xss := by
  have := itemsS_of xss [] hU
  simp only [List.nil_append, List.length_nil] at this
  have hl : ¬ (listAll xss).length = 0 := by
    cases xss with
    | nil => exact absurd rfl h
    | cons v r =>
      have hsl := (short_le (hU v (List.mem_cons_self ..))).1
      simp only [listAll, List.flatMap_cons, List.length_append]; omega
  unfold itemsAll
  rw [if_neg hl, if_pos (by rw [this.1])]
  exact this
theorem readShort_one {N : Nat} (h : N < U64) : readShort (7 :: short N) 1 = (N, (1 : Int) + ((short N).length : Int), (0 : Int)) := by
  have := readShort_of [7] [] h
  simpa using this
end Go.Proofs.Ytahhecendjfenaa
