/-
  Texts merged into one, to keep the claim small: TlvPlain, TlvT1, TlvL5.
-/
import Derived.Test.YtlcjhbemgagchaaMc6
import Derived.Test.YtlcjhbemgagchaaMc2
import Derived.Test.YtlcjhbemgagchaaMc5
section
/-
  What is read was written so: short numbers, pieces, fields, items.
-/
namespace Go.Proofs.Ytlcjhbemgagchaa
set_option linter.unusedVariables false

theorem readF_short : ∀ (f k n : Nat) (l : List Nat) (N k' : Nat), readF f k n l = (N, k', 0) → (∀ x ∈ l, x < 256) → ∃ M, N = n + M * 128 ^ k ∧ l.take (k' - k) = short M ∧ (0 < k → 0 < M)
  | 0, _, _, _, _, _, h, _ => by simp [readF] at h
  | f + 1, k, n, [], N, k', h, _ => by simp [readF] at h
  | f + 1, k, n, c :: l, N, k', h, h256 => by
    rw [readF] at h
    split at h
    · simp at h
    · split at h
      · rename_i hc
        split at h
        · simp at h
        · rename_i h0
          simp only [Prod.mk.injEq] at h
          refine ⟨c, ?_, ?_, fun hk => ?_⟩
          · rw [← h.1, Nat.mod_eq_of_lt hc]
          · rw [← h.2.1, Nat.add_sub_cancel_left, short_small hc]; simp
          · rcases Nat.eq_zero_or_pos c with hz | hz
            · exact absurd ⟨hk, hz⟩ h0
            · exact hz
      · rename_i hc
        have hcl : c < 256 := h256 c (by simp)
        obtain ⟨M, h1, h2, h3⟩ := readF_short f (k + 1) _ l N k' h fun x hx => h256 x (by simp [hx])
        have hM := h3 (by omega)
        have hk := (readF_ok f (k + 1) _ l N k' h).1
        have e1 : (c % 128 + 128 * M) % 128 = c % 128 := by omega
        have e2 : (c % 128 + 128 * M) / 128 = M := by omega
        refine ⟨c % 128 + 128 * M, ?_, ?_, fun _ => by omega⟩
        · rw [h1, Nat.pow_succ, Nat.add_mul, Nat.add_assoc, show M * (128 ^ k * 128) = 128 * M * 128 ^ k by rw [Nat.mul_comm (128 ^ k) 128, ← Nat.mul_assoc, Nat.mul_comm M 128]]
        · rw [short_big (by omega), e1, e2, ← h2, show k' - k = (k' - (k + 1)) + 1 by omega, List.take_succ_cons, show c % 128 + 128 = c by omega]
theorem readShort_short {bs : List Nat} {a N : Nat} {t : Int} (h : readShort bs (a : Int) = (N, t, 0)) (h256 : ∀ x ∈ bs, x < 256) : short N = (bs.drop a).take (t.toNat - a) := by
  unfold readShort at h
  split at h
  · simp at h
  · rename_i hr
    simp only at h
    split at h
    · rename_i h0
      simp only [Int.toNat_natCast] at h0 h hr
      generalize hg : readF 10 0 0 (bs.drop a) = r at h0 h
      obtain ⟨x, y, z⟩ := r
      simp only at h0 h
      subst h0
      obtain ⟨M, h1, h2, _⟩ := readF_short 10 0 0 (bs.drop a) _ _ hg fun x hx => h256 x (List.mem_of_mem_drop hx)
      simp only [Prod.mk.injEq] at h
      have hxM : N = M := by rw [← h.1, h1]; simp
      have hty : t.toNat - a = y := by omega
      rw [hxM, hty, ← h2]; simp
    · rename_i h0
      simp at h h0; omega
theorem pieceS_form {bs : List Nat} {a f t : Nat} (h : pieceS bs a = .inl (f, t)) (h256 : ∀ x ∈ bs, x < 256) : (bs.drop a).take (t - a) = short (t - f) ++ (bs.drop f).take (t - f) := by
  have hok := pieceS_ok h
  unfold pieceS at h
  simp only at h
  split at h
  · cases h
  · rename_i h0
    have h0' : (readShort bs (a : Int)).2.2 = 0 := by simpa using h0
    have hr : readShort bs (a : Int) = ((readShort bs (a : Int)).1, (readShort bs (a : Int)).2.1, 0) := by rw [← h0']
    have h1 := readShort_short hr h256
    have h2 := readShort_ok hr
    split at h
    · cases h
    · simp only [Sum.inl.injEq, Prod.mk.injEq] at h
      rw [h.1] at h1
      have e1 : (readShort bs (a : Int)).1 = t - f := by omega
      rw [e1] at h1
      rw [h1, show t - a = (f - a) + (t - f) by omega, List.take_add, List.drop_drop, show a + (f - a) = f by omega]
theorem getS_form (bs : List Nat) (h256 : ∀ x ∈ bs, x < 256) (a last : Nat) (h : (getS bs a last).2.2 = 0) : bs.drop a = putAll ((getS bs a last).1.map fun F => ((F.tag : Int), F.val bs)) ∧ putScan (last : Int) ((getS bs a last).1.map fun F => ((F.tag : Int), F.val bs)) = 0 := by
  by_cases ha : a < bs.length
  · rcases hs : stepG bs a last with F | ⟨p, e⟩
    · have hF : pieceS bs (a + 1) = .inl (F.from_, F.to_) ∧ F.tag = bs.getD a 0 ∧ ¬ bs.getD a 0 ≤ last ∧ ¬ F.to_ - F.from_ = 0 := by
        unfold stepG at hs
        split at hs
        · cases hs
        · rename_i hl
          split at hs
          · cases hs
          · rename_i f t hp
            split at hs
            · cases hs
            · rename_i hz
              cases hs
              exact ⟨hp, rfl, hl, hz⟩
      obtain ⟨hp, ht, hl, hz⟩ := hF
      have hok := pieceS_ok hp
      have h2 : a < F.to_ := by omega
      rw [getS_one ha hs h2] at h ⊢
      obtain ⟨ih1, ih2⟩ := getS_form bs h256 F.to_ F.tag h
      have hform := pieceS_form hp h256
      have hval : (F.val bs).length = F.to_ - F.from_ := GF.val_len hok.2.2
      have hb : bs.getD a 0 = bs[a] := by simp [List.getD, ha]
      have htag : F.tag < 256 := by rw [ht, hb]; exact h256 _ (List.getElem_mem ha)
      refine ⟨?_, ?_⟩
      · simp only [List.map_cons, putAll, List.flatMap_cons]
        rw [show ((getS bs F.to_ F.tag).1.map fun F => ((F.tag : Int), F.val bs)).flatMap (fun f => formF f.1.toNat f.2) = bs.drop F.to_ from ih1.symm]
        simp only [Int.toNat_natCast, formF]
        rw [hval, List.drop_eq_getElem_cons ha, ht, hb, List.cons_append]
        congr 1
        have e1 : bs.drop (a + 1) = (bs.drop (a + 1)).take (F.to_ - (a + 1)) ++ (bs.drop (a + 1)).drop (F.to_ - (a + 1)) := (List.take_append_drop _ _).symm
        rw [e1, hform, List.drop_drop, show a + 1 + (F.to_ - (a + 1)) = F.to_ by omega]
        rfl
      · simp only [List.map_cons, putScan]
        rw [if_neg (by omega), if_neg (by rw [hval]; exact hz)]
        exact ih2
    · rw [getS_bad ha hs] at h
      exact absurd h (stepG_bad hs)
  · rw [getS_end ha]
    exact ⟨by rw [List.drop_eq_nil_of_le (by omega)]; rfl, rfl⟩
termination_by bs.length - a
theorem itemsS_form (bs : List Nat) (h256 : ∀ x ∈ bs, x < 256) (a : Nat) (h : (itemsS bs a).2.2 = 0) : bs.drop a = listAll ((itemsS bs a).1.map (GF.val bs)) := by
  by_cases ha : a < bs.length
  · rcases hs : pieceS bs a with ⟨f, t⟩ | ⟨p, e⟩
    · have hok := pieceS_ok hs
      have h2 : a < t := by omega
      rw [itemsS_one ha hs h2] at h ⊢
      have ih := itemsS_form bs h256 t h
      have hform := pieceS_form hs h256
      have hval : (GF.val bs ⟨0, 0, f, t⟩).length = t - f := GF.val_len (F := ⟨0, 0, f, t⟩) hok.2.2
      simp only [List.map_cons, listAll, List.flatMap_cons]
      rw [show ((itemsS bs t).1.map (GF.val bs)).flatMap (fun x => short x.length ++ x) = bs.drop t from ih.symm, hval]
      have e1 : bs.drop a = (bs.drop a).take (t - a) ++ (bs.drop a).drop (t - a) := (List.take_append_drop _ _).symm
      rw [e1, hform, List.drop_drop, show a + (t - a) = t by omega]
      rfl
    · rw [itemsS_bad ha hs] at h
      exact absurd h (pieceS_bad hs).1
  · rw [itemsS_end ha]
    rw [List.drop_eq_nil_of_le (by omega)]; rfl
termination_by bs.length - a
theorem getAll_form {bs : List Nat} (h256 : ∀ x ∈ bs, x < 256) (h : (getAll bs).2.2 = 0) : putAll ((getAll bs).1.map fun F => ((F.tag : Int), F.val bs)) = bs ∧ putErr ((getAll bs).1.map fun F => ((F.tag : Int), F.val bs)) = 0 ∧ putBytes ((getAll bs).1.map fun F => ((F.tag : Int), F.val bs)) = bs := by
  have hsm := getAll_small h
  have e : getAll bs = getS bs 0 0 ∧ (getS bs 0 0).2.2 = 0 := by
    unfold getAll at h ⊢
    rw [if_neg (by omega)] at h ⊢
    split at h
    · rename_i h0; rw [if_pos h0]; exact ⟨rfl, h0⟩
    · rename_i h0; exact absurd h h0
  obtain ⟨h1, h2⟩ := getS_form bs h256 0 0 e.2
  rw [← e.1] at h1 h2
  have h1' : putAll ((getAll bs).1.map fun F => ((F.tag : Int), F.val bs)) = bs := by rw [← h1]; rfl
  have h3 : putErr ((getAll bs).1.map fun F => ((F.tag : Int), F.val bs)) = 0 := by
    unfold putErr
    rw [show putScan 0 _ = 0 from h2, h1', if_neg (by omega), if_neg (by omega)]
  exact ⟨h1', h3, by rw [putBytes, if_pos h3, h1']⟩
theorem itemsAll_form {bs : List Nat} (h256 : ∀ x ∈ bs, x < 256) (h : (itemsAll bs).2.2 = 0) : bs.length ≠ 0 ∧ listAll ((itemsAll bs).1.map (GF.val bs)) = bs := by
  unfold itemsAll at h ⊢
  split at h
  · simp at h
  · rename_i h0
    rw [if_neg h0]
    split at h
    · rename_i h1
      rw [if_pos h1]
      exact ⟨h0, by have := itemsS_form bs h256 0 h1; simpa using this.symm⟩
    · rename_i h1; exact absurd h h1
end Go.Proofs.Ytlcjhbemgagchaa
end

section
/-
  What was written is read: short numbers, fields, items. No program in sight.
-/
namespace Go.Proofs.Ytlcjhbemgagchaa
set_option linter.unusedVariables false

theorem readF_of : ∀ (g k acc M : Nat) (rest : List Nat), g + k = 10 → 1 ≤ g → (0 < k → 0 < M) → M * 128 ^ k < U64 → readF g k acc (short M ++ rest) = (acc + M * 128 ^ k, k + (short M).length, 0)
  | 0, _, _, _, _, _, h, _, _ => by omega
  | g + 1, k, acc, M, rest, hg, _, hM, hU => by
    have h9 : (128 : Nat) ^ 9 = 9223372036854775808 := rfl
    have hk9 : k = 9 → M < 2 := fun e => by
      subst e; unfold U64 at hU; omega
    by_cases hs : M < 128
    · rw [short_small hs]
      show readF (g + 1) k acc (M :: rest) = _
      rw [readF_last _ _ _ _ _ (fun h => by have := hk9 h.1; omega) hs (fun h => by have := hM h.1; omega), Nat.mod_eq_of_lt hs]
      rfl
    · rw [short_big hs]
      show readF (g + 1) k acc ((M % 128 + 128) :: (short (M / 128) ++ rest)) = _
      have hk8 : k ≠ 9 := fun e => by have := hk9 e; omega
      have e1 : (M % 128 + 128) % 128 = M % 128 := by omega
      have e2 : M / 128 * 128 ^ (k + 1) = M / 128 * 128 * 128 ^ k := by rw [Nat.pow_succ, Nat.mul_comm (128 ^ k) 128, Nat.mul_assoc]
      have e3 : M % 128 * 128 ^ k + M / 128 * 128 * 128 ^ k = M * 128 ^ k := by rw [← Nat.add_mul]; congr 1; omega
      rw [readF_on _ _ _ _ _ (fun h => hk8 h.1) (by omega), e1, readF_of g (k + 1) _ (M / 128) rest (by omega) (by omega) (fun _ => by omega) (by rw [e2]; omega), e2]
      simp only [Prod.mk.injEq, List.length_cons]
      exact ⟨by omega, by omega, trivial⟩
theorem readShort_of (pre rest : List Nat) {N : Nat} (h : N < U64) : readShort (pre ++ (short N ++ rest)) (pre.length : Int) = (N, (pre.length : Int) + (short N).length, 0) := by
  have h1 : readF 10 0 0 (short N ++ rest) = (N, (short N).length, 0) := by
    rw [readF_of 10 0 0 N rest rfl (by omega) (fun h => by omega) (by simpa using h)]; simp
  rw [readShort, if_neg (by rw [List.length_append]; omega)]
  simp only [Int.toNat_natCast, List.drop_left]
  rw [h1]
  simp
theorem pieceS_of (pre rest v : List Nat) (h : v.length < U64) : pieceS (pre ++ (short v.length ++ (v ++ rest))) pre.length = .inl (pre.length + (short v.length).length, pre.length + (short v.length).length + v.length) := by
  unfold pieceS
  rw [readShort_of pre (v ++ rest) h]
  simp only
  have e : ((pre.length : Int) + ((short v.length).length : Int)).toNat = pre.length + (short v.length).length := by omega
  rw [if_neg (by simp), e, if_neg (by simp only [List.length_append]; omega)]
theorem getS_of : ∀ (fs : List (Int × List Nat)) (pre : List Nat) (last : Nat), putScan (last : Int) fs = 0 → (∀ f ∈ fs, f.2.length < U64) →
    (getS (pre ++ putAll fs) pre.length last).2 = (0, 0) ∧ (getS (pre ++ putAll fs) pre.length last).1.map (fun F => ((F.tag : Int), F.val (pre ++ putAll fs))) = fs
  | [], pre, last, _, _ => by
    rw [getS_end (by simp [putAll])]; exact ⟨rfl, rfl⟩
  | (t, v) :: r, pre, last, h, hU => by
    rw [putScan] at h
    split at h
    · simp at h
    · rename_i ht
      split at h
      · simp at h
      · rename_i hv
        obtain ⟨tn, rfl⟩ : ∃ tn : Nat, t = (tn : Int) := ⟨t.toNat, by omega⟩
        have hvU : v.length < U64 := hU _ (List.mem_cons_self ..)
        have e0 : putAll (((tn : Int), v) :: r) = tn :: (short v.length ++ (v ++ putAll r)) := by simp [putAll, formF]
        rw [e0]
        obtain ⟨bs, hbs⟩ : ∃ bs, pre ++ tn :: (short v.length ++ (v ++ putAll r)) = bs := ⟨_, rfl⟩
        have e1 : bs = (pre ++ [tn]) ++ (short v.length ++ (v ++ putAll r)) := by rw [← hbs]; simp
        have e2 : bs = ((pre ++ [tn]) ++ short v.length ++ v) ++ putAll r := by rw [← hbs]; simp
        have hp := pieceS_of (pre ++ [tn]) (putAll r) v hvU
        rw [← e1] at hp
        have hl1 : (pre ++ [tn]).length = pre.length + 1 := by simp
        rw [hl1] at hp
        have hg : bs.getD pre.length 0 = tn := by rw [← hbs, List.getD_eq_getElem?_getD]; simp
        have hlt : pre.length < bs.length := by rw [← hbs]; simp
        have hs := stepG_one (bs := bs) (a := pre.length) (last := last) (by rw [hg]; omega) hp (by omega)
        rw [hg] at hs
        rw [hbs]
        have hto : pre.length < (GF.mk tn pre.length (pre.length + 1 + (short v.length).length) (pre.length + 1 + (short v.length).length + v.length)).to_ := by simp only; omega
        rw [getS_one hlt hs hto]
        obtain ⟨i1, i2⟩ := getS_of r ((pre ++ [tn]) ++ short v.length ++ v) tn h (fun f hf => hU f (List.mem_cons_of_mem _ hf))
        rw [← e2] at i1 i2
        have hl2 : ((pre ++ [tn]) ++ short v.length ++ v).length = pre.length + 1 + (short v.length).length + v.length := by simp only [List.length_append, List.length_cons, List.length_nil]
        rw [hl2] at i1 i2
        refine ⟨i1, ?_⟩
        simp only [List.map_cons, List.cons.injEq, Prod.mk.injEq, true_and]
        refine ⟨?_, i2⟩
        have hl3 : ((pre ++ [tn]) ++ short v.length).length = pre.length + 1 + (short v.length).length := by simp only [List.length_append, List.length_cons, List.length_nil]
        rw [GF.val]
        simp only
        rw [e2, List.append_assoc ((pre ++ [tn]) ++ short v.length), ← hl3, List.drop_left, show ((pre ++ [tn]) ++ short v.length).length + v.length - ((pre ++ [tn]) ++ short v.length).length = v.length by omega, List.take_left]
theorem getAll_of {fs : List (Int × List Nat)} (h : putErr fs = 0) (hU : ∀ f ∈ fs, f.2.length < U64) : (getAll (putAll fs)).2 = (0, 0) ∧ (getAll (putAll fs)).1.map (fun F => ((F.tag : Int), F.val (putAll fs))) = fs := by
  unfold putErr at h
  split at h
  · rename_i h1; exact absurd h h1
  · rename_i h1
    split at h
    · simp at h
    · rename_i h2
      have h3 : putScan ((0 : Nat) : Int) fs = 0 := Decidable.not_not.1 h1
      have := getS_of fs [] 0 h3 hU
      simp only [List.nil_append, List.length_nil] at this
      unfold getAll
      rw [if_neg h2, if_pos (by rw [this.1])]
      exact this
theorem itemsS_of : ∀ (xss : List (List Nat)) (pre : List Nat), (∀ x ∈ xss, x.length < U64) →
    (itemsS (pre ++ listAll xss) pre.length).2 = (0, 0) ∧ (itemsS (pre ++ listAll xss) pre.length).1.map (GF.val (pre ++ listAll xss)) = xss
  | [], pre, _ => by rw [itemsS_end (by simp [listAll])]; exact ⟨rfl, rfl⟩
  | v :: r, pre, hU => by
    have hvU : v.length < U64 := hU _ (List.mem_cons_self ..)
    have e0 : listAll (v :: r) = short v.length ++ (v ++ listAll r) := by simp [listAll]
    rw [e0]
    obtain ⟨bs, hbs⟩ : ∃ bs, pre ++ (short v.length ++ (v ++ listAll r)) = bs := ⟨_, rfl⟩
    have e2 : bs = (pre ++ short v.length ++ v) ++ listAll r := by rw [← hbs]; simp
    have hp := pieceS_of pre (listAll r) v hvU
    rw [hbs] at hp ⊢
    have hsl := (short_le hvU).1
    have hlt : pre.length < bs.length := by rw [← hbs]; simp only [List.length_append]; omega
    rw [itemsS_one hlt hp (by omega)]
    obtain ⟨i1, i2⟩ := itemsS_of r (pre ++ short v.length ++ v) (fun f hf => hU f (List.mem_cons_of_mem _ hf))
    rw [← e2] at i1 i2
    have hl2 : (pre ++ short v.length ++ v).length = pre.length + (short v.length).length + v.length := by simp only [List.length_append]
    rw [hl2] at i1 i2
    refine ⟨i1, ?_⟩
    simp only [List.map_cons, List.cons.injEq]
    refine ⟨?_, i2⟩
    have hl3 : (pre ++ short v.length).length = pre.length + (short v.length).length := by simp only [List.length_append]
    rw [GF.val]
    simp only
    rw [e2, List.append_assoc (pre ++ short v.length), ← hl3, List.drop_left, show (pre ++ short v.length).length + v.length - (pre ++ short v.length).length = v.length by omega, List.take_left]
theorem itemsAll_of {xss : List (List Nat)} (h : xss ≠ []) (hU : ∀ x ∈ xss, x.length < U64) : (itemsAll (listAll xss)).2 = (0, 0) ∧ (itemsAll (listAll xss)).1.map (GF.val (listAll xss)) = xss := by
  have := itemsS_of xss [] hU
  simp only [List.nil_append, List.length_nil] at this
  have hl : ¬ (listAll xss).length = 0 := by
    cases xss with
    | nil => exact absurd rfl h
    | cons v r =>
      have hsl := (short_le (hU v (List.mem_cons_self ..))).1
      simp only [listAll, List.flatMap_cons, List.length_append]; omega
  unfold itemsAll
  rw [if_neg hl, if_pos (by rw [this.1])]
  exact this
theorem readShort_one {N : Nat} (h : N < U64) : readShort (7 :: short N) 1 = (N, (1 : Int) + ((short N).length : Int), (0 : Int)) := by
  have := readShort_of [7] [] h
  simpa using this
end Go.Proofs.Ytlcjhbemgagchaa
end

section
/-
  Items of both.
-/
namespace Go.Proofs.Ytlcjhbemgagchaa
open Go.RowKit
set_option linter.unusedVariables false
attribute [local go_sem ↓] Go.wp_at_zero Go.wp_at_succ

/-- The items that were told. -/
structure Told (bs : List Nat) (w w' : World) (rs : List BS) (A : Option Addr) (k c : Nat) (g : Option Nat) : Prop where
  eq : rs.map (·.xs) = (itemsAll bs).1.map (GF.val bs)
  ow : Ow w' 22 1 A k c (rs.map BS.cell) g
  new : ∀ b, g = some b → w.heap.size ≤ b
  own : BSs w' 0 w.heap.size rs
  fr : Fr (fun _ => False) w w'
theorem Told.len {bs : List Nat} {w w' : World} {rs : List BS} {A : Option Addr} {k c : Nat} {g : Option Nat} (h : Told bs w w' rs A k c g) : k = (itemsAll bs).1.length := by
  have h1 := h.ow.1
  have h2 := congrArg List.length h.eq
  simp at h1 h2; omega
theorem Told.none_ {bs : List Nat} {w w' : World} (h : (itemsAll bs).1 = []) (hf : Fr (fun _ => False) w w') : Told bs w w' [] none 0 0 none := ⟨by rw [h]; rfl, Ow.nil_ _ _ _, (fun b h => by cases h), BSs.nil_ _ _ _, hf⟩

set_option maxHeartbeats 1000000 in
set_option maxRecDepth 4000 in
theorem clipB_any (w : World) (A : Option Addr) (n c : Nat) (hn : n ≤ c) (hc : c ≤ 9223372036854775807) :
    Calls Try.prog 137 #[.slice A n c] w fun e w' => e = .returned (.slice A n n) ∧ w = w' := by
  have h1 : (n : Int) ≤ c := by omega
  go_enter Try.func137, Try.ntmps137
  go_wp2
  all_goals
    go_ret
    exact ⟨rfl, rfl⟩

/-- Behind the reference's Items. -/
def RItems (xs : List Nat) (w : World) (e : Ending) (w' : World) : Prop :=
  ∃ rs D k d g E d2 g2, e = .returned (.tuple #[.slice D k d, .slice E k d2, .int .i64 ((itemsAll xs).2.1 : Int), .int .i64 (itemsAll xs).2.2]) ∧ Told xs w w' rs D k d g ∧
      Ow w' 3 1 E k d2 ((itemsAll xs).1.map fun F => .int .i64 F.from_) g2 ∧ (∀ b, g2 = some b → w.heap.size ≤ b)
theorem RItems.bad {xs : List Nat} {w w' : World} {p : Nat} {er : Int} (h : itemsAll xs = ([], p, er)) (hf : Fr (fun _ => False) w w') : RItems xs w (.returned (.tuple #[.slice none 0 0, .slice none 0 0, .int .i64 (p : Int), .int .i64 er])) w' :=
  ⟨[], none, 0, 0, none, none, 0, none, by rw [h], Told.none_ (by rw [h]) hf, by rw [h]; exact Ow.nil_ _ _ _, fun b e => by cases e⟩

set_option maxHeartbeats 4000000 in
set_option maxRecDepth 100000 in
theorem ritems_any (w : World) (xs : List Nat) (A : Option Addr) (n c : Nat) (hn : n ≤ 1099511627776) (hc : n ≤ c) (hc2 : c ≤ 9223372036854775807) (hl : n = xs.length) (h256 : ∀ x ∈ xs, x < 256) (hA : Sl w 1 A n (xs.map bn)) :
    Calls Try.prog 120 #[.slice A n c] w (RItems xs w) := by
  obtain ⟨bi, bj, bj0, bj1, bj2⟩ := info_parts infoB
  obtain ⟨ni, nj, nj0, nj1, nj2⟩ := info_parts infoI
  have Hl := hide hl
  clear hl
  by_cases h0 : n = 0
  · subst h0
    have hg : Hid (itemsAll xs = ([], 0, 20)) := by show _ = _; rw [itemsAll, if_pos Hl.out.symm]
    go_enter Try.func120, Try.ntmps120
    go_wp2_with fail
    ((try simp only [Exit.inBlock, Exit.then]); refine bodyPost_ret (results_tmp4 rfl _ _ _) rfl ?_)
    exact RItems.bad (p := 0) (er := 20) hg.out (Fr.refl _ _)
  have Hne : Hid (¬ xs.length = 0) := by show ¬ _; rw [← Hl.out]; exact h0
  have h1 : ((n : Int) == 0) = false := by simp; omega
  obtain ⟨b, o, rfl, _⟩ := hA.2 (by omega)
  go_enter Try.func120, Try.ntmps120
  go_wp2_with fail
  go_loopw [6, 7, 8] (fun u v i wr => ∃ (a : Nat) (rs : List BS) (Fs : List GF) (L E : Option Addr) (k cl ce : Nat) (g ge : Option Nat), u = .slice L k cl ∧ v = .slice E k ce ∧ i = .int .i64 (a : Int) ∧ a ≤ n ∧ k ≤ a ∧
    Hid (itemsS xs 0 = (Fs ++ (itemsS xs a).1, (itemsS xs a).2)) ∧ Hid (rs.map (·.xs) = Fs.map (GF.val xs)) ∧ Ow wr 22 1 L k cl (rs.map BS.cell) g ∧ Ow wr 3 1 E k ce (Fs.map fun F => .int .i64 F.from_) ge ∧ (∀ b, g = some b → w.heap.size ≤ b) ∧ (∀ b, ge = some b → w.heap.size ≤ b) ∧ BSs wr 0 w.heap.size rs ∧ Fr (fun _ => False) w wr) (fun _ _ i _ => n - (intOf i).toNat)
  case atStart => exact ⟨0, [], [], none, none, 0, 0, 0, none, none, rfl, rfl, rfl, by omega, by omega, by show _ = _; simp, rfl, Ow.nil_ _ _ _, Ow.nil_ _ _ _, (fun b h => by cases h), (fun b h => by cases h), BSs.nil_ _ _ _, Fr.refl _ _⟩
  case round =>
    obtain ⟨a, rs, Fs, L, E, k, cl, ce, g, ge, rfl, rfl, rfl, ha, hka, hG, hrs, hO, hE, hg, hge, hR, hf⟩ := hrel
    by_cases hlt : a < n
    · have hal : a < xs.length := by rw [← Hl.out]; exact hlt
      have hS := hA.below hf (fun _ _ => id)
      obtain ⟨N, hN⟩ : ∃ N, (readShort xs (a : Int)).1 = N := ⟨_, rfl⟩
      obtain ⟨T, hT⟩ : ∃ T, (readShort xs (a : Int)).2.1 = T := ⟨_, rfl⟩
      obtain ⟨Er, hEr⟩ : ∃ E, (readShort xs (a : Int)).2.2 = E := ⟨_, rfl⟩
      have hr : readShort xs (a : Int) = (N, T, Er) := by rw [← hN, ← hT, ← hEr]
      have hv : Hid (ReadVal xs (a : Int) = .tuple #[.int .u64 (N : Int), .int .i64 T, .int .i64 Er]) := by
        show _ = _
        rw [ReadVal, hr]
      have hp0 : Hid (pieceS xs a = if Er ≠ 0 then .inr (a, Er) else if xs.length - T.toNat < N then .inr (T.toNat, 22) else .inl (T.toNat, T.toNat + N)) := by
        show _ = _; rw [pieceS, hr]
      clear hN hT hEr
      by_cases hE0 : Er = 0
      · subst hE0
        obtain ⟨h1', h2⟩ := readShort_ok hr
        rw [← Hl.out] at h2
        obtain ⟨t, rfl⟩ : ∃ t : Nat, T = (t : Int) := ⟨T.toNat, by omega⟩
        have hp : Hid (pieceS xs a = if n - t < N then .inr (t, 22) else .inl (t, t + N)) := by
          show _ = _; rw [hp0.out, Hl.out]; rfl
        clear hr hp0
        have w3 : IntKind.i64.wrap ((n : Int) - t) = (n : Int) - t := IntWalk.i64_in _ (by omega)
        have w4 : IntKind.u64.wrap ((n : Int) - t) = (n : Int) - t := IntWalk.u64_in _ (by omega)
        by_cases hb : n - t < N
        · have hb' : (n : Int) - t < N := by omega
          have he := hide (itemsAll_bad Hne.out ((hG.out.trans (by rw [itemsS_bad hal (hp.out.trans (if_pos hb))])) : itemsS xs 0 = (_, t, 22)) (by omega))
          clear hp hb
          go_wp2_with fail
          refine (rread_any _ xs _ n c _ (by omega) Hl.out h256 hS).mono ?_
          rintro e w' ⟨rfl, rfl⟩
          rw [hv.out]
          go_wp2_with fail
          ((try simp only [Exit.inBlock, Exit.then]); refine bodyPost_ret (results_tmp4 rfl _ _ _) rfl ?_)
          exact RItems.bad he.out hf
        · have hb' : ¬ (n : Int) - t < N := by omega
          have hstep : Hid (itemsS xs a = (⟨0, 0, t, t + N⟩ :: (itemsS xs (t + N)).1, (itemsS xs (t + N)).2)) := itemsS_one hal (hp.out.trans (if_neg hb)) (by omega)
          have w5 : IntKind.i64.wrap (N : Int) = (N : Int) := IntWalk.i64_in _ (by omega)
          have w6 : IntKind.i64.wrap ((t : Int) + N) = (t : Int) + N := IntWalk.i64_in _ (by omega)
          have k0 : (0 : Int) ≤ t := by omega
          have k1 : (t : Int) ≤ (t : Int) + N := by omega
          have k2 : (t : Int) + N ≤ c := by omega
          clear hp
          have hct : t = c ∨ ¬ c = t := by omega
          rcases hct with hct | hct
          · subst hct
            have hval : Sl wr 1 (some ⟨b, o, none⟩) 0 ((GF.val xs ⟨0, 0, t, t + N⟩).map bn) := by
              have h9 := Hl.out
              refine ⟨?_, fun h => by omega⟩
              rw [List.length_map, GF.val_len (by show t + N ≤ xs.length; omega)]
              show t + N - t = 0 * 1
              omega
            go_wp2_with fail
            refine (rread_any _ xs _ n _ _ (by omega) Hl.out h256 hS).mono ?_
            rintro e w' ⟨rfl, rfl⟩
            rw [hv.out]
            go_wp2_with fail
            have f4 : t + N ≤ n := by omega
            refine (copied_any _ (GF.val xs ⟨0, 0, t, t + N⟩) _ 0 _ (by omega) hval).mono ?_
            rintro e w2 ⟨A2, c2, g2, rfl, hO2, hg2, hf2⟩
            have hL2 := hO.fr hf2 (fun _ _ => id)
            have hE2 := hE.fr hf2 (fun _ _ => id)
            go_wp2_with (first | (at_builtin; refine wpList_append_ow _ rfl _ _ 82 rfl 22 bi (.slice none 0 0) 1 24 Try.underlying82 bj bj0 bj1 bj2 rfl (by decide) _ _ _ _ _ rfl (hL2.fr ((Fr.refl (fun _ => False) _).alloc _) (fun _ _ => id)) _ _ _ [.slice A2 0 c2] rfl (Sl.one _ _ _) (by intro u hu; simp at hu; subst hu; rfl) (by unfold maxLen; omega) (by omega) ?_) | go_in)
            intro L3 cl3 w3' g3 hO3 hf3 hg3
            have hf23 : Fr (fun y => some y = g) w2 w3' := ((Fr.refl _ _).alloc _).comp hf3 (fun _ _ e => e)
            have hE3 := hE2.fr hf23 (fun x e1 e2 => by rw [← e2] at hL2; rw [e1] at hE2; exact Ow.ne hL2 hE2 (by decide) rfl)
            go_wp2_with (first | (at_builtin; refine wpList_append_ow _ rfl _ _ 24 rfl 3 ni (.int .i64 0) 1 8 Try.underlying24 nj nj0 nj1 nj2 rfl (by decide) _ _ _ _ _ rfl (hE3.fr ((Fr.refl (fun _ => False) _).alloc _) (fun _ _ => id)) _ _ _ [.int .i64 t] rfl (Sl.one _ _ _) (by intro u hu; simp at hu; subst hu; rfl) (by unfold maxLen; omega) (by omega) ?_) | go_in)
            intro E4 ce4 w4' g4 hE4 hf4 hg4
            have hf34 : Fr (fun y => some y = ge) w3' w4' := ((Fr.refl _ _).alloc _).comp hf4 (fun _ _ e => e)
            have s0 := hf.size
            have s2 := hf2.size
            have s3 := hf23.size
            have hf24 : Fr (fun y => some y = g ∨ some y = ge) w2 w4' := (hf23.mono fun _ _ e => .inl e).trans (hf34.mono fun _ _ e => .inr e)
            have hO4 := hO3.fr hf34 (fun x e1 e2 => by rw [← e2] at hE3; rw [e1] at hO3; exact Ow.ne hO3 hE3 (by decide) rfl)
            go_wp2_with fail
            refine ⟨⟨t + N, rs ++ [⟨GF.val xs ⟨0, 0, t, t + N⟩, A2, 0, c2, g2⟩], Fs ++ [⟨0, 0, t, t + N⟩], L3, E4, k + 1, cl3, ce4, g3, g4, rfl, rfl, by simp, f4, by omega, ?_, ?_, ?_, ?_, fresh_app hg (by first | omega | (simp; omega)) hg3, fresh_app hge (by first | omega | (simp; omega)) hg4, ?_, ?_⟩, by simp [intOf]; omega⟩
            · show _ = _
              rw [hG.out, hstep.out]; simp
            · show _ = _
              rw [List.map_append, List.map_append, hrs.out]; rfl
            · rw [List.map_append]; exact hO4
            · rw [List.map_append]; exact hE4
            · have hL3 : Ow w4' 5 1 A2 (0 + 0) c2 ((GF.val xs ⟨0, 0, t, t + N⟩ ++ marks 0).map bn) g2 := by
                have : GF.val xs ⟨0, 0, t, t + N⟩ ++ marks 0 = GF.val xs ⟨0, 0, t, t + N⟩ := by simp [marks]
                rw [this]
                exact hO2.fr hf24 fun x e1 e2 => by
                  rw [e1] at hO2
                  rcases e2 with e2 | e2
                  · rw [← e2] at hL2
                    exact Ow.ne hL2 hO2 (by decide) rfl
                  · rw [← e2] at hE2
                    exact Ow.ne hE2 hO2 (by decide) rfl
              exact BSs.add (S := fun y => some y = g ∨ some y = ge) hR ((hf2.weak _).trans hf24) (fun r hr x e1 e2 => by
                rcases e2 with e2 | e2
                · exact hR.apart hO (by decide) r hr x e1 e2
                · exact hR.apart hE (by decide) r hr x e1 e2) (r := ⟨GF.val xs ⟨0, 0, t, t + N⟩, A2, 0, c2, g2⟩) hL3 hg2 s0
            · exact (hf.trans hf2).comp hf24 fun x hx e => by
                rcases e with e | e
                · have := hg x e.symm; omega
                · have := hge x e.symm; omega
          · have hval : Sl wr 1 (some ⟨b, o + t, none⟩) N ((GF.val xs ⟨0, 0, t, t + N⟩).map bn) := by
              have hval := hS.part (f := t) (t := t + N) (by omega) (by omega)
              have hFl : t + N - t = N := Nat.add_sub_cancel_left _ _
              rw [← List.map_drop, ← List.map_take, hFl] at hval
              rw [GF.val, hFl]; exact hval
            go_wp2_with fail
            refine (rread_any _ xs _ n _ _ (by omega) Hl.out h256 hS).mono ?_
            rintro e w' ⟨rfl, rfl⟩
            rw [hv.out]
            go_wp2_with fail
            have f4 : t + N ≤ n := by omega
            refine (copied_any _ (GF.val xs ⟨0, 0, t, t + N⟩) _ N _ (by omega) hval).mono ?_
            rintro e w2 ⟨A2, c2, g2, rfl, hO2, hg2, hf2⟩
            have hL2 := hO.fr hf2 (fun _ _ => id)
            have hE2 := hE.fr hf2 (fun _ _ => id)
            go_wp2_with (first | (at_builtin; refine wpList_append_ow _ rfl _ _ 82 rfl 22 bi (.slice none 0 0) 1 24 Try.underlying82 bj bj0 bj1 bj2 rfl (by decide) _ _ _ _ _ rfl (hL2.fr ((Fr.refl (fun _ => False) _).alloc _) (fun _ _ => id)) _ _ _ [.slice A2 N c2] rfl (Sl.one _ _ _) (by intro u hu; simp at hu; subst hu; rfl) (by unfold maxLen; omega) (by omega) ?_) | go_in)
            intro L3 cl3 w3' g3 hO3 hf3 hg3
            have hf23 : Fr (fun y => some y = g) w2 w3' := ((Fr.refl _ _).alloc _).comp hf3 (fun _ _ e => e)
            have hE3 := hE2.fr hf23 (fun x e1 e2 => by rw [← e2] at hL2; rw [e1] at hE2; exact Ow.ne hL2 hE2 (by decide) rfl)
            go_wp2_with (first | (at_builtin; refine wpList_append_ow _ rfl _ _ 24 rfl 3 ni (.int .i64 0) 1 8 Try.underlying24 nj nj0 nj1 nj2 rfl (by decide) _ _ _ _ _ rfl (hE3.fr ((Fr.refl (fun _ => False) _).alloc _) (fun _ _ => id)) _ _ _ [.int .i64 t] rfl (Sl.one _ _ _) (by intro u hu; simp at hu; subst hu; rfl) (by unfold maxLen; omega) (by omega) ?_) | go_in)
            intro E4 ce4 w4' g4 hE4 hf4 hg4
            have hf34 : Fr (fun y => some y = ge) w3' w4' := ((Fr.refl _ _).alloc _).comp hf4 (fun _ _ e => e)
            have s0 := hf.size
            have s2 := hf2.size
            have s3 := hf23.size
            have hf24 : Fr (fun y => some y = g ∨ some y = ge) w2 w4' := (hf23.mono fun _ _ e => .inl e).trans (hf34.mono fun _ _ e => .inr e)
            have hO4 := hO3.fr hf34 (fun x e1 e2 => by rw [← e2] at hE3; rw [e1] at hO3; exact Ow.ne hO3 hE3 (by decide) rfl)
            go_wp2_with fail
            refine ⟨⟨t + N, rs ++ [⟨GF.val xs ⟨0, 0, t, t + N⟩, A2, N, c2, g2⟩], Fs ++ [⟨0, 0, t, t + N⟩], L3, E4, k + 1, cl3, ce4, g3, g4, rfl, rfl, by simp, f4, by omega, ?_, ?_, ?_, ?_, fresh_app hg (by first | omega | (simp; omega)) hg3, fresh_app hge (by first | omega | (simp; omega)) hg4, ?_, ?_⟩, by simp [intOf]; omega⟩
            · show _ = _
              rw [hG.out, hstep.out]; simp
            · show _ = _
              rw [List.map_append, List.map_append, hrs.out]; rfl
            · rw [List.map_append]; exact hO4
            · rw [List.map_append]; exact hE4
            · have hL3 : Ow w4' 5 1 A2 (N + 0) c2 ((GF.val xs ⟨0, 0, t, t + N⟩ ++ marks 0).map bn) g2 := by
                have : GF.val xs ⟨0, 0, t, t + N⟩ ++ marks 0 = GF.val xs ⟨0, 0, t, t + N⟩ := by simp [marks]
                rw [this]
                exact hO2.fr hf24 fun x e1 e2 => by
                  rw [e1] at hO2
                  rcases e2 with e2 | e2
                  · rw [← e2] at hL2
                    exact Ow.ne hL2 hO2 (by decide) rfl
                  · rw [← e2] at hE2
                    exact Ow.ne hE2 hO2 (by decide) rfl
              exact BSs.add (S := fun y => some y = g ∨ some y = ge) hR ((hf2.weak _).trans hf24) (fun r hr x e1 e2 => by
                rcases e2 with e2 | e2
                · exact hR.apart hO (by decide) r hr x e1 e2
                · exact hR.apart hE (by decide) r hr x e1 e2) (r := ⟨GF.val xs ⟨0, 0, t, t + N⟩, A2, N, c2, g2⟩) hL3 hg2 s0
            · exact (hf.trans hf2).comp hf24 fun x hx e => by
                rcases e with e | e
                · have := hg x e.symm; omega
                · have := hge x e.symm; omega
      · have he := hide (itemsAll_bad Hne.out ((hG.out.trans (by rw [itemsS_bad hal (hp0.out.trans (if_pos hE0))])) : itemsS xs 0 = (_, a, Er)) hE0)
        clear hp0 hr
        go_wp2_with fail
        refine (rread_any _ xs _ n c _ (by omega) Hl.out h256 hS).mono ?_
        rintro e w' ⟨rfl, rfl⟩
        rw [hv.out]
        go_wp2_with fail
        ((try simp only [Exit.inBlock, Exit.then]); refine bodyPost_ret (results_tmp4 rfl _ _ _) rfl ?_)
        exact RItems.bad he.out hf
    · obtain rfl : a = n := by omega
      have he := hide (itemsAll_ok Hne.out ((hG.out.trans (by rw [itemsS_end (by rw [← Hl.out]; omega), List.append_nil])) : itemsS xs 0 = (_, 0, 0)))
      clear hlt
      go_wp2_with fail
      ((try simp only [Exit.inBlock, Exit.then]); refine bodyPost_ret (results_tmp4 rfl _ _ _) rfl ?_)
      exact ⟨rs, L, k, cl, g, E, ce, ge, by rw [he.out]; rfl, ⟨by rw [he.out]; exact hrs.out, hO, hg, hR, hf⟩, by rw [he.out]; exact hE, hge⟩
end Go.Proofs.Ytlcjhbemgagchaa
end
