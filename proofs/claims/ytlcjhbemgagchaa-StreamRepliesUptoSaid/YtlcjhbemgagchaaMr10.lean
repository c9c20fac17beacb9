/-
  Texts merged into one, to keep the claim small: TlvRSpec, TlvPlain, TlvT1.
-/
import Derived.Test.YtlcjhbemgagchaaMr9
import Derived.Test.YtlcjhbemgagchaaMr4
import Derived.Test.YtlcjhbemgagchaaMr7
section
/-
  Readers in plain lists: the fault, a reader, what each call answers.
-/
namespace Go.Proofs.Ytlcjhbemgagchaa
set_option linter.unusedVariables false

structure RF where
  place : Int
  e : Int
def RF.wrong (f : RF) (at_ e : Int) : RF := if f.e = 0 then ⟨at_, e⟩ else f
theorem RF.wrong_no {f : RF} {a e : Int} (h : f.e ≠ 0) : f.wrong a e = f := if_neg h
theorem RF.wrong_yes {f : RF} {a e : Int} (h : f.e = 0) : f.wrong a e = ⟨a, e⟩ := if_pos h

structure RD where
  bs : List Nat
  base : Nat
  fs : List GF
  tk : List Bool
structure RD.ok (d : RD) : Prop where
  tk : d.tk.length = d.fs.length
  byte : ∀ x ∈ d.bs, x < 256
  le : d.base + d.bs.length ≤ 1048576
  at_ : ∀ F ∈ d.fs, F.from_ ≤ F.to_ ∧ F.to_ ≤ d.bs.length ∧ F.at_ ≤ d.bs.length
/-- Where the tag's field stands (the fields' number: there is none). -/
def tagAt (fs : List GF) (t : Int) : Nat := fs.findIdx fun F => decide ((F.tag : Int) = t)
theorem tagAt_lt {fs : List GF} {t : Int} {i : Nat} (h : i < tagAt fs t) (hi : i < fs.length) : ¬ ((fs[i].tag : Int) = t) := by
  have := List.not_of_lt_findIdx h
  simpa using this
theorem tagAt_is {fs : List GF} {t : Int} (h : tagAt fs t < fs.length) : ((fs[tagAt fs t]'h).tag : Int) = t := by
  have h1 : decide (((fs[tagAt fs t]'h).tag : Int) = t) = true := List.findIdx_getElem (w := h)
  exact of_decide_eq_true h1
theorem tagAt_first {fs : List GF} {t : Int} {k : Nat} (hk : k < fs.length) (h1 : ∀ i (hi : i < k), ¬ ((fs[i]'(by omega)).tag : Int) = t) (h2 : ((fs[k]'hk).tag : Int) = t) : tagAt fs t = k := by
  rcases Nat.lt_trichotomy (tagAt fs t) k with h | h | h
  · exact absurd (tagAt_is (by omega)) (h1 _ h)
  · exact h
  · exact absurd h2 (tagAt_lt h hk)
theorem tagAt_none {fs : List GF} {t : Int} (h : ∀ i (hi : i < fs.length), ¬ (fs[i].tag : Int) = t) : ¬ tagAt fs t < fs.length := fun hl => h _ hl (tagAt_is hl)

def RD.idx (d : RD) (f : RF) (t : Int) : Nat := if f.e ≠ 0 then d.fs.length else tagAt d.fs t
def RD.took (d : RD) (f : RF) (t : Int) : RD := { d with tk := d.tk.set (d.idx f t) true }
theorem RD.took_ok {d : RD} (h : d.ok) (f : RF) (t : Int) : (d.took f t).ok := ⟨by simp [RD.took, h.tk], h.byte, h.le, h.at_⟩
theorem RD.took_none {d : RD} (h : d.ok) {f : RF} {t : Int} (hn : ¬ d.idx f t < d.fs.length) : d.took f t = d := by
  unfold RD.took
  rw [List.set_eq_of_length_le (by rw [h.tk]; omega)]
theorem RD.took_fs (d : RD) (f : RF) (t : Int) : (d.took f t).fs = d.fs := rfl
theorem RD.took_bs (d : RD) (f : RF) (t : Int) : (d.took f t).bs = d.bs := rfl
theorem RD.took_base (d : RD) (f : RF) (t : Int) : (d.took f t).base = d.base := rfl

/-- The field that a call takes. -/
def RD.fld (d : RD) (f : RF) (t : Int) : Option GF := d.fs[d.idx f t]?
def numberS (d : RD) (f : RF) (t : Int) (above : Nat) : Nat × RF :=
  match d.fld f t with
  | none => (0, f)
  | some F =>
    let v := F.val d.bs
    let r := readShort v 0
    if r.2.2 ≠ 0 ∨ r.2.1 ≠ v.length ∨ r.1 = 0 then (0, f.wrong (d.base + F.from_) 20)
    else if above < r.1 then (0, f.wrong (d.base + F.from_) 3)
    else (r.1, f)
def rawS (d : RD) (f : RF) (t most : Int) : List Nat × RF :=
  match d.fld f t with
  | none => ([], f)
  | some F => if max most 0 < ((F.val d.bs).length : Int) then ([], f.wrong (d.base + F.from_) 3) else (F.val d.bs, f)
/-- The items of a field: their places within the record, too. -/
def itS (d : RD) (f : RF) (t most : Int) : Option GF × List GF × RF :=
  match d.fld f t with
  | none => (none, [], f)
  | some F =>
    let r := itemsAll (F.val d.bs)
    if r.2.2 ≠ 0 then (none, [], f.wrong (d.base + F.from_ + r.2.1) r.2.2)
    else if max most 0 < (r.1.length : Int) then (none, [], f.wrong (d.base + F.from_) 3)
    else (some F, r.1, f)
def RD.empty (base : Nat) : RD := ⟨[], base, [], []⟩
theorem RD.empty_ok {b : Nat} (h : b ≤ 1048576) : (RD.empty b).ok := ⟨rfl, (fun x h => by cases h), by simpa [RD.empty] using h, (fun F h => by cases h)⟩
/-- A reader of bytes that begin at a place. -/
def readS (f : RF) (base : Nat) (bs : List Nat) : RD × RF :=
  if f.e ≠ 0 then (RD.empty base, f)
  else
    let r := getAll bs
    if r.2.2 ≠ 0 then (RD.empty base, f.wrong (base + r.2.1) r.2.2)
    else (⟨bs, base, r.1, r.1.map fun _ => false⟩, f)
theorem getS_at (bs : List Nat) (a last : Nat) : ∀ F ∈ (getS bs a last).1, F.from_ ≤ F.to_ ∧ F.to_ ≤ bs.length ∧ F.at_ ≤ bs.length := by
  by_cases ha : a < bs.length
  · rcases hs : stepG bs a last with F | ⟨p, e⟩
    · by_cases h2 : a < F.to_
      · rw [getS_one ha hs h2]
        intro F' hF
        rcases List.mem_cons.1 hF with rfl | hF
        · unfold stepG at hs
          split at hs
          · cases hs
          · split at hs
            · cases hs
            · rename_i f t hp
              split at hs
              · cases hs
              · cases hs
                have := pieceS_ok hp
                exact ⟨this.2.1, this.2.2, by show a ≤ _; omega⟩
        · exact getS_at bs F.to_ F.tag F' hF
      · rw [getS, dif_pos ha, hs]; simp only [dif_neg h2]; simp
    · rw [getS_bad ha hs]; simp
  · rw [getS_end ha]; simp
termination_by bs.length - a
theorem getAll_at (bs : List Nat) : ∀ F ∈ (getAll bs).1, F.from_ ≤ F.to_ ∧ F.to_ ≤ bs.length ∧ F.at_ ≤ bs.length := by
  unfold getAll
  split
  · simp
  · split
    · exact getS_at bs 0 0
    · simp
theorem getAll_small {bs : List Nat} (h : (getAll bs).2.2 = 0) : bs.length ≤ 1048576 := by
  unfold getAll at h
  split at h
  · simp at h
  · omega
theorem readS_ok {f : RF} {base : Nat} {bs : List Nat} (hb : ∀ x ∈ bs, x < 256) (hl : base ≤ 1048576) (h2 : base = 0 ∨ base + bs.length ≤ 1048576) : (readS f base bs).1.ok := by
  unfold readS
  split
  · exact RD.empty_ok hl
  · simp only
    split
    · exact RD.empty_ok hl
    · rename_i h
      have h0 : (getAll bs).2.2 = 0 := by simpa using h
      have := getAll_small h0
      exact ⟨by simp, hb, by show base + bs.length ≤ _; omega, getAll_at bs⟩
/-- Readers of items, one behind the other. -/
def readersS (f : RF) (base : Nat) (v : List Nat) : List GF → List RD × RF
  | [] => ([], f)
  | F :: l =>
    let r := readS f (base + F.from_) (F.val v)
    let s := readersS r.2 base v l
    (r.1 :: s.1, s.2)
theorem readersS_snoc (f : RF) (base : Nat) (v : List Nat) (l : List GF) (F : GF) : readersS f base v (l ++ [F]) = ((readersS f base v l).1 ++ [(readS (readersS f base v l).2 (base + F.from_) (F.val v)).1], (readS (readersS f base v l).2 (base + F.from_) (F.val v)).2) := by
  induction l generalizing f with
  | nil => rfl
  | cons G l ih => simp only [List.cons_append, readersS, ih]
/-- The place of the first field that no call took. -/
def leftAt (fs : List GF) (tk : List Bool) : Nat := tk.findIdx fun b => !b
def endS (d : RD) (f : RF) : RF :=
  if f.e ≠ 0 then f else match d.fs[leftAt d.fs d.tk]? with
    | none => f
    | some F => f.wrong (d.base + F.at_) 20
def recordS (d : RD) (f : RF) (t : Int) : RD × RF :=
  match d.fld f t with
  | none => (RD.empty d.base, f)
  | some F => readS f (d.base + F.from_) (F.val d.bs)
def recordsS (d : RD) (f : RF) (t most : Int) : List RD × RF :=
  let r := itS d f t most
  match r.1 with
  | none => ([], r.2.2)
  | some F =>
    let s := readersS r.2.2 (d.base + F.from_) (F.val d.bs) r.2.1
    if 0 < s.1.length ∧ s.2.e ≠ 0 then ([], s.2) else s
theorem stepG_pl {bs : List Nat} {a last p : Nat} {e : Int} (ha : a < bs.length) (h : stepG bs a last = .inr (p, e)) : p ≤ bs.length := by
  unfold stepG at h
  split at h
  · cases h; omega
  · split at h
    · rename_i pe hp
      cases h
      have := (pieceS_bad hp).2; omega
    · split at h
      · cases h; omega
      · cases h
theorem getS_pl (bs : List Nat) (a last : Nat) : (getS bs a last).2.1 ≤ bs.length := by
  by_cases ha : a < bs.length
  · rcases hs : stepG bs a last with F | ⟨p, e⟩
    · by_cases h2 : a < F.to_
      · rw [getS_one ha hs h2]
        exact getS_pl bs F.to_ F.tag
      · rw [getS, dif_pos ha, hs]; simp only [dif_neg h2]; exact Nat.zero_le _
    · rw [getS_bad ha hs]; exact stepG_pl ha hs
  · rw [getS_end ha]; exact Nat.zero_le _
termination_by bs.length - a
theorem getAll_pl (bs : List Nat) : (getAll bs).2.1 ≤ bs.length := by
  unfold getAll
  split
  · simp
  · split
    · exact getS_pl bs 0 0
    · exact getS_pl bs 0 0
theorem itemsS_pl (bs : List Nat) (a : Nat) : (itemsS bs a).2.1 ≤ bs.length := by
  by_cases ha : a < bs.length
  · rcases hs : pieceS bs a with ⟨f, t⟩ | ⟨p, e⟩
    · by_cases h2 : a < t
      · rw [itemsS_one ha hs h2]
        exact itemsS_pl bs t
      · rw [itemsS, dif_pos ha, hs]; simp only [dif_neg h2]; exact Nat.zero_le _
    · rw [itemsS_bad ha hs]
      have := (pieceS_bad hs).2
      show p ≤ _; omega
  · rw [itemsS_end ha]; exact Nat.zero_le _
termination_by bs.length - a
theorem itemsAll_pl (bs : List Nat) : (itemsAll bs).2.1 ≤ bs.length := by
  unfold itemsAll
  split
  · simp
  · split
    · exact itemsS_pl bs 0
    · exact itemsS_pl bs 0
theorem fld_mem {d : RD} {f : RF} {t : Int} {F : GF} (h : d.fld f t = some F) : F ∈ d.fs := List.mem_of_getElem? h
end Go.Proofs.Ytlcjhbemgagchaa
end

section
/-
  What is read was written so: short numbers, pieces, fields, items.
-/
namespace Go.Proofs.Ytlcjhbemgagchaa
set_option linter.unusedVariables false

theorem readF_short : ∀ (f k n : Nat) (l : List Nat) (N k' : Nat), readF f k n l = (N, k', 0) → (∀ x ∈ l, x < 256) → ∃ M, N = n + M * 128 ^ k ∧ l.take (k' - k) = short M ∧ (0 < k → 0 < M)
  | 0, _, _, _, _, _, h, _ => by simp [readF] at h
  | f + 1, k, n, [], N, k', h, _ => by simp [readF] at h
  | f + 1, k, n, c :: l, N, k', h, h256 => by
    rw [readF] at h
    split at h
    · simp at h
    · split at h
      · rename_i hc
        split at h
        · simp at h
        · rename_i h0
          simp only [Prod.mk.injEq] at h
          refine ⟨c, ?_, ?_, fun hk => ?_⟩
          · rw [← h.1, Nat.mod_eq_of_lt hc]
          · rw [← h.2.1, Nat.add_sub_cancel_left, short_small hc]; simp
          · rcases Nat.eq_zero_or_pos c with hz | hz
            · exact absurd ⟨hk, hz⟩ h0
            · exact hz
      · rename_i hc
        have hcl : c < 256 := h256 c (by simp)
        obtain ⟨M, h1, h2, h3⟩ := readF_short f (k + 1) _ l N k' h fun x hx => h256 x (by simp [hx])
        have hM := h3 (by omega)
        have hk := (readF_ok f (k + 1) _ l N k' h).1
        have e1 : (c % 128 + 128 * M) % 128 = c % 128 := by omega
        have e2 : (c % 128 + 128 * M) / 128 = M := by omega
        refine ⟨c % 128 + 128 * M, ?_, ?_, fun _ => by omega⟩
        · rw [h1, Nat.pow_succ, Nat.add_mul, Nat.add_assoc, show M * (128 ^ k * 128) = 128 * M * 128 ^ k by rw [Nat.mul_comm (128 ^ k) 128, ← Nat.mul_assoc, Nat.mul_comm M 128]]
        · rw [short_big (by omega), e1, e2, ← h2, show k' - k = (k' - (k + 1)) + 1 by omega, List.take_succ_cons, show c % 128 + 128 = c by omega]
theorem readShort_short {bs : List Nat} {a N : Nat} {t : Int} (h : readShort bs (a : Int) = (N, t, 0)) (h256 : ∀ x ∈ bs, x < 256) : short N = (bs.drop a).take (t.toNat - a) := by
  unfold readShort at h
  split at h
  · simp at h
  · rename_i hr
    simp only at h
    split at h
    · rename_i h0
      simp only [Int.toNat_natCast] at h0 h hr
      generalize hg : readF 10 0 0 (bs.drop a) = r at h0 h
      obtain ⟨x, y, z⟩ := r
      simp only at h0 h
      subst h0
      obtain ⟨M, h1, h2, _⟩ := readF_short 10 0 0 (bs.drop a) _ _ hg fun x hx => h256 x (List.mem_of_mem_drop hx)
      simp only [Prod.mk.injEq] at h
      have hxM : N = M := by rw [← h.1, h1]; simp
      have hty : t.toNat - a = y := by omega
      rw [hxM, hty, ← h2]; simp
    · rename_i h0
      simp at h h0; omega
theorem pieceS_form {bs : List Nat} {a f t : Nat} (h : pieceS bs a = .inl (f, t)) (h256 : ∀ x ∈ bs, x < 256) : (bs.drop a).take (t - a) = short (t - f) ++ (bs.drop f).take (t - f) := by
  have hok := pieceS_ok h
  unfold pieceS at h
  simp only at h
  split at h
  · cases h
  · rename_i h0
    have h0' : (readShort bs (a : Int)).2.2 = 0 := by simpa using h0
    have hr : readShort bs (a : Int) = ((readShort bs (a : Int)).1, (readShort bs (a : Int)).2.1, 0) := by rw [← h0']
    have h1 := readShort_short hr h256
    have h2 := readShort_ok hr
    split at h
    · cases h
    · simp only [Sum.inl.injEq, Prod.mk.injEq] at h
      rw [h.1] at h1
      have e1 : (readShort bs (a : Int)).1 = t - f := by omega
      rw [e1] at h1
      rw [h1, show t - a = (f - a) + (t - f) by omega, List.take_add, List.drop_drop, show a + (f - a) = f by omega]
theorem getS_form (bs : List Nat) (h256 : ∀ x ∈ bs, x < 256) (a last : Nat) (h : (getS bs a last).2.2 = 0) : bs.drop a = putAll ((getS bs a last).1.map fun F => ((F.tag : Int), F.val bs)) ∧ putScan (last : Int) ((getS bs a last).1.map fun F => ((F.tag : Int), F.val bs)) = 0 := by
  by_cases ha : a < bs.length
  · rcases hs : stepG bs a last with F | ⟨p, e⟩
    · have hF : pieceS bs (a + 1) = .inl (F.from_, F.to_) ∧ F.tag = bs.getD a 0 ∧ ¬ bs.getD a 0 ≤ last ∧ ¬ F.to_ - F.from_ = 0 := by
        unfold stepG at hs
        split at hs
        · cases hs
        · rename_i hl
          split at hs
          · cases hs
          · rename_i f t hp
            split at hs
            · cases hs
            · rename_i hz
              cases hs
              exact ⟨hp, rfl, hl, hz⟩
      obtain ⟨hp, ht, hl, hz⟩ := hF
      have hok := pieceS_ok hp
      have h2 : a < F.to_ := by omega
      rw [getS_one ha hs h2] at h ⊢
      obtain ⟨ih1, ih2⟩ := getS_form bs h256 F.to_ F.tag h
      have hform := pieceS_form hp h256
      have hval : (F.val bs).length = F.to_ - F.from_ := GF.val_len hok.2.2
      have hb : bs.getD a 0 = bs[a] := by simp [List.getD, ha]
      have htag : F.tag < 256 := by rw [ht, hb]; exact h256 _ (List.getElem_mem ha)
      refine ⟨?_, ?_⟩
      · simp only [List.map_cons, putAll, List.flatMap_cons]
        rw [show ((getS bs F.to_ F.tag).1.map fun F => ((F.tag : Int), F.val bs)).flatMap (fun f => formF f.1.toNat f.2) = bs.drop F.to_ from ih1.symm]
        simp only [Int.toNat_natCast, formF]
        rw [hval, List.drop_eq_getElem_cons ha, ht, hb, List.cons_append]
        congr 1
        have e1 : bs.drop (a + 1) = (bs.drop (a + 1)).take (F.to_ - (a + 1)) ++ (bs.drop (a + 1)).drop (F.to_ - (a + 1)) := (List.take_append_drop _ _).symm
        rw [e1, hform, List.drop_drop, show a + 1 + (F.to_ - (a + 1)) = F.to_ by omega]
        rfl
      · simp only [List.map_cons, putScan]
        rw [if_neg (by omega), if_neg (by rw [hval]; exact hz)]
        exact ih2
    · rw [getS_bad ha hs] at h
      exact absurd h (stepG_bad hs)
  · rw [getS_end ha]
    exact ⟨by rw [List.drop_eq_nil_of_le (by omega)]; rfl, rfl⟩
termination_by bs.length - a
theorem itemsS_form (bs : List Nat) (h256 : ∀ x ∈ bs, x < 256) (a : Nat) (h : (itemsS bs a).2.2 = 0) : bs.drop a = listAll ((itemsS bs a).1.map (GF.val bs)) := by
  by_cases ha : a < bs.length
  · rcases hs : pieceS bs a with ⟨f, t⟩ | ⟨p, e⟩
    · have hok := pieceS_ok hs
      have h2 : a < t := by omega
      rw [itemsS_one ha hs h2] at h ⊢
      have ih := itemsS_form bs h256 t h
      have hform := pieceS_form hs h256
      have hval : (GF.val bs ⟨0, 0, f, t⟩).length = t - f := GF.val_len (F := ⟨0, 0, f, t⟩) hok.2.2
      simp only [List.map_cons, listAll, List.flatMap_cons]
      rw [show ((itemsS bs t).1.map (GF.val bs)).flatMap (fun x => short x.length ++ x) = bs.drop t from ih.symm, hval]
      have e1 : bs.drop a = (bs.drop a).take (t - a) ++ (bs.drop a).drop (t - a) := (List.take_append_drop _ _).symm
      rw [e1, hform, List.drop_drop, show a + (t - a) = t by omega]
      rfl
    · rw [itemsS_bad ha hs] at h
      exact absurd h (pieceS_bad hs).1
  · rw [itemsS_end ha]
    rw [List.drop_eq_nil_of_le (by omega)]; rfl
termination_by bs.length - a
theorem getAll_form {bs : List Nat} (h256 : ∀ x ∈ bs, x < 256) (h : (getAll bs).2.2 = 0) : putAll ((getAll bs).1.map fun F => ((F.tag : Int), F.val bs)) = bs ∧ putErr ((getAll bs).1.map fun F => ((F.tag : Int), F.val bs)) = 0 ∧ putBytes ((getAll bs).1.map fun F => ((F.tag : Int), F.val bs)) = bs := by
  have hsm := getAll_small h
  have e : getAll bs = getS bs 0 0 ∧ (getS bs 0 0).2.2 = 0 := by
    unfold getAll at h ⊢
    rw [if_neg (by omega)] at h ⊢
    split at h
    · rename_i h0; rw [if_pos h0]; exact ⟨rfl, h0⟩
    · rename_i h0; exact absurd h h0
  obtain ⟨h1, h2⟩ := getS_form bs h256 0 0 e.2
  rw [← e.1] at h1 h2
  have h1' : putAll ((getAll bs).1.map fun F => ((F.tag : Int), F.val bs)) = bs := by rw [← h1]; rfl
  have h3 : putErr ((getAll bs).1.map fun F => ((F.tag : Int), F.val bs)) = 0 := by
    unfold putErr
    rw [show putScan 0 _ = 0 from h2, h1', if_neg (by omega), if_neg (by omega)]
  exact ⟨h1', h3, by rw [putBytes, if_pos h3, h1']⟩
theorem itemsAll_form {bs : List Nat} (h256 : ∀ x ∈ bs, x < 256) (h : (itemsAll bs).2.2 = 0) : bs.length ≠ 0 ∧ listAll ((itemsAll bs).1.map (GF.val bs)) = bs := by
  unfold itemsAll at h ⊢
  split at h
  · simp at h
  · rename_i h0
    rw [if_neg h0]
    split at h
    · rename_i h1
      rw [if_pos h1]
      exact ⟨h0, by have := itemsS_form bs h256 0 h1; simpa using this.symm⟩
    · rename_i h1; exact absurd h h1
end Go.Proofs.Ytlcjhbemgagchaa
end

section
/-
  What was written is read: short numbers, fields, items. No program in sight.
-/
namespace Go.Proofs.Ytlcjhbemgagchaa
set_option linter.unusedVariables false

theorem readF_of : ∀ (g k acc M : Nat) (rest : List Nat), g + k = 10 → 1 ≤ g → (0 < k → 0 < M) → M * 128 ^ k < U64 → readF g k acc (short M ++ rest) = (acc + M * 128 ^ k, k + (short M).length, 0)
  | 0, _, _, _, _, _, h, _, _ => by omega
  | g + 1, k, acc, M, rest, hg, _, hM, hU => by
    have h9 : (128 : Nat) ^ 9 = 9223372036854775808 := rfl
    have hk9 : k = 9 → M < 2 := fun e => by
      subst e; unfold U64 at hU; omega
    by_cases hs : M < 128
    · rw [short_small hs]
      show readF (g + 1) k acc (M :: rest) = _
      rw [readF_last _ _ _ _ _ (fun h => by have := hk9 h.1; omega) hs (fun h => by have := hM h.1; omega), Nat.mod_eq_of_lt hs]
      rfl
    · rw [short_big hs]
      show readF (g + 1) k acc ((M % 128 + 128) :: (short (M / 128) ++ rest)) = _
      have hk8 : k ≠ 9 := fun e => by have := hk9 e; omega
      have e1 : (M % 128 + 128) % 128 = M % 128 := by omega
      have e2 : M / 128 * 128 ^ (k + 1) = M / 128 * 128 * 128 ^ k := by rw [Nat.pow_succ, Nat.mul_comm (128 ^ k) 128, Nat.mul_assoc]
      have e3 : M % 128 * 128 ^ k + M / 128 * 128 * 128 ^ k = M * 128 ^ k := by rw [← Nat.add_mul]; congr 1; omega
      rw [readF_on _ _ _ _ _ (fun h => hk8 h.1) (by omega), e1, readF_of g (k + 1) _ (M / 128) rest (by omega) (by omega) (fun _ => by omega) (by rw [e2]; omega), e2]
      simp only [Prod.mk.injEq, List.length_cons]
      exact ⟨by omega, by omega, trivial⟩
theorem readShort_of (pre rest : List Nat) {N : Nat} (h : N < U64) : readShort (pre ++ (short N ++ rest)) (pre.length : Int) = (N, (pre.length : Int) + (short N).length, 0) := by
  have h1 : readF 10 0 0 (short N ++ rest) = (N, (short N).length, 0) := by
    rw [readF_of 10 0 0 N rest rfl (by omega) (fun h => by omega) (by simpa using h)]; simp
  rw [readShort, if_neg (by rw [List.length_append]; omega)]
  simp only [Int.toNat_natCast, List.drop_left]
  rw [h1]
  simp
theorem pieceS_of (pre rest v : List Nat) (h : v.length < U64) : pieceS (pre ++ (short v.length ++ (v ++ rest))) pre.length = .inl (pre.length + (short v.length).length, pre.length + (short v.length).length + v.length) := by
  unfold pieceS
  rw [readShort_of pre (v ++ rest) h]
  simp only
  have e : ((pre.length : Int) + ((short v.length).length : Int)).toNat = pre.length + (short v.length).length := by omega
  rw [if_neg (by simp), e, if_neg (by simp only [List.length_append]; omega)]
theorem getS_of : ∀ (fs : List (Int × List Nat)) (pre : List Nat) (last : Nat), putScan (last : Int) fs = 0 → (∀ f ∈ fs, f.2.length < U64) →
    (getS (pre ++ putAll fs) pre.length last).2 = (0, 0) ∧ (getS (pre ++ putAll fs) pre.length last).1.map (fun F => ((F.tag : Int), F.val (pre ++ putAll fs))) = fs
  | [], pre, last, _, _ => by
    rw [getS_end (by simp [putAll])]; exact ⟨rfl, rfl⟩
  | (t, v) :: r, pre, last, h, hU => by
    rw [putScan] at h
    split at h
    · simp at h
    · rename_i ht
      split at h
      · simp at h
      · rename_i hv
        obtain ⟨tn, rfl⟩ : ∃ tn : Nat, t = (tn : Int) := ⟨t.toNat, by omega⟩
        have hvU : v.length < U64 := hU _ (List.mem_cons_self ..)
        have e0 : putAll (((tn : Int), v) :: r) = tn :: (short v.length ++ (v ++ putAll r)) := by simp [putAll, formF]
        rw [e0]
        obtain ⟨bs, hbs⟩ : ∃ bs, pre ++ tn :: (short v.length ++ (v ++ putAll r)) = bs := ⟨_, rfl⟩
        have e1 : bs = (pre ++ [tn]) ++ (short v.length ++ (v ++ putAll r)) := by rw [← hbs]; simp
        have e2 : bs = ((pre ++ [tn]) ++ short v.length ++ v) ++ putAll r := by rw [← hbs]; simp
        have hp := pieceS_of (pre ++ [tn]) (putAll r) v hvU
        rw [← e1] at hp
        have hl1 : (pre ++ [tn]).length = pre.length + 1 := by simp
        rw [hl1] at hp
        have hg : bs.getD pre.length 0 = tn := by rw [← hbs, List.getD_eq_getElem?_getD]; simp
        have hlt : pre.length < bs.length := by rw [← hbs]; simp
        have hs := stepG_one (bs := bs) (a := pre.length) (last := last) (by rw [hg]; omega) hp (by omega)
        rw [hg] at hs
        rw [hbs]
        have hto : pre.length < (GF.mk tn pre.length (pre.length + 1 + (short v.length).length) (pre.length + 1 + (short v.length).length + v.length)).to_ := by simp only; omega
        rw [getS_one hlt hs hto]
        obtain ⟨i1, i2⟩ := getS_of r ((pre ++ [tn]) ++ short v.length ++ v) tn h (fun f hf => hU f (List.mem_cons_of_mem _ hf))
        rw [← e2] at i1 i2
        have hl2 : ((pre ++ [tn]) ++ short v.length ++ v).length = pre.length + 1 + (short v.length).length + v.length := by simp only [List.length_append, List.length_cons, List.length_nil]
        rw [hl2] at i1 i2
        refine ⟨i1, ?_⟩
        simp only [List.map_cons, List.cons.injEq, Prod.mk.injEq, true_and]
        refine ⟨?_, i2⟩
        have hl3 : ((pre ++ [tn]) ++ short v.length).length = pre.length + 1 + (short v.length).length := by simp only [List.length_append, List.length_cons, List.length_nil]
        rw [GF.val]
        simp only
        rw [e2, List.append_assoc ((pre ++ [tn]) ++ short v.length), ← hl3, List.drop_left, show ((pre ++ [tn]) ++ short v.length).length + v.length - ((pre ++ [tn]) ++ short v.length).length = v.length by omega, List.take_left]
theorem getAll_of {fs : List (Int × List Nat)} (h : putErr fs = 0) (hU : ∀ f ∈ fs, f.2.length < U64) : (getAll (putAll fs)).2 = (0, 0) ∧ (getAll (putAll fs)).1.map (fun F => ((F.tag : Int), F.val (putAll fs))) = fs := by
  unfold putErr at h
  split at h
  · rename_i h1; exact absurd h h1
  · rename_i h1
    split at h
    · simp at h
    · rename_i h2
      have h3 : putScan ((0 : Nat) : Int) fs = 0 := Decidable.not_not.1 h1
      have := getS_of fs [] 0 h3 hU
      simp only [List.nil_append, List.length_nil] at this
      unfold getAll
      rw [if_neg h2, if_pos (by rw [this.1])]
      exact this
theorem itemsS_of : ∀ (xss : List (List Nat)) (pre : List Nat), (∀ x ∈ xss, x.length < U64) →
    (itemsS (pre ++ listAll xss) pre.length).2 = (0, 0) ∧ (itemsS (pre ++ listAll xss) pre.length).1.map (GF.val (pre ++ listAll xss)) = xss
  | [], pre, _ => by rw [itemsS_end (by simp [listAll])]; exact ⟨rfl, rfl⟩
  | v :: r, pre, hU => by
    have hvU : v.length < U64 := hU _ (List.mem_cons_self ..)
    have e0 : listAll (v :: r) = short v.length ++ (v ++ listAll r) := by simp [listAll]
    rw [e0]
    obtain ⟨bs, hbs⟩ : ∃ bs, pre ++ (short v.length ++ (v ++ listAll r)) = bs := ⟨_, rfl⟩
    have e2 : bs = (pre ++ short v.length ++ v) ++ listAll r := by rw [← hbs]; simp
    have hp := pieceS_of pre (listAll r) v hvU
    rw [hbs] at hp ⊢
    have hsl := (short_le hvU).1
    have hlt : pre.length < bs.length := by rw [← hbs]; simp only [List.length_append]; omega
    rw [itemsS_one hlt hp (by omega)]
    obtain ⟨i1, i2⟩ := itemsS_of r (pre ++ short v.length ++ v) (fun f hf => hU f (List.mem_cons_of_mem _ hf))
    rw [← e2] at i1 i2
    have hl2 : (pre ++ short v.length ++ v).length = pre.length + (short v.length).length + v.length := by simp only [List.length_append]
    rw [hl2] at i1 i2
    refine ⟨i1, ?_⟩
    simp only [List.map_cons, List.cons.injEq]
    refine ⟨?_, i2⟩
    have hl3 : (pre ++ short v.length).length = pre.length + (short v.length).length := by simp only [List.length_append]
    rw [GF.val]
    simp only
    rw [e2, List.append_assoc (pre ++ short v.length), ← hl3, List.drop_left, show (pre ++ short v.length).length + v.length - (pre ++ short v.length).length = v.length by omega, List.take_left]
theorem itemsAll_of {xss : List (List Nat)} (h : xss ≠ []) (hU : ∀ x ∈ xss, x.length < U64) : (itemsAll (listAll xss)).2 = (0, 0) ∧ (itemsAll (listAll xss)).1.map (GF.val (listAll xss)) = xss := by
  have := itemsS_of xss [] hU
  simp only [List.nil_append, List.length_nil] at this
  have hl : ¬ (listAll xss).length = 0 := by
    cases xss with
    | nil => exact absurd rfl h
    | cons v r =>
      have hsl := (short_le (hU v (List.mem_cons_self ..))).1
      simp only [listAll, List.flatMap_cons, List.length_append]; omega
  unfold itemsAll
  rw [if_neg hl, if_pos (by rw [this.1])]
  exact this
theorem readShort_one {N : Nat} (h : N < U64) : readShort (7 :: short N) 1 = (N, (1 : Int) + ((short N).length : Int), (0 : Int)) := by
  have := readShort_of [7] [] h
  simpa using this
end Go.Proofs.Ytlcjhbemgagchaa
end
