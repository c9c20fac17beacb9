/-
  Texts merged into one, to keep the claim small: TlvRSpec.
-/
import Derived.Test.YtahhecendjfenaaMr16
/-
  Readers in plain lists: the fault, a reader, what each call answers.
-/
namespace Go.Proofs.Ytahhecendjfenaa
set_option linter.unusedVariables false

structure RF where
  place : Int
  e : Int
def RF.wrong (f : RF) (at_ e : Int) : RF := if f.e = 0 then ⟨at_, e⟩ else f
theorem RF.wrong_no {f : RF} {a e : Int} (h : f.e ≠ 0) : f.wrong a e = f := if_neg h
theorem RF.wrong_yes {f : RF} {a e : Int} (h : f.e = 0) : f.wrong a e = ⟨a, e⟩ := if_pos h

structure RD where
  bs : List Nat
  base : Nat
  fs : List GF
  tk : List Bool
structure RD.ok (d : RD) : Prop where
  tk : d.tk.length = d.fs.length
  byte : ∀ x ∈ d.bs, x < 256
  le : d.base + d.bs.length ≤ 1048576
  at_ : ∀ F ∈ d.fs, F.from_ ≤ F.to_ ∧ F.to_ ≤ d.bs.length ∧ F.at_ ≤ d.bs.length
/-- Where the tag's field stands (the fields' number: there is none). -/
def tagAt (fs : List GF) (t : Int) : Nat := fs.findIdx fun F => decide ((F.tag : Int) = t)
theorem tagAt_lt {fs : List GF} {t : Int} {i : Nat} (h : i < tagAt fs t) (hi : i < fs.length) : ¬ ((fs[i].tag : Int) = t) := by
  have := List.not_of_lt_findIdx h
  simpa using this
theorem tagAt_is {fs : List GF} {t : Int} (h : tagAt fs t < fs.length) : ((fs[tagAt fs t]'h).tag : Int) = t := by
  have h1 : decide (((fs[tagAt fs t]'h).tag : Int) = t) = true := List.findIdx_getElem (w := h)
  exact of_decide_eq_true h1
theorem tagAt_first {fs : List GF} {t : Int} {k : Nat} (hk : k < fs.length) (h1 : ∀ i (hi : i < k), ¬ ((fs[i]'(by omega)).tag : Int) = t) (h2 : ((fs[k]'hk).tag : Int) = t) : tagAt fs t = k := by
  rcases Nat.lt_trichotomy (tagAt fs t) k with h | h | h
  · exact absurd (tagAt_is (by omega)) (h1 _ h)
  · exact h
  · exact absurd h2 (tagAt_lt h hk)
theorem tagAt_none {fs : List GF} {t : Int} (h : ∀ i (hi : i < fs.length), ¬ (fs[i].tag : Int) = t) : ¬ tagAt fs t < fs.length := fun hl => h _ hl (tagAt_is hl)

def RD.idx (d : RD) (f : RF) (t : Int) : Nat := if f.e ≠ 0 then d.fs.length else tagAt d.fs t
def RD.took (d : RD) (f : RF) (t : Int) : RD := { d with tk := d.tk.set (d.idx f t) true }
theorem RD.took_ok {d : RD} (h : d.ok) (f : RF) (t : Int) : (d.took f t).ok := ⟨by simp [RD.took, h.tk], h.byte, h.le, h.at_⟩
theorem RD.took_none {d : RD} (h : d.ok) {f : RF} {t : Int} (hn : ¬ d.idx f t < d.fs.length) : d.took f t = d := by
  unfold RD.took
  rw [List.set_eq_of_length_le (by rw [h.tk]; omega)]
theorem RD.took_fs (d : RD) (f : RF) (t : Int) : (d.took f t).fs = d.fs := rfl
theorem RD.took_bs (d : RD) (f : RF) (t : Int) : (d.took f t).bs = d.bs := rfl
theorem RD.took_base (d : RD) (f : RF) (t : Int) : (d.took f t).base = d.base := rfl

/-- The field that a call takes. -/
def RD.fld (d : RD) (f : RF) (t : Int) : Option GF := d.fs[d.idx f t]?
def numberS (d : RD) (f : RF) (t : Int) (above : Nat) : Nat × RF :=
  match d.fld f t with
  | none => (0, f)
  | some F =>
    let v := F.val d.bs
    let r := readShort v 0
    if r.2.2 ≠ 0 ∨ r.2.1 ≠ v.length ∨ r.1 = 0 then (0, f.wrong (d.base + F.from_) 20)
    else if above < r.1 then (0, f.wrong (d.base + F.from_) 3)
    else (r.1, f)
def rawS (d : RD) (f : RF) (t most : Int) : List Nat × RF :=
  match d.fld f t with
  | none => ([], f)
  | some F => if max most 0 < ((F.val d.bs).length : Int) then ([], f.wrong (d.base + F.from_) 3) else (F.val d.bs, f)
/-- The items of a field: their places within the record, too. -/
def itS (d : RD) (f : RF) (t most : Int) : Option GF × List GF × RF :=
  match d.fld f t with
  | none => (none, [], f)
  | some F =>
    let r := itemsAll (F.val d.bs)
    if r.2.2 ≠ 0 then (none, [], f.wrong (d.base + F.from_ + r.2.1) r.2.2)
    else if max most 0 < (r.1.length : Int) then (none, [], f.wrong (d.base + F.from_) 3)
    else (some F, r.1, f)
def RD.empty (base : Nat) : RD := ⟨[], base, [], []⟩
theorem RD.empty_ok {b : Nat} (h : b ≤ 1048576) : (RD.empty b).ok := ⟨rfl, (fun x h => by cases h), by simpa [RD.empty] using h, (fun F h => by cases h)⟩
/-- A reader of bytes that begin at a place. -/
def readS (f : RF) (base : Nat) (bs : List Nat) : RD × RF :=
  if f.e ≠ 0 then (RD.empty base, f)
  else
    let r := getAll bs
    if r.2.2 ≠ 0 then (RD.empty base, f.wrong (base + r.2.1) r.2.2)
    else (⟨bs, base, r.1, r.1.map fun _ => false⟩, f)
theorem getS_at (bs : List Nat) (a last : Nat) : ∀ F ∈ (getS bs a last).1, F.from_ ≤ F.to_ ∧ F.to_ ≤ bs.length ∧ F.at_ ≤ bs.length := by
  by_cases ha : a < bs.length
  · rcases hs : stepG bs a last with F | ⟨p, e⟩
    · by_cases h2 : a < F.to_
      · rw [getS_one ha hs h2]
        intro F' hF
        rcases List.mem_cons.1 hF with rfl | hF
        · unfold stepG at hs
          split at hs
          · cases hs
          · split at hs
            · cases hs
            · rename_i f t hp
              split at hs
              · cases hs
              · cases hs
                have := pieceS_ok hp
                exact ⟨this.2.1, this.2.2, by show a ≤ _; omega⟩
        · exact getS_at bs F.to_ F.tag F' hF
      · rw [getS, dif_pos ha, hs]; simp only [dif_neg h2]; simp
    · rw [getS_bad ha hs]; simp
  · rw [getS_end ha]; simp
termination_by bs.length - a
theorem getAll_at (bs : List Nat) : ∀ F ∈ (getAll bs).1, F.from_ ≤ F.to_ ∧ F.to_ ≤ bs.length ∧ F.at_ ≤ bs.length := by
  unfold getAll
  split
  · simp
  · split
    · exact getS_at bs 0 0
    · simp
theorem getAll_small {bs : List Nat} (h : (getAll bs).2.2 = 0) : bs.length ≤ 1048576 := by
  unfold getAll at h
  split at h
  · simp at h
  · omega
theorem readS_ok {f : RF} {base : Nat} {bs : List Nat} (hb : ∀ x ∈ bs, x < 256) (hl : base ≤ 1048576) (h2 : base = 0 ∨ base + bs.length ≤ 1048576) : (readS f base bs).1.ok := by
  unfold readS
  split
  · exact RD.empty_ok hl
  · simp only
    split
    · exact RD.empty_ok hl
    · rename_i h
      have h0 : (getAll bs).2.2 = 0 := by simpa using h
      have := getAll_small h0
      exact ⟨by simp, hb, by show base + bs.length ≤ _; omega, getAll_at bs⟩
/-- Readers of items, one behind the other. -/
def readersS (f : RF) (base : Nat) (v : List Nat) : List GF → List RD × RF
  | [] => ([], f)
  | F :: l =>
    let r := readS f (base + F.from_) (F.val v)
    let s := readersS r.2 base v l
    (r.1 :: s.1, s.2)
theorem readersS_snoc (f : RF) (base : Nat) (v : List Nat) (l : List GF) (F : GF) : readersS f base v (l ++ [F]) = ((readersS f base v l).1 ++ [(readS (readersS f base v l).2 (base + F.from_) (F.val v)).1], (readS (readersS f base v l).2 (base + F.from_) (F.val v)).2) := by
  induction l generalizing f with
  | nil => rfl
  | cons G l ih => simp only [List.cons_append, readersS, ih]
/-- The place of the first field that no call took. -/
def leftAt (fs : List GF) (tk : List Bool) : Nat := tk.findIdx fun b => !b
def endS (d : RD) (f : RF) : RF :=
  if f.e ≠ 0 then f else match d.fs[leftAt d.fs d.tk]? with
    | none => f
    | some F => f.wrong (d.base + F.at_) 20
def recordS (d : RD) (f : RF) (t : Int) : RD × RF :=
  match d.fld f t with
  | none => (RD.empty d.base, f)
  | some F => readS f (d.base + F.from_) (F.val d.bs)
def recordsS (d : RD) (f : RF) (t most : Int) : List RD × RF :=
  let r := itS d f t most
  match r.1 with
  | none => ([], r.2.2)
  | some F =>
    let s := readersS r.2.2 (d.base + F.from_) (F.val d.bs) r.2.1
    if 0 < s.1.length ∧ s.2.e ≠ 0 then ([], s.2) else s
theorem stepG_pl {bs : List Nat} {a last p : Nat} {e : Int} (ha : a < bs.length) (h : stepG bs a last = .inr (p, e)) : p ≤ bs.length := by
  unfold stepG at h
  split at h
  · cases h; omega
  · split at h
    · rename_i pe hp
      cases h
      have := (pieceS_bad hp).2; omega
    · split at h
      · cases h; omega
      · cases h
theorem getS_pl (bs : List Nat) (a last : Nat) : (getS bs a last).2.1 ≤ bs.length := by
  by_cases ha : a < bs.length
  · rcases hs : stepG bs a last with F | ⟨p, e⟩
    · by_cases h2 : a < F.to_
      · rw [getS_one ha hs h2]
        exact getS_pl bs F.to_ F.tag
      · rw [getS, dif_pos ha, hs]; simp only [dif_neg h2]; exact Nat.zero_le _
    · rw [getS_bad ha hs]; exact stepG_pl ha hs
  · rw [getS_end ha]; exact Nat.zero_le _
termination_by bs.length - a
theorem getAll_pl (bs : List Nat) : (getAll bs).2.1 ≤ bs.length := by
  unfold getAll
  split
  · simp
  · split
    · exact getS_pl bs 0 0
    · exact getS_pl bs 0 0
theorem itemsS_pl (bs : List Nat) (a : Nat) : (itemsS bs a).2.1 ≤ bs.length := by
  by_cases ha : a < bs.length
  · rcases hs : pieceS bs a with ⟨f, t⟩ | ⟨p, e⟩
    · by_cases h2 : a < t
      · rw [itemsS_one ha hs h2]
        exact itemsS_pl bs t
      · rw [itemsS, dif_pos ha, hs]; simp only [dif_neg h2]; exact Nat.zero_le _
    · rw [itemsS_bad ha hs]
      have := (pieceS_bad hs).2
      show p ≤ _; omega
  · rw [itemsS_end ha]; exact Nat.zero_le _
termination_by bs.length - a
theorem itemsAll_pl (bs : List Nat) : (itemsAll bs).2.1 ≤ bs.length := by
  unfold itemsAll
  split
  · simp
  · split
    · exact itemsS_pl bs 0
    · exact itemsS_pl bs 0
theorem fld_mem {d : RD} {f : RF} {t : Int} {F : GF} (h : d.fld f t = some F) : F ∈ d.fs := List.mem_of_getElem? h
end Go.Proofs.Ytahhecendjfenaa
