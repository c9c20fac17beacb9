/-
  Texts merged into one, to keep the claim small: TlvField, TlvGetSpec.
-/
import Derived.Test.YtlcjhbemgagchaaMf4
import Derived.Test.YtlcjhbemgagchaaMf3
section
/-
  own, field (tlv); form (the reference).
-/
namespace Go.Proofs.Ytlcjhbemgagchaa
open Go.RowKit
set_option linter.unusedVariables false

/-- Behind the call: new memory that holds the bytes xs. -/
def BP (n : Nat) (xs : List Nat) (w : World) (e : Ending) (w' : World) : Prop :=
  ∃ A c g, e = .returned (.slice A n c) ∧ Ow w' 5 1 A n c (xs.map bn) g ∧ (∀ b, g = some b → w.heap.size ≤ b) ∧ Fr (fun _ => False) w w'
theorem BP.of {xs : List Nat} {w : World} {e : Ending} {w' : World} (h : ShortPost xs w e w') : BP xs.length xs w e w' := h
theorem Ow.len {w : World} {e : TypeId} {A : Option Addr} {n c : Nat} {xs : List Nat} {g : Option Nat} (h : Ow w e 1 A n c (xs.map bn) g) : n = xs.length := by have := h.1; simpa using this.symm
theorem Sl.len {w : World} {A : Option Addr} {n : Nat} {xs : List Nat} (h : Sl w 1 A n (xs.map bn)) : n = xs.length := by have := h.1; simpa using this.symm
theorem fresh_of {w w' : World} {g g' : Option Nat} {S : Nat → Prop} {k : Nat} (hf : Fr S w w') (hg : ∀ b, g = some b → w.heap.size ≤ b) (hk : w'.heap.size ≤ k) (h : g' = g ∨ ∃ b, g' = some b ∧ k ≤ b) : ∀ b, g' = some b → w.heap.size ≤ b := by
  intro b hb
  have := hf.size
  rcases h with rfl | ⟨b', rfl, h⟩
  · exact hg b hb
  · cases hb; omega

/-- A slice that is gone on with: its block g, behind it g'; nothing else that was there has turned. -/
structure Gr (w : World) (g : Option Nat) (w' : World) (g' : Option Nat) : Prop where
  fr : Fr (fun k => some k = g) w w'
  at_ : g' = g ∨ ∃ b, g' = some b ∧ w.heap.size ≤ b
section
variable {w w' w'' : World} {g g' g'' : Option Nat}
theorem Gr.refl (w : World) (g : Option Nat) : Gr w g w g := ⟨Fr.refl _ _, .inl rfl⟩
theorem Gr.trans (h : Gr w g w' g') (k : Gr w' g' w'' g'') : Gr w g w'' g'' := by
  refine ⟨h.fr.comp k.fr fun i hi e => ?_, ?_⟩
  · rcases h.at_ with h1 | ⟨b, h1, hb⟩
    · exact e.trans h1
    · rw [h1] at e; cases e; omega
  · have := h.fr.size
    rcases k.at_ with h1 | ⟨b, h1, hb⟩
    · rw [h1]; exact h.at_
    · exact .inr ⟨b, h1, by omega⟩
theorem Gr.quiet (h : Gr w g w' g') (k : Fr (fun _ => False) w' w'') : Gr w g w'' g' := ⟨h.fr.comp k fun _ _ e => e.elim, h.at_⟩
theorem Gr.of {w1 : World} (hf : Fr (fun k => some k = g) w1 w') (hg : g' = g ∨ ∃ b, g' = some b ∧ w1.heap.size ≤ b) : Gr w1 g w' g' := ⟨hf, hg⟩
theorem Gr.sl (h : Gr w g w' g') {size n : Nat} {A : Option Addr} {xs : List Value} (hS : Sl w size A n xs) (hap : ∀ b o, A = some ⟨b, o, none⟩ → g ≠ some b) : Sl w' size A n xs :=
  hS.fr (B := 0) h.fr fun b ⟨o, e⟩ _ e' => hap b o e e'.symm
/-- what stands apart from g ahead stands apart from g' behind. -/
theorem Gr.apart (h : Gr w g w' g') {n : Nat} {A : Option Addr} {xs : List Value} (hS : Sl w 1 A n xs) (hap : ∀ b o, A = some ⟨b, o, none⟩ → 0 < n → g ≠ some b) : ∀ b o, A = some ⟨b, o, none⟩ → 0 < n → g' ≠ some b := by
  intro b o hA hn e
  rcases h.at_ with h1 | ⟨b', h1, hb⟩
  · exact hap b o hA hn (h1 ▸ e)
  · rw [h1] at e; cases e
    obtain ⟨b2, o2, h2, hc2⟩ := hS.2 hn
    rw [hA] at h2; cases h2
    have hx : 0 < xs.length := by rw [hS.1]; omega
    have := World.block_lt_of_cell? w _ (hc2 0 _ (List.getElem?_eq_getElem hx))
    simp at this; omega
theorem Gr.sl' (h : Gr w g w' g') {n : Nat} {A : Option Addr} {xs : List Value} (hS : Sl w 1 A n xs) (hap : ∀ b o, A = some ⟨b, o, none⟩ → 0 < n → g ≠ some b) : Sl w' 1 A n xs := by
  refine ⟨hS.1, fun hn => ?_⟩
  exact (hS.fr (B := 0) h.fr fun b ⟨o, e⟩ _ e' => hap b o e hn e'.symm).2 hn
end

set_option maxHeartbeats 1000000 in
set_option maxRecDepth 4000 in
theorem own_any (w : World) (xs : List Nat) (A : Option Addr) (n c : Nat) (hn : n ≤ 140737488355328) (hA : Sl w 1 A n (xs.map bn)) :
    Calls Try.prog 110 #[.slice A n c] w (BP n xs w) := by
  obtain ⟨i0, hi, hz0, hz1, hz2⟩ := info_parts info5
  by_cases h0 : n = 0
  · subst h0
    have hx : xs = [] := List.eq_nil_of_length_eq_zero hA.len.symm
    subst hx
    go_enter Try.func110, Try.ntmps110
    go_wp2
    go_ret
    exact ⟨none, 0, none, rfl, Ow.nil_ _ _ _, (fun b h => by cases h), Fr.refl _ _⟩
  · have h1 : ((n : Int) == 0) = false := by simp; omega
    have hnil : A ≠ none := by
      obtain ⟨b, o, h, _⟩ := hA.2 (by omega)
      rw [h]; simp
    obtain ⟨b, o, rfl, hc⟩ := hA.2 (by omega)
    clear hnil hc
    have hnn := fun (w : World) (a : Option Addr) (l c : Nat) => Lib.run_eql_slice_nil (P := Try.prog) w 22 5 a l c 0 0 Try.underlying22
    go_enter Try.func110, Try.ntmps110
    go_wp2_with (first | (at_builtin; refine wpList_append_ow _ rfl _ _ 22 rfl 5 i0 (.int .u8 0) 1 1 Try.underlying22 hi hz0 hz1 hz2 rfl (by decide) _ _ _ _ _ rfl (Ow.made _ _ 1 0 0 _ [] rfl (by omega) (by unfold maxLen; omega) rfl) _ _ _ _ rfl (hA.below ((Fr.refl (fun _ => False) _).alloc _) (fun _ _ => id)) (bn_one _) (by unfold maxLen; omega) (by omega) ?_) | go_in)
    intro A2 c2 w2 g2 hO2 hf2 hg2
    have hc1 := hO2.cap.1
    have hc2 : c2 ≤ 9223372036854775807 := by have := hO2.cap.2; unfold maxLen at this; exact this
    go_wp2_with (first | go_in)
    go_ret
    refine ⟨A2, n, g2, rfl, by simpa using hO2.clip, ?_, ((Fr.refl _ _).alloc _).comp hf2 fun i hi e => by omega⟩
    intro b' hb'
    rcases hg2 with rfl | ⟨b2, rfl, h⟩
    · cases hb'; exact Nat.le_refl _
    · cases hb'; omega

/-- A field's form. -/
def formF (tag : Nat) (v : List Nat) : List Nat := tag :: short v.length ++ v
theorem formF_len (tag : Nat) (v : List Nat) : (formF tag v).length = 1 + (short v.length).length + v.length := by simp [formF]; omega

/-- Behind field: the bytes, with ys behind them; in b's own block, or in new memory. -/
def FieldPost (n : Nat) (ys : List Nat) (g : Option Nat) (w : World) (e : Ending) (w' : World) : Prop :=
  ∃ A c g', e = .returned (.slice A n c) ∧ Ow w' 5 1 A n c (ys.map bn) g' ∧ Gr w g w' g'

set_option maxHeartbeats 2000000 in
set_option maxRecDepth 4000 in
theorem field_any (w : World) (xs vs : List Nat) (A V : Option Addr) (n c m d : Nat) (g : Option Nat) (t : Nat) (ht : t < 256) (hn : n ≤ 140000000000000) (hm : m ≤ 500000000000) (hO : Ow w 5 1 A n c (xs.map bn) g) (hV : Sl w 1 V m (vs.map bn))
    (hap : ∀ b o, V = some ⟨b, o, none⟩ → 0 < m → g ≠ some b) :
    Calls Try.prog 133 #[.slice A n c, .int .i64 (t : Int), .slice V m d] w (FieldPost (n + 1 + (short m).length + m) (xs ++ formF t vs) g w) := by
  obtain ⟨i0, hi, hz0, hz1, hz2⟩ := info_parts info5
  have hml := hV.len
  have hmU : m < U64 := by unfold U64; omega
  have hsl := short_le hmU
  have Hml := hide hml
  clear hml
  have hu : IntKind.u8.wrap (t : Int) = (t : Int) := IntWalk.u8_in _ (by omega)
  have hu2 : IntKind.u64.wrap (m : Int) = (m : Int) := IntWalk.u64_in _ (by omega)
  go_enter Try.func133, Try.ntmps133
  go_wp2_with (at_builtin; refine wpList_append_ow _ rfl _ _ 22 rfl 5 i0 (.int .u8 0) 1 1 Try.underlying22 hi hz0 hz1 hz2 rfl (by decide) _ _ _ _ _ rfl (hO.fr ((Fr.refl (fun _ => False) _).alloc _) (fun _ _ => id)) _ _ _ _ rfl (Sl.one _ _ _) (bn_one [_]) (by unfold maxLen; omega) (by omega) ?_)
  intro A1 c1 w1 g1 hO1 hf1 hg1
  have h01 : Gr w g w1 g1 := ((Gr.refl _ _).quiet ((Fr.refl _ _).alloc _)).trans ⟨hf1, by simpa using hg1⟩
  go_wp2_with fail
  refine (short_any _ m hmU).mono ?_
  rintro e w2 ⟨A2, c2, g2, rfl, hO2, hg2, hf2⟩
  have hO1' := hO1.fr hf2 (fun _ _ => id)
  have h02 := h01.quiet hf2
  go_wp2_with (at_builtin; refine wpList_append_ow _ rfl _ _ 22 rfl 5 i0 (.int .u8 0) 1 1 Try.underlying22 hi hz0 hz1 hz2 rfl (by decide) _ _ _ _ _ rfl hO1' _ _ _ _ rfl hO2.sl (bn_one _) (by unfold maxLen; omega) (by omega) ?_)
  intro A3 c3 w3 g3 hO3 hf3 hg3
  have h03 := h02.trans ⟨hf3, hg3⟩
  have hV3 := h03.sl' hV hap
  go_wp2_with (at_builtin; refine wpList_append_ow _ rfl _ _ 22 rfl 5 i0 (.int .u8 0) 1 1 Try.underlying22 hi hz0 hz1 hz2 rfl (by decide) _ _ _ _ _ rfl hO3 _ _ _ _ rfl hV3 (bn_one _) (by unfold maxLen; omega) (by omega) ?_)
  intro A4 c4 w4 g4 hO4 hf4 hg4
  have h04 := h03.trans ⟨hf4, hg4⟩
  go_wp2_with fail
  go_ret
  refine ⟨A4, c4, g4, rfl, ?_, h04⟩
  have := Hml.out
  subst this
  simpa [formF, bn] using hO4

set_option maxHeartbeats 2000000 in
set_option maxRecDepth 4000 in
theorem form_any (w : World) (vs : List Nat) (V : Option Addr) (m d : Nat) (t : Nat) (ht : t < 256) (hm : m ≤ 140000000000000) (hV : Sl w 1 V m (vs.map bn)) :
    Calls Try.prog 116 #[.int .i64 (t : Int), .slice V m d] w (BP (1 + (short m).length + m) (formF t vs) w) := by
  obtain ⟨i0, hi, hz0, hz1, hz2⟩ := info_parts info5
  have hmU : m < U64 := by unfold U64; omega
  have hsl := short_le hmU
  have Hml := hide hV.len
  have hu : IntKind.u8.wrap (t : Int) = (t : Int) := IntWalk.u8_in _ (by omega)
  have hu2 : IntKind.u64.wrap (m : Int) = (m : Int) := IntWalk.u64_in _ (by omega)
  go_enter Try.func116, Try.ntmps116
  go_wp2_with fail
  have hO1 := Ow.made w 5 1 1 1 #[bn t] [bn t] rfl (by omega) (by unfold maxLen; omega) rfl
  refine (rshort_any _ m hmU).mono ?_
  rintro e w2 ⟨A2, c2, g2, rfl, hO2, hg2, hf2⟩
  have hO1' := hO1.fr hf2 (fun _ _ => id)
  have hfa : Fr (fun _ => False) w w2 := ((Fr.refl _ _).alloc _).trans hf2
  go_wp2_with (at_builtin; refine wpList_append_ow _ rfl _ _ 22 rfl 5 i0 (.int .u8 0) 1 1 Try.underlying22 hi hz0 hz1 hz2 rfl (by decide) _ _ _ _ _ rfl hO1' _ _ _ _ rfl hO2.sl (bn_one _) (by unfold maxLen; omega) (by omega) ?_)
  intro A3 c3 w3 g3 hO3 hf3 hg3
  have h23 : Gr w2 (some w.heap.size) w3 g3 := ⟨hf3.mono fun k _ e => by simpa using e, hg3⟩
  have hV2 := hV.below hfa (fun _ _ => id)
  have hapV : ∀ b o, V = some ⟨b, o, none⟩ → 0 < m → some w.heap.size ≠ some b := fun b o hA h0 e => by
    cases e
    obtain ⟨b2, o2, h2, hc2⟩ := hV.2 h0
    rw [hA] at h2; cases h2
    have hx : 0 < (vs.map bn).length := by rw [hV.1]; omega
    have := World.block_lt_of_cell? w _ (hc2 0 _ (List.getElem?_eq_getElem hx))
    simp at this
  have hV3 := h23.sl' hV2 hapV
  go_wp2_with (at_builtin; refine wpList_append_ow _ rfl _ _ 22 rfl 5 i0 (.int .u8 0) 1 1 Try.underlying22 hi hz0 hz1 hz2 rfl (by decide) _ _ _ _ _ rfl hO3 _ _ _ _ rfl hV3 (bn_one _) (by unfold maxLen; omega) (by omega) ?_)
  intro A4 c4 w4 g4 hO4 hf4 hg4
  have h24 := h23.trans ⟨hf4, hg4⟩
  go_wp2_with fail
  go_ret
  refine ⟨A4, c4, g4, rfl, ?_, ?_, hfa.comp h24.fr fun i hi e => by cases e; omega⟩
  · have := Hml.out
    subst this
    simpa [formF, bn] using hO4
  · intro b hb
    have := hfa.size
    rcases h24.at_ with h | ⟨b', h, hb'⟩
    · rw [h] at hb; cases hb; exact Nat.le_refl _
    · rw [h] at hb; cases hb; omega
end Go.Proofs.Ytlcjhbemgagchaa
end

section
/-
  What Get, Items and what stands within them read, in plain lists of numbers.
-/
namespace Go.Proofs.Ytlcjhbemgagchaa
set_option linter.unusedVariables false

theorem readF_ok : ∀ (f k n : Nat) (l : List Nat) (N k' : Nat), readF f k n l = (N, k', 0) → k < k' ∧ k' ≤ k + l.length
  | 0, _, _, _, _, _, h => by simp [readF] at h
  | f + 1, k, n, [], N, k', h => by simp [readF] at h
  | f + 1, k, n, c :: l, N, k', h => by
    rw [readF] at h
    split at h
    · simp at h
    · split at h
      · split at h
        · simp at h
        · simp at h; simp; omega
      · have := readF_ok f (k + 1) _ l N k' h
        simp; omega
theorem readShort_ok {bs : List Nat} {a : Nat} {N : Nat} {t : Int} (h : readShort bs (a : Int) = (N, t, 0)) : (a : Int) < t ∧ t ≤ bs.length := by
  unfold readShort at h
  split at h
  · simp at h
  · rename_i hr
    simp only at h
    split at h
    · rename_i h0
      simp only [Int.toNat_natCast] at h0 h hr
      generalize hg : readF 10 0 0 (bs.drop a) = r at h0 h
      obtain ⟨x, y, z⟩ := r
      simp only at h0 h
      subst h0
      have h1 := readF_ok 10 0 0 (bs.drop a) _ _ hg
      simp only [List.length_drop] at h1
      simp only [Prod.mk.injEq] at h
      omega
    · rename_i h0
      simp at h h0; omega

/-- A length and so many bytes: where they begin and end, or where what is wrong. -/
def pieceS (bs : List Nat) (a : Nat) : (Nat × Nat) ⊕ (Nat × Int) :=
  let r := readShort bs (a : Int)
  if r.2.2 ≠ 0 then .inr (a, r.2.2) else if bs.length - r.2.1.toNat < r.1 then .inr (r.2.1.toNat, 22) else .inl (r.2.1.toNat, r.2.1.toNat + r.1)
theorem pieceS_ok {bs : List Nat} {a f t : Nat} (h : pieceS bs a = .inl (f, t)) : a < f ∧ f ≤ t ∧ t ≤ bs.length := by
  unfold pieceS at h
  simp only at h
  split at h
  · cases h
  · rename_i h0
    split at h
    · cases h
    · simp only [Sum.inl.injEq, Prod.mk.injEq] at h
      have h1 := readShort_ok (bs := bs) (a := a) (N := (readShort bs a).1) (t := (readShort bs a).2.1) (by
        have : (readShort bs (a : Int)).2.2 = 0 := by simpa using h0
        rw [← this])
      omega
theorem pieceS_bad {bs : List Nat} {a p : Nat} {e : Int} (h : pieceS bs a = .inr (p, e)) : e ≠ 0 ∧ (p ≤ a ∨ p ≤ bs.length) := by
  unfold pieceS at h
  simp only at h
  split at h
  · rename_i h0
    simp only [Sum.inr.injEq, Prod.mk.injEq] at h
    exact ⟨by rw [← h.2]; exact h0, by omega⟩
  · rename_i h0
    have h1 := readShort_ok (bs := bs) (a := a) (N := (readShort bs a).1) (t := (readShort bs a).2.1) (by
      have : (readShort bs (a : Int)).2.2 = 0 := by simpa using h0
      rw [← this])
    split at h
    · simp only [Sum.inr.injEq, Prod.mk.injEq] at h; omega
    · cases h

/-- A field that stands in bytes. -/
structure GF where
  tag : Nat
  at_ : Nat
  from_ : Nat
  to_ : Nat
def GF.val (bs : List Nat) (F : GF) : List Nat := (bs.drop F.from_).take (F.to_ - F.from_)
theorem GF.val_len {bs : List Nat} {F : GF} (h : F.to_ ≤ bs.length) : (F.val bs).length = F.to_ - F.from_ := by simp [GF.val]; omega
theorem GF.val_bytes {bs : List Nat} {F : GF} (h : ∀ x ∈ bs, x < 256) : ∀ x ∈ F.val bs, x < 256 := fun x hx => h x (List.mem_of_mem_drop (List.mem_of_mem_take hx))

/-- One field read. -/
def stepG (bs : List Nat) (a last : Nat) : GF ⊕ (Nat × Int) :=
  if bs.getD a 0 ≤ last then .inr (a, 21)
  else match pieceS bs (a + 1) with
    | .inr pe => .inr pe
    | .inl (f, t) => if t - f = 0 then .inr (a + 1, 20) else .inl ⟨bs.getD a 0, a, f, t⟩
/-- All fields from a place on: those that are right, then what is wrong first, and where. -/
def getS (bs : List Nat) (a last : Nat) : List GF × Nat × Int :=
  if h : a < bs.length then
    match stepG bs a last with
    | .inr (p, e) => ([], p, e)
    | .inl F => if h2 : a < F.to_ then
        let r := getS bs F.to_ F.tag
        (F :: r.1, r.2)
      else ([], 0, 0)
  else ([], 0, 0)
termination_by bs.length - a
decreasing_by omega
theorem getS_end {bs : List Nat} {a last : Nat} (h : ¬ a < bs.length) : getS bs a last = ([], 0, 0) := by rw [getS, dif_neg h]
theorem getS_bad {bs : List Nat} {a last p : Nat} {e : Int} (h : a < bs.length) (hs : stepG bs a last = .inr (p, e)) : getS bs a last = ([], p, e) := by rw [getS, dif_pos h, hs]
theorem getS_one {bs : List Nat} {a last : Nat} {F : GF} (h : a < bs.length) (hs : stepG bs a last = .inl F) (h2 : a < F.to_) : getS bs a last = (F :: (getS bs F.to_ F.tag).1, (getS bs F.to_ F.tag).2) := by
  rw [getS, dif_pos h, hs]; simp only [dif_pos h2]
theorem stepG_order {bs : List Nat} {a last : Nat} (h : bs.getD a 0 ≤ last) : stepG bs a last = .inr (a, 21) := by rw [stepG, if_pos h]
theorem stepG_piece {bs : List Nat} {a last p : Nat} {e : Int} (h : ¬ bs.getD a 0 ≤ last) (hp : pieceS bs (a + 1) = .inr (p, e)) : stepG bs a last = .inr (p, e) := by rw [stepG, if_neg h, hp]
theorem stepG_none {bs : List Nat} {a last f : Nat} (h : ¬ bs.getD a 0 ≤ last) (hp : pieceS bs (a + 1) = .inl (f, f)) : stepG bs a last = .inr (a + 1, 20) := by rw [stepG, if_neg h, hp]; simp
theorem stepG_one {bs : List Nat} {a last f t : Nat} (h : ¬ bs.getD a 0 ≤ last) (hp : pieceS bs (a + 1) = .inl (f, t)) (hft : f < t) : stepG bs a last = .inl ⟨bs.getD a 0, a, f, t⟩ := by
  rw [stepG, if_neg h, hp]; simp; omega
theorem stepG_bad {bs : List Nat} {a last p : Nat} {e : Int} (h : stepG bs a last = .inr (p, e)) : e ≠ 0 := by
  unfold stepG at h
  split at h
  · cases h; omega
  · split at h
    · rename_i pe hp
      cases h
      exact (pieceS_bad hp).1
    · split at h
      · cases h; omega
      · cases h
theorem getS_place (bs : List Nat) (a last : Nat) (h : (getS bs a last).2.2 = 0) : (getS bs a last).2.1 = 0 := by
  by_cases ha : a < bs.length
  · rcases hs : stepG bs a last with F | ⟨p, e⟩
    · by_cases h2 : a < F.to_
      · rw [getS_one ha hs h2] at h ⊢
        exact getS_place bs F.to_ F.tag h
      · rw [getS, dif_pos ha, hs]; simp only [dif_neg h2]
    · rw [getS_bad ha hs] at h
      exact absurd h (stepG_bad hs)
  · rw [getS_end ha]
termination_by bs.length - a
/-- What Get answers: the fields (none beside an error), the place, the error. -/
def getAll (bs : List Nat) : List GF × Nat × Int :=
  if 1048576 < bs.length then ([], 0, 3) else if (getS bs 0 0).2.2 = 0 then getS bs 0 0 else ([], (getS bs 0 0).2)
theorem getAll_place {bs : List Nat} (h : (getAll bs).2.2 = 0) : (getAll bs).2.1 = 0 := by
  unfold getAll at h ⊢
  split at h
  · simp at h
  · rename_i hb
    rw [if_neg hb]
    split at h
    · rename_i h0; rw [if_pos h0]; exact getS_place _ _ _ h0
    · rename_i h0; exact absurd h h0
end Go.Proofs.Ytlcjhbemgagchaa
end
