/-
  Texts merged into one, to keep the claim small: TlvRead2, TlvField.
-/
import Derived.Test.YtlcjhbemgagchaaMr2
import Derived.Laws.ShiftsVarLaws
section
/-
  tlv.ReadShort is readShort.
-/
namespace Go.Proofs.Ytlcjhbemgagchaa
open Go.RowKit
set_option linter.unusedVariables false

theorem and127_nat : ∀ m : Fin 256, m.val &&& 127 = m.val % 128 := by decide +kernel
theorem and127 (y : Nat) (h : y < 256) : bits .and .u8 (y : Int) 127 = (y : Int) % 128 := by
  have h := and127_nat ⟨y, h⟩
  simp only at h
  rw [show (127 : Int) = ((127 : Nat) : Int) from rfl, u8_and_nat _ _ (by omega) (by omega), h]
  omega

set_option maxHeartbeats 1000000 in
set_option maxRecDepth 4000 in
theorem tread_any (w : World) (xs : List Nat) (A : Option Addr) (n c : Nat) (at_ : Int) (hn : n ≤ 140737488355328) (hl : n = xs.length) (h256 : ∀ x ∈ xs, x < 256) (hA : Sl w 1 A n (xs.map bn)) :
    Calls Try.prog 125 #[.slice A n c, .int .i64 at_] w fun e w' => e = .returned (ReadVal xs at_) ∧ w = w' := by
  have Hl := hide hl
  clear hl
  by_cases h0 : at_ < 0
  · have hv := hide (readVal_out (xs := xs) (at_ := at_) (.inl h0))
    go_enter Try.func125, Try.ntmps125
    go_wp2
    go_ret3
    exact ⟨by rw [hv.out]; rfl, rfl⟩
  by_cases h1 : (n : Int) < at_
  · have hv := hide (readVal_out (xs := xs) (at_ := at_) (.inr (by rw [← Hl.out]; exact h1)))
    go_enter Try.func125, Try.ntmps125
    go_wp2
    go_ret3
    exact ⟨by rw [hv.out]; rfl, rfl⟩
  obtain ⟨a, rfl⟩ : ∃ a : Nat, at_ = (a : Int) := ⟨at_.toNat, by omega⟩
  have ha : a ≤ n := by omega
  have ha' : a ≤ xs.length := by rw [← Hl.out]; exact ha
  go_enter Try.func125, Try.ntmps125
  go_wp2_with fail
  go_loop [7, 18] (fun s i => ∃ (k N : Nat), k ≤ 10 ∧ a + k ≤ n ∧ s = .int .u64 (N : Int) ∧ i = .int .i64 (k : Int) ∧ Hid (N < 128 ^ k) ∧
    Hid (readF (10 - k) k N (xs.drop (a + k)) = readF 10 0 0 (xs.drop a))) (fun _ i => 10 - (intOf i).toNat)
  case atStart => exact ⟨0, 0, by omega, by omega, rfl, rfl, show 0 < 1 by omega, rfl⟩
  case round =>
    obtain ⟨k, N, hk, hkn, rfl, rfl, hN, hR⟩ := hrel
    by_cases hk9 : k ≤ 9
    · obtain ⟨f, hf⟩ : ∃ f, 10 - k = f + 1 := ⟨9 - k, by omega⟩
      have HF := hide hf
      clear hf
      by_cases hend : n ≤ a + k
      · have hv := hide (readVal_bad (e := 22) ha' (by rw [← hR.out, HF.out, List.drop_eq_nil_of_le (by rw [← Hl.out]; exact hend)]; rfl) (by omega))
        go_wp2_with fail
        go_ret3
        exact ⟨by rw [hv.out]; rfl, rfl⟩
      · have hak : a + k < xs.length := by rw [← Hl.out]; omega
        have hu := bn_get hak
        obtain ⟨b, o, rfl, c0⟩ := hA.at_ hu
        obtain ⟨y, hy⟩ : ∃ y, xs.getD (a + k) 0 = y := ⟨_, rfl⟩
        have hd : Hid (xs.drop (a + k) = y :: xs.drop (a + k + 1)) := by
          show _ = _
          rw [List.drop_eq_getElem_cons hak, ← hy]; simp [List.getD, hak]
        have hy256 : y < 256 := h256 y (by rw [← hy]; simp [List.getD, hak])
        rw [hy] at c0
        clear hu hy hA h256 hak
        by_cases hfar : k = 9 ∧ 1 < y
        · obtain ⟨h9, hy1⟩ := hfar
          have hv := hide (readVal_bad (e := 20) ha' (by rw [← hR.out, HF.out, hd.out, h9, readF_far _ _ _ _ hy1]) (by omega))
          have h9' : 9 ≤ k := by omega
          clear hd h9
          go_wp2_with fail
          all_goals (go_ret3; exact ⟨by rw [hv.out]; rfl, rfl⟩)
        · obtain ⟨q1, q2, q3⟩ := read_fits hk9 hN.out rfl hfar
          have qn := hide (read_next hk9 hN.out hfar)
          have hand := and127 y hy256
          have hor : Hid (bits .or .u64 (N : Int) ((128 ^ k * (y % 128) : Nat) : Int) = ((N + y % 128 * 128 ^ k : Nat) : Int)) := by
            show _ = _
            unfold U64 at q1 q2
            rw [u64_or_nat _ _ (by omega) (by omega), ← q3]
            have e7 : (128 : Nat) ^ k = 2 ^ (7 * k) := by rw [Nat.pow_mul]
            have := nat_join (7 * k) (128 ^ k * (y % 128)) N (by rw [e7]; exact Nat.mul_mod_right _ _) (by rw [← e7]; exact hN.out)
            rw [Nat.or_comm, this, Nat.add_comm]
          have hnf : k = 9 → y ≤ 1 := fun h => by have := hfar; omega
          have Hfar := hide hfar
          clear hfar
          obtain ⟨N2, hN2⟩ : ∃ N2, N + y % 128 * 128 ^ k = N2 := ⟨_, rfl⟩
          by_cases h9 : k = 9
          · have hy1 := hnf h9
            have h9' : 9 ≤ k := by omega
            have hyl : y < 128 := by omega
            have hor9 : Hid (bits .or .u64 (N : Int) ((y : Int) % 128 * 9223372036854775808) = (N2 : Int)) := by
              show _ = _
              have := hor.out
              rw [hN2, h9] at this
              rw [← this]
              congr 1
              have e : (128 : Nat) ^ 9 = 9223372036854775808 := rfl
              rw [e]; omega
            by_cases hz : y = 0
            · have hv := hide (readVal_bad (e := 20) ha' (by rw [← hR.out, HF.out, hd.out, hz, readF_zero _ _ _ _ (by omega)]) (by omega))
              have hz3 : y ≤ 0 := by omega
              clear hd hz hnf h9 q1 q2 q3 hN2
              go_wp2_with fail
              all_goals (go_ret3; exact ⟨by rw [hv.out]; rfl, rfl⟩)
            · have hv := hide (readVal_ok (k := k) (N := N2) ha' (by rw [← hR.out, HF.out, hd.out, readF_last _ _ _ _ _ Hfar.out hyl (by omega), hN2]))
              have hz3 : 0 < y := by omega
              clear hd hz hnf h9 q1 q2 q3 hN2
              go_wp2_with fail
              go_ret3
              obtain rfl : k = 9 := by omega
              refine ⟨?_, rfl⟩
              rw [hv.out, ← hor9.out]
              rfl
          · have h9' : k < 9 := by omega
            have e1 : IntKind.u64.wrap ((y : Int) % 128 * 2 ^ (7 * k)) = ((128 ^ k * (y % 128) : Nat) : Int) := by
              have e7 : (128 : Nat) ^ k = 2 ^ (7 * k) := by rw [Nat.pow_mul]
              have : (y : Int) % 128 * 2 ^ (7 * k) = ((128 ^ k * (y % 128) : Nat) : Int) := by rw [e7]; push_cast; rw [Int.mul_comm]
              rw [this, IntWalk.u64_in _ (by unfold U64 at q1; omega)]
            obtain ⟨M, hM⟩ : ∃ M, 128 ^ k * (y % 128) = M := ⟨_, rfl⟩
            rw [hM] at e1
            have e2 : bits .or .u64 (N : Int) (M : Int) = (N2 : Int) := by rw [← hM, hor.out, hN2]
            have hNN := hide hN2
            clear hM hN2 q1 q2 q3 h9 hnf
            by_cases hlast : y < 128
            · by_cases hz : 0 < k ∧ y = 0
              · obtain ⟨hz1, hz2⟩ := hz
                have hv := hide (readVal_bad (e := 20) ha' (by rw [← hR.out, HF.out, hd.out, hz2, readF_zero _ _ _ _ hz1]) (by omega))
                have hz3 : y ≤ 0 := by omega
                clear hd hz2
                go_wp2_with fail
                all_goals (go_ret3; exact ⟨by rw [hv.out]; rfl, rfl⟩)
              · have hv := hide (readVal_ok (k := k) (N := N2) ha' (by rw [← hR.out, HF.out, hd.out, readF_last _ _ _ _ _ Hfar.out hlast hz, hNN.out]))
                clear hd
                by_cases hk0 : 0 < k
                · have hy0' : 0 < y := by
                    have : ¬ y = 0 := fun h => hz ⟨hk0, h⟩
                    omega
                  clear hz
                  go_wp2_with fail
                  all_goals (go_ret3; exact ⟨by rw [hv.out]; rfl, rfl⟩)
                · have hk0' : k ≤ 0 := by omega
                  clear hz
                  go_wp2_with fail
                  all_goals (go_ret3; exact ⟨by rw [hv.out]; rfl, rfl⟩)
            · have hR2 : Hid (readF (10 - (k + 1)) (k + 1) N2 (xs.drop (a + (k + 1))) = readF 10 0 0 (xs.drop a)) := by
                show _ = _
                rw [← hR.out, HF.out, hd.out, readF_on _ _ _ _ _ Hfar.out hlast, hNN.out, show 10 - (k + 1) = f by have := HF.out; omega, Nat.add_assoc]
              have qn2 : Hid (N2 < 128 ^ (k + 1)) := by have := qn.out; rw [hNN.out] at this; exact this
              clear hd
              go_wp2_with fail
              exact ⟨⟨k + 1, N2, by omega, by omega, rfl, by go_num, qn2, hR2⟩, by simp [intOf]; omega⟩
    · obtain rfl : k = 10 := by omega
      have hv := hide (readVal_bad (e := 20) ha' (by rw [← hR.out]; rfl) (by omega))
      go_wp2_with fail
      go_ret3
      exact ⟨by rw [hv.out]; rfl, rfl⟩
end Go.Proofs.Ytlcjhbemgagchaa
end

section
/-
  own, field (tlv); form (the reference).
-/
namespace Go.Proofs.Ytlcjhbemgagchaa
open Go.RowKit
set_option linter.unusedVariables false

/-- Behind the call: new memory that holds the bytes xs. -/
def BP (n : Nat) (xs : List Nat) (w : World) (e : Ending) (w' : World) : Prop :=
  ∃ A c g, e = .returned (.slice A n c) ∧ Ow w' 5 1 A n c (xs.map bn) g ∧ (∀ b, g = some b → w.heap.size ≤ b) ∧ Fr (fun _ => False) w w'
theorem BP.of {xs : List Nat} {w : World} {e : Ending} {w' : World} (h : ShortPost xs w e w') : BP xs.length xs w e w' := h
theorem Ow.len {w : World} {e : TypeId} {A : Option Addr} {n c : Nat} {xs : List Nat} {g : Option Nat} (h : Ow w e 1 A n c (xs.map bn) g) : n = xs.length := by have := h.1; simpa using this.symm
theorem Sl.len {w : World} {A : Option Addr} {n : Nat} {xs : List Nat} (h : Sl w 1 A n (xs.map bn)) : n = xs.length := by have := h.1; simpa using this.symm
theorem fresh_of {w w' : World} {g g' : Option Nat} {S : Nat → Prop} {k : Nat} (hf : Fr S w w') (hg : ∀ b, g = some b → w.heap.size ≤ b) (hk : w'.heap.size ≤ k) (h : g' = g ∨ ∃ b, g' = some b ∧ k ≤ b) : ∀ b, g' = some b → w.heap.size ≤ b := by
  intro b hb
  have := hf.size
  rcases h with rfl | ⟨b', rfl, h⟩
  · exact hg b hb
  · cases hb; omega

/-- A slice that is gone on with: its block g, behind it g'; nothing else that was there has turned. -/
structure Gr (w : World) (g : Option Nat) (w' : World) (g' : Option Nat) : Prop where
  fr : Fr (fun k => some k = g) w w'
  at_ : g' = g ∨ ∃ b, g' = some b ∧ w.heap.size ≤ b
section
variable {w w' w'' : World} {g g' g'' : Option Nat}
theorem Gr.refl (w : World) (g : Option Nat) : Gr w g w g := ⟨Fr.refl _ _, .inl rfl⟩
theorem Gr.trans (h : Gr w g w' g') (k : Gr w' g' w'' g'') : Gr w g w'' g'' := by
  refine ⟨h.fr.comp k.fr fun i hi e => ?_, ?_⟩
  · rcases h.at_ with h1 | ⟨b, h1, hb⟩
    · exact e.trans h1
    · rw [h1] at e; cases e; omega
  · have := h.fr.size
    rcases k.at_ with h1 | ⟨b, h1, hb⟩
    · rw [h1]; exact h.at_
    · exact .inr ⟨b, h1, by omega⟩
theorem Gr.quiet (h : Gr w g w' g') (k : Fr (fun _ => False) w' w'') : Gr w g w'' g' := ⟨h.fr.comp k fun _ _ e => e.elim, h.at_⟩
theorem Gr.of {w1 : World} (hf : Fr (fun k => some k = g) w1 w') (hg : g' = g ∨ ∃ b, g' = some b ∧ w1.heap.size ≤ b) : Gr w1 g w' g' := ⟨hf, hg⟩
theorem Gr.sl (h : Gr w g w' g') {size n : Nat} {A : Option Addr} {xs : List Value} (hS : Sl w size A n xs) (hap : ∀ b o, A = some ⟨b, o, none⟩ → g ≠ some b) : Sl w' size A n xs :=
  hS.fr (B := 0) h.fr fun b ⟨o, e⟩ _ e' => hap b o e e'.symm
/-- what stands apart from g ahead stands apart from g' behind. -/
theorem Gr.apart (h : Gr w g w' g') {n : Nat} {A : Option Addr} {xs : List Value} (hS : Sl w 1 A n xs) (hap : ∀ b o, A = some ⟨b, o, none⟩ → 0 < n → g ≠ some b) : ∀ b o, A = some ⟨b, o, none⟩ → 0 < n → g' ≠ some b := by
  intro b o hA hn e
  rcases h.at_ with h1 | ⟨b', h1, hb⟩
  · exact hap b o hA hn (h1 ▸ e)
  · rw [h1] at e; cases e
    obtain ⟨b2, o2, h2, hc2⟩ := hS.2 hn
    rw [hA] at h2; cases h2
    have hx : 0 < xs.length := by rw [hS.1]; omega
    have := World.block_lt_of_cell? w _ (hc2 0 _ (List.getElem?_eq_getElem hx))
    simp at this; omega
theorem Gr.sl' (h : Gr w g w' g') {n : Nat} {A : Option Addr} {xs : List Value} (hS : Sl w 1 A n xs) (hap : ∀ b o, A = some ⟨b, o, none⟩ → 0 < n → g ≠ some b) : Sl w' 1 A n xs := by
  refine ⟨hS.1, fun hn => ?_⟩
  exact (hS.fr (B := 0) h.fr fun b ⟨o, e⟩ _ e' => hap b o e hn e'.symm).2 hn
end

set_option maxHeartbeats 1000000 in
set_option maxRecDepth 4000 in
theorem own_any (w : World) (xs : List Nat) (A : Option Addr) (n c : Nat) (hn : n ≤ 140737488355328) (hA : Sl w 1 A n (xs.map bn)) :
    Calls Try.prog 110 #[.slice A n c] w (BP n xs w) := by
  obtain ⟨i0, hi, hz0, hz1, hz2⟩ := info_parts info5
  by_cases h0 : n = 0
  · subst h0
    have hx : xs = [] := List.eq_nil_of_length_eq_zero hA.len.symm
    subst hx
    go_enter Try.func110, Try.ntmps110
    go_wp2
    go_ret
    exact ⟨none, 0, none, rfl, Ow.nil_ _ _ _, (fun b h => by cases h), Fr.refl _ _⟩
  · have h1 : ((n : Int) == 0) = false := by simp; omega
    have hnil : A ≠ none := by
      obtain ⟨b, o, h, _⟩ := hA.2 (by omega)
      rw [h]; simp
    obtain ⟨b, o, rfl, hc⟩ := hA.2 (by omega)
    clear hnil hc
    have hnn := fun (w : World) (a : Option Addr) (l c : Nat) => Lib.run_eql_slice_nil (P := Try.prog) w 22 5 a l c 0 0 Try.underlying22
    go_enter Try.func110, Try.ntmps110
    go_wp2_with (first | (at_builtin; refine wpList_append_ow _ rfl _ _ 22 rfl 5 i0 (.int .u8 0) 1 1 Try.underlying22 hi hz0 hz1 hz2 rfl (by decide) _ _ _ _ _ rfl (Ow.made _ _ 1 0 0 _ [] rfl (by omega) (by unfold maxLen; omega) rfl) _ _ _ _ rfl (hA.below ((Fr.refl (fun _ => False) _).alloc _) (fun _ _ => id)) (bn_one _) (by unfold maxLen; omega) (by omega) ?_) | go_in)
    intro A2 c2 w2 g2 hO2 hf2 hg2
    have hc1 := hO2.cap.1
    have hc2 : c2 ≤ 9223372036854775807 := by have := hO2.cap.2; unfold maxLen at this; exact this
    go_wp2_with (first | go_in)
    go_ret
    refine ⟨A2, n, g2, rfl, by simpa using hO2.clip, ?_, ((Fr.refl _ _).alloc _).comp hf2 fun i hi e => by omega⟩
    intro b' hb'
    rcases hg2 with rfl | ⟨b2, rfl, h⟩
    · cases hb'; exact Nat.le_refl _
    · cases hb'; omega

/-- A field's form. -/
def formF (tag : Nat) (v : List Nat) : List Nat := tag :: short v.length ++ v
theorem formF_len (tag : Nat) (v : List Nat) : (formF tag v).length = 1 + (short v.length).length + v.length := by simp [formF]; omega

/-- Behind field: the bytes, with ys behind them; in b's own block, or in new memory. -/
def FieldPost (n : Nat) (ys : List Nat) (g : Option Nat) (w : World) (e : Ending) (w' : World) : Prop :=
  ∃ A c g', e = .returned (.slice A n c) ∧ Ow w' 5 1 A n c (ys.map bn) g' ∧ Gr w g w' g'

set_option maxHeartbeats 2000000 in
set_option maxRecDepth 4000 in
theorem field_any (w : World) (xs vs : List Nat) (A V : Option Addr) (n c m d : Nat) (g : Option Nat) (t : Nat) (ht : t < 256) (hn : n ≤ 140000000000000) (hm : m ≤ 500000000000) (hO : Ow w 5 1 A n c (xs.map bn) g) (hV : Sl w 1 V m (vs.map bn))
    (hap : ∀ b o, V = some ⟨b, o, none⟩ → 0 < m → g ≠ some b) :
    Calls Try.prog 133 #[.slice A n c, .int .i64 (t : Int), .slice V m d] w (FieldPost (n + 1 + (short m).length + m) (xs ++ formF t vs) g w) := by
  obtain ⟨i0, hi, hz0, hz1, hz2⟩ := info_parts info5
  have hml := hV.len
  have hmU : m < U64 := by unfold U64; omega
  have hsl := short_le hmU
  have Hml := hide hml
  clear hml
  have hu : IntKind.u8.wrap (t : Int) = (t : Int) := IntWalk.u8_in _ (by omega)
  have hu2 : IntKind.u64.wrap (m : Int) = (m : Int) := IntWalk.u64_in _ (by omega)
  go_enter Try.func133, Try.ntmps133
  go_wp2_with (at_builtin; refine wpList_append_ow _ rfl _ _ 22 rfl 5 i0 (.int .u8 0) 1 1 Try.underlying22 hi hz0 hz1 hz2 rfl (by decide) _ _ _ _ _ rfl (hO.fr ((Fr.refl (fun _ => False) _).alloc _) (fun _ _ => id)) _ _ _ _ rfl (Sl.one _ _ _) (bn_one [_]) (by unfold maxLen; omega) (by omega) ?_)
  intro A1 c1 w1 g1 hO1 hf1 hg1
  have h01 : Gr w g w1 g1 := ((Gr.refl _ _).quiet ((Fr.refl _ _).alloc _)).trans ⟨hf1, by simpa using hg1⟩
  go_wp2_with fail
  refine (short_any _ m hmU).mono ?_
  rintro e w2 ⟨A2, c2, g2, rfl, hO2, hg2, hf2⟩
  have hO1' := hO1.fr hf2 (fun _ _ => id)
  have h02 := h01.quiet hf2
  go_wp2_with (at_builtin; refine wpList_append_ow _ rfl _ _ 22 rfl 5 i0 (.int .u8 0) 1 1 Try.underlying22 hi hz0 hz1 hz2 rfl (by decide) _ _ _ _ _ rfl hO1' _ _ _ _ rfl hO2.sl (bn_one _) (by unfold maxLen; omega) (by omega) ?_)
  intro A3 c3 w3 g3 hO3 hf3 hg3
  have h03 := h02.trans ⟨hf3, hg3⟩
  have hV3 := h03.sl' hV hap
  go_wp2_with (at_builtin; refine wpList_append_ow _ rfl _ _ 22 rfl 5 i0 (.int .u8 0) 1 1 Try.underlying22 hi hz0 hz1 hz2 rfl (by decide) _ _ _ _ _ rfl hO3 _ _ _ _ rfl hV3 (bn_one _) (by unfold maxLen; omega) (by omega) ?_)
  intro A4 c4 w4 g4 hO4 hf4 hg4
  have h04 := h03.trans ⟨hf4, hg4⟩
  go_wp2_with fail
  go_ret
  refine ⟨A4, c4, g4, rfl, ?_, h04⟩
  have := Hml.out
  subst this
  simpa [formF, bn] using hO4

set_option maxHeartbeats 2000000 in
set_option maxRecDepth 4000 in
theorem form_any (w : World) (vs : List Nat) (V : Option Addr) (m d : Nat) (t : Nat) (ht : t < 256) (hm : m ≤ 140000000000000) (hV : Sl w 1 V m (vs.map bn)) :
    Calls Try.prog 116 #[.int .i64 (t : Int), .slice V m d] w (BP (1 + (short m).length + m) (formF t vs) w) := by
  obtain ⟨i0, hi, hz0, hz1, hz2⟩ := info_parts info5
  have hmU : m < U64 := by unfold U64; omega
  have hsl := short_le hmU
  have Hml := hide hV.len
  have hu : IntKind.u8.wrap (t : Int) = (t : Int) := IntWalk.u8_in _ (by omega)
  have hu2 : IntKind.u64.wrap (m : Int) = (m : Int) := IntWalk.u64_in _ (by omega)
  go_enter Try.func116, Try.ntmps116
  go_wp2_with fail
  have hO1 := Ow.made w 5 1 1 1 #[bn t] [bn t] rfl (by omega) (by unfold maxLen; omega) rfl
  refine (rshort_any _ m hmU).mono ?_
  rintro e w2 ⟨A2, c2, g2, rfl, hO2, hg2, hf2⟩
  have hO1' := hO1.fr hf2 (fun _ _ => id)
  have hfa : Fr (fun _ => False) w w2 := ((Fr.refl _ _).alloc _).trans hf2
  go_wp2_with (at_builtin; refine wpList_append_ow _ rfl _ _ 22 rfl 5 i0 (.int .u8 0) 1 1 Try.underlying22 hi hz0 hz1 hz2 rfl (by decide) _ _ _ _ _ rfl hO1' _ _ _ _ rfl hO2.sl (bn_one _) (by unfold maxLen; omega) (by omega) ?_)
  intro A3 c3 w3 g3 hO3 hf3 hg3
  have h23 : Gr w2 (some w.heap.size) w3 g3 := ⟨hf3.mono fun k _ e => by simpa using e, hg3⟩
  have hV2 := hV.below hfa (fun _ _ => id)
  have hapV : ∀ b o, V = some ⟨b, o, none⟩ → 0 < m → some w.heap.size ≠ some b := fun b o hA h0 e => by
    cases e
    obtain ⟨b2, o2, h2, hc2⟩ := hV.2 h0
    rw [hA] at h2; cases h2
    have hx : 0 < (vs.map bn).length := by rw [hV.1]; omega
    have := World.block_lt_of_cell? w _ (hc2 0 _ (List.getElem?_eq_getElem hx))
    simp at this
  have hV3 := h23.sl' hV2 hapV
  go_wp2_with (at_builtin; refine wpList_append_ow _ rfl _ _ 22 rfl 5 i0 (.int .u8 0) 1 1 Try.underlying22 hi hz0 hz1 hz2 rfl (by decide) _ _ _ _ _ rfl hO3 _ _ _ _ rfl hV3 (bn_one _) (by unfold maxLen; omega) (by omega) ?_)
  intro A4 c4 w4 g4 hO4 hf4 hg4
  have h24 := h23.trans ⟨hf4, hg4⟩
  go_wp2_with fail
  go_ret
  refine ⟨A4, c4, g4, rfl, ?_, ?_, hfa.comp h24.fr fun i hi e => by cases e; omega⟩
  · have := Hml.out
    subst this
    simpa [formF, bn] using hO4
  · intro b hb
    have := hfa.size
    rcases h24.at_ with h | ⟨b', h, hb'⟩
    · rw [h] at hb; cases hb; exact Nat.le_refl _
    · rw [h] at hb; cases hb; omega
end Go.Proofs.Ytlcjhbemgagchaa
end
