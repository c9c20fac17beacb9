/-
  Texts merged into one, to keep the claim small: TlvRead2, TlvField, TlvPut, Bulk, BulkT, StL.
-/
import Derived.Test.YtlcjhbemgagchaaMc1
import Derived.Laws.ShiftsVarLaws
import Derived.Deep.RegionHeld3
import Derived.Deep.DeepCutAuto
import Derived.Deep.DrawnRows
import Derived.Test.YtlcjhbemgagchaaRows
section
/-
  tlv.ReadShort is readShort.
-/
namespace Go.Proofs.Ytlcjhbemgagchaa
open Go.RowKit
set_option linter.unusedVariables false

theorem and127_nat : ∀ m : Fin 256, m.val &&& 127 = m.val % 128 := by decide +kernel
theorem and127 (y : Nat) (h : y < 256) : bits .and .u8 (y : Int) 127 = (y : Int) % 128 := by
  have h := and127_nat ⟨y, h⟩
  simp only at h
  rw [show (127 : Int) = ((127 : Nat) : Int) from rfl, u8_and_nat _ _ (by omega) (by omega), h]
  omega

set_option maxHeartbeats 1000000 in
set_option maxRecDepth 4000 in
theorem tread_any (w : World) (xs : List Nat) (A : Option Addr) (n c : Nat) (at_ : Int) (hn : n ≤ 140737488355328) (hl : n = xs.length) (h256 : ∀ x ∈ xs, x < 256) (hA : Sl w 1 A n (xs.map bn)) :
    Calls Try.prog 125 #[.slice A n c, .int .i64 at_] w fun e w' => e = .returned (ReadVal xs at_) ∧ w = w' := by
  have Hl := hide hl
  clear hl
  by_cases h0 : at_ < 0
  · have hv := hide (readVal_out (xs := xs) (at_ := at_) (.inl h0))
    go_enter Try.func125, Try.ntmps125
    go_wp2
    go_ret3
    exact ⟨by rw [hv.out]; rfl, rfl⟩
  by_cases h1 : (n : Int) < at_
  · have hv := hide (readVal_out (xs := xs) (at_ := at_) (.inr (by rw [← Hl.out]; exact h1)))
    go_enter Try.func125, Try.ntmps125
    go_wp2
    go_ret3
    exact ⟨by rw [hv.out]; rfl, rfl⟩
  obtain ⟨a, rfl⟩ : ∃ a : Nat, at_ = (a : Int) := ⟨at_.toNat, by omega⟩
  have ha : a ≤ n := by omega
  have ha' : a ≤ xs.length := by rw [← Hl.out]; exact ha
  go_enter Try.func125, Try.ntmps125
  go_wp2_with fail
  go_loop [7, 18] (fun s i => ∃ (k N : Nat), k ≤ 10 ∧ a + k ≤ n ∧ s = .int .u64 (N : Int) ∧ i = .int .i64 (k : Int) ∧ Hid (N < 128 ^ k) ∧
    Hid (readF (10 - k) k N (xs.drop (a + k)) = readF 10 0 0 (xs.drop a))) (fun _ i => 10 - (intOf i).toNat)
  case atStart => exact ⟨0, 0, by omega, by omega, rfl, rfl, show 0 < 1 by omega, rfl⟩
  case round =>
    obtain ⟨k, N, hk, hkn, rfl, rfl, hN, hR⟩ := hrel
    by_cases hk9 : k ≤ 9
    · obtain ⟨f, hf⟩ : ∃ f, 10 - k = f + 1 := ⟨9 - k, by omega⟩
      have HF := hide hf
      clear hf
      by_cases hend : n ≤ a + k
      · have hv := hide (readVal_bad (e := 22) ha' (by rw [← hR.out, HF.out, List.drop_eq_nil_of_le (by rw [← Hl.out]; exact hend)]; rfl) (by omega))
        go_wp2_with fail
        go_ret3
        exact ⟨by rw [hv.out]; rfl, rfl⟩
      · have hak : a + k < xs.length := by rw [← Hl.out]; omega
        have hu := bn_get hak
        obtain ⟨b, o, rfl, c0⟩ := hA.at_ hu
        obtain ⟨y, hy⟩ : ∃ y, xs.getD (a + k) 0 = y := ⟨_, rfl⟩
        have hd : Hid (xs.drop (a + k) = y :: xs.drop (a + k + 1)) := by
          show _ = _
          rw [List.drop_eq_getElem_cons hak, ← hy]; simp [List.getD, hak]
        have hy256 : y < 256 := h256 y (by rw [← hy]; simp [List.getD, hak])
        rw [hy] at c0
        clear hu hy hA h256 hak
        by_cases hfar : k = 9 ∧ 1 < y
        · obtain ⟨h9, hy1⟩ := hfar
          have hv := hide (readVal_bad (e := 20) ha' (by rw [← hR.out, HF.out, hd.out, h9, readF_far _ _ _ _ hy1]) (by omega))
          have h9' : 9 ≤ k := by omega
          clear hd h9
          go_wp2_with fail
          all_goals (go_ret3; exact ⟨by rw [hv.out]; rfl, rfl⟩)
        · obtain ⟨q1, q2, q3⟩ := read_fits hk9 hN.out rfl hfar
          have qn := hide (read_next hk9 hN.out hfar)
          have hand := and127 y hy256
          have hor : Hid (bits .or .u64 (N : Int) ((128 ^ k * (y % 128) : Nat) : Int) = ((N + y % 128 * 128 ^ k : Nat) : Int)) := by
            show _ = _
            unfold U64 at q1 q2
            rw [u64_or_nat _ _ (by omega) (by omega), ← q3]
            have e7 : (128 : Nat) ^ k = 2 ^ (7 * k) := by rw [Nat.pow_mul]
            have := nat_join (7 * k) (128 ^ k * (y % 128)) N (by rw [e7]; exact Nat.mul_mod_right _ _) (by rw [← e7]; exact hN.out)
            rw [Nat.or_comm, this, Nat.add_comm]
          have hnf : k = 9 → y ≤ 1 := fun h => by have := hfar; omega
          have Hfar := hide hfar
          clear hfar
          obtain ⟨N2, hN2⟩ : ∃ N2, N + y % 128 * 128 ^ k = N2 := ⟨_, rfl⟩
          by_cases h9 : k = 9
          · have hy1 := hnf h9
            have h9' : 9 ≤ k := by omega
            have hyl : y < 128 := by omega
            have hor9 : Hid (bits .or .u64 (N : Int) ((y : Int) % 128 * 9223372036854775808) = (N2 : Int)) := by
              show _ = _
              have := hor.out
              rw [hN2, h9] at this
              rw [← this]
              congr 1
              have e : (128 : Nat) ^ 9 = 9223372036854775808 := rfl
              rw [e]; omega
            by_cases hz : y = 0
            · have hv := hide (readVal_bad (e := 20) ha' (by rw [← hR.out, HF.out, hd.out, hz, readF_zero _ _ _ _ (by omega)]) (by omega))
              have hz3 : y ≤ 0 := by omega
              clear hd hz hnf h9 q1 q2 q3 hN2
              go_wp2_with fail
              all_goals (go_ret3; exact ⟨by rw [hv.out]; rfl, rfl⟩)
            · have hv := hide (readVal_ok (k := k) (N := N2) ha' (by rw [← hR.out, HF.out, hd.out, readF_last _ _ _ _ _ Hfar.out hyl (by omega), hN2]))
              have hz3 : 0 < y := by omega
              clear hd hz hnf h9 q1 q2 q3 hN2
              go_wp2_with fail
              go_ret3
              obtain rfl : k = 9 := by omega
              refine ⟨?_, rfl⟩
              rw [hv.out, ← hor9.out]
              rfl
          · have h9' : k < 9 := by omega
            have e1 : IntKind.u64.wrap ((y : Int) % 128 * 2 ^ (7 * k)) = ((128 ^ k * (y % 128) : Nat) : Int) := by
              have e7 : (128 : Nat) ^ k = 2 ^ (7 * k) := by rw [Nat.pow_mul]
              have : (y : Int) % 128 * 2 ^ (7 * k) = ((128 ^ k * (y % 128) : Nat) : Int) := by rw [e7]; push_cast; rw [Int.mul_comm]
              rw [this, IntWalk.u64_in _ (by unfold U64 at q1; omega)]
            obtain ⟨M, hM⟩ : ∃ M, 128 ^ k * (y % 128) = M := ⟨_, rfl⟩
            rw [hM] at e1
            have e2 : bits .or .u64 (N : Int) (M : Int) = (N2 : Int) := by rw [← hM, hor.out, hN2]
            have hNN := hide hN2
            clear hM hN2 q1 q2 q3 h9 hnf
            by_cases hlast : y < 128
            · by_cases hz : 0 < k ∧ y = 0
              · obtain ⟨hz1, hz2⟩ := hz
                have hv := hide (readVal_bad (e := 20) ha' (by rw [← hR.out, HF.out, hd.out, hz2, readF_zero _ _ _ _ hz1]) (by omega))
                have hz3 : y ≤ 0 := by omega
                clear hd hz2
                go_wp2_with fail
                all_goals (go_ret3; exact ⟨by rw [hv.out]; rfl, rfl⟩)
              · have hv := hide (readVal_ok (k := k) (N := N2) ha' (by rw [← hR.out, HF.out, hd.out, readF_last _ _ _ _ _ Hfar.out hlast hz, hNN.out]))
                clear hd
                by_cases hk0 : 0 < k
                · have hy0' : 0 < y := by
                    have : ¬ y = 0 := fun h => hz ⟨hk0, h⟩
                    omega
                  clear hz
                  go_wp2_with fail
                  all_goals (go_ret3; exact ⟨by rw [hv.out]; rfl, rfl⟩)
                · have hk0' : k ≤ 0 := by omega
                  clear hz
                  go_wp2_with fail
                  all_goals (go_ret3; exact ⟨by rw [hv.out]; rfl, rfl⟩)
            · have hR2 : Hid (readF (10 - (k + 1)) (k + 1) N2 (xs.drop (a + (k + 1))) = readF 10 0 0 (xs.drop a)) := by
                show _ = _
                rw [← hR.out, HF.out, hd.out, readF_on _ _ _ _ _ Hfar.out hlast, hNN.out, show 10 - (k + 1) = f by have := HF.out; omega, Nat.add_assoc]
              have qn2 : Hid (N2 < 128 ^ (k + 1)) := by have := qn.out; rw [hNN.out] at this; exact this
              clear hd
              go_wp2_with fail
              exact ⟨⟨k + 1, N2, by omega, by omega, rfl, by go_num, qn2, hR2⟩, by simp [intOf]; omega⟩
    · obtain rfl : k = 10 := by omega
      have hv := hide (readVal_bad (e := 20) ha' (by rw [← hR.out]; rfl) (by omega))
      go_wp2_with fail
      go_ret3
      exact ⟨by rw [hv.out]; rfl, rfl⟩
end Go.Proofs.Ytlcjhbemgagchaa
end

section
/-
  own, field (tlv); form (the reference).
-/
namespace Go.Proofs.Ytlcjhbemgagchaa
open Go.RowKit
set_option linter.unusedVariables false

/-- Behind the call: new memory that holds the bytes xs. -/
def BP (n : Nat) (xs : List Nat) (w : World) (e : Ending) (w' : World) : Prop :=
  ∃ A c g, e = .returned (.slice A n c) ∧ Ow w' 5 1 A n c (xs.map bn) g ∧ (∀ b, g = some b → w.heap.size ≤ b) ∧ Fr (fun _ => False) w w'
theorem BP.of {xs : List Nat} {w : World} {e : Ending} {w' : World} (h : ShortPost xs w e w') : BP xs.length xs w e w' := h
theorem Ow.len {w : World} {e : TypeId} {A : Option Addr} {n c : Nat} {xs : List Nat} {g : Option Nat} (h : Ow w e 1 A n c (xs.map bn) g) : n = xs.length := by have := h.1; simpa using this.symm
theorem Sl.len {w : World} {A : Option Addr} {n : Nat} {xs : List Nat} (h : Sl w 1 A n (xs.map bn)) : n = xs.length := by have := h.1; simpa using this.symm
theorem fresh_of {w w' : World} {g g' : Option Nat} {S : Nat → Prop} {k : Nat} (hf : Fr S w w') (hg : ∀ b, g = some b → w.heap.size ≤ b) (hk : w'.heap.size ≤ k) (h : g' = g ∨ ∃ b, g' = some b ∧ k ≤ b) : ∀ b, g' = some b → w.heap.size ≤ b := by
  intro b hb
  have := hf.size
  rcases h with rfl | ⟨b', rfl, h⟩
  · exact hg b hb
  · cases hb; omega

/-- A slice that is gone on with: its block g, behind it g'; nothing else that was there has turned. -/
structure Gr (w : World) (g : Option Nat) (w' : World) (g' : Option Nat) : Prop where
  fr : Fr (fun k => some k = g) w w'
  at_ : g' = g ∨ ∃ b, g' = some b ∧ w.heap.size ≤ b
section
variable {w w' w'' : World} {g g' g'' : Option Nat}
theorem Gr.refl (w : World) (g : Option Nat) : Gr w g w g := ⟨Fr.refl _ _, .inl rfl⟩
theorem Gr.trans (h : Gr w g w' g') (k : Gr w' g' w'' g'') : Gr w g w'' g'' := by
  refine ⟨h.fr.comp k.fr fun i hi e => ?_, ?_⟩
  · rcases h.at_ with h1 | ⟨b, h1, hb⟩
    · exact e.trans h1
    · rw [h1] at e; cases e; omega
  · have := h.fr.size
    rcases k.at_ with h1 | ⟨b, h1, hb⟩
    · rw [h1]; exact h.at_
    · exact .inr ⟨b, h1, by omega⟩
theorem Gr.quiet (h : Gr w g w' g') (k : Fr (fun _ => False) w' w'') : Gr w g w'' g' := ⟨h.fr.comp k fun _ _ e => e.elim, h.at_⟩
theorem Gr.of {w1 : World} (hf : Fr (fun k => some k = g) w1 w') (hg : g' = g ∨ ∃ b, g' = some b ∧ w1.heap.size ≤ b) : Gr w1 g w' g' := ⟨hf, hg⟩
theorem Gr.sl (h : Gr w g w' g') {size n : Nat} {A : Option Addr} {xs : List Value} (hS : Sl w size A n xs) (hap : ∀ b o, A = some ⟨b, o, none⟩ → g ≠ some b) : Sl w' size A n xs :=
  hS.fr (B := 0) h.fr fun b ⟨o, e⟩ _ e' => hap b o e e'.symm
/-- what stands apart from g ahead stands apart from g' behind. -/
theorem Gr.apart (h : Gr w g w' g') {n : Nat} {A : Option Addr} {xs : List Value} (hS : Sl w 1 A n xs) (hap : ∀ b o, A = some ⟨b, o, none⟩ → 0 < n → g ≠ some b) : ∀ b o, A = some ⟨b, o, none⟩ → 0 < n → g' ≠ some b := by
  intro b o hA hn e
  rcases h.at_ with h1 | ⟨b', h1, hb⟩
  · exact hap b o hA hn (h1 ▸ e)
  · rw [h1] at e; cases e
    obtain ⟨b2, o2, h2, hc2⟩ := hS.2 hn
    rw [hA] at h2; cases h2
    have hx : 0 < xs.length := by rw [hS.1]; omega
    have := World.block_lt_of_cell? w _ (hc2 0 _ (List.getElem?_eq_getElem hx))
    simp at this; omega
theorem Gr.sl' (h : Gr w g w' g') {n : Nat} {A : Option Addr} {xs : List Value} (hS : Sl w 1 A n xs) (hap : ∀ b o, A = some ⟨b, o, none⟩ → 0 < n → g ≠ some b) : Sl w' 1 A n xs := by
  refine ⟨hS.1, fun hn => ?_⟩
  exact (hS.fr (B := 0) h.fr fun b ⟨o, e⟩ _ e' => hap b o e hn e'.symm).2 hn
end

set_option maxHeartbeats 1000000 in
set_option maxRecDepth 4000 in
theorem own_any (w : World) (xs : List Nat) (A : Option Addr) (n c : Nat) (hn : n ≤ 140737488355328) (hA : Sl w 1 A n (xs.map bn)) :
    Calls Try.prog 110 #[.slice A n c] w (BP n xs w) := by
  obtain ⟨i0, hi, hz0, hz1, hz2⟩ := info_parts info5
  by_cases h0 : n = 0
  · subst h0
    have hx : xs = [] := List.eq_nil_of_length_eq_zero hA.len.symm
    subst hx
    go_enter Try.func110, Try.ntmps110
    go_wp2
    go_ret
    exact ⟨none, 0, none, rfl, Ow.nil_ _ _ _, (fun b h => by cases h), Fr.refl _ _⟩
  · have h1 : ((n : Int) == 0) = false := by simp; omega
    have hnil : A ≠ none := by
      obtain ⟨b, o, h, _⟩ := hA.2 (by omega)
      rw [h]; simp
    obtain ⟨b, o, rfl, hc⟩ := hA.2 (by omega)
    clear hnil hc
    have hnn := fun (w : World) (a : Option Addr) (l c : Nat) => Lib.run_eql_slice_nil (P := Try.prog) w 22 5 a l c 0 0 Try.underlying22
    go_enter Try.func110, Try.ntmps110
    go_wp2_with (first | (at_builtin; refine wpList_append_ow _ rfl _ _ 22 rfl 5 i0 (.int .u8 0) 1 1 Try.underlying22 hi hz0 hz1 hz2 rfl (by decide) _ _ _ _ _ rfl (Ow.made _ _ 1 0 0 _ [] rfl (by omega) (by unfold maxLen; omega) rfl) _ _ _ _ rfl (hA.below ((Fr.refl (fun _ => False) _).alloc _) (fun _ _ => id)) (bn_one _) (by unfold maxLen; omega) (by omega) ?_) | go_in)
    intro A2 c2 w2 g2 hO2 hf2 hg2
    have hc1 := hO2.cap.1
    have hc2 : c2 ≤ 9223372036854775807 := by have := hO2.cap.2; unfold maxLen at this; exact this
    go_wp2_with (first | go_in)
    go_ret
    refine ⟨A2, n, g2, rfl, by simpa using hO2.clip, ?_, ((Fr.refl _ _).alloc _).comp hf2 fun i hi e => by omega⟩
    intro b' hb'
    rcases hg2 with rfl | ⟨b2, rfl, h⟩
    · cases hb'; exact Nat.le_refl _
    · cases hb'; omega

/-- A field's form. -/
def formF (tag : Nat) (v : List Nat) : List Nat := tag :: short v.length ++ v
theorem formF_len (tag : Nat) (v : List Nat) : (formF tag v).length = 1 + (short v.length).length + v.length := by simp [formF]; omega

/-- Behind field: the bytes, with ys behind them; in b's own block, or in new memory. -/
def FieldPost (n : Nat) (ys : List Nat) (g : Option Nat) (w : World) (e : Ending) (w' : World) : Prop :=
  ∃ A c g', e = .returned (.slice A n c) ∧ Ow w' 5 1 A n c (ys.map bn) g' ∧ Gr w g w' g'

set_option maxHeartbeats 2000000 in
set_option maxRecDepth 4000 in
theorem field_any (w : World) (xs vs : List Nat) (A V : Option Addr) (n c m d : Nat) (g : Option Nat) (t : Nat) (ht : t < 256) (hn : n ≤ 140000000000000) (hm : m ≤ 500000000000) (hO : Ow w 5 1 A n c (xs.map bn) g) (hV : Sl w 1 V m (vs.map bn))
    (hap : ∀ b o, V = some ⟨b, o, none⟩ → 0 < m → g ≠ some b) :
    Calls Try.prog 133 #[.slice A n c, .int .i64 (t : Int), .slice V m d] w (FieldPost (n + 1 + (short m).length + m) (xs ++ formF t vs) g w) := by
  obtain ⟨i0, hi, hz0, hz1, hz2⟩ := info_parts info5
  have hml := hV.len
  have hmU : m < U64 := by unfold U64; omega
  have hsl := short_le hmU
  have Hml := hide hml
  clear hml
  have hu : IntKind.u8.wrap (t : Int) = (t : Int) := IntWalk.u8_in _ (by omega)
  have hu2 : IntKind.u64.wrap (m : Int) = (m : Int) := IntWalk.u64_in _ (by omega)
  go_enter Try.func133, Try.ntmps133
  go_wp2_with (at_builtin; refine wpList_append_ow _ rfl _ _ 22 rfl 5 i0 (.int .u8 0) 1 1 Try.underlying22 hi hz0 hz1 hz2 rfl (by decide) _ _ _ _ _ rfl (hO.fr ((Fr.refl (fun _ => False) _).alloc _) (fun _ _ => id)) _ _ _ _ rfl (Sl.one _ _ _) (bn_one [_]) (by unfold maxLen; omega) (by omega) ?_)
  intro A1 c1 w1 g1 hO1 hf1 hg1
  have h01 : Gr w g w1 g1 := ((Gr.refl _ _).quiet ((Fr.refl _ _).alloc _)).trans ⟨hf1, by simpa using hg1⟩
  go_wp2_with fail
  refine (short_any _ m hmU).mono ?_
  rintro e w2 ⟨A2, c2, g2, rfl, hO2, hg2, hf2⟩
  have hO1' := hO1.fr hf2 (fun _ _ => id)
  have h02 := h01.quiet hf2
  go_wp2_with (at_builtin; refine wpList_append_ow _ rfl _ _ 22 rfl 5 i0 (.int .u8 0) 1 1 Try.underlying22 hi hz0 hz1 hz2 rfl (by decide) _ _ _ _ _ rfl hO1' _ _ _ _ rfl hO2.sl (bn_one _) (by unfold maxLen; omega) (by omega) ?_)
  intro A3 c3 w3 g3 hO3 hf3 hg3
  have h03 := h02.trans ⟨hf3, hg3⟩
  have hV3 := h03.sl' hV hap
  go_wp2_with (at_builtin; refine wpList_append_ow _ rfl _ _ 22 rfl 5 i0 (.int .u8 0) 1 1 Try.underlying22 hi hz0 hz1 hz2 rfl (by decide) _ _ _ _ _ rfl hO3 _ _ _ _ rfl hV3 (bn_one _) (by unfold maxLen; omega) (by omega) ?_)
  intro A4 c4 w4 g4 hO4 hf4 hg4
  have h04 := h03.trans ⟨hf4, hg4⟩
  go_wp2_with fail
  go_ret
  refine ⟨A4, c4, g4, rfl, ?_, h04⟩
  have := Hml.out
  subst this
  simpa [formF, bn] using hO4

set_option maxHeartbeats 2000000 in
set_option maxRecDepth 4000 in
theorem form_any (w : World) (vs : List Nat) (V : Option Addr) (m d : Nat) (t : Nat) (ht : t < 256) (hm : m ≤ 140000000000000) (hV : Sl w 1 V m (vs.map bn)) :
    Calls Try.prog 116 #[.int .i64 (t : Int), .slice V m d] w (BP (1 + (short m).length + m) (formF t vs) w) := by
  obtain ⟨i0, hi, hz0, hz1, hz2⟩ := info_parts info5
  have hmU : m < U64 := by unfold U64; omega
  have hsl := short_le hmU
  have Hml := hide hV.len
  have hu : IntKind.u8.wrap (t : Int) = (t : Int) := IntWalk.u8_in _ (by omega)
  have hu2 : IntKind.u64.wrap (m : Int) = (m : Int) := IntWalk.u64_in _ (by omega)
  go_enter Try.func116, Try.ntmps116
  go_wp2_with fail
  have hO1 := Ow.made w 5 1 1 1 #[bn t] [bn t] rfl (by omega) (by unfold maxLen; omega) rfl
  refine (rshort_any _ m hmU).mono ?_
  rintro e w2 ⟨A2, c2, g2, rfl, hO2, hg2, hf2⟩
  have hO1' := hO1.fr hf2 (fun _ _ => id)
  have hfa : Fr (fun _ => False) w w2 := ((Fr.refl _ _).alloc _).trans hf2
  go_wp2_with (at_builtin; refine wpList_append_ow _ rfl _ _ 22 rfl 5 i0 (.int .u8 0) 1 1 Try.underlying22 hi hz0 hz1 hz2 rfl (by decide) _ _ _ _ _ rfl hO1' _ _ _ _ rfl hO2.sl (bn_one _) (by unfold maxLen; omega) (by omega) ?_)
  intro A3 c3 w3 g3 hO3 hf3 hg3
  have h23 : Gr w2 (some w.heap.size) w3 g3 := ⟨hf3.mono fun k _ e => by simpa using e, hg3⟩
  have hV2 := hV.below hfa (fun _ _ => id)
  have hapV : ∀ b o, V = some ⟨b, o, none⟩ → 0 < m → some w.heap.size ≠ some b := fun b o hA h0 e => by
    cases e
    obtain ⟨b2, o2, h2, hc2⟩ := hV.2 h0
    rw [hA] at h2; cases h2
    have hx : 0 < (vs.map bn).length := by rw [hV.1]; omega
    have := World.block_lt_of_cell? w _ (hc2 0 _ (List.getElem?_eq_getElem hx))
    simp at this
  have hV3 := h23.sl' hV2 hapV
  go_wp2_with (at_builtin; refine wpList_append_ow _ rfl _ _ 22 rfl 5 i0 (.int .u8 0) 1 1 Try.underlying22 hi hz0 hz1 hz2 rfl (by decide) _ _ _ _ _ rfl hO3 _ _ _ _ rfl hV3 (bn_one _) (by unfold maxLen; omega) (by omega) ?_)
  intro A4 c4 w4 g4 hO4 hf4 hg4
  have h24 := h23.trans ⟨hf4, hg4⟩
  go_wp2_with fail
  go_ret
  refine ⟨A4, c4, g4, rfl, ?_, ?_, hfa.comp h24.fr fun i hi e => by cases e; omega⟩
  · have := Hml.out
    subst this
    simpa [formF, bn] using hO4
  · intro b hb
    have := hfa.size
    rcases h24.at_ with h | ⟨b', h, hb'⟩
    · rw [h] at hb; cases hb; exact Nat.le_refl _
    · rw [h] at hb; cases hb; omega
end Go.Proofs.Ytlcjhbemgagchaa
end

section
/-
  tlv.Put and the reference's Put.
-/
namespace Go.Proofs.Ytlcjhbemgagchaa
open Go.RowKit
set_option linter.unusedVariables false

def putScan (last : Int) : List (Int × List Nat) → Nat
  | [] => 0
  | (t, v) :: r => if t ≤ last ∨ 255 < t then 21 else if v.length = 0 then 20 else putScan t r
def putAll (fs : List (Int × List Nat)) : List Nat := fs.flatMap fun f => formF f.1.toNat f.2
def putErr (fs : List (Int × List Nat)) : Nat := if putScan 0 fs ≠ 0 then putScan 0 fs else if 1048576 < (putAll fs).length then 3 else 0
def putBytes (fs : List (Int × List Nat)) : List Nat := if putErr fs = 0 then putAll fs else []
theorem putAll_take {fs : List (Int × List Nat)} {k : Nat} (h : k < fs.length) : putAll (fs.take (k + 1)) = putAll (fs.take k) ++ formF fs[k].1.toNat fs[k].2 := by
  unfold putAll
  rw [List.take_succ_eq_append_getElem h, List.flatMap_append]; simp

/-- The slice '.slice A n c' leads to the fields fs (size cells each: the tag, the value, ..). -/
def FAt (w : World) (size : Nat) (A : Option Addr) (n : Nat) (fs : List (Int × List Nat)) : Prop :=
  n = fs.length ∧ (0 < n → ∃ b o, A = some ⟨b, o, none⟩ ∧ ∀ (i : Nat) (hi : i < fs.length), ∃ V m d, w.cell? ⟨b, o + i * size, none⟩ = some (.int .i64 fs[i].1) ∧ w.cell? ⟨b, o + i * size + 1, none⟩ = some (.slice V m d) ∧ Sl w 1 V m (fs[i].2.map bn))
theorem FAt.quiet {w w' : World} {size n : Nat} {A : Option Addr} {fs : List (Int × List Nat)} (h : FAt w size A n fs) (hf : Fr (fun _ => False) w w') : FAt w' size A n fs := by
  refine ⟨h.1, fun hn => ?_⟩
  obtain ⟨b, o, hA, hc⟩ := h.2 hn
  refine ⟨b, o, hA, fun i hi => ?_⟩
  obtain ⟨V, m, d, c0, c1, hS⟩ := hc i hi
  exact ⟨V, m, d, (hf.cell (World.block_lt_of_cell? w _ c0) id).trans c0, (hf.cell (World.block_lt_of_cell? w _ c1) id).trans c1, hS.below hf (fun _ _ => id)⟩
theorem Sl.lt {w : World} {n : Nat} {A : Option Addr} {xs : List Value} (hS : Sl w 1 A n xs) : ∀ b o, A = some ⟨b, o, none⟩ → 0 < n → b < w.heap.size := by
  intro b o hA hn
  obtain ⟨b2, o2, h2, hc2⟩ := hS.2 hn
  rw [hA] at h2; cases h2
  have hx : 0 < xs.length := by rw [hS.1]; omega
  exact World.block_lt_of_cell? w _ (hc2 0 _ (List.getElem?_eq_getElem hx))

/-- Behind Put: the bytes (none beside an error), in new memory; the error. -/
def PutPost (bs : List Nat) (er : Nat) (w : World) (e : Ending) (w' : World) : Prop :=
  ∃ A n c g, e = .returned (.tuple #[.slice A n c, .int .i64 (er : Int)]) ∧ Ow w' 5 1 A n c (bs.map bn) g ∧ (∀ b, g = some b → w.heap.size ≤ b) ∧ Fr (fun _ => False) w w'
theorem PutPost.err {fs : List (Int × List Nat)} {w w' : World} {er : Nat} (h : putErr fs = er) (h0 : er ≠ 0) (hf : Fr (fun _ => False) w w') : PutPost (putBytes fs) (putErr fs) w (.returned (.tuple #[.slice none 0 0, .int .i64 (er : Int)])) w' := by
  refine ⟨none, 0, 0, none, by rw [h], ?_, (fun b h => by cases h), hf⟩
  rw [putBytes, h, if_neg h0]; exact Ow.nil_ _ _ _

/-- How much of the bytes stands in b. -/
def Held (bs all : List Nat) : Prop := bs = all ∨ 1048576 < bs.length ∧ bs.length ≤ all.length

end Go.Proofs.Ytlcjhbemgagchaa
end

section
/-
  The bound of the second form, and lists of fields opened under it.
-/
namespace Go.Proofs.Ytlcjhbemgagchaa
open Go.ChangeShapes Go.WideShapes Go.ChangeAt Go.RowKit Go.Deep Go.Joins
set_option linter.unusedVariables false

theorem bulk_pos {H : Type} (d : DataW H) : 1 ≤ Rows.uptoBulk d := by
  cases d with
  | lit l => cases l <;> simp [Rows.uptoBulk]
  | _ => simp [Rows.uptoBulk]
theorem bulk_mem {H : Type} {d : DataW H} : ∀ {l : List (DataW H)}, d ∈ l → Rows.uptoBulk d ≤ Rows.uptoBulkAll l
  | x :: l, h => by
    simp only [Rows.uptoBulkAll]
    rcases List.mem_cons.1 h with rfl | h
    · omega
    · have := bulk_mem h; omega
theorem bulk_len {H : Type} : ∀ (l : List (DataW H)), l.length ≤ Rows.uptoBulkAll l
  | [] => by simp
  | x :: l => by
    have := bulk_pos x
    have := bulk_len l
    simp only [Rows.uptoBulkAll, List.length_cons]; omega
theorem bulk_sum {H : Type} {α : Type} (D : α → DataW H) (f : α → Nat) : ∀ (l : List α), (∀ i ∈ l, f i ≤ Rows.uptoBulk (D i)) → (l.map f).sum ≤ Rows.uptoBulkAll (l.map D)
  | [], _ => by simp [Rows.uptoBulkAll]
  | x :: l, h => by
    have h1 := h x (by simp)
    have h2 := bulk_sum D f l fun i hi => h i (by simp [hi])
    simp only [List.map_cons, List.sum_cons, Rows.uptoBulkAll]; omega
theorem bulk_slice {H : Type} (el sp : List (DataW H)) : Rows.uptoBulkAll el + 1 ≤ Rows.uptoBulk (.slice el sp) := by
  simp only [Rows.uptoBulk]; omega
theorem bulk_agg {H : Type} (l : List (DataW H)) : Rows.uptoBulk (.agg l) = Rows.uptoBulkAll l + 1 := by simp [Rows.uptoBulk]

section
variable {H : Type} {enc : TypeId × Value → H} {P : Program} {w : World} {base : Nat} {spare : Nat → Bool} {held : Bool}
/-- A list of structs of a tag and bytes. -/
theorem open_fields {t e ti tb eb : TypeId} {f0 f1 : Field} {fuel : Nat} {cs : List Value} {x : DataW H × List MemPlace} (ht : P.underlying t = some (.slice e)) (he : P.underlying e = some (.struct #[f0, f1]))
    (hone : oneCellFields P #[f0, f1] = true) (hC : P.cellsOf e = 2) (h0 : f0.type = ti) (h1 : f1.type = tb) (hti : P.underlying ti = some (.int .i64)) (htb : P.underlying tb = some (.slice eb)) (heb : P.underlying eb = some (.int .u8)) (hCb : P.cellsOf eb = 1)
    (h : DataW.trod enc P w base spare held fuel t cs = some x) :
    ∃ (A : Option Addr) (n c : Nat) (fs : List (Int × List Nat)), cs = [.slice A n c] ∧ n ≤ c ∧ c ≤ maxLen ∧ FAt w 2 A n fs ∧ (fs.map fun f => f.2.length + 1).sum ≤ Rows.uptoBulk x.1 := by
  rcases open_slice ht h with ⟨rfl, hx⟩ | ⟨a, len, cap, m, k, D, Pl, rfl, _, hl, hm, hmm, hxx, hi⟩
  · exact ⟨none, 0, 0, [], rfl, Nat.le_refl _, Nat.zero_le _, ⟨rfl, fun h => absurd h (by omega)⟩, by simp⟩
  · have hlm : len ≤ m := by rw [hmm]; split <;> omega
    have hrow : ∀ i, i < len → ∃ (T : Int) (V : Option Addr) (nv dv : Nat) (xs : List Nat), w.cell? (a.add (i * 2)) = some (.int .i64 T) ∧ w.cell? (a.add (i * 2 + 1)) = some (.slice V nv dv) ∧ Sl w 1 V nv (xs.map bn) ∧ xs.length + 1 ≤ Rows.uptoBulk (D i) := by
      intro i hil
      obtain ⟨cs', hc, ht'⟩ := hi i (by omega)
      rw [hC] at hc
      obtain ⟨ys, n', _, hD, _, hyl, hf⟩ := DataW.trod_struct he ht'
      obtain ⟨_, hcl, hat⟩ := World.cells?_some hc
      have hyl2 : ys.length = 2 := hyl
      match cs', hcl, ys, hyl2 with
      | [v0, v1], _, [y0, y1], _ =>
        obtain ⟨o0, k0⟩ := hone_of hone 0 f0 rfl
        obtain ⟨o1, k1⟩ := hone_of hone 1 f1 rfl
        have r0 := hf 0 f0 rfl
        have r1 := hf 1 f1 rfl
        rw [o0, k0, h0] at r0
        rw [o1, k1, h1] at r1
        obtain ⟨T, e0, _, _⟩ := DataW.trod_int hti r0
        obtain ⟨V, nv, dv, xs, e1, _, _, hxl, _, hS, hd⟩ := open_bytes htb heb hCb r1
        have a0 := hat 0 (by omega)
        have a1 := hat 1 (by omega)
        rw [add_add] at a0 a1
        simp at e0 e1 a0 a1
        subst e0 e1
        refine ⟨T, V, nv, dv, xs, a0, a1, hS, ?_⟩
        simp only [Prod.mk.injEq] at hD
        rw [hD.1, bulk_agg]
        simp only [List.map_cons, List.map_nil, Rows.uptoBulkAll]
        rcases hd with hd | ⟨el, sp, hd, hel⟩
        · rw [← hxl, hd]; omega
        · have h2 := bulk_slice el sp
          have h3 := bulk_len el
          have h4 : Rows.uptoBulk y1.1 = Rows.uptoBulk (DataW.slice el sp) := by rw [show y1.1 = _ from hd]
          rw [h4]; omega
    have hch : ∃ r : Nat → Int × List Nat, ∀ i, i < len → ∃ (V : Option Addr) (nv dv : Nat), w.cell? (a.add (i * 2)) = some (.int .i64 (r i).1) ∧ w.cell? (a.add (i * 2 + 1)) = some (.slice V nv dv) ∧ Sl w 1 V nv ((r i).2.map bn) ∧ (r i).2.length + 1 ≤ Rows.uptoBulk (D i) := by
      refine ⟨fun i => if hil : i < len then (Classical.choose (hrow i hil), Classical.choose (Classical.choose_spec (Classical.choose_spec (Classical.choose_spec (Classical.choose_spec (hrow i hil)))))) else (0, []), fun i hil => ?_⟩
      simp only [dif_pos hil]
      exact ⟨_, _, _, Classical.choose_spec (Classical.choose_spec (Classical.choose_spec (Classical.choose_spec (Classical.choose_spec (hrow i hil)))))⟩
    obtain ⟨r, hr⟩ := hch
    refine ⟨some a, len, cap, (List.range len).map r, rfl, hl, hm, ⟨by simp, fun hn => ?_⟩, ?_⟩
    · obtain ⟨_, _, _, c0, _⟩ := hr 0 hn
      have hs : a.spot = none := by simpa [Addr.add] using World.cell?_spot c0
      obtain ⟨b, o, sp⟩ := a
      simp only at hs
      subst hs
      refine ⟨b, o, rfl, fun i hi' => ?_⟩
      have hil : i < len := by simpa using hi'
      obtain ⟨V, nv, dv, c0, c1, hS, _⟩ := hr i hil
      rw [Addr.add_lit] at c0 c1
      exact ⟨V, nv, dv, by simpa using c0, by simpa [Nat.add_assoc] using c1, by simpa using hS⟩
    · rw [hxx]
      have h2 := bulk_slice ((List.range len).map D) ((List.range (m - len)).map fun j => D (len + j))
      have h3 := bulk_sum D (fun i => (r i).2.length + 1) (List.range len) fun i hi' => (hr i (by simpa using hi')).choose_spec.choose_spec.choose_spec.2.2.2
      rw [List.map_map]
      show ((List.range len).map fun i => (r i).2.length + 1).sum ≤ Rows.uptoBulk (DataW.slice ((List.range len).map D) ((List.range (m - len)).map fun j => D (len + j)))
      omega
end

theorem putAll_sum : ∀ (fs : List (Int × List Nat)), (fs.map fun f => f.2.length + 1).sum ≤ 1048576 → (putAll fs).length ≤ 11 * (fs.map fun f => f.2.length + 1).sum ∧ fs.length ≤ (fs.map fun f => f.2.length + 1).sum ∧ ∀ (i : Nat) (hi : i < fs.length), fs[i].2.length ≤ 1048576
  | [], _ => by simp [putAll]
  | (t, v) :: fs, h => by
    simp only [List.map_cons, List.sum_cons] at h ⊢
    obtain ⟨a, b, c⟩ := putAll_sum fs (by omega)
    have hv := short_le (n := v.length) (by unfold U64; omega)
    refine ⟨?_, by simp; omega, fun i hi => ?_⟩
    · have e : putAll ((t, v) :: fs) = formF t.toNat v ++ putAll fs := by simp [putAll]
      rw [e, List.length_append, formF_len]; omega
    · rcases i with _ | i
      · simp; omega
      · exact c i (by simpa using hi)
end Go.Proofs.Ytlcjhbemgagchaa
end

section
/-
  Lists of fields opened under the bound, the values' bytes told too.
-/
namespace Go.Proofs.Ytlcjhbemgagchaa
open Go.ChangeShapes Go.WideShapes Go.ChangeAt Go.RowKit Go.Deep Go.Joins
set_option linter.unusedVariables false

section
variable {H : Type} {enc : TypeId × Value → H} {P : Program} {w : World} {base : Nat} {spare : Nat → Bool} {held : Bool}
theorem open_fieldsB {t e ti tb eb : TypeId} {f0 f1 : Field} {fuel : Nat} {cs : List Value} {x : DataW H × List MemPlace} (ht : P.underlying t = some (.slice e)) (he : P.underlying e = some (.struct #[f0, f1]))
    (hone : oneCellFields P #[f0, f1] = true) (hC : P.cellsOf e = 2) (h0 : f0.type = ti) (h1 : f1.type = tb) (hti : P.underlying ti = some (.int .i64)) (htb : P.underlying tb = some (.slice eb)) (heb : P.underlying eb = some (.int .u8)) (hCb : P.cellsOf eb = 1)
    (h : DataW.trod enc P w base spare held fuel t cs = some x) :
    ∃ (A : Option Addr) (n c : Nat) (fs : List (Int × List Nat)), cs = [.slice A n c] ∧ n ≤ c ∧ c ≤ maxLen ∧ FAt w 2 A n fs ∧ (fs.map fun f => f.2.length + 1).sum ≤ Rows.uptoBulk x.1 ∧ ∀ f ∈ fs, ∀ y ∈ f.2, y < 256 := by
  rcases open_slice ht h with ⟨rfl, hx⟩ | ⟨a, len, cap, m, k, D, Pl, rfl, _, hl, hm, hmm, hxx, hi⟩
  · exact ⟨none, 0, 0, [], rfl, Nat.le_refl _, Nat.zero_le _, ⟨rfl, fun h => absurd h (by omega)⟩, by simp, fun f hf => by cases hf⟩
  · have hlm : len ≤ m := by rw [hmm]; split <;> omega
    have hrow : ∀ i, i < len → ∃ (T : Int) (V : Option Addr) (nv dv : Nat) (xs : List Nat), w.cell? (a.add (i * 2)) = some (.int .i64 T) ∧ w.cell? (a.add (i * 2 + 1)) = some (.slice V nv dv) ∧ Sl w 1 V nv (xs.map bn) ∧ (∀ y ∈ xs, y < 256) ∧ xs.length + 1 ≤ Rows.uptoBulk (D i) := by
      intro i hil
      obtain ⟨cs', hc, ht'⟩ := hi i (by omega)
      rw [hC] at hc
      obtain ⟨ys, n', _, hD, _, hyl, hf⟩ := DataW.trod_struct he ht'
      obtain ⟨_, hcl, hat⟩ := World.cells?_some hc
      have hyl2 : ys.length = 2 := hyl
      match cs', hcl, ys, hyl2 with
      | [v0, v1], _, [y0, y1], _ =>
        obtain ⟨o0, k0⟩ := hone_of hone 0 f0 rfl
        obtain ⟨o1, k1⟩ := hone_of hone 1 f1 rfl
        have r0 := hf 0 f0 rfl
        have r1 := hf 1 f1 rfl
        rw [o0, k0, h0] at r0
        rw [o1, k1, h1] at r1
        obtain ⟨T, e0, _, _⟩ := DataW.trod_int hti r0
        obtain ⟨V, nv, dv, xs, e1, _, _, hxl, h256, hS, hd⟩ := open_bytes htb heb hCb r1
        have a0 := hat 0 (by omega)
        have a1 := hat 1 (by omega)
        rw [add_add] at a0 a1
        simp at e0 e1 a0 a1
        subst e0 e1
        refine ⟨T, V, nv, dv, xs, a0, a1, hS, h256, ?_⟩
        simp only [Prod.mk.injEq] at hD
        rw [hD.1, bulk_agg]
        simp only [List.map_cons, List.map_nil, Rows.uptoBulkAll]
        rcases hd with hd | ⟨el, sp, hd, hel⟩
        · rw [← hxl, hd]; omega
        · have h2 := bulk_slice el sp
          have h3 := bulk_len el
          have h4 : Rows.uptoBulk y1.1 = Rows.uptoBulk (DataW.slice el sp) := by rw [show y1.1 = _ from hd]
          rw [h4]; omega
    have hch : ∃ r : Nat → Int × List Nat, ∀ i, i < len → ∃ (V : Option Addr) (nv dv : Nat), w.cell? (a.add (i * 2)) = some (.int .i64 (r i).1) ∧ w.cell? (a.add (i * 2 + 1)) = some (.slice V nv dv) ∧ Sl w 1 V nv ((r i).2.map bn) ∧ (∀ y ∈ (r i).2, y < 256) ∧ (r i).2.length + 1 ≤ Rows.uptoBulk (D i) := by
      refine ⟨fun i => if hil : i < len then (Classical.choose (hrow i hil), Classical.choose (Classical.choose_spec (Classical.choose_spec (Classical.choose_spec (Classical.choose_spec (hrow i hil)))))) else (0, []), fun i hil => ?_⟩
      simp only [dif_pos hil]
      exact ⟨_, _, _, Classical.choose_spec (Classical.choose_spec (Classical.choose_spec (Classical.choose_spec (Classical.choose_spec (hrow i hil)))))⟩
    obtain ⟨r, hr⟩ := hch
    refine ⟨some a, len, cap, (List.range len).map r, rfl, hl, hm, ⟨by simp, fun hn => ?_⟩, ?_, ?_⟩
    · obtain ⟨_, _, _, c0, _⟩ := hr 0 hn
      have hs : a.spot = none := by simpa [Addr.add] using World.cell?_spot c0
      obtain ⟨b, o, sp⟩ := a
      simp only at hs
      subst hs
      refine ⟨b, o, rfl, fun i hi' => ?_⟩
      have hil : i < len := by simpa using hi'
      obtain ⟨V, nv, dv, c0, c1, hS, _⟩ := hr i hil
      rw [Addr.add_lit] at c0 c1
      exact ⟨V, nv, dv, by simpa using c0, by simpa [Nat.add_assoc] using c1, by simpa using hS⟩
    · rw [hxx]
      have h2 := bulk_slice ((List.range len).map D) ((List.range (m - len)).map fun j => D (len + j))
      have h3 := bulk_sum D (fun i => (r i).2.length + 1) (List.range len) fun i hi' => (hr i (by simpa using hi')).choose_spec.choose_spec.choose_spec.2.2.2.2
      rw [List.map_map]
      show ((List.range len).map fun i => (r i).2.length + 1).sum ≤ Rows.uptoBulk (DataW.slice ((List.range len).map D) ((List.range (m - len)).map fun j => D (len + j)))
      omega
    · intro f hf
      obtain ⟨i, hi', rfl⟩ := List.mem_map.1 hf
      obtain ⟨_, _, _, _, _, _, h, _⟩ := hr i (by simpa using hi')
      exact h
end
end Go.Proofs.Ytlcjhbemgagchaa
end

section
/-
  The law's helpers of chapter 29: bytes, over, lent, kept.
-/
namespace Go.Proofs.Ytlcjhbemgagchaa
open Go.RowKit
set_option linter.unusedVariables false

set_option maxHeartbeats 1000000 in
set_option maxRecDepth 4000 in
/-- bytes, where the bytes are the same: true. -/
theorem bytes29_true (w : World) (xs : List Nat) (A B : Option Addr) (c d : Nat) (n : Nat) (hn : n = xs.length) (h63 : n ≤ 9223372036854775806) (hA : Sl w 1 A n (xs.map bn)) (hB : Sl w 1 B n (xs.map bn)) :
    Calls Try.prog 14 #[.slice A n c, .slice B n d] w fun e w' => e = .returned (.bool true) ∧ Fr (fun _ => False) w w' := by
  have Hn := hide hn
  clear hn
  go_enter Try.func14, Try.ntmps14
  go_wp2_with fail
  go_loopw [5] (fun i wr => ∃ (k m : Nat), k ≤ n ∧ i = .int .i64 k ∧ Hid (wr = w.drewN m)) (fun i _ => n - (intOf i).toNat)
  case atStart => exact ⟨0, 0, Nat.zero_le _, rfl, rfl⟩
  case round =>
    obtain ⟨k, m, hk, rfl, hw⟩ := hrel
    obtain rfl := hw.out
    clear hw
    by_cases hlt : k < n
    · have hu := bn_get (xs := xs) (k := k) (by rw [← Hn.out]; exact hlt)
      obtain ⟨b, o, rfl, ca⟩ := hA.at_ hu
      obtain ⟨b', o', rfl, cb⟩ := hB.at_ hu
      clear hA hB hu
      have i0 : (0 : Int) ≤ (k : Int) := by omega
      have i1 : (k : Int) < (n : Int) := by omega
      go_wp2_with fail
      go_quiet (fail)
      go_wp2_with fail
      exact ⟨⟨k + 1, _, by omega, by go_num, rfl⟩, by simp [intOf]; omega⟩
    · go_wp2_with fail
      go_ret
      exact ⟨rfl, (Fr.refl _ _).drewN _⟩

set_option maxHeartbeats 1000000 in
set_option maxRecDepth 4000 in
/-- over writes into the slice's own block alone. -/
theorem over29_any (w : World) (xs : List Nat) (A : Option Addr) (n c : Nat) (g : Option Nat) (hO : Ow w 5 1 A n c (xs.map bn) g) (hcap : n ≤ 140737488355000) :
    Calls Try.prog 16 #[.slice A n c] w fun e w' => e = .returned (.tuple #[]) ∧ Fr (fun k => some k = g) w w' := by
  obtain ⟨i0, hi, hz0, hz1, hz2⟩ := info_parts info5
  go_enter Try.func16, Try.ntmps16
  go_wp2_with fail
  go_loopw [2] (fun i wr => ∃ (k : Nat) (ys : List Nat), k ≤ n ∧ i = .int .i64 k ∧ Ow wr 5 1 A n c (ys.map bn) g ∧ Fr (fun k => some k = g) w wr) (fun i _ => n - (intOf i).toNat)
  case atStart => exact ⟨0, xs, Nat.zero_le _, rfl, hO, Fr.refl _ _⟩
  case round =>
    obtain ⟨k, ys, hk, rfl, hO, hf⟩ := hrel
    by_cases hlt : k < n
    · have hl : ys.length = n := by have := hO.1; simpa using this
      have hu := bn_get (xs := ys) (k := k) (by omega)
      obtain ⟨b, o, rfl, rfl, c0, z0⟩ := hO.look hu
      have Hl := hide hl
      have Hu := hide hu
      clear hl hu
      go_wp2_with fail
      refine ⟨⟨k + 1, ys.set k ((ys.getD k 0 + 91) % 256), by omega, by go_num, ?_, ?_⟩, by simp [intOf]; omega⟩
      · have := hO.put (j := k) (by omega) (bn ((ys.getD k 0 + 91) % 256))
        rw [← List.map_set] at this
        have e : bn ((ys.getD k 0 + 91) % 256) = .int .u8 (IntKind.u8.wrap (((ys.getD k 0 : Nat) : Int) + 91)) := by rw [IntKind.wrap_u8]; simp [bn]
        rw [e] at this
        exact this
      · exact hf.setIn (.inl rfl) _
    · go_wp2_with fail
      go_loopw [0, 3] (fun v i wr => ∃ (m : Nat) (ys : List Nat) (A : Option Addr) (c : Nat) (g' : Option Nat), m ≤ 40 ∧ v = .slice A (n + m) c ∧ i = .int .i64 m ∧ Ow wr 5 1 A (n + m) c (ys.map bn) g' ∧ (g' = g ∨ ∃ b, g' = some b ∧ w.heap.size ≤ b) ∧ Fr (fun k => some k = g) w wr) (fun _ i _ => 40 - (intOf i).toNat)
      case atStart => exact ⟨0, ys, A, c, g, by omega, rfl, rfl, hO, .inl rfl, hf⟩
      case round =>
        clear hO hf
        obtain ⟨m, zs, A2, c2, g2, hm, rfl, rfl, hO, hg, hf⟩ := hrel
        by_cases hlt : m < 40
        · go_wp2_with (at_builtin; refine wpList_append_ow _ rfl _ _ 22 rfl 5 i0 (.int .u8 0) 1 1 Try.underlying22 hi hz0 hz1 hz2 rfl (by decide) _ _ _ _ _ rfl (hO.fr ((Fr.refl _ _).alloc _) (fun _ _ => id)) _ _ _ _ rfl (Sl.one _ _ _) (bn_one [_]) (by unfold maxLen; omega) (by omega) ?_)
          intro A3 c3 w3 g3 hO3 hf3 hg3
          go_wp2_with fail
          refine ⟨⟨m + 1, zs ++ [77], A3, c3, g3, by omega, rfl, by go_num, by rw [← Nat.add_assoc]; simpa [bn] using hO3, ?_, ?_⟩, by simp [intOf]; omega⟩
          · have := hf.size
            rcases hg3 with rfl | ⟨b, rfl, hb⟩
            · exact hg
            · exact .inr ⟨b, rfl, by omega⟩
          · refine (hf.alloc _).comp hf3 fun i hi e => ?_
            rcases hg with rfl | ⟨b, rfl, hb⟩
            · exact e
            · cases e; omega
        · go_wp2_with fail
          go_end0
          exact ⟨rfl, hf⟩

/-- Behind lent: the bytes xs in memory of their own, the marks behind them. -/
def Lent29 (w : World) (A : Option Addr) (n c : Nat) (xs : List Nat) (g : Nat) : Prop := Ow w 5 1 A (n + 4) c ((xs ++ marks 4).map bn) (some g)
def LentPost29 (n : Nat) (xs : List Nat) (w : World) (e : Ending) (w' : World) : Prop :=
  ∃ A c g, e = .returned (.slice A n c) ∧ Lent29 w' A n c xs g ∧ w.heap.size ≤ g ∧ Fr (fun _ => False) w w'

set_option maxHeartbeats 1000000 in
set_option maxRecDepth 4000 in
theorem lent29_any (w : World) (xs : List Nat) (A : Option Addr) (n c : Nat) (hn : n ≤ 140737488355000) (hA : Sl w 1 A n (xs.map bn)) :
    Calls Try.prog 10 #[.slice A n c] w (LentPost29 n xs w) := by
  obtain ⟨i0, hi, hz0, hz1, hz2⟩ := info_parts info5
  go_enter Try.func10, Try.ntmps10
  go_wp2_with (at_builtin; refine wpList_append_ow _ rfl _ _ 22 rfl 5 i0 (.int .u8 0) 1 1 Try.underlying22 hi hz0 hz1 hz2 rfl (by decide) _ _ _ _ _ rfl (Ow.nil_ _ _ _) _ _ _ _ rfl hA (bn_one _) (by unfold maxLen; omega) (by omega) ?_)
  intro A1 c1 w1 g1 hO1 hf1 hg1
  go_wp2_with fail
  go_loopw [3, 4] (fun v i wr => ∃ (m : Nat) (A : Option Addr) (c : Nat) (g' : Option Nat), m ≤ 4 ∧ v = .slice A (n + m) c ∧ i = .int .i64 m ∧ Ow wr 5 1 A (n + m) c ((xs ++ marks m).map bn) g' ∧ (∀ b, g' = some b → w.heap.size ≤ b) ∧ Fr (fun _ => False) w wr) (fun _ i _ => 4 - (intOf i).toNat)
  case atStart =>
    refine ⟨0, A1, c1, g1, by omega, rfl, rfl, by simpa [marks] using hO1, fun b hb => ?_, hf1.mono fun k hk e => by cases e⟩
    rcases hg1 with rfl | ⟨b', rfl, h⟩
    · cases hb
    · cases hb; exact h
  case round =>
    clear hO1 hf1 hg1
    obtain ⟨m, A2, c2, g2, hm, rfl, rfl, hO, hg, hf⟩ := hrel
    by_cases hlt : m < 4
    · go_wp2_with (at_builtin; refine wpList_append_ow _ rfl _ _ 22 rfl 5 i0 (.int .u8 0) 1 1 Try.underlying22 hi hz0 hz1 hz2 rfl (by decide) _ _ _ _ _ rfl (hO.fr ((Fr.refl _ _).alloc _) (fun _ _ => id)) _ _ _ _ rfl (Sl.one _ _ _) (bn_one [_]) (by unfold maxLen; omega) (by omega) ?_)
      intro A3 c3 w3 g3 hO3 hf3 hg3
      go_wp2_with fail
      refine ⟨⟨m + 1, A3, c3, g3, by omega, rfl, by go_num, ?_, ?_, ?_⟩, by simp [intOf]; omega⟩
      · rw [← Nat.add_assoc, marks_succ, ← List.append_assoc, List.map_append]
        have e : List.map bn [201 + m] = [Value.int .u8 (201 + (m : Int))] := by simp [bn]
        rw [e]; simpa [List.map_append] using hO3
      · intro b hb
        have := hf.size
        rcases hg3 with rfl | ⟨b', rfl, h⟩
        · exact hg b hb
        · cases hb; omega
      · exact (hf.alloc _).comp hf3 fun i hi e => by have := hg i e.symm; omega
    · obtain rfl : m = 4 := by omega
      have hcc := hO.cap
      have hc1 := hcc.1
      have hc2 : c2 ≤ 9223372036854775807 := by have := hcc.2; unfold maxLen at this; exact this
      clear hcc
      go_wp2_with fail
      go_ret
      obtain ⟨hl, ⟨_, h0, _⟩ | ⟨b, o, cur, hA2, rfl, r⟩⟩ := id hO
      · omega
      · exact ⟨A2, c2, b, rfl, hO, hg b rfl, hf⟩

set_option maxHeartbeats 1000000 in
set_option maxRecDepth 4000 in
theorem kept29_true (w : World) (xs : List Nat) (A B : Option Addr) (n c d : Nat) (g : Nat) (hn : n ≤ 140737488355000) (hl : n = xs.length) (hL : Lent29 w A n c xs g) (hB : Sl w 1 B n (xs.map bn)) :
    Calls Try.prog 15 #[.slice A n c, .slice B n d] w fun e w' => e = .returned (.bool true) ∧ Fr (fun _ => False) w w' := by
  have hS : ∀ w', Fr (fun _ => False) w w' → Sl w' 1 A n (xs.map bn) := fun w' hf => by
    have := ((hL.fr hf (fun _ _ => id)).take (k := n) (by omega)).sl
    rwa [Nat.mul_one, List.map_append, List.take_left' (by simp [hl])] at this
  have hB' : ∀ w', Fr (fun _ => False) w w' → Sl w' 1 B n (xs.map bn) := fun w' hf => hB.below hf (fun _ _ => id)
  have hcap := hL.cap
  have hc1 := hcap.1
  have hc2 : c ≤ 9223372036854775807 := by have := hcap.2; unfold maxLen at this; exact this
  clear hcap
  have Hl := hide hl
  have HS := hide hS
  have HB := hide hB'
  clear hl hS hB' hB
  go_enter Try.func15, Try.ntmps15
  go_wp2_with fail
  go_loopw [6] (fun i wr => ∃ (k : Nat), k ≤ 4 ∧ i = .int .i64 k ∧ Fr (fun _ => False) w wr) (fun i _ => 4 - (intOf i).toNat)
  case atStart => exact ⟨0, by omega, rfl, Fr.refl _ _⟩
  case round =>
    obtain ⟨k, hk, rfl, hfr⟩ := hrel
    by_cases hlt : k < 4
    · have hu : ((xs ++ marks 4).map bn)[n + k]? = some (.int .u8 (201 + (k : Int))) := by
        have hl := Hl.out
        rw [List.getElem?_map, List.getElem?_append_right (by omega), hl, Nat.add_sub_cancel_left]
        simp [marks, hlt, bn]
      obtain ⟨b, o, rfl, hgb, c0, -⟩ := (hL.fr hfr (fun _ _ => id)).look hu
      clear hu hgb
      go_wp2_with fail
      exact ⟨⟨k + 1, by omega, by go_num, hfr⟩, by simp [intOf]; omega⟩
    · have hb := bytes29_true wr xs A B c d n Hl.out (by omega) (HS.out wr hfr) (HB.out wr hfr)
      go_wp2_with fail
      refine hb.mono ?_
      rintro e w1 ⟨rfl, hf1⟩
      go_wp2_with fail
      go_ret
      exact ⟨rfl, hfr.trans hf1⟩
end Go.Proofs.Ytlcjhbemgagchaa
end
