/-
  Texts merged into one, to keep the claim small: TlvRead2.
-/
import Derived.Test.YtahhecendjfenaaMr5
import Derived.Laws.ShiftsVarLaws
/-
  tlv.ReadShort is readShort.
-/
namespace Go.Proofs.Ytahhecendjfenaa
open Go.RowKit
set_option linter.unusedVariables false

theorem and127_nat : ∀ m : Fin 256, m.val &&& 127 = m.val % 128 := by decide +kernel
theorem and127 (y : Nat) (h : y < 256) : bits .and .u8 (y : Int) 127 = (y : Int) % 128 := by
  have h := and127_nat ⟨y, h⟩
  simp only at h
  rw [show (127 : Int) = ((127 : Nat) : Int) from rfl, u8_and_nat _ _ (by omega) (by omega), h]
  omega

set_option maxHeartbeats 1000000 in
set_option maxRecDepth 4000 in
theorem tread_any (w : World) (xs : List Nat) (A : Option Addr) (n c : Nat) (at_ : Int) (hn : n ≤ 140737488355328) (hl : n = xs.length) (h256 : ∀ x ∈ xs, x < 256) (hA : Sl w 1 A n (xs.map bn)) :
    Calls Try.prog 95 #[.slice A n c, .int .i64 at_] w fun e w' => e = .returned (ReadVal xs at_) ∧ w = w' := by
  have Hl := hide hl
  clear hl
  by_cases h0 : at_ < 0
  · have hv := hide (readVal_out (xs := xs) (at_ := at_) (.inl h0))
    go_enter Try.func95, Try.ntmps95
    go_wp2
    go_ret3
    exact ⟨by rw [hv.out]; rfl, rfl⟩
  by_cases h1 : (n : Int) < at_
  · have hv := hide (readVal_out (xs := xs) (at_ := at_) (.inr (by rw [← Hl.out]; exact h1)))
    go_enter Try.func95, Try.ntmps95
    go_wp2
    go_ret3
    exact ⟨by rw [hv.out]; rfl, rfl⟩
  obtain ⟨a, rfl⟩ : ∃ a : Nat, at_ = (a : Int) := ⟨at_.toNat, by omega⟩
  have ha : a ≤ n := by omega
  have ha' : a ≤ xs.length := by rw [← Hl.out]; exact ha
  go_enter Try.func95, Try.ntmps95
  go_wp2_with fail
  go_loop [7, 18] (fun s i => ∃ (k N : Nat), k ≤ 10 ∧ a + k ≤ n ∧ s = .int .u64 (N : Int) ∧ i = .int .i64 (k : Int) ∧ Hid (N < 128 ^ k) ∧
    Hid (readF (10 - k) k N (xs.drop (a + k)) = readF 10 0 0 (xs.drop a))) (fun _ i => 10 - (intOf i).toNat)
  case atStart => exact ⟨0, 0, by omega, by omega, rfl, rfl, show 0 < 1 by omega, rfl⟩
  case round =>
    obtain ⟨k, N, hk, hkn, rfl, rfl, hN, hR⟩ := hrel
    by_cases hk9 : k ≤ 9
    · obtain ⟨f, hf⟩ : ∃ f, 10 - k = f + 1 := ⟨9 - k, by omega⟩
      have HF := hide hf
      clear hf
      by_cases hend : n ≤ a + k
      · have hv := hide (readVal_bad (e := 22) ha' (by rw [← hR.out, HF.out, List.drop_eq_nil_of_le (by rw [← Hl.out]; exact hend)]; rfl) (by omega))
        go_wp2_with fail
        go_ret3
        exact ⟨by rw [hv.out]; rfl, rfl⟩
      · have hak : a + k < xs.length := by rw [← Hl.out]; omega
        have hu := bn_get hak
        obtain ⟨b, o, rfl, c0⟩ := hA.at_ hu
        obtain ⟨y, hy⟩ : ∃ y, xs.getD (a + k) 0 = y := ⟨_, rfl⟩
        have hd : Hid (xs.drop (a + k) = y :: xs.drop (a + k + 1)) := by
          show _ = _
          rw [List.drop_eq_getElem_cons hak, ← hy]; simp [List.getD, hak]
        have hy256 : y < 256 := h256 y (by rw [← hy]; simp [List.getD, hak])
        rw [hy] at c0
        clear hu hy hA h256 hak
        by_cases hfar : k = 9 ∧ 1 < y
        · obtain ⟨h9, hy1⟩ := hfar
          have hv := hide (readVal_bad (e := 20) ha' (by rw [← hR.out, HF.out, hd.out, h9, readF_far _ _ _ _ hy1]) (by omega))
          have h9' : 9 ≤ k := by omega
          clear hd h9
          go_wp2_with fail
          all_goals (go_ret3; exact ⟨by rw [hv.out]; rfl, rfl⟩)
        · obtain ⟨q1, q2, q3⟩ := read_fits hk9 hN.out rfl hfar
          have qn := hide (read_next hk9 hN.out hfar)
          have hand := and127 y hy256
          have hor : Hid (bits .or .u64 (N : Int) ((128 ^ k * (y % 128) : Nat) : Int) = ((N + y % 128 * 128 ^ k : Nat) : Int)) := by
            show _ = _
            unfold U64 at q1 q2
            rw [u64_or_nat _ _ (by omega) (by omega), ← q3]
            have e7 : (128 : Nat) ^ k = 2 ^ (7 * k) := by rw [Nat.pow_mul]
            have := nat_join (7 * k) (128 ^ k * (y % 128)) N (by rw [e7]; exact Nat.mul_mod_right _ _) (by rw [← e7]; exact hN.out)
            rw [Nat.or_comm, this, Nat.add_comm]
          have hnf : k = 9 → y ≤ 1 := fun h => by have := hfar; omega
          have Hfar := hide hfar
          clear hfar
          obtain ⟨N2, hN2⟩ : ∃ N2, N + y % 128 * 128 ^ k = N2 := ⟨_, rfl⟩
          by_cases h9 : k = 9
          · have hy1 := hnf h9
            have h9' : 9 ≤ k := by omega
            have hyl : y < 128 := by omega
            have hor9 : Hid (bits .or .u64 (N : Int) ((y : Int) % 128 * 9223372036854775808) = (N2 : Int)) := by
              show _ = _
              have := hor.out
              rw [hN2, h9] at this
              rw [← this]
              congr 1
              have e : (128 : Nat) ^ 9 = 9223372036854775808 := rfl
              rw [e]; omega
            by_cases hz : y = 0
            · have hv := hide (readVal_bad (e := 20) ha' (by rw [← hR.out, HF.out, hd.out, hz, readF_zero _ _ _ _ (by omega)]) (by omega))
              have hz3 : y ≤ 0 := by omega
              clear hd hz hnf h9 q1 q2 q3 hN2
              go_wp2_with fail
              all_goals (go_ret3; exact ⟨by rw [hv.out]; rfl, rfl⟩)
            · have hv := hide (readVal_ok (k := k) (N := N2) ha' (by rw [← hR.out, HF.out, hd.out, readF_last _ _ _ _ _ Hfar.out hyl (by omega), hN2]))
              have hz3 : 0 < y := by omega
              clear hd hz hnf h9 q1 q2 q3 hN2
              go_wp2_with fail
              go_ret3
              obtain rfl : k = 9 := by omega
              refine ⟨?_, rfl⟩
              rw [hv.out, ← hor9.out]
              rfl
          · have h9' : k < 9 := by omega
            have e1 : IntKind.u64.wrap ((y : Int) % 128 * 2 ^ (7 * k)) = ((128 ^ k * (y % 128) : Nat) : Int) := by
              have e7 : (128 : Nat) ^ k = 2 ^ (7 * k) := by rw [Nat.pow_mul]
              have : (y : Int) % 128 * 2 ^ (7 * k) = ((128 ^ k * (y % 128) : Nat) : Int) := by rw [e7]; push_cast; rw [Int.mul_comm]
              rw [this, IntWalk.u64_in _ (by unfold U64 at q1; omega)]
            obtain ⟨M, hM⟩ : ∃ M, 128 ^ k * (y % 128) = M := ⟨_, rfl⟩
            rw [hM] at e1
            have e2 : bits .or .u64 (N : Int) (M : Int) = (N2 : Int) := by rw [← hM, hor.out, hN2]
            have hNN := hide hN2
            clear hM hN2 q1 q2 q3 h9 hnf
            by_cases hlast : y < 128
            · by_cases hz : 0 < k ∧ y = 0
              · obtain ⟨hz1, hz2⟩ := hz
                have hv := hide (readVal_bad (e := 20) ha' (by rw [← hR.out, HF.out, hd.out, hz2, readF_zero _ _ _ _ hz1]) (by omega))
                have hz3 : y ≤ 0 := by omega
                clear hd hz2
                go_wp2_with fail
                all_goals (go_ret3; exact ⟨by rw [hv.out]; rfl, rfl⟩)
              · have hv := hide (readVal_ok (k := k) (N := N2) ha' (by rw [← hR.out, HF.out, hd.out, readF_last _ _ _ _ _ Hfar.out hlast hz, hNN.out]))
                clear hd
                by_cases hk0 : 0 < k
                · have hy0' : 0 < y := by
                    have : ¬ y = 0 := fun h => hz ⟨hk0, h⟩
                    omega
                  clear hz
                  go_wp2_with fail
                  all_goals (go_ret3; exact ⟨by rw [hv.out]; rfl, rfl⟩)
                · have hk0' : k ≤ 0 := by omega
                  clear hz
                  go_wp2_with fail
                  all_goals (go_ret3; exact ⟨by rw [hv.out]; rfl, rfl⟩)
            · have hR2 : Hid (readF (10 - (k + 1)) (k + 1) N2 (xs.drop (a + (k + 1))) = readF 10 0 0 (xs.drop a)) := by
                show _ = _
                rw [← hR.out, HF.out, hd.out, readF_on _ _ _ _ _ Hfar.out hlast, hNN.out, show 10 - (k + 1) = f by have := HF.out; omega, Nat.add_assoc]
              have qn2 : Hid (N2 < 128 ^ (k + 1)) := by have := qn.out; rw [hNN.out] at this; exact this
              clear hd
              go_wp2_with fail
              exact ⟨⟨k + 1, N2, by omega, by omega, rfl, by go_num, qn2, hR2⟩, by simp [intOf]; omega⟩
    · obtain rfl : k = 10 := by omega
      have hv := hide (readVal_bad (e := 20) ha' (by rw [← hR.out]; rfl) (by omega))
      go_wp2_with fail
      go_ret3
      exact ⟨by rw [hv.out]; rfl, rfl⟩
end Go.Proofs.Ytahhecendjfenaa
