/-
  HandlesWorn: the walk.
-/
import Derived.Test.YtcfpmnlpoihgfaaHhB
namespace Go.Proofs.Ytcfpmnlpoihgfaa
open Go.RowKit
set_option linter.unusedVariables false
set_option linter.unusedSimpArgs false
theorem StO.worn {s : TS} {room most : Nat} (h : StO s room most most) : s.free = [] ∧ s.left = 0 ∧ s.len = 0 := by
  have h1 := h.free
  rw [if_neg (by omega)] at h1
  exact ⟨h1.eq_nil, by rw [h.left, Nat.sub_self, Nat.mul_zero], h.len⟩
theorem left_pos {R M t a : Nat} (ha : a < R) (ht : t < M) : 1 ≤ R * (M - t) - a := by
  have := Nat.le_mul_of_pos_right R (show 0 < M - t by omega)
  omega
set_option maxHeartbeats 4000000 in
set_option maxRecDepth 8000 in
theorem worn_walk (w : World) (room most : Int) :
    Calls Try.prog 3 #[.int .i64 room, .int .i64 most] w fun e w' => e = .returned (.bool true) ∧ Below w.heap.size w w' := by
  obtain ⟨r0, hr0⟩ : ∃ r0 : Nat, room % 12 = (r0 : Int) := ⟨(room % 12).toNat, by omega⟩
  obtain ⟨m0, hm0⟩ : ∃ m0 : Nat, most % 12 = (m0 : Int) := ⟨(most % 12).toNat, by omega⟩
  have hr12 : r0 < 12 := by omega
  have hm12 : m0 < 12 := by omega
  have hrd : ∀ W : World, Calls Try.prog 8 #[.int .i64 room, .int .i64 12] W fun e w' => e = .returned (.int .i64 (r0 : Int)) ∧ W = w' := fun W => by
    have := round_any W room 12 (by omega) (by omega); rw [hr0] at this; exact this
  have hmd : ∀ W : World, Calls Try.prog 8 #[.int .i64 most, .int .i64 12] W fun e w' => e = .returned (.int .i64 (m0 : Int)) ∧ W = w' := fun W => by
    have := round_any W most 12 (by omega) (by omega); rw [hm0] at this; exact this
  obtain ⟨R, hR⟩ : ∃ R, r0 + 1 = R := ⟨_, rfl⟩
  obtain ⟨M, hM⟩ : ∃ M, m0 + 1 = M := ⟨_, rfl⟩
  obtain ⟨N, hN⟩ : ∃ N, R * M = N := ⟨_, rfl⟩
  have hRM : R * M ≤ 12 * 12 := Nat.mul_le_mul (by omega) (by omega)
  have q1 : IntKind.i64.wrap (1 + (r0 : Int)) = (R : Int) := by rw [IntWalk.i64_in _ (by omega)]; omega
  have q2 : IntKind.i64.wrap (1 + (m0 : Int)) = (M : Int) := by rw [IntWalk.i64_in _ (by omega)]; omega
  have q3 : IntKind.i64.wrap ((R : Int) * (M : Int)) = (N : Int) := by rw [← Int.natCast_mul, hN, IntWalk.i64_in _ (by omega)]
  have q4 : IntKind.i64.wrap ((R : Int) - 1) = (R : Int) - 1 := IntWalk.i64_in _ (by omega)
  have Hr := hide hrd
  have Hm := hide hmd
  have Hb : Hid (1 ≤ R ∧ R ≤ 12 ∧ 1 ≤ M ∧ M ≤ 12) := (by omega : 1 ≤ R ∧ R ≤ 12 ∧ 1 ≤ M ∧ M ≤ 12)
  have HN := hide hN
  clear hrd hmd hr0 hm0 hr12 hm12 hR hM hN hRM
  go_enter Try.func3, Try.ntmps3
  go_wp2_with fail
  refine (awake_any w).mono ?_
  rintro e w1 ⟨rfl, hf1⟩
  have Hf1 := hide hf1
  clear hf1
  go_wp2_with fail
  refine (Hr.out _).mono ?_
  rintro e w2 ⟨rfl, rfl⟩
  go_wp2_with fail
  refine (Hm.out _).mono ?_
  rintro e w2 ⟨rfl, rfl⟩
  go_wp2_with fail
  refine (new_ok w1 R M Hb.out.1 (by have := Hb.out; omega) Hb.out.2.2.1 (by have := Hb.out; omega)).mono ?_
  rintro e w2 ⟨p, F, rfl, hT, hF, hf⟩
  have HI0 : Hid (WI w p R (newT R M) w2) := WI.of Hf1.out hT hF hf
  have HS0 : Hid (StO (newT R M) R M 0) := newT_st R M Hb.out.2.2.1
  clear hT hF hf
  have hlft : Calls Try.prog 10 #[.pointer (some ⟨p, 0, none⟩)] w2 fun e w' => e = .returned (.int .i64 (N : Int)) ∧ w2 = w' := by
    have := wleft HI0.out
    rw [show (newT R M).left = R * M from rfl, HN.out] at this
    exact this
  have Hlft := hide hlft
  clear hlft
  go_wp2_with fail
  refine Hlft.out.mono ?_
  rintro e w3 ⟨rfl, rfl⟩
  go_wp2_with fail
  go_loopw [7] (fun v wr => ∃ (t : Nat) (s : TS), t ≤ M ∧ v = .int .i64 ((t : Int) + 1) ∧ Hid (WI w p R s wr ∧ StO s R M t)) (fun v _ => M + 1 - (intOf v).toNat)
  case atStart => exact ⟨0, _, Nat.zero_le _, rfl, ⟨HI0.out, HS0.out⟩⟩
  case round =>
    obtain ⟨t, s, ht, rfl, hI⟩ := hrel
    have hb := Hb.out
    by_cases hlt : t < M
    · have i0 : (t : Int) + 1 ≤ (M : Int) := by omega
      have q5 : IntKind.i64.wrap ((t : Int) + 1 + 1) = (t : Int) + 1 + 1 := IntWalk.i64_in _ (by omega)
      have q6 : IntKind.i64.wrap (((t : Int) + 1) * 65536) = ((t : Int) + 1) * 65536 := IntWalk.i64_in _ (by omega)
      have Hlt := hide hlt
      clear hb hlt ht
      go_wp2_with fail
      go_loopw [8] (fun v wr => ∃ (a : Nat) (s : TS), a ≤ R ∧ v = .int .i64 (a : Int) ∧ Hid (WI w p R s wr ∧ St s R M (PA t a) (List.range' a (R - a)) a (R * (M - t) - a))) (fun v _ => R - (intOf v).toNat)
      case atStart => exact ⟨0, s, Nat.zero_le _, rfl, ⟨hI.out.1, hI.out.2.toA Hlt.out⟩⟩
      case round =>
        obtain ⟨a, s1, ha, rfl, hJ⟩ := hrel
        have hb := Hb.out
        have htm := Hlt.out
        by_cases hla : a < R
        · have i1 : (a : Int) < (R : Int) := by omega
          obtain ⟨hv, hhv⟩ : ∃ hv, (t + 1) * 65536 + a = hv := ⟨_, rfl⟩
          have hadd := wadd hJ.out.1 hJ.out.2 hla (left_pos hla htm) (by omega)
          have hp : ∀ W : World, Calls Try.prog 12 #[.int .i64 (hv : Int)] W fun e w' => e = .returned (.tuple #[.int .i64 (a : Int), .int .i64 ((t : Int) + 1)]) ∧ W = w' := fun W => by
            have := parts_any W (hv : Int) (by omega)
            rw [← hhv, prt_of (by omega), hhv] at this
            exact this
          rw [hhv] at hadd
          have Hadd := hide hadd
          have Hp := hide hp
          have hwb : IntKind.i64.wrap ((a : Int) + 1) = ((a + 1 : Nat) : Int) := by rw [IntWalk.i64_in _ (by omega)]; omega
          have Hla := hide hla
          clear hadd hp hhv hb htm ha hla
          go_wp2_with fail
          refine Hadd.out.mono ?_
          rintro e w4 ⟨rfl, s2, hI2, hS2⟩
          have HJ2 := hide (And.intro hI2 hS2)
          clear hI2 hS2
          go_wp2_with fail
          refine (Hp.out _).mono ?_
          rintro e w5 ⟨rfl, rfl⟩
          go_wp2_with fail
          have hla := Hla.out
          exact ⟨⟨a + 1, s2, by omega, by first | rfl | go_num, ⟨HJ2.out.1, by have := HJ2.out.2; rw [Nat.sub_sub] at this; exact this⟩⟩, by simp [intOf]; omega⟩
        · obtain rfl : a = R := by omega
          have hfree := (hJ.out.2.toF htm hJ.out.1.choose_spec.1.ok)
          have HJ3 := hide hfree
          clear hfree ha hla hb htm
          go_wp2_with fail
          refine (wfull hJ.out.1 0 HJ3.out.1).mono ?_
          rintro e w4 ⟨rfl, rfl⟩
          go_wp2_with fail
          go_loopw [15] (fun v wr => ∃ (z : Int) (b : Nat) (s : TS), b ≤ a ∧ v = .int .i64 z ∧ Hid (z + 1 = (b : Int) ∧ WI w p a s wr ∧ St s a M (PF t b) (frF t M a b) b (a * (M - (t + 1))))) (fun v _ => (intOf v + 1).toNat)
          case atStart => exact ⟨_, a, s1, Nat.le_refl _, rfl, ⟨by omega, hJ.out.1, HJ3.out.2⟩⟩
          case round =>
            obtain ⟨z, b, s3, hba, rfl, hK⟩ := hrel
            have hb := Hb.out
            have htm := Hlt.out
            have hz := hK.out.1
            by_cases hb0 : b = 0
            · subst hb0
              obtain rfl : z = -1 := by omega
              clear hz hb htm hba
              go_wp2_with fail
              have htm := Hlt.out
              exact ⟨⟨t + 1, s3, by omega, by first | rfl | go_num, ⟨hK.out.2.1, St.toO (lf := 0) hK.out.2.2⟩⟩, by simp [intOf]; omega⟩
            · obtain ⟨b2, rfl⟩ : ∃ b2, b = b2 + 1 := ⟨b - 1, by omega⟩
              obtain rfl : z = (b2 : Int) := by omega
              obtain ⟨hv, hhv⟩ : ∃ hv, (t + 1) * 65536 + b2 = hv := ⟨_, rfl⟩
              have q7 : IntKind.i64.wrap (((t : Int) + 1) * 65536 + (b2 : Int)) = (hv : Int) := by rw [IntWalk.i64_in _ (by omega)]; omega
              have q8 : IntKind.i64.wrap ((b2 : Int) - 1) = (b2 : Int) - 1 := IntWalk.i64_in _ (by omega)
              have hfre : Calls Try.prog 13 #[.pointer (some ⟨p, 0, none⟩), .int .i64 (hv : Int)] wr fun e w' => e = .returned (.tuple #[.int .i64 ((t : Int) + 1), .int .i64 0]) ∧ ∃ s', WI w p a s' w' ∧ St s' a M (PF t b2) (frF t M a b2) b2 (a * (M - (t + 1))) := by
                have := wfree hK.out.2.1 hK.out.2.2 (by omega) (by omega) (by omega)
                rw [hhv] at this
                exact this
              have Hfre := hide hfre
              have i2 : (0 : Int) ≤ (b2 : Int) := by omega
              have Hba := hide hba
              clear hfre hhv hz hb htm hba hb0
              go_wp2_with fail
              refine Hfre.out.mono ?_
              rintro e w5 ⟨rfl, s4, hI4, hS4⟩
              have HJ4 := hide (And.intro hI4 hS4)
              clear hI4 hS4
              go_wp2_with fail
              have hba := Hba.out
              exact ⟨⟨_, b2, s4, by omega, by first | rfl | go_num, ⟨by omega, HJ4.out.1, HJ4.out.2⟩⟩, by simp [intOf]⟩
    · obtain rfl : t = M := by omega
      have i0 : ¬ (t : Int) + 1 ≤ (t : Int) := by omega
      have hw := StO.worn hI.out.2
      have hl1 := wleft hI.out.1
      have hl2 := wlen hI.out.1
      rw [hw.2.1] at hl1
      rw [hw.2.2] at hl2
      have Hw := hide hw
      have H1 := hide hl1
      have H2 := hide hl2
      clear hw hl1 hl2 hb hlt ht
      go_wp2_with fail
      refine (wfull hI.out.1 1 Hw.out.1).mono ?_
      rintro e w4 ⟨rfl, rfl⟩
      go_wp2_with fail
      refine H1.out.mono ?_
      rintro e w4 ⟨rfl, rfl⟩
      go_wp2_with fail
      refine H2.out.mono ?_
      rintro e w4 ⟨rfl, rfl⟩
      go_wp2_with fail
      go_ret
      obtain ⟨F9, -, -, hf9⟩ := hI.out.1
      exact ⟨rfl, hf9.toBelow (Nat.le_refl _) (fun _ _ => id)⟩
end Go.Proofs.Ytcfpmnlpoihgfaa
