/-
  BucketMeter: the walk.
-/
import Derived.Test.YtgogagapapdlgaaBkNew
import Derived.Test.YtgogagapapdlgaaBkLaw
namespace Go.Proofs.Ytgogagapapdlgaa
open Go.RowKit
set_option linter.unusedVariables false
attribute [local go_sem ↓] Go.wp_at_zero Go.wp_at_succ

/-- The meter and the bucket are one. -/
def Meter (p : Nat) (rate per burst : Int) (w2 : World) (d : Value) (w : World) : Prop :=
  ∃ debt level rest : Int, d = .int .i64 debt ∧ BkOk rate per burst level rest ∧ Hid (debt = burst * per - (level * per + rest)) ∧ Bk w p rate per burst level rest ∧ Fr (· = p) w2 w

set_option maxHeartbeats 2000000 in
set_option maxRecDepth 100000 in
theorem meter_walk (w : World) (x0 x1 x2 : Int) (h0 : -9223372036854775808 ≤ x0) (h0' : x0 ≤ 9223372036854775807) (h1 : -9223372036854775808 ≤ x1) (h1' : x1 ≤ 9223372036854775807) (h2 : -9223372036854775808 ≤ x2) (h2' : x2 ≤ 9223372036854775807)
    (A : Option Addr) (n c : Nat) (hn : n ≤ 9223372036854775807) (f : Nat → Nat → Value) (kd nn : Nat → Int) (hs : Cells w w.heap.size A n 4 f) (hk : ∀ i, i < n → f i 0 = .int .i64 (kd i)) (hN : ∀ i, i < n → f i 2 = .int .i64 (nn i) ∧ -9223372036854775808 ≤ nn i ∧ nn i ≤ 9223372036854775807) :
    Calls Try.prog 3 #[.agg #[.int .i64 x0, .int .i64 x1, .int .i64 x2], .slice A n c] w fun e w' => e = .returned (.bool true) ∧ Below w.heap.size w w' := by
  go_enter Try.func3, Try.ntmps3
  go_wp2_with fail
  refine (made_any _ x0 x1 x2 h0 h0' h1 h1' h2 h2').mono ?_
  rintro e w1 ⟨p, rate, per, burst, rfl, hp, ok, hb, hf⟩
  have hL := hb.lt
  have hp0 : w.heap.size ≤ p := by simp at hp; omega
  go_wp2_with fail
  refine (awake_any _).mono ?_
  rintro e w2 ⟨rfl, hf2⟩
  have hg : Bl w2 w1.heap.size 23 #[.int .i64 rate, .int .i64 per, .int .i64 burst] := Bl.fr (Bl.newAt rfl) hf2 id
  have hb2 : Bk w2 p rate per burst burst 0 := Bl.fr (Bl.alloc hb _) hf2 id
  have g0 := hg.cell 0
  have g1 := hg.cell 1
  have g2 := hg.cell 2
  simp at g0 g1 g2
  have hF : Fr (fun _ => False) w w2 := Fr.comp (Fr.alloc ((Fr.alloc (Fr.refl _ _) _).trans hf) _) hf2 (by simp)
  have hgl := hg.lt
  obtain ⟨r1, r2, p1, p2, b1, b2, -, -, -, -, -⟩ := ok
  have m1 : 0 ≤ burst * per := Int.mul_nonneg (by omega) (by omega)
  have m2 : burst * per ≤ 1048576 * 65536 := Int.mul_le_mul b2 p2 (by omega) (by omega)
  go_wp2_with fail
  go_loopw [7, 9] (fun d i wr => ∃ k : Nat, k ≤ n ∧ i = .int .i64 k ∧ Meter p rate per burst w2 d wr) (fun _ i _ => n - (intOf i).toNat)
  case atStart => exact ⟨0, Nat.zero_le _, rfl, 0, burst, 0, rfl, by constructor <;> omega, show _ = _ by omega, hb2, Fr.refl _ _⟩
  case round =>
    obtain ⟨k, hkn, rfl, debt, level, rest, rfl, ok, hD, hbr, hfr⟩ := hrel
    have hG : Hid (∀ W, Fr (· = p) w2 W → W.cell? ⟨w1.heap.size, 0, none⟩ = some (.int .i64 rate) ∧ W.cell? ⟨w1.heap.size, 1, none⟩ = some (.int .i64 per) ∧ W.cell? ⟨w1.heap.size, 2, none⟩ = some (.int .i64 burst)) := fun W hW =>
      have h := hg.fr hW (by omega)
      ⟨h.cell' rfl, h.cell' rfl, h.cell' rfl⟩
    clear g0 g1 g2
    obtain ⟨g0, g1, g2⟩ := hG.out wr hfr
    by_cases hlt : k < n
    · obtain ⟨b, o, rfl, hbB, hcs⟩ := hs (by omega)
      obtain ⟨hN1, hN2, hN3⟩ := hN k hlt
      have hC : Hid (∀ W, Fr (· = p) w2 W → W.cell? ⟨b, o + k * 4, none⟩ = some (.int .i64 (kd k)) ∧ W.cell? ⟨b, o + k * 4 + 2, none⟩ = some (.int .i64 (nn k))) := fun W hW => by
        have hcell : ∀ j, j < 4 → W.cell? ⟨b, o + k * 4 + j, none⟩ = some (f k j) := fun j hj =>
          ((hW.cell (p := ⟨b, o + k * 4 + j, none⟩) (by have := hF.size; simp; omega) (by simp; omega)).trans (hF.cell hbB id)).trans (hcs k j hlt hj)
        have a := hcell 0 (by omega)
        have b := hcell 2 (by omega)
        rw [hk k hlt] at a
        rw [hN1] at b
        exact ⟨a, b⟩
      obtain ⟨c0, c2⟩ := hC.out wr hfr
      clear hs hcs hk hN hN1
      have d1 : 0 ≤ debt ∧ debt ≤ burst * per :=
        meter_bd p1 ok.s1 ok.s2 ok.l1 ok.l2 ok.f hD.out
      by_cases hR : kd k = 1 ∧ 0 ≤ nn k ∧ nn k ≤ 2147483648
      · obtain ⟨hR1, hR2, hR3⟩ := hR
        obtain ⟨x1, x2, -⟩ := flow_bd r1 r2 p1 p2 ok.s1 ok.s2 hR2 hR3
        have ok3 := bk_refilled ok hR2 hR3
        have hD3 : Hid (max 0 (debt - rate * nn k) = burst * per - (bkL rate per burst level rest (nn k) * per + bkR rate per burst level rest (nn k))) := meter_refill p1 hD.out
        obtain ⟨L3, hL3⟩ : ∃ L3, bkL rate per burst level rest (nn k) = L3 := ⟨_, rfl⟩
        obtain ⟨R3, hR3'⟩ : ∃ R3, bkR rate per burst level rest (nn k) = R3 := ⟨_, rfl⟩
        have HE := hide (And.intro hL3 hR3')
        rw [hL3, hR3'] at ok3 hD3
        clear hL3 hR3'
        obtain ⟨d, hd⟩ : ∃ d, max 0 (debt - rate * nn k) = d := ⟨_, rfl⟩
        rw [hd] at hD3
        have HM := hide hd
        clear hd
        by_cases hm : 0 < debt - rate * nn k
        · have hd : debt - rate * nn k = d := by rw [← HM.out, Int.max_eq_right (by omega)]
          go_wp2_with fail
          refine (refill_made _ _ hbr ok hR2 hR3).mono ?_
          rintro e w3 ⟨rfl, hb3, hf3⟩
          rw [HE.out.1, HE.out.2] at hb3
          replace hf3 := hfr.trans hf3
          clear c0 c2 g0 g1 g2 hbr hfr
          (obtain ⟨k1, k2, k3⟩ := meter_check p1 ok3.s1 ok3.s2 ok3.l1 hD3.out; have k4 := ok3.l1; have k5 := ok3.l2; have k6 := ok3.s1; have k7 := ok3.s2; obtain ⟨g0, g1, g2⟩ := hG.out _ hf3)
          obtain ⟨c0, c2⟩ := hC.out _ hf3
          go_wp2_with fail
          clear hd
          (obtain ⟨j1, j2⟩ := meter_bd p1 ok3.s1 ok3.s2 ok3.l1 ok3.l2 ok3.f hD3.out); (have v0 : ¬ per = 0 := by omega); (have v1 := IntWalk.i64_in _ (show -9223372036854775808 ≤ burst * per - d ∧ burst * per - d ≤ 9223372036854775807 by omega)); (have v2 := IntWalk.i64_in _ (show -9223372036854775808 ≤ L3 ∧ L3 ≤ 9223372036854775807 by omega)); (have v3 := IntWalk.i64_in _ (show -9223372036854775808 ≤ R3 ∧ R3 ≤ 9223372036854775807 by omega))
          (go_quiet ((first | (go_at_call 11; exact quiet_left (level_made _ (hb3.drewN _) p1)) | (go_at_call 12; exact quiet_left (rest_made _ (hb3.drewN _) p1)))); go_wp2_with fail)
          exact ⟨⟨k + 1, by omega, by go_num, d, L3, R3, rfl, ok3, hD3, hb3.drewN _, hf3.drewN _⟩, by simp [intOf]; omega⟩
        · have hd : d = 0 := by rw [← HM.out, Int.max_eq_left (by omega)]
          subst hd
          go_wp2_with fail
          refine (refill_made _ _ hbr ok hR2 hR3).mono ?_
          rintro e w3 ⟨rfl, hb3, hf3⟩
          rw [HE.out.1, HE.out.2] at hb3
          replace hf3 := hfr.trans hf3
          clear c0 c2 g0 g1 g2 hbr hfr
          obtain ⟨d, hd⟩ : ∃ d : Int, d = 0 := ⟨0, rfl⟩
          rw [← hd] at hD3
          (obtain ⟨k1, k2, k3⟩ := meter_check p1 ok3.s1 ok3.s2 ok3.l1 hD3.out; have k4 := ok3.l1; have k5 := ok3.l2; have k6 := ok3.s1; have k7 := ok3.s2; obtain ⟨g0, g1, g2⟩ := hG.out _ hf3)
          have k8 := meter_check p1 ok3.s1 ok3.s2 ok3.l1 hD3.out
          obtain ⟨c0, c2⟩ := hC.out _ hf3
          subst hd
          go_wp2_with fail
          (have v0 : ¬ per = 0 := by omega); (have v1 := IntWalk.i64_in _ (show -9223372036854775808 ≤ burst * per ∧ burst * per ≤ 9223372036854775807 by omega)); (have v2 := IntWalk.i64_in _ (show -9223372036854775808 ≤ L3 ∧ L3 ≤ 9223372036854775807 by omega)); (have v3 := IntWalk.i64_in _ (show -9223372036854775808 ≤ R3 ∧ R3 ≤ 9223372036854775807 by omega)); simp only [Int.sub_zero] at k1 k2 k3
          (go_quiet ((first | (go_at_call 11; exact quiet_left (level_made _ (hb3.drewN _) p1)) | (go_at_call 12; exact quiet_left (rest_made _ (hb3.drewN _) p1)))); go_wp2_with fail)
          exact ⟨⟨k + 1, by omega, by go_num, 0, L3, R3, rfl, ok3, hD3, hb3.drewN _, hf3.drewN _⟩, by simp [intOf]; omega⟩
      · by_cases hT : kd k = 2 ∧ 0 ≤ nn k
        · obtain ⟨hT1, hT2⟩ := hT
          by_cases hl : nn k ≤ level
          · have hl' : nn k ≤ burst := by have := ok.l2; omega
            have y1 : 0 ≤ nn k * per := Int.mul_nonneg hT2 (by omega)
            have y2 : debt + nn k * per ≤ burst * per := (meter_take p1 ok.s1 ok.s2 hD.out).2 hl
            go_wp2_with fail
            refine (take_made _ _ hbr ok hT2 hl).mono ?_
            rintro e w3 ⟨rfl, hb3, hf3⟩
            have ok3 : BkOk rate per burst (level - nn k) rest := by obtain ⟨_, _, _, _, _, _, _, _, _, _, z⟩ := ok; constructor <;> first | omega | (intro; exact z (by omega))
            have hD3 : Hid (debt + nn k * per = burst * per - ((level - nn k) * per + rest)) := by have := hD.out; show _ = _; rw [Int.sub_mul]; omega
            replace hf3 := hfr.trans hf3
            clear c0 c2 g0 g1 g2 hbr hfr
            obtain ⟨L3, hL3⟩ : ∃ L3, level - nn k = L3 := ⟨_, rfl⟩
            obtain ⟨d, hd⟩ : ∃ d, debt + nn k * per = d := ⟨_, rfl⟩
            rw [hL3] at hb3 ok3 hD3
            rw [hd] at hD3
            clear hL3
            (obtain ⟨k1, k2, k3⟩ := meter_check p1 ok3.s1 ok3.s2 ok3.l1 hD3.out; have k4 := ok3.l1; have k5 := ok3.l2; have k6 := ok3.s1; have k7 := ok3.s2; obtain ⟨g0, g1, g2⟩ := hG.out _ hf3)
            go_wp2_with fail
            clear hd
            (obtain ⟨j1, j2⟩ := meter_bd p1 ok3.s1 ok3.s2 ok3.l1 ok3.l2 ok3.f hD3.out); (have v0 : ¬ per = 0 := by omega); (have v1 := IntWalk.i64_in _ (show -9223372036854775808 ≤ burst * per - d ∧ burst * per - d ≤ 9223372036854775807 by omega)); (have v2 := IntWalk.i64_in _ (show -9223372036854775808 ≤ L3 ∧ L3 ≤ 9223372036854775807 by omega)); (have v3 := IntWalk.i64_in _ (show -9223372036854775808 ≤ rest ∧ rest ≤ 9223372036854775807 by omega))
            (go_quiet ((first | (go_at_call 11; exact quiet_left (level_made _ (hb3.drewN _) p1)) | (go_at_call 12; exact quiet_left (rest_made _ (hb3.drewN _) p1)))); go_wp2_with fail)
            exact ⟨⟨k + 1, by omega, by go_num, d, L3, rest, rfl, ok3, hD3, hb3.drewN _, hf3.drewN _⟩, by simp [intOf]; omega⟩
          · have ok3 := ok
            have hD3 := hD
            have hb3 := hbr
            have hf3 := hfr
            have hdry : debt + nn k * per ≤ burst * per → False := fun h => hl ((meter_take p1 ok.s1 ok.s2 hD.out).1 h)
            by_cases hl' : nn k ≤ burst
            · have y0 : 0 ≤ nn k * per := Int.mul_nonneg hT2 (by omega)
              have y1 : nn k * per ≤ 1048576 * 65536 := Int.mul_le_mul (by omega) p2 (by omega) (by omega)
              have y2 : burst * per < debt + nn k * per := Int.not_le.1 hdry
              clear hdry
              go_wp2_with fail
              refine (take_dry _ _ hbr ok hT2 (by omega)).mono ?_
              rintro e w3 ⟨rfl, rfl⟩
              clear c0 c2 
              (obtain ⟨k1, k2, k3⟩ := meter_check p1 ok3.s1 ok3.s2 ok3.l1 hD3.out; have k4 := ok3.l1; have k5 := ok3.l2; have k6 := ok3.s1; have k7 := ok3.s2)
              go_wp2_with fail
              (have v0 : ¬ per = 0 := by omega); (have v1 := IntWalk.i64_in _ (show -9223372036854775808 ≤ burst * per - debt ∧ burst * per - debt ≤ 9223372036854775807 by omega)); (have v2 := IntWalk.i64_in _ (show -9223372036854775808 ≤ level ∧ level ≤ 9223372036854775807 by omega)); (have v3 := IntWalk.i64_in _ (show -9223372036854775808 ≤ rest ∧ rest ≤ 9223372036854775807 by omega))
              (go_quiet ((first | (go_at_call 11; exact quiet_left (level_made _ (hb3.drewN _) p1)) | (go_at_call 12; exact quiet_left (rest_made _ (hb3.drewN _) p1)))); go_wp2_with fail)
              exact ⟨⟨k + 1, by omega, by go_num, debt, level, rest, rfl, ok3, hD3, hb3.drewN _, hf3.drewN _⟩, by simp [intOf]; omega⟩
            · clear hdry
              go_wp2_with fail
              refine (take_dry _ _ hbr ok hT2 (by omega)).mono ?_
              rintro e w3 ⟨rfl, rfl⟩
              clear c0 c2 
              (obtain ⟨k1, k2, k3⟩ := meter_check p1 ok3.s1 ok3.s2 ok3.l1 hD3.out; have k4 := ok3.l1; have k5 := ok3.l2; have k6 := ok3.s1; have k7 := ok3.s2)
              go_wp2_with fail
              (have v0 : ¬ per = 0 := by omega); (have v1 := IntWalk.i64_in _ (show -9223372036854775808 ≤ burst * per - debt ∧ burst * per - debt ≤ 9223372036854775807 by omega)); (have v2 := IntWalk.i64_in _ (show -9223372036854775808 ≤ level ∧ level ≤ 9223372036854775807 by omega)); (have v3 := IntWalk.i64_in _ (show -9223372036854775808 ≤ rest ∧ rest ≤ 9223372036854775807 by omega))
              (go_quiet ((first | (go_at_call 11; exact quiet_left (level_made _ (hb3.drewN _) p1)) | (go_at_call 12; exact quiet_left (rest_made _ (hb3.drewN _) p1)))); go_wp2_with fail)
              exact ⟨⟨k + 1, by omega, by go_num, debt, level, rest, rfl, ok3, hD3, hb3.drewN _, hf3.drewN _⟩, by simp [intOf]; omega⟩
        · have ok3 := ok
          have hD3 := hD
          have hb3 := hbr
          have hf3 := hfr
          have hR' : kd k = 1 → 0 ≤ nn k → 2147483648 < nn k := fun a b => by have := hR; omega
          have hT' : kd k = 2 → nn k < 0 := fun a => by have := hT; omega
          (obtain ⟨k1, k2, k3⟩ := meter_check p1 ok3.s1 ok3.s2 ok3.l1 hD3.out; have k4 := ok3.l1; have k5 := ok3.l2; have k6 := ok3.s1; have k7 := ok3.s2)
          (have v0 : ¬ per = 0 := by omega); (have v1 := IntWalk.i64_in _ (show -9223372036854775808 ≤ burst * per - debt ∧ burst * per - debt ≤ 9223372036854775807 by omega)); (have v2 := IntWalk.i64_in _ (show -9223372036854775808 ≤ level ∧ level ≤ 9223372036854775807 by omega)); (have v3 := IntWalk.i64_in _ (show -9223372036854775808 ≤ rest ∧ rest ≤ 9223372036854775807 by omega))
          go_wp2_with fail
          all_goals (go_quiet ((first | (go_at_call 11; exact quiet_left (level_made _ (hb3.drewN _) p1)) | (go_at_call 12; exact quiet_left (rest_made _ (hb3.drewN _) p1)))); go_wp2_with fail)
          all_goals exact ⟨⟨k + 1, by omega, by go_num, debt, level, rest, rfl, ok3, hD3, hb3.drewN _, hf3.drewN _⟩, by simp [intOf]; omega⟩
    · go_wp2_with fail
      go_ret
      exact ⟨rfl, (hF.comp hfr (fun i hi e => by omega)).toBelow (Nat.le_refl _) (by simp)⟩
end Go.Proofs.Ytgogagapapdlgaa
