/-
  BucketPatience: the walk.
-/
import Derived.Test.YtgogagapapdlgaaBkWait
namespace Go.Proofs.Ytgogagapapdlgaa
open Go.RowKit
set_option linter.unusedVariables false

theorem bk_ge {rate per burst level rest t n : Int} (p1 : 1 ≤ per) (hn : n ≤ burst) : n ≤ bkL rate per burst level rest t ↔ n * per ≤ level * per + rest + rate * t := by
  obtain ⟨e1, e2⟩ := @meter_flow per level rest (rate * t) p1
  unfold bkL
  rw [e1, ← le_div p1]
  split <;> omega

theorem bk_any {rate per burst level rest t : Int} (hp : BkOk rate per burst level rest) (t1 : 0 ≤ t) : BkOk rate per burst (bkL rate per burst level rest t) (bkR rate per burst level rest t) := by
  obtain ⟨r1, r2, p1, p2, b1, b2, l1, l2, s1, s2, -⟩ := hp
  have a : 0 ≤ rate * t := Int.mul_nonneg (by omega) t1
  have c : 0 ≤ (rest + rate * t) / per := Int.ediv_nonneg (by omega) (by omega)
  have e := Int.emod_nonneg (rest + rate * t) (show per ≠ 0 by omega)
  have f := Int.emod_lt_of_pos (rest + rate * t) (show 0 < per by omega)
  unfold bkL bkR
  split
  · exact ⟨r1, r2, p1, p2, b1, b2, by omega, by omega, by omega, by omega, fun _ => rfl⟩
  · exact ⟨r1, r2, p1, p2, b1, b2, by omega, by omega, by omega, by omega, fun _ => by omega⟩

/-- What When answers of an n up to burst. -/
def WhenPost (rate per burst level rest n : Int) (w : World) (e : Ending) (w' : World) : Prop :=
  ∃ T : Int, e = .returned (.tuple #[.int .i64 T, .bool true]) ∧ 0 ≤ T ∧ T ≤ burst * per ∧ Hid (n * per ≤ level * per + rest + rate * T) ∧ Hid (0 < T → level * per + rest + rate * (T - 1) < n * per) ∧ Fr (fun _ => False) w w'
theorem when_in {p : Nat} {rate per burst level rest : Int} (w : World) (n : Int) (hb : Bk w p rate per burst level rest) (ok : BkOk rate per burst level rest) (h0 : 0 ≤ n) (hn : n ≤ burst) :
    Calls Try.prog 14 #[.pointer (some ⟨p, 0, none⟩), .int .i64 n] w (WhenPost rate per burst level rest n w) := by
  obtain ⟨r1, r2, p1, p2, b1, b2, l1, l2, s1, s2, -⟩ := id ok
  by_cases hl : n ≤ level
  · have h1 := Int.mul_le_mul_of_nonneg_right hl (show 0 ≤ per by omega)
    have m1 : 0 ≤ burst * per := Int.mul_nonneg (by omega) (by omega)
    refine (when_now w n hb p1 hn hl).mono ?_
    rintro e w' ⟨rfl, rfl⟩
    exact ⟨0, rfl, by omega, m1, show _ ≤ _ by omega, fun h => absurd h (by omega), Fr.refl _ _⟩
  · obtain ⟨a, b, c⟩ := when_ok r1 p1 s1 s2 (show level < n by omega) (burst := burst)
    have x1 : 0 ≤ (n - level) * per := Int.mul_nonneg (by omega) (by omega)
    have x2 : (n - level) * per ≤ 1048576 * 65536 := Int.mul_le_mul (by omega) p2 (by omega) (by omega)
    have x3 : per ≤ (n - level) * per := by
      have := Int.mul_le_mul_of_nonneg_right (show 1 ≤ n - level by omega) (show 0 ≤ per by omega)
      omega
    obtain ⟨x4, x5⟩ := when_bd (n := n) (level := level) r1 p1 (rest := rest) (by omega) (by omega) r2 (burst := burst)
    have x6 : (n - level) * per ≤ burst * per := Int.mul_le_mul_of_nonneg_right (by omega) (by omega)
    refine (when_then w n hb ok hn (by omega)).mono ?_
    rintro e w' ⟨rfl, hf⟩
    exact ⟨_, rfl, x4, by omega, b, fun _ => c, hf⟩

def Some (p : Nat) (rate per burst : Int) (w2 w : World) : Prop := ∃ level rest : Int, BkOk rate per burst level rest ∧ Bk w p rate per burst level rest ∧ Fr (· = p) w2 w

set_option maxHeartbeats 4000000 in
set_option maxRecDepth 100000 in
theorem patience_walk (w : World) (x0 x1 x2 : Int) (h0 : -9223372036854775808 ≤ x0) (h0' : x0 ≤ 9223372036854775807) (h1 : -9223372036854775808 ≤ x1) (h1' : x1 ≤ 9223372036854775807) (h2 : -9223372036854775808 ≤ x2) (h2' : x2 ≤ 9223372036854775807)
    (A : Option Addr) (n c : Nat) (hn : n ≤ 140737488355328) (nq mr : Int) (f : Nat → Nat → Value) (kd nn : Nat → Int) (hs : Cells w w.heap.size A n 4 f) (hk : ∀ i, i < n → f i 0 = .int .i64 (kd i)) (hN : ∀ i, i < n → f i 2 = .int .i64 (nn i) ∧ -9223372036854775808 ≤ nn i ∧ nn i ≤ 9223372036854775807) :
    Calls Try.prog 5 #[.agg #[.int .i64 x0, .int .i64 x1, .int .i64 x2], .slice A n c, .int .i64 nq, .int .i64 mr] w fun e w' => e = .returned (.bool true) ∧ Below w.heap.size w w' := by
  go_enter Try.func5, Try.ntmps5
  go_wp2_with fail
  refine (made_any _ x0 x1 x2 h0 h0' h1 h1' h2 h2').mono ?_
  rintro e w1 ⟨p, rate, per, burst, rfl, hp, ok, hb, hf⟩
  have hL := hb.lt
  have hp0 : w.heap.size ≤ p := by simp at hp; omega
  go_wp2_with fail
  refine (awake_any _).mono ?_
  rintro e w2 ⟨rfl, hf2⟩
  have hg : Bl w2 w1.heap.size 23 #[.int .i64 rate, .int .i64 per, .int .i64 burst] := Bl.fr (Bl.newAt rfl) hf2 id
  have hb2 : Bk w2 p rate per burst burst 0 := Bl.fr (Bl.alloc hb _) hf2 id
  have hF : Fr (fun _ => False) w w2 := Fr.comp (Fr.alloc ((Fr.alloc (Fr.refl _ _) _).trans hf) _) hf2 (by simp)
  have hgl := hg.lt
  have hG : Hid (∀ W, Fr (· = p) w2 W → W.cell? ⟨w1.heap.size, 1, none⟩ = some (.int .i64 per) ∧ W.cell? ⟨w1.heap.size, 2, none⟩ = some (.int .i64 burst)) := fun W hW =>
    have h := hg.fr hW (by omega)
    ⟨h.cell' rfl, h.cell' rfl⟩
  obtain ⟨r1, r2, p1, p2, b1, b2, -, -, -, -, -⟩ := ok
  have m1 : 0 ≤ burst * per := Int.mul_nonneg (by omega) (by omega)
  have m2 : burst * per ≤ 1048576 * 65536 := Int.mul_le_mul b2 p2 (by omega) (by omega)
  go_wp2_with fail
  go_loopw [11] (fun i wr => ∃ k : Nat, k ≤ n ∧ i = .int .i64 k ∧ Some p rate per burst w2 wr) (fun i _ => n - (intOf i).toNat)
  case atStart => exact ⟨0, Nat.zero_le _, rfl, burst, 0, by constructor <;> omega, hb2, Fr.refl _ _⟩
  case round =>
    obtain ⟨k, hkn, rfl, level, rest, ok, hbr, hfr⟩ := hrel
    by_cases hlt : k < n
    · obtain ⟨b, o, rfl, hbB, hcs⟩ := hs (by omega)
      obtain ⟨hN1, hN2, hN3⟩ := hN k hlt
      have hC : Hid (∀ W, Fr (· = p) w2 W → W.cell? ⟨b, o + k * 4, none⟩ = some (.int .i64 (kd k)) ∧ W.cell? ⟨b, o + k * 4 + 2, none⟩ = some (.int .i64 (nn k))) := fun W hW => by
        have hcell : ∀ j, j < 4 → W.cell? ⟨b, o + k * 4 + j, none⟩ = some (f k j) := fun j hj =>
          ((hW.cell (p := ⟨b, o + k * 4 + j, none⟩) (by have := hF.size; simp; omega) (by simp; omega)).trans (hF.cell hbB id)).trans (hcs k j hlt hj)
        have a := hcell 0 (by omega)
        have b := hcell 2 (by omega)
        rw [hk k hlt] at a
        rw [hN1] at b
        exact ⟨a, b⟩
      clear hs hcs hk hN hN1
      obtain ⟨c0, c2⟩ := hC.out _ hfr
      by_cases hR : kd k = 1
      · by_cases hR2 : 0 ≤ nn k ∧ nn k ≤ 2147483648
        · obtain ⟨hR2, hR3⟩ := hR2
          go_wp2_with fail
          refine (refill_made _ _ hbr ok hR2 hR3).mono ?_
          rintro e w3 ⟨rfl, hb3, hf3⟩
          replace hf3 := hfr.trans hf3
          clear c0 c2
          obtain ⟨c0, c2⟩ := hC.out _ hf3
          go_wp2_with fail
          exact ⟨⟨k + 1, by omega, by go_num, _, _, bk_refilled ok hR2 hR3, hb3, hf3⟩, by simp [intOf]; omega⟩
        · go_wp2_with fail
          refine (refill_time _ _ hbr ok (by omega)).mono ?_
          rintro e w3 ⟨rfl, rfl⟩
          go_wp2_with fail
          exact ⟨⟨k + 1, by omega, by go_num, _, _, ok, hbr, hfr⟩, by simp [intOf]; omega⟩
      · by_cases hT : kd k = 2
        · by_cases hT2 : 0 ≤ nn k
          · by_cases hl : nn k ≤ level
            · go_wp2_with fail
              refine (take_made _ _ hbr ok hT2 hl).mono ?_
              rintro e w3 ⟨rfl, hb3, hf3⟩
              go_wp2_with fail
              exact ⟨⟨k + 1, by omega, by go_num, _, _, bk_taken ok hT2 hl, hb3, hfr.trans hf3⟩, by simp [intOf]; omega⟩
            · go_wp2_with fail
              refine (take_dry _ _ hbr ok hT2 (by omega)).mono ?_
              rintro e w3 ⟨rfl, rfl⟩
              go_wp2_with fail
              exact ⟨⟨k + 1, by omega, by go_num, _, _, ok, hbr, hfr⟩, by simp [intOf]; omega⟩
          · go_wp2_with fail
            refine (take_neg _ _ hbr ok (by omega)).mono ?_
            rintro e w3 ⟨rfl, rfl⟩
            go_wp2_with fail
            exact ⟨⟨k + 1, by omega, by go_num, _, _, ok, hbr, hfr⟩, by simp [intOf]; omega⟩
        · go_wp2_with fail
          exact ⟨⟨k + 1, by omega, by go_num, _, _, ok, hbr, hfr⟩, by simp [intOf]; omega⟩
    · obtain ⟨g1, g2⟩ := hG.out _ hfr
      have e1 := Int.emod_nonneg nq (show burst + 2 ≠ 0 by omega)
      have e2 := Int.emod_lt_of_pos nq (show 0 < burst + 2 by omega)
      have e3 := Int.emod_nonneg mr (show (2147483648 : Int) ≠ 0 by omega)
      have e4 := Int.emod_lt_of_pos mr (show (0 : Int) < 2147483648 by omega)
      obtain ⟨N, hN⟩ : ∃ N, nq % (burst + 2) = N := ⟨_, rfl⟩
      obtain ⟨M, hM⟩ : ∃ M, mr % 2147483648 = M := ⟨_, rfl⟩
      rw [hN] at e1 e2
      rw [hM] at e3 e4
      go_wp2_with fail
      refine (round_any _ _ _ (by omega) (by omega)).mono ?_
      rintro e w3 ⟨rfl, rfl⟩
      go_wp2_with fail
      refine (round_any _ _ _ (by omega) (by omega)).mono ?_
      rintro e w3 ⟨rfl, rfl⟩
      rw [hM]
      clear hN hM
      have l1 := ok.l1
      have l2 := ok.l2
      by_cases hfar : burst < N
      · go_wp2_with fail
        refine (when_far _ _ hbr p1 hfar).mono ?_
        rintro e w3 ⟨rfl, rfl⟩
        go_wp2_with fail
        refine (take_dry _ _ hbr ok e1 (by omega)).mono ?_
        rintro e w3 ⟨rfl, rfl⟩
        go_wp2_with fail
        go_ret
        exact ⟨rfl, (hF.comp hfr (fun i hi e => by omega)).toBelow (Nat.le_refl _) (by simp)⟩
      · go_wp2_with fail
        refine (when_in _ _ hbr ok e1 (by omega)).mono ?_
        rintro e w3 ⟨T, rfl, t1, t2, HT, HS, hf3⟩
        have hb3 := hbr.fr hf3 id
        have hF3 : Fr (· = p) w2 w3 := hfr.comp hf3 (fun _ _ h => h.elim)
        clear g1 g2
        obtain ⟨g1, g2⟩ := hG.out _ hF3
        have hL3 := hb3.lt
        go_wp2_with fail
        refine (waited_any _ (T + M) hb3 ok (by omega) (by omega)).mono ?_
        rintro e w4 ⟨rfl, hb4, hf4, hs4⟩
        have hb3' := hb3.fr hf4 id
        go_wp2_with fail
        refine (waited_any _ T hb3' ok (by omega) (by omega)).mono ?_
        rintro e w5 ⟨rfl, hb5, hf5, hs5⟩
        have hb3'' := hb3'.fr hf5 id
        have hb4' := hb4.fr hf5 id
        have okT : BkOk rate per burst (bkL rate per burst level rest T) (bkR rate per burst level rest T) := bk_any ok t1
        go_wp2_with fail
        refine (waited_any _ M hb5 okT (by omega) (by omega)).mono ?_
        rintro e w6 ⟨rfl, hb6, hf6, hs6⟩
        obtain ⟨a1, a2⟩ := bk_add ok t1 e3
        rw [a1, a2] at hb6
        clear a1 a2
        have hb3a := hb3''.fr hf6 id
        have hb4a := hb4'.fr hf6 id
        have hnl : N ≤ bkL rate per burst level rest (T + M) := by
          rw [bk_ge p1 (by omega), Int.mul_add]
          have := HT.out
          have : 0 ≤ rate * M := Int.mul_nonneg (by omega) e3
          omega
        have okTM : BkOk rate per burst (bkL rate per burst level rest (T + M)) (bkR rate per burst level rest (T + M)) := bk_any ok (by omega)
        go_wp2_with fail
        refine (level_made _ hb6 p1).mono ?_
        rintro e w7 ⟨rfl, rfl⟩
        go_wp2_with fail
        refine (level_made _ hb4a p1).mono ?_
        rintro e w7 ⟨rfl, rfl⟩
        go_wp2_with fail
        refine (rest_made _ hb6 p1).mono ?_
        rintro e w7 ⟨rfl, rfl⟩
        go_wp2_with fail
        refine (rest_made _ hb4a p1).mono ?_
        rintro e w7 ⟨rfl, rfl⟩
        go_wp2_with fail
        refine (take_made _ _ hb4a okTM e1 hnl).mono ?_
        rintro e w7 ⟨rfl, hb7, hf7⟩
        have hb3b := hb3a.fr hf7 (by omega)
        have hF7 : Fr (· = p) w2 w7 := (((hF3.comp hf4 (fun _ _ h => h.elim)).comp hf5 (fun _ _ h => h.elim)).comp hf6 (fun _ _ h => h.elim)).comp hf7 (fun i hi e => by have := hF3.size; omega)
        have hnT : N ≤ bkL rate per burst level rest T := by
          rw [bk_ge p1 (by omega)]
          exact HT.out
        by_cases hT0 : 0 < T
        · have hdry : bkL rate per burst level rest (T - 1) < N := by
            rw [← Int.not_le, bk_ge p1 (by omega)]
            have := HS.out hT0
            omega
          have okT1 : BkOk rate per burst (bkL rate per burst level rest (T - 1)) (bkR rate per burst level rest (T - 1)) := bk_any ok (by omega)
          go_wp2_with fail
          refine (waited_any _ (T - 1) hb3b ok (by omega) (by omega)).mono ?_
          rintro e w8 ⟨rfl, hb8, hf8, hs8⟩
          have hb3c := hb3b.fr hf8 id
          go_wp2_with fail
          refine (take_dry _ _ hb8 okT1 e1 hdry).mono ?_
          rintro e w9 ⟨rfl, rfl⟩
          go_wp2_with fail
          refine (waited_any _ T hb3c ok (by omega) (by omega)).mono ?_
          rintro e w9 ⟨rfl, hb9, hf9, hs9⟩
          go_wp2_with fail
          refine (take_made _ _ hb9 okT e1 hnT).mono ?_
          rintro e w10 ⟨rfl, hb10, hf10⟩
          go_wp2_with fail
          go_ret
          have hF10 : Fr (· = p) w2 w10 := ((hF7.comp hf8 (fun _ _ h => h.elim)).comp hf9 (fun _ _ h => h.elim)).comp hf10 (fun i hi e => by have := hF7.size; have := hf8.size; omega)
          exact ⟨rfl, (hF.comp hF10 (fun i hi e => by omega)).toBelow (Nat.le_refl _) (by simp)⟩
        · go_wp2_with fail
          refine (waited_any _ T hb3b ok (by omega) (by omega)).mono ?_
          rintro e w9 ⟨rfl, hb9, hf9, hs9⟩
          go_wp2_with fail
          refine (take_made _ _ hb9 okT e1 hnT).mono ?_
          rintro e w10 ⟨rfl, hb10, hf10⟩
          go_wp2_with fail
          go_ret
          have hF10 : Fr (· = p) w2 w10 := (hF7.comp hf9 (fun _ _ h => h.elim)).comp hf10 (fun i hi e => by have := hF7.size; omega)
          exact ⟨rfl, (hF.comp hF10 (fun i hi e => by omega)).toBelow (Nat.le_refl _) (by simp)⟩
end Go.Proofs.Ytgogagapapdlgaa
