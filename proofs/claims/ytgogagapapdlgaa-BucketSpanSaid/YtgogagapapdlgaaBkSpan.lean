/-
  BucketSpan: the walk.
-/
import Derived.Test.YtgogagapapdlgaaBkNew
import Derived.Test.YtgogagapapdlgaaBkLaw
namespace Go.Proofs.Ytgogagapapdlgaa
open Go.RowKit
set_option linter.unusedVariables false

/-- Since the moment: so many ticks, so many tokens taken. -/
def Span (p : Nat) (rate per burst : Int) (w2 : World) (k : Nat) (s t : Value) (w : World) : Prop :=
  ∃ tt tn level rest : Int, s = .int .i64 tt ∧ t = .int .i64 tn ∧ 0 ≤ tt ∧ tt ≤ (k : Int) * 2147483648 ∧ 0 ≤ tn ∧ tn ≤ (k : Int) * 1048576 ∧ BkOk rate per burst level rest ∧
    Hid (level * per + rest + tn * per ≤ burst * per + rate * tt) ∧ Bk w p rate per burst level rest ∧ Fr (· = p) w2 w

set_option maxHeartbeats 8000000 in
set_option maxRecDepth 100000 in
theorem span_walk (w : World) (x0 x1 x2 : Int) (h0 : -9223372036854775808 ≤ x0) (h0' : x0 ≤ 9223372036854775807) (h1 : -9223372036854775808 ≤ x1) (h1' : x1 ≤ 9223372036854775807) (h2 : -9223372036854775808 ≤ x2) (h2' : x2 ≤ 9223372036854775807)
    (A : Option Addr) (n c : Nat) (hn : n ≤ 140737488355328) (fr : Int) (f : Nat → Nat → Value) (kd nn : Nat → Int) (hs : Cells w w.heap.size A n 4 f) (hk : ∀ i, i < n → f i 0 = .int .i64 (kd i)) (hN : ∀ i, i < n → f i 2 = .int .i64 (nn i) ∧ -9223372036854775808 ≤ nn i ∧ nn i ≤ 9223372036854775807) :
    Calls Try.prog 4 #[.agg #[.int .i64 x0, .int .i64 x1, .int .i64 x2], .slice A n c, .int .i64 fr] w fun e w' => e = .returned (.bool true) ∧ Below w.heap.size w w' := by
  go_enter Try.func4, Try.ntmps4
  go_wp2_with fail
  refine (made_any _ x0 x1 x2 h0 h0' h1 h1' h2 h2').mono ?_
  rintro e w1 ⟨p, rate, per, burst, rfl, hp, ok, hb, hf⟩
  have hL := hb.lt
  have hp0 : w.heap.size ≤ p := by simp at hp; omega
  go_wp2_with fail
  refine (awake_any _).mono ?_
  rintro e w2 ⟨rfl, hf2⟩
  have hg : Bl w2 w1.heap.size 23 #[.int .i64 rate, .int .i64 per, .int .i64 burst] := Bl.fr (Bl.newAt rfl) hf2 id
  have hb2 : Bk w2 p rate per burst burst 0 := Bl.fr (Bl.alloc hb _) hf2 id
  have hF : Fr (fun _ => False) w w2 := Fr.comp (Fr.alloc ((Fr.alloc (Fr.refl _ _) _).trans hf) _) hf2 (by simp)
  have hgl := hg.lt
  obtain ⟨r1, r2, p1, p2, b1, b2, -, -, -, -, -⟩ := ok
  go_wp2_with fail
  go_loopw [9, 10, 11] (fun s t i wr => ∃ k : Nat, k ≤ n ∧ i = .int .i64 k ∧ Span p rate per burst w2 k s t wr) (fun _ _ i _ => n - (intOf i).toNat)
  case atStart => exact ⟨0, Nat.zero_le _, rfl, 0, 0, burst, 0, rfl, rfl, by omega, by omega, by omega, by omega, by constructor <;> omega, show _ ≤ _ by omega, hb2, Fr.refl _ _⟩
  case round =>
    obtain ⟨k, hkn, rfl, tt, tn, level, rest, rfl, rfl, t1, t2, n1, n2, ok, hI, hbr, hfr⟩ := hrel
    have hG : Hid (∀ W, Fr (· = p) w2 W → W.cell? ⟨w1.heap.size, 0, none⟩ = some (.int .i64 rate) ∧ W.cell? ⟨w1.heap.size, 1, none⟩ = some (.int .i64 per) ∧ W.cell? ⟨w1.heap.size, 2, none⟩ = some (.int .i64 burst)) := fun W hW =>
      have h := hg.fr hW (by omega)
      ⟨h.cell' rfl, h.cell' rfl, h.cell' rfl⟩
    by_cases hlt : k < n
    · by_cases hbig : k < 20000
      · obtain ⟨b, o, rfl, hbB, hcs⟩ := hs (by omega)
        obtain ⟨hN1, hN2, hN3⟩ := hN k hlt
        have hC : Hid (∀ W, Fr (· = p) w2 W → W.cell? ⟨b, o + k * 4, none⟩ = some (.int .i64 (kd k)) ∧ W.cell? ⟨b, o + k * 4 + 2, none⟩ = some (.int .i64 (nn k))) := fun W hW => by
          have hcell : ∀ j, j < 4 → W.cell? ⟨b, o + k * 4 + j, none⟩ = some (f k j) := fun j hj =>
            ((hW.cell (p := ⟨b, o + k * 4 + j, none⟩) (by have := hF.size; simp; omega) (by simp; omega)).trans (hF.cell hbB id)).trans (hcs k j hlt hj)
          have a := hcell 0 (by omega)
          have b := hcell 2 (by omega)
          rw [hk k hlt] at a
          rw [hN1] at b
          exact ⟨a, b⟩
        clear hs hcs hk hN hN1
        go_upto_if 40 with (go_at_call 13; refine (round_any _ _ _ (by omega) (by omega)).mono ?_; rintro e w' ⟨rfl, rfl⟩)
        go_cut [9, 10] (fun s t wx => wx = wr ∧ Span p rate per burst w2 k s t wx)
        case first =>
          go_wp2_with fail
          · go_meet
            exact ⟨rfl, 0, 0, level, rest, rfl, rfl, by omega, by omega, by omega, by omega, ok, span_full p1 ok.s1 ok.s2 ok.l1 ok.l2 ok.f, hbr, hfr⟩
          · go_meet
            exact ⟨rfl, tt, tn, level, rest, rfl, rfl, t1, t2, n1, n2, ok, hI, hbr, hfr⟩
        case rest =>
          clear t1 t2 n1 n2 hI ok hbr hfr
          obtain ⟨rfl, tt, tn, level, rest, rfl, rfl, t1, t2, n1, n2, ok, hI, hbr, hfr⟩ := hcut
          obtain ⟨c0, c2⟩ := hC.out wc hfr
          have l1 := ok.l1
          have l2 := ok.l2
          by_cases hR : kd k = 1
          · by_cases hR2 : 0 ≤ nn k ∧ nn k ≤ 2147483648
            · obtain ⟨hR2, hR3⟩ := hR2
              have ok3 := bk_refilled ok hR2 hR3
              have hI3 : Hid (bkL rate per burst level rest (nn k) * per + bkR rate per burst level rest (nn k) + tn * per ≤ burst * per + rate * (tt + nn k)) := span_refill p1 hI.out
              obtain ⟨T, hT⟩ : ∃ T, tt + nn k = T := ⟨_, rfl⟩
              obtain ⟨L3, hL3⟩ : ∃ L3, bkL rate per burst level rest (nn k) = L3 := ⟨_, rfl⟩
              obtain ⟨R3, hR3'⟩ : ∃ R3, bkR rate per burst level rest (nn k) = R3 := ⟨_, rfl⟩
              rw [hT, hL3, hR3'] at hI3
              rw [hL3, hR3'] at ok3
              have HL := hide (And.intro hL3 hR3')
              clear hL3 hR3'
              have T1 : 0 ≤ T := by omega
              have T2 : T ≤ (k : Int) * 2147483648 + 2147483648 := by omega
              obtain ⟨U, rfl⟩ : ∃ U, U = tn := ⟨_, rfl⟩
              have U1 := n1
              (obtain ⟨g0, g1, g2⟩ := hG.out _ hfr); (have s1 := ok3.s1); (have s2 := ok3.s2); (obtain ⟨y1, y2, y3, y4⟩ := span_told r1 r2 p1 p2 b1 s1 ok3.l1 hI3.out T1 (by omega) U1 (by omega))
              by_cases hgt : burst < U
              · have y5 := y4 hgt
                clear y4
                go_wp2_with fail
                refine (refill_made _ _ hbr ok hR2 hR3).mono ?_
                rintro e w3 ⟨rfl, hb3, hf3⟩
                rw [HL.out.1, HL.out.2] at hb3
                replace hf3 := hfr.trans hf3
                clear c0 c2 g0 g1 g2
                obtain ⟨c0, c2⟩ := hC.out _ hf3
                obtain ⟨g0, g1, g2⟩ := hG.out _ hf3
                go_wp2_with fail
                all_goals exact ⟨⟨k + 1, by omega, by go_num, T, U, L3, R3, rfl, rfl, T1, by omega, U1, by omega, ok3, hI3, hb3, hf3⟩, by simp [intOf]; omega⟩
              · clear y4
                go_wp2_with fail
                refine (refill_made _ _ hbr ok hR2 hR3).mono ?_
                rintro e w3 ⟨rfl, hb3, hf3⟩
                rw [HL.out.1, HL.out.2] at hb3
                replace hf3 := hfr.trans hf3
                clear c0 c2 g0 g1 g2
                obtain ⟨c0, c2⟩ := hC.out _ hf3
                obtain ⟨g0, g1, g2⟩ := hG.out _ hf3
                go_wp2_with fail
                all_goals exact ⟨⟨k + 1, by omega, by go_num, T, U, L3, R3, rfl, rfl, T1, by omega, U1, by omega, ok3, hI3, hb3, hf3⟩, by simp [intOf]; omega⟩
            · have hR3 : nn k < 0 ∨ 2147483648 < nn k := by omega
              clear hR2
              obtain ⟨T, rfl⟩ : ∃ T, T = tt := ⟨_, rfl⟩
              have T1 := t1
              obtain ⟨U, rfl⟩ : ∃ U, U = tn := ⟨_, rfl⟩
              have U1 := n1
              obtain ⟨L3, rfl⟩ : ∃ L3, L3 = level := ⟨_, rfl⟩
              obtain ⟨R3, rfl⟩ : ∃ R3, R3 = rest := ⟨_, rfl⟩
              have ok3 := ok
              have hI3 := hI
              have hb3 := hbr
              have hf3 := hfr
              (obtain ⟨g0, g1, g2⟩ := hG.out _ hfr); (have s1 := ok3.s1); (have s2 := ok3.s2); (obtain ⟨y1, y2, y3, y4⟩ := span_told r1 r2 p1 p2 b1 s1 ok3.l1 hI3.out T1 (by omega) U1 (by omega))
              by_cases hgt : burst < U
              · have y5 := y4 hgt
                clear y4
                go_wp2_with fail
                refine (refill_time _ _ hbr ok hR3).mono ?_
                rintro e w3 ⟨rfl, rfl⟩
                go_wp2_with fail
                all_goals exact ⟨⟨k + 1, by omega, by go_num, T, U, L3, R3, rfl, rfl, T1, by omega, U1, by omega, ok3, hI3, hb3, hf3⟩, by simp [intOf]; omega⟩
              · clear y4
                go_wp2_with fail
                refine (refill_time _ _ hbr ok hR3).mono ?_
                rintro e w3 ⟨rfl, rfl⟩
                go_wp2_with fail
                all_goals exact ⟨⟨k + 1, by omega, by go_num, T, U, L3, R3, rfl, rfl, T1, by omega, U1, by omega, ok3, hI3, hb3, hf3⟩, by simp [intOf]; omega⟩
          · by_cases hT : kd k = 2
            · by_cases hT2 : 0 ≤ nn k
              · by_cases hl : nn k ≤ level
                · have ok3 := bk_taken ok hT2 hl
                  have hI3 : Hid ((level - nn k) * per + rest + (tn + nn k) * per ≤ burst * per + rate * tt) := span_take hI.out
                  obtain ⟨U, hU⟩ : ∃ U, tn + nn k = U := ⟨_, rfl⟩
                  obtain ⟨L3, hL3⟩ : ∃ L3, level - nn k = L3 := ⟨_, rfl⟩
                  rw [hU, hL3] at hI3
                  rw [hL3] at ok3
                  have HL := hide hL3
                  clear hL3
                  obtain ⟨R3, rfl⟩ : ∃ R3, R3 = rest := ⟨_, rfl⟩
                  have U1 : 0 ≤ U := by omega
                  have U2 : U ≤ (k : Int) * 1048576 + 1048576 := by omega
                  obtain ⟨T, rfl⟩ : ∃ T, T = tt := ⟨_, rfl⟩
                  have T1 := t1
                  (obtain ⟨g0, g1, g2⟩ := hG.out _ hfr); (have s1 := ok3.s1); (have s2 := ok3.s2); (obtain ⟨y1, y2, y3, y4⟩ := span_told r1 r2 p1 p2 b1 s1 ok3.l1 hI3.out T1 (by omega) U1 (by omega))
                  by_cases hgt : burst < U
                  · have y5 := y4 hgt
                    clear y4
                    go_wp2_with fail
                    refine (take_made _ _ hbr ok hT2 hl).mono ?_
                    rintro e w3 ⟨rfl, hb3, hf3⟩
                    rw [HL.out] at hb3
                    replace hf3 := hfr.trans hf3
                    clear c0 c2 g0 g1 g2
                    obtain ⟨c0, c2⟩ := hC.out _ hf3
                    obtain ⟨g0, g1, g2⟩ := hG.out _ hf3
                    go_wp2_with fail
                    all_goals exact ⟨⟨k + 1, by omega, by go_num, T, U, L3, R3, rfl, rfl, T1, by omega, U1, by omega, ok3, hI3, hb3, hf3⟩, by simp [intOf]; omega⟩
                  · clear y4
                    go_wp2_with fail
                    refine (take_made _ _ hbr ok hT2 hl).mono ?_
                    rintro e w3 ⟨rfl, hb3, hf3⟩
                    rw [HL.out] at hb3
                    replace hf3 := hfr.trans hf3
                    clear c0 c2 g0 g1 g2
                    obtain ⟨c0, c2⟩ := hC.out _ hf3
                    obtain ⟨g0, g1, g2⟩ := hG.out _ hf3
                    go_wp2_with fail
                    all_goals exact ⟨⟨k + 1, by omega, by go_num, T, U, L3, R3, rfl, rfl, T1, by omega, U1, by omega, ok3, hI3, hb3, hf3⟩, by simp [intOf]; omega⟩
                · have hl' : level < nn k := by omega
                  obtain ⟨T, rfl⟩ : ∃ T, T = tt := ⟨_, rfl⟩
                  have T1 := t1
                  obtain ⟨U, rfl⟩ : ∃ U, U = tn := ⟨_, rfl⟩
                  have U1 := n1
                  obtain ⟨L3, rfl⟩ : ∃ L3, L3 = level := ⟨_, rfl⟩
                  obtain ⟨R3, rfl⟩ : ∃ R3, R3 = rest := ⟨_, rfl⟩
                  have ok3 := ok
                  have hI3 := hI
                  have hb3 := hbr
                  have hf3 := hfr
                  (obtain ⟨g0, g1, g2⟩ := hG.out _ hfr); (have s1 := ok3.s1); (have s2 := ok3.s2); (obtain ⟨y1, y2, y3, y4⟩ := span_told r1 r2 p1 p2 b1 s1 ok3.l1 hI3.out T1 (by omega) U1 (by omega))
                  by_cases hgt : burst < U
                  · have y5 := y4 hgt
                    clear y4
                    go_wp2_with fail
                    refine (take_dry _ _ hbr ok hT2 hl').mono ?_
                    rintro e w3 ⟨rfl, rfl⟩
                    go_wp2_with fail
                    all_goals exact ⟨⟨k + 1, by omega, by go_num, T, U, L3, R3, rfl, rfl, T1, by omega, U1, by omega, ok3, hI3, hb3, hf3⟩, by simp [intOf]; omega⟩
                  · clear y4
                    go_wp2_with fail
                    refine (take_dry _ _ hbr ok hT2 hl').mono ?_
                    rintro e w3 ⟨rfl, rfl⟩
                    go_wp2_with fail
                    all_goals exact ⟨⟨k + 1, by omega, by go_num, T, U, L3, R3, rfl, rfl, T1, by omega, U1, by omega, ok3, hI3, hb3, hf3⟩, by simp [intOf]; omega⟩
              · have hT3 : nn k < 0 := by omega
                obtain ⟨T, rfl⟩ : ∃ T, T = tt := ⟨_, rfl⟩
                have T1 := t1
                obtain ⟨U, rfl⟩ : ∃ U, U = tn := ⟨_, rfl⟩
                have U1 := n1
                obtain ⟨L3, rfl⟩ : ∃ L3, L3 = level := ⟨_, rfl⟩
                obtain ⟨R3, rfl⟩ : ∃ R3, R3 = rest := ⟨_, rfl⟩
                have ok3 := ok
                have hI3 := hI
                have hb3 := hbr
                have hf3 := hfr
                (obtain ⟨g0, g1, g2⟩ := hG.out _ hfr); (have s1 := ok3.s1); (have s2 := ok3.s2); (obtain ⟨y1, y2, y3, y4⟩ := span_told r1 r2 p1 p2 b1 s1 ok3.l1 hI3.out T1 (by omega) U1 (by omega))
                by_cases hgt : burst < U
                · have y5 := y4 hgt
                  clear y4
                  go_wp2_with fail
                  refine (take_neg _ _ hbr ok hT3).mono ?_
                  rintro e w3 ⟨rfl, rfl⟩
                  go_wp2_with fail
                  all_goals exact ⟨⟨k + 1, by omega, by go_num, T, U, L3, R3, rfl, rfl, T1, by omega, U1, by omega, ok3, hI3, hb3, hf3⟩, by simp [intOf]; omega⟩
                · clear y4
                  go_wp2_with fail
                  refine (take_neg _ _ hbr ok hT3).mono ?_
                  rintro e w3 ⟨rfl, rfl⟩
                  go_wp2_with fail
                  all_goals exact ⟨⟨k + 1, by omega, by go_num, T, U, L3, R3, rfl, rfl, T1, by omega, U1, by omega, ok3, hI3, hb3, hf3⟩, by simp [intOf]; omega⟩
            · obtain ⟨T, rfl⟩ : ∃ T, T = tt := ⟨_, rfl⟩
              have T1 := t1
              obtain ⟨U, rfl⟩ : ∃ U, U = tn := ⟨_, rfl⟩
              have U1 := n1
              obtain ⟨L3, rfl⟩ : ∃ L3, L3 = level := ⟨_, rfl⟩
              obtain ⟨R3, rfl⟩ : ∃ R3, R3 = rest := ⟨_, rfl⟩
              have ok3 := ok
              have hI3 := hI
              have hb3 := hbr
              have hf3 := hfr
              (obtain ⟨g0, g1, g2⟩ := hG.out _ hfr); (have s1 := ok3.s1); (have s2 := ok3.s2); (obtain ⟨y1, y2, y3, y4⟩ := span_told r1 r2 p1 p2 b1 s1 ok3.l1 hI3.out T1 (by omega) U1 (by omega))
              by_cases hgt : burst < U
              · have y5 := y4 hgt
                clear y4
                go_wp2_with fail
                all_goals exact ⟨⟨k + 1, by omega, by go_num, T, U, L3, R3, rfl, rfl, T1, by omega, U1, by omega, ok3, hI3, hb3, hf3⟩, by simp [intOf]; omega⟩
              · clear y4
                go_wp2_with fail
                all_goals exact ⟨⟨k + 1, by omega, by go_num, T, U, L3, R3, rfl, rfl, T1, by omega, U1, by omega, ok3, hI3, hb3, hf3⟩, by simp [intOf]; omega⟩
      · go_wp2_with fail
        go_ret
        exact ⟨rfl, (hF.comp hfr (fun i hi e => by omega)).toBelow (Nat.le_refl _) (by simp)⟩
    · go_wp2_with fail
      go_ret
      exact ⟨rfl, (hF.comp hfr (fun i hi e => by omega)).toBelow (Nat.le_refl _) (by simp)⟩
end Go.Proofs.Ytgogagapapdlgaa
