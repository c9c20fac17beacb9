/-
  bucket: Copy, When; the law's waited.
-/
import Derived.Test.YtgogagapapdlgaaBkNew
import Derived.Test.YtgogagapapdlgaaBkLaw2
namespace Go.Proofs.Ytgogagapapdlgaa
open Go.RowKit
set_option linter.unusedVariables false

set_option maxHeartbeats 400000 in
theorem copy_made {p : Nat} {rate per burst level rest : Int} (w : World) (hb : Bk w p rate per burst level rest) (hp : 1 ≤ per) :
    Calls Try.prog 23 #[.pointer (some ⟨p, 0, none⟩)] w fun e w' => e = .returned (.pointer (some ⟨w.heap.size, 0, none⟩)) ∧ Bk w' w.heap.size rate per burst level rest ∧ Fr (fun _ => False) w w' ∧ w.heap.size < w'.heap.size := by
  have c0 : w.cell? ⟨p, 0, none⟩ = some (.int .i64 rate) := hb.cell' rfl
  have c1 : w.cell? ⟨p, 1, none⟩ = some (.int .i64 per) := hb.cell' rfl
  have c2 : w.cell? ⟨p, 2, none⟩ = some (.int .i64 burst) := hb.cell' rfl
  have c3 : w.cell? ⟨p, 3, none⟩ = some (.int .i64 level) := hb.cell' rfl
  have c4 : w.cell? ⟨p, 4, none⟩ = some (.int .i64 rest) := hb.cell' rfl
  have hl := hb.lt
  go_enter Try.func23, Try.ntmps23
  go_wp2_with (go_at_call 22; refine (none_made _ hb hp).mono ?_; rintro e w' ⟨rfl, rfl⟩)
  go_ret
  exact ⟨rfl, Bl.new _ _ _, (Fr.refl _ _).alloc _, by simp⟩

theorem when_bd {rate per burst level rest n : Int} (r1 : 1 ≤ rate) (p1 : 1 ≤ per) (hX : 1 ≤ (n - level) * per - rest) (hB : (n - level) * per - rest ≤ 70000000000) (r2 : rate ≤ 65536) :
    0 ≤ ((n - level) * per - rest + rate - 1) / rate ∧ ((n - level) * per - rest + rate - 1) / rate ≤ (n - level) * per - rest := by
  refine ⟨Int.ediv_nonneg (by omega) (by omega), ?_⟩
  generalize (n - level) * per - rest = X at *
  refine Int.le_of_lt_add_one ((Int.ediv_lt_iff_lt_mul (by omega)).2 ?_)
  rw [Int.add_mul, Int.one_mul]
  have := Int.mul_le_mul_of_nonneg_left r1 (show 0 ≤ X by omega)
  have h2 : X - 1 ≤ (X - 1) * rate := by
    have := Int.mul_le_mul_of_nonneg_left r1 (show 0 ≤ X - 1 by omega); omega
  rw [Int.sub_mul] at h2
  omega

set_option maxHeartbeats 400000 in
theorem when_far {p : Nat} {rate per burst level rest : Int} (w : World) (n : Int) (hb : Bk w p rate per burst level rest) (hp : 1 ≤ per) (hn : burst < n) :
    Calls Try.prog 14 #[.pointer (some ⟨p, 0, none⟩), .int .i64 n] w fun e w' => e = .returned (.tuple #[.int .i64 0, .bool false]) ∧ w = w' := by
  have c2 : w.cell? ⟨p, 2, none⟩ = some (.int .i64 burst) := hb.cell' rfl
  go_enter Try.func14, Try.ntmps14
  go_wp2_with (go_at_call 22; refine (none_made _ hb hp).mono ?_; rintro e w' ⟨rfl, rfl⟩)
  go_ret2
  exact ⟨rfl, rfl⟩
set_option maxHeartbeats 400000 in
theorem when_now {p : Nat} {rate per burst level rest : Int} (w : World) (n : Int) (hb : Bk w p rate per burst level rest) (hp : 1 ≤ per) (hn : n ≤ burst) (hl : n ≤ level) :
    Calls Try.prog 14 #[.pointer (some ⟨p, 0, none⟩), .int .i64 n] w fun e w' => e = .returned (.tuple #[.int .i64 0, .bool true]) ∧ w = w' := by
  have c2 : w.cell? ⟨p, 2, none⟩ = some (.int .i64 burst) := hb.cell' rfl
  have c3 : w.cell? ⟨p, 3, none⟩ = some (.int .i64 level) := hb.cell' rfl
  go_enter Try.func14, Try.ntmps14
  go_wp2_with (go_at_call 22; refine (none_made _ hb hp).mono ?_; rintro e w' ⟨rfl, rfl⟩)
  go_ret2
  exact ⟨rfl, rfl⟩
set_option maxHeartbeats 1000000 in
theorem when_then {p : Nat} {rate per burst level rest : Int} (w : World) (n : Int) (hb : Bk w p rate per burst level rest) (ok : BkOk rate per burst level rest) (hn : n ≤ burst) (hl : level < n) :
    Calls Try.prog 14 #[.pointer (some ⟨p, 0, none⟩), .int .i64 n] w fun e w' => e = .returned (.tuple #[.int .i64 (((n - level) * per - rest + rate - 1) / rate), .bool true]) ∧ Fr (fun _ => False) w w' := by
  have c0 : w.cell? ⟨p, 0, none⟩ = some (.int .i64 rate) := hb.cell' rfl
  have c1 : w.cell? ⟨p, 1, none⟩ = some (.int .i64 per) := hb.cell' rfl
  have c2 : w.cell? ⟨p, 2, none⟩ = some (.int .i64 burst) := hb.cell' rfl
  have c3 : w.cell? ⟨p, 3, none⟩ = some (.int .i64 level) := hb.cell' rfl
  have c4 : w.cell? ⟨p, 4, none⟩ = some (.int .i64 rest) := hb.cell' rfl
  obtain ⟨r1, r2, p1, p2, b1, b2, l1, l2, s1, s2, -⟩ := ok
  have x1 : 0 ≤ (n - level) * per := Int.mul_nonneg (by omega) (by omega)
  have x2 : (n - level) * per ≤ 1048576 * 65536 := Int.mul_le_mul (by omega) p2 (by omega) (by omega)
  have x3 : per ≤ (n - level) * per := by
    have := Int.mul_le_mul_of_nonneg_right (show 1 ≤ n - level by omega) (show 0 ≤ per by omega)
    omega
  obtain ⟨x4, x5⟩ := when_bd (n := n) (level := level) r1 p1 (rest := rest) (by omega) (by omega) r2 (burst := burst)
  have v0 : ¬ rate = 0 := by omega
  have v1 := IntWalk.i64_in (n - level) (by omega)
  have v2 := IntWalk.i64_in ((n - level) * per) (by omega)
  have v3 := IntWalk.i64_in ((n - level) * per - rest) (by omega)
  have v4 := IntWalk.i64_in ((n - level) * per - rest + rate) (by omega)
  have v5 := IntWalk.i64_in ((n - level) * per - rest + rate - 1) (by omega)
  have v6 : ((n - level) * per - rest + rate - 1).tdiv rate = ((n - level) * per - rest + rate - 1) / rate := Int.tdiv_eq_ediv_of_nonneg (by omega)
  have v7 := IntWalk.i64_in (((n - level) * per - rest + rate - 1) / rate) (by omega)
  go_enter Try.func14, Try.ntmps14
  go_wp2_with (go_at_call 22; refine (none_made _ hb p1).mono ?_; rintro e w' ⟨rfl, rfl⟩)
  go_quiet (fail)
  go_wp2
  go_quiet (fail)
  go_wp2
  go_ret2
  exact ⟨rfl, ((Fr.refl _ _).drewN _).drewN _⟩

theorem bk_zero {rate per burst level rest : Int} (ok : BkOk rate per burst level rest) : bkL rate per burst level rest 0 = level ∧ bkR rate per burst level rest 0 = rest := by
  obtain ⟨r1, r2, p1, p2, b1, b2, l1, l2, s1, s2, f⟩ := ok
  unfold bkL bkR
  have e1 : (rest + rate * 0) / per = 0 := by rw [Int.mul_zero, Int.add_zero]; exact Int.ediv_eq_zero_of_lt s1 s2
  have e2 : (rest + rate * 0) % per = rest := by rw [Int.mul_zero, Int.add_zero]; exact Int.emod_eq_of_lt s1 s2
  rw [e1, e2]
  by_cases h : burst ≤ level + 0
  · rw [if_pos h, if_pos h]; exact ⟨by omega, (f (by omega)).symm⟩
  · rw [if_neg h, if_neg h]; exact ⟨by omega, rfl⟩
theorem bk_add {rate per burst level rest s t : Int} (ok : BkOk rate per burst level rest) (h1 : 0 ≤ s) (h2 : 0 ≤ t) :
    bkL rate per burst (bkL rate per burst level rest s) (bkR rate per burst level rest s) t = bkL rate per burst level rest (s + t) ∧ bkR rate per burst (bkL rate per burst level rest s) (bkR rate per burst level rest s) t = bkR rate per burst level rest (s + t) :=
  refill_add ok.p1 ok.s1 ok.s2 ok.l2 (Int.mul_nonneg (by have := ok.r1; omega) h1) (Int.mul_nonneg (by have := ok.r1; omega) h2)

/-- 'so many ticks are still to come'. -/
def Rest (c : Nat) (rate per burst : Int) (FL FR : Int) (w1 : World) (t : Value) (w : World) : Prop :=
  ∃ tk level rest : Int, t = .int .i64 tk ∧ 0 ≤ tk ∧ tk ≤ 4611686018427387904 ∧ BkOk rate per burst level rest ∧ Hid (bkL rate per burst level rest tk = FL ∧ bkR rate per burst level rest tk = FR) ∧ Bk w c rate per burst level rest ∧ Fr (· = c) w1 w

set_option maxHeartbeats 1000000 in
theorem waited_any {p : Nat} {rate per burst level rest : Int} (w : World) (t : Int) (hb : Bk w p rate per burst level rest) (ok : BkOk rate per burst level rest) (t1 : 0 ≤ t) (t2 : t ≤ 4611686018427387904) :
    Calls Try.prog 15 #[.pointer (some ⟨p, 0, none⟩), .int .i64 t] w fun e w' => e = .returned (.pointer (some ⟨w.heap.size, 0, none⟩)) ∧ Bk w' w.heap.size rate per burst (bkL rate per burst level rest t) (bkR rate per burst level rest t) ∧
      Fr (fun _ => False) w w' ∧ w.heap.size < w'.heap.size := by
  obtain ⟨FL, hFL⟩ : ∃ FL, bkL rate per burst level rest t = FL := ⟨_, rfl⟩
  obtain ⟨FR, hFR⟩ : ∃ FR, bkR rate per burst level rest t = FR := ⟨_, rfl⟩
  rw [hFL, hFR]
  have HF := hide (And.intro hFL hFR)
  clear hFL hFR
  go_enter Try.func15, Try.ntmps15
  go_wp2_with fail
  refine (copy_made _ hb ok.p1).mono ?_
  rintro e w1 ⟨rfl, hb1, hf1, hs1⟩
  go_wp2_with fail
  go_loopw [1] (fun s wr => Rest w.heap.size rate per burst FL FR w1 s wr) (fun s _ => (intOf s).toNat)
  case atStart => exact ⟨t, level, rest, rfl, t1, t2, ok, HF, hb1, Fr.refl _ _⟩
  case round =>
    obtain ⟨tk, lv, rs, rfl, k1, k2, ok', hI, hbr, hfr⟩ := hrel
    by_cases hz : 0 < tk
    · by_cases hbig : tk ≤ 2147483648
      · have hm : min tk 2147483648 = tk := Int.min_eq_left hbig
        have ok3 := bk_refilled ok' k1 hbig
        have hI3 : Hid (bkL rate per burst (bkL rate per burst lv rs tk) (bkR rate per burst lv rs tk) 0 = FL ∧ bkR rate per burst (bkL rate per burst lv rs tk) (bkR rate per burst lv rs tk) 0 = FR) := by
          obtain ⟨a, b⟩ := bk_zero ok3
          show _ ∧ _
          rw [a, b]; exact hI.out
        go_wp2_with fail
        refine (refill_made _ _ hbr ok' k1 hbig).mono ?_
        rintro e w3 ⟨rfl, hb3, hf3⟩
        go_wp2_with fail
        go_roundw
        case rel => exact ⟨0, _, _, by go_num, by omega, by omega, ok3, hI3, hb3, hfr.trans hf3⟩
        case measure => simp [intOf]; omega
      · have hI3 : Hid (bkL rate per burst (bkL rate per burst lv rs 2147483648) (bkR rate per burst lv rs 2147483648) (tk - 2147483648) = FL ∧ bkR rate per burst (bkL rate per burst lv rs 2147483648) (bkR rate per burst lv rs 2147483648) (tk - 2147483648) = FR) := by
          obtain ⟨a, b⟩ := bk_add ok' (show (0 : Int) ≤ 2147483648 by omega) (show 0 ≤ tk - 2147483648 by omega)
          show _ ∧ _
          rw [a, b, show 2147483648 + (tk - 2147483648) = tk by omega]; exact hI.out
        have ok3 := bk_refilled ok' (show (0 : Int) ≤ 2147483648 by omega) (by omega)
        go_wp2_with fail
        refine (refill_made _ _ hbr ok' (by omega) (by omega)).mono ?_
        rintro e w3 ⟨rfl, hb3, hf3⟩
        go_wp2_with fail
        go_roundw
        case rel => exact ⟨tk - 2147483648, _, _, by go_num, by omega, by omega, ok3, hI3, hb3, hfr.trans hf3⟩
        case measure => simp [intOf]; omega
    · obtain rfl : tk = 0 := by omega
      obtain ⟨a, b⟩ := bk_zero ok'
      have hz : lv = FL ∧ rs = FR := by rw [← hI.out.1, ← hI.out.2, a, b]; exact ⟨rfl, rfl⟩
      obtain ⟨rfl, rfl⟩ := hz
      clear a b
      go_wp2_with fail
      go_ret
      exact ⟨rfl, hbr, hf1.comp hfr (fun i hi e => by omega), Nat.lt_of_lt_of_le hs1 hfr.size⟩
end Go.Proofs.Ytgogagapapdlgaa
