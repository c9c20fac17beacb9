/-
  The reference's When looks by halves for the number that the program reckons.
-/
import Derived.Test.YtgogagapapdlgaaBkRef
namespace Go.Proofs.Ytgogagapapdlgaa
open Go.RowKit
set_option linter.unusedVariables false
attribute [local go_sem ↓] Go.wp_at_zero Go.wp_at_succ

theorem after_iff {rate per level rest n T t : Int} (r1 : 1 ≤ rate) (p1 : 1 ≤ per) (h1 : n * per ≤ level * per + rest + rate * T) (h2 : level * per + rest + rate * (T - 1) < n * per) :
    n ≤ level + (rest + rate * t) / per ↔ T ≤ t := by
  rw [(@meter_flow per level rest (rate * t) p1).1, le_div p1]
  constructor
  · intro h
    apply Int.not_lt.1
    intro ht
    have := Int.mul_le_mul_of_nonneg_left (show t ≤ T - 1 by omega) (show 0 ≤ rate by omega)
    omega
  · intro h
    have := Int.mul_le_mul_of_nonneg_left h (show 0 ≤ rate by omega)
    omega

set_option maxHeartbeats 1000000 in
theorem after_any {p : Nat} {rate per burst level rest : Int} (w : World) (n t : Int) (hb : Rk w p rate per burst level rest) (ok : BkOk rate per burst level rest) (t1 : 0 ≤ t) (t2 : t ≤ 70000000000) :
    Calls Try.prog 32 #[.pointer (some ⟨p, 0, none⟩), .int .i64 n, .int .i64 t] w fun e w' => e = .returned (.bool (decide (n ≤ level + (rest + rate * t) / per))) ∧ Fr (fun _ => False) w w' := by
  have c0 : w.cell? ⟨p, 0, none⟩ = some (.int .i64 rate) := hb.cell' rfl
  have c1 : w.cell? ⟨p, 1, none⟩ = some (.int .i64 per) := hb.cell' rfl
  have c3 : w.cell? ⟨p, 3, none⟩ = some (.int .i64 level) := hb.cell' rfl
  have c4 : w.cell? ⟨p, 4, none⟩ = some (.int .i64 rest) := hb.cell' rfl
  obtain ⟨r1, r2, p1, p2, b1, b2, l1, l2, s1, s2, -⟩ := ok
  have a : 0 ≤ rate * t := Int.mul_nonneg (by omega) t1
  have b : rate * t ≤ 65536 * 70000000000 := Int.mul_le_mul r2 t2 t1 (by omega)
  have c : (rest + rate * t) / per ≤ rest + rate * t := Int.ediv_le_self _ (by omega)
  have d : 0 ≤ (rest + rate * t) / per := Int.ediv_nonneg (by omega) (by omega)
  have q0 : ¬ per = 0 := by omega
  have q1 : (rest + rate * t).tdiv per = (rest + rate * t) / per := Int.tdiv_eq_ediv_of_nonneg (by omega)
  have q3 : IntKind.i64.wrap ((rest + rate * t) / per) = (rest + rate * t) / per := IntWalk.i64_in _ (by omega)
  have q4 : IntKind.i64.wrap (level + (rest + rate * t) / per) = level + (rest + rate * t) / per := IntWalk.i64_in _ (by omega)
  have q5 : IntKind.i64.wrap (rest + rate * t) = rest + rate * t := IntWalk.i64_in _ (by omega)
  have q6 : IntKind.i64.wrap (rate * t) = rate * t := IntWalk.i64_in _ (by omega)
  go_enter Try.func32, Try.ntmps32
  go_wp2
  go_quiet (fail)
  go_wp2
  go_ret
  exact ⟨rfl, ((Fr.refl _ _).drewN _)⟩

set_option maxHeartbeats 400000 in
theorem rwhen_nil (w : World) (n : Int) :
    Calls Try.prog 26 #[.pointer none, .int .i64 n] w fun e w' => e = .returned (.tuple #[.int .i64 0, .bool false]) ∧ w = w' := by
  go_enter Try.func26, Try.ntmps26
  go_wp2
  go_ret2
  exact ⟨rfl, rfl⟩
set_option maxHeartbeats 400000 in
theorem rwhen_far {p : Nat} {rate per burst level rest : Int} (w : World) (n : Int) (hb : Rk w p rate per burst level rest) (hn : burst < n) :
    Calls Try.prog 26 #[.pointer (some ⟨p, 0, none⟩), .int .i64 n] w fun e w' => e = .returned (.tuple #[.int .i64 0, .bool false]) ∧ w = w' := by
  have c2 : w.cell? ⟨p, 2, none⟩ = some (.int .i64 burst) := hb.cell' rfl
  go_enter Try.func26, Try.ntmps26
  go_wp2
  go_ret2
  exact ⟨rfl, rfl⟩
set_option maxHeartbeats 400000 in
theorem rwhen_now {p : Nat} {rate per burst level rest : Int} (w : World) (n : Int) (hb : Rk w p rate per burst level rest) (hn : n ≤ burst) (hl : n ≤ level) :
    Calls Try.prog 26 #[.pointer (some ⟨p, 0, none⟩), .int .i64 n] w fun e w' => e = .returned (.tuple #[.int .i64 0, .bool true]) ∧ w = w' := by
  have c2 : w.cell? ⟨p, 2, none⟩ = some (.int .i64 burst) := hb.cell' rfl
  have c3 : w.cell? ⟨p, 3, none⟩ = some (.int .i64 level) := hb.cell' rfl
  go_enter Try.func26, Try.ntmps26
  go_wp2
  go_ret2
  exact ⟨rfl, rfl⟩

/-- 'the number looked for lies behind few, up to enough'. -/
def Look (T : Int) (w0 : World) (b a : Value) (w : World) : Prop := ∃ few enough : Int, a = .int .i64 few ∧ b = .int .i64 enough ∧ 0 ≤ few ∧ few < T ∧ T ≤ enough ∧ enough ≤ 70000000000 ∧ Fr (fun _ => False) w0 w

set_option maxHeartbeats 2000000 in
theorem rwhen_then {p : Nat} {rate per burst level rest : Int} (w : World) (n : Int) (hb : Rk w p rate per burst level rest) (ok : BkOk rate per burst level rest) (hn : n ≤ burst) (hl : level < n) :
    Calls Try.prog 26 #[.pointer (some ⟨p, 0, none⟩), .int .i64 n] w fun e w' => e = .returned (.tuple #[.int .i64 (((n - level) * per - rest + rate - 1) / rate), .bool true]) ∧ Fr (fun _ => False) w w' := by
  have c0 : w.cell? ⟨p, 0, none⟩ = some (.int .i64 rate) := hb.cell' rfl
  have c1 : w.cell? ⟨p, 1, none⟩ = some (.int .i64 per) := hb.cell' rfl
  have c2 : w.cell? ⟨p, 2, none⟩ = some (.int .i64 burst) := hb.cell' rfl
  have c3 : w.cell? ⟨p, 3, none⟩ = some (.int .i64 level) := hb.cell' rfl
  obtain ⟨r1, r2, p1, p2, b1, b2, l1, l2, s1, s2, -⟩ := id ok
  obtain ⟨T1, T2, T3⟩ := when_ok r1 p1 s1 s2 hl (burst := burst)
  have x1 : 0 ≤ (n - level) * per := Int.mul_nonneg (by omega) (by omega)
  have x2 : (n - level) * per ≤ 1048576 * 65536 := Int.mul_le_mul (by omega) p2 (by omega) (by omega)
  have x3 : per ≤ (n - level) * per := by
    have := Int.mul_le_mul_of_nonneg_right (show 1 ≤ n - level by omega) (show 0 ≤ per by omega)
    omega
  obtain ⟨x4, x5⟩ := when_bd (n := n) (level := level) r1 p1 (rest := rest) (by omega) (by omega) r2 (burst := burst)
  have x6 : 0 ≤ level * per := Int.mul_nonneg l1 (by omega)
  have x7 := Int.sub_mul n level per
  have x8 : n * per ≤ 1048576 * 65536 := Int.mul_le_mul (by omega) p2 (by omega) (by omega)
  obtain ⟨T, hT⟩ : ∃ T, ((n - level) * per - rest + rate - 1) / rate = T := ⟨_, rfl⟩
  rw [hT] at T1 T2 T3 x4 x5 ⊢
  have HT := hide (And.intro T2 T3)
  have y1 : T ≤ n * per := by omega
  clear hT T2 T3 x5 x1 x2 x3 x6 x7
  go_enter Try.func26, Try.ntmps26
  go_wp2_with fail
  go_loopw [6, 7] (fun a b wr => Look T w b a wr) (fun a b _ => (intOf b - intOf a).toNat)
  case atStart => exact ⟨0, n * per, rfl, rfl, by omega, T1, y1, by omega, Fr.refl _ _⟩
  case round =>
    obtain ⟨few, enough, rfl, rfl, k1, k2, k3, k4, hfr⟩ := hrel
    by_cases hg : 1 < enough - few
    · have hm0 : (enough - few).tdiv 2 = (enough - few) / 2 := Int.tdiv_eq_ediv_of_nonneg (by omega)
      go_wp2_with fail
      refine (after_any _ _ _ (hb.fr hfr id) ok (by omega) (by omega)).mono ?_
      rintro e w1 ⟨rfl, hf1⟩
      have hia := @after_iff rate per level rest n T (few + (enough - few) / 2) r1 p1 HT.out.1 HT.out.2
      by_cases hc : T ≤ few + (enough - few) / 2
      · rw [decide_eq_true (hia.2 hc)]
        clear hia
        go_wp2_with fail
        exact ⟨⟨_, _, rfl, rfl, by omega, by omega, by omega, by omega, hfr.trans hf1⟩, by simp [intOf]; omega⟩
      · rw [decide_eq_false (fun h => hc (hia.1 h))]
        clear hia
        go_wp2_with fail
        exact ⟨⟨_, _, rfl, rfl, by omega, by omega, by omega, by omega, hfr.trans hf1⟩, by simp [intOf]; omega⟩
    · obtain rfl : enough = T := by omega
      go_wp2_with fail
      go_ret2
      exact ⟨rfl, hfr⟩
end Go.Proofs.Ytgogagapapdlgaa
