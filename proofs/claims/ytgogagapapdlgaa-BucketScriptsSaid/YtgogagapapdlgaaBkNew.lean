/-
  bucket.New, round, awake, made.
-/
import Derived.Test.YtgogagapapdlgaaBk
import Derived.Deep.RegionHeld3
import Derived.Deep.DeepCutAuto
import Derived.Deep.DrawnRows
namespace Go.Proofs.Ytgogagapapdlgaa
open Go.RowKit
attribute [local go_sem ↓] Go.wp_at_zero Go.wp_at_succ
set_option linter.unusedVariables false

set_option maxHeartbeats 400000 in
theorem new_ok (w : World) (rate per burst : Int) (r1 : 1 ≤ rate) (r2 : rate ≤ 65536) (p1 : 1 ≤ per) (p2 : per ≤ 65536) (b1 : 1 ≤ burst) (b2 : burst ≤ 1048576) :
    Calls Try.prog 16 #[.int .i64 rate, .int .i64 per, .int .i64 burst] w fun e w' =>
      e = .returned (.tuple #[.pointer (some ⟨w.heap.size, 0, none⟩), .int .i64 0]) ∧ Bk w' w.heap.size rate per burst burst 0 ∧ Fr (fun _ => False) w w' ∧ w.heap.size < w'.heap.size := by
  go_enter Try.func16, Try.ntmps16
  go_wp2
  go_ret2
  exact ⟨rfl, Bl.new _ _ _, (Fr.refl _ _).alloc _, by simp⟩

set_option maxHeartbeats 400000 in
theorem round_any (w : World) (k n : Int) (n1 : 1 ≤ n) (n2 : n ≤ 4611686018427387904) :
    Calls Try.prog 13 #[.int .i64 k, .int .i64 n] w fun e w' => e = .returned (.int .i64 (k % n)) ∧ w = w' := by
  have h0 := Int.emod_nonneg k (show n ≠ 0 by omega)
  have h1 := Int.emod_lt_of_pos k (show 0 < n by omega)
  have tb : k.tmod n = k % n ∨ (k.tmod n = k % n - n) := by
    rw [Int.tmod_eq_emod]; split
    · exact .inl (by omega)
    · exact .inr (by omega)
  by_cases hk : 0 ≤ k.tmod n
  · have e1 : k.tmod n = k % n := by omega
    clear tb
    go_enter Try.func13, Try.ntmps13
    go_wp2
    go_ret
    exact ⟨rfl, rfl⟩
  · have e2 : -n ≤ k.tmod n := by omega
    have e1 : Hid (k % n = k.tmod n + n) := show k % n = k.tmod n + n by omega
    clear tb
    go_enter Try.func13, Try.ntmps13
    go_wp2
    go_ret
    exact ⟨by rw [e1.out]; rfl, rfl⟩

set_option maxHeartbeats 400000 in
theorem awake_any (w : World) : Calls Try.prog 8 #[] w fun e w' => e = .returned (.bool true) ∧ Fr (fun _ => False) w w' := by
  go_enter Try.func8, Try.ntmps8
  go_wp2_with fail
  refine (new_ok w 3 2 5 (by omega) (by omega) (by omega) (by omega) (by omega) (by omega)).mono ?_
  rintro e w1 ⟨rfl, hb, hf, hs⟩
  go_wp2_with fail
  refine (take_dry _ _ hb (by constructor <;> omega) (by omega) (by omega)).mono ?_
  rintro e w2 ⟨rfl, rfl⟩
  go_wp2_with fail
  refine (take_made _ _ hb (by constructor <;> omega) (by omega) (by omega)).mono ?_
  rintro e w2 ⟨rfl, hb2, hf2⟩
  go_wp2_with fail
  refine (refill_made _ _ hb2 (by constructor <;> omega) (by omega) (by omega)).mono ?_
  rintro e w3 ⟨rfl, hb3, hf3⟩
  rw [show bkL 3 2 5 (5 - 5) 0 1 = 1 from rfl, show bkR 3 2 5 (5 - 5) 0 1 = 1 from rfl] at hb3
  go_wp2_with fail
  refine (level_made _ hb3 (by omega)).mono ?_
  rintro e w4 ⟨rfl, rfl⟩
  go_wp2_with fail
  refine (rest_made _ hb3 (by omega)).mono ?_
  rintro e w4 ⟨rfl, rfl⟩
  go_wp2_with fail
  go_ret
  exact ⟨rfl, (hf.comp hf2 fun i hi e => by omega).comp hf3 fun i hi e => by omega⟩

set_option maxHeartbeats 400000 in
theorem made_any (w : World) (x0 x1 x2 : Int) (h0 : -9223372036854775808 ≤ x0) (h0' : x0 ≤ 9223372036854775807) (h1 : -9223372036854775808 ≤ x1) (h1' : x1 ≤ 9223372036854775807) (h2 : -9223372036854775808 ≤ x2) (h2' : x2 ≤ 9223372036854775807) :
    Calls Try.prog 7 #[.agg #[.int .i64 x0, .int .i64 x1, .int .i64 x2]] w fun e w' => ∃ p rate per burst, e = .returned (.tuple #[.pointer (some ⟨p, 0, none⟩), .agg #[.int .i64 rate, .int .i64 per, .int .i64 burst]]) ∧
      w.heap.size ≤ p ∧ BkOk rate per burst burst 0 ∧ Bk w' p rate per burst burst 0 ∧ Fr (fun _ => False) w w' := by
  have e0 := Int.emod_nonneg x0 (show (65536 : Int) ≠ 0 by omega)
  have e0' := Int.emod_lt_of_pos x0 (show (0 : Int) < 65536 by omega)
  have e1 := Int.emod_nonneg x1 (show (65536 : Int) ≠ 0 by omega)
  have e1' := Int.emod_lt_of_pos x1 (show (0 : Int) < 65536 by omega)
  have e2 := Int.emod_nonneg x2 (show (1048576 : Int) ≠ 0 by omega)
  have e2' := Int.emod_lt_of_pos x2 (show (0 : Int) < 1048576 by omega)
  have q0 : IntKind.i64.wrap (1 + x0 % 65536) = 1 + x0 % 65536 := IntWalk.i64_in _ (by omega)
  have q1 : IntKind.i64.wrap (1 + x1 % 65536) = 1 + x1 % 65536 := IntWalk.i64_in _ (by omega)
  have q2 : IntKind.i64.wrap (1 + x2 % 1048576) = 1 + x2 % 1048576 := IntWalk.i64_in _ (by omega)
  go_enter Try.func7, Try.ntmps7
  go_upto_region 1 with fail
  go_cut [4] (fun s4 wx => ∃ g : Nat, s4 = .pointer (some ⟨g, 0, none⟩) ∧ Bl wx g 23 #[.int .i64 (1 + x0 % 65536), .int .i64 (1 + x1 % 65536), .int .i64 (1 + x2 % 1048576)] ∧ 
     w.heap.size + 1 < g ∧ Bl wx (w.heap.size + 1) 23 #[.int .i64 0, .int .i64 0, .int .i64 0] ∧ Fr (fun _ => False) w wx)
  case first =>
    go_region_held3 (fun w' => w'.cell? ⟨w.heap.size, 0, none⟩ = some (.int .i64 x0) ∧ w'.cell? ⟨w.heap.size, 1, none⟩ = some (.int .i64 x1) ∧ w'.cell? ⟨w.heap.size, 2, none⟩ = some (.int .i64 x2)) (go_keep)
      ((go_at_call 13; refine (round_any _ _ _ (by omega) (by omega)).mono ?_; rintro e w' ⟨rfl, rfl⟩))
    all_goals (go_wp2_with fail; go_meet; refine ⟨_, rfl, ?_, by omega, ?_, ?_⟩)
    all_goals first | ((repeat (first | with_reducible assumption | with_reducible refine Bl.drew ?_ | with_reducible refine Bl.drewN ?_ _ | with_reducible refine Bl.far ?_ (by first | (simp; done) | (simp; omega)) _ | with_reducible exact Bl.newAt (by simp) | with_reducible refine Bl.alloc ?_ _)); done) | ((repeat (first | with_reducible exact Fr.refl _ _ | with_reducible assumption | with_reducible refine Fr.drew ?_ | with_reducible refine Fr.drewN ?_ _ | with_reducible refine Fr.alloc ?_ _ | with_reducible refine Fr.setIn ?_ (by first | exact Or.inl rfl | exact Or.inr (by simp; done) | exact Or.inr (by simp; omega) | exact Or.inr (by omega)) _)); done)
  case rest =>
    obtain ⟨g, rfl, hg, hgs, hy, hgf⟩ := hcut
    have g0 := hg.cell 0
    have g1 := hg.cell 1
    have g2 := hg.cell 2
    simp at g0 g1 g2
    have hgl := hg.lt
    have hyl := hy.lt
    go_wp2_with fail
    refine (new_ok _ _ _ _ (by omega) (by omega) (by omega) (by omega) (by omega) (by omega)).mono ?_
    rintro e w1 ⟨rfl, hb, hf, hs⟩
    have hg' := hg.fr hf id
    have hy' := hy.fr hf id
    clear g0 g1 g2
    have g0 := hg'.cell 0
    have g1 := hg'.cell 1
    have g2 := hg'.cell 2
    have y0 := hy'.cell 0
    have y1 := hy'.cell 1
    have y2 := hy'.cell 2
    have z0 := hy'.free 0
    have z1 := hy'.free 1
    have z2 := hy'.free 2
    simp at g0 g1 g2 y0 y1 y2
    go_wp2_with fail
    go_region
    all_goals go_wp2
    refine bodyPost_ret (v := .tuple #[.pointer (some ⟨wc.heap.size, 0, none⟩), .agg #[.int .i64 (1 + x0 % 65536), .int .i64 (1 + x1 % 65536), .int .i64 (1 + x2 % 1048576)]]) ?_ rfl ?_
    · simp [results, Try.results7, go_sem, y0, y1, y2]
    · refine ⟨_, _, _, _, rfl, ?_, by constructor <;> omega, ?_, ?_⟩
      · exact hgf.size
      · (repeat (first | with_reducible assumption | with_reducible refine Bl.drew ?_ | with_reducible refine Bl.drewN ?_ _ | with_reducible refine Bl.far ?_ (by first | (simp; done) | (simp; omega)) _ | with_reducible exact Bl.newAt (by simp) | with_reducible refine Bl.alloc ?_ _))
      · have hf1 : Fr (fun _ => False) w w1 := hgf.trans hf
        (repeat (first | with_reducible exact Fr.refl _ _ | with_reducible assumption | with_reducible refine Fr.drew ?_ | with_reducible refine Fr.drewN ?_ _ | with_reducible refine Fr.alloc ?_ _ | with_reducible refine Fr.setIn ?_ (by first | exact Or.inl rfl | exact Or.inr (by simp; done) | exact Or.inr (by simp; omega) | exact Or.inr (by omega)) _))
end Go.Proofs.Ytgogagapapdlgaa
