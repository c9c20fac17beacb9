/-
  Nil readers of both; reads of a nil pair.
-/
import Derived.Test.YtbglloafbmamoaaTlvQ1
namespace Go.Proofs.Ytbglloafbmamoaa
open Go.RowKit
set_option linter.unusedVariables false
attribute [local go_sem ↓] Go.wp_at_zero Go.wp_at_succ
set_option maxHeartbeats 1000000 in
set_option maxRecDepth 4000 in
theorem tfield_nil (w : World) (t : Int) : Calls Try.prog 90 #[.pointer none, .int .i64 t] w fun e w' => e = .returned (.pointer none) ∧ w = w' := by
  go_enter Try.func90, Try.ntmps90
  go_wp2_with fail
  refine (none_nil w).mono ?_
  rintro e w' ⟨rfl, rfl⟩
  go_wp2_with fail
  go_ret
  exact ⟨rfl, rfl⟩
set_option maxHeartbeats 1000000 in
set_option maxRecDepth 4000 in
theorem tnum_nil (w : World) (t : Int) (above : Nat) : Calls Try.prog 49 #[.pointer none, .int .i64 t, .int .u64 (above : Int)] w fun e w' => e = .returned (.int .u64 0) ∧ w = w' := by
  go_enter Try.func49, Try.ntmps49
  go_wp2_with fail
  refine (tfield_nil w t).mono ?_
  rintro e w' ⟨rfl, rfl⟩
  go_wp2_with fail
  go_ret
  exact ⟨rfl, rfl⟩
set_option maxHeartbeats 1000000 in
set_option maxRecDepth 4000 in
theorem traw0_nil (w : World) (t most : Int) : Calls Try.prog 92 #[.pointer none, .int .i64 t, .int .i64 most] w fun e w' => e = .returned (.slice none 0 0) ∧ w = w' := by
  go_enter Try.func92, Try.ntmps92
  go_wp2_with fail
  refine (tfield_nil w t).mono ?_
  rintro e w' ⟨rfl, rfl⟩
  go_wp2_with fail
  go_ret
  exact ⟨rfl, rfl⟩
set_option maxHeartbeats 1000000 in
set_option maxRecDepth 4000 in
theorem traw_nil (w : World) (t most : Int) : Calls Try.prog 53 #[.pointer none, .int .i64 t, .int .i64 most] w fun e w' => BP 0 [] w e w' := by
  go_enter Try.func53, Try.ntmps53
  go_wp2_with fail
  refine (traw0_nil w t most).mono ?_
  rintro e w' ⟨rfl, rfl⟩
  go_wp2_with fail
  refine (own_any w [] none 0 0 (by omega) (Sl.nil_ _ _ _)).mono ?_
  rintro e w2 ⟨A, c, g, rfl, h1, h2, h3⟩
  go_wp2_with fail
  go_ret
  exact ⟨A, c, g, rfl, h1, h2, h3⟩
set_option maxHeartbeats 1000000 in
set_option maxRecDepth 4000 in
theorem ttext_nil (w : World) (t most : Int) : Calls Try.prog 50 #[.pointer none, .int .i64 t, .int .i64 most] w fun e w' => e = .returned (.string (strOf [])) ∧ w = w' := by
  go_enter Try.func50, Try.ntmps50
  have hcv := conv_bs w none 0 0 [] (fun x h => by cases h) (Sl.nil_ _ _ _)
  go_wp2_with fail
  refine (traw0_nil w t most).mono ?_
  rintro e w' ⟨rfl, rfl⟩
  go_wp2_with fail
  go_ret
  exact ⟨rfl, rfl⟩
set_option maxHeartbeats 1000000 in
set_option maxRecDepth 4000 in
theorem tit_nil (w : World) (t most : Int) : Calls Try.prog 94 #[.pointer none, .int .i64 t, .int .i64 most] w fun e w' => e = .returned (.tuple #[.slice none 0 0, .int .i64 0]) ∧ w = w' := by
  go_enter Try.func94, Try.ntmps94
  go_wp2_with fail
  refine (tfield_nil w t).mono ?_
  rintro e w' ⟨rfl, rfl⟩
  go_wp2_with fail
  go_ret2
  exact ⟨rfl, rfl⟩
set_option maxHeartbeats 1000000 in
set_option maxRecDepth 4000 in
theorem tlist_nil (w : World) (t most : Int) : Calls Try.prog 54 #[.pointer none, .int .i64 t, .int .i64 most] w fun e w' => e = .returned (.slice none 0 0) ∧ w = w' := by
  go_enter Try.func54, Try.ntmps54
  go_wp2_with fail
  refine (tit_nil w t most).mono ?_
  rintro e w' ⟨rfl, rfl⟩
  go_wp2_with fail
  go_loopw [9, 21] (fun u i wr => u = .slice none 0 0 ∧ i = .int .i64 0 ∧ Hid (wr = w)) (fun _ _ _ => 0)
  case atStart => exact ⟨rfl, rfl, rfl⟩
  case round =>
    obtain ⟨rfl, rfl, hw⟩ := hrel
    obtain rfl := hw.out
    go_wp2_with fail
    refine (clipB_any wr none 0 0 (by omega) (by omega)).mono ?_
    rintro e w' ⟨rfl, rfl⟩
    go_wp2_with fail
    go_ret
    exact ⟨rfl, rfl⟩
set_option maxHeartbeats 1000000 in
set_option maxRecDepth 4000 in
theorem trecords_nil (w : World) (t most : Int) : Calls Try.prog 55 #[.pointer none, .int .i64 t, .int .i64 most] w fun e w' => e = .returned (.slice none 0 0) ∧ w = w' := by
  go_enter Try.func55, Try.ntmps55
  go_wp2_with fail
  refine (tit_nil w t most).mono ?_
  rintro e w' ⟨rfl, rfl⟩
  go_wp2_with fail
  go_loopw [9, 21] (fun u i wr => u = .slice none 0 0 ∧ i = .int .i64 0 ∧ Hid (wr = w)) (fun _ _ _ => 0)
  case atStart => exact ⟨rfl, rfl, rfl⟩
  case round =>
    obtain ⟨rfl, rfl, hw⟩ := hrel
    obtain rfl := hw.out
    go_wp2_with fail
    refine (clipR_any wr none 0 0 (by omega) (by omega)).mono ?_
    rintro e w' ⟨rfl, rfl⟩
    go_wp2_with fail
    go_ret
    exact ⟨rfl, rfl⟩
set_option maxHeartbeats 1000000 in
set_option maxRecDepth 4000 in
theorem trecord_nil (w : World) (t : Int) : Calls Try.prog 51 #[.pointer none, .int .i64 t] w fun e w' => e = .returned (.pointer none) ∧ w = w' := by
  go_enter Try.func51, Try.ntmps51
  go_wp2_with fail
  refine (none_nil w).mono ?_
  rintro e w' ⟨rfl, rfl⟩
  go_wp2_with fail
  go_ret
  exact ⟨rfl, rfl⟩
set_option maxHeartbeats 1000000 in
set_option maxRecDepth 4000 in
theorem tend_nil (w : World) : Calls Try.prog 52 #[.pointer none] w fun e w' => e = .returned (.tuple #[.int .i64 0, .int .i64 1]) ∧ w = w' := by
  go_enter Try.func52, Try.ntmps52
  go_wp2_with fail
  refine (none_nil w).mono ?_
  rintro e w' ⟨rfl, rfl⟩
  go_wp2_with fail
  refine (tfault_nil w).mono ?_
  rintro e w' ⟨rfl, rfl⟩
  go_wp2_with fail
  go_ret2
  exact ⟨rfl, rfl⟩
set_option maxHeartbeats 1000000 in
set_option maxRecDepth 4000 in
theorem rnum_nil (w : World) (t : Int) (above : Nat) : Calls Try.prog 81 #[.pointer none, .int .i64 t, .int .u64 (above : Int)] w fun e w' => e = .returned (.int .u64 0) ∧ w = w' := by
  go_enter Try.func81, Try.ntmps81
  go_wp2_with fail
  refine (rfield_nil w t).mono ?_
  rintro e w' ⟨rfl, rfl⟩
  go_wp2_with fail
  go_ret
  exact ⟨rfl, rfl⟩
set_option maxHeartbeats 1000000 in
set_option maxRecDepth 4000 in
theorem rraw_nil (w : World) (t most : Int) : Calls Try.prog 82 #[.pointer none, .int .i64 t, .int .i64 most] w fun e w' => e = .returned (.slice none 0 0) ∧ w = w' := by
  go_enter Try.func82, Try.ntmps82
  go_wp2_with fail
  refine (rfield_nil w t).mono ?_
  rintro e w' ⟨rfl, rfl⟩
  go_wp2_with fail
  go_ret
  exact ⟨rfl, rfl⟩
set_option maxHeartbeats 1000000 in
set_option maxRecDepth 4000 in
theorem rtext_nil (w : World) (t most : Int) : Calls Try.prog 83 #[.pointer none, .int .i64 t, .int .i64 most] w fun e w' => e = .returned (.string (strOf [])) ∧ w = w' := by
  go_enter Try.func83, Try.ntmps83
  have hcv := conv_bs w none 0 0 [] (fun x h => by cases h) (Sl.nil_ _ _ _)
  go_wp2_with fail
  refine (rraw_nil w t most).mono ?_
  rintro e w' ⟨rfl, rfl⟩
  go_wp2_with fail
  go_ret
  exact ⟨rfl, rfl⟩
set_option maxHeartbeats 1000000 in
set_option maxRecDepth 4000 in
theorem rit_nil (w : World) (t most : Int) : Calls Try.prog 103 #[.pointer none, .int .i64 t, .int .i64 most] w fun e w' => e = .returned (.tuple #[.slice none 0 0, .slice none 0 0]) ∧ w = w' := by
  go_enter Try.func103, Try.ntmps103
  go_wp2_with fail
  refine (rfield_nil w t).mono ?_
  rintro e w' ⟨rfl, rfl⟩
  go_wp2_with fail
  go_ret2
  exact ⟨rfl, rfl⟩
set_option maxHeartbeats 1000000 in
set_option maxRecDepth 4000 in
theorem rlist_nil (w : World) (t most : Int) : Calls Try.prog 84 #[.pointer none, .int .i64 t, .int .i64 most] w fun e w' => e = .returned (.slice none 0 0) ∧ w = w' := by
  go_enter Try.func84, Try.ntmps84
  go_wp2_with fail
  refine (rit_nil w t most).mono ?_
  rintro e w' ⟨rfl, rfl⟩
  go_wp2_with fail
  go_ret
  exact ⟨rfl, rfl⟩
set_option maxHeartbeats 1000000 in
set_option maxRecDepth 4000 in
theorem rrecord_nil (w : World) (t : Int) : Calls Try.prog 85 #[.pointer none, .int .i64 t] w fun e w' => e = .returned (.pointer none) ∧ w = w' := by
  go_enter Try.func85, Try.ntmps85
  go_wp2_with fail
  go_ret
  exact ⟨rfl, rfl⟩
set_option maxHeartbeats 1000000 in
set_option maxRecDepth 4000 in
theorem rrecords_nil (w : World) (t most : Int) : Calls Try.prog 86 #[.pointer none, .int .i64 t, .int .i64 most] w fun e w' => e = .returned (.slice none 0 0) ∧ w = w' := by
  go_enter Try.func86, Try.ntmps86
  go_wp2_with fail
  refine (rit_nil w t most).mono ?_
  rintro e w' ⟨rfl, rfl⟩
  go_wp2_with fail
  go_loopw [9, 10] (fun u i wr => u = .slice none 0 0 ∧ i = .int .i64 0 ∧ Hid (wr = w)) (fun _ _ _ => 0)
  case atStart => exact ⟨rfl, rfl, rfl⟩
  case round =>
    obtain ⟨rfl, rfl, hw⟩ := hrel
    obtain rfl := hw.out
    go_wp2_with fail
    go_ret
    exact ⟨rfl, rfl⟩
set_option maxHeartbeats 1000000 in
set_option maxRecDepth 4000 in
theorem rend_nil (w : World) : Calls Try.prog 87 #[.pointer none] w fun e w' => e = .returned (.tuple #[.int .i64 0, .int .i64 1]) ∧ w = w' := by
  go_enter Try.func87, Try.ntmps87
  go_wp2_with fail
  go_ret2
  exact ⟨rfl, rfl⟩

set_option maxHeartbeats 8000000 in
set_option maxRecDepth 100000 in
theorem reads_nil (w : World) (who kind tag most : Int) (above : Nat) :
    Calls Try.prog 43 #[.pointer none, .pointer none, .agg (rbox who kind tag most above)] w fun e w' => e = .returned (.tuple #[.slice none 0 0, .slice none 0 0, .bool true]) ∧ Fr (fun _ => False) w w' := by
  obtain ⟨j0, hj, hj0, hj1, hj2⟩ := info_parts infoR
  obtain ⟨W, hW⟩ : ∃ W, w.alloc (.cells (rbox who kind tag most above) 91) = W := ⟨_, rfl⟩
  have hnew := Bl.new w 91 (rbox who kind tag most above)
  rw [hW] at hnew
  have Hw : Hid (Fr (fun _ => False) w W) := by show Fr _ _ _; rw [← hW]; exact (Fr.refl _ _).alloc _
  obtain ⟨bx, hbx⟩ : ∃ bx, w.heap.size = bx := ⟨_, rfl⟩
  rw [hbx] at hnew
  have c1 : W.cell? ⟨bx, 1, none⟩ = some (.int .i64 kind) := hnew.cell' rfl
  have c2 : W.cell? ⟨bx, 2, none⟩ = some (.int .i64 tag) := hnew.cell' rfl
  have c3 : W.cell? ⟨bx, 3, none⟩ = some (.int .i64 most) := hnew.cell' rfl
  have c4 : W.cell? ⟨bx, 4, none⟩ = some (.int .u64 (above : Int)) := hnew.cell' rfl
  unfold rbox at hW ⊢
  go_enter Try.func43, Try.ntmps43
  by_cases k1 : kind = 1
  · subst k1
    go_wp2_with fail
    refine (rnum_nil W tag above).mono ?_
    rintro e w' ⟨rfl, rfl⟩
    go_wp2_with fail
    refine (tnum_nil W tag above).mono ?_
    rintro e w' ⟨rfl, rfl⟩
    go_wp2_with fail
    go_ret3
    exact ⟨rfl, Hw.out⟩
  by_cases k2 : kind = 2
  · subst k2
    go_wp2_with fail
    refine (rraw_nil W tag most).mono ?_
    rintro e w' ⟨rfl, rfl⟩
    go_wp2_with fail
    refine (traw_nil W tag most).mono ?_
    rintro e w2 ⟨A2, e2, g2, rfl, hO2, hg2, hf2⟩
    go_wp2_with fail
    refine (same_q _ [] A2 none e2 0 0 rfl (by omega) hO2.sl (Sl.nil_ _ _ _)).mono ?_
    rintro e w3 ⟨rfl, hd3⟩
    have hf3 := fr_of_drewN hd3
    clear hd3
    go_wp2_with fail
    refine (over_any _ [] A2 0 e2 g2 (hO2.fr hf3 (fun _ _ => id)) (by omega)).mono ?_
    rintro e w4 ⟨rfl, hf4⟩
    go_wp2_with fail
    go_ret3
    exact ⟨rfl, ((Hw.out.trans hf2).trans hf3).comp hf4 fun x hx e => by have := hg2 x e.symm; have := Hw.out.size; omega⟩
  by_cases k3 : kind = 3
  · subst k3
    go_wp2_with fail
    refine (rtext_nil W tag most).mono ?_
    rintro e w' ⟨rfl, rfl⟩
    go_wp2_with fail
    refine (ttext_nil W tag most).mono ?_
    rintro e w' ⟨rfl, rfl⟩
    go_wp2_with fail
    go_ret3
    exact ⟨rfl, Hw.out⟩
  by_cases k4 : kind = 4
  · subst k4
    go_wp2_with fail
    refine (rlist_nil W tag most).mono ?_
    rintro e w' ⟨rfl, rfl⟩
    go_wp2_with fail
    refine (tlist_nil W tag most).mono ?_
    rintro e w' ⟨rfl, rfl⟩
    go_wp2_with fail
    refine (alike_q _ [] none none 0 0 0 0 0 (fun x h => by cases h) (by omega) ⟨rfl, fun h => absurd h (by omega)⟩ ⟨rfl, fun h => absurd h (by omega)⟩).mono ?_
    rintro e w3 ⟨rfl, hd3⟩
    have hf3 := fr_of_drewN hd3
    clear hd3
    go_wp2_with fail
    refine (overAll_any _ [] none 0 0 0 0 none (by omega) (Ow.nil_ _ _ _) (BSs.nil_ _ _ _) (fun r h => by cases h)).mono ?_
    rintro e w4 ⟨rfl, hf4⟩
    go_wp2_with fail
    go_ret3
    exact ⟨rfl, (Hw.out.trans hf3).comp hf4 fun x hx e => by
      rcases e with e | ⟨y, hy, _⟩
      · cases e
      · cases hy⟩
  by_cases k5 : kind = 5
  · subst k5
    go_wp2_with fail
    refine (rrecord_nil W tag).mono ?_
    rintro e w' ⟨rfl, rfl⟩
    go_wp2_with fail
    refine (trecord_nil W tag).mono ?_
    rintro e w' ⟨rfl, rfl⟩
    go_wp2_with fail
    go_ret3
    exact ⟨rfl, Hw.out⟩
  by_cases k8 : kind = 8
  · subst k8
    go_wp2_with fail
    refine (rrecords_nil W tag most).mono ?_
    rintro e w' ⟨rfl, rfl⟩
    go_wp2_with fail
    refine (trecords_nil W tag most).mono ?_
    rintro e w' ⟨rfl, rfl⟩
    go_wp2_with fail
    go_loopw [22] (fun i wr => i = .int .i64 0 ∧ Hid (wr = W)) (fun _ _ => 0)
    case atStart => exact ⟨rfl, rfl⟩
    case round =>
      obtain ⟨rfl, hw⟩ := hrel
      obtain rfl := hw.out
      go_wp2_with fail
      go_ret3
      exact ⟨rfl, Hw.out⟩
  by_cases k7 : kind = 7
  · subst k7
    go_wp2_with fail
    refine (rend_nil W).mono ?_
    rintro e w' ⟨rfl, rfl⟩
    go_wp2_with fail
    refine (tend_nil W).mono ?_
    rintro e w' ⟨rfl, rfl⟩
    go_wp2_with fail
    refine (num_any _ _).mono ?_
    rintro e w' ⟨rfl, rfl⟩
    go_wp2_with fail
    go_ret3
    exact ⟨rfl, Hw.out⟩
  go_wp2_with fail
  refine (rfault_nil W).mono ?_
  rintro e w' ⟨rfl, rfl⟩
  go_wp2_with fail
  refine (tfault_nil W).mono ?_
  rintro e w' ⟨rfl, rfl⟩
  go_wp2_with fail
  refine (num_any _ _).mono ?_
  rintro e w' ⟨rfl, rfl⟩
  go_wp2_with fail
  go_ret3
  exact ⟨rfl, Hw.out⟩
end Go.Proofs.Ytbglloafbmamoaa
