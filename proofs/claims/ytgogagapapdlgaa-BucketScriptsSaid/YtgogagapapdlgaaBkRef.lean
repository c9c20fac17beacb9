/-
  The reference's bucket: what each function does to a bucket that was made (block q, the same five numbers); nil ones and ones that nobody made.
-/
import Derived.Test.YtgogagapapdlgaaBkWait
import Derived.Test.YtgogagapapdlgaaBkFloat
namespace Go.Proofs.Ytgogagapapdlgaa
open Go.RowKit
set_option linter.unusedVariables false
attribute [local go_sem ↓] Go.wp_at_zero Go.wp_at_succ

abbrev Rk (w : World) (q : Nat) (rate per burst level rest : Int) : Prop := Bl w q 63 (bkCells rate per burst level rest)

set_option maxHeartbeats 400000 in
theorem rnew_ok (w : World) (rate per burst : Int) (r1 : 1 ≤ rate) (r2 : rate ≤ 65536) (p1 : 1 ≤ per) (p2 : per ≤ 65536) (b1 : 1 ≤ burst) (b2 : burst ≤ 1048576) :
    Calls Try.prog 17 #[.int .i64 rate, .int .i64 per, .int .i64 burst] w fun e w' =>
      e = .returned (.tuple #[.pointer (some ⟨w.heap.size, 0, none⟩), .int .i64 0]) ∧ Rk w' w.heap.size rate per burst burst 0 ∧ Fr (fun _ => False) w w' ∧ w.heap.size < w'.heap.size := by
  go_enter Try.func17, Try.ntmps17
  go_wp2
  go_ret2
  exact ⟨rfl, Bl.new _ _ _, (Fr.refl _ _).alloc _, by simp⟩
/-- What New refuses. -/
def NewBad (rate per burst : Int) : Prop := ¬(1 ≤ rate ∧ rate ≤ 65536 ∧ 1 ≤ per ∧ per ≤ 65536 ∧ 1 ≤ burst ∧ burst ≤ 1048576)
set_option maxHeartbeats 400000 in
theorem rnew_bad (w : World) (rate per burst : Int) (h : NewBad rate per burst) :
    Calls Try.prog 17 #[.int .i64 rate, .int .i64 per, .int .i64 burst] w fun e w' => e = .returned (.tuple #[.pointer none, .int .i64 2]) ∧ w = w' := by
  replace h : Hid (NewBad rate per burst) := h
  go_enter Try.func17, Try.ntmps17
  go_wp2
  all_goals first | (go_ret2; exact ⟨rfl, rfl⟩) | (exfalso; exact h.out (by constructor <;> omega))
set_option maxHeartbeats 400000 in
theorem new_bad (w : World) (rate per burst : Int) (h : NewBad rate per burst) :
    Calls Try.prog 16 #[.int .i64 rate, .int .i64 per, .int .i64 burst] w fun e w' => e = .returned (.tuple #[.pointer none, .int .i64 2]) ∧ w = w' := by
  replace h : Hid (NewBad rate per burst) := h
  go_enter Try.func16, Try.ntmps16
  go_wp2
  all_goals first | (go_ret2; exact ⟨rfl, rfl⟩) | (exfalso; exact h.out (by constructor <;> omega))

set_option maxHeartbeats 400000 in
theorem rcopy_made {p : Nat} {rate per burst level rest : Int} (w : World) (hb : Rk w p rate per burst level rest) :
    Calls Try.prog 27 #[.pointer (some ⟨p, 0, none⟩)] w fun e w' => e = .returned (.pointer (some ⟨w.heap.size, 0, none⟩)) ∧ Rk w' w.heap.size rate per burst level rest ∧ Fr (fun _ => False) w w' ∧ w.heap.size < w'.heap.size := by
  have c0 : w.cell? ⟨p, 0, none⟩ = some (.int .i64 rate) := hb.cell' rfl
  have c1 : w.cell? ⟨p, 1, none⟩ = some (.int .i64 per) := hb.cell' rfl
  have c2 : w.cell? ⟨p, 2, none⟩ = some (.int .i64 burst) := hb.cell' rfl
  have c3 : w.cell? ⟨p, 3, none⟩ = some (.int .i64 level) := hb.cell' rfl
  have c4 : w.cell? ⟨p, 4, none⟩ = some (.int .i64 rest) := hb.cell' rfl
  have hl := hb.lt
  go_enter Try.func27, Try.ntmps27
  go_wp2
  refine region_tail 21 (by kernel_rfl) (by kernel_rfl) ?_
  intro w1 Hw1 hcw1 hzw1 hsw1
  simp only [List.take_succ_cons, List.take_zero, List.drop_succ_cons, List.drop_zero]
  repeat still_step
  refine wpStill_nil ?_
  go_wp2
  go_ret
  have hf1 : Fr (fun _ => False) w w1 := by rw [Hw1.out]; exact (Fr.refl _ _).drew
  exact ⟨rfl, Bl.newAt hsw1.symm, hf1.alloc _, by simp [hsw1]⟩
set_option maxHeartbeats 400000 in
theorem rcopy_nil (w : World) : Calls Try.prog 27 #[.pointer none] w fun e w' => e = .returned (.pointer none) ∧ w = w' := by
  go_enter Try.func27, Try.ntmps27
  go_wp2
  go_ret
  exact ⟨rfl, rfl⟩

set_option maxHeartbeats 400000 in
theorem rtake_made {p : Nat} {rate per burst level rest : Int} (w : World) (n : Int) (hb : Rk w p rate per burst level rest) (hp : BkOk rate per burst level rest) (hn : 0 ≤ n) (hl : n ≤ level) :
    Calls Try.prog 25 #[.pointer (some ⟨p, 0, none⟩), .int .i64 n] w fun e w' => e = .returned (.int .i64 0) ∧ Rk w' p rate per burst (level - n) rest ∧ Fr (· = p) w w' := by
  have c3 : w.cell? ⟨p, 3, none⟩ = some (.int .i64 level) := hb.cell' rfl
  have z3 : w.frozen? ⟨p, 3, none⟩ = false := hb.free 3
  obtain ⟨r1, r2, p1, p2, b1, b2, l1, l2, s1, s2, -⟩ := hp
  go_enter Try.func25, Try.ntmps25
  go_wp2
  go_ret
  exact ⟨rfl, hb.set 3 _, (Fr.refl _ _).setAt _⟩
set_option maxHeartbeats 400000 in
theorem rtake_dry {p : Nat} {rate per burst level rest : Int} (w : World) (n : Int) (hb : Rk w p rate per burst level rest) (hn : 0 ≤ n) (hl : level < n) :
    Calls Try.prog 25 #[.pointer (some ⟨p, 0, none⟩), .int .i64 n] w fun e w' => e = .returned (.int .i64 131) ∧ w = w' := by
  have c3 : w.cell? ⟨p, 3, none⟩ = some (.int .i64 level) := hb.cell' rfl
  go_enter Try.func25, Try.ntmps25
  go_wp2
  go_ret
  exact ⟨rfl, rfl⟩
set_option maxHeartbeats 400000 in
theorem rtake_neg (w : World) (p : Nat) (n : Int) (hn : n < 0) :
    Calls Try.prog 25 #[.pointer (some ⟨p, 0, none⟩), .int .i64 n] w fun e w' => e = .returned (.int .i64 2) ∧ w = w' := by
  go_enter Try.func25, Try.ntmps25
  go_wp2
  go_ret
  exact ⟨rfl, rfl⟩
set_option maxHeartbeats 400000 in
theorem rtake_nil (w : World) (n : Int) :
    Calls Try.prog 25 #[.pointer none, .int .i64 n] w fun e w' => e = .returned (.int .i64 1) ∧ w = w' := by
  go_enter Try.func25, Try.ntmps25
  go_wp2
  go_ret
  exact ⟨rfl, rfl⟩

set_option maxHeartbeats 400000 in
theorem rrefill_time (w : World) (p : Nat) (t : Int) (ht : t < 0 ∨ 2147483648 < t) :
    Calls Try.prog 24 #[.pointer (some ⟨p, 0, none⟩), .int .i64 t] w fun e w' => e = .returned (.int .i64 130) ∧ w = w' := by
  rcases ht with ht | ht
  · go_enter Try.func24, Try.ntmps24
    go_wp2
    go_ret
    exact ⟨rfl, rfl⟩
  · have h0 : 0 ≤ t := by omega
    go_enter Try.func24, Try.ntmps24
    go_wp2
    go_ret
    exact ⟨rfl, rfl⟩
set_option maxHeartbeats 400000 in
theorem rrefill_nil (w : World) (n : Int) :
    Calls Try.prog 24 #[.pointer none, .int .i64 n] w fun e w' => e = .returned (.int .i64 1) ∧ w = w' := by
  go_enter Try.func24, Try.ntmps24
  go_wp2
  go_ret
  exact ⟨rfl, rfl⟩
set_option maxHeartbeats 1000000 in
theorem rrefill_made {p : Nat} {rate per burst level rest : Int} (w : World) (t : Int) (hb : Rk w p rate per burst level rest) (hp : BkOk rate per burst level rest) (t1 : 0 ≤ t) (t2 : t ≤ 2147483648) :
    Calls Try.prog 24 #[.pointer (some ⟨p, 0, none⟩), .int .i64 t] w fun e w' =>
      e = .returned (.int .i64 0) ∧ Rk w' p rate per burst (bkL rate per burst level rest t) (bkR rate per burst level rest t) ∧ Fr (· = p) w w' := by
  have c0 : w.cell? ⟨p, 0, none⟩ = some (.int .i64 rate) := hb.cell' rfl
  have c1 : w.cell? ⟨p, 1, none⟩ = some (.int .i64 per) := hb.cell' rfl
  have c2 : w.cell? ⟨p, 2, none⟩ = some (.int .i64 burst) := hb.cell' rfl
  have c3 : w.cell? ⟨p, 3, none⟩ = some (.int .i64 level) := hb.cell' rfl
  have c4 : w.cell? ⟨p, 4, none⟩ = some (.int .i64 rest) := hb.cell' rfl
  have z3 : w.frozen? ⟨p, 3, none⟩ = false := hb.free 3
  have z4 : w.frozen? ⟨p, 4, none⟩ = false := hb.free 4
  obtain ⟨r1, r2, p1, p2, b1, b2, l1, l2, s1, s2, -⟩ := hp
  obtain ⟨a, b, c, d, e, f⟩ := flow_bd r1 r2 p1 p2 s1 s2 t1 t2
  have q0 : ¬ per = 0 := by omega
  have q1 : (rest + rate * t).tdiv per = (rest + rate * t) / per := Int.tdiv_eq_ediv_of_nonneg (by omega)
  have q3 : IntKind.i64.wrap ((rest + rate * t) / per) = (rest + rate * t) / per := IntWalk.i64_in _ (by omega)
  have q4 : IntKind.i64.wrap (level + (rest + rate * t) / per) = level + (rest + rate * t) / per := IntWalk.i64_in _ (by omega)
  have q5 : IntKind.i64.wrap (rest + rate * t) = rest + rate * t := IntWalk.i64_in _ (by omega)
  have q6 : IntKind.i64.wrap (rate * t) = rate * t := IntWalk.i64_in _ (by omega)
  have hdm := Int.emod_add_mul_ediv (rest + rate * t) per
  have q8 : rest + rate * t - (rest + rate * t) / per * per = (rest + rate * t) % per := by rw [Int.mul_comm ((rest + rate * t) / per)]; omega
  have q9 : IntKind.i64.wrap ((rest + rate * t) / per * per) = (rest + rate * t) / per * per := IntWalk.i64_in _ (by omega)
  have q7 : IntKind.i64.wrap (rest + rate * t - (rest + rate * t) / per * per) = (rest + rate * t) % per := by rw [q8]; exact IntWalk.i64_in _ (by omega)
  clear hdm
  by_cases hf : burst ≤ level + (rest + rate * t) / per
  · have hL : bkL rate per burst level rest t = burst := if_pos hf
    have hR : bkR rate per burst level rest t = 0 := if_pos hf
    rw [hL, hR]
    clear hL hR
    go_enter Try.func24, Try.ntmps24
    go_wp2
    refine region_tail 14 (by kernel_rfl) (by kernel_rfl) ?_
    intro w1 Hw1 hcw1 hzw1 hsw1
    simp only [List.take_succ_cons, List.take_zero, List.drop_succ_cons, List.drop_zero]
    repeat still_step
    refine wpStill_nil ?_
    go_wp2
    go_quiet (fail)
    go_wp2
    refine region_tail 14 (by kernel_rfl) (by kernel_rfl) ?_
    intro w2 Hw2 hcw2 hzw2 hsw2
    simp only [List.take_succ_cons, List.take_zero, List.drop_succ_cons, List.drop_zero]
    repeat still_step
    refine wpStill_nil ?_
    go_wp2
    go_quiet (fail)
    go_wp2
    go_ret
    have hb1 : Rk w1 p rate per burst level rest := by rw [Hw1.out]; exact hb
    have hf1 : Fr (· = p) w w1 := by rw [Hw1.out]; exact (Fr.refl _ _).drew
    have hb2 : Rk w2 p rate per burst level (rest + rate * t) := by rw [Hw2.out]; exact ((hb1.set 4 _).drewN _).drew
    have hf2 : Fr (· = p) w w2 := by rw [Hw2.out]; exact ((hf1.setAt _).drewN _).drew
    exact ⟨rfl, (((((hb2.set 4 _).set 3 _).drewN _).set 3 _).set 4 _), (((((hf2.setAt _).setAt _).drewN _).setAt _).setAt _)⟩
  · have hL : bkL rate per burst level rest t = level + (rest + rate * t) / per := if_neg hf
    have hR : bkR rate per burst level rest t = (rest + rate * t) % per := if_neg hf
    rw [hL, hR]
    clear hL hR
    go_enter Try.func24, Try.ntmps24
    go_wp2
    refine region_tail 14 (by kernel_rfl) (by kernel_rfl) ?_
    intro w1 Hw1 hcw1 hzw1 hsw1
    simp only [List.take_succ_cons, List.take_zero, List.drop_succ_cons, List.drop_zero]
    repeat still_step
    refine wpStill_nil ?_
    go_wp2
    go_quiet (fail)
    go_wp2
    refine region_tail 14 (by kernel_rfl) (by kernel_rfl) ?_
    intro w2 Hw2 hcw2 hzw2 hsw2
    simp only [List.take_succ_cons, List.take_zero, List.drop_succ_cons, List.drop_zero]
    repeat still_step
    refine wpStill_nil ?_
    go_wp2
    go_quiet (fail)
    go_wp2
    go_ret
    have hb1 : Rk w1 p rate per burst level rest := by rw [Hw1.out]; exact hb
    have hf1 : Fr (· = p) w w1 := by rw [Hw1.out]; exact (Fr.refl _ _).drew
    have hb2 : Rk w2 p rate per burst level (rest + rate * t) := by rw [Hw2.out]; exact ((hb1.set 4 _).drewN _).drew
    have hf2 : Fr (· = p) w w2 := by rw [Hw2.out]; exact ((hf1.setAt _).drewN _).drew
    exact ⟨rfl, (((hb2.set 4 _).set 3 _).drewN _), (((hf2.setAt _).setAt _).drewN _)⟩

set_option maxHeartbeats 400000 in
theorem rfull_made {p : Nat} {rate per burst level rest : Int} (w : World) (hb : Rk w p rate per burst level rest) (ok : BkOk rate per burst level rest) :
    Calls Try.prog 30 #[.pointer (some ⟨p, 0, none⟩)] w fun e w' => e = .returned (.float .f32 (fullBits level burst)) ∧ Fr (fun _ => False) w w' := by
  have c2 : w.cell? ⟨p, 2, none⟩ = some (.int .i64 burst) := hb.cell' rfl
  have c3 : w.cell? ⟨p, 3, none⟩ = some (.int .i64 level) := hb.cell' rfl
  have hq : ∀ W : World, (binOp .quo 68 (.float .f32 (floatOfInt .f32 level)) (.float .f32 (floatOfInt .f32 burst))).run Try.prog W = .ok (.float .f32 (fullBits level burst)) W :=
    fun W => run_float_arith W _ _ _ _ _ _ (full_bits ok.l1 (by have := ok.l2; have := ok.b2; omega) ok.b1 ok.b2)
  go_enter Try.func30, Try.ntmps30
  go_wp2
  go_quiet (fail)
  go_wp2
  go_ret
  exact ⟨rfl, (Fr.refl _ _).drewN _⟩
set_option maxHeartbeats 400000 in
theorem full_made {p : Nat} {rate per burst level rest : Int} (w : World) (hb : Bk w p rate per burst level rest) (ok : BkOk rate per burst level rest) :
    Calls Try.prog 31 #[.pointer (some ⟨p, 0, none⟩)] w fun e w' => e = .returned (.float .f32 (fullBits level burst)) ∧ Fr (fun _ => False) w w' := by
  have c2 : w.cell? ⟨p, 2, none⟩ = some (.int .i64 burst) := hb.cell' rfl
  have c3 : w.cell? ⟨p, 3, none⟩ = some (.int .i64 level) := hb.cell' rfl
  have hq : ∀ W : World, (binOp .quo 68 (.float .f32 (floatOfInt .f32 level)) (.float .f32 (floatOfInt .f32 burst))).run Try.prog W = .ok (.float .f32 (fullBits level burst)) W :=
    fun W => run_float_arith W _ _ _ _ _ _ (full_bits ok.l1 (by have := ok.l2; have := ok.b2; omega) ok.b1 ok.b2)
  go_enter Try.func31, Try.ntmps31
  go_wp2_with (go_at_call 22; refine (none_made _ hb ok.p1).mono ?_; rintro e w' ⟨rfl, rfl⟩)
  go_quiet (fail)
  go_wp2
  go_ret
  exact ⟨rfl, (Fr.refl _ _).drewN _⟩
set_option maxHeartbeats 400000 in
theorem rfull_nil (w : World) : Calls Try.prog 30 #[.pointer none] w fun e w' => e = .returned (.float .f32 0) ∧ w = w' := by
  go_enter Try.func30, Try.ntmps30
  go_wp2
  go_ret
  exact ⟨rfl, rfl⟩

/-- A bucket that nobody made, or none. -/
def Un (w : World) (p : Option Nat) : Prop := ∀ q, p = some q → ∃ rate burst level rest, Bk w q rate 0 burst level rest
def ptr1 (p : Option Nat) : Value := .pointer (p.map fun q => ⟨q, 0, none⟩)
set_option maxHeartbeats 400000 in
theorem none_un (w : World) (p : Option Nat) (h : Un w p) : Calls Try.prog 22 #[ptr1 p] w fun e w' => e = .returned (.bool true) ∧ w = w' := by
  cases p with
  | none => exact none_nil w
  | some q =>
    obtain ⟨rate, burst, level, rest, hb⟩ := h q rfl
    have c1 : w.cell? ⟨q, 1, none⟩ = some (.int .i64 0) := hb.cell' rfl
    show Calls _ _ #[.pointer (some ⟨q, 0, none⟩)] _ _
    go_enter Try.func22, Try.ntmps22
    go_wp2
    go_ret
    exact ⟨rfl, rfl⟩
set_option maxHeartbeats 400000 in
theorem full_un (w : World) (p : Option Nat) (h : Un w p) : Calls Try.prog 31 #[ptr1 p] w fun e w' => e = .returned (.float .f32 0) ∧ w = w' := by
  go_enter Try.func31, Try.ntmps31
  go_wp2_with (go_at_call 22; refine (none_un _ p h).mono ?_; rintro e w' ⟨rfl, rfl⟩)
  go_ret
  exact ⟨rfl, rfl⟩
set_option maxHeartbeats 400000 in
theorem level_un (w : World) (p : Option Nat) (h : Un w p) : Calls Try.prog 11 #[ptr1 p] w fun e w' => e = .returned (.int .i64 0) ∧ w = w' := by
  go_enter Try.func11, Try.ntmps11
  go_wp2_with (go_at_call 22; refine (none_un _ p h).mono ?_; rintro e w' ⟨rfl, rfl⟩)
  go_ret
  exact ⟨rfl, rfl⟩
set_option maxHeartbeats 400000 in
theorem rest_un (w : World) (p : Option Nat) (h : Un w p) : Calls Try.prog 12 #[ptr1 p] w fun e w' => e = .returned (.int .i64 0) ∧ w = w' := by
  go_enter Try.func12, Try.ntmps12
  go_wp2_with (go_at_call 22; refine (none_un _ p h).mono ?_; rintro e w' ⟨rfl, rfl⟩)
  go_ret
  exact ⟨rfl, rfl⟩
set_option maxHeartbeats 400000 in
theorem copy_un (w : World) (p : Option Nat) (h : Un w p) : Calls Try.prog 23 #[ptr1 p] w fun e w' => e = .returned (.pointer none) ∧ w = w' := by
  go_enter Try.func23, Try.ntmps23
  go_wp2_with (go_at_call 22; refine (none_un _ p h).mono ?_; rintro e w' ⟨rfl, rfl⟩)
  go_ret
  exact ⟨rfl, rfl⟩
set_option maxHeartbeats 400000 in
theorem take_un (w : World) (p : Option Nat) (n : Int) (h : Un w p) : Calls Try.prog 10 #[ptr1 p, .int .i64 n] w fun e w' => e = .returned (.int .i64 1) ∧ w = w' := by
  go_enter Try.func10, Try.ntmps10
  go_wp2_with (go_at_call 22; refine (none_un _ p h).mono ?_; rintro e w' ⟨rfl, rfl⟩)
  go_ret
  exact ⟨rfl, rfl⟩
set_option maxHeartbeats 400000 in
theorem refill_un (w : World) (p : Option Nat) (n : Int) (h : Un w p) : Calls Try.prog 9 #[ptr1 p, .int .i64 n] w fun e w' => e = .returned (.int .i64 1) ∧ w = w' := by
  go_enter Try.func9, Try.ntmps9
  go_wp2_with (go_at_call 22; refine (none_un _ p h).mono ?_; rintro e w' ⟨rfl, rfl⟩)
  go_ret
  exact ⟨rfl, rfl⟩
set_option maxHeartbeats 400000 in
theorem when_un (w : World) (p : Option Nat) (n : Int) (h : Un w p) : Calls Try.prog 14 #[ptr1 p, .int .i64 n] w fun e w' => e = .returned (.tuple #[.int .i64 0, .bool false]) ∧ w = w' := by
  go_enter Try.func14, Try.ntmps14
  go_wp2_with (go_at_call 22; refine (none_un _ p h).mono ?_; rintro e w' ⟨rfl, rfl⟩)
  go_ret2
  exact ⟨rfl, rfl⟩
end Go.Proofs.Ytgogagapapdlgaa
