/-
  bucket.Bucket: what each method does to a bucket that was made (block p, five numbers).
-/
import Derived.Test.YtgogagapapdlgaaMem
import Derived.Test.YtgogagapapdlgaaRows
import Derived.WalkLawsBesides
import Derived.WalkSpells
import Derived.Deep.QuietTactic
import Derived.BigQuiet
namespace Go.Proofs.Ytgogagapapdlgaa
open Go.RowKit
set_option linter.unusedVariables false

def bkCells (rate per burst level rest : Int) : Array Value := #[.int .i64 rate, .int .i64 per, .int .i64 burst, .int .i64 level, .int .i64 rest]
/-- A bucket that was made lies at block p. -/
abbrev Bk (w : World) (p : Nat) (rate per burst level rest : Int) : Prop := Bl w p 60 (bkCells rate per burst level rest)
structure BkOk (rate per burst level rest : Int) : Prop where
  r1 : 1 ≤ rate
  r2 : rate ≤ 65536
  p1 : 1 ≤ per
  p2 : per ≤ 65536
  b1 : 1 ≤ burst
  b2 : burst ≤ 1048576
  l1 : 0 ≤ level
  l2 : level ≤ burst
  s1 : 0 ≤ rest
  s2 : rest < per
  f : level = burst → rest = 0

set_option maxHeartbeats 400000 in
theorem none_nil (w : World) : Calls Try.prog 22 #[.pointer none] w fun e w' => e = .returned (.bool true) ∧ w = w' := by
  go_enter Try.func22, Try.ntmps22
  go_wp2
  go_ret
  exact ⟨rfl, rfl⟩
set_option maxHeartbeats 400000 in
theorem none_made {p : Nat} {rate per burst level rest : Int} (w : World) (hb : Bk w p rate per burst level rest) (hp : 1 ≤ per) :
    Calls Try.prog 22 #[.pointer (some ⟨p, 0, none⟩)] w fun e w' => e = .returned (.bool false) ∧ w = w' := by
  have c1 : w.cell? ⟨p, 1, none⟩ = some (.int .i64 per) := hb.cell' rfl
  have h0 : (per == 0) = false := beq_eq_false_iff_ne.2 (by omega)
  go_enter Try.func22, Try.ntmps22
  go_wp2
  go_ret
  exact ⟨rfl, rfl⟩
set_option maxHeartbeats 400000 in
theorem level_made {p : Nat} {rate per burst level rest : Int} (w : World) (hb : Bk w p rate per burst level rest) (hp : 1 ≤ per) :
    Calls Try.prog 11 #[.pointer (some ⟨p, 0, none⟩)] w fun e w' => e = .returned (.int .i64 level) ∧ w = w' := by
  have c3 : w.cell? ⟨p, 3, none⟩ = some (.int .i64 level) := hb.cell' rfl
  go_enter Try.func11, Try.ntmps11
  go_wp2_with (go_at_call 22; refine (none_made _ hb hp).mono ?_; rintro e w' ⟨rfl, rfl⟩)
  go_ret
  exact ⟨rfl, rfl⟩
set_option maxHeartbeats 400000 in
theorem rest_made {p : Nat} {rate per burst level rest : Int} (w : World) (hb : Bk w p rate per burst level rest) (hp : 1 ≤ per) :
    Calls Try.prog 12 #[.pointer (some ⟨p, 0, none⟩)] w fun e w' => e = .returned (.int .i64 rest) ∧ w = w' := by
  have c4 : w.cell? ⟨p, 4, none⟩ = some (.int .i64 rest) := hb.cell' rfl
  go_enter Try.func12, Try.ntmps12
  go_wp2_with (go_at_call 22; refine (none_made _ hb hp).mono ?_; rintro e w' ⟨rfl, rfl⟩)
  go_ret
  exact ⟨rfl, rfl⟩
set_option maxHeartbeats 400000 in
theorem take_made {p : Nat} {rate per burst level rest : Int} (w : World) (n : Int) (hb : Bk w p rate per burst level rest) (hp : BkOk rate per burst level rest) (hn : 0 ≤ n) (hl : n ≤ level) :
    Calls Try.prog 10 #[.pointer (some ⟨p, 0, none⟩), .int .i64 n] w fun e w' => e = .returned (.int .i64 0) ∧ Bk w' p rate per burst (level - n) rest ∧ Fr (· = p) w w' := by
  have c3 : w.cell? ⟨p, 3, none⟩ = some (.int .i64 level) := hb.cell' rfl
  have z3 : w.frozen? ⟨p, 3, none⟩ = false := hb.free 3
  obtain ⟨r1, r2, p1, p2, b1, b2, l1, l2, s1, s2, -⟩ := hp
  go_enter Try.func10, Try.ntmps10
  go_wp2_with (go_at_call 22; refine (none_made _ hb p1).mono ?_; rintro e w' ⟨rfl, rfl⟩)
  go_ret
  exact ⟨rfl, hb.set 3 _, (Fr.refl _ _).setAt _⟩
set_option maxHeartbeats 400000 in
theorem take_dry {p : Nat} {rate per burst level rest : Int} (w : World) (n : Int) (hb : Bk w p rate per burst level rest) (hp : BkOk rate per burst level rest) (hn : 0 ≤ n) (hl : level < n) :
    Calls Try.prog 10 #[.pointer (some ⟨p, 0, none⟩), .int .i64 n] w fun e w' => e = .returned (.int .i64 131) ∧ w = w' := by
  have c3 : w.cell? ⟨p, 3, none⟩ = some (.int .i64 level) := hb.cell' rfl
  obtain ⟨r1, r2, p1, p2, b1, b2, l1, l2, s1, s2, -⟩ := hp
  go_enter Try.func10, Try.ntmps10
  go_wp2_with (go_at_call 22; refine (none_made _ hb p1).mono ?_; rintro e w' ⟨rfl, rfl⟩)
  go_ret
  exact ⟨rfl, rfl⟩
set_option maxHeartbeats 400000 in
theorem take_neg {p : Nat} {rate per burst level rest : Int} (w : World) (n : Int) (hb : Bk w p rate per burst level rest) (hp : BkOk rate per burst level rest) (hn : n < 0) :
    Calls Try.prog 10 #[.pointer (some ⟨p, 0, none⟩), .int .i64 n] w fun e w' => e = .returned (.int .i64 2) ∧ w = w' := by
  obtain ⟨r1, r2, p1, p2, b1, b2, l1, l2, s1, s2, -⟩ := hp
  go_enter Try.func10, Try.ntmps10
  go_wp2_with (go_at_call 22; refine (none_made _ hb p1).mono ?_; rintro e w' ⟨rfl, rfl⟩)
  go_ret
  exact ⟨rfl, rfl⟩

def bkL (rate per burst level rest t : Int) : Int := if burst ≤ level + (rest + rate * t) / per then burst else level + (rest + rate * t) / per
def bkR (rate per burst level rest t : Int) : Int := if burst ≤ level + (rest + rate * t) / per then 0 else (rest + rate * t) % per
theorem flow_bd {rate per rest t : Int} (r1 : 1 ≤ rate) (r2 : rate ≤ 65536) (p1 : 1 ≤ per) (p2 : per ≤ 65536) (s1 : 0 ≤ rest) (s2 : rest < per) (t1 : 0 ≤ t) (t2 : t ≤ 2147483648) :
    0 ≤ rate * t ∧ rate * t ≤ 140737488355328 ∧ 0 ≤ (rest + rate * t) / per ∧ (rest + rate * t) / per ≤ 140737488420864 ∧ 0 ≤ (rest + rate * t) % per ∧ (rest + rate * t) % per < per := by
  have a : 0 ≤ rate * t := Int.mul_nonneg (by omega) t1
  have b : rate * t ≤ 65536 * 2147483648 := Int.mul_le_mul r2 t2 t1 (by omega)
  have c : (rest + rate * t) / per ≤ rest + rate * t := Int.ediv_le_self _ (by omega)
  exact ⟨a, by omega, Int.ediv_nonneg (by omega) (by omega), by omega, Int.emod_nonneg _ (by omega), Int.emod_lt_of_pos _ (by omega)⟩
theorem bk_refilled {rate per burst level rest t : Int} (hp : BkOk rate per burst level rest) (t1 : 0 ≤ t) (t2 : t ≤ 2147483648) :
    BkOk rate per burst (bkL rate per burst level rest t) (bkR rate per burst level rest t) := by
  obtain ⟨r1, r2, p1, p2, b1, b2, l1, l2, s1, s2, -⟩ := hp
  obtain ⟨a, b, c, d, e, f⟩ := flow_bd r1 r2 p1 p2 s1 s2 t1 t2
  unfold bkL bkR
  split
  · exact ⟨r1, r2, p1, p2, b1, b2, by omega, by omega, by omega, by omega, fun _ => rfl⟩
  · exact ⟨r1, r2, p1, p2, b1, b2, by omega, by omega, by omega, by omega, fun _ => by omega⟩

set_option maxHeartbeats 400000 in
theorem refill_made {p : Nat} {rate per burst level rest : Int} (w : World) (t : Int) (hb : Bk w p rate per burst level rest) (hp : BkOk rate per burst level rest) (t1 : 0 ≤ t) (t2 : t ≤ 2147483648) :
    Calls Try.prog 9 #[.pointer (some ⟨p, 0, none⟩), .int .i64 t] w fun e w' =>
      e = .returned (.int .i64 0) ∧ Bk w' p rate per burst (bkL rate per burst level rest t) (bkR rate per burst level rest t) ∧ Fr (· = p) w w' := by
  have c0 : w.cell? ⟨p, 0, none⟩ = some (.int .i64 rate) := hb.cell' rfl
  have c1 : w.cell? ⟨p, 1, none⟩ = some (.int .i64 per) := hb.cell' rfl
  have c2 : w.cell? ⟨p, 2, none⟩ = some (.int .i64 burst) := hb.cell' rfl
  have c3 : w.cell? ⟨p, 3, none⟩ = some (.int .i64 level) := hb.cell' rfl
  have c4 : w.cell? ⟨p, 4, none⟩ = some (.int .i64 rest) := hb.cell' rfl
  have z3 : w.frozen? ⟨p, 3, none⟩ = false := hb.free 3
  have z4 : w.frozen? ⟨p, 4, none⟩ = false := hb.free 4
  obtain ⟨r1, r2, p1, p2, b1, b2, l1, l2, s1, s2, -⟩ := hp
  obtain ⟨a, b, c, d, e, f⟩ := flow_bd r1 r2 p1 p2 s1 s2 t1 t2
  have q0 : ¬ per = 0 := by omega
  have q1 : (rest + rate * t).tdiv per = (rest + rate * t) / per := Int.tdiv_eq_ediv_of_nonneg (by omega)
  have q2 : (rest + rate * t).tmod per = (rest + rate * t) % per := Int.tmod_eq_emod_of_nonneg (by omega)
  have q3 : IntKind.i64.wrap ((rest + rate * t) / per) = (rest + rate * t) / per := IntWalk.i64_in _ (by omega)
  have q4 : IntKind.i64.wrap (level + (rest + rate * t) / per) = level + (rest + rate * t) / per := IntWalk.i64_in _ (by omega)
  have q5 : IntKind.i64.wrap (rest + rate * t) = rest + rate * t := IntWalk.i64_in _ (by omega)
  have q6 : IntKind.i64.wrap (rate * t) = rate * t := IntWalk.i64_in _ (by omega)
  have q7 : IntKind.i64.wrap ((rest + rate * t) % per) = (rest + rate * t) % per := IntWalk.i64_in _ (by omega)
  by_cases hf : burst ≤ level + (rest + rate * t) / per
  · have hL : bkL rate per burst level rest t = burst := if_pos hf
    have hR : bkR rate per burst level rest t = 0 := if_pos hf
    rw [hL, hR]
    clear hL hR
    go_enter Try.func9, Try.ntmps9
    go_wp2_with (go_at_call 22; refine (none_made _ hb p1).mono ?_; rintro e w' ⟨rfl, rfl⟩)
    go_quiet (fail)
    go_wp2
    refine region_tail 13 (by kernel_rfl) (by kernel_rfl) ?_
    intro w1 Hw1 hcw1 hzw1 hsw1
    simp only [List.take_succ_cons, List.take_zero, List.drop_succ_cons, List.drop_zero]
    repeat still_step
    refine wpStill_nil ?_
    go_wp2
    go_quiet (fail)
    go_wp2
    go_ret
    have hb1 : Bk w1 p rate per burst level rest := by rw [Hw1.out]; exact hb
    have hf1 : Fr (· = p) w w1 := by rw [Hw1.out]; exact ((Fr.refl _ _).drewN _).drew
    exact ⟨rfl, ((((hb1.set 3 _).set 4 _).drewN _).set 3 _).set 4 _, ((((hf1.setAt _).setAt _).drewN _).setAt _).setAt _⟩
  · have hL : bkL rate per burst level rest t = level + (rest + rate * t) / per := if_neg hf
    have hR : bkR rate per burst level rest t = (rest + rate * t) % per := if_neg hf
    rw [hL, hR]
    clear hL hR
    go_enter Try.func9, Try.ntmps9
    go_wp2_with (go_at_call 22; refine (none_made _ hb p1).mono ?_; rintro e w' ⟨rfl, rfl⟩)
    go_quiet (fail)
    go_wp2
    refine region_tail 13 (by kernel_rfl) (by kernel_rfl) ?_
    intro w1 Hw1 hcw1 hzw1 hsw1
    simp only [List.take_succ_cons, List.take_zero, List.drop_succ_cons, List.drop_zero]
    repeat still_step
    refine wpStill_nil ?_
    go_wp2
    go_quiet (fail)
    go_wp2
    go_ret
    have hb1 : Bk w1 p rate per burst level rest := by rw [Hw1.out]; exact hb
    have hf1 : Fr (· = p) w w1 := by rw [Hw1.out]; exact ((Fr.refl _ _).drewN _).drew
    exact ⟨rfl, ((hb1.set 3 _).set 4 _).drewN _, ((hf1.setAt _).setAt _).drewN _⟩
set_option maxHeartbeats 400000 in
theorem refill_time {p : Nat} {rate per burst level rest : Int} (w : World) (t : Int) (hb : Bk w p rate per burst level rest) (hp : BkOk rate per burst level rest) (ht : t < 0 ∨ 2147483648 < t) :
    Calls Try.prog 9 #[.pointer (some ⟨p, 0, none⟩), .int .i64 t] w fun e w' => e = .returned (.int .i64 130) ∧ w = w' := by
  have p1 := hp.p1
  rcases ht with ht | ht
  · go_enter Try.func9, Try.ntmps9
    go_wp2_with (go_at_call 22; refine (none_made _ hb p1).mono ?_; rintro e w' ⟨rfl, rfl⟩)
    go_ret
    exact ⟨rfl, rfl⟩
  · have h0 : 0 ≤ t := by omega
    go_enter Try.func9, Try.ntmps9
    go_wp2_with (go_at_call 22; refine (none_made _ hb p1).mono ?_; rintro e w' ⟨rfl, rfl⟩)
    go_ret
    exact ⟨rfl, rfl⟩
theorem bk_taken {rate per burst level rest n : Int} (hp : BkOk rate per burst level rest) (hn : 0 ≤ n) (hl : n ≤ level) : BkOk rate per burst (level - n) rest := by
  obtain ⟨_, _, _, _, _, _, _, _, _, _, z⟩ := hp
  constructor <;> first | omega | (intro; exact z (by omega))
end Go.Proofs.Ytgogagapapdlgaa
