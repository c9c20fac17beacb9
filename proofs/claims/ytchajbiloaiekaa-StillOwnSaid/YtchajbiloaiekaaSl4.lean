/-
  A Still's small calls; the closures that are deferred.
-/
import Derived.Test.YtchajbiloaiekaaSl3
import Derived.Recover
namespace Go.Proofs.Ytchajbiloaiekaa
open Go.RowKit
set_option linter.unusedVariables false
theorem must_ok (w : World) : Calls Try.prog 31 #[.int .i64 0] w fun e w' => e = .returned (.tuple #[]) ∧ w = w' := by
  go_enter Try.func31, Try.ntmps31
  go_wp2
  ((try simp only [Exit.inBlock, Exit.then]); first | refine bodyPost_end (results_none rfl _ _ _) rfl ?_ | refine bodyPost_ret (results_none rfl _ _ _) rfl ?_)
  exact ⟨rfl, rfl⟩
theorem caught_nil (w : World) : Calls Try.prog 25 #[.nilIface] w fun e w' => e = .returned (.bool false) ∧ w = w' := by
  go_enter Try.func25, Try.ntmps25
  go_wp2
  go_ret
  exact ⟨rfl, rfl⟩
theorem open_left (a b c : Value) (w : World) :
    CallsD Try.prog 24 #[a, b, c] .returning w fun e u' w' => e = .returned (.tuple #[]) ∧ u' = .returning ∧ w' = w := by
  refine callsD_of_wpS Try.func24 rfl fun c₀ cs hu => ?_
  apply wpS_seq
  apply wpS_region
  simp [wpOpsS, go_sem, recoverD, hu, Try.ntmps24, Exit.thenS]
  refine (caught_nil w).mono ?_
  rintro e w' ⟨rfl, rfl⟩
  refine wpS_cond (t := false) (by simp [Act.eval, Array.replicate]) ?_
  simp only [Bool.false_eq_true, if_false]
  refine wpS_of_wp (wp_skip ?_)
  cases c₀
  simp_all [bodyPostS, results, Try.results24]
theorem save_left (a b : Value) (w : World) :
    CallsD Try.prog 27 #[a, b] .returning w fun e u' w' => e = .returned (.tuple #[]) ∧ u' = .returning ∧ w' = w := by
  refine callsD_of_wpS Try.func27 rfl fun c₀ cs hu => ?_
  apply wpS_seq
  apply wpS_region
  simp [wpOpsS, go_sem, recoverD, hu, Try.ntmps27, Exit.thenS]
  refine (caught_nil w).mono ?_
  rintro e w' ⟨rfl, rfl⟩
  refine wpS_cond (t := false) (by simp [Act.eval, Array.replicate]) ?_
  simp only [Bool.false_eq_true, if_false]
  refine wpS_of_wp (wp_skip ?_)
  cases c₀
  simp_all [bodyPostS, results, Try.results27]
abbrev tStill : TypeId := 56
/-- A Still (not dead) at block q, over the disk at block p. -/
def SAt (w : World) (q p : Nat) (fr n : Nat) (t0 t1 : Nat) : Prop := Bl w q tStill #[.pointer (some ⟨p, 0, none⟩), .int .i64 (fr : Int), .int .i64 (n : Int), .int .i64 (t0 : Int), .int .i64 (t1 : Int), .bool false]
section
variable {w : World} {q p fr n t0 t1 : Nat}
theorem first_any (h : SAt w q p fr n t0 t1) (hf : fr ≤ 70000) (hn : n ≤ 70000) (k : Nat) (hk : k ≤ 1) :
    Calls Try.prog 28 #[.pointer (some ⟨q, 0, none⟩), .int .i64 (k : Int)] w fun e w' => e = .returned (.int .i64 ((fr + k * n : Nat) : Int)) ∧ Fr (fun _ => False) w w' := by
  have c1 : w.cell? ⟨q, 1, none⟩ = some (.int .i64 (fr : Int)) := h.cell' rfl
  have c2 : w.cell? ⟨q, 2, none⟩ = some (.int .i64 (n : Int)) := h.cell' rfl
  have hkn : k * n ≤ 70000 := by
    have := Nat.mul_le_mul hk hn
    omega
  obtain ⟨y, hy⟩ : ∃ y, k * n = y := ⟨_, rfl⟩
  rw [hy] at hkn ⊢
  have i1 : IntKind.i64.wrap ((k : Int) * (n : Int)) = (y : Int) := by rw [← Int.natCast_mul, hy]; exact IntWalk.i64_in _ (by omega)
  have i2 : IntKind.i64.wrap ((fr : Int) + (y : Int)) = ((fr + y : Nat) : Int) := by rw [← Int.natCast_add]; exact IntWalk.i64_in _ (by omega)
  clear h hy
  go_enter Try.func28, Try.ntmps28
  go_wp2_with fail
  go_region
  go_wp2_with fail
  go_ret
  exact ⟨by rw [Int.natCast_add]; rfl, (Fr.refl _ _).drew⟩
theorem turn_any (h : SAt w q p fr n t0 t1) :
    Calls Try.prog 15 #[.pointer (some ⟨q, 0, none⟩)] w fun e w' => e = .returned (.int .i64 ((max t0 t1 : Nat) : Int)) ∧ Fr (fun _ => False) w w' := by
  have c1 : w.cell? ⟨q, 3, none⟩ = some (.int .i64 (t0 : Int)) := h.cell' rfl
  have c2 : w.cell? ⟨q, 4, none⟩ = some (.int .i64 (t1 : Int)) := h.cell' rfl
  clear h
  rcases Nat.lt_or_ge t0 t1 with hlt | hge
  · have e : max t0 t1 = t1 := by omega
    rw [e]
    have i1 : (t0 : Int) < (t1 : Int) := by omega
    go_enter Try.func15, Try.ntmps15
    go_wp2_with fail
    go_region
    go_wp2_with fail
    go_ret
    exact ⟨rfl, (Fr.refl _ _).drew⟩
  · have e : max t0 t1 = t0 := by omega
    rw [e]
    have i1 : ¬ (t0 : Int) < (t1 : Int) := by omega
    go_enter Try.func15, Try.ntmps15
    go_wp2_with fail
    go_region
    go_wp2_with fail
    go_ret
    exact ⟨rfl, (Fr.refl _ _).drew⟩
theorem most_any (h : SAt w q p fr n t0 t1) (hn : 1 ≤ n ∧ n ≤ 70000) :
    Calls Try.prog 20 #[.pointer (some ⟨q, 0, none⟩)] w fun e w' => e = .returned (.int .i64 ((64 * (n - 1) : Nat) : Int)) ∧ Fr (fun _ => False) w w' := by
  have c1 : w.cell? ⟨q, 2, none⟩ = some (.int .i64 (n : Int)) := h.cell' rfl
  obtain ⟨y, hy⟩ : ∃ y, 64 * (n - 1) = y := ⟨_, rfl⟩
  rw [hy]
  have i1 : IntKind.i64.wrap ((n : Int) - 1) = (n : Int) - 1 := IntWalk.i64_in _ (by omega)
  have i2 : IntKind.i64.wrap (64 * ((n : Int) - 1)) = (y : Int) := by rw [show 64 * ((n : Int) - 1) = (y : Int) by omega]; exact IntWalk.i64_in _ (by omega)
  clear h hy
  go_enter Try.func20, Try.ntmps20
  go_wp2_with fail
  go_ret
  exact ⟨rfl, Fr.refl _ _⟩
end
end Go.Proofs.Ytchajbiloaiekaa
