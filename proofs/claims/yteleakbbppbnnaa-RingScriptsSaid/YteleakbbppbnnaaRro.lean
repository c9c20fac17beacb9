/-
  ring.Ring[string]'s zero value: Pop, Push, Room.
-/
import Derived.Test.YteleakbbppbnnaaRrn
namespace Go.Proofs.Yteleakbbppbnnaa
open Go.RowKit
set_option linter.unusedVariables false
section
variable {z : Nat}
theorem shas_z (w : World) (i : Int) (hi : 0 ≤ i) (c0 : w.cell? ⟨z, 0, none⟩ = some (.slice none 0 0)) (c1 : w.cell? ⟨z, 1, none⟩ = some (.int .i64 0)) (c3 : w.cell? ⟨z, 3, none⟩ = some (.int .i64 0)) : Calls Try.prog 45 #[.pointer (some ⟨z, 0, none⟩), .int .i64 i] w fun e w' => e = .returned (.bool false) ∧ w = w' := by
  have hb : decide (i < 0) = false := by simp; omega
  go_enter Try.func45, Try.ntmps45
  go_wp2
  go_ret
  exact ⟨rfl, rfl⟩
theorem sat_z (w : World) (c0 : w.cell? ⟨z, 0, none⟩ = some (.slice none 0 0)) (c1 : w.cell? ⟨z, 1, none⟩ = some (.int .i64 0)) (c3 : w.cell? ⟨z, 3, none⟩ = some (.int .i64 0)) : Calls Try.prog 38 #[.pointer (some ⟨z, 0, none⟩), .int .i64 0] w fun e w' => e = .returned (.tuple #[.string { data := #[] }, .bool false]) ∧ w = w' := by
  have h := shas_z w 0 (by omega) c0 c1 c3
  go_enter Try.func38, Try.ntmps38
  go_wp2_with fail
  refine h.mono ?_
  rintro e w' ⟨rfl, rfl⟩
  go_wp2_with fail
  go_ret2
  exact ⟨rfl, rfl⟩
theorem slen_z (w : World) (c0 : w.cell? ⟨z, 0, none⟩ = some (.slice none 0 0)) (c1 : w.cell? ⟨z, 1, none⟩ = some (.int .i64 0)) (c3 : w.cell? ⟨z, 3, none⟩ = some (.int .i64 0)) : Calls Try.prog 46 #[.pointer (some ⟨z, 0, none⟩)] w fun e w' => e = .returned (.int .i64 0) ∧ w = w' := by
  go_enter Try.func46, Try.ntmps46
  go_wp2
  go_ret
  exact ⟨rfl, rfl⟩
theorem sroom_z (w : World) (c0 : w.cell? ⟨z, 0, none⟩ = some (.slice none 0 0)) (c1 : w.cell? ⟨z, 1, none⟩ = some (.int .i64 0)) (c3 : w.cell? ⟨z, 3, none⟩ = some (.int .i64 0)) : Calls Try.prog 21 #[.pointer (some ⟨z, 0, none⟩)] w fun e w' => e = .returned (.int .i64 0) ∧ w = w' := by
  go_enter Try.func21, Try.ntmps21
  go_wp2
  go_ret
  exact ⟨rfl, rfl⟩
theorem sdrop_z (w : World) (c0 : w.cell? ⟨z, 0, none⟩ = some (.slice none 0 0)) (c1 : w.cell? ⟨z, 1, none⟩ = some (.int .i64 0)) (c3 : w.cell? ⟨z, 3, none⟩ = some (.int .i64 0)) : Calls Try.prog 39 #[.pointer (some ⟨z, 0, none⟩), .int .i64 1] w fun e w' => e = .returned (.int .i64 0) ∧ w = w' := by
  go_enter Try.func39, Try.ntmps39
  go_wp2_with fail
  refine (slen_z w c0 c1 c3).mono ?_
  rintro e w' ⟨rfl, rfl⟩
  go_wp2_with fail
  go_ret
  exact ⟨rfl, rfl⟩
theorem spop_z (w : World) (c0 : w.cell? ⟨z, 0, none⟩ = some (.slice none 0 0)) (c1 : w.cell? ⟨z, 1, none⟩ = some (.int .i64 0)) (c3 : w.cell? ⟨z, 3, none⟩ = some (.int .i64 0)) : Calls Try.prog 19 #[.pointer (some ⟨z, 0, none⟩)] w fun e w' => e = .returned (.tuple #[.string { data := #[] }, .bool false]) ∧ w = w' := by
  go_enter Try.func19, Try.ntmps19
  go_wp2_with fail
  refine (sat_z w c0 c1 c3).mono ?_
  rintro e w' ⟨rfl, rfl⟩
  go_wp2_with fail
  refine (sdrop_z w c0 c1 c3).mono ?_
  rintro e w' ⟨rfl, rfl⟩
  go_wp2_with fail
  go_ret2
  exact ⟨rfl, rfl⟩
theorem sfit_z (w : World) (c0 : w.cell? ⟨z, 0, none⟩ = some (.slice none 0 0)) (c1 : w.cell? ⟨z, 1, none⟩ = some (.int .i64 0)) (c3 : w.cell? ⟨z, 3, none⟩ = some (.int .i64 0)) : Calls Try.prog 40 #[.pointer (some ⟨z, 0, none⟩), .int .i64 0] w fun e w' => e = .returned (.tuple #[]) ∧ Fr (fun _ => False) w w' := by
  go_enter Try.func40, Try.ntmps40
  go_wp2_with fail
  go_quiet (fail)
  go_wp2_with fail
  refine bodyPost_ret (results_none rfl _ _ _) rfl ?_
  exact ⟨rfl, (Fr.refl _ _).drewN nq⟩
theorem spush_full (w : World) (c0 : w.cell? ⟨z, 0, none⟩ = some (.slice none 0 0)) (c1 : w.cell? ⟨z, 1, none⟩ = some (.int .i64 0)) (c3 : w.cell? ⟨z, 3, none⟩ = some (.int .i64 0)) (A : Option Addr) (c : Nat) : Calls Try.prog 20 #[.pointer (some ⟨z, 0, none⟩), .slice A 1 c] w fun e w' => e = .returned (.int .i64 100) ∧ Fr (fun _ => False) w w' := by
  go_enter Try.func20, Try.ntmps20
  go_wp2_with fail
  go_quiet (fail)
  go_wp2_with fail
  go_ret
  exact ⟨rfl, (Fr.refl _ _).drewN nq⟩
theorem spush_none (w : World) (c0 : w.cell? ⟨z, 0, none⟩ = some (.slice none 0 0)) (c1 : w.cell? ⟨z, 1, none⟩ = some (.int .i64 0)) (c3 : w.cell? ⟨z, 3, none⟩ = some (.int .i64 0)) : Calls Try.prog 20 #[.pointer (some ⟨z, 0, none⟩), .slice none 0 0] w fun e w' => e = .returned (.int .i64 0) ∧ Fr (fun _ => False) w w' := by
  have hz := World.block_lt_of_cell? w _ c0
  go_enter Try.func20, Try.ntmps20
  go_wp2_with fail
  go_quiet (fail)
  go_wp2_with fail
  have hf : Fr (fun _ => False) w (w.drewN nq) := (Fr.refl _ _).drewN nq
  refine (sfit_z (w.drewN nq) ((hf.cell hz id).trans c0) ((hf.cell hz id).trans c1) ((hf.cell hz id).trans c3)).mono ?_
  rintro e w' ⟨rfl, hf2⟩
  go_wp2_with fail
  go_loopw [29] (fun i wr => i = .int .i64 0 ∧ wr = w') (fun _ _ => 0)
  case atStart => exact ⟨rfl, rfl⟩
  case round =>
    obtain ⟨rfl, rfl⟩ := hrel
    go_wp2_with fail
    go_ret
    exact ⟨rfl, hf.trans hf2⟩
end
end Go.Proofs.Yteleakbbppbnnaa
