/-
  told, unmade.
-/
import Derived.Test.YtgogagapapdlgaaBkRAll
import Derived.Test.YtgogagapapdlgaaBkRWhen
import Derived.Laws.Externs
namespace Go.Proofs.Ytgogagapapdlgaa
open Go.RowKit
set_option linter.unusedVariables false
attribute [local go_sem ↓] Go.wp_at_zero Go.wp_at_succ

theorem run_bits (b : Nat) (w : World) : (callFunc 29 #[.float .f32 b]).run Try.prog w = .ok (.value (.int .u32 b)) w := by
  rw [run_callFunc_extern Try.func29 (by decide +kernel) rfl rfl (e := Extern.MathFloatBits.float32bits) (by kernel_rfl)]; rfl
set_option maxHeartbeats 1000000 in
theorem told_nil (w : World) : Calls Try.prog 19 #[.pointer none, .pointer none] w fun e w' => e = .returned (.bool true) ∧ Fr (fun _ => False) w w' := by
  have hu : ∀ W : World, Un W none := fun W q h => by cases h
  have hbits := run_bits
  go_enter Try.func19, Try.ntmps19
  go_wp2_with fail
  refine (rfull_nil _).mono ?_
  rintro e w' ⟨rfl, rfl⟩
  go_wp2_with fail
  refine (level_un _ none (hu _)).mono ?_
  rintro e w' ⟨rfl, rfl⟩
  go_wp2_with fail
  refine (rest_un _ none (hu _)).mono ?_
  rintro e w' ⟨rfl, rfl⟩
  go_wp2_with fail
  refine (full_un _ none (hu _)).mono ?_
  rintro e w' ⟨rfl, rfl⟩
  go_wp2_with fail
  go_ret
  exact ⟨rfl, Fr.refl _ _⟩
set_option maxHeartbeats 1000000 in
theorem told_made {p q : Nat} {rate per burst level rest : Int} (w : World) (hb : Bk w p rate per burst level rest) (hr : Rk w q rate per burst level rest) (ok : BkOk rate per burst level rest) :
    Calls Try.prog 19 #[.pointer (some ⟨p, 0, none⟩), .pointer (some ⟨q, 0, none⟩)] w fun e w' => e = .returned (.bool true) ∧ Fr (fun _ => False) w w' := by
  have c3 : w.cell? ⟨q, 3, none⟩ = some (.int .i64 level) := hr.cell' rfl
  have c4 : w.cell? ⟨q, 4, none⟩ = some (.int .i64 rest) := hr.cell' rfl
  have hbits := run_bits
  go_enter Try.func19, Try.ntmps19
  go_wp2_with fail
  refine (rfull_made _ hr ok).mono ?_
  rintro e w1 ⟨rfl, hf1⟩
  have hb1 := hb.fr hf1 id
  go_wp2_with fail
  refine (level_made _ hb1 ok.p1).mono ?_
  rintro e w' ⟨rfl, rfl⟩
  go_wp2_with fail
  refine (rest_made _ hb1 ok.p1).mono ?_
  rintro e w' ⟨rfl, rfl⟩
  go_wp2_with fail
  refine (full_made _ hb1 ok).mono ?_
  rintro e w2 ⟨rfl, hf2⟩
  go_wp2_with fail
  go_ret
  exact ⟨rfl, hf1.trans hf2⟩
set_option maxHeartbeats 1000000 in
theorem unmade_any (w : World) (n : Int) : Calls Try.prog 21 #[.int .i64 n] w fun e w' => e = .returned (.bool true) ∧ Fr (fun _ => False) w w' := by
  have hu : Un (w.alloc (.cells (bkCells 0 0 0 0 0) 60)) (some w.heap.size) := fun q h => by
    cases h
    exact ⟨0, 0, 0, 0, Bl.new _ _ _⟩
  go_enter Try.func21, Try.ntmps21
  go_wp2_with fail
  refine (when_un _ (some w.heap.size) _ hu).mono ?_
  rintro e w' ⟨rfl, rfl⟩
  go_wp2_with fail
  refine (refill_un _ (some w.heap.size) _ hu).mono ?_
  rintro e w' ⟨rfl, rfl⟩
  go_wp2_with fail
  refine (take_un _ (some w.heap.size) _ hu).mono ?_
  rintro e w' ⟨rfl, rfl⟩
  go_wp2_with fail
  refine (level_un _ (some w.heap.size) hu).mono ?_
  rintro e w' ⟨rfl, rfl⟩
  go_wp2_with fail
  refine (rest_un _ (some w.heap.size) hu).mono ?_
  rintro e w' ⟨rfl, rfl⟩
  go_wp2_with fail
  refine (full_un _ (some w.heap.size) hu).mono ?_
  rintro e w' ⟨rfl, rfl⟩
  go_wp2_with fail
  refine (copy_un _ (some w.heap.size) hu).mono ?_
  rintro e w' ⟨rfl, rfl⟩
  go_wp2_with fail
  go_ret
  exact ⟨rfl, (Fr.refl _ _).alloc _⟩
end Go.Proofs.Ytgogagapapdlgaa
