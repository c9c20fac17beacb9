/-
  TlvNumbers: the walk.
-/
import Derived.Test.YtbglloafbmamoaaTlvRead2
namespace Go.Proofs.Ytbglloafbmamoaa
open Go.RowKit
set_option linter.unusedVariables false

theorem Lent.sl {w : World} {A : Option Addr} {n c : Nat} {xs : List Nat} {g : Nat} (h : Lent w A n c xs g) (hl : n = xs.length) : Sl w 1 A n (xs.map bn) := by
  have := (Ow.take h (k := n) (by omega)).sl
  rwa [Nat.mul_one, List.map_append, List.take_left' (by simp [hl])] at this

set_option maxHeartbeats 1000000 in
set_option maxRecDepth 100000 in
theorem numbers_walk (w : World) (x : Nat) (hx : x < U64) (xs : List Nat) (A : Option Addr) (n c : Nat) (at_ : Int) (hn : n ≤ 140737488355000) (hl : n = xs.length) (h256 : ∀ x ∈ xs, x < 256) (hA : Sl w 1 A n (xs.map bn)) :
    Calls Try.prog 3 #[.int .u64 (x : Int), .slice A n c, .int .i64 at_] w fun e w' => e = .returned (.bool true) ∧ Below w.heap.size w w' := by
  obtain ⟨X, T, F, hv⟩ : ∃ X T F, ReadVal xs at_ = .tuple #[.int .u64 X, .int .i64 T, .int .i64 F] := ⟨_, _, _, rfl⟩
  have HV := hide hv
  have Hl := hide hl
  clear hv hl
  have hsl := short_le hx
  go_enter Try.func3, Try.ntmps3
  go_wp2_with fail
  refine (short_any _ x hx).mono ?_
  rintro e w1 ⟨A1, c1, g1, rfl, hO1, hg1, hf1⟩
  go_wp2_with fail
  refine (rshort_any _ x hx).mono ?_
  rintro e w2 ⟨A2, c2, g2, rfl, hO2, hg2, hf2⟩
  have hO1' := hO1.fr hf2 (fun _ _ => id)
  go_wp2_with fail
  refine (same_true _ (short x) A1 A2 c1 c2 _ rfl (by omega) hO1'.sl hO2.sl).mono ?_
  rintro e w3 ⟨rfl, hf3⟩
  have hO1'' := hO1'.fr hf3 (fun _ _ => id)
  have hf03 := (hf1.trans hf2).trans hf3
  go_wp2_with fail
  refine (over_any _ _ _ _ _ _ hO1'' (by omega)).mono ?_
  rintro e w4 ⟨rfl, hf4⟩
  have hf04 : Fr (fun _ => False) w w4 := hf03.comp hf4 fun i hi e => by have := hg1 i e.symm; omega
  have hA4 := hA.below hf04 (fun _ _ => id)
  go_wp2_with fail
  refine (lent_any _ xs A n c (by omega) hA4).mono ?_
  rintro e w5 ⟨A5, c5, g5, rfl, hL5, hg5, hf5⟩
  have hf05 := hf04.trans hf5
  have hA5 := hA4.below hf5 (fun _ _ => id)
  go_wp2_with fail
  refine (rread_any _ xs A n c at_ (by omega) Hl.out h256 hA5).mono ?_
  rintro e w6 ⟨rfl, rfl⟩
  rw [HV.out]
  go_wp2_with fail
  refine (tread_any _ xs A5 n c5 at_ (by omega) Hl.out h256 (hL5.sl Hl.out)).mono ?_
  rintro e w6 ⟨rfl, rfl⟩
  rw [HV.out]
  go_wp2_with fail
  refine (num_any _ _).mono ?_
  rintro e w6 ⟨rfl, rfl⟩
  go_wp2_with fail
  refine (kept_true _ xs A5 A n c5 c g5 (by omega) Hl.out hL5 hA5).mono ?_
  rintro e w6 ⟨rfl, hf6⟩
  go_wp2_with fail
  refine (short_any _ x hx).mono ?_
  rintro e w7 ⟨A7, c7, g7, rfl, hO7, hg7, hf7⟩
  go_wp2_with fail
  refine (rshort_any _ x hx).mono ?_
  rintro e w8 ⟨A8, c8, g8, rfl, hO8, hg8, hf8⟩
  have hO7' := hO7.fr hf8 (fun _ _ => id)
  go_wp2_with fail
  refine (same_true _ (short x) A7 A8 c7 c8 _ rfl (by omega) hO7'.sl hO8.sl).mono ?_
  rintro e w9 ⟨rfl, hf9⟩
  go_wp2_with fail
  go_ret
  exact ⟨rfl, ((((hf05.trans hf6).trans hf7).trans hf8).trans hf9).toBelow (Nat.le_refl _) (fun _ _ => id)⟩
end Go.Proofs.Ytbglloafbmamoaa
