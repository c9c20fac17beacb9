/-
  handles: round, awake.
-/
import Derived.Test.YtcfpmnlpoihgfaaHhA
namespace Go.Proofs.Ytcfpmnlpoihgfaa
open Go.RowKit
set_option linter.unusedVariables false
set_option linter.unusedSimpArgs false
set_option maxHeartbeats 400000 in
theorem round_any (w : World) (k n : Int) (n1 : 1 ≤ n) (n2 : n ≤ 4611686018427387904) :
    Calls Try.prog 8 #[.int .i64 k, .int .i64 n] w fun e w' => e = .returned (.int .i64 (k % n)) ∧ w = w' := by
  have h0 := Int.emod_nonneg k (show n ≠ 0 by omega)
  have h1 := Int.emod_lt_of_pos k (show 0 < n by omega)
  have tb : k.tmod n = k % n ∨ (k.tmod n = k % n - n) := by
    rw [Int.tmod_eq_emod]; split
    · exact .inl (by omega)
    · exact .inr (by omega)
  by_cases hk : 0 ≤ k.tmod n
  · have e1 : k.tmod n = k % n := by omega
    clear tb
    go_enter Try.func8, Try.ntmps8
    go_wp2
    go_ret
    exact ⟨rfl, rfl⟩
  · have e2 : -n ≤ k.tmod n := by omega
    have e1 : Hid (k % n = k.tmod n + n) := show k % n = k.tmod n + n by omega
    clear tb
    go_enter Try.func8, Try.ntmps8
    go_wp2
    go_ret
    exact ⟨by rw [e1.out]; rfl, rfl⟩
def aw1 : TS := ⟨[(7, 1, true)], [], 2, 1, 1⟩
def aw2 : TS := ⟨[(0, 1, false)], [0], 2, 0, 1⟩
def aw3 : TS := ⟨[(8, 2, true)], [], 2, 1, 0⟩
theorem aw_one {s : TS} {x : Int} {at_ tu : Nat} {ys : List Nat} (h : Added s x at_ tu ys) (hf : s.free = [0]) : at_ = 0 ∧ ys = [] := by
  have hp := h.perm
  rw [hf] at hp
  have := hp.eq_singleton
  cases this; exact ⟨rfl, rfl⟩
theorem aw_a {x : Int} {at_ tu : Nat} {ys : List Nat} (h : Added (newT 1 2) x at_ tu ys) : at_ = 0 ∧ tu = 0 ∧ ys = [] := by
  obtain ⟨rfl, rfl⟩ := aw_one h rfl
  obtain ⟨th, hc, _⟩ := h.old
  have : some (0, 0, false) = some (th, tu, false) := hc
  cases this; exact ⟨rfl, rfl, rfl⟩
theorem aw_b {x : Int} {at_ tu : Nat} {ys : List Nat} (h : Added aw2 x at_ tu ys) : at_ = 0 ∧ tu = 1 ∧ ys = [] := by
  obtain ⟨rfl, rfl⟩ := aw_one h rfl
  obtain ⟨th, hc, _⟩ := h.old
  have : some (0, 1, false) = some (th, tu, false) := hc
  cases this; exact ⟨rfl, rfl, rfl⟩
theorem aw_f {ys : List Nat} (h : Freed aw1 0 1 ys) : ys = [0] := by
  rcases h with ⟨_, h, _⟩ | ⟨h, _⟩
  · exact List.Perm.eq_singleton h
  · cases h
set_option maxHeartbeats 2000000 in
theorem awake_any (w : World) : Calls Try.prog 7 #[] w fun e w' => e = .returned (.bool true) ∧ Fr (fun _ => False) w w' := by
  go_enter Try.func7, Try.ntmps7
  go_wp2_with fail
  refine (new_ok w 1 2 (by omega) (by omega) (by omega) (by omega)).mono ?_
  rintro e w1 ⟨p, F1, rfl, hT1, hF1, hf1⟩
  go_wp2_with fail
  refine (add_ok hT1 7 (by decide) (by decide) (by decide)).mono ?_
  rintro e w2 ⟨at_, tu, ys, rfl, hA, hO2⟩
  obtain ⟨rfl, rfl, rfl⟩ := aw_a hA
  obtain ⟨F2, hT2, hF2, hf2⟩ := WI.out hF1 hf1 hO2
  have hT2 : TI w2 p 1 F2 aw1 := hT2
  clear hA hO2 hT1
  go_wp2_with fail
  refine (free_ok hT2 65536 (by decide) (by decide) (at_ := 0) (th := 7) (tu := 1) (by decide)).mono ?_
  rintro e w3 ⟨ys, rfl, hA, hO3⟩
  obtain rfl := aw_f hA
  obtain ⟨F3, hT3, hF3, hf3⟩ := WI.out hF2 hf2 hO3
  have hT3 : TI w3 p 1 F3 aw2 := hT3
  clear hA hO3 hT2
  go_wp2_with fail
  refine (add_ok hT3 8 (by decide) (by decide) (by decide)).mono ?_
  rintro e w4 ⟨at_, tu, ys, rfl, hA, hO4⟩
  obtain ⟨rfl, rfl, rfl⟩ := aw_b hA
  obtain ⟨F4, hT4, hF4, hf4⟩ := WI.out hF3 hf3 hO4
  have hT4 : TI w4 p 1 F4 aw3 := hT4
  clear hA hO4 hT3
  go_wp2_with fail
  refine (get_bad hT4 65536 (by decide) (by decide)).mono ?_
  rintro e w5 ⟨rfl, rfl⟩
  go_wp2_with fail
  go_ret
  exact ⟨rfl, hf4⟩
end Go.Proofs.Ytcfpmnlpoihgfaa
