/-
  same and kept again, the world told: at most draws.
-/
import Derived.Test.YtbglloafbmamoaaTlvLaw
namespace Go.Proofs.Ytbglloafbmamoaa
open Go.RowKit
set_option linter.unusedVariables false
theorem fr_of_drewN {w w' : World} (h : ∃ m, w' = w.drewN m) : Fr (fun _ => False) w w' := by obtain ⟨m, rfl⟩ := h; exact (Fr.refl _ _).drewN _

theorem quiet_ex {P : Program} {f : FuncId} {args : Array Value} {w : World} {n : Nat} {v : Value}
    (h : Calls P f args (w.drewN n) fun e w' => e = .returned v ∧ ∃ m, w' = (w.drewN n).drewN m) : Calls P f args (w.drewN n) fun e w'' => e = .returned v ∧ ∃ m, w'' = w.drewN m := Calls.quiet_of h

set_option maxHeartbeats 1000000 in
set_option maxRecDepth 4000 in
/-- same, where the bytes are the same: true. -/
theorem same_q (w : World) (xs : List Nat) (A B : Option Addr) (c d : Nat) (n : Nat) (hn : n = xs.length) (h63 : n ≤ 9223372036854775806) (hA : Sl w 1 A n (xs.map bn)) (hB : Sl w 1 B n (xs.map bn)) :
    Calls Try.prog 16 #[.slice A n c, .slice B n d] w fun e w' => e = .returned (.bool true) ∧ ∃ m, w' = w.drewN m := by
  have Hn := hide hn
  clear hn
  go_enter Try.func16, Try.ntmps16
  go_wp2_with fail
  go_loopw [5] (fun i wr => ∃ (k m : Nat), k ≤ n ∧ i = .int .i64 k ∧ Hid (wr = w.drewN m)) (fun i _ => n - (intOf i).toNat)
  case atStart => exact ⟨0, 0, Nat.zero_le _, rfl, rfl⟩
  case round =>
    obtain ⟨k, m, hk, rfl, hw⟩ := hrel
    obtain rfl := hw.out
    clear hw
    by_cases hlt : k < n
    · have hu := bn_get (xs := xs) (k := k) (by rw [← Hn.out]; exact hlt)
      obtain ⟨b, o, rfl, ca⟩ := hA.at_ hu
      obtain ⟨b', o', rfl, cb⟩ := hB.at_ hu
      clear hA hB hu
      have i0 : (0 : Int) ≤ (k : Int) := by omega
      have i1 : (k : Int) < (n : Int) := by omega
      go_wp2_with fail
      go_quiet (fail)
      go_wp2_with fail
      exact ⟨⟨k + 1, _, by omega, by go_num, rfl⟩, by simp [intOf]; omega⟩
    · go_wp2_with fail
      go_ret
      exact ⟨rfl, _, rfl⟩


set_option maxHeartbeats 1000000 in
set_option maxRecDepth 4000 in
theorem kept_q (w : World) (xs : List Nat) (A B : Option Addr) (n c d : Nat) (g : Nat) (hn : n ≤ 140737488355000) (hl : n = xs.length) (hL : Lent w A n c xs g) (hB : Sl w 1 B n (xs.map bn)) :
    Calls Try.prog 23 #[.slice A n c, .slice B n d] w fun e w' => e = .returned (.bool true) ∧ ∃ m, w' = w.drewN m := by
  have hS : Sl w 1 A n (xs.map bn) := by
    have := (hL.take (k := n) (by omega)).sl
    rwa [Nat.mul_one, List.map_append, List.take_left' (by simp [hl])] at this
  have hcap := hL.cap
  have hc1 := hcap.1
  have hc2 : c ≤ 9223372036854775807 := by have := hcap.2; unfold maxLen at this; exact this
  clear hcap
  have Hl := hide hl
  clear hl
  go_enter Try.func23, Try.ntmps23
  go_wp2_with fail
  refine (same_q w xs A B c d n Hl.out (by omega) hS hB).mono ?_
  rintro e w1 ⟨rfl, hf0⟩
  have hf := hide hf0
  clear hf0
  go_wp2_with fail
  go_loopw [6] (fun i wr => ∃ (k : Nat), k ≤ 5 ∧ i = .int .i64 k ∧ Hid (∃ m, wr = w.drewN m)) (fun i _ => 5 - (intOf i).toNat)
  case atStart => exact ⟨0, by omega, rfl, hf⟩
  case round =>
    obtain ⟨k, hk, rfl, hfr⟩ := hrel
    by_cases hlt : k < 5
    · have hu : ((xs ++ marks 5).map bn)[n + k]? = some (.int .u8 (201 + (k : Int))) := by
        have hl := Hl.out
        rw [List.getElem?_map, List.getElem?_append_right (by omega), hl, Nat.add_sub_cancel_left]
        simp [marks, hlt, bn]
      obtain ⟨b, o, rfl, hgb, c0, -⟩ := (by obtain ⟨m, e⟩ := hfr.out; rw [e]; exact hL : Lent wr A n c xs g).look hu
      clear hu hgb
      go_wp2_with fail
      exact ⟨⟨k + 1, by omega, by go_num, hfr⟩, by simp [intOf]; omega⟩
    · go_wp2_with fail
      go_ret
      exact ⟨rfl, hfr.out⟩

end Go.Proofs.Ytbglloafbmamoaa
