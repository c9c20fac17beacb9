/-
  bazaarref10.Ring: Drop, Move.
-/
import Derived.Test.YteleakbbppbnnaaRr2
namespace Go.Proofs.Yteleakbbppbnnaa
open Go.RowKit
set_option linter.unusedVariables false
/-- So many things go. -/
def dropN (n : Int) (len : Nat) : Nat := if n < 1 then 0 else min n.toNat len
section
variable {q : Nat} {lg : Option Nat} {room : Nat} {xs : List Int}
def RDropping (w : World) (q : Nat) (lg : Option Nat) (room : Nat) (xs : List Int) (n : Int) (i : Value) (wr : World) : Prop :=
  ∃ j : Nat, i = .int .i64 (j : Int) ∧ j ≤ xs.length ∧ (j : Int) ≤ max n 0 ∧ RefKeep w q lg room (xs.drop j) wr
set_option maxHeartbeats 1000000 in
theorem rdrop_any (w : World) (h : RefI w q lg room xs) (hb : xs.length ≤ 65536) (n : Int) :
    Calls Try.prog 33 #[.pointer (some ⟨q, 0, none⟩), .int .i64 n] w fun e w' => e = .returned (.int .i64 (dropN n xs.length : Int)) ∧ RefKeep w q lg room (xs.drop (dropN n xs.length)) w' := by
  have H := hide h
  obtain ⟨m, hm⟩ : ∃ m, xs.length = m := ⟨_, rfl⟩
  have HM := hide hm
  rw [hm] at hb ⊢
  clear h hm
  go_enter Try.func33, Try.ntmps33
  go_wp2_with fail
  go_loopw [5] (fun i wr => RDropping w q lg room xs n i wr) (fun i _ => m + 1 - (intOf i).toNat)
  case atStart => exact ⟨0, rfl, Nat.zero_le _, by omega, by simpa using H.out, Fr.refl _ _⟩
  case round =>
    obtain ⟨j, rfl, hj, hjn, hK, hF⟩ := hrel
    have hj' : j ≤ m := by rw [← HM.out]; exact hj
    clear hj
    by_cases hlt : (j : Int) < n
    · have hpop := rpop_any wr hK (by rw [List.length_drop, HM.out]; omega)
      have hdl : (xs.drop j).length = m - j := by rw [List.length_drop, HM.out]
      rw [List.drop_drop, hdl] at hpop
      have HF := hide hF
      clear hK hF hdl
      by_cases hlm : j < m
      · rw [decide_eq_true (show 0 < m - j by omega)] at hpop
        go_wp2_with fail
        refine hpop.mono ?_
        rintro e w1 ⟨rfl, hK1, hF1⟩
        have HK := hide (And.intro hK1 (HF.out.trans hF1))
        clear hK1 hF1 hpop
        go_wp2_with fail
        exact ⟨⟨j + 1, by go_num, by rw [HM.out]; omega, by omega, HK.out⟩, by simp [intOf]; omega⟩
      · obtain rfl : m = j := by omega
        rw [decide_eq_false (show ¬ 0 < m - m by omega)] at hpop
        have hd0 : dropN n m = m := by unfold dropN; rw [if_neg (by omega)]; omega
        have HD := hide hd0
        clear hd0
        go_wp2_with fail
        refine hpop.mono ?_
        rintro e w1 ⟨rfl, hK1, hF1⟩
        have HK := hide (And.intro hK1 (HF.out.trans hF1))
        clear hK1 hF1 hpop
        go_wp2_with fail
        go_ret
        rw [HD.out]
        refine ⟨rfl, ?_⟩
        have h2 : xs.drop m = xs.drop (m + 1) := by rw [List.drop_of_length_le (by rw [HM.out]; exact Nat.le_refl _), List.drop_of_length_le (by rw [HM.out]; omega)]
        rw [h2]
        exact HK.out
    · have hd0 : dropN n m = j := by unfold dropN; split <;> omega
      have HD := hide hd0
      have HK := hide (And.intro hK hF)
      clear hd0 hK hF
      go_wp2_with fail
      go_ret
      rw [HD.out]
      exact ⟨rfl, HK.out⟩
theorem rdrop_nil (w : World) (n : Int) : Calls Try.prog 33 #[.pointer none, .int .i64 n] w fun e w' => e = .returned (.int .i64 0) ∧ Fr (fun _ => False) w w' := by
  go_enter Try.func33, Try.ntmps33
  go_wp2_with fail
  go_loopw [5] (fun i wr => i = .int .i64 0 ∧ Fr (fun _ => False) w wr) (fun i _ => 1)
  case atStart => exact ⟨rfl, Fr.refl _ _⟩
  case round =>
    obtain ⟨rfl, hF⟩ := hrel
    by_cases hlt : 0 < n
    · go_wp2_with fail
      refine (rpop_nil _).mono ?_
      rintro e w1 ⟨rfl, rfl⟩
      go_wp2_with fail
      go_ret
      exact ⟨rfl, hF⟩
    · go_wp2_with fail
      go_ret
      exact ⟨rfl, hF⟩
end
end Go.Proofs.Yteleakbbppbnnaa
