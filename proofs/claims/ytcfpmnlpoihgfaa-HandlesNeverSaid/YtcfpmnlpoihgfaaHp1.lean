/-
  handles: Parts; a Table's zero value.
-/
import Derived.Test.YtcfpmnlpoihgfaaMem
import Derived.Test.YtcfpmnlpoihgfaaRows
import Derived.WalkLawsBesides
import Derived.WalkSpells
import Derived.Deep.QuietTactic
import Derived.BigQuiet
namespace Go.Proofs.Ytcfpmnlpoihgfaa
open Go.RowKit
set_option linter.unusedVariables false

def prt (h : Int) : Int × Int := if h < 65536 then (0, 0) else (h % 65536, h / 65536)
set_option maxHeartbeats 400000 in
theorem parts_any (w : World) (h : Int) (hh : h ≤ 9223372036854775807) : Calls Try.prog 12 #[.int .i64 h] w fun e w' => e = .returned (.tuple #[.int .i64 (prt h).1, .int .i64 (prt h).2]) ∧ w = w' := by
  by_cases hs : h < 65536
  · have e1 : Hid (prt h = (0, 0)) := if_pos hs
    go_enter Try.func12, Try.ntmps12
    go_wp2
    go_ret2
    exact ⟨by rw [e1.out]; rfl, rfl⟩
  · have e1 : Hid (prt h = (h % 65536, h / 65536)) := if_neg hs
    have q1 : h.tdiv 65536 = h / 65536 := Int.tdiv_eq_ediv_of_nonneg (by omega)
    have q2 : h.tmod 65536 = h % 65536 := Int.tmod_eq_emod_of_nonneg (by omega)
    have q3 : IntKind.i64.wrap (h / 65536) = h / 65536 := IntWalk.i64_in _ (by omega)
    have q4 : IntKind.i64.wrap (h % 65536) = h % 65536 := IntWalk.i64_in _ (by omega)
    go_enter Try.func12, Try.ntmps12
    go_wp2
    go_ret2
    exact ⟨by rw [e1.out]; rfl, rfl⟩
set_option maxHeartbeats 400000 in
theorem rparts_any (w : World) (h : Int) (hh : h ≤ 9223372036854775807) : Calls Try.prog 17 #[.int .i64 h] w fun e w' => e = .returned (.tuple #[.int .i64 (prt h).1, .int .i64 (prt h).2]) ∧ w = w' := by
  by_cases hs : h < 65536
  · have e1 : Hid (prt h = (0, 0)) := if_pos hs
    go_enter Try.func17, Try.ntmps17
    go_wp2
    go_ret2
    exact ⟨by rw [e1.out]; rfl, rfl⟩
  · have e1 : Hid (prt h = (h % 65536, h / 65536)) := if_neg hs
    have q1 : h.tdiv 65536 = h / 65536 := Int.tdiv_eq_ediv_of_nonneg (by omega)
    have q2 : h.tmod 65536 = h % 65536 := Int.tmod_eq_emod_of_nonneg (by omega)
    have q3 : IntKind.i64.wrap (h / 65536) = h / 65536 := IntWalk.i64_in _ (by omega)
    have q4 : IntKind.i64.wrap (h % 65536) = h % 65536 := IntWalk.i64_in _ (by omega)
    go_enter Try.func17, Try.ntmps17
    go_wp2
    go_ret2
    exact ⟨by rw [e1.out]; rfl, rfl⟩

/-- A Table that nobody made. -/
abbrev Zt (w : World) (p : Nat) : Prop := Bl w p 47 #[.int .i64 0, .slice none 0 0, .slice none 0 0, .int .i64 0, .int .i64 0]

set_option maxHeartbeats 1000000 in
theorem good_zero (w : World) (p : Nat) (h : Int) (hh : h ≤ 9223372036854775807) (hz : Zt w p) : Calls Try.prog 33 #[.pointer (some ⟨p, 0, none⟩), .int .i64 h] w fun e w' => e = .returned (.tuple #[.pointer none, .int .i64 70]) ∧ w = w' := by
  have c1 : w.cell? ⟨p, 1, none⟩ = some (.slice none 0 0) := hz.cell' rfl
  have h0 : 0 ≤ (prt h).1 := by unfold prt; split <;> simp only <;> omega
  obtain ⟨a, ha⟩ : ∃ a, (prt h).1 = a := ⟨_, rfl⟩
  obtain ⟨b, hb⟩ : ∃ b, (prt h).2 = b := ⟨_, rfl⟩
  have hp := parts_any w h hh
  rw [ha, hb] at hp
  rw [ha] at h0
  clear ha hb
  by_cases hb0 : b = 0
  · subst hb0
    go_enter Try.func33, Try.ntmps33
    go_wp2_with fail
    refine hp.mono ?_
    rintro e w' ⟨rfl, rfl⟩
    go_wp2_with fail
    go_ret2
    exact ⟨rfl, rfl⟩
  · have hb1 : (b == 0) = false := beq_eq_false_iff_ne.2 hb0
    go_enter Try.func33, Try.ntmps33
    go_wp2_with fail
    refine hp.mono ?_
    rintro e w' ⟨rfl, rfl⟩
    go_wp2_with fail
    go_ret2
    exact ⟨rfl, rfl⟩
set_option maxHeartbeats 400000 in
theorem add_zero (w : World) (p : Nat) (v : Value) (hz : Zt w p) : Calls Try.prog 18 #[.pointer (some ⟨p, 0, none⟩), v] w fun e w' => e = .returned (.tuple #[.int .i64 0, .int .i64 71]) ∧ w = w' := by
  have c2 : w.cell? ⟨p, 2, none⟩ = some (.slice none 0 0) := hz.cell' rfl
  go_enter Try.func18, Try.ntmps18
  go_wp2
  go_ret2
  exact ⟨rfl, rfl⟩
set_option maxHeartbeats 400000 in
theorem get_zero (w : World) (p : Nat) (h : Int) (hh : h ≤ 9223372036854775807) (hz : Zt w p) : Calls Try.prog 19 #[.pointer (some ⟨p, 0, none⟩), .int .i64 h] w fun e w' => e = .returned (.tuple #[.string { data := #[] }, .int .i64 70]) ∧ w = w' := by
  go_enter Try.func19, Try.ntmps19
  go_wp2_with (go_at_call 33; refine (good_zero _ p h hh hz).mono ?_; rintro e w' ⟨rfl, rfl⟩)
  go_ret2
  exact ⟨rfl, rfl⟩
set_option maxHeartbeats 400000 in
theorem set_zero (w : World) (p : Nat) (h : Int) (v : Value) (hh : h ≤ 9223372036854775807) (hz : Zt w p) : Calls Try.prog 20 #[.pointer (some ⟨p, 0, none⟩), .int .i64 h, v] w fun e w' => e = .returned (.int .i64 70) ∧ w = w' := by
  go_enter Try.func20, Try.ntmps20
  go_wp2_with (go_at_call 33; refine (good_zero _ p h hh hz).mono ?_; rintro e w' ⟨rfl, rfl⟩)
  go_ret
  exact ⟨rfl, rfl⟩
set_option maxHeartbeats 400000 in
theorem free_zero (w : World) (p : Nat) (h : Int) (hh : h ≤ 9223372036854775807) (hz : Zt w p) : Calls Try.prog 21 #[.pointer (some ⟨p, 0, none⟩), .int .i64 h] w fun e w' => e = .returned (.tuple #[.string { data := #[] }, .int .i64 70]) ∧ w = w' := by
  go_enter Try.func21, Try.ntmps21
  go_wp2_with (go_at_call 33; refine (good_zero _ p h hh hz).mono ?_; rintro e w' ⟨rfl, rfl⟩)
  go_ret2
  exact ⟨rfl, rfl⟩
set_option maxHeartbeats 400000 in
theorem len_zero (w : World) (p : Nat) (c2 : w.cell? ⟨p, 3, none⟩ = some (.int .i64 0)) : Calls Try.prog 23 #[.pointer (some ⟨p, 0, none⟩)] w fun e w' => e = .returned (.int .i64 0) ∧ w = w' := by
  go_enter Try.func23, Try.ntmps23
  go_wp2
  go_ret
  exact ⟨rfl, rfl⟩
set_option maxHeartbeats 400000 in
theorem left_zero (w : World) (p : Nat) (c2 : w.cell? ⟨p, 4, none⟩ = some (.int .i64 0)) : Calls Try.prog 24 #[.pointer (some ⟨p, 0, none⟩)] w fun e w' => e = .returned (.int .i64 0) ∧ w = w' := by
  go_enter Try.func24, Try.ntmps24
  go_wp2
  go_ret
  exact ⟨rfl, rfl⟩
set_option maxHeartbeats 400000 in
theorem all_zero (w : World) (p : Nat) : Calls Try.prog 22 #[.pointer (some ⟨p, 0, none⟩)] w fun e w' => e = .returned (.func (.func 34) #[] #[.pointer (some ⟨w.heap.size, 0, none⟩)]) ∧ w' = w.alloc (.cells #[.pointer (some ⟨p, 0, none⟩)] 87) := by
  have hmf : ∀ (fn : Fn) (first cap : Array Value) (w : World), (Instr.makeFunc fn first cap).run Try.prog w = .ok (.func fn first cap) w := fun _ _ _ _ => rfl
  go_enter Try.func22, Try.ntmps22
  go_wp2
  go_ret
  exact ⟨rfl, rfl⟩
set_option maxRecDepth 100000 in
theorem func_nil (fn : Fn) (x y : Array Value) (W : World) : (binOp .eql 53 (.func fn x y) .nilFunc).run Try.prog W = .ok (.bool false) W := by
  have hu := Try.underlying53
  have he : (Op.equalIn (9999 + 1) 53 (.func fn x y) .nilFunc).run Try.prog W = .ok false W := by
    rw [Op.equalIn]
    simp [run_underlying hu]
  simp only [binOp, Op.equal, Op.maxDepth]
  simp [he]
end Go.Proofs.Ytcfpmnlpoihgfaa
