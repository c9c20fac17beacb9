/-
  The law's helpers: same, over, lent, kept, num.
-/
import Derived.Test.YtbglloafbmamoaaTlvShort
namespace Go.Proofs.Ytbglloafbmamoaa
open Go.RowKit
set_option linter.unusedVariables false

theorem bn_get {xs : List Nat} {k : Nat} (h : k < xs.length) : (xs.map bn)[k]? = some (.int .u8 ((xs.getD k 0 : Nat) : Int)) := by
  simp [bn, List.getElem?_eq_getElem h, List.getD]

set_option maxHeartbeats 1000000 in
set_option maxRecDepth 4000 in
/-- same, where the bytes are the same: true. -/
theorem same_true (w : World) (xs : List Nat) (A B : Option Addr) (c d : Nat) (n : Nat) (hn : n = xs.length) (h63 : n ≤ 9223372036854775806) (hA : Sl w 1 A n (xs.map bn)) (hB : Sl w 1 B n (xs.map bn)) :
    Calls Try.prog 16 #[.slice A n c, .slice B n d] w fun e w' => e = .returned (.bool true) ∧ Fr (fun _ => False) w w' := by
  have Hn := hide hn
  clear hn
  go_enter Try.func16, Try.ntmps16
  go_wp2_with fail
  go_loopw [5] (fun i wr => ∃ (k m : Nat), k ≤ n ∧ i = .int .i64 k ∧ Hid (wr = w.drewN m)) (fun i _ => n - (intOf i).toNat)
  case atStart => exact ⟨0, 0, Nat.zero_le _, rfl, rfl⟩
  case round =>
    obtain ⟨k, m, hk, rfl, hw⟩ := hrel
    obtain rfl := hw.out
    clear hw
    by_cases hlt : k < n
    · have hu := bn_get (xs := xs) (k := k) (by rw [← Hn.out]; exact hlt)
      obtain ⟨b, o, rfl, ca⟩ := hA.at_ hu
      obtain ⟨b', o', rfl, cb⟩ := hB.at_ hu
      clear hA hB hu
      have i0 : (0 : Int) ≤ (k : Int) := by omega
      have i1 : (k : Int) < (n : Int) := by omega
      go_wp2_with fail
      go_quiet (fail)
      go_wp2_with fail
      exact ⟨⟨k + 1, _, by omega, by go_num, rfl⟩, by simp [intOf]; omega⟩
    · go_wp2_with fail
      go_ret
      exact ⟨rfl, (Fr.refl _ _).drewN _⟩

set_option maxHeartbeats 1000000 in
set_option maxRecDepth 4000 in
/-- over writes into the slice's own block alone. -/
theorem over_any (w : World) (xs : List Nat) (A : Option Addr) (n c : Nat) (g : Option Nat) (hO : Ow w 5 1 A n c (xs.map bn) g) (hcap : n ≤ 140737488355000) :
    Calls Try.prog 18 #[.slice A n c] w fun e w' => e = .returned (.tuple #[]) ∧ Fr (fun k => some k = g) w w' := by
  obtain ⟨i0, hi, hz0, hz1, hz2⟩ := info_parts info5
  go_enter Try.func18, Try.ntmps18
  go_wp2_with fail
  go_loopw [2] (fun i wr => ∃ (k : Nat) (ys : List Nat), k ≤ n ∧ i = .int .i64 k ∧ Ow wr 5 1 A n c (ys.map bn) g ∧ Fr (fun k => some k = g) w wr) (fun i _ => n - (intOf i).toNat)
  case atStart => exact ⟨0, xs, Nat.zero_le _, rfl, hO, Fr.refl _ _⟩
  case round =>
    obtain ⟨k, ys, hk, rfl, hO, hf⟩ := hrel
    by_cases hlt : k < n
    · have hl : ys.length = n := by have := hO.1; simpa using this
      have hu := bn_get (xs := ys) (k := k) (by omega)
      obtain ⟨b, o, rfl, rfl, c0, z0⟩ := hO.look hu
      have Hl := hide hl
      have Hu := hide hu
      clear hl hu
      go_wp2_with fail
      refine ⟨⟨k + 1, ys.set k ((ys.getD k 0 + 91) % 256), by omega, by go_num, ?_, ?_⟩, by simp [intOf]; omega⟩
      · have := hO.put (j := k) (by omega) (bn ((ys.getD k 0 + 91) % 256))
        rw [← List.map_set] at this
        have e : bn ((ys.getD k 0 + 91) % 256) = .int .u8 (IntKind.u8.wrap (((ys.getD k 0 : Nat) : Int) + 91)) := by rw [IntKind.wrap_u8]; simp [bn]
        rw [e] at this
        exact this
      · exact hf.setIn (.inl rfl) _
    · go_wp2_with fail
      go_loopw [0, 3] (fun v i wr => ∃ (m : Nat) (ys : List Nat) (A : Option Addr) (c : Nat) (g' : Option Nat), m ≤ 70 ∧ v = .slice A (n + m) c ∧ i = .int .i64 m ∧ Ow wr 5 1 A (n + m) c (ys.map bn) g' ∧ (g' = g ∨ ∃ b, g' = some b ∧ w.heap.size ≤ b) ∧ Fr (fun k => some k = g) w wr) (fun _ i _ => 70 - (intOf i).toNat)
      case atStart => exact ⟨0, ys, A, c, g, by omega, rfl, rfl, hO, .inl rfl, hf⟩
      case round =>
        clear hO hf
        obtain ⟨m, zs, A2, c2, g2, hm, rfl, rfl, hO, hg, hf⟩ := hrel
        by_cases hlt : m < 70
        · go_wp2_with (at_builtin; refine wpList_append_ow _ rfl _ _ 23 rfl 5 i0 (.int .u8 0) 1 1 Try.underlying23 hi hz0 hz1 hz2 rfl (by decide) _ _ _ _ _ rfl (hO.fr ((Fr.refl _ _).alloc _) (fun _ _ => id)) _ _ _ _ rfl (Sl.one _ _ _) (bn_one [_]) (by unfold maxLen; omega) (by omega) ?_)
          intro A3 c3 w3 g3 hO3 hf3 hg3
          go_wp2_with fail
          refine ⟨⟨m + 1, zs ++ [77], A3, c3, g3, by omega, rfl, by go_num, by rw [← Nat.add_assoc]; simpa [bn] using hO3, ?_, ?_⟩, by simp [intOf]; omega⟩
          · have := hf.size
            rcases hg3 with rfl | ⟨b, rfl, hb⟩
            · exact hg
            · exact .inr ⟨b, rfl, by omega⟩
          · refine (hf.alloc _).comp hf3 fun i hi e => ?_
            rcases hg with rfl | ⟨b, rfl, hb⟩
            · exact e
            · cases e; omega
        · go_wp2_with fail
          go_end0
          exact ⟨rfl, hf⟩

/-- The marks behind a slice that is lent. -/
def marks (k : Nat) : List Nat := (List.range k).map (201 + ·)
theorem marks_succ (k : Nat) : marks (k + 1) = marks k ++ [201 + k] := by simp [marks, List.range_succ]
theorem marks_len (k : Nat) : (marks k).length = k := by simp [marks]
/-- Behind lent: the bytes xs in memory of their own, the marks behind them. -/
def Lent (w : World) (A : Option Addr) (n c : Nat) (xs : List Nat) (g : Nat) : Prop := Ow w 5 1 A (n + 5) c ((xs ++ marks 5).map bn) (some g)
def LentPost (n : Nat) (xs : List Nat) (w : World) (e : Ending) (w' : World) : Prop :=
  ∃ A c g, e = .returned (.slice A n c) ∧ Lent w' A n c xs g ∧ w.heap.size ≤ g ∧ Fr (fun _ => False) w w'

set_option maxHeartbeats 1000000 in
set_option maxRecDepth 4000 in
theorem lent_any (w : World) (xs : List Nat) (A : Option Addr) (n c : Nat) (hn : n ≤ 140737488355000) (hA : Sl w 1 A n (xs.map bn)) :
    Calls Try.prog 19 #[.slice A n c] w (LentPost n xs w) := by
  obtain ⟨i0, hi, hz0, hz1, hz2⟩ := info_parts info5
  go_enter Try.func19, Try.ntmps19
  go_wp2_with (at_builtin; refine wpList_append_ow _ rfl _ _ 23 rfl 5 i0 (.int .u8 0) 1 1 Try.underlying23 hi hz0 hz1 hz2 rfl (by decide) _ _ _ _ _ rfl (Ow.nil_ _ _ _) _ _ _ _ rfl hA (bn_one _) (by unfold maxLen; omega) (by omega) ?_)
  intro A1 c1 w1 g1 hO1 hf1 hg1
  go_wp2_with fail
  go_loopw [3, 4] (fun v i wr => ∃ (m : Nat) (A : Option Addr) (c : Nat) (g' : Option Nat), m ≤ 5 ∧ v = .slice A (n + m) c ∧ i = .int .i64 m ∧ Ow wr 5 1 A (n + m) c ((xs ++ marks m).map bn) g' ∧ (∀ b, g' = some b → w.heap.size ≤ b) ∧ Fr (fun _ => False) w wr) (fun _ i _ => 5 - (intOf i).toNat)
  case atStart =>
    refine ⟨0, A1, c1, g1, by omega, rfl, rfl, by simpa [marks] using hO1, fun b hb => ?_, hf1.mono fun k hk e => by cases e⟩
    rcases hg1 with rfl | ⟨b', rfl, h⟩
    · cases hb
    · cases hb; exact h
  case round =>
    clear hO1 hf1 hg1
    obtain ⟨m, A2, c2, g2, hm, rfl, rfl, hO, hg, hf⟩ := hrel
    by_cases hlt : m < 5
    · go_wp2_with (at_builtin; refine wpList_append_ow _ rfl _ _ 23 rfl 5 i0 (.int .u8 0) 1 1 Try.underlying23 hi hz0 hz1 hz2 rfl (by decide) _ _ _ _ _ rfl (hO.fr ((Fr.refl _ _).alloc _) (fun _ _ => id)) _ _ _ _ rfl (Sl.one _ _ _) (bn_one [_]) (by unfold maxLen; omega) (by omega) ?_)
      intro A3 c3 w3 g3 hO3 hf3 hg3
      go_wp2_with fail
      refine ⟨⟨m + 1, A3, c3, g3, by omega, rfl, by go_num, ?_, ?_, ?_⟩, by simp [intOf]; omega⟩
      · rw [← Nat.add_assoc, marks_succ, ← List.append_assoc, List.map_append]
        have e : List.map bn [201 + m] = [Value.int .u8 (201 + (m : Int))] := by simp [bn]
        rw [e]; simpa [List.map_append] using hO3
      · intro b hb
        have := hf.size
        rcases hg3 with rfl | ⟨b', rfl, h⟩
        · exact hg b hb
        · cases hb; omega
      · exact (hf.alloc _).comp hf3 fun i hi e => by have := hg i e.symm; omega
    · obtain rfl : m = 5 := by omega
      have hcc := hO.cap
      have hc1 := hcc.1
      have hc2 : c2 ≤ 9223372036854775807 := by have := hcc.2; unfold maxLen at this; exact this
      clear hcc
      go_wp2_with fail
      go_ret
      obtain ⟨hl, ⟨_, h0, _⟩ | ⟨b, o, cur, hA2, rfl, r⟩⟩ := id hO
      · omega
      · exact ⟨A2, c2, b, rfl, hO, hg b rfl, hf⟩

set_option maxHeartbeats 1000000 in
set_option maxRecDepth 4000 in
theorem kept_true (w : World) (xs : List Nat) (A B : Option Addr) (n c d : Nat) (g : Nat) (hn : n ≤ 140737488355000) (hl : n = xs.length) (hL : Lent w A n c xs g) (hB : Sl w 1 B n (xs.map bn)) :
    Calls Try.prog 23 #[.slice A n c, .slice B n d] w fun e w' => e = .returned (.bool true) ∧ Fr (fun _ => False) w w' := by
  have hS : Sl w 1 A n (xs.map bn) := by
    have := (hL.take (k := n) (by omega)).sl
    rwa [Nat.mul_one, List.map_append, List.take_left' (by simp [hl])] at this
  have hcap := hL.cap
  have hc1 := hcap.1
  have hc2 : c ≤ 9223372036854775807 := by have := hcap.2; unfold maxLen at this; exact this
  clear hcap
  have Hl := hide hl
  clear hl
  go_enter Try.func23, Try.ntmps23
  go_wp2_with fail
  refine (same_true w xs A B c d n Hl.out (by omega) hS hB).mono ?_
  rintro e w1 ⟨rfl, hf⟩
  go_wp2_with fail
  go_loopw [6] (fun i wr => ∃ (k : Nat), k ≤ 5 ∧ i = .int .i64 k ∧ Fr (fun _ => False) w wr) (fun i _ => 5 - (intOf i).toNat)
  case atStart => exact ⟨0, by omega, rfl, hf⟩
  case round =>
    obtain ⟨k, hk, rfl, hfr⟩ := hrel
    by_cases hlt : k < 5
    · have hu : ((xs ++ marks 5).map bn)[n + k]? = some (.int .u8 (201 + (k : Int))) := by
        have hl := Hl.out
        rw [List.getElem?_map, List.getElem?_append_right (by omega), hl, Nat.add_sub_cancel_left]
        simp [marks, hlt, bn]
      obtain ⟨b, o, rfl, hgb, c0, -⟩ := (hL.fr hfr (fun _ _ => id)).look hu
      clear hu hgb
      go_wp2_with fail
      exact ⟨⟨k + 1, by omega, by go_num, hfr⟩, by simp [intOf]; omega⟩
    · go_wp2_with fail
      go_ret
      exact ⟨rfl, hfr⟩

theorem num_any (w : World) (x : Int) : Calls Try.prog 22 #[.int .i64 x] w fun e w' => e = .returned (.int .i64 x) ∧ w = w' := by
  go_enter Try.func22, Try.ntmps22
  go_wp2
  go_ret
  exact ⟨rfl, rfl⟩
end Go.Proofs.Ytbglloafbmamoaa
