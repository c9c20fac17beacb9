/-
  The law's helpers of chapter 10: same, lent.
-/
import Derived.Test.YteleakbbppbnnaaRg9
import Derived.Test.YteleakbbppbnnaaGrow
namespace Go.Proofs.Yteleakbbppbnnaa
open Go.RowKit
set_option linter.unusedVariables false

theorem iv_get {xs : List Int} {k : Nat} (h : k < xs.length) : (xs.map iv)[k]? = some (.int .i64 (xs.getD k 0)) := by
  simp [iv, List.getElem?_eq_getElem h, List.getD]
theorem iv_one (xs : List Int) : ∀ u ∈ xs.map iv, u.oneCell' = true := by
  intro u hu; obtain ⟨v, -, rfl⟩ := List.mem_map.1 hu; rfl
set_option maxHeartbeats 1000000 in
set_option maxRecDepth 4000 in
theorem same_int (w : World) (xs : List Int) (A B : Option Addr) (c d : Nat) (n : Nat) (hn : n = xs.length) (h63 : n ≤ 9223372036854775806) (hA : Sl w 1 A n (xs.map iv)) (hB : Sl w 1 B n (xs.map iv)) :
    Calls Try.prog 11 #[.slice A n c, .slice B n d] w fun e w' => e = .returned (.bool true) ∧ Fr (fun _ => False) w w' := by
  have Hn := hide hn
  clear hn
  go_enter Try.func11, Try.ntmps11
  go_wp2_with fail
  go_loopw [5] (fun i wr => ∃ (k m : Nat), k ≤ n ∧ i = .int .i64 k ∧ Hid (wr = w.drewN m)) (fun i _ => n - (intOf i).toNat)
  case atStart => exact ⟨0, 0, Nat.zero_le _, rfl, rfl⟩
  case round =>
    obtain ⟨k, m, hk, rfl, hw⟩ := hrel
    obtain rfl := hw.out
    clear hw
    by_cases hlt : k < n
    · have hu := iv_get (xs := xs) (k := k) (by rw [← Hn.out]; exact hlt)
      obtain ⟨b, o, rfl, ca⟩ := hA.at_ hu
      obtain ⟨b', o', rfl, cb⟩ := hB.at_ hu
      clear hA hB hu
      have i0 : (0 : Int) ≤ (k : Int) := by omega
      have i1 : (k : Int) < (n : Int) := by omega
      go_wp2_with fail
      go_quiet (fail)
      go_wp2_with fail
      exact ⟨⟨k + 1, _, by omega, by go_num, rfl⟩, by simp [intOf]; omega⟩
    · go_wp2_with fail
      go_ret
      exact ⟨rfl, (Fr.refl _ _).drewN _⟩

/-- The marks behind a list that is lent. -/
def imarks (k : Nat) : List Int := (List.range k).map fun (i : Nat) => -771 - (i : Int)
theorem imarks_succ (k : Nat) : imarks (k + 1) = imarks k ++ [-771 - (k : Int)] := by simp [imarks, List.range_succ]
theorem imarks_len (k : Nat) : (imarks k).length = k := by simp [imarks]
def LentI (n : Nat) (xs : List Int) (w : World) (e : Ending) (w' : World) : Prop :=
  ∃ A c g, e = .returned (.slice A n c) ∧ Ow w' 3 1 A (n + 40) c ((xs ++ imarks 40).map iv) (some g) ∧ w.heap.size ≤ g ∧ Fr (fun _ => False) w w'
set_option maxHeartbeats 1000000 in
set_option maxRecDepth 4000 in
theorem lentI_any (w : World) (xs : List Int) (A : Option Addr) (n c : Nat) (hn : n * 8 ≤ 140737488351232) (hA : Sl w 1 A n (xs.map iv)) :
    Calls Try.prog 8 #[.slice A n c] w (LentI n xs w) := by
  obtain ⟨i0, hi, hz0, hz1, hz2⟩ := info_parts infoInt
  go_enter Try.func8, Try.ntmps8
  go_wp2_with (at_builtin; refine wpList_append_ow _ rfl _ _ 22 rfl 3 i0 (.int .i64 0) 1 8 Try.underlying22 hi hz0 hz1 hz2 rfl (by decide) _ _ _ _ _ rfl (Ow.nil_ _ _ _) _ _ _ _ rfl hA (iv_one _) (by unfold maxLen; omega) (by omega) ?_)
  intro A1 c1 w1 g1 hO1 hf1 hg1
  go_wp2_with fail
  go_loopw [3, 4] (fun v i wr => ∃ (m : Nat) (A : Option Addr) (c : Nat) (g' : Option Nat), m ≤ 40 ∧ v = .slice A (n + m) c ∧ i = .int .i64 m ∧ Ow wr 3 1 A (n + m) c ((xs ++ imarks m).map iv) g' ∧ (∀ b, g' = some b → w.heap.size ≤ b) ∧ Fr (fun _ => False) w wr) (fun _ i _ => 40 - (intOf i).toNat)
  case atStart =>
    refine ⟨0, A1, c1, g1, by omega, rfl, rfl, by simpa [imarks] using hO1, fun b hb => ?_, hf1.mono fun k hk e => by cases e⟩
    rcases hg1 with rfl | ⟨b', rfl, h⟩
    · cases hb
    · cases hb; exact h
  case round =>
    clear hO1 hf1 hg1
    obtain ⟨m, A2, c2, g2, hm, rfl, rfl, hO, hg, hf⟩ := hrel
    by_cases hlt : m < 40
    · have hwz : IntKind.i64.wrap (-771 - (m : Int)) = -771 - (m : Int) := IntWalk.i64_in _ (by omega)
      go_wp2_with (at_builtin; refine wpList_append_ow _ rfl _ _ 22 rfl 3 i0 (.int .i64 0) 1 8 Try.underlying22 hi hz0 hz1 hz2 rfl (by decide) _ _ _ _ _ rfl (hO.fr (S := fun _ => False) ((Fr.refl _ _).alloc _) (fun _ _ => id)) _ _ _ [.int .i64 (-771 - (m : Int))] rfl (sl_one _ _ _) (by intro u hu; simp at hu; subst hu; rfl) (by unfold maxLen; omega) (by omega) ?_)
      intro A3 c3 w3 g3 hO3 hf3 hg3
      go_wp2_with fail
      refine ⟨⟨m + 1, A3, c3, g3, by omega, rfl, by go_num, ?_, ?_, ?_⟩, by simp [intOf]; omega⟩
      · rw [← Nat.add_assoc, imarks_succ, List.map_append, List.map_append]
        exact hO3
      · intro b hb
        have := hf.size
        rcases hg3 with rfl | ⟨b', rfl, h⟩
        · exact hg b hb
        · cases hb; omega
      · exact (hf.alloc _).comp hf3 fun i hi e => by have := hg i e.symm; omega
    · obtain rfl : m = 40 := by omega
      have hcc := hO.cap
      have hc1 := hcc.1
      have hc2 : c2 ≤ 9223372036854775807 := by have := hcc.2; unfold maxLen at this; exact this
      clear hcc
      go_wp2_with fail
      go_ret
      obtain ⟨hl, ⟨_, h0, _⟩ | ⟨b, o, cur, hA2, rfl, r⟩⟩ := id hO
      · omega
      · exact ⟨A2, c2, b, rfl, hO, hg b rfl, hf⟩
end Go.Proofs.Yteleakbbppbnnaa
