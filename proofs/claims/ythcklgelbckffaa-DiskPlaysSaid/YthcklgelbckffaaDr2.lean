/-
  bazaarref08.Disk: New, Load, carry.
-/
import Derived.Test.YthcklgelbckffaaDr1
import Derived.Test.YthcklgelbckffaaDkO
namespace Go.Proofs.Ythcklgelbckffaa
open Go.RowKit
set_option linter.unusedVariables false
set_option linter.unusedSimpArgs false
/-- A new disk of the reference. -/
def RNewOut (w : World) (n : Nat) (s : DS) (e : Ending) (w' : World) : Prop :=
  ∃ q G, e = .returned (.tuple #[.pointer (some ⟨q, 0, none⟩), .int .i64 0]) ∧ RI w' q n G s ∧ (∀ k, G k → w.heap.size ≤ k) ∧ Fr (fun _ => False) w w'
theorem rnew_bad (w : World) (k : Int) (h : k < 1 ∨ 65536 < k) :
    Calls Try.prog 26 #[.int .i64 k] w fun e w' => e = .returned (.tuple #[.pointer none, .int .i64 2]) ∧ w = w' := by
  by_cases h1 : k < 1
  · clear h
    go_enter Try.func26, Try.ntmps26
    go_wp2_with fail
    go_ret2
    exact ⟨rfl, rfl⟩
  · have h2 : 65536 < k := by omega
    clear h
    go_enter Try.func26, Try.ntmps26
    go_wp2_with fail
    go_ret2
    exact ⟨rfl, rfl⟩
theorem newS_okk (n : Nat) (h1 : 1 ≤ n) (h2 : n ≤ 65536) : (newS n).Ok n := newS_ok n h1 h2
/-- A disk's own block, new. -/
theorem RAt.made {w : World} {n : Nat} {SA : Option Addr} {sc : Nat} {gs : Option Nat} {xs : List Nat} (hO : Ow w 5 1 SA (n * 64) sc (xs.map bn) gs) (hl : xs.length = n * 64) (h1 : 1 ≤ n) (h2 : n ≤ 65536) :
    RAt (w.alloc (.cells #[.slice SA (n * 64) sc, .slice none 0 0, .int .i64 (-1), .int .i64 0, .int .i64 0] tRef)) w.heap.size n SA sc gs none 0 none [] (loadS xs) :=
  ⟨Bl.new _ _ _, hO.fr (S := fun _ => False) ((Fr.refl _ _).alloc _) (fun _ _ => id), Ow.nil_ _ _ _, rfl, (fun i r v h => by simp [loadS] at h), (fun v hv => by cases hv), ⟨h1, h2, hl, fun r hr => (by cases hr), Int.le_refl _, by show (-1 : Int) ≤ _; omega, Nat.le_refl _, by show 0 ≤ _; omega, by show 0 ≤ _; omega⟩⟩
theorem newS_load (n : Nat) : newS n = loadS (zeros (n * 64)) := rfl
set_option maxRecDepth 4000 in
theorem rnew_ok (w : World) (n : Nat) (h1 : 1 ≤ n) (h2 : n ≤ 65536) :
    Calls Try.prog 26 #[.int .i64 (n : Int)] w (RNewOut w n (newS n)) := by
  obtain ⟨i0, hi, hz0, hz1, hz2⟩ := info_parts infoU8
  have q1 : ¬ (n : Int) < 1 := by omega
  have q2 : ¬ 65536 < (n : Int) := by omega
  obtain ⟨m, hm⟩ : ∃ m, m = n * 64 := ⟨_, rfl⟩
  have q3 : IntKind.i64.wrap (64 * (n : Int)) = (m : Int) := by rw [IntWalk.i64_in _ (by omega)]; omega
  have hmb : m ≤ 4194304 := by omega
  have Hm := hide hm
  have hn := hide h1
  have hn2 := hide h2
  clear h1 h2 hm
  go_enter Try.func26, Try.ntmps26
  go_wp2_with (refine wpList_make_full _ rfl _ _ 34 rfl w.heap.size 5 i0 _ 1 Try.underlying34 hi hz0 hz1 .i64 .i64 _ _ m rfl rfl rfl rfl (by rw [hz2]; omega) (by unfold maxLen; omega) (Nat.le_refl _) ?_)
  intro w1 ho hg1
  have Ho := hide ho
  have Hg : Hid (Fr (fun _ => False) w w1) := (Fr.ofGrown hg1).mono fun k _ e => by cases e
  clear ho hg1
  go_wp2_with fail
  go_ret2
  obtain ⟨A, c, g, e, hO, hb⟩ := Ow.ofOwns Ho.out
  cases e
  have hO2 : Ow w1 5 1 (some ⟨w.heap.size, 0, none⟩) m m ((zeros (n * 64)).map bn) g := by
    have e : (zeros (n * 64)).map bn = List.replicate m (Value.int .u8 0) := by rw [← Hm.out]; simp [zeros, bn]
    have e2 : (madeCells #[Value.int .u8 0] m).toList = List.replicate m (Value.int .u8 0) := made_same 1 m (by omega) (.int .u8 0)
    rw [e, ← e2]
    simpa using hO
  rw [Hm.out] at hO2 ⊢
  have hR := RAt.made hO2 (by simp [zeros]) hn.out hn2.out
  rw [← newS_load] at hR
  refine ⟨_, _, rfl, ⟨_, _, _, _, _, _, _, hR, rfl⟩, ?_, Hg.out.alloc _⟩
  rintro k (e | e | e | ⟨v, hv, -⟩)
  · subst e; exact Hg.out.size
  · exact hb k e
  · cases e
  · cases hv
theorem rload_bad (w : World) (A : Option Addr) (m c : Nat) (h63 : m ≤ 9223372036854775807) (h : loadBad m) :
    Calls Try.prog 27 #[.slice A m c] w fun e w' => e = .returned (.tuple #[.pointer none, .int .i64 82]) ∧ w = w' := by
  have hm : ((m : Int).tmod 64) = ((m % 64 : Nat) : Int) := by rw [Int.tmod_eq_emod_of_nonneg (by omega)]; omega
  have hw2 : IntKind.i64.wrap ((m % 64 : Nat) : Int) = ((m % 64 : Nat) : Int) := by rw [IntWalk.i64_in _ (by omega)]
  obtain ⟨r, hr⟩ : ∃ r, m % 64 = r := ⟨_, rfl⟩
  rw [hr] at hm hw2
  by_cases h1 : (m : Int) = 0
  · clear h hr
    go_enter Try.func27, Try.ntmps27
    go_wp2_with fail
    go_ret2
    exact ⟨rfl, rfl⟩
  · by_cases h3 : (r : Int) = 0
    · have h2 : 4194304 < (m : Int) := by unfold loadBad at h; omega
      clear h hr
      go_enter Try.func27, Try.ntmps27
      go_wp2_with fail
      go_ret2
      exact ⟨rfl, rfl⟩
    · clear h hr
      go_enter Try.func27, Try.ntmps27
      go_wp2_with fail
      go_ret2
      exact ⟨rfl, rfl⟩
set_option maxRecDepth 4000 in
theorem rload_ok (w : World) (A : Option Addr) (c n : Nat) (xs : List Nat) (hlen : xs.length = n * 64) (h1 : 1 ≤ n) (h2 : n ≤ 65536) (hS : Sl w 1 A (n * 64) (xs.map bn)) :
    Calls Try.prog 27 #[.slice A (n * 64) c] w (RNewOut w n (loadS xs)) := by
  obtain ⟨i0, hi, hz0, hz1, hz2⟩ := info_parts infoU8
  obtain ⟨m, hm⟩ : ∃ m, n * 64 = m := ⟨_, rfl⟩
  rw [hm] at hS ⊢
  have htm : ((m : Int).tmod 64) = 0 := by rw [Int.tmod_eq_emod_of_nonneg (by omega)]; omega
  have hw2 : IntKind.i64.wrap 0 = 0 := by rw [IntWalk.i64_in _ (by omega)]
  have k1 : ¬ (m : Int) = 0 := by omega
  have k2 : ¬ 4194304 < (m : Int) := by omega
  have hmb : m ≤ 4194304 := by omega
  have Hm := hide hm
  have Hlen := hide hlen
  have H1 := hide h1
  have H2 := hide h2
  have HS := hide hS
  clear hm hlen h1 h2 hS
  go_enter Try.func27, Try.ntmps27
  go_wp2_with (at_builtin; refine wpList_append_ow _ rfl _ _ 34 rfl 5 i0 (.int .u8 0) 1 1 Try.underlying34 hi hz0 hz1 hz2 rfl (by decide) _ _ _ _ _ rfl (Ow.nil_ _ _ _) _ _ _ _ rfl (HS.out.below (S := fun _ => False) ((Fr.refl _ _).alloc _) (fun _ _ => id)) (bn_one _) (by unfold maxLen; omega) (by omega) ?_)
  intro A1 c1 w1 g1 hO1 hf1 hg1
  have HO := hide hO1
  have Hf := hide hf1
  have Hg := hide hg1
  have cq : w1.cell? ⟨w.heap.size, 0, none⟩ = some (.slice none 0 0) := (hf1.cell (p := ⟨w.heap.size, 0, none⟩) (by simp) (fun e => by cases e)).trans ((Bl.new w tRef #[.slice none 0 0, .slice none 0 0, .int .i64 (-1), .int .i64 0, .int .i64 0]).cell' rfl)
  have hb1 : Bl w1 w.heap.size tRef #[.slice none 0 0, .slice none 0 0, .int .i64 (-1), .int .i64 0, .int .i64 0] := (Bl.new w tRef _).fr hf1 (fun e => by cases e)
  have zq := hb1.free 0
  have Hb := hide hb1
  clear hO1 hf1 hg1 hb1
  go_wp2_with fail
  go_ret2
  have hO := HO.out
  try simp only [Nat.zero_add, List.nil_append] at hO
  have hF : Fr (fun x => x = w.heap.size) w1 (w1.setCell ⟨w.heap.size, 0, none⟩ (.slice A1 m c1)) := (Fr.refl _ _).setAt _
  have hfw : Fr (fun _ => False) w w1 := ((Fr.refl _ _).alloc _).trans (Hf.out.mono fun x _ e => by cases e)
  have hgn : ∀ b, g1 = some b → w.heap.size + 1 ≤ b := by
    rintro b rfl
    rcases Hg.out with e | ⟨b', e, h⟩
    · cases e
    · cases e; simpa using h
  have hB2 := Hb.out.set 0 (.slice A1 m c1)
  have hm := Hm.out
  subst hm
  refine ⟨_, _, rfl, ⟨A1, c1, g1, none, 0, none, [], ⟨by show Bl _ _ _ #[.slice A1 (n * 64) c1, .slice none 0 0, .int .i64 (-1), .int .i64 ((0 : Nat) : Int), .int .i64 ((0 : Nat) : Int)]; simpa using hB2, ?_, Ow.nil_ _ _ _, rfl, (fun i r v h => by simp [loadS] at h), (fun v hv => by cases hv), ⟨H1.out, H2.out, Hlen.out, fun r hr => (by cases hr), Int.le_refl _, by show (-1 : Int) ≤ _; omega, Nat.le_refl _, by show 0 ≤ _; omega, by show 0 ≤ _; omega⟩⟩, rfl⟩, ?_, hfw.comp hF (fun i hi e => by omega)⟩
  · exact hO.fr hF (fun b hb e => by have := hgn b hb; omega)
  · rintro k (e | e | e | ⟨v, hv, -⟩)
    · omega
    · have := hgn k e; omega
    · cases e
    · cases hv
end Go.Proofs.Ythcklgelbckffaa
