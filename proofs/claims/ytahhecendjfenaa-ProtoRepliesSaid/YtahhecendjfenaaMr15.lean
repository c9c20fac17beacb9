/-
  Texts merged into one, to keep the claim small: TlvL3.
-/
import Derived.Test.YtahhecendjfenaaMr14
/-
  List of both.
-/
namespace Go.Proofs.Ytahhecendjfenaa
open Go.RowKit
set_option linter.unusedVariables false
attribute [local go_sem ↓] Go.wp_at_zero Go.wp_at_succ

/-- The form of a list. -/
def listAll (xss : List (List Nat)) : List Nat := xss.flatMap fun x => short x.length ++ x
theorem listAll_take {xss : List (List Nat)} {k : Nat} (h : k < xss.length) : listAll (xss.take (k + 1)) = listAll (xss.take k) ++ (short xss[k].length ++ xss[k]) := by
  unfold listAll
  rw [List.take_succ_eq_append_getElem h, List.flatMap_append]; simp
theorem listAll_mono {xss : List (List Nat)} (k : Nat) : (listAll (xss.take k)).length ≤ (listAll xss).length := by
  have e : listAll xss = listAll (xss.take k) ++ listAll (xss.drop k) := by
    unfold listAll; rw [← List.flatMap_append, List.take_append_drop]
  rw [e, List.length_append]; omega
theorem fresh_app {w : World} {g g' : Option Nat} {k : Nat} (hg : ∀ b, g = some b → w.heap.size ≤ b) (hk : w.heap.size ≤ k) (h : g' = g ∨ ∃ b, g' = some b ∧ k ≤ b) : ∀ b, g' = some b → w.heap.size ≤ b := by
  intro b hb
  rcases h with rfl | ⟨b', rfl, h⟩
  · exact hg b hb
  · cases hb; omega

set_option maxHeartbeats 4000000 in
set_option maxRecDepth 4000 in
theorem tlist_any (w : World) (xss : List (List Nat)) (A : Option Addr) (n c B : Nat) (hn : n ≤ 1099511627776) (hB : B ≤ w.heap.size) (hM : ∀ x ∈ xss, x.length ≤ 140000000000000) (hT : (listAll xss).length ≤ 140000000000000) (hA : LAt w B A n xss) :
    Calls Try.prog 75 #[.slice A n c] w (BP (listAll xss).length (listAll xss) w) := by
  obtain ⟨i0, hi, hz0, hz1, hz2⟩ := info_parts info5
  have Hn := hide hA.1
  have HA := hide hA
  clear hA
  go_enter Try.func75, Try.ntmps75
  go_wp2_with fail
  go_loopw [3, 8] (fun u i wr => ∃ (k m cd : Nat) (D : Option Addr) (g : Option Nat), k ≤ n ∧ i = .int .i64 k ∧ u = .slice D m cd ∧ Hid (m = (listAll (xss.take k)).length) ∧ Ow wr 5 1 D m cd ((listAll (xss.take k)).map bn) g ∧ (∀ b, g = some b → w.heap.size ≤ b) ∧ Fr (fun _ => False) w wr) (fun _ i _ => n - (intOf i).toNat)
  case atStart => exact ⟨0, 0, 0, none, none, by omega, rfl, rfl, rfl, Ow.nil_ _ _ _, (fun b h => by cases h), Fr.refl _ _⟩
  case round =>
    obtain ⟨k, m, cd, D, g, hk, rfl, rfl, hm, hO, hg, hf⟩ := hrel
    have hs0 := hf.size
    have hmT : m ≤ 140000000000000 := by rw [hm.out]; exact Nat.le_trans (listAll_mono k) hT
    by_cases hlt : k < n
    · have hkl : k < xss.length := by rw [← Hn.out]; exact hlt
      obtain ⟨b, o, rfl, hbB, hc⟩ := (HA.out.quiet hf).2 (by omega)
      obtain ⟨V, mv, d, c0, _, _, hV, hVB⟩ := hc k hkl
      have hml := hV.len
      have hm2 : mv ≤ 140000000000000 := by rw [hml]; exact hM _ (List.getElem_mem hkl)
      have hmU : mv < U64 := by unfold U64; omega
      have hsl := short_le hmU
      have Hnx : Hid (listAll (xss.take (k + 1)) = listAll (xss.take k) ++ (short mv ++ xss[k])) := by show _ = _; rw [listAll_take hkl, ← hml]
      have hT2 : m + (short mv).length + mv ≤ 140000000000000 := by
        have h1 := listAll_mono (xss := xss) (k + 1)
        rw [Hnx.out, List.length_append, List.length_append, ← hm.out, ← hml] at h1
        omega
      obtain ⟨ys, hy⟩ : ∃ ys, xss[k] = ys := ⟨_, rfl⟩
      rw [hy] at hV Hnx
      have hu2 : IntKind.u64.wrap (mv : Int) = (mv : Int) := IntWalk.u64_in _ (by omega)
      clear hc hy hkl hml
      have i0' : (0 : Int) ≤ (k : Int) := by omega
      have i1 : (k : Int) < (n : Int) := by omega
      go_wp2_with fail
      refine (short_any _ mv hmU).mono ?_
      rintro e w2 ⟨A2, c2, g2, rfl, hO2, hg2, hf2⟩
      have hO' := hO.fr hf2 (fun _ _ => id)
      go_wp2_with (at_builtin; refine wpList_append_ow _ rfl _ _ 33 rfl 5 i0 (.int .u8 0) 1 1 Try.underlying33 hi hz0 hz1 hz2 rfl (by decide) _ _ _ _ _ rfl hO' _ _ _ _ rfl hO2.sl (bn_one _) (by unfold maxLen; omega) (by omega) ?_)
      intro A3 c3 w3 g3 hO3 hf3 hg3
      have hs2 := hf2.size
      have hg3' := fresh_app hg (by omega) hg3
      have hV3 := Sl.fr' hf3 (hV.below hf2 (fun _ _ => id)) fun b' o' e h0 e' => by have := hVB b' o' e h0; have := hg b' e'.symm; omega
      go_wp2_with (at_builtin; refine wpList_append_ow _ rfl _ _ 33 rfl 5 i0 (.int .u8 0) 1 1 Try.underlying33 hi hz0 hz1 hz2 rfl (by decide) _ _ _ _ _ rfl hO3 _ _ _ _ rfl hV3 (bn_one _) (by unfold maxLen; omega) (by omega) ?_)
      intro A4 c4 w4 g4 hO4 hf4 hg4
      have hs3 := hf3.size
      go_wp2_with fail
      refine ⟨⟨k + 1, m + (short mv).length + mv, c4, A4, g4, by omega, by go_num, rfl, ?_, ?_, fresh_app hg3' (by omega) hg4, ?_⟩, by simp [intOf]; omega⟩
      · show _ = _
        rw [Hnx.out, List.length_append, List.length_append, ← hm.out, hV.len]; omega
      · rw [Hnx.out]; simpa using hO4
      · exact ((hf.trans hf2).comp hf3 fun x hx e => by have := hg x e.symm; omega).comp hf4 fun x hx e => by have := hg3' x e.symm; omega
    · obtain rfl : k = n := by omega
      have hx : xss.take k = xss := List.take_of_length_le (by rw [← Hn.out]; exact Nat.le_refl _)
      rw [hx] at hO hm
      clear hlt hx
      go_wp2_with fail
      refine (own_any _ (listAll xss) D m cd (by omega) hO.sl).mono ?_
      rintro e w2 ⟨A2, c2, g2, rfl, hO2, hg2, hf2⟩
      go_wp2_with fail
      go_ret
      exact ⟨A2, c2, g2, by rw [hm.out]; rfl, by rw [← hm.out]; exact hO2, (fun b e => by have := hg2 b e; omega), hf.trans hf2⟩

set_option maxHeartbeats 4000000 in
set_option maxRecDepth 4000 in
theorem rlist_any (w : World) (xss : List (List Nat)) (A : Option Addr) (n c B : Nat) (hn : n ≤ 1099511627776) (hB : B ≤ w.heap.size) (hM : ∀ x ∈ xss, x.length ≤ 140000000000000) (hT : (listAll xss).length ≤ 140000000000000) (hA : LAt w B A n xss) :
    Calls Try.prog 80 #[.slice A n c] w (BP (listAll xss).length (listAll xss) w) := by
  obtain ⟨i0, hi, hz0, hz1, hz2⟩ := info_parts info5
  have Hn := hide hA.1
  have HA := hide hA
  clear hA
  go_enter Try.func80, Try.ntmps80
  go_wp2_with fail
  go_loopw [3, 4] (fun u i wr => ∃ (k m cd : Nat) (D : Option Addr) (g : Option Nat), k ≤ n ∧ i = .int .i64 k ∧ u = .slice D m cd ∧ Hid (m = (listAll (xss.take k)).length) ∧ Ow wr 5 1 D m cd ((listAll (xss.take k)).map bn) g ∧ (∀ b, g = some b → w.heap.size ≤ b) ∧ Fr (fun _ => False) w wr) (fun _ i _ => n - (intOf i).toNat)
  case atStart => exact ⟨0, 0, 0, none, none, by omega, rfl, rfl, rfl, Ow.nil_ _ _ _, (fun b h => by cases h), Fr.refl _ _⟩
  case round =>
    obtain ⟨k, m, cd, D, g, hk, rfl, rfl, hm, hO, hg, hf⟩ := hrel
    have hs0 := hf.size
    have hmT : m ≤ 140000000000000 := by rw [hm.out]; exact Nat.le_trans (listAll_mono k) hT
    by_cases hlt : k < n
    · have hkl : k < xss.length := by rw [← Hn.out]; exact hlt
      obtain ⟨b, o, rfl, hbB, hc⟩ := (HA.out.quiet hf).2 (by omega)
      obtain ⟨V, mv, d, c0, _, _, hV, hVB⟩ := hc k hkl
      have hml := hV.len
      have hm2 : mv ≤ 140000000000000 := by rw [hml]; exact hM _ (List.getElem_mem hkl)
      have hmU : mv < U64 := by unfold U64; omega
      have hsl := short_le hmU
      have Hnx : Hid (listAll (xss.take (k + 1)) = listAll (xss.take k) ++ (short mv ++ xss[k])) := by show _ = _; rw [listAll_take hkl, ← hml]
      have hT2 : m + (short mv).length + mv ≤ 140000000000000 := by
        have h1 := listAll_mono (xss := xss) (k + 1)
        rw [Hnx.out, List.length_append, List.length_append, ← hm.out, ← hml] at h1
        omega
      obtain ⟨ys, hy⟩ : ∃ ys, xss[k] = ys := ⟨_, rfl⟩
      rw [hy] at hV Hnx
      have hu2 : IntKind.u64.wrap (mv : Int) = (mv : Int) := IntWalk.u64_in _ (by omega)
      clear hc hy hkl hml
      have i0' : (0 : Int) ≤ (k : Int) := by omega
      have i1 : (k : Int) < (n : Int) := by omega
      go_wp2_with fail
      refine (rshort_any _ mv hmU).mono ?_
      rintro e w2 ⟨A2, c2, g2, rfl, hO2, hg2, hf2⟩
      have hO' := hO.fr hf2 (fun _ _ => id)
      go_wp2_with (at_builtin; refine wpList_append_ow _ rfl _ _ 33 rfl 5 i0 (.int .u8 0) 1 1 Try.underlying33 hi hz0 hz1 hz2 rfl (by decide) _ _ _ _ _ rfl hO' _ _ _ _ rfl hO2.sl (bn_one _) (by unfold maxLen; omega) (by omega) ?_)
      intro A3 c3 w3 g3 hO3 hf3 hg3
      have hs2 := hf2.size
      have hg3' := fresh_app hg (by omega) hg3
      have hV3 := Sl.fr' hf3 (hV.below hf2 (fun _ _ => id)) fun b' o' e h0 e' => by have := hVB b' o' e h0; have := hg b' e'.symm; omega
      have c02 := (hf2.cell (World.block_lt_of_cell? wr _ c0) id).trans c0
      have c03 := (hf3.cell (World.block_lt_of_cell? w2 _ c02) (fun e' => by have := hg b e'.symm; omega)).trans c02
      go_wp2_with (first | (at_builtin; refine wpList_append_ow _ rfl _ _ 33 rfl 5 i0 (.int .u8 0) 1 1 Try.underlying33 hi hz0 hz1 hz2 rfl (by decide) _ _ _ _ _ rfl hO3 _ _ _ _ rfl hV3 (bn_one _) (by unfold maxLen; omega) (by omega) ?_) | go_in)
      intro A4 c4 w4 g4 hO4 hf4 hg4
      have hs3 := hf3.size
      go_wp2_with fail
      refine ⟨⟨k + 1, m + (short mv).length + mv, c4, A4, g4, by omega, by go_num, rfl, ?_, ?_, fresh_app hg3' (by omega) hg4, ?_⟩, by simp [intOf]; omega⟩
      · show _ = _
        rw [Hnx.out, List.length_append, List.length_append, ← hm.out, hV.len]; omega
      · rw [Hnx.out]; simpa using hO4
      · exact ((hf.trans hf2).comp hf3 fun x hx e => by have := hg x e.symm; omega).comp hf4 fun x hx e => by have := hg3' x e.symm; omega
    · obtain rfl : k = n := by omega
      have hx : xss.take k = xss := List.take_of_length_le (by rw [← Hn.out]; exact Nat.le_refl _)
      rw [hx] at hO hm
      clear hlt hx
      go_wp2_with fail
      go_ret
      exact ⟨D, cd, g, by rw [hm.out]; rfl, by rw [← hm.out]; exact hO, hg, hf⟩
end Go.Proofs.Ytahhecendjfenaa
