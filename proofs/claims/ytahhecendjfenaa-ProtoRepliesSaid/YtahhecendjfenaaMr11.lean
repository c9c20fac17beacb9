/-
  Texts merged into one, to keep the claim small: TlvRPut.
-/
import Derived.Test.YtahhecendjfenaaMr9
/-
  The reference's Put.
-/
namespace Go.Proofs.Ytahhecendjfenaa
open Go.RowKit
set_option linter.unusedVariables false

theorem putAll_mono {fs : List (Int × List Nat)} (k : Nat) : (putAll (fs.take k)).length ≤ (putAll fs).length := by
  have e : putAll fs = putAll (fs.take k) ++ putAll (fs.drop k) := by
    unfold putAll; rw [← List.flatMap_append, List.take_append_drop]
  rw [e, List.length_append]; omega
/-- What holds of the tags and the values where the scan goes through. -/
theorem putScan_ok : ∀ {fs : List (Int × List Nat)} {L : Int}, putScan L fs = 0 → 0 ≤ L → ∀ (i : Nat) (hi : i < fs.length), 0 < fs[i].1 ∧ fs[i].1 ≤ 255
  | (t, v) :: r, L, h, hL, i, hi => by
    unfold putScan at h
    split at h
    · omega
    · split at h
      · omega
      · rcases i with _ | i
        · simp; omega
        · exact putScan_ok h (by omega) i (by simpa using hi)

set_option maxHeartbeats 2000000 in
set_option maxRecDepth 4000 in
theorem rput_any (w : World) (fs : List (Int × List Nat)) (A : Option Addr) (n c : Nat) (hn : n ≤ 140737488355328) (hA : FAt w 5 A n fs) (hM : (putAll fs).length ≤ 140000000000000) (hM2 : ∀ (i : Nat) (hi : i < fs.length), fs[i].2.length ≤ 100000000000000) :
    Calls Try.prog 46 #[.slice A n c] w (PutPost (putBytes fs) (putErr fs) w) := by
  obtain ⟨i0, hi, hz0, hz1, hz2⟩ := info_parts info5
  have Hl := hide hA.1
  have HA := hide hA
  clear hA
  go_enter Try.func46, Try.ntmps46
  go_wp2_with fail
  go_loop [4, 5] (fun l i => ∃ (k : Nat) (L : Int), k ≤ n ∧ i = .int .i64 k ∧ l = .int .i64 L ∧ 0 ≤ L ∧ Hid (putScan 0 fs = putScan L (fs.drop k))) (fun _ i => n - (intOf i).toNat)
  case atStart => exact ⟨0, 0, by omega, rfl, rfl, by omega, rfl⟩
  case round =>
    obtain ⟨k, L, hk, rfl, rfl, hL, hS⟩ := hrel
    by_cases hlt : k < n
    · have hkl : k < fs.length := by rw [← Hl.out]; exact hlt
      obtain ⟨b, o, rfl, hcc⟩ := HA.out.2 (by omega)
      obtain ⟨V, m, d, c0, c1, hV⟩ := hcc k hkl
      have hm : m ≤ 100000000000000 := by rw [hV.len]; exact hM2 k hkl
      have Hm := hide hV.len
      have hdrop : Hid (fs.drop k = fs[k] :: fs.drop (k + 1)) := List.drop_eq_getElem_cons hkl
      obtain ⟨T, hT⟩ : ∃ T, fs[k].1 = T := ⟨_, rfl⟩
      have HT := hide hT
      rw [hT] at c0
      clear hcc hT
      by_cases hbad : T ≤ L ∨ 255 < T
      · have he : Hid (putErr fs = 21) := by
          have e : putScan 0 fs = 21 := by rw [hS.out, hdrop.out, putScan, if_pos (by rw [HT.out]; exact hbad)]
          show _ = _
          rw [putErr, if_pos (by rw [e]; omega), e]
        clear hdrop
        rcases hbad with hb1 | hb1
        all_goals
          go_wp2_with fail
          all_goals (go_ret2; exact PutPost.err (er := 21) he.out (by omega) (Fr.refl _ _))
      · have hb1 : L < T := by omega
        have hb2 : T ≤ 255 := by omega
        have hb3 : ¬ T < 1 := by omega
        have Hbad := hide hbad
        clear hbad
        by_cases hm0 : m = 0
        · have he : Hid (putErr fs = 20) := by
            have e : putScan 0 fs = 20 := by rw [hS.out, hdrop.out, putScan, if_neg (by rw [HT.out]; exact Hbad.out), if_pos (by rw [← Hm.out]; exact hm0)]
            show _ = _
            rw [putErr, if_pos (by rw [e]; omega), e]
          have hm1 : m ≤ 0 := by omega
          clear hdrop hm0
          go_wp2_with fail
          all_goals (go_ret2; exact PutPost.err (er := 20) he.out (by omega) (Fr.refl _ _))
        · have hsc : Hid (putScan 0 fs = putScan T (fs.drop (k + 1))) := by
            show _ = _
            rw [hS.out, hdrop.out, putScan, if_neg (by rw [HT.out]; exact Hbad.out), if_neg (by rw [← Hm.out]; exact hm0), HT.out]
          have hm1 : 0 < m := by omega
          clear hm0 hdrop
          go_wp2_with fail
          exact ⟨⟨k + 1, T, by omega, by go_num, rfl, by omega, hsc⟩, by simp [intOf]; omega⟩
    · obtain rfl : k = n := by omega
      have hs0 : Hid (putScan 0 fs = 0) := by
        show _ = _
        rw [hS.out, List.drop_eq_nil_of_le (by rw [← Hl.out]; exact Nat.le_refl _)]; rfl
      clear hS hL hk hlt
      go_wp2_with fail
      go_loopw [6, 7] (fun v i wr => ∃ (j : Nat) (B : Option Addr) (nb cb : Nat) (g : Option Nat), j ≤ k ∧ i = .int .i64 j ∧ v = .slice B nb cb ∧ nb ≤ 140000000000000 ∧
        Ow wr 5 1 B nb cb ((putAll (fs.take j)).map bn) g ∧ (∀ b, g = some b → w.heap.size ≤ b) ∧ Fr (fun _ => False) w wr) (fun _ i _ => k - (intOf i).toNat)
      case atStart => exact ⟨0, none, 0, 0, none, by omega, rfl, rfl, by omega, Ow.nil_ _ _ _, (fun b h => by cases h), Fr.refl _ _⟩
      case round =>
        obtain ⟨j, B, nb, cb, g, hj, rfl, rfl, hnb, hO, hg, hf⟩ := hrel
        by_cases hlt : j < k
        · have hkl : j < fs.length := by rw [← Hl.out]; exact hlt
          obtain ⟨b, o, rfl, hcc⟩ := HA.out.2 (by omega)
          obtain ⟨V, m, d, c0w, c1w, hVw⟩ := hcc j hkl
          have hbw : b < w.heap.size := World.block_lt_of_cell? w _ c0w
          have c0 := (hf.cell (World.block_lt_of_cell? w _ c0w) id).trans c0w
          have c1 := (hf.cell (World.block_lt_of_cell? w _ c1w) id).trans c1w
          have hV := hVw.below hf (fun _ _ => id)
          have hgb : ∀ k, some k = g → k = b → False := fun k e1 e2 => by have := hg k e1.symm; omega
          clear c0w c1w hVw
          have hm : m ≤ 100000000000000 := by rw [hV.len]; exact hM2 j hkl
          obtain ⟨hT1, hT2⟩ := putScan_ok hs0.out (by omega) j hkl
          obtain ⟨t, hT⟩ : ∃ t : Nat, fs[j].1 = (t : Int) := ⟨fs[j].1.toNat, by omega⟩
          have ht : t < 256 := by omega
          have HT := hide hT
          rw [hT] at c0
          clear hcc hT hT1 hT2
          have hall : nb + (1 + (short m).length + m) ≤ 140000000000000 := by
            have e1 := hO.len
            have e2 := @putAll_mono fs (j + 1)
            rw [putAll_take hkl, List.length_append, formF_len, ← hV.len] at e2
            omega
          have i1 : (0 : Int) ≤ (j : Int) := by omega
          have i2 : (j : Int) < (k : Int) := by omega
          go_wp2_with fail
          go_region_held3 (fun w' => w'.cell? ⟨b, o + j * 5, none⟩ = some (.int .i64 (t : Int)) ∧ w'.cell? ⟨b, o + j * 5 + 1, none⟩ = some (.slice V m d)) (go_keep)
            (first
              | (go_at_call 81; refine (form_any _ fs[j].2 V m d t ht (by omega) (by exact hV)).mono ?_; rintro e w2 ⟨B2, cb2, g2, rfl, hO2, hg2, hf2⟩; have kc0 := (hf2.cell (World.block_lt_of_cell? wr _ c0) id).trans c0; have kc1 := (hf2.cell (World.block_lt_of_cell? wr _ c1) id).trans c1)
              | (refine step_append_ow _ (by rfl) _ _ 33 (by rfl) 5 i0 (.int .u8 0) 1 1 Try.underlying33 hi hz0 hz1 hz2 rfl (by decide) _ _ _ _ _ (by rfl) (hO.fr (Fr.trans (by exact (Fr.refl _ _).drew) hf2) (fun _ _ => id)) _ _ _ _ (by rfl) hO2.sl (bn_one _) (by unfold maxLen; omega) (by omega) ?_; intro B3 cb3 w3 g3 hO3 hf3 hg3; have kd0 := (hf3.cell (World.block_lt_of_cell? w2 _ kc0) (fun e => hgb _ e rfl)).trans kc0; have kd1 := (hf3.cell (World.block_lt_of_cell? w2 _ kc1) (fun e => hgb _ e rfl)).trans kc1))
          go_wp2_with fail
          have hft : Fr (fun _ => False) w w2 := hf.drew.trans hf2
          refine ⟨⟨j + 1, B3, _, cb3, g3, by omega, by go_num, rfl, hall, ?_, ?_, ?_⟩, by simp [intOf]; omega⟩
          · rw [putAll_take hkl, List.map_append]
            rw [show fs[j].1.toNat = t by rw [HT.out]; rfl]
            exact hO3
          · intro b' hb
            have := hft.size
            rcases hg3 with h | ⟨b2, h, hb2⟩
            · exact hg b' (h ▸ hb)
            · rw [h] at hb; cases hb; omega
          · exact hft.comp hf3 fun i hi e => by have := hg i e.symm; omega
        · obtain rfl : j = k := by omega
          have hall : putAll (fs.take j) = putAll fs := by rw [List.take_of_length_le (by rw [← Hl.out]; exact Nat.le_refl _)]
          rw [hall] at hO
          have hlen := hO.len
          by_cases hbig : nb ≤ 1048576
          · have e1 : putErr fs = 0 := by rw [putErr, if_neg (by rw [hs0.out]; omega), if_neg (by omega)]
            have he : Hid (putErr fs = 0 ∧ putBytes fs = putAll fs) := ⟨e1, by rw [putBytes, if_pos e1]⟩
            clear e1 hall hlen
            go_wp2_with fail
            go_ret2
            exact ⟨B, nb, cb, g, by rw [he.out.1]; rfl, by rw [he.out.2]; exact hO, hg, hf⟩
          · have he : Hid (putErr fs = 3) := by
              show _ = _
              rw [putErr, if_neg (by rw [hs0.out]; omega), if_pos (by omega)]
            have hbig' : 1048576 < nb := by omega
            clear hall hlen
            go_wp2_with fail
            go_ret2
            exact PutPost.err (er := 3) he.out (by omega) hf
end Go.Proofs.Ytahhecendjfenaa
