/-
  TlvOne: the walk.
-/
import Derived.Test.YtbglloafbmamoaaTlvOne0
import Derived.Deep.DeepCutAuto
namespace Go.Proofs.Ytbglloafbmamoaa
open Go.RowKit
set_option linter.unusedVariables false
attribute [local go_sem ↓] Go.wp_at_zero Go.wp_at_succ

theorem short_pre (w : World) (N t : Nat) (xs : List Nat) (h : short N = xs.take t) (ht : t ≤ xs.length) (hN : N < U64) :
    Calls Try.prog 15 #[.int .u64 (N : Int)] w fun e w' => ∃ P cp gp, e = .returned (.slice P t cp) ∧ Ow w' 5 1 P t cp ((xs.take t).map bn) gp ∧ Fr (fun _ => False) w w' := by
  have h1 : (short N).length = t := by rw [h, List.length_take]; omega
  refine (short_any w N hN).mono ?_
  rintro e w' ⟨P, cp, gp, rfl, hP, -, hf⟩
  rw [h1] at hP ⊢
  rw [h] at hP
  exact ⟨P, cp, gp, rfl, hP, hf⟩
set_option maxHeartbeats 2000000 in
set_option maxRecDepth 100000 in
theorem one_walk (w : World) (xs : List Nat) (A : Option Addr) (n c : Nat) (hn : n ≤ 1048576) (hc : n ≤ c) (hc2 : c ≤ 9223372036854775807) (hl : n = xs.length) (h256 : ∀ x ∈ xs, x < 256) (hA : Sl w 1 A n (xs.map bn)) :
    Calls Try.prog 10 #[.slice A n c] w fun e w' => e = .returned (.bool true) ∧ Below w.heap.size w w' := by
  have Hl := hide hl
  have H256 := hide h256
  have HA := hide hA
  clear hl h256 hA
  go_enter Try.func10, Try.ntmps10
  go_wp2_with fail
  refine (awake_any w).mono ?_
  rintro e w1 ⟨rfl, hf1⟩
  go_wp2_with fail
  refine (tget_any _ xs A n c (by omega) hc hc2 Hl.out H256.out (HA.out.below hf1 (fun _ _ => id))).mono ?_
  rintro e wc ⟨rs, L, k, cl, gl, rfl, hk, hrs, hO, hgl, hF, hf2⟩
  obtain ⟨pl, hpl⟩ : ∃ pl, (getAll xs).2.1 = pl := ⟨_, rfl⟩
  obtain ⟨er, her⟩ : ∃ er, (getAll xs).2.2 = er := ⟨_, rfl⟩
  rw [hpl, her]
  have Her := hide her
  have Hf := hide (hf1.trans hf2)
  have Hk := hide hk
  have Hrs := hide hrs
  have HO := hide hO
  have HF := hide hF
  clear hpl her hk hrs hO hgl hF hf1 hf2
  go_upto_if 24 with (go_at_call 22; refine (num_any _ _).mono ?_; rintro e w' ⟨rfl, rfl⟩)
  go_cut [0] (fun s0 wx => s0 = .slice A n c ∧ Fr (fun _ => False) w wx)
  case first =>
    by_cases h0 : er = 0
    · subst h0
      obtain ⟨fs, hfs⟩ : ∃ fs : List (Int × List Nat), rs.map (fun r : FO => ((r.F.tag : Int), r.F.val xs)) = fs := ⟨_, rfl⟩
      have hfm : putAll fs = xs ∧ putErr fs = 0 ∧ putBytes fs = xs := by
        have h1 := getAll_form H256.out Her.out
        have h2 : (getAll xs).1.map (fun F : GF => ((F.tag : Int), F.val xs)) = fs := by rw [← Hrs.out, List.map_map, ← hfs]; rfl
        rwa [h2] at h1
      have hkb : k ≤ 1048576 := by
        have h1 := getAll_len xs
        rw [← Hrs.out, List.length_map, ← Hk.out] at h1; exact h1
      have Hfm := hide hfm
      have hM : Hid (∀ (i : Nat) (hi : i < fs.length), fs[i].2.length ≤ 400000000000) := by
        intro i hi
        have h1 : fs[i] ∈ rs.map (fun r : FO => ((r.F.tag : Int), r.F.val xs)) := by rw [hfs]; exact List.getElem_mem hi
        obtain ⟨r, hr, h2⟩ := List.mem_map.1 h1
        rw [← h2]
        have h3 : r.F ∈ (getAll xs).1 := by rw [← Hrs.out]; exact List.mem_map.2 ⟨r, hr, rfl⟩
        have h4 := getAll_at xs _ h3
        show (r.F.val xs).length ≤ _
        rw [GF.val_len h4.2.1]
        have := Hl.out
        omega
      have hFat := HF.out.fat HO.out
      rw [hfs] at hFat
      have HFat := hide hFat
      clear hfm hfs hFat
      go_wp2_with fail
      refine (put_any _ fs L k cl (by omega) HFat.out hM.out).mono ?_
      rintro e wc ⟨P, np, cp, gp, rfl, hP, hgp, hf3⟩
      have hP' : Ow wc 5 1 P np cp (xs.map bn) gp := by rw [← Hfm.out.2.2]; exact hP
      have hpe : ((putErr fs : Nat) : Int) = 0 := by rw [Hfm.out.2.1]; rfl
      rw [hpe]
      obtain rfl : np = n := by rw [hP'.len, Hl.out]
      have HP := hide hP'
      have Hf3 := hide (Hf.out.trans hf3)
      clear hP hP' hpe hgp hf3
      go_wp2_with fail
      refine (num_any _ _).mono ?_
      rintro e w' ⟨rfl, rfl⟩
      go_wp2_with fail
      refine (same_q _ xs P A cp c np Hl.out (by omega) HP.out.sl (HA.out.below Hf3.out (fun _ _ => id))).mono ?_
      rintro e wc ⟨rfl, hd4⟩
      have Hf4 := hide (Hf3.out.trans (fr_of_drewN hd4))
      clear hd4
      go_wp2_with fail
      go_meet
      case rel => exact ⟨rfl, Hf4.out⟩
    · have hb : (er == 0) = false := beq_eq_false_iff_ne.2 h0
      go_wp2_with fail
      go_meet
      case rel => exact ⟨rfl, Hf.out⟩
  case rest =>
    obtain ⟨rfl, hf⟩ := hcut
    have hAc := HA.out.below hf (fun _ _ => id)
    clear Her Hf Hk Hrs HO HF
    go_wp2_with fail
    refine (tItems_any _ xs A _ c (by omega) hc hc2 Hl.out H256.out hAc).mono ?_
    rintro e w5 ⟨is, D, kd, cd, gd, rfl, hTold⟩
    obtain ⟨pl2, hpl2⟩ : ∃ pl, (itemsAll xs).2.1 = pl := ⟨_, rfl⟩
    obtain ⟨er2, her2⟩ : ∃ er, (itemsAll xs).2.2 = er := ⟨_, rfl⟩
    rw [hpl2, her2]
    have Her2 := hide her2
    have hf5 := hTold.fr
    replace hf := hf.trans hf5
    replace hAc := hAc.below hf5 (fun _ _ => id)
    have hkd : kd ≤ 1048576 := by
      have h1 := itemsAll_len xs
      rw [← hTold.len, ← Hl.out] at h1; omega
    have HT := hide hTold
    clear hpl2 her2 hTold
    have HAc := hide hAc
    have Hf := hide hf
    clear hAc hf hf5
    go_upto_region 9 with fail
    go_cut [59] (fun s59 wx => s59 = .bool false ∧ Fr (fun _ => False) w wx)
    case first =>
      by_cases h2 : er2 = 0
      · subst h2
        have hif := itemsAll_form H256.out Her2.out
        have Hif := hide hif
        have hn0 : ¬ (n = 0) := by rw [Hl.out]; exact hif.1
        have hn1 : (n == 0) = false := beq_eq_false_iff_ne.2 hn0
        have hn2 : ((n : Int) == 0) = false := beq_eq_false_iff_ne.2 (by omega)
        have hMi : Hid (∀ x ∈ (itemsAll xs).1.map (GF.val xs), x.length ≤ 140000000000000) := vals_len (by rw [← Hl.out]; omega)
        clear hif
        go_wp2_with fail
        refine (num_any _ _).mono ?_
        rintro e w' ⟨rfl, rfl⟩
        go_wp2_with fail
        refine (tlist_any _ _ D kd cd _ (by omega) (Nat.le_refl _) hMi.out (by rw [Hif.out.2, ← Hl.out]; omega) HT.out.lat).mono ?_
        rintro e w6 ⟨Al, cl6, gl6, rfl, hO6, hg6, hf6⟩
        rw [Hif.out.2] at hO6
        rw [Hif.out.2]
        rw [← Hl.out] at hO6
        rw [← Hl.out]
        have Hf6 := hide (Hf.out.trans hf6)
        have HO6 := hide hO6
        clear hO6 hg6 hf6
        go_wp2_with fail
        refine (same_q _ xs Al A cl6 c _ Hl.out (by omega) HO6.out.sl (HA.out.below Hf6.out (fun _ _ => id))).mono ?_
        rintro e w5 ⟨rfl, hd7⟩
        have Hf7 := hide (Hf6.out.trans (fr_of_drewN hd7))
        clear hd7
        go_wp2_with fail
        go_meet
        case rel => exact ⟨rfl, Hf7.out⟩
      · have hb : (er2 == 0) = false := beq_eq_false_iff_ne.2 h2
        go_wp2_with fail
        refine (num_any _ _).mono ?_
        rintro e w' ⟨rfl, rfl⟩
        go_wp2_with fail
        go_meet
        case rel => exact ⟨rfl, Hf.out⟩
    case rest =>
      obtain ⟨rfl, hf⟩ := hcut
      have hAc := HA.out.below hf (fun _ _ => id)
      have Hfc := hide hf
      have HAd := hide hAc
      clear hf hAc Hf HAc HT Her2
      obtain ⟨N, hN⟩ : ∃ N, (readShort xs 0).1 = N := ⟨_, rfl⟩
      obtain ⟨T, hT⟩ : ∃ T, (readShort xs 0).2.1 = T := ⟨_, rfl⟩
      obtain ⟨E, hE⟩ : ∃ E, (readShort xs 0).2.2 = E := ⟨_, rfl⟩
      have hv : Hid (ReadVal xs 0 = .tuple #[.int .u64 (N : Int), .int .i64 T, .int .i64 E]) := by show _ = _; rw [ReadVal, hN, hT, hE]
      have hr : Hid (readShort xs ((0 : Nat) : Int) = (N, T, E)) := by show readShort xs 0 = _; rw [← hN, ← hT, ← hE]
      clear hN hT hE
      go_wp2_with fail
      refine (tread_any _ xs A _ c 0 (by omega) Hl.out H256.out HAd.out).mono ?_
      rintro e w' ⟨rfl, rfl⟩
      rw [hv.out]
      by_cases hE : E = 0
      · subst hE
        have hok := readShort_ok hr.out
        have hsh := readShort_short hr.out H256.out
        have hNU := readShort_lt hr.out
        obtain ⟨t, rfl⟩ : ∃ t : Nat, T = (t : Int) := ⟨T.toNat, by omega⟩
        rw [← Hl.out] at hok
        have htn : t ≤ n := by omega
        have hsh' : Hid (short N = xs.take t) := by show _ = _; rw [hsh]; simp
        have k1 : ¬ (n : Int) < (t : Int) := by omega
        have k2 : (0 : Int) ≤ (t : Int) := by omega
        have k3 : (t : Int) ≤ (c : Int) := by omega
        have k4 : t ≤ c := by omega
        have k6 : ¬ n < t := by omega
        have k5 : decide (n < t) = false := decide_eq_false k6
        have htx : t ≤ xs.length := by rw [← Hl.out]; exact htn
        have hpre : Hid (Sl wc 1 A t ((xs.take t).map bn)) := by show Sl _ _ _ _ _; rw [List.map_take]; exact HAd.out.pre htn
        have hlt : Hid (t = (xs.take t).length) := by show _ = _; rw [List.length_take]; omega
        clear hok hsh
        go_wp2_with fail
        go_region_held3 (fun w' => True) (first | exact trivial | go_keep)
          (first
            | (go_at_call 22; refine (num_any _ _).mono ?_; rintro e w' ⟨rfl, rfl⟩)
            | (go_at_call 15; refine (short_pre _ N t xs hsh'.out htx hNU).mono ?_; rintro e w2 ⟨P, cp, gp, rfl, hP, hf2⟩)
            | (go_at_call 16; refine (same_q _ (xs.take t) P A cp c t hlt.out (by omega) hP.sl (hpre.out.below ((Fr.refl (fun _ => False) _).drew.trans hf2) (fun _ _ => id))).mono ?_; rintro e w3 ⟨rfl, hd3⟩))
        all_goals go_wp2_with fail
        all_goals trace_state
        all_goals go_ret
        all_goals exact ⟨rfl, ((Hfc.out.trans ((Fr.refl (fun _ => False) _).drew.trans hf2)).trans (fr_of_drewN hd3)).toBelow (Nat.le_refl _) (fun _ _ => id)⟩
      · have hb : (E == 0) = false := beq_eq_false_iff_ne.2 hE
        have hb2 : (E != 0) = true := bne_iff_ne.2 hE
        go_wp2_with fail
        go_quiet ((go_at_call 22; exact quiet_left (num_any _ _)))
        go_wp2_with fail
        go_ret
        exact ⟨rfl, (Hfc.out.drewN _).toBelow (Nat.le_refl _) (fun _ _ => id)⟩
end Go.Proofs.Ytbglloafbmamoaa
