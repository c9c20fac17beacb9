/-
  bazaarref08.Disk: Crash.
-/
import Derived.Test.YthcklgelbckffaaDr4
namespace Go.Proofs.Ythcklgelbckffaa
open Go.RowKit
set_option linter.unusedVariables false
set_option linter.unusedSimpArgs false
theorem rcrash_nil (w : World) (A : Option Addr) (n c : Nat) (tn cut : Int) : Calls Try.prog 48 #[.pointer none, .slice A n c, .int .i64 tn, .int .i64 cut] w fun e w' => e = .returned (.tuple #[]) ∧ w = w' := by
  go_enter Try.func48, Try.ntmps48
  go_wp2_with fail
  ((try simp only [Exit.inBlock, Exit.then]); first | refine bodyPost_end (results_none rfl _ _ _) rfl ?_ | refine bodyPost_ret (results_none rfl _ _ _) rfl ?_)
  exact ⟨rfl, rfl⟩
theorem clampN_of (cut : Int) : ((clampN cut : Nat) : Int) = if 64 < (if cut < 0 then 0 else cut) then 64 else (if cut < 0 then 0 else cut) := by
  unfold clampN highI lowI
  repeat' split
  all_goals omega
set_option maxHeartbeats 4000000 in
set_option maxRecDepth 8000 in
theorem rcrash_any {w : World} {q n : Nat} {G : Nat → Prop} {s : DS} (h : RI w q n G s) (KA : Option Addr) (kn kc : Nat) (keep : List Bool) (hkn : kn = keep.length) (hK : Sl w 1 KA kn (keep.map .bool)) (tn cut : Int) (hap : 0 < kn → ∀ b, (∃ o, KA = some ⟨b, o, none⟩) → ¬ G b) :
    Calls Try.prog 48 #[.pointer (some ⟨q, 0, none⟩), .slice KA kn kc, .int .i64 tn, .int .i64 cut] w fun e w' => e = .returned (.tuple #[]) ∧ ROut w q n G (s.crash keep tn cut) w' := by
  obtain ⟨SA, sc, gs, RA, rc, gr, vs, h, rfl⟩ := h
  have H := hide h
  have hrl := h.ok.c1
  have hrl2 := h.ok.c2
  obtain ⟨m, hm⟩ : ∃ m, s.row.length = m := ⟨_, rfl⟩
  have hmm : m ≤ 9000000000000000000 := by omega
  have Hm := hide hm
  have HK := hide hK
  have Hkn := hide hkn
  have Hap := hide hap
  have hcl := clampN_of cut
  obtain ⟨c0, hc0⟩ : ∃ c0 : Int, (if cut < 0 then 0 else cut) = c0 := ⟨_, rfl⟩
  rw [hc0] at hcl
  obtain ⟨cn, hcn⟩ : ∃ cn, clampN cut = cn := ⟨_, rfl⟩
  have hc64 : cn ≤ 64 := by rw [← hcn]; exact (clamp_eq cut).2
  rw [hcn] at hcl
  have Hcn := hide hcn
  clear h hrl hrl2 hm hK hkn hap hcn
  go_enter Try.func48, Try.ntmps48
  go_upto_if 12 with fail
  go_cut [3] (fun v wx => v = .int .i64 c0 ∧ wx = w)
  case first =>
    by_cases h0 : cut < 0
    · rw [if_pos h0] at hc0
      go_wp2_with fail
      go_meet
      case rel => exact ⟨by first | rfl | rw [hc0], rfl⟩
    · rw [if_neg h0] at hc0
      go_wp2_with fail
      go_meet
      case rel => exact ⟨by first | rfl | rw [hc0], rfl⟩
  case rest =>
    obtain ⟨rfl, hwc⟩ := hcut
    obtain rfl := hwc.symm
    clear hc0
    go_upto_if 14 with fail
    go_cut [3] (fun v wx => v = .int .i64 (cn : Int) ∧ wx = w)
    case first =>
      by_cases h0 : 64 < c0
      · rw [if_pos h0] at hcl
        have Hcl := hide hcl
        clear hcl
        go_wp2_with fail
        go_meet
        case rel => exact ⟨by first | rfl | rw [Hcl.out], rfl⟩
      · rw [if_neg h0] at hcl
        have Hcl := hide hcl
        clear hcl
        go_wp2_with fail
        go_meet
        case rel => exact ⟨by first | rfl | rw [Hcl.out], rfl⟩
    case rest =>
      obtain ⟨rfl, hwc⟩ := hcut
      obtain rfl := hwc.symm
      clear hcl
      go_wp2_with fail
      go_loopw [8] (fun v wr => ∃ j : Nat, j ≤ m ∧ v = .int .i64 j ∧ Hid (RAt wr q n SA sc gs RA rc gr vs { s with sf := crashTo keep tn cut s.sf s.row j }) ∧ Hid (Fr (fun k => gs = some k) w wr)) (fun v _ => m - (intOf v).toNat)
      case atStart => exact ⟨0, Nat.zero_le _, rfl, H.out, Fr.refl _ _⟩
      case round =>
        obtain ⟨w2, rfl⟩ : ∃ w2, w2 = wr := ⟨_, rfl⟩
        obtain ⟨j, hj, rfl, HR, Hfr⟩ := hrel
        have c1 : w2.cell? ⟨q, 1, none⟩ = some (.slice RA s.row.length rc) := HR.out.bl.cell' rfl
        rw [Hm.out] at c1
        by_cases hlt : j < m
        · obtain ⟨r, hr⟩ : ∃ r, s.row[j]? = some r := ⟨_, List.getElem?_eq_getElem (by rw [Hm.out]; exact hlt)⟩
          obtain ⟨v, b, o, hv, rfl, rfl, d0, d1, hS, hgv⟩ := HR.out.at_ (i := j) (r := r) hr
          obtain ⟨vb, vo, vc⟩ := v
          obtain ⟨k, d⟩ := r
          obtain ⟨hk, hd⟩ := HR.out.ok.row (k, d) (List.mem_of_getElem? hr)
          simp only at d0 d1 hk hd hgv
          have i0 : (0 : Int) ≤ (j : Int) := by omega
          have i1 : (j : Int) < (m : Int) := by omega
          have hstep : crashTo keep tn cut s.sf s.row (j + 1) = crash1 keep tn cut (crashTo keep tn cut s.sf s.row j) j (k, d) := by
            show crash1 keep tn cut _ j (s.row.getD j (0, [])) = _
            rw [List.getD_eq_getElem?_getD, hr]; rfl
          have hl : (crashTo keep tn cut s.sf s.row j).length = n * 64 := HR.out.ok.len
          have hcar := fun c hc => carry_any HR.out k hk d hd vb vo vc hS hgv c hc
          have Hcar := hide hcar
          by_cases htn : (j : Int) = tn
          · have hb : ((j : Int) == tn) = true := by simpa using htn
            have hnext : torn (crashTo keep tn cut s.sf s.row j) k d cn = crashTo keep tn cut s.sf s.row (j + 1) := by
              rw [hstep]; unfold crash1; rw [if_pos htn, Hcn.out]
            have Hnext := hide hnext
            clear hstep hl hcar hS hgv hr hv hk hd htn hnext
            go_wp2_with fail
            refine (Hcar.out cn hc64).mono ?_
            rintro e w3 ⟨rfl, hR3, hf3⟩
            have hR4 : RAt w3 q n SA sc gs (some ⟨b, o, none⟩) rc (some b) vs { s with sf := crashTo keep tn cut s.sf s.row (j + 1) } := by
              rw [← Hnext.out]; exact hR3
            have HR4 := hide hR4
            have Hf4 := hide (Hfr.out.trans hf3)
            clear hR3 hR4 hf3 HR Hfr Hcar
            go_wp2_with fail
            exact ⟨⟨j + 1, by omega, by go_num, HR4.out, Hf4.out⟩, by simp [intOf]; omega⟩
          · have hb : ((j : Int) == tn) = false := by simpa using htn
            by_cases hkj : j < kn ∧ keep.getD j false = true
            · obtain ⟨hj1, hj2⟩ := hkj
              have hkl : j < keep.length := by rw [← Hkn.out]; exact hj1
              have hbn : (keep.map Value.bool)[j]? = some (.bool true) := by
                have hj3 := hj2
                rw [List.getD_eq_getElem?_getD, List.getElem?_eq_getElem hkl] at hj3
                rw [List.getElem?_map, List.getElem?_eq_getElem hkl]
                simpa using hj3
              obtain ⟨kb, ko, rfl, hkc⟩ := HK.out.at_ hbn
              have hkb : ¬ gs = some kb := fun e => Hap.out (by omega) kb ⟨ko, rfl⟩ (.inr (.inl e))
              have hkc2 := (Hfr.out.cell (World.block_lt_of_cell? w _ hkc) hkb).trans hkc
              have i5 : (j : Int) < (kn : Int) := by omega
              have hnext : torn (crashTo keep tn cut s.sf s.row j) k d 64 = crashTo keep tn cut s.sf s.row (j + 1) := by
                rw [hstep]; unfold crash1; rw [if_neg htn, if_pos hj2]; exact torn_full hl hk hd
              have Hnext := hide hnext
              clear hstep hl hcar hS hgv hr hv hk hd htn hnext hkc hkb hj2 hbn
              go_wp2_with fail
              refine (Hcar.out 64 (by omega)).mono ?_
              rintro e w3 ⟨rfl, hR3, hf3⟩
              have hR4 : RAt w3 q n SA sc gs (some ⟨b, o, none⟩) rc (some b) vs { s with sf := crashTo keep tn cut s.sf s.row (j + 1) } := by
                rw [← Hnext.out]; exact hR3
              have HR4 := hide hR4
              have Hf4 := hide (Hfr.out.trans hf3)
              clear hR3 hR4 hf3 HR Hfr Hcar hkc2
              go_wp2_with fail
              exact ⟨⟨j + 1, by omega, by go_num, HR4.out, Hf4.out⟩, by simp [intOf]; omega⟩
            · have hnext : crashTo keep tn cut s.sf s.row (j + 1) = crashTo keep tn cut s.sf s.row j := by
                rw [hstep]; unfold crash1
                rw [if_neg htn, if_neg]
                intro e
                refine hkj ⟨?_, e⟩
                rw [Hkn.out]
                apply Nat.lt_of_not_le
                intro hle
                rw [List.getD_eq_getElem?_getD, List.getElem?_eq_none hle] at e
                cases e
              have Hfin := HR.out
              rw [← hnext] at Hfin
              have HR4 := hide Hfin
              by_cases hj1 : j < kn
              · have hkl : j < keep.length := by rw [← Hkn.out]; exact hj1
                have hbn : (keep.map Value.bool)[j]? = some (.bool false) := by
                  have hj2 : ¬ keep.getD j false = true := fun e => hkj ⟨hj1, e⟩
                  rw [List.getElem?_map, List.getElem?_eq_getElem hkl]
                  rw [List.getD_eq_getElem?_getD, List.getElem?_eq_getElem hkl] at hj2
                  simpa using hj2
                obtain ⟨kb, ko, rfl, hkc⟩ := HK.out.at_ hbn
                have hkb : ¬ gs = some kb := fun e => Hap.out (by omega) kb ⟨ko, rfl⟩ (.inr (.inl e))
                have hkc2 := (Hfr.out.cell (World.block_lt_of_cell? w _ hkc) hkb).trans hkc
                have i5 : (j : Int) < (kn : Int) := by omega
                clear hstep hl hcar hS hgv hr hv hk hd htn hnext hkc hkb hbn hkj Hfin Hcar d0 d1
                go_wp2_with fail
                exact ⟨⟨j + 1, by omega, by go_num, HR4.out, Hfr.out⟩, by simp [intOf]; omega⟩
              · have i5 : ¬ (j : Int) < (kn : Int) := by omega
                clear hstep hl hcar hS hgv hr hv hk hd htn hnext hkj Hfin Hcar d0 d1
                go_wp2_with fail
                exact ⟨⟨j + 1, by omega, by go_num, HR4.out, Hfr.out⟩, by simp [intOf]; omega⟩
        · obtain rfl : m = j := by omega
          have c2 : w2.cell? ⟨q, 2, none⟩ = some (.int .i64 s.fuse) := HR.out.bl.cell' rfl
          have z1 := HR.out.bl.free 1
          have z2 := HR.out.bl.free 2
          clear hlt hj
          go_wp2_with fail
          ((try simp only [Exit.inBlock, Exit.then]); first | refine bodyPost_end (results_none rfl _ _ _) rfl ?_ | refine bodyPost_ret (results_none rfl _ _ _) rfl ?_)
          have hlast := HR.out
          rw [← Hm.out] at hlast
          have hF : Fr (fun x => x = q) w2 ((w2.setCell ⟨q, 1, none⟩ (.slice none 0 0)).setCell ⟨q, 2, none⟩ (.int .i64 (-1))) := ((Fr.refl _ _).setAt _).setAt _
          have hB : Bl ((w2.setCell ⟨q, 1, none⟩ (.slice none 0 0)).setCell ⟨q, 2, none⟩ (.int .i64 (-1))) q tRef #[.slice SA (n * 64) sc, .slice none 0 0, .int .i64 (-1), .int .i64 (s.wr : Int), .int .i64 (s.sy : Int)] := by
            have := (HR.out.bl.set 1 (.slice none 0 0)).set 2 (.int .i64 (-1))
            simpa using this
          have hR := hlast.rest (-1) s.sy (by omega) (by omega) H.out.ok.c3 hB hF
          refine ⟨rfl, _, ⟨SA, sc, gs, none, 0, none, [], hR, rfl⟩, (Hfr.out.mono fun x _ e => .inr (.inl e)).trans (hF.mono fun x _ e => .inl e), ?_⟩
          rintro x hx (e | e | e | ⟨v, hv, -⟩)
          · exact .inl e
          · exact .inr (.inl e)
          · cases e
          · cases hv
end Go.Proofs.Ythcklgelbckffaa
