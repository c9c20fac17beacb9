/-
  TlvTwo: the walk.
-/
import Derived.Test.YtbglloafbmamoaaTlvT2
import Derived.Test.YtbglloafbmamoaaTlvPuts2
namespace Go.Proofs.Ytbglloafbmamoaa
open Go.RowKit
set_option linter.unusedVariables false
attribute [local go_sem ↓] Go.wp_at_zero Go.wp_at_succ

set_option maxHeartbeats 8000000 in
set_option maxRecDepth 100000 in
theorem two_walk (w : World) (fs : List (Int × List Nat)) (A : Option Addr) (n c : Nat) (hn : n ≤ 1048576) (hA : FAt w 2 A n fs) (hM : (putAll fs).length ≤ 100000000000) (hM2 : ∀ (i : Nat) (hi : i < fs.length), fs[i].2.length ≤ 1048576)
    (xss : List (List Nat)) (B : Option Addr) (m d : Nat) (hm : m ≤ 1048576) (hB : LAt w w.heap.size B m xss) (hX : (listAll xss).length ≤ 100000000) (hX2 : ∀ x ∈ xss, x.length ≤ 1048576) (h256 : ∀ x ∈ xss, ∀ y ∈ x, y < 256) (hf256 : ∀ f ∈ fs, ∀ y ∈ f.2, y < 256) (N : Nat) (hN : N < U64) :
    Calls Try.prog 11 #[.slice A n c, .slice B m d, .int .u64 (N : Int)] w fun e w' => e = .returned (.bool true) ∧ Below w.heap.size w w' := by
  obtain ⟨j0, hj, hj0, hj1, hj2⟩ := info_parts info40
  obtain ⟨R, hR, hrow⟩ := hA.rows
  have Hl := hide hA.1
  have HR := hide hR
  have HM := hide hM
  have HM2 := hide hM2
  have HB := hide hB
  have HX := hide hX
  have HX2 := hide hX2
  have H256 := hide h256
  have Hf256 := hide hf256
  have Hrow := hide hrow
  clear hA hM hM2 hB hX hX2 h256 hf256 hR hrow
  go_enter Try.func11, Try.ntmps11
  go_wp2_with fail
  refine (awake_any w).mono ?_
  rintro e w1 ⟨rfl, hf1⟩
  go_wp2_with fail
  go_loopw [7, 8, 9, 10, 11] (fun u7 u8 u9 u10 u11 wr => Laid fs R n w1 u7 u8 u9 u10 u11 wr) (fun _ _ _ _ i _ => n - (intOf i).toNat)
  case atStart => exact ⟨0, none, 0, none, true, 0, 0, rfl, rfl, rfl, rfl, rfl, Nat.zero_le _, ⟨fun _ => rfl, fun _ => rfl⟩, rfl, rfl, Ow.nil_ _ _ _, hide (fun b h => by cases h), Fr.refl _ _⟩
  case round =>
    obtain ⟨k, I, ci, gI, rb, la, sz, rfl, rfl, rfl, rfl, rfl, hk, hrb, hla, hsz, hI, hgI, hfr⟩ := hrel
    by_cases hlt : k < n
    · obtain ⟨r, hr⟩ : ∃ r, R[k]? = some r := ⟨_, List.getElem?_eq_getElem (by have := congrArg List.length HR.out; rw [List.length_map] at this; rw [this, ← Hl.out]; exact hlt)⟩
      have hfk : fs[k]? = some (r.t, r.v) := by rw [← HR.out, List.getElem?_map, hr]; rfl
      obtain ⟨b, o, hLb, hcc⟩ := Hrow.out (by omega)
      obtain ⟨c0w, c1w, hVw⟩ := hcc k r hr
      subst hLb
      have hfw := hf1.trans hfr
      have hbw : b < w.heap.size := World.block_lt_of_cell? w _ c0w
      obtain ⟨t, v, V, m', d'⟩ := r
      simp only at hfk c0w c1w hVw
      have c0 : wr.cell? ⟨b, o + k * 2, none⟩ = some (.int .i64 t) := (hfw.cell (World.block_lt_of_cell? w _ c0w) id).trans c0w
      have c1 : wr.cell? ⟨b, o + k * 2 + 1, none⟩ = some (.slice V m' d') := (hfw.cell (World.block_lt_of_cell? w _ c1w) id).trans c1w
      have hmv : m' = v.length := by have := hVw.1; simp at this; exact this.symm
      have hkl : k < fs.length := by rw [← Hl.out]; exact hlt
      have hvl : v.length ≤ 1048576 := by
        have := HM2.out k hkl
        rw [show fs[k] = (t, v) from Option.some.inj ((List.getElem?_eq_getElem hkl).symm.trans hfk)] at this
        exact this
      have hm' : m' ≤ 1048576 := by omega
      have Hmv := hide hmv
      have Hfk := hide hfk
      have Hr := hide hr
      have hib : ¬ some b = gI := fun e => by have := hgI.out b e.symm; have := hf1.size; omega
      have i1 : (0 : Int) ≤ (k : Int) := by omega
      have i2 : (k : Int) < (n : Int) := by omega
      clear hcc c0w c1w hVw hmv hfk hr hvl
      go_wp2_with fail
      go_region_held3 (fun w' => w'.cell? ⟨b, o + k * 2, none⟩ = some (.int .i64 t) ∧ w'.cell? ⟨b, o + k * 2 + 1, none⟩ = some (.slice V m' d')) (go_keep)
        ((refine step_append_ow _ (by rfl) _ _ 36 (by rfl) 40 j0 _ 2 32 Try.underlying36 hj hj0 hj1 hj2 rfl (by decide) _ _ _ _ _ (by rfl) (hI.out.fr (S := fun _ => False) (Fr.alloc (by exact (Fr.refl (fun _ => False) wr).drew) _) (fun _ _ => id)) _ _ _ [.int .i64 t, .slice V m' d'] (by rfl) (Sl.row _ _ _ 2 1 rfl) (by intro u hu; simp at hu; rcases hu with rfl | rfl <;> rfl) (by unfold maxLen; omega) (by omega) ?_; intro I3 ci3 w3 g3 hI3 hf3 hg3; have hf13 := Fr.comp (Fr.alloc (Fr.drew (Fr.refl (fun k => some k = gI) wr)) _) hf3 (fun _ _ e => e); have kd0 := (hf13.cell (World.block_lt_of_cell? wr _ c0) hib).trans c0; have kd1 := (hf13.cell (World.block_lt_of_cell? wr _ c1) hib).trans c1))
      have hF3 : Fr (fun _ => False) w1 w3 := hfr.comp hf13 (fun i hi e => by have := hgI.out i e.symm; omega)
      have HI3 : Hid (Ow w3 40 2 I3 (k + 1) ci3 ((R.take (k + 1)).flatMap FR.cells) g3) := by
        show Ow _ _ _ _ _ _ _ _
        rw [take_snoc Hr.out, List.flatMap_append]
        exact hI3
      have hgI3 : Hid (∀ b, g3 = some b → w1.heap.size ≤ b) := by
        show ∀ b, _
        intro x hx
        have := hfr.size
        rcases hg3 with h | ⟨b', h, h2⟩
        · exact hgI.out x (h ▸ hx)
        · rw [hx] at h; cases h; have h3 : wr.heap.size + 1 ≤ x := by simpa using h2
          omega
      have hsn : putScan 0 (fs.take (k + 1)) = 0 ↔ putScan 0 (fs.take k) = 0 ∧ ¬ (t ≤ lastT 0 (fs.take k) ∨ 255 < t) ∧ v.length ≠ 0 := by
        rw [take_snoc Hfk.out]; exact putScan_snoc _ _ _ _
      rw [← hla.out, ← Hmv.out] at hsn
      have Hsn := hide hsn
      have hla3 : Hid (t = lastT 0 (fs.take (k + 1))) := by show _ = _; rw [take_snoc Hfk.out, lastT_snoc]
      clear hI3 hf3 hg3 hf13 hsn hib
      go_upto_region 11 with fail
      go_cut [8] (fun s8 wx => ∃ rb' : Bool, s8 = .bool rb' ∧ Hid (rb' = true ↔ putScan 0 (fs.take (k + 1)) = 0) ∧ wx = w3)
      case first =>
        cases rb with
        | false =>
          go_wp2_with fail
          go_meet
          case rel => exact ⟨false, rfl, ⟨fun h => absurd h (by decide), fun h => hrb.out.2 (Hsn.out.1 h).1⟩, rfl⟩
        | true =>
          by_cases h1 : la < t
          · by_cases h2 : t < 256
            · by_cases h3 : 0 < m'
              · have h3' : (0 : Int) < (m' : Int) := by omega
                go_wp2_with fail
                go_meet
                case rel => exact ⟨true, rfl, ⟨fun _ => Hsn.out.2 ⟨hrb.out.1 (by first | trivial | rfl), by omega, by omega⟩, fun _ => rfl⟩, rfl⟩
              · have h3' : ¬ (0 : Int) < (m' : Int) := by omega
                go_wp2_with fail
                go_meet
                case rel => exact ⟨false, rfl, ⟨fun h => absurd h (by decide), fun h => absurd (Hsn.out.1 h).2.2 (by omega)⟩, rfl⟩
            · go_wp2_with fail
              go_meet
              case rel => exact ⟨false, rfl, ⟨fun h => absurd h (by decide), fun h => absurd (Hsn.out.1 h).2.1 (by omega)⟩, rfl⟩
          · go_wp2_with fail
            go_meet
            case rel => exact ⟨false, rfl, ⟨fun h => absurd h (by decide), fun h => absurd (Hsn.out.1 h).2.1 (by omega)⟩, rfl⟩
      case rest =>
        obtain ⟨rb', rfl, hrb', rfl⟩ := hcut
        obtain ⟨s, hs⟩ : ∃ s, (short m').length = s := ⟨_, rfl⟩
        have hmU : m' < U64 := by unfold U64; omega
        have hsl := (short_le hmU).2
        rw [hs] at hsl
        have hszb : sz ≤ 100000000000 := by
          rw [hsz.out]; exact Nat.le_trans (putAll_mono k) HM.out
        have Hs := hide hs
        obtain ⟨Q, hQ⟩ : ∃ Q : Nat, (sz : Int) + 1 + (s : Int) + (m' : Int) = (Q : Int) := ⟨sz + 1 + s + m', by omega⟩
        have HQ : Hid (Q = (putAll (fs.take (k + 1))).length) := by
          show _ = _
          rw [putAll_take hkl, List.length_append, formF_len, show fs[k] = (t, v) from Option.some.inj ((List.getElem?_eq_getElem hkl).symm.trans Hfk.out)]
          simp only
          rw [← Hmv.out, hs, ← hsz.out]; omega
        have HQ2 := hide hQ
        clear hs hQ
        have v0 : IntKind.u64.wrap (m' : Int) = (m' : Int) := IntWalk.u64_in _ (by omega)
        have v1 : IntKind.i64.wrap ((sz : Int) + 1) = (sz : Int) + 1 := IntWalk.i64_in _ (by omega)
        have v2 : IntKind.i64.wrap ((sz : Int) + 1 + (s : Int)) = (sz : Int) + 1 + (s : Int) := IntWalk.i64_in _ (by omega)
        have v3 : IntKind.i64.wrap ((sz : Int) + 1 + (s : Int) + (m' : Int)) = (sz : Int) + 1 + (s : Int) + (m' : Int) := IntWalk.i64_in _ (by omega)
        go_wp2_with fail
        go_region_held3 (fun w' => w'.cell? ⟨b, o + k * 2 + 1, none⟩ = some (.slice V m' d')) (go_keep)
          ((go_at_call 15; refine (short_s _ m' s Hs.out hmU).mono ?_; rintro e w5 ⟨P, cp, rfl, hf5⟩; have kc := (hf5.cell (World.block_lt_of_cell? wc _ kd1) id).trans kd1))
        rw [HQ2.out]
        have hF5 := hF3.trans ((Fr.refl (fun _ => False) _).drew.trans hf5)
        have HI5 := hide (HI3.out.fr ((Fr.refl (fun _ => False) _).drew.trans hf5) (fun _ _ => id))
        clear v0 v1 v2 v3 kc kd0 kd1 c0 c1 hf5
        go_wp2_with fail
        exact ⟨⟨k + 1, I3, ci3, g3, rb', t, Q, by go_num, rfl, rfl, rfl, rfl, hlt, hrb', hla3, HQ, HI5, hgI3, hF5⟩, by simp [intOf]; omega⟩
    · obtain rfl : k = n := by omega
      have hRl : R.length = k := by have := congrArg List.length HR.out; rw [List.length_map] at this; rw [this, Hl.out]
      have HI : Hid (Ow wr 40 2 I k ci (R.flatMap FR.cells) gI) := by
        have := hI.out
        rwa [List.take_of_length_le (by omega)] at this
      have hft : fs.take k = fs := List.take_of_length_le (by rw [← Hl.out]; exact Nat.le_refl _)
      rw [hft] at hrb hsz
      have hfw := hf1.trans hfr
      have hval : Hid (∀ r ∈ R, Sl w 1 r.V r.m (r.v.map bn)) := by
        intro r hr
        obtain ⟨i, hi, rfl⟩ := List.mem_iff_getElem.1 hr
        obtain ⟨b, o, -, hcc⟩ := Hrow.out (by omega)
        exact (hcc i _ (List.getElem?_eq_getElem hi)).2.2
      have HFat : Hid (FAt wr 2 I k fs) := by
        show FAt _ _ _ _ _
        rw [← HR.out]
        exact FAt.ofRows HI.out fun r hr => (hval.out r hr).below hfw (fun _ _ => id)
      have Hfw := hide hfw
      clear hI hla hft hfr hf1 hfw hRl hlt
      go_wp2_with fail
      refine (put_any _ fs I k ci (by omega) HFat.out (fun i hi => by have := HM2.out i hi; omega)).mono ?_
      rintro e wc ⟨P, np, cp, gp, rfl, hP, hgp, hf3⟩
      obtain ⟨pe, hpe⟩ : ∃ pe, putErr fs = pe := ⟨_, rfl⟩
      rw [hpe]
      have HP := hide hP
      have Hf3 := hide (Hfw.out.trans hf3)
      have HI3 := hide (HI.out.fr hf3 (fun _ _ => id))
      have Hpe := hide hpe
      clear hP hgp hf3 hpe
      go_upto_region 15 with fail
      go_cut [111] (fun s111 wx => s111 = .bool false ∧ wx = wc)
      case first =>
        have hpd : pe = if putScan 0 fs ≠ 0 then putScan 0 fs else if 1048576 < sz then 3 else 0 := by rw [← Hpe.out, putErr, ← hsz.out]
        cases rb with
        | true =>
          have h1 : putScan 0 fs = 0 := hrb.out.1 (by first | trivial | rfl)
          rw [if_neg (by rw [h1]; decide)] at hpd
          by_cases h2 : 1048576 < sz
          · rw [if_pos h2] at hpd
            subst hpd
            have h3 : ¬ (sz : Int) ≤ 1048576 := by omega
            go_wp2_with fail
            refine (num_any _ _).mono ?_
            rintro e w' ⟨rfl, rfl⟩
            go_wp2_with fail
            go_meet
            case rel => exact ⟨by rw [decide_eq_false (show ¬ (sz : Int) ≤ 1048576 by omega)], rfl⟩
          · rw [if_neg h2] at hpd
            subst hpd
            have h3 : (sz : Int) ≤ 1048576 := by omega
            go_wp2_with fail
            refine (num_any _ _).mono ?_
            rintro e w' ⟨rfl, rfl⟩
            go_wp2_with fail
            go_meet
            case rel => exact ⟨rfl, rfl⟩
        | false =>
          have h1 : putScan 0 fs ≠ 0 := fun h => by have := hrb.out.2 h; simp at this
          rw [if_pos h1] at hpd
          have h2 : ((pe : Int) == 0) = false := beq_eq_false_iff_ne.2 (by omega)
          have h3 : (pe == 0) = false := beq_eq_false_iff_ne.2 (by omega)
          clear hpd
          go_wp2_with fail
          refine (num_any _ _).mono ?_
          rintro e w' ⟨rfl, rfl⟩
          go_wp2_with fail
          go_meet
          case rel => exact ⟨rfl, rfl⟩
      case rest =>
        obtain ⟨rfl, rfl⟩ := hcut
        go_upto_if 114 with (go_at_call 22; refine (num_any _ _).mono ?_; rintro e w' ⟨rfl, rfl⟩)
        go_cut [1] (fun s1 wx => s1 = .slice B m d ∧ Fr (fun _ => False) w wx)
        case first =>
          by_cases h0 : pe = 0
          · subst h0
            have hps : putScan 0 fs = 0 := by
              have h1 := Hpe.out
              unfold putErr at h1
              split at h1
              · rename_i h2; exact absurd h1 h2
              · rename_i h2; exact Decidable.not_not.1 h2
            have hPb : Hid (Ow wc 5 1 P np cp ((putAll fs).map bn) gp) := by
              have := HP.out
              rwa [putBytes, if_pos Hpe.out] at this
            have hnp : np = sz := by rw [hsz.out]; exact hPb.out.len
            subst hnp
            have hb256 : Hid (∀ x ∈ putAll fs, x < 256) := putAll_bytes fs 0 (by omega) hps Hf256.out
            have hU : ∀ f ∈ fs, f.2.length < U64 := by
              intro f hf
              obtain ⟨i, hi, rfl⟩ := List.mem_iff_getElem.1 hf
              have := HM2.out i hi; unfold U64; omega
            have hof := getAll_of Hpe.out hU
            have Hof := hide hof
            have hnb : np ≤ 100000000000 := by rw [hsz.out]; exact HM.out
            have hcap := hPb.out.cap
            unfold maxLen at hcap
            clear hps hU hof
            go_wp2_with fail
            refine (tget_any _ (putAll fs) P np cp (by omega) hcap.1 hcap.2 hsz.out hb256.out hPb.out.sl).mono ?_
            rintro e w5 ⟨rs2, L2, k2, cl2, gl2, rfl, hk2, hrs2, hO2, hgl2, hF2, hf5⟩
            have e1 : (getAll (putAll fs)).2.1 = 0 := by rw [Hof.out.1]
            have e2 : (getAll (putAll fs)).2.2 = 0 := by rw [Hof.out.1]
            rw [e1, e2]
            have hmap : rs2.map (fun r : FO => ((r.F.tag : Int), r.F.val (putAll fs))) = fs := by
              have h1 := Hof.out.2
              rw [← hrs2, List.map_map] at h1
              exact h1
            obtain rfl : k2 = k := by
              have h1 := congrArg List.length hmap
              rw [List.length_map, ← hk2, ← Hl.out] at h1
              exact h1
            have Hf5 := hide (Hf3.out.trans hf5)
            have HI5 := hide (HI3.out.fr hf5 (fun _ _ => id))
            have Hmap := hide hmap
            have HO2 := hide hO2
            have HF2 := hide hF2
            have Hk2 := hide hk2
            clear e1 e2 hmap hrs2 hO2 hgl2 hF2 hf5 hk2
            go_wp2_with fail
            refine (num_any _ _).mono ?_
            rintro e w' ⟨rfl, rfl⟩
            go_wp2_with fail
            go_loopw [17] (fun i wr => ∃ j : Nat, i = .int .i64 (j : Int) ∧ j ≤ k2 ∧ Fr (fun _ => False) w5 wr) (fun i _ => k2 - (intOf i).toNat)
            case atStart => exact ⟨0, rfl, Nat.zero_le _, Fr.refl _ _⟩
            case round =>
              obtain ⟨j, rfl, hjk, hfr⟩ := hrel
              by_cases hlt : j < k2
              · obtain ⟨r, hr⟩ : ∃ r, rs2[j]? = some r := ⟨_, List.getElem?_eq_getElem (by rw [← Hk2.out]; exact hlt)⟩
                obtain ⟨q, hq⟩ : ∃ q, R[j]? = some q := ⟨_, List.getElem?_eq_getElem (by have := congrArg List.length HR.out; rw [List.length_map] at this; rw [this, ← Hl.out]; exact hlt)⟩
                have e1 : fs[j]? = some ((r.F.tag : Int), r.F.val (putAll fs)) := by
                  have h1 := congrArg (fun z => z[j]?) Hmap.out
                  simp only [List.getElem?_map, hr, Option.map_some] at h1
                  exact h1.symm
                have e2 : fs[j]? = some (q.t, q.v) := by
                  have h1 := congrArg (fun z => z[j]?) HR.out
                  simp only [List.getElem?_map, hq, Option.map_some] at h1
                  exact h1.symm
                rw [e1] at e2
                simp only [Option.some.injEq, Prod.mk.injEq] at e2
                have hjr : j < rs2.length := by rw [← Hk2.out]; exact hlt
                have hjq : j < R.length := (List.getElem?_eq_some_iff.1 hq).1
                obtain ⟨b2, o2, rfl, -, hc2⟩ := HO2.out.rowAt FO.tCells_len hjr (by omega)
                obtain ⟨b1, o1, rfl, -, hc1⟩ := HI5.out.rowAt FR.cells_len hjq (by omega)
                rw [show rs2[j] = r from Option.some.inj ((List.getElem?_eq_getElem hjr).symm.trans hr)] at hc2
                rw [show R[j] = q from Option.some.inj ((List.getElem?_eq_getElem hjq).symm.trans hq)] at hc1
                have ho := (HF2.out.own r (List.mem_of_getElem? hr)).fr hfr (fun _ _ => id)
                have hv := (hval.out q (List.mem_of_getElem? hq)).below (Hf5.out.trans hfr) (fun _ _ => id)
                obtain ⟨rF, rA, rn, rc, rg⟩ := r
                obtain ⟨qt, qv, qV, qm, qd⟩ := q
                simp only at e2 ho hv
                obtain ⟨e3, e4⟩ := e2
                subst e3
                subst e4
                have n1 : rn = (rF.val (putAll fs)).length := by have := ho.1; simp at this; exact this.symm
                have n2 : qm = rn := by have := hv.1; simp at this; rw [n1]; exact this.symm
                subst n2
                have N1 := hide n1
                have k0 := (hfr.cell (World.block_lt_of_cell? w5 _ (hc2 0 _ rfl).1) id).trans (hc2 0 _ rfl).1
                have k1 := (hfr.cell (World.block_lt_of_cell? w5 _ (hc2 1 _ rfl).1) id).trans (hc2 1 _ rfl).1
                have l0 := (hfr.cell (World.block_lt_of_cell? w5 _ (hc1 0 _ rfl).1) id).trans (hc1 0 _ rfl).1
                have l1 := (hfr.cell (World.block_lt_of_cell? w5 _ (hc1 1 _ rfl).1) id).trans (hc1 1 _ rfl).1
                rw [Nat.add_zero] at k0 l0
                have hqm : qm ≤ 1048576 := by
                  have hjf : j < fs.length := by rw [← Hl.out]; exact hlt
                  have h1 := HM2.out j hjf
                  rw [show fs[j] = _ from Option.some.inj ((List.getElem?_eq_getElem hjf).symm.trans e1)] at h1
                  rw [n1]; exact h1
                have i1 : (0 : Int) ≤ (j : Int) := by omega
                have i2 : (j : Int) < (k2 : Int) := by omega
                clear e1 hr hq hc1 hc2 n1
                go_wp2_with fail
                go_quiet ((go_at_call 16; exact quiet_ex (same_q _ (rF.val (putAll fs)) rA qV rc qd qm N1.out (by omega) (by exact ho.sl) (by exact hv))))
                go_wp2_with fail
                exact ⟨⟨j + 1, by go_num, hlt, hfr.drewN _⟩, by simp [intOf]; omega⟩
              · go_wp2_with fail
                go_meet
                case rel => exact ⟨rfl, Hf5.out.trans hfr⟩
          · have h2 : ((pe : Int) == 0) = false := beq_eq_false_iff_ne.2 (by omega)
            have h3 : (pe == 0) = false := beq_eq_false_iff_ne.2 (by omega)
            go_wp2_with fail
            go_meet
            case rel => exact ⟨rfl, Hf3.out⟩
        case rest =>
          obtain ⟨rfl, hf⟩ := hcut
          have Hf6 := hide hf
          clear Hf3 HI3 HP hrb hsz hgI hf
          go_wp2_with fail
          refine (tlist_any _ xss B m d w.heap.size (by omega) Hf6.out.size (fun x hx => by have := HX2.out x hx; omega) (by have := HX.out; omega) (HB.out.fr Hf6.out (fun _ _ => id))).mono ?_
          rintro e w7 ⟨V, cv, gv, rfl, hV, hgv, hf7⟩
          have HV := hide hV
          have Hf7 := hide (Hf6.out.trans hf7)
          obtain ⟨nv, hnv⟩ : ∃ nv, (listAll xss).length = nv := ⟨_, rfl⟩
          rw [hnv] at hV ⊢
          have HV := hide hV
          have Hnv := hide hnv
          have hnvb : nv ≤ 100000000 := by rw [← hnv]; exact HX.out
          clear hV hgv hf7 hnv
          go_upto_if 176 with fail
          go_cut [2] (fun s2 wx => s2 = .int .u64 (N : Int) ∧ Fr (fun _ => False) w wx)
          case first =>
            by_cases hm0 : m = 0
            · subst hm0
              go_wp2_with fail
              go_meet
              case rel => exact ⟨rfl, Hf7.out⟩
            · have hne : xss ≠ [] := by
                intro h
                have := HB.out.1
                rw [h] at this
                exact hm0 this
              have hof := itemsAll_of hne (fun x hx => by have := HX2.out x hx; unfold U64; omega)
              have Hof := hide hof
              have hm1 : (0 : Int) < (m : Int) := by omega
              have hcap := HV.out.cap
              unfold maxLen at hcap
              clear hof hne
              go_wp2_with fail
              refine (tItems_any _ (listAll xss) V nv cv (by omega) hcap.1 hcap.2 Hnv.out.symm (listAll_bytes H256.out) HV.out.sl).mono ?_
              rintro e w8 ⟨is, D, kd, cd, gd, rfl, hTold⟩
              have e1 : (itemsAll (listAll xss)).2.1 = 0 := by rw [Hof.out.1]
              have e2 : (itemsAll (listAll xss)).2.2 = 0 := by rw [Hof.out.1]
              rw [e1, e2]
              have hlat := hTold.lat
              rw [Hof.out.2] at hlat
              obtain rfl : kd = m := by rw [hlat.1, HB.out.1]
              have HL := hide hlat
              have Hf8 := hide (Hf7.out.trans hTold.fr)
              clear e1 e2 hlat hTold
              go_wp2_with fail
              refine (num_any _ _).mono ?_
              rintro e w' ⟨rfl, rfl⟩
              go_wp2_with fail
              refine (alike_q _ xss D B kd cd d _ _ (fun x hx => by have := HX2.out x hx; omega) (by omega) HL.out (HB.out.fr Hf8.out (fun _ _ => id))).mono ?_
              rintro e w9 ⟨rfl, hd9⟩
              have Hf9 := hide (Hf8.out.trans (fr_of_drewN hd9))
              clear hd9
              go_wp2_with fail
              go_meet
              case rel => exact ⟨rfl, Hf9.out⟩
          case rest =>
            obtain ⟨rfl, hf⟩ := hcut
            obtain ⟨i0, hi, hz0, hz1, hz2⟩ := info_parts info5
            obtain ⟨s, hs⟩ : ∃ s, (short N).length = s := ⟨_, rfl⟩
            have hsl := (short_le hN).2
            rw [hs] at hsl
            have Hs := hide hs
            have Hfc := hide hf
            have hO7 := Ow.made wc 5 1 1 1 #[.int .u8 7] [.int .u8 7] rfl (Nat.le_refl _) (by unfold maxLen; omega) rfl
            have hwr : IntKind.i64.wrap ((1 : Int) + (s : Int)) = 1 + (s : Int) := IntWalk.i64_in _ (by omega)
            clear hs hf
            go_wp2_with fail
            refine (short_any _ N hN).mono ?_
            rintro e w8 ⟨P8, c8, g8, rfl, hP8, hg8, hf8⟩
            rw [Hs.out] at hP8 ⊢
            have hO8 := hO7.fr hf8 (fun _ _ => id)
            have hf08 : Fr (fun _ => False) wc w8 := ((Fr.refl _ _).alloc _).trans hf8
            go_wp2_with (first | (at_builtin; go_loud (refine wpList_append_ow _ rfl _ _ 23 rfl 5 i0 (.int .u8 0) 1 1 Try.underlying23 hi hz0 hz1 hz2 rfl (by decide) _ _ _ _ _ rfl hO8 _ _ _ _ rfl hP8.sl (bn_one _) (by unfold maxLen; omega) (by omega) ?_)) | go_in)
            intro A9 c9 w9 g9 hA9 hf9 hg9
            have hA9' : Ow w9 5 1 A9 (1 + s) c9 ((7 :: short N).map bn) g9 := hA9
            have hF9 : Fr (fun _ => False) w w9 := (Hfc.out.trans hf08).comp hf9 (fun i hi e => by have := Hfc.out.size; have h2 : i = wc.heap.size := (by simpa using e); omega)
            have HA9 := hide hA9'
            have HF9 := hide hF9
            have hcap := hA9.cap
            unfold maxLen at hcap
            have hv : Hid (ReadVal (7 :: short N) 1 = .tuple #[.int .u64 (N : Int), .int .i64 (1 + (s : Int)), .int .i64 0]) := by
              show _ = _
              rw [ReadVal, readShort_one hN, Hs.out]
            clear hA9 hA9' hf9 hg9 hF9 hO7 hO8 hP8 hf8 hf08 hg8
            go_wp2_with fail
            refine (tread_any _ (7 :: short N) A9 (1 + s) c9 1 (by omega) (by rw [List.length_cons, Hs.out]; omega) (fun x hx => by rcases List.mem_cons.1 hx with rfl | h; omega; exact short_bytes _ _ (Nat.le_refl _) x h) HA9.out.sl).mono ?_
            rintro e w' ⟨rfl, rfl⟩
            rw [hv.out]
            go_wp2_with fail
            refine (num_any _ _).mono ?_
            rintro e w' ⟨rfl, rfl⟩
            go_wp2_with fail
            refine (short_s _ N s Hs.out hN).mono ?_
            rintro e w10 ⟨P, cp, rfl, hf10⟩
            go_wp2_with fail
            go_ret
            exact ⟨rfl, (HF9.out.trans hf10).toBelow (Nat.le_refl _) (fun _ _ => id)⟩
end Go.Proofs.Ytbglloafbmamoaa
