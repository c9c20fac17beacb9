/-
  DiskOwn: the walk.
-/
import Derived.Test.YthcklgelbckffaaDkO
namespace Go.Proofs.Ythcklgelbckffaa
open Go.RowKit
set_option linter.unusedVariables false
set_option linter.unusedSimpArgs false
theorem Fr.ofN {w w' : World} (h : ∃ m, w' = w.drewN m) : Fr (fun _ => False) w w' := fr_of_drewN h
set_option maxHeartbeats 16000000 in
set_option maxRecDepth 100000 in
theorem own_walk (W : World) (xs : List Nat) (A : Option Addr) (ll lc : Nat) (hll : ll = xs.length) (hl63 : ll ≤ 140737488351232) (hcap : ll ≤ lc) (hc63 : lc ≤ 9223372036854775807) (hA : Sl W 1 A ll (xs.map bn)) (sector : Int) (hs1 : -9223372036854775808 ≤ sector) (hs2 : sector ≤ 9223372036854775807) (ds : List Nat) (D : Option Addr) (dl dc : Nat) (hdl : dl = ds.length) (hd63 : dl ≤ 140737488351232) (hD : Sl W 1 D dl (ds.map bn)) :
    Calls Try.prog 4 #[.slice A ll lc, .int .i64 sector, .slice D dl dc] W fun e w' => e = .returned (.bool true) ∧ Fr (fun _ => False) W w' := by
  obtain ⟨m, hm⟩ : ∃ m, Nat.min ll 4096 = m := ⟨_, rfl⟩
  have hm1 : m ≤ ll := by rw [← hm]; exact Nat.min_le_left ..
  have hm2 : m ≤ 4096 := by rw [← hm]; exact Nat.min_le_right ..
  obtain ⟨ys, hys⟩ : ∃ ys, xs.take m = ys := ⟨_, rfl⟩
  have hyl : m = ys.length := by rw [← hys, List.length_take]; omega
  have hY : Sl W 1 A m (ys.map bn) := by
    refine ⟨by simp [hyl], fun h0 => ?_⟩
    obtain ⟨b, o, e, c⟩ := hA.2 (by omega)
    refine ⟨b, o, e, fun j u hu => c j u ?_⟩
    rw [← hys, List.map_take] at hu
    have hj : j < m := by have := (List.getElem?_eq_some_iff.1 hu).1; rw [List.length_take] at this; omega
    rwa [List.getElem?_take_of_lt hj] at hu
  have Hm := hide hm
  have HA := hide hY
  have HD := hide hD
  have Hyl := hide hyl
  have Hdl := hide hdl
  clear hm hys hyl hdl hA hD hY hll
  go_enter Try.func4, Try.ntmps4
  go_wp2_with fail
  refine (awake_any W).mono ?_
  rintro e w1 ⟨rfl, hf1⟩
  have H1 := hide hf1
  clear hf1
  go_upto_if 33 with fail
  go_cut [0] (fun s0 wx => s0 = .slice A m lc ∧ wx = w1)
  case first =>
    by_cases h4 : 4096 < ll
    · obtain rfl : m = 4096 := by have := Hm.out; rw [← this]; exact Nat.min_eq_right (by omega)
      have i1 : (4096 : Int) ≤ (lc : Int) := by omega
      have i2 : (4096 : Int) < (ll : Int) := by omega
      go_wp2_with fail
      go_meet
      case rel => exact ⟨rfl, rfl⟩
    · obtain rfl : m = ll := by have := Hm.out; rw [← this]; exact Nat.min_eq_left (by omega)
      have i2 : ¬ (4096 : Int) < (m : Int) := by omega
      go_wp2_with fail
      go_meet
      case rel => exact ⟨rfl, rfl⟩
  case rest =>
    obtain ⟨rfl, hwc⟩ := hcut
    obtain rfl := hwc.symm
    have hml : m ≤ lc := by omega
    clear Hm hm1 hcap
    go_wp2_with fail
    refine (lent_any w1 ys A m lc (by omega) (HA.out.below H1.out (fun _ _ => id))).mono ?_
    rintro e w2 ⟨LA, Lc, gL, rfl, hL, hgL, hf2⟩
    have hLs := (hL.own Hyl.out).sl
    have hLc := hL.cap.1
    have HL := hide hL
    have HgL := hide hgL
    have H2 := hide (H1.out.trans hf2)
    have H12 := hide hf2
    have HLs := hide hLs
    clear hL hgL hf2 hLs
    go_wp2_with fail
    by_cases hbad : loadBad m
    · refine (load_bad w2 LA m Lc (by omega) hbad).mono ?_
      rintro e w' ⟨rfl, rfl⟩
      clear hLc
      go_wp2_with fail
      refine (num_any _ _).mono ?_
      rintro e w' ⟨rfl, rfl⟩
      go_wp2_with fail
      go_ret
      exact ⟨rfl, H2.out⟩
    obtain ⟨n, hn1, hn2, hmn⟩ : ∃ n, 1 ≤ n ∧ n ≤ 64 ∧ m = n * 64 := by
      unfold loadBad at hbad
      exact ⟨m / 64, by omega, by omega, by omega⟩
    have hm0 : 1 ≤ m := by omega
    have Hmn := hide hmn
    have hbase := (load_ok w2 LA Lc n ys (by omega) (by rw [← Hyl.out]; exact hmn) hn1 (by omega) (by rw [← hmn]; exact HLs.out))
    rw [← hmn] at hbase
    clear hLc hbad hmn
    refine hbase.mono ?_
    clear hbase
    intro e w3 hN
    obtain ⟨p, F, rfl, hDN⟩ := DN.of hN
    have hLF : ¬ F gL := fun h => by have h1 := hDN.new gL h; have h2 := Ow.lt HL.out gL rfl; omega
    have HL3 := hide ((HL.out.own Hyl.out).fr hDN.fr (fun _ _ => id))
    have HN := hide (hDN.base H2.out)
    have HLF := hide hLF
    clear hN hDN hLF HL HLs
    go_wp2_with fail
    refine (num_any _ _).mono ?_
    rintro e w' ⟨rfl, rfl⟩
    go_wp2_with fail
    refine (over_any w3 ys LA m Lc gL HL3.out (by omega)).mono ?_
    rintro e w4 ⟨rfl, hf4⟩
    have HN4 := hide (HN.out.over hf4 (Nat.le_trans H1.out.size HgL.out) HLF.out)
    clear hf4 HN HL3 HLF HgL H2 H12 H1
    have htd : ((m : Int).tdiv 64) = (n : Int) := by have := Hmn.out; rw [Int.tdiv_eq_ediv_of_nonneg (by omega)]; omega
    have hwn : IntKind.i64.wrap (n : Int) = (n : Int) := by rw [IntWalk.i64_in _ (by omega)]
    have hn0 : ¬ (n : Int) = 0 := by omega
    obtain ⟨r, hr⟩ : ∃ r, sector.tmod (n : Int) = r := ⟨_, rfl⟩
    have hr1 : r < (n : Int) := by rw [← hr]; exact Int.tmod_lt_of_pos _ (by omega)
    have hr2 : -(n : Int) < r := by rw [← hr]; exact Int.lt_tmod_of_pos _ (by omega)
    have hwr : IntKind.i64.wrap r = r := IntWalk.i64_in _ (by omega)
    obtain ⟨k, hk⟩ : ∃ k : Nat, (k : Int) = if r < 0 then r + (n : Int) else r := ⟨(if r < 0 then r + (n : Int) else r).toNat, by split <;> omega⟩
    have hkn : k < n := by split at hk <;> omega
    go_upto_if 57 with fail
    go_cut [11] (fun s11 wx => s11 = .int .i64 (k : Int) ∧ wx = w4)
    case first =>
      by_cases hr0 : r < 0
      · rw [if_pos hr0] at hk
        have hwk : IntKind.i64.wrap (r + (n : Int)) = r + (n : Int) := IntWalk.i64_in _ (by omega)
        go_wp2_with fail
        go_meet
        case rel => exact ⟨by rw [hk], rfl⟩
      · rw [if_neg hr0] at hk
        go_wp2_with fail
        go_meet
        case rel => exact ⟨by rw [hk], rfl⟩
    case rest =>
      obtain ⟨rfl, hwc⟩ := hcut
      obtain rfl := hwc.symm
      clear htd hwn hn0 hr hr1 hr2 hwr hk hs1 hs2
      have hyn : ys.length = n * 64 := by rw [← Hyl.out, Hmn.out]
      obtain ⟨er, D2, s1, s2, sf2, hfacts, her⟩ : ∃ er D2 s1 s2 sf2, OwnFacts n k ys ds s1 s2 er D2 sf2 ∧ ((er = 0 ∧ dl = 64 ∧ D2 = ds) ∨ (er = 82 ∧ dl ≠ 64 ∧ D2 = sec ys k)) := by
        by_cases hd : ds.length = 64
        · obtain ⟨s1, s2, sf2, h⟩ := own_at n k ys ds hyn hkn hd
          exact ⟨_, _, _, _, _, h, .inl ⟨rfl, by rw [Hdl.out]; exact hd, rfl⟩⟩
        · obtain ⟨s1, s2, sf2, h⟩ := own_off n k ys ds hyn hkn hd
          exact ⟨_, _, _, _, _, h, .inr ⟨rfl, by rw [Hdl.out]; exact hd, rfl⟩⟩
      have Hf := hide hfacts
      have Her := hide her
      have Hyn := hide hyn
      clear hfacts her hyn
      go_wp2_with fail
      refine (image_is HN4.out m (by show ys.length = m; exact Hyl.out.symm)).mono ?_
      rintro e w5 ⟨Aa, ga, rfl, hDN, hO, hg, hfr⟩
      obtain ⟨ba, oa, rfl, hK, hnew, -⟩ := Kp.made HN4.out.di hO hg (by omega)
      have Ka0 := hide hK
      have hWa : W.heap.size ≤ ba := Nat.le_trans HN4.out.fr.size hnew
      have HN5 := hide hDN
      clear hO hg hfr hK hDN hnew HN4
      go_wp2_with fail
      have hF0 : (loadS ys).sf = ys := rfl
      rw [hF0] at Ka0
      clear hF0
      refine (read_is HN5.out (k : Int) 64 Hf.out.v0 Hf.out.r0 (sec_len Hyn.out hkn)).mono ?_
      rintro e w6 ⟨Ab, gb, eb, rfl, hDN, hO, hg, hfr⟩
      obtain ⟨bb, ob, rfl, hK, hnew, -⟩ := Kp.made HN5.out.di hO hg (by omega)
      have lab : ba < bb := Nat.lt_of_lt_of_le Ka0.out.it.lt hnew
      have Ka1 := hide (Ka0.out.step hfr)
      clear Ka0
      have Kb0 := hide hK
      have HN6 := hide hDN
      clear hO hg hfr hK hDN hnew HN5
      go_wp2_with fail
      refine (read_is HN6.out (k : Int) 64 Hf.out.v0 Hf.out.r0 (sec_len Hyn.out hkn)).mono ?_
      rintro e w7 ⟨Ac, gc, ec, rfl, hDN, hO, hg, hfr⟩
      obtain ⟨bc, oc, rfl, hK, hnew, -⟩ := Kp.made HN6.out.di hO hg (by omega)
      have lac : ba < bc := Nat.lt_of_lt_of_le Ka1.out.it.lt hnew
      have lbc : bb < bc := Nat.lt_of_lt_of_le Kb0.out.it.lt hnew
      have Ka2 := hide (Ka1.out.step hfr)
      clear Ka1
      have Kb1 := hide (Kb0.out.step hfr)
      clear Kb0
      have Kc0 := hide hK
      have HN7 := hide hDN
      clear hO hg hfr hK hDN hnew HN6
      go_wp2_with fail
      refine (lent_any w7 ds D dl dc (by omega) (HD.out.below HN7.out.fr (fun _ _ => id))).mono ?_
      rintro e w8 ⟨XA, Xc, gx, rfl, hX, hgx, hfr⟩
      have ma : ba < gx := Nat.lt_of_lt_of_le Ka2.out.it.lt hgx
      have mb : bb < gx := Nat.lt_of_lt_of_le Kb1.out.it.lt hgx
      have mc : bc < gx := Nat.lt_of_lt_of_le Kc0.out.it.lt hgx
      have Ka3 := hide (Ka2.out.step hfr)
      clear Ka2
      have Kb2 := hide (Kb1.out.step hfr)
      clear Kb1
      have Kc1 := hide (Kc0.out.step hfr)
      clear Kc0
      have hxF : ¬ F gx := fun h => by have h1 := HN7.out.di.lt h; omega
      have HX := hide (hX.own Hdl.out)
      have hap : ∀ b, (∃ o, XA = some ⟨b, o, none⟩) → ¬ F b := Ow.apart HN7.out.di (hX.own Hdl.out) (fun b hb => by cases hb; exact hgx)
      have Hap := hide hap
      have HxF := hide hxF
      have hgW : W.heap.size ≤ gx := Nat.le_trans HN7.out.fr.size hgx
      have HN8 := hide (HN7.out.step hfr)
      clear hX hgx hfr hxF hap HN7
      go_wp2_with fail
      refine (write_is (er := er) (s' := s1) HN8.out (k : Int) XA dl Xc ds Hdl.out (by rw [Hdl.out]; exact Hf.out.wr) Hf.out.ws HX.out.sl (by show (0 + 1) * 72 ≤ _; omega) (by show 0 < _; omega) Hap.out).mono ?_
      rintro e w9 ⟨rfl, F2, hDN, hfr, hFF⟩
      have Ka4 := hide (Ka3.out.out hfr hFF)
      clear Ka3
      have Kb3 := hide (Kb2.out.out hfr hFF)
      clear Kb2
      have Kc2 := hide (Kc1.out.out hfr hFF)
      clear Kc1
      have HX9 := hide (HX.out.fr hfr (fun b hb => by cases hb; exact HxF.out))
      have hx2 : ¬ F2 gx := fun h => HxF.out (hFF gx (HX.out.lt gx rfl) h)
      have Hx2 := hide hx2
      have HN9 := hide hDN
      clear hDN hfr hFF hx2 HN8 HX HxF Hap
      go_wp2_with fail
      refine (over_any w9 ds XA dl Xc gx HX9.out (by omega)).mono ?_
      rintro e w10 ⟨rfl, hfr⟩
      have Ka5 := hide (Ka4.out.over hfr (by omega))
      clear Ka4
      have Kb4 := hide (Kb3.out.over hfr (by omega))
      clear Kb3
      have Kc3 := hide (Kc2.out.over hfr (by omega))
      clear Kc2
      have HN10 := hide (HN9.out.over hfr hgW Hx2.out)
      clear ma
      clear mb
      clear mc
      clear hfr HN9 HX9 Hx2 hgW
      go_wp2_with fail
      refine (read_is HN10.out (k : Int) 64 Hf.out.v1 Hf.out.r1 (Hf.out.ld)).mono ?_
      rintro e w11 ⟨Ai, gi, ei, rfl, hDN, hO, hg, hfr⟩
      obtain ⟨bi, oi, rfl, hK, hnew, -⟩ := Kp.made HN10.out.di hO hg (by omega)
      have lai : ba < bi := Nat.lt_of_lt_of_le Ka5.out.it.lt hnew
      have lbi : bb < bi := Nat.lt_of_lt_of_le Kb4.out.it.lt hnew
      have lci : bc < bi := Nat.lt_of_lt_of_le Kc3.out.it.lt hnew
      have Ka6 := hide (Ka5.out.step hfr)
      clear Ka5
      have Kb5 := hide (Kb4.out.step hfr)
      clear Kb4
      have Kc4 := hide (Kc3.out.step hfr)
      clear Kc3
      have Ki0 := hide hK
      have HN11 := hide hDN
      clear hO hg hfr hK hDN hnew HN10
      go_wp2_with fail
      refine (read_is HN11.out (k : Int) 64 Hf.out.v1 Hf.out.r1 (Hf.out.ld)).mono ?_
      rintro e w12 ⟨Al, gl, el, rfl, hDN, hO, hg, hfr⟩
      obtain ⟨bl, ol, rfl, hK, hnew, -⟩ := Kp.made HN11.out.di hO hg (by omega)
      have lal : ba < bl := Nat.lt_of_lt_of_le Ka6.out.it.lt hnew
      have lbl : bb < bl := Nat.lt_of_lt_of_le Kb5.out.it.lt hnew
      have lcl : bc < bl := Nat.lt_of_lt_of_le Kc4.out.it.lt hnew
      have lil : bi < bl := Nat.lt_of_lt_of_le Ki0.out.it.lt hnew
      have Ka7 := hide (Ka6.out.step hfr)
      clear Ka6
      have Kb6 := hide (Kb5.out.step hfr)
      clear Kb5
      have Kc5 := hide (Kc4.out.step hfr)
      clear Kc4
      have Ki1 := hide (Ki0.out.step hfr)
      clear Ki0
      have Kl0 := hide hK
      have HN12 := hide hDN
      clear hO hg hfr hK hDN hnew HN11
      go_wp2_with fail
      refine (image_is HN12.out m (by rw [Hf.out.i1]; exact Hyl.out.symm)).mono ?_
      rintro e w13 ⟨Ao, go, rfl, hDN, hO, hg, hfr⟩
      obtain ⟨bo, oo, rfl, hK, hnew, -⟩ := Kp.made HN12.out.di hO hg (by omega)
      have lao : ba < bo := Nat.lt_of_lt_of_le Ka7.out.it.lt hnew
      have lbo : bb < bo := Nat.lt_of_lt_of_le Kb6.out.it.lt hnew
      have lco : bc < bo := Nat.lt_of_lt_of_le Kc5.out.it.lt hnew
      have lio : bi < bo := Nat.lt_of_lt_of_le Ki1.out.it.lt hnew
      have llo : bl < bo := Nat.lt_of_lt_of_le Kl0.out.it.lt hnew
      have Ka8 := hide (Ka7.out.step hfr)
      clear Ka7
      have Kb7 := hide (Kb6.out.step hfr)
      clear Kb6
      have Kc6 := hide (Kc5.out.step hfr)
      clear Kc5
      have Ki2 := hide (Ki1.out.step hfr)
      clear Ki1
      have Kl1 := hide (Kl0.out.step hfr)
      clear Kl0
      have Ko0 := hide hK
      have HN13 := hide hDN
      clear hO hg hfr hK hDN hnew HN12
      go_wp2_with fail
      rw [Hf.out.i1] at Ko0
      refine (sync_is (er := 0) (s' := s2) HN13.out Hf.out.sn Hf.out.ss (by rw [Hf.out.y1]; omega)).mono ?_
      rintro e w14 ⟨rfl, F3, hDN, hfr, hFF⟩
      have Ka9 := hide (Ka8.out.out hfr hFF)
      clear Ka8
      have Kb8 := hide (Kb7.out.out hfr hFF)
      clear Kb7
      have Kc7 := hide (Kc6.out.out hfr hFF)
      clear Kc6
      have Ki3 := hide (Ki2.out.out hfr hFF)
      clear Ki2
      have Kl2 := hide (Kl1.out.out hfr hFF)
      clear Kl1
      have Ko1 := hide (Ko0.out.out hfr hFF)
      clear Ko0
      have HN14 := hide hDN
      clear hDN hfr hFF HN13
      go_wp2_with fail
      refine (image_is HN14.out m (by rw [Hf.out.i2, Hf.out.l2, Hmn.out])).mono ?_
      rintro e w15 ⟨Ap, gp, rfl, hDN, hO, hg, hfr⟩
      obtain ⟨bp, op, rfl, hK, hnew, -⟩ := Kp.made HN14.out.di hO hg (by omega)
      have lap : ba < bp := Nat.lt_of_lt_of_le Ka9.out.it.lt hnew
      have lbp : bb < bp := Nat.lt_of_lt_of_le Kb8.out.it.lt hnew
      have lcp : bc < bp := Nat.lt_of_lt_of_le Kc7.out.it.lt hnew
      have lip : bi < bp := Nat.lt_of_lt_of_le Ki3.out.it.lt hnew
      have llp : bl < bp := Nat.lt_of_lt_of_le Kl2.out.it.lt hnew
      have lop : bo < bp := Nat.lt_of_lt_of_le Ko1.out.it.lt hnew
      have Ka10 := hide (Ka9.out.step hfr)
      clear Ka9
      have Kb9 := hide (Kb8.out.step hfr)
      clear Kb8
      have Kc8 := hide (Kc7.out.step hfr)
      clear Kc7
      have Ki4 := hide (Ki3.out.step hfr)
      clear Ki3
      have Kl3 := hide (Kl2.out.step hfr)
      clear Kl2
      have Ko2 := hide (Ko1.out.step hfr)
      clear Ko1
      have Kp0 := hide hK
      have HN15 := hide hDN
      clear hO hg hfr hK hDN hnew HN14
      go_wp2_with fail
      rw [Hf.out.i2] at Kp0
      refine (read_is HN15.out (k : Int) 64 Hf.out.v2 Hf.out.r2 (Hf.out.ld)).mono ?_
      rintro e w16 ⟨Aq, gq, eq, rfl, hDN, hO, hg, hfr⟩
      obtain ⟨bq, oq, rfl, hK, hnew, -⟩ := Kp.made HN15.out.di hO hg (by omega)
      have laq : ba < bq := Nat.lt_of_lt_of_le Ka10.out.it.lt hnew
      have lbq : bb < bq := Nat.lt_of_lt_of_le Kb9.out.it.lt hnew
      have lcq : bc < bq := Nat.lt_of_lt_of_le Kc8.out.it.lt hnew
      have liq : bi < bq := Nat.lt_of_lt_of_le Ki4.out.it.lt hnew
      have llq : bl < bq := Nat.lt_of_lt_of_le Kl3.out.it.lt hnew
      have loq : bo < bq := Nat.lt_of_lt_of_le Ko2.out.it.lt hnew
      have lpq : bp < bq := Nat.lt_of_lt_of_le Kp0.out.it.lt hnew
      have Ka11 := hide (Ka10.out.step hfr)
      clear Ka10
      have Kb10 := hide (Kb9.out.step hfr)
      clear Kb9
      have Kc9 := hide (Kc8.out.step hfr)
      clear Kc8
      have Ki5 := hide (Ki4.out.step hfr)
      clear Ki4
      have Kl4 := hide (Kl3.out.step hfr)
      clear Kl3
      have Ko3 := hide (Ko2.out.step hfr)
      clear Ko2
      have Kp1 := hide (Kp0.out.step hfr)
      clear Kp0
      have Kq0 := hide hK
      have HN16 := hide hDN
      clear hO hg hfr hK hDN hnew HN15
      go_wp2_with fail
      rcases Her.out with ⟨rfl, rfl, rfl⟩ | ⟨rfl, hd64, rfl⟩
      ·
        clear Her
        obtain ⟨ab, ao, rfl, -⟩ := HA.out.2 (by omega)
        obtain ⟨t, ht⟩ : ∃ t, 64 * k = t := ⟨_, rfl⟩
        obtain ⟨u, hu⟩ : ∃ u, 64 * k + 64 = u := ⟨_, rfl⟩
        have q1 : IntKind.i64.wrap (64 * (k : Int)) = (t : Int) := by rw [IntWalk.i64_in _ (by omega)]; omega
        have q2 : IntKind.i64.wrap ((t : Int) + 64) = (u : Int) := by rw [IntWalk.i64_in _ (by omega)]; omega
        have j1 : (0 : Int) ≤ (t : Int) := by omega
        have j2 : (t : Int) ≤ (u : Int) := by omega
        have j3 : (u : Int) ≤ (lc : Int) := by have := Hmn.out; omega
        have j4 : u - t = 64 := by omega
        have Ht := hide ht
        have Hu := hide hu
        clear ht hu
        refine (num_any _ _).mono ?_
        rintro e w' ⟨rfl, rfl⟩
        go_wp2_with fail
        refine (num_any _ _).mono ?_
        rintro e w' ⟨rfl, rfl⟩
        go_wp2_with fail
        refine (num_any _ _).mono ?_
        rintro e w' ⟨rfl, rfl⟩
        go_wp2_with fail
        refine (num_any _ _).mono ?_
        rintro e w' ⟨rfl, rfl⟩
        go_wp2_with fail
        refine (num_any _ _).mono ?_
        rintro e w' ⟨rfl, rfl⟩
        go_wp2_with fail
        refine (num_any _ _).mono ?_
        rintro e w' ⟨rfl, rfl⟩
        go_wp2_with fail
        have HA16 := hide (HA.out.below HN16.out.fr (fun _ _ => id))
        have HD16 := hide (HD.out.below HN16.out.fr (fun _ _ => id))
        have HP16 : Hid (Sl w16 1 (some ⟨ab, ao + t, none⟩) 64 ((sec ys k).map bn)) := by
          have := Sl.part HA16.out Hmn.out k hkn
          rwa [show k * 64 = t by rw [← Ht.out]; omega] at this
        have HPp : Hid (Sl w16 1 (some ⟨bp, op + t, none⟩) 64 ((sec sf2 k).map bn)) := by
          have := Sl.part Kp1.out.sl Hmn.out k hkn
          rwa [show k * 64 = t by rw [← Ht.out]; omega] at this
        rw [Hf.out.p2] at HPp
        have j5 : (u : Int) ≤ (m : Int) := by have := Hmn.out; have := Hu.out; omega
        have HF0 : Hid (Fr (fun _ => False) w16 w16) := Fr.refl _ _
        refine (same_q w16 ys _ _ _ _ m (Hyl.out) (by omega) (Ka11.out.sl.below HF0.out (fun _ _ => id)) (HA16.out.below HF0.out (fun _ _ => id))).mono ?_
        rintro e x1 ⟨rfl, hd⟩
        have HF1 := hide (HF0.out.trans (fr_of_drewN hd))
        clear hd HF0
        go_wp2_with fail
        refine (same_q x1 (sec ys k) _ _ _ _ 64 ((sec_len Hyn.out hkn).symm) (by omega) (Kb10.out.sl.below HF1.out (fun _ _ => id)) (HP16.out.below HF1.out (fun _ _ => id))).mono ?_
        rintro e x2 ⟨rfl, hd⟩
        have HF2 := hide (HF1.out.trans (fr_of_drewN hd))
        clear hd HF1
        go_wp2_with fail
        refine (same_q x2 (sec ys k) _ _ _ _ 64 ((sec_len Hyn.out hkn).symm) (by omega) (Kc9.out.sl.below HF2.out (fun _ _ => id)) (HP16.out.below HF2.out (fun _ _ => id))).mono ?_
        rintro e x3 ⟨rfl, hd⟩
        have HF3 := hide (HF2.out.trans (fr_of_drewN hd))
        clear hd HF2
        go_wp2_with fail
        refine (same_q x3 ys _ _ _ _ m (Hyl.out) (by omega) (Ko3.out.sl.below HF3.out (fun _ _ => id)) (HA16.out.below HF3.out (fun _ _ => id))).mono ?_
        rintro e x4 ⟨rfl, hd⟩
        have HF4 := hide (HF3.out.trans (fr_of_drewN hd))
        clear hd HF3
        go_wp2_with fail
        refine (same_q x4 D2 _ _ _ _ 64 (Hf.out.ld.symm) (by omega) (Ki5.out.sl.below HF4.out (fun _ _ => id)) (HD16.out.below HF4.out (fun _ _ => id))).mono ?_
        rintro e x5 ⟨rfl, hd⟩
        have HF5 := hide (HF4.out.trans (fr_of_drewN hd))
        clear hd HF4
        go_wp2_with fail
        refine (same_q x5 D2 _ _ _ _ 64 (Hf.out.ld.symm) (by omega) (Kl4.out.sl.below HF5.out (fun _ _ => id)) (HD16.out.below HF5.out (fun _ _ => id))).mono ?_
        rintro e x6 ⟨rfl, hd⟩
        have HF6 := hide (HF5.out.trans (fr_of_drewN hd))
        clear hd HF5
        go_wp2_with fail
        refine (same_q x6 D2 _ _ _ _ 64 (Hf.out.ld.symm) (by omega) (Kq0.out.sl.below HF6.out (fun _ _ => id)) (HD16.out.below HF6.out (fun _ _ => id))).mono ?_
        rintro e x7 ⟨rfl, hd⟩
        have HF7 := hide (HF6.out.trans (fr_of_drewN hd))
        clear hd HF6
        go_wp2_with fail
        refine (same_q x7 D2 _ _ _ _ 64 (Hf.out.ld.symm) (by omega) (HPp.out.below HF7.out (fun _ _ => id)) (HD16.out.below HF7.out (fun _ _ => id))).mono ?_
        rintro e x8 ⟨rfl, hd⟩
        have HF8 := hide (HF7.out.trans (fr_of_drewN hd))
        clear hd HF7
        go_wp2_with fail
        refine (lent_any x8 sf2 _ m m (by omega) (Kp1.out.sl.below HF8.out (fun _ _ => id))).mono ?_
        rintro e y0 ⟨WA, Wc, gw, rfl, hX, hgw, hfr⟩
        have Hfy := hide (HF8.out.trans hfr)
        have hbw : bq < gw := by have h1 := Kq0.out.it.lt; have h2 := HF8.out.size; omega
        have HW := hide (hX.own (by rw [Hf.out.l2, Hmn.out]))
        clear hX hgw hfr HF8
        go_wp2_with fail
        obtain ⟨its, hits⟩ : ∃ its : List (Nat × Nat × Nat × List Nat), its = [(ba, oa, m, ys), (bb, ob, 64, (sec ys k)), (bc, oc, 64, (sec ys k)), (bi, oi, 64, D2), (bl, ol, 64, D2), (bo, oo, m, ys), (bp, op, m, sf2), (bq, oq, 64, D2)] := ⟨_, rfl⟩
        have hmem : ∀ x ∈ its, It y0 x.1 x.2.1 x.2.2.1 x.2.2.2 ∧ x.2.2.1 ≤ 140737488355000 ∧ ¬ F3 x.1 ∧ W.heap.size ≤ x.1 ∧ x.1 < gw := by
          rw [hits]
          intro x hx
          simp only [List.mem_cons, List.not_mem_nil, or_false] at hx
          rcases hx with rfl | rfl | rfl | rfl | rfl | rfl | rfl | rfl
          · exact ⟨Ka11.out.it.fr Hfy.out id, by show m ≤ _; omega, Ka11.out.off, by show _ ≤ ba; omega, by show ba < _; omega⟩
          · exact ⟨Kb10.out.it.fr Hfy.out id, by show 64 ≤ _; omega, Kb10.out.off, by show _ ≤ bb; omega, by show bb < _; omega⟩
          · exact ⟨Kc9.out.it.fr Hfy.out id, by show 64 ≤ _; omega, Kc9.out.off, by show _ ≤ bc; omega, by show bc < _; omega⟩
          · exact ⟨Ki5.out.it.fr Hfy.out id, by show 64 ≤ _; omega, Ki5.out.off, by show _ ≤ bi; omega, by show bi < _; omega⟩
          · exact ⟨Kl4.out.it.fr Hfy.out id, by show 64 ≤ _; omega, Kl4.out.off, by show _ ≤ bl; omega, by show bl < _; omega⟩
          · exact ⟨Ko3.out.it.fr Hfy.out id, by show m ≤ _; omega, Ko3.out.off, by show _ ≤ bo; omega, by show bo < _; omega⟩
          · exact ⟨Kp1.out.it.fr Hfy.out id, by show m ≤ _; omega, Kp1.out.off, by show _ ≤ bp; omega, by show bp < _; omega⟩
          · exact ⟨Kq0.out.it.fr Hfy.out id, by show 64 ≤ _; omega, Kq0.out.off, by show _ ≤ bq; omega, by show bq < _; omega⟩
        have hpw : its.Pairwise (fun x y => x.1 < y.1) := by rw [hits]; simp only [List.pairwise_cons, List.mem_cons, List.not_mem_nil, or_false, forall_eq_or_imp, forall_eq, List.Pairwise.nil, and_true]; exact ⟨⟨lab, lac, lai, lal, lao, lap, laq⟩, ⟨lbc, lbi, lbl, lbo, lbp, lbq⟩, ⟨lci, lcl, lco, lcp, lcq⟩, ⟨lil, lio, lip, liq⟩, ⟨llo, llp, llq⟩, ⟨lop, loq⟩, lpq, fun _ h => (by cases h)⟩
        have hI := Its.of (w := y0) (t := 34) (d := (0, 0, 0, [])) (fun x hx => (hmem x hx).1) hpw
        have hlen : its.length = 8 := by rw [hits]; rfl
        have hc : (its.map slc).toArray = #[.slice (some ⟨ba, oa, none⟩) m m, .slice (some ⟨bb, ob, none⟩) 64 64, .slice (some ⟨bc, oc, none⟩) 64 64, .slice (some ⟨bi, oi, none⟩) 64 64, .slice (some ⟨bl, ol, none⟩) 64 64, .slice (some ⟨bo, oo, none⟩) m m, .slice (some ⟨bp, op, none⟩) m m, .slice (some ⟨bq, oq, none⟩) 64 64] := by rw [hits]; rfl
        have hM := marked_any (y0.alloc (.cells (its.map slc).toArray 34)) y0.heap.size its.length its.length _ _ _ _ (by omega) (getD_all (d := (0, 0, 0, [])) (P := fun x => x.2.2.1 ≤ 140737488355000) (fun x hx => (hmem x hx).2.1)) hI
        rw [hc, hlen] at hM
        have hS : ∀ k, (∃ i, i < 8 ∧ k = (its.getD i (0, 0, 0, [])).1) → ¬ F3 k ∧ W.heap.size ≤ k ∧ k < gw := by
          rintro k ⟨i, hi, rfl⟩
          exact getD_all (d := (0, 0, 0, [])) (P := fun x => ¬ F3 x.1 ∧ W.heap.size ≤ x.1 ∧ x.1 < gw) (fun x hx => (hmem x hx).2.2) i (by omega)
        clear hc hI hpw hmem hits
        refine hM.mono ?_
        rintro e z0 ⟨rfl, hfz⟩
        clear hM
        have HNz := hide ((HN16.out.step (Hfy.out.alloc _)).turn hfz (fun k hk => (hS k hk).1) (fun k hk => (hS k hk).2.1))
        have HWz := hide ((HW.out.fr (S := fun _ => False) ((Fr.refl _ _).alloc _) (fun _ _ => id)).fr hfz (fun b hb hk => by cases hb; exact Nat.lt_irrefl _ (hS _ hk).2.2))
        clear hfz hS HN16 HW Hfy hlen
        go_wp2_with fail
        refine (image_is HNz.out m (by rw [Hf.out.i2, Hf.out.l2, Hmn.out])).mono ?_
        rintro e z1 ⟨Az, gz, rfl, hDN, hO, hg, hfr⟩
        rw [Hf.out.i2] at hO
        have HOz := hide hO
        have HWy := hide (HWz.out.fr hfr (fun _ _ => id))
        have HNy := hide hDN
        clear hO hDN hg hfr HNz HWz
        go_wp2_with fail
        refine (same_q z1 sf2 _ _ _ _ m (by rw [Hf.out.l2, Hmn.out]) (by omega) HOz.out.sl HWy.out.sl).mono ?_
        rintro e z2 ⟨rfl, hd⟩
        have HE := hide (HNy.out.fr.trans (fr_of_drewN hd))
        clear hd HNy HOz HWy
        go_wp2_with fail
        go_ret
        exact ⟨rfl, HE.out⟩
      ·
        clear Her
        have i64 : ¬ (dl : Int) = 64 := by omega
        obtain ⟨ab, ao, rfl, -⟩ := HA.out.2 (by omega)
        obtain ⟨t, ht⟩ : ∃ t, 64 * k = t := ⟨_, rfl⟩
        obtain ⟨u, hu⟩ : ∃ u, 64 * k + 64 = u := ⟨_, rfl⟩
        have q1 : IntKind.i64.wrap (64 * (k : Int)) = (t : Int) := by rw [IntWalk.i64_in _ (by omega)]; omega
        have q2 : IntKind.i64.wrap ((t : Int) + 64) = (u : Int) := by rw [IntWalk.i64_in _ (by omega)]; omega
        have j1 : (0 : Int) ≤ (t : Int) := by omega
        have j2 : (t : Int) ≤ (u : Int) := by omega
        have j3 : (u : Int) ≤ (lc : Int) := by have := Hmn.out; omega
        have j4 : u - t = 64 := by omega
        have Ht := hide ht
        have Hu := hide hu
        clear ht hu
        refine (num_any _ _).mono ?_
        rintro e w' ⟨rfl, rfl⟩
        go_wp2_with fail
        refine (num_any _ _).mono ?_
        rintro e w' ⟨rfl, rfl⟩
        go_wp2_with fail
        refine (num_any _ _).mono ?_
        rintro e w' ⟨rfl, rfl⟩
        go_wp2_with fail
        refine (num_any _ _).mono ?_
        rintro e w' ⟨rfl, rfl⟩
        go_wp2_with fail
        refine (num_any _ _).mono ?_
        rintro e w' ⟨rfl, rfl⟩
        go_wp2_with fail
        refine (num_any _ _).mono ?_
        rintro e w' ⟨rfl, rfl⟩
        go_wp2_with fail
        have HA16 := hide (HA.out.below HN16.out.fr (fun _ _ => id))
        have HD16 := hide (HD.out.below HN16.out.fr (fun _ _ => id))
        have HP16 : Hid (Sl w16 1 (some ⟨ab, ao + t, none⟩) 64 ((sec ys k).map bn)) := by
          have := Sl.part HA16.out Hmn.out k hkn
          rwa [show k * 64 = t by rw [← Ht.out]; omega] at this
        have HPp : Hid (Sl w16 1 (some ⟨bp, op + t, none⟩) 64 ((sec sf2 k).map bn)) := by
          have := Sl.part Kp1.out.sl Hmn.out k hkn
          rwa [show k * 64 = t by rw [← Ht.out]; omega] at this
        rw [Hf.out.p2] at HPp
        have j5 : (u : Int) ≤ (m : Int) := by have := Hmn.out; have := Hu.out; omega
        have HF0 : Hid (Fr (fun _ => False) w16 w16) := Fr.refl _ _
        refine (same_q w16 ys _ _ _ _ m (Hyl.out) (by omega) (Ka11.out.sl.below HF0.out (fun _ _ => id)) (HA16.out.below HF0.out (fun _ _ => id))).mono ?_
        rintro e x1 ⟨rfl, hd⟩
        have HF1 := hide (HF0.out.trans (fr_of_drewN hd))
        clear hd HF0
        go_wp2_with fail
        refine (same_q x1 (sec ys k) _ _ _ _ 64 ((sec_len Hyn.out hkn).symm) (by omega) (Kb10.out.sl.below HF1.out (fun _ _ => id)) (HP16.out.below HF1.out (fun _ _ => id))).mono ?_
        rintro e x2 ⟨rfl, hd⟩
        have HF2 := hide (HF1.out.trans (fr_of_drewN hd))
        clear hd HF1
        go_wp2_with fail
        refine (same_q x2 (sec ys k) _ _ _ _ 64 ((sec_len Hyn.out hkn).symm) (by omega) (Kc9.out.sl.below HF2.out (fun _ _ => id)) (HP16.out.below HF2.out (fun _ _ => id))).mono ?_
        rintro e x3 ⟨rfl, hd⟩
        have HF3 := hide (HF2.out.trans (fr_of_drewN hd))
        clear hd HF2
        go_wp2_with fail
        refine (same_q x3 ys _ _ _ _ m (Hyl.out) (by omega) (Ko3.out.sl.below HF3.out (fun _ _ => id)) (HA16.out.below HF3.out (fun _ _ => id))).mono ?_
        rintro e x4 ⟨rfl, hd⟩
        have HF4 := hide (HF3.out.trans (fr_of_drewN hd))
        clear hd HF3
        go_wp2_with fail
        refine (same_q x4 (sec ys k) _ _ _ _ 64 (Hf.out.ld.symm) (by omega) (Ki5.out.sl.below HF4.out (fun _ _ => id)) (HP16.out.below HF4.out (fun _ _ => id))).mono ?_
        rintro e x5 ⟨rfl, hd⟩
        have HF5 := hide (HF4.out.trans (fr_of_drewN hd))
        clear hd HF4
        go_wp2_with fail
        refine (same_q x5 (sec ys k) _ _ _ _ 64 (Hf.out.ld.symm) (by omega) (Kl4.out.sl.below HF5.out (fun _ _ => id)) (HP16.out.below HF5.out (fun _ _ => id))).mono ?_
        rintro e x6 ⟨rfl, hd⟩
        have HF6 := hide (HF5.out.trans (fr_of_drewN hd))
        clear hd HF5
        go_wp2_with fail
        refine (same_q x6 (sec ys k) _ _ _ _ 64 (Hf.out.ld.symm) (by omega) (Kq0.out.sl.below HF6.out (fun _ _ => id)) (HP16.out.below HF6.out (fun _ _ => id))).mono ?_
        rintro e x7 ⟨rfl, hd⟩
        have HF7 := hide (HF6.out.trans (fr_of_drewN hd))
        clear hd HF6
        go_wp2_with fail
        refine (same_q x7 (sec ys k) _ _ _ _ 64 (Hf.out.ld.symm) (by omega) (HPp.out.below HF7.out (fun _ _ => id)) (HP16.out.below HF7.out (fun _ _ => id))).mono ?_
        rintro e x8 ⟨rfl, hd⟩
        have HF8 := hide (HF7.out.trans (fr_of_drewN hd))
        clear hd HF7
        go_wp2_with fail
        refine (lent_any x8 sf2 _ m m (by omega) (Kp1.out.sl.below HF8.out (fun _ _ => id))).mono ?_
        rintro e y0 ⟨WA, Wc, gw, rfl, hX, hgw, hfr⟩
        have Hfy := hide (HF8.out.trans hfr)
        have hbw : bq < gw := by have h1 := Kq0.out.it.lt; have h2 := HF8.out.size; omega
        have HW := hide (hX.own (by rw [Hf.out.l2, Hmn.out]))
        clear hX hgw hfr HF8
        go_wp2_with fail
        obtain ⟨its, hits⟩ : ∃ its : List (Nat × Nat × Nat × List Nat), its = [(ba, oa, m, ys), (bb, ob, 64, (sec ys k)), (bc, oc, 64, (sec ys k)), (bi, oi, 64, (sec ys k)), (bl, ol, 64, (sec ys k)), (bo, oo, m, ys), (bp, op, m, sf2), (bq, oq, 64, (sec ys k))] := ⟨_, rfl⟩
        have hmem : ∀ x ∈ its, It y0 x.1 x.2.1 x.2.2.1 x.2.2.2 ∧ x.2.2.1 ≤ 140737488355000 ∧ ¬ F3 x.1 ∧ W.heap.size ≤ x.1 ∧ x.1 < gw := by
          rw [hits]
          intro x hx
          simp only [List.mem_cons, List.not_mem_nil, or_false] at hx
          rcases hx with rfl | rfl | rfl | rfl | rfl | rfl | rfl | rfl
          · exact ⟨Ka11.out.it.fr Hfy.out id, by show m ≤ _; omega, Ka11.out.off, by show _ ≤ ba; omega, by show ba < _; omega⟩
          · exact ⟨Kb10.out.it.fr Hfy.out id, by show 64 ≤ _; omega, Kb10.out.off, by show _ ≤ bb; omega, by show bb < _; omega⟩
          · exact ⟨Kc9.out.it.fr Hfy.out id, by show 64 ≤ _; omega, Kc9.out.off, by show _ ≤ bc; omega, by show bc < _; omega⟩
          · exact ⟨Ki5.out.it.fr Hfy.out id, by show 64 ≤ _; omega, Ki5.out.off, by show _ ≤ bi; omega, by show bi < _; omega⟩
          · exact ⟨Kl4.out.it.fr Hfy.out id, by show 64 ≤ _; omega, Kl4.out.off, by show _ ≤ bl; omega, by show bl < _; omega⟩
          · exact ⟨Ko3.out.it.fr Hfy.out id, by show m ≤ _; omega, Ko3.out.off, by show _ ≤ bo; omega, by show bo < _; omega⟩
          · exact ⟨Kp1.out.it.fr Hfy.out id, by show m ≤ _; omega, Kp1.out.off, by show _ ≤ bp; omega, by show bp < _; omega⟩
          · exact ⟨Kq0.out.it.fr Hfy.out id, by show 64 ≤ _; omega, Kq0.out.off, by show _ ≤ bq; omega, by show bq < _; omega⟩
        have hpw : its.Pairwise (fun x y => x.1 < y.1) := by rw [hits]; simp only [List.pairwise_cons, List.mem_cons, List.not_mem_nil, or_false, forall_eq_or_imp, forall_eq, List.Pairwise.nil, and_true]; exact ⟨⟨lab, lac, lai, lal, lao, lap, laq⟩, ⟨lbc, lbi, lbl, lbo, lbp, lbq⟩, ⟨lci, lcl, lco, lcp, lcq⟩, ⟨lil, lio, lip, liq⟩, ⟨llo, llp, llq⟩, ⟨lop, loq⟩, lpq, fun _ h => (by cases h)⟩
        have hI := Its.of (w := y0) (t := 34) (d := (0, 0, 0, [])) (fun x hx => (hmem x hx).1) hpw
        have hlen : its.length = 8 := by rw [hits]; rfl
        have hc : (its.map slc).toArray = #[.slice (some ⟨ba, oa, none⟩) m m, .slice (some ⟨bb, ob, none⟩) 64 64, .slice (some ⟨bc, oc, none⟩) 64 64, .slice (some ⟨bi, oi, none⟩) 64 64, .slice (some ⟨bl, ol, none⟩) 64 64, .slice (some ⟨bo, oo, none⟩) m m, .slice (some ⟨bp, op, none⟩) m m, .slice (some ⟨bq, oq, none⟩) 64 64] := by rw [hits]; rfl
        have hM := marked_any (y0.alloc (.cells (its.map slc).toArray 34)) y0.heap.size its.length its.length _ _ _ _ (by omega) (getD_all (d := (0, 0, 0, [])) (P := fun x => x.2.2.1 ≤ 140737488355000) (fun x hx => (hmem x hx).2.1)) hI
        rw [hc, hlen] at hM
        have hS : ∀ k, (∃ i, i < 8 ∧ k = (its.getD i (0, 0, 0, [])).1) → ¬ F3 k ∧ W.heap.size ≤ k ∧ k < gw := by
          rintro k ⟨i, hi, rfl⟩
          exact getD_all (d := (0, 0, 0, [])) (P := fun x => ¬ F3 x.1 ∧ W.heap.size ≤ x.1 ∧ x.1 < gw) (fun x hx => (hmem x hx).2.2) i (by omega)
        clear hc hI hpw hmem hits
        refine hM.mono ?_
        rintro e z0 ⟨rfl, hfz⟩
        clear hM
        have HNz := hide ((HN16.out.step (Hfy.out.alloc _)).turn hfz (fun k hk => (hS k hk).1) (fun k hk => (hS k hk).2.1))
        have HWz := hide ((HW.out.fr (S := fun _ => False) ((Fr.refl _ _).alloc _) (fun _ _ => id)).fr hfz (fun b hb hk => by cases hb; exact Nat.lt_irrefl _ (hS _ hk).2.2))
        clear hfz hS HN16 HW Hfy hlen
        go_wp2_with fail
        refine (image_is HNz.out m (by rw [Hf.out.i2, Hf.out.l2, Hmn.out])).mono ?_
        rintro e z1 ⟨Az, gz, rfl, hDN, hO, hg, hfr⟩
        rw [Hf.out.i2] at hO
        have HOz := hide hO
        have HWy := hide (HWz.out.fr hfr (fun _ _ => id))
        have HNy := hide hDN
        clear hO hDN hg hfr HNz HWz
        go_wp2_with fail
        refine (same_q z1 sf2 _ _ _ _ m (by rw [Hf.out.l2, Hmn.out]) (by omega) HOz.out.sl HWy.out.sl).mono ?_
        rintro e z2 ⟨rfl, hd⟩
        have HE := hide (HNy.out.fr.trans (fr_of_drewN hd))
        clear hd HNy HOz HWy
        go_wp2_with fail
        go_ret
        exact ⟨rfl, HE.out⟩
#print axioms own_walk
end Go.Proofs.Ythcklgelbckffaa
