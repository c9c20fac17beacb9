/-
  DiskPlays: a step of nil disks.
-/
import Derived.Test.YthcklgelbckffaaDs3
namespace Go.Proofs.Ythcklgelbckffaa
open Go.RowKit
set_option linter.unusedVariables false
set_option linter.unusedSimpArgs false
set_option maxHeartbeats 8000000 in
set_option maxRecDepth 8000 in
theorem crashes_nil {W w : World} (hw0 : Fr (fun _ => False) W w) (op : OpD) (hO : OpIs W op) :
    Calls Try.prog 40 #[.pointer none, .pointer none, .agg op.cells.toArray] w fun e w' => e = .returned (.bool true) ∧ Fr (fun _ => False) w w' := by
  obtain ⟨i0, hi, hz0, hz1, hz2⟩ := info_parts infoBool
  obtain ⟨who, kd, nn, DA, dn, dc, dd, KA, kn, kc, kk, tn, ct⟩ := op
  have hk3 : kn ≤ 140737488351232 := hO.k3
  have hk1 : kn = kk.length := hO.k1
  have HO0 := hide hO
  have Hk1 := hide hk1
  have HK1 : Hid (Sl w 1 KA kn (kk.map .bool)) := hO.k4.below hw0 (fun _ _ => id)
  clear hO hw0 hk1
  show Calls Try.prog 40 #[.pointer none, .pointer none, .agg #[.int .i64 who, .int .i64 kd, .int .i64 nn, .slice DA dn dc, .slice KA kn kc, .int .i64 tn, .int .i64 ct]] w fun e w' => e = .returned (.bool true) ∧ Fr (fun _ => False) w w'
  go_enter Try.func40, Try.ntmps40
  go_wp2_with (at_builtin; refine wpList_append_ow _ rfl _ _ 24 rfl 4 i0 (.bool false) 1 1 Try.underlying24 hi hz0 hz1 hz2 rfl (by decide) _ _ _ _ _ rfl (Ow.nil_ _ _ _) _ _ _ _ rfl (HK1.out.below (S := fun _ => False) ((Fr.refl _ _).alloc _) (fun _ _ => id)) (bv_one _) (by unfold maxLen; omega) (by omega) ?_)
  intro A1 c1 w1 g1 hO1 hf1 hg1
  obtain ⟨bx, hbx⟩ : ∃ bx, w.heap.size = bx := ⟨_, rfl⟩
  have hf01 : Fr (fun _ => False) w w1 := ((Fr.refl _ _).alloc _).trans (hf1.mono fun x _ e => by cases e)
  have hB1 : Bl w1 bx 61 #[.int .i64 who, .int .i64 kd, .int .i64 nn, .slice DA dn dc, .slice KA kn kc, .int .i64 tn, .int .i64 ct] := by
    rw [← hbx]; exact (Bl.new w 61 _).fr hf1 (fun e => by cases e)
  have hg1' : ∀ b, g1 = some b → bx + 1 ≤ b := by
    rintro b rfl
    rcases hg1 with e | ⟨b', e, h⟩
    · cases e
    · cases e; rw [← hbx]; simpa using h
  have HO : Hid (Ow w1 4 1 A1 kn c1 (kk.map .bool) g1) := by
    have := hO1; first | exact this | (simp at this; exact this)
  rw [hbx]
  have HB1 := hide hB1
  have Hg1 := hide hg1'
  have Hf01 := hide hf01
  clear hO1 hf1 hg1 hf01 hB1 hg1'
  go_wp2_with (at_builtin; refine wpList_append_ow _ rfl _ _ 24 rfl 4 i0 (.bool false) 1 1 Try.underlying24 hi hz0 hz1 hz2 rfl (by decide) _ _ _ _ _ rfl (HO.out.fr (S := fun _ => False) ((Fr.refl _ _).alloc _) (fun _ _ => id)) _ _ _ _ rfl (Sl.row _ [.bool true, .bool false, .bool true] _ 1 3 rfl) (by intro u hu; simp at hu; rcases hu with rfl | rfl | rfl <;> rfl) (by unfold maxLen; omega) (by omega) ?_)
  intro A2 c2 w2 g2 hO2 hf2 hg2
  have hf12 : Fr (fun x => some x = g1) w1 w2 := ((Fr.refl _ _).alloc _).trans hf2
  have hB2 := HB1.out.fr hf12 (fun e => by have := Hg1.out bx e.symm; omega)
  have hf02 : Fr (fun _ => False) w w2 := Hf01.out.comp hf12 (fun i hi e => by have := Hg1.out i e.symm; omega)
  obtain ⟨hl2, h0 | ⟨b2, o2, cur2, rfl, rfl, hrest2⟩⟩ := id hO2
  · exact absurd h0.2.1 (by omega)
  have hb2 : bx + 1 ≤ b2 := by
    rcases hg2 with e | ⟨b', e, h⟩
    · exact Hg1.out b2 e.symm
    · cases e; have h1 := Hf01.out.size; have h2 := HB1.out.lt; omega
  have hcap := hO2.cap
  have hc1 : kn ≤ c2 := by have := hcap.1; omega
  have hc2 : c2 ≤ 9223372036854775807 := by have := hcap.2; unfold maxLen at this; exact this
  have HO2 : Hid (Ow w2 4 1 (some ⟨b2, o2, none⟩) (kn + 3) c2 ((kk ++ [true, false, true]).map .bool) (some b2)) := by rw [List.map_append]; exact hO2
  have HB2 := hide hB2
  have Hf02 := hide hf02
  have x4 : w2.cell? ⟨bx, 4, none⟩ = some (.slice KA kn kc) := hB2.cell' rfl
  have x5 : w2.cell? ⟨bx, 5, none⟩ = some (.int .i64 tn) := hB2.cell' rfl
  have x6 : w2.cell? ⟨bx, 6, none⟩ = some (.int .i64 ct) := hB2.cell' rfl
  clear hO2 hf2 hg2 hf12 hB2 hf02 hl2 hrest2 hcap HO HB1 Hg1 Hf01
  go_wp2_with fail
  refine (rcrash_nil w2 KA kn kc tn ct).mono ?_
  rintro e w3 ⟨rfl, rfl⟩
  go_wp2_with fail
  refine (crash_nil w2 (some ⟨b2, o2, none⟩) kn c2 tn ct).mono ?_
  rintro e w4 ⟨rfl, rfl⟩
  clear x5 x6
  have hx2 : ¬ bx = b2 := by omega
  go_wp2_with fail
  go_loopw [9] (fun v wr => ∃ j : Nat, j ≤ kn ∧ v = .int .i64 j ∧ Hid (Ow wr 4 1 (some ⟨b2, o2, none⟩) (kn + 3) c2 ((flip kk j ++ [true, false, true]).map .bool) (some b2)) ∧ Hid (Fr (fun x => x = b2) w2 wr)) (fun v _ => kn - (intOf v).toNat)
  case atStart => exact ⟨0, Nat.zero_le _, rfl, by have e : flip kk 0 = kk := by { unfold flip; simp }; rw [e]; exact HO2.out, Fr.refl _ _⟩
  case round =>
    obtain ⟨w5, rfl⟩ : ∃ w5, w5 = wr := ⟨_, rfl⟩
    obtain ⟨j, hj, rfl, HO5, Hf5⟩ := hrel
    have hB5 := HB2.out.fr Hf5.out hx2
    have v4 : w5.cell? ⟨bx, 4, none⟩ = some (.slice KA kn kc) := hB5.cell' rfl
    have hfl := flip_len kk (j := j) (by rw [← Hk1.out]; exact hj)
    by_cases hlt : j < kn
    · have hjk : j < kk.length := by rw [← Hk1.out]; exact hlt
      have hget : (flip kk j ++ [true, false, true]).getD j false = kk.getD j false := by
        rw [List.getD_eq_getElem?_getD, List.getElem?_append_left (by omega), ← List.getD_eq_getElem?_getD]
        exact flip_at kk (Nat.le_refl _) hjk
      obtain ⟨b', o', e1, -, ca, za⟩ := HO5.out.look (bool_get (xs := flip kk j ++ [true, false, true]) (k := j) (by rw [List.length_append]; omega))
      cases e1
      rw [hget] at ca
      obtain ⟨kb, ko, rfl, ckw⟩ := HK1.out.at_ (bool_get (xs := kk) (k := j) hjk)
      have hkb : kb < w.heap.size := World.block_lt_of_cell? w _ ckw
      have hkb2 : ¬ kb = b2 := by omega
      have ck := (Hf5.out.cell (p := ⟨kb, ko + j, none⟩) (by have := World.block_lt_of_cell? w2 _ ((Hf02.out.cell (p := ⟨kb, ko + j, none⟩) hkb id).trans ckw); exact this) hkb2).trans ((Hf02.out.cell (p := ⟨kb, ko + j, none⟩) hkb id).trans ckw)
      obtain ⟨v, hv⟩ : ∃ v, kk.getD j false = v := ⟨_, rfl⟩
      rw [hv] at ca ck
      have hset : (flip kk j ++ [true, false, true]).set j (!v) = flip kk (j + 1) ++ [true, false, true] := by
        rw [List.set_append_left _ _ (by omega), ← hv, flip_succ kk hjk]
      have Hset := hide hset
      have i0 : (0 : Int) ≤ (j : Int) := by omega
      have i1 : (j : Int) < (kn : Int) := by omega
      clear hB5 hfl hjk hget ckw hkb hkb2 hv hset
      go_wp2_with fail
      go_quiet (fail)
      go_wp2_with fail
      refine ⟨⟨j + 1, by omega, by go_num, ?_, ?_⟩, by simp [intOf]; omega⟩
      · have hO6 := HO5.out.fr (S := fun _ => False) (w' := w5.drewN nq) ((Fr.refl _ _).drewN _) (fun _ _ => id)
        have := hO6.put (j := j) (by omega) (.bool (!v))
        rw [← List.map_set, Hset.out] at this
        exact this
      · exact (Hf5.out.drewN _).setIn (.inl rfl) _
    · obtain rfl : kn = j := by omega
      have hlen : (flip kk kn ++ [true, false, true]).length = kn + 3 := by rw [List.length_append, hfl, ← Hk1.out]; rfl
      have hg0 : ∀ i, i < 3 → (flip kk kn ++ [true, false, true]).getD (kn + i) false = [true, false, true].getD i false := fun i hi => by
        rw [List.getD_eq_getElem?_getD, List.getElem?_append_right (by rw [hfl, ← Hk1.out]; omega), List.getD_eq_getElem?_getD]
        congr 2; rw [hfl, ← Hk1.out]; omega
      obtain ⟨b', o', e1, -, ca, -⟩ := HO5.out.look (bool_get (xs := flip kk kn ++ [true, false, true]) (k := kn + 0) (by omega))
      cases e1
      obtain ⟨b', o', e1, -, cb, -⟩ := HO5.out.look (bool_get (xs := flip kk kn ++ [true, false, true]) (k := kn + 1) (by omega))
      cases e1
      obtain ⟨b', o', e1, -, cc, -⟩ := HO5.out.look (bool_get (xs := flip kk kn ++ [true, false, true]) (k := kn + 2) (by omega))
      cases e1
      rw [hg0 0 (by omega)] at ca
      rw [hg0 1 (by omega)] at cb
      rw [hg0 2 (by omega)] at cc
      rw [Nat.add_zero] at ca
      simp only [List.getD_cons_zero, List.getD_cons_succ] at ca cb cc
      have q1 : IntKind.i64.wrap ((kn : Int) + 1) = ((kn + 1 : Nat) : Int) := by rw [IntWalk.i64_in _ (by omega)]; omega
      have q2 : IntKind.i64.wrap ((kn : Int) + 2) = ((kn + 2 : Nat) : Int) := by rw [IntWalk.i64_in _ (by omega)]; omega
      have i0 : (0 : Int) ≤ (kn : Int) := by omega
      have i1 : (kn : Int) < ((kn + 3 : Nat) : Int) := by omega
      have i2 : (0 : Int) ≤ ((kn + 1 : Nat) : Int) := by omega
      have i3 : ((kn + 1 : Nat) : Int) < ((kn + 3 : Nat) : Int) := by omega
      have i4 : (0 : Int) ≤ ((kn + 2 : Nat) : Int) := by omega
      have i5 : ((kn + 2 : Nat) : Int) < ((kn + 3 : Nat) : Int) := by omega
      have n1 : kn < kn + 3 := by omega
      have n2 : kn + 1 < kn + 3 := by omega
      have n3 : kn + 2 < kn + 3 := by omega
      clear hlen hg0 hfl hB5 hlt hj
      go_wp2_with fail
      go_ret
      exact ⟨rfl, Hf02.out.comp Hf5.out (fun i hi e => by omega)⟩
set_option maxHeartbeats 16000000 in
set_option maxRecDepth 100000 in
theorem plays_nil {W w : World} (hw0 : Fr (fun _ => False) W w) (op : OpD) (hO : OpIs W op) :
    Calls Try.prog 29 #[.pointer none, .pointer none, .agg op.cells.toArray] w fun e w' => e = .returned (.bool true) ∧ Fr (fun _ => False) w w' := by
  have hcr := fun (wx : World) (hf : Fr (fun _ => False) w wx) => crashes_nil (hw0.trans hf) op hO
  obtain ⟨who, kd, nn, DA, dn, dc, dd, KA, kn, kc, kk, tn, ct⟩ := op
  have Hcr := hide hcr
  have HO := hide hO
  have H0 := hide hw0
  have hd3 : dn ≤ 140737488351232 := hO.d3
  have Hdl : Hid (dn = dd.length) := hO.d1
  obtain ⟨bx, hbx⟩ : ∃ bx, w.heap.size = bx := ⟨_, rfl⟩
  clear hcr hO hw0
  by_cases k1 : kd = 1
  · subst k1
    show Calls Try.prog 29 #[.pointer none, .pointer none, .agg #[.int .i64 who, .int .i64 1, .int .i64 nn, .slice DA dn dc, .slice KA kn kc, .int .i64 tn, .int .i64 ct]] w fun e w' => e = .returned (.bool true) ∧ Fr (fun _ => False) w w'
    go_enter Try.func29, Try.ntmps29
    go_wp2_with fail
    obtain ⟨wB, HwB⟩ : ∃ wB, Hid (wB = w.alloc (.cells #[.int .i64 who, .int .i64 1, .int .i64 nn, .slice DA dn dc, .slice KA kn kc, .int .i64 tn, .int .i64 ct] 61)) := ⟨_, rfl⟩
    have HB : Hid (Bl wB bx 61 #[.int .i64 who, .int .i64 1, .int .i64 nn, .slice DA dn dc, .slice KA kn kc, .int .i64 tn, .int .i64 ct]) := by rw [HwB.out, ← hbx]; exact Bl.new _ _ _
    have HfB : Hid (Fr (fun _ => False) w wB) := by rw [HwB.out]; exact (Fr.refl _ _).alloc _
    rw [← HwB.out]
    first | rw [hbx] | skip
    clear HwB
    refine (lent_any wB dd DA dn dc (by omega) (HO.out.d4.below (H0.out.trans HfB.out) (fun _ _ => id))).mono ?_
    rintro e w1 ⟨LA, Lc, gL, rfl, hL, hgL, hf⟩
    have HB2 := hide (HB.out.fr hf id)
    have HL := hide hL
    have Hf2 := hide (HfB.out.trans hf)
    have hgW : bx + 1 ≤ gL := by have := HB.out.lt; omega
    have x2 : w1.cell? ⟨bx, 2, none⟩ = some ((.int .i64 nn)) := HB2.out.cell' rfl
    have x3 : w1.cell? ⟨bx, 3, none⟩ = some (.slice DA dn dc) := HB2.out.cell' rfl
    clear hL hgL hf HB HfB
    go_wp2_with fail
    refine (rwrite_nil w1 nn DA dn dc).mono ?_
    rintro e w' ⟨rfl, rfl⟩
    go_wp2_with fail
    refine (write_nil w1 nn LA dn Lc).mono ?_
    rintro e w' ⟨rfl, rfl⟩
    go_wp2_with fail
    refine (num_any _ _).mono ?_
    rintro e w' ⟨rfl, rfl⟩
    go_wp2_with fail
    refine (kept_q w1 dd _ _ dn _ _ gL (by omega) Hdl.out HL.out (HO.out.d4.below (H0.out.trans Hf2.out) (fun _ _ => id))).mono ?_
    rintro e w4 ⟨rfl, hq⟩
    have hfd := fr_of_drewN hq
    have HL5 := hide (Ow.fr HL.out hfd (fun _ _ => id))
    have Hf5 := hide (Hf2.out.trans hfd)
    clear hq hfd x2 x3 HB2 HL Hf2
    go_wp2_with fail
    refine (over_any w4 dd _ dn _ (some gL) (Lent.own HL5.out Hdl.out) (by omega)).mono ?_
    rintro e w5 ⟨rfl, hf⟩
    have Hf6 := hide (Hf5.out.comp hf (fun i hi e => by cases e; omega))
    clear hf HL5 Hf5
    go_wp2_with fail
    go_ret
    exact ⟨rfl, Hf6.out⟩
  by_cases k2 : kd = 2
  · subst k2
    show Calls Try.prog 29 #[.pointer none, .pointer none, .agg #[.int .i64 who, .int .i64 2, .int .i64 nn, .slice DA dn dc, .slice KA kn kc, .int .i64 tn, .int .i64 ct]] w fun e w' => e = .returned (.bool true) ∧ Fr (fun _ => False) w w'
    go_enter Try.func29, Try.ntmps29
    go_wp2_with fail
    obtain ⟨wB, HwB⟩ : ∃ wB, Hid (wB = w.alloc (.cells #[.int .i64 who, .int .i64 2, .int .i64 nn, .slice DA dn dc, .slice KA kn kc, .int .i64 tn, .int .i64 ct] 61)) := ⟨_, rfl⟩
    have HB : Hid (Bl wB bx 61 #[.int .i64 who, .int .i64 2, .int .i64 nn, .slice DA dn dc, .slice KA kn kc, .int .i64 tn, .int .i64 ct]) := by rw [HwB.out, ← hbx]; exact Bl.new _ _ _
    have HfB : Hid (Fr (fun _ => False) w wB) := by rw [HwB.out]; exact (Fr.refl _ _).alloc _
    rw [← HwB.out]
    first | rw [hbx] | skip
    clear HwB
    refine (rread_nil wB nn).mono ?_
    rintro e w' ⟨rfl, rfl⟩
    have x2 : wB.cell? ⟨bx, 2, none⟩ = some ((.int .i64 nn)) := HB.out.cell' rfl
    go_wp2_with fail
    refine (read_nil wB nn).mono ?_
    rintro e w' ⟨rfl, rfl⟩
    clear x2
    go_wp2_with fail
    refine (num_any _ _).mono ?_
    rintro e w' ⟨rfl, rfl⟩
    go_wp2_with fail
    refine (same_q wB [] none none 0 0 0 rfl (by omega) (Sl.nil_ _ _ _) (Sl.nil_ _ _ _)).mono ?_
    rintro e w3 ⟨rfl, hq⟩
    have Hf4 := hide (HfB.out.trans (fr_of_drewN hq))
    clear hq HB HfB
    go_wp2_with fail
    refine (over_any w3 [] none 0 0 none (e0 := 5) (Ow.nil_ _ _ _) (by omega)).mono ?_
    rintro e w4 ⟨rfl, hf⟩
    have Hf5 := hide (Hf4.out.comp hf (fun i hi e => by cases e))
    clear hf Hf4
    go_wp2_with fail
    go_ret
    exact ⟨rfl, Hf5.out⟩
  by_cases k3 : kd = 3
  · subst k3
    show Calls Try.prog 29 #[.pointer none, .pointer none, .agg #[.int .i64 who, .int .i64 3, .int .i64 nn, .slice DA dn dc, .slice KA kn kc, .int .i64 tn, .int .i64 ct]] w fun e w' => e = .returned (.bool true) ∧ Fr (fun _ => False) w w'
    go_enter Try.func29, Try.ntmps29
    go_wp2_with fail
    obtain ⟨wB, HwB⟩ : ∃ wB, Hid (wB = w.alloc (.cells #[.int .i64 who, .int .i64 3, .int .i64 nn, .slice DA dn dc, .slice KA kn kc, .int .i64 tn, .int .i64 ct] 61)) := ⟨_, rfl⟩
    have HB : Hid (Bl wB bx 61 #[.int .i64 who, .int .i64 3, .int .i64 nn, .slice DA dn dc, .slice KA kn kc, .int .i64 tn, .int .i64 ct]) := by rw [HwB.out, ← hbx]; exact Bl.new _ _ _
    have HfB : Hid (Fr (fun _ => False) w wB) := by rw [HwB.out]; exact (Fr.refl _ _).alloc _
    rw [← HwB.out]
    first | rw [hbx] | skip
    clear HwB
    refine (rsync_nil wB).mono ?_
    rintro e w' ⟨rfl, rfl⟩
    go_wp2_with fail
    refine (sync_nil wB).mono ?_
    rintro e w' ⟨rfl, rfl⟩
    go_wp2_with fail
    refine (num_any _ _).mono ?_
    rintro e w' ⟨rfl, rfl⟩
    go_wp2_with fail
    go_ret
    exact ⟨rfl, HfB.out⟩
  by_cases k4 : kd = 4
  · subst k4
    show Calls Try.prog 29 #[.pointer none, .pointer none, .agg #[.int .i64 who, .int .i64 4, .int .i64 nn, .slice DA dn dc, .slice KA kn kc, .int .i64 tn, .int .i64 ct]] w fun e w' => e = .returned (.bool true) ∧ Fr (fun _ => False) w w'
    go_enter Try.func29, Try.ntmps29
    go_wp2_with fail
    obtain ⟨wB, HwB⟩ : ∃ wB, Hid (wB = w.alloc (.cells #[.int .i64 who, .int .i64 4, .int .i64 nn, .slice DA dn dc, .slice KA kn kc, .int .i64 tn, .int .i64 ct] 61)) := ⟨_, rfl⟩
    have HB : Hid (Bl wB bx 61 #[.int .i64 who, .int .i64 4, .int .i64 nn, .slice DA dn dc, .slice KA kn kc, .int .i64 tn, .int .i64 ct]) := by rw [HwB.out, ← hbx]; exact Bl.new _ _ _
    have HfB : Hid (Fr (fun _ => False) w wB) := by rw [HwB.out]; exact (Fr.refl _ _).alloc _
    rw [← HwB.out]
    first | rw [hbx] | skip
    clear HwB
    refine (counts_nil wB).mono ?_
    rintro e w1 ⟨rfl, hf⟩
    have Hf2 := hide (HfB.out.trans hf)
    clear hf
    go_wp2_with fail
    go_ret
    exact ⟨rfl, Hf2.out⟩
  by_cases k5 : kd = 5
  · subst k5
    show Calls Try.prog 29 #[.pointer none, .pointer none, .agg #[.int .i64 who, .int .i64 5, .int .i64 nn, .slice DA dn dc, .slice KA kn kc, .int .i64 tn, .int .i64 ct]] w fun e w' => e = .returned (.bool true) ∧ Fr (fun _ => False) w w'
    go_enter Try.func29, Try.ntmps29
    go_wp2_with fail
    obtain ⟨wB, HwB⟩ : ∃ wB, Hid (wB = w.alloc (.cells #[.int .i64 who, .int .i64 5, .int .i64 nn, .slice DA dn dc, .slice KA kn kc, .int .i64 tn, .int .i64 ct] 61)) := ⟨_, rfl⟩
    have HB : Hid (Bl wB bx 61 #[.int .i64 who, .int .i64 5, .int .i64 nn, .slice DA dn dc, .slice KA kn kc, .int .i64 tn, .int .i64 ct]) := by rw [HwB.out, ← hbx]; exact Bl.new _ _ _
    have HfB : Hid (Fr (fun _ => False) w wB) := by rw [HwB.out]; exact (Fr.refl _ _).alloc _
    rw [← HwB.out]
    first | rw [hbx] | skip
    clear HwB
    refine (rfuse_nil wB nn).mono ?_
    rintro e w' ⟨rfl, rfl⟩
    have x2 : wB.cell? ⟨bx, 2, none⟩ = some ((.int .i64 nn)) := HB.out.cell' rfl
    go_wp2_with fail
    refine (fuse_nil wB nn).mono ?_
    rintro e w' ⟨rfl, rfl⟩
    clear x2
    go_wp2_with fail
    go_ret
    exact ⟨rfl, HfB.out⟩
  by_cases k6 : kd = 6
  · subst k6
    show Calls Try.prog 29 #[.pointer none, .pointer none, .agg #[.int .i64 who, .int .i64 6, .int .i64 nn, .slice DA dn dc, .slice KA kn kc, .int .i64 tn, .int .i64 ct]] w fun e w' => e = .returned (.bool true) ∧ Fr (fun _ => False) w w'
    go_enter Try.func29, Try.ntmps29
    go_wp2_with fail
    obtain ⟨wB, HwB⟩ : ∃ wB, Hid (wB = w.alloc (.cells #[.int .i64 who, .int .i64 6, .int .i64 nn, .slice DA dn dc, .slice KA kn kc, .int .i64 tn, .int .i64 ct] 61)) := ⟨_, rfl⟩
    have HB : Hid (Bl wB bx 61 #[.int .i64 who, .int .i64 6, .int .i64 nn, .slice DA dn dc, .slice KA kn kc, .int .i64 tn, .int .i64 ct]) := by rw [HwB.out, ← hbx]; exact Bl.new _ _ _
    have HfB : Hid (Fr (fun _ => False) w wB) := by rw [HwB.out]; exact (Fr.refl _ _).alloc _
    rw [← HwB.out]
    first | rw [hbx] | skip
    clear HwB
    refine (Hcr.out wB HfB.out).mono ?_
    rintro e w1 ⟨rfl, hf⟩
    have Hf2 := hide (HfB.out.trans hf)
    clear hf
    go_wp2_with fail
    go_ret
    exact ⟨rfl, Hf2.out⟩
  by_cases k7 : kd = 7
  · subst k7
    show Calls Try.prog 29 #[.pointer none, .pointer none, .agg #[.int .i64 who, .int .i64 7, .int .i64 nn, .slice DA dn dc, .slice KA kn kc, .int .i64 tn, .int .i64 ct]] w fun e w' => e = .returned (.bool true) ∧ Fr (fun _ => False) w w'
    go_enter Try.func29, Try.ntmps29
    go_wp2_with fail
    obtain ⟨wB, HwB⟩ : ∃ wB, Hid (wB = w.alloc (.cells #[.int .i64 who, .int .i64 7, .int .i64 nn, .slice DA dn dc, .slice KA kn kc, .int .i64 tn, .int .i64 ct] 61)) := ⟨_, rfl⟩
    have HB : Hid (Bl wB bx 61 #[.int .i64 who, .int .i64 7, .int .i64 nn, .slice DA dn dc, .slice KA kn kc, .int .i64 tn, .int .i64 ct]) := by rw [HwB.out, ← hbx]; exact Bl.new _ _ _
    have HfB : Hid (Fr (fun _ => False) w wB) := by rw [HwB.out]; exact (Fr.refl _ _).alloc _
    rw [← HwB.out]
    first | rw [hbx] | skip
    clear HwB
    refine (image_nil wB).mono ?_
    rintro e w' ⟨rfl, rfl⟩
    go_wp2_with fail
    refine (rimage_nil wB).mono ?_
    rintro e w' ⟨rfl, rfl⟩
    go_wp2_with fail
    refine (same_q wB [] none none 0 0 0 rfl (by omega) (Sl.nil_ _ _ _) (Sl.nil_ _ _ _)).mono ?_
    rintro e w3 ⟨rfl, hq⟩
    have Hf4 := hide (HfB.out.trans (fr_of_drewN hq))
    clear hq HB HfB
    go_wp2_with fail
    refine (over_any w3 [] none 0 0 none (e0 := 5) (Ow.nil_ _ _ _) (by omega)).mono ?_
    rintro e w4 ⟨rfl, hf⟩
    have Hf5 := hide (Hf4.out.comp hf (fun i hi e => by cases e))
    clear hf Hf4
    go_wp2_with fail
    go_ret
    exact ⟨rfl, Hf5.out⟩
  have b1 : (kd == 1) = false := by simpa using k1
  have b2 : (kd == 2) = false := by simpa using k2
  have b3 : (kd == 3) = false := by simpa using k3
  have b4 : (kd == 4) = false := by simpa using k4
  have b5 : (kd == 5) = false := by simpa using k5
  have b6 : (kd == 6) = false := by simpa using k6
  have b7 : (kd == 7) = false := by simpa using k7
  clear k1 k2 k3 k4 k5 k6 k7
  show Calls Try.prog 29 #[.pointer none, .pointer none, .agg #[.int .i64 who, .int .i64 kd, .int .i64 nn, .slice DA dn dc, .slice KA kn kc, .int .i64 tn, .int .i64 ct]] w fun e w' => e = .returned (.bool true) ∧ Fr (fun _ => False) w w'
  go_enter Try.func29, Try.ntmps29
  go_wp2_with fail
  go_ret
  exact ⟨rfl, (Fr.refl _ _).alloc _⟩
#print axioms plays_nil
end Go.Proofs.Ythcklgelbckffaa
