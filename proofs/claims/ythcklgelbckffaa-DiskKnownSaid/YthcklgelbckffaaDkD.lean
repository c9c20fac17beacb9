/-
  DiskKnown: the walk.
-/
import Derived.Test.YthcklgelbckffaaDkN
namespace Go.Proofs.Ythcklgelbckffaa
open Go.RowKit
set_option linter.unusedVariables false
set_option linter.unusedSimpArgs false
def r1 : List Nat := List.replicate 64 1
def kn1 : DS := (newS 3).writeS 3 0 r1
def kn2 : DS := { kn1 with fuse := 1 }
def kn3 : DS := kn2.syncS
def kn4 : DS := { kn3 with fuse := -1 }
theorem kn_w : writeN 3 (newS 3) 0 64 = 0 := by decide +kernel
theorem kn_3 : syncN kn2 = 0 ∧ syncN kn3 = 80 ∧ kn3.syncS = kn3 ∧ decide (kn3.fuse ≠ 0) = false ∧ readN 3 kn3 0 = 80 ∧ kn3.readS 3 0 = [] ∧ writeN 3 kn3 9 0 = 80 ∧ kn3.writeS 3 9 [] = kn3 ∧ kn3.wr = 1 ∧ kn3.sy = 1 ∧ kn2.sy = 0 ∧ kn3.row.length = 0 ∧ kn3.sf.length = 192 ∧ (kn3.sf.map bn)[0]? = some (.int .u8 1) := by
  refine ⟨by decide +kernel, by decide +kernel, by rfl, by decide +kernel, by decide +kernel, by decide +kernel, by decide +kernel, by rfl, by decide +kernel, by decide +kernel, by decide +kernel, by decide +kernel, by decide +kernel, by rfl⟩
theorem kn_4 : writeN 3 kn4 3 0 = 81 ∧ writeN 3 kn4 (-1) 0 = 81 ∧ writeN 3 kn4 2 63 = 82 ∧ writeN 3 kn4 2 65 = 82 ∧ readN 3 kn4 3 = 81 ∧ readN 3 kn4 (-1) = 81 ∧ decide (kn4.fuse ≠ 0) = true ∧ kn4.row.length = 0 ∧ kn4.wr = 1 := by
  refine ⟨by decide +kernel, by decide +kernel, by decide +kernel, by decide +kernel, by decide +kernel, by decide +kernel, by decide +kernel, by decide +kernel, by decide +kernel⟩
theorem kn_5 : kn4.writeS 3 3 [] = kn4 ∧ kn4.writeS 3 (-1) [] = kn4 ∧ kn4.writeS 3 2 (r1.take 63) = kn4 ∧ kn4.writeS 3 2 (r1 ++ [1]) = kn4 ∧ kn4.readS 3 3 = [] ∧ kn4.readS 3 (-1) = [] := ⟨by rfl, by rfl, by rfl, by rfl, by rfl, by rfl⟩
theorem full_cap (w : World) (b : Nat) : Calls Try.prog 31 #[.int .u8 (b : Int)] w fun e w' => ∃ A c g, e = .returned (.slice A 64 c) ∧ 64 ≤ c ∧ c ≤ 9223372036854775807 ∧ Ow w' 5 1 A 64 c ((List.replicate 64 b).map bn) (some g) ∧ w.heap.size ≤ g ∧ Fr (fun _ => False) w w' := (full_any w b).mono fun e w' ⟨A, c, g, h1, h2, h3, h4⟩ => ⟨A, c, g, h1, h2.cap.1, h2.cap.2, h2, h3, h4⟩
set_option maxHeartbeats 8000000 in
set_option maxRecDepth 100000 in
theorem known_walk (w : World) : Calls Try.prog 6 #[] w fun e w' => e = .returned (.bool true) ∧ Fr (fun _ => False) w w' := by
  obtain ⟨i0, hi, hz0, hz1, hz2⟩ := info_parts infoU8
  go_enter Try.func6, Try.ntmps6
  go_wp2_with fail
  refine (awake_any w).mono ?_
  rintro e w1 ⟨rfl, hf1⟩
  have H1 := hide hf1
  clear hf1
  go_wp2_with fail
  refine (new_bad w1 0 (by omega)).mono ?_
  rintro e w' ⟨rfl, rfl⟩
  go_wp2_with fail
  refine (new_bad w1 65537 (by omega)).mono ?_
  rintro e w' ⟨rfl, rfl⟩
  go_wp2_with fail
  refine (load_bad w1 none 0 0 (by omega) (.inl rfl)).mono ?_
  rintro e w' ⟨rfl, rfl⟩
  go_wp2_with fail
  refine (full_cap w1 1).mono ?_
  rintro e w2 ⟨A2, c2, g2, rfl, hc2, hd2, -, -, hf2⟩
  have H2 := hide (H1.out.trans hf2)
  clear hf2 H1
  go_wp2_with fail
  refine (load_bad w2 A2 63 c2 (by omega) (.inr (.inl (by decide)))).mono ?_
  rintro e w' ⟨rfl, rfl⟩
  clear hc2 hd2
  go_wp2_with fail
  refine (new_ok w2 65536 (by omega) (by omega)).mono ?_
  intro e w3 hN
  obtain ⟨py, Fy, rfl, hD⟩ := DN.of hN
  have HY := hide hD
  have H3 := hide (H2.out.trans hD.fr)
  clear hN hD H2
  go_wp2_with fail
  refine (num_any _ _).mono ?_
  rintro e w' ⟨rfl, rfl⟩
  go_wp2_with fail
  refine (num_any _ _).mono ?_
  rintro e w' ⟨rfl, rfl⟩
  go_wp2_with fail
  refine (num_any _ _).mono ?_
  rintro e w' ⟨rfl, rfl⟩
  go_wp2_with fail
  refine (num_any _ _).mono ?_
  rintro e w' ⟨rfl, rfl⟩
  go_wp2_with fail
  refine (num_any _ _).mono ?_
  rintro e w' ⟨rfl, rfl⟩
  go_wp2_with fail
  refine (sectors_any HY.out.di).mono ?_
  rintro e w' ⟨rfl, rfl⟩
  clear HY
  go_wp2_with fail
  refine (new_ok w3 3 (by omega) (by omega)).mono ?_
  intro e w4 hN
  obtain ⟨p, F, rfl, hD⟩ := DN.of hN
  have HD := hide hD
  clear hN hD
  go_wp2_with fail
  refine (full_cap w4 1).mono ?_
  rintro e w5 ⟨A5, c5, g5, rfl, -, -, hO5, hg5, hf5⟩
  have HO := hide hO5
  have HD5 := hide (HD.out.step hf5)
  have Hap := hide (Ow.apart HD.out.di hO5 (fun b hb => by cases hb; exact hg5))
  clear hO5 hg5 hf5 HD
  go_wp2_with fail
  refine (write_is (er := 0) (s' := kn1) HD5.out 0 A5 64 c5 r1 rfl kn_w rfl HO.out.sl (by decide) (by decide) Hap.out).mono ?_
  rintro e w6 ⟨rfl, F6, hD6, -, -⟩
  have HD6 := hide hD6
  clear hD6 HD5 Hap HO
  go_wp2_with fail
  refine (fuse_is (s' := kn2) HD6.out 1 (by omega) rfl).mono ?_
  rintro e w7 ⟨rfl, F7, hD7, -, -⟩
  have HD7 := hide hD7
  clear hD7 HD6
  go_wp2_with fail
  refine (sync_is (er := 0) (s' := kn3) HD7.out kn_3.1 rfl (by rw [kn_3.2.2.2.2.2.2.2.2.2.2.1]; omega)).mono ?_
  rintro e w8 ⟨rfl, F8, hD8, -, -⟩
  have HD8 := hide hD8
  clear hD8 HD7
  go_wp2_with fail
  refine (power_any HD8.out.di).mono ?_
  rintro e w' ⟨rfl, rfl⟩
  rw [kn_3.2.2.2.1]
  go_wp2_with fail
  refine (sync_is (er := 80) (s' := kn3) HD8.out kn_3.2.1 kn_3.2.2.1 (by rw [kn_3.2.2.2.2.2.2.2.2.2.1]; omega)).mono ?_
  rintro e w9 ⟨rfl, F9, hD9, -, -⟩
  have HD9 := hide hD9
  clear hD9 HD8
  go_wp2_with fail
  refine (read_is HD9.out 0 0 kn_3.2.2.2.2.2.1 kn_3.2.2.2.2.1 rfl).mono ?_
  rintro e wa ⟨Aa, ga, ea, rfl, hDa, -, -, -⟩
  have HDa := hide hDa
  clear hDa HD9
  go_wp2_with fail
  refine (write_is (er := 80) (s' := kn3) HDa.out 9 none 0 0 [] rfl kn_3.2.2.2.2.2.2.1 kn_3.2.2.2.2.2.2.2.1 (Sl.nil_ _ _ _) (by rw [kn_3.2.2.2.2.2.2.2.2.2.2.2.1]; omega) (by rw [kn_3.2.2.2.2.2.2.2.2.1]; omega) (fun b h => by obtain ⟨o, h⟩ := h; cases h)).mono ?_
  rintro e wb ⟨rfl, Fb, hDb, -, -⟩
  have HDb := hide hDb
  clear hDb HDa
  go_wp2_with fail
  refine (acts_any HDb.out.di).mono ?_
  rintro e wc ⟨rfl, hfc⟩
  rw [kn_3.2.2.2.2.2.2.2.2.1, kn_3.2.2.2.2.2.2.2.2.2.1]
  have HDc := hide (HDb.out.step hfc)
  clear hfc HDb
  go_wp2_with fail
  refine (num_any _ _).mono ?_
  rintro e w' ⟨rfl, rfl⟩
  go_wp2_with fail
  refine (num_any _ _).mono ?_
  rintro e w' ⟨rfl, rfl⟩
  go_wp2_with fail
  refine (num_any _ _).mono ?_
  rintro e w' ⟨rfl, rfl⟩
  go_wp2_with fail
  refine (num_any _ _).mono ?_
  rintro e w' ⟨rfl, rfl⟩
  go_wp2_with fail
  refine (image_is HDc.out 192 kn_3.2.2.2.2.2.2.2.2.2.2.2.2.1).mono ?_
  rintro e wd ⟨Ad, gd, rfl, hDd, hOd, -, -⟩
  have HDd := hide hDd
  obtain ⟨bd, od, rfl, -, cd, -⟩ := hOd.look (j := 0) kn_3.2.2.2.2.2.2.2.2.2.2.2.2.2
  rw [Nat.add_zero] at cd
  clear hDd hOd HDc
  go_wp2_with fail
  clear cd
  refine (fuse_is (s' := kn4) HDd.out (-1) (by omega) rfl).mono ?_
  rintro e we ⟨rfl, Fe, hDe, -, -⟩
  have HDe := hide hDe
  clear hDe HDd
  go_wp2_with fail
  refine (write_is (er := 81) (s' := kn4) HDe.out 3 none 0 0 [] rfl kn_4.1 kn_5.1 (Sl.nil_ _ _ _) (by rw [kn_4.2.2.2.2.2.2.2.1]; omega) (by rw [kn_4.2.2.2.2.2.2.2.2]; omega) (fun b h => by obtain ⟨o, h⟩ := h; cases h)).mono ?_
  rintro e wf ⟨rfl, Ff, hDf, -, -⟩
  have HDf := hide hDf
  clear hDf HDe
  go_wp2_with fail
  refine (write_is (er := 81) (s' := kn4) HDf.out (-1) none 0 0 [] rfl kn_4.2.1 kn_5.2.1 (Sl.nil_ _ _ _) (by rw [kn_4.2.2.2.2.2.2.2.1]; omega) (by rw [kn_4.2.2.2.2.2.2.2.2]; omega) (fun b h => by obtain ⟨o, h⟩ := h; cases h)).mono ?_
  rintro e wg ⟨rfl, Fg, hDg, -, -⟩
  have HDg := hide hDg
  clear hDg HDf
  go_wp2_with fail
  refine (full_cap wg 1).mono ?_
  rintro e wh ⟨Ah, ch, gh, rfl, hch, hdh, hOh, hgh, hfh⟩
  have HO := hide (hOh.take (k := 63) (by omega))
  have HDh := hide (HDg.out.step hfh)
  have Hap := hide (Ow.apart HDg.out.di hOh (fun b hb => by cases hb; exact hgh))
  clear hOh hgh hfh HDg
  go_wp2_with fail
  refine (write_is (er := 82) (s' := kn4) HDh.out 2 Ah 63 ch (r1.take 63) rfl kn_4.2.2.1 kn_5.2.2.1 HO.out.sl (by rw [kn_4.2.2.2.2.2.2.2.1]; omega) (by rw [kn_4.2.2.2.2.2.2.2.2]; omega) Hap.out).mono ?_
  rintro e wi ⟨rfl, Fi, hDi, -, -⟩
  have HDi := hide hDi
  clear hDi HDh Hap HO hch hdh
  go_wp2_with fail
  refine (full_cap wi 1).mono ?_
  rintro e wj ⟨Aj, cj, gj, rfl, hcj, hdj, hO, hgj, hfj⟩
  have Hgj := hide hgj
  have Hfj := hide hfj
  clear hfj hgj hcj hdj
  go_wp2_with (at_builtin; refine wpList_append_ow _ rfl _ _ 34 rfl 5 i0 (.int .u8 0) 1 1 Try.underlying34 hi hz0 hz1 hz2 rfl (by decide) _ _ _ _ _ rfl (hO.fr ((Fr.refl _ _).alloc _) (fun _ _ => id)) _ _ _ _ rfl (Sl.one _ _ _) (bn_one [_]) (by unfold maxLen; omega) (by omega) ?_)
  intro A3 c3 w3 g3 hO3 hf3 hg3
  have HO := hide hO3
  have hfk : Fr (fun _ => False) wi w3 := by
    have h1 : Fr (fun k => k = gj) wj w3 := ((Fr.refl (fun k => k = gj) wj).alloc _).trans (hf3.mono fun x _ e => by cases e; rfl)
    exact Hfj.out.comp h1 (fun i hi e => by have := Hgj.out; omega)
  have hgk : ∀ b, g3 = some b → wi.heap.size ≤ b := by
    rintro b rfl
    have h1 := Hfj.out.size
    have h2 := Hgj.out
    rcases hg3 with e | ⟨b', e, h⟩
    · cases e; exact h2
    · cases e; first | omega | (simp at h; omega)
  have Hap := hide (Ow.apart HDi.out.di hO3 hgk)
  have HDk := hide (HDi.out.step hfk)
  clear hO3 hf3 hg3 hfk hgk hO Hfj Hgj HDi
  go_wp2_with fail
  refine (write_is (er := 82) (s' := kn4) HDk.out 2 A3 65 c3 (r1 ++ [1]) rfl kn_4.2.2.2.1 kn_5.2.2.2.1 (by have := HO.out.sl; rw [List.map_append]; exact this) (by rw [kn_4.2.2.2.2.2.2.2.1]; omega) (by rw [kn_4.2.2.2.2.2.2.2.2]; omega) Hap.out).mono ?_
  rintro e wl ⟨rfl, Fl, hDl, -, -⟩
  have HDl := hide hDl
  clear hDl HDk Hap HO
  go_wp2_with fail
  refine (read_is HDl.out 3 0 kn_5.2.2.2.2.1 kn_4.2.2.2.2.1 rfl).mono ?_
  rintro e wm ⟨Am, gm, em, rfl, hDm, -, -, -⟩
  have HDm := hide hDm
  clear hDm HDl
  go_wp2_with fail
  refine (read_is HDm.out (-1) 0 kn_5.2.2.2.2.2 kn_4.2.2.2.2.2.1 rfl).mono ?_
  rintro e wn ⟨An, gn, en, rfl, hDn, -, -, -⟩
  have HDn := hide hDn
  clear hDn HDm
  go_wp2_with fail
  refine (num_any _ _).mono ?_
  rintro e w' ⟨rfl, rfl⟩
  go_wp2_with fail
  refine (num_any _ _).mono ?_
  rintro e w' ⟨rfl, rfl⟩
  go_wp2_with fail
  refine (num_any _ _).mono ?_
  rintro e w' ⟨rfl, rfl⟩
  go_wp2_with fail
  refine (num_any _ _).mono ?_
  rintro e w' ⟨rfl, rfl⟩
  go_wp2_with fail
  refine (num_any _ _).mono ?_
  rintro e w' ⟨rfl, rfl⟩
  go_wp2_with fail
  refine (num_any _ _).mono ?_
  rintro e w' ⟨rfl, rfl⟩
  go_wp2_with fail
  refine (power_any HDn.out.di).mono ?_
  rintro e w' ⟨rfl, rfl⟩
  rw [kn_4.2.2.2.2.2.2.1]
  have HF := hide (HDn.out.fr)
  clear HDn
  go_wp2_with fail
  refine (fuse_nil _ _).mono ?_
  rintro e w' ⟨rfl, rfl⟩
  go_wp2_with fail
  refine (crash_nil _ _ _ _ _ _).mono ?_
  rintro e w' ⟨rfl, rfl⟩
  go_wp2_with fail
  refine (full_cap _ 1).mono ?_
  rintro e wo ⟨Ao, co, go, rfl, -, -, -, -, hfo⟩
  have HF2 := hide ((HF.out.alloc _).trans hfo)
  clear hfo HF
  go_wp2_with fail
  refine (write_nil _ _ _ _ _).mono ?_
  rintro e w' ⟨rfl, rfl⟩
  go_wp2_with fail
  refine (read_nil _ _).mono ?_
  rintro e w' ⟨rfl, rfl⟩
  go_wp2_with fail
  refine (sync_nil _).mono ?_
  rintro e w' ⟨rfl, rfl⟩
  go_wp2_with fail
  refine (acts_nil _).mono ?_
  rintro e wp ⟨rfl, hfp⟩
  have HF3 := hide (HF2.out.trans hfp)
  clear hfp HF2
  go_wp2_with fail
  refine (num_any _ _).mono ?_
  rintro e w' ⟨rfl, rfl⟩
  go_wp2_with fail
  refine (num_any _ _).mono ?_
  rintro e w' ⟨rfl, rfl⟩
  go_wp2_with fail
  refine (num_any _ _).mono ?_
  rintro e w' ⟨rfl, rfl⟩
  go_wp2_with fail
  refine (sectors_nil _).mono ?_
  rintro e w' ⟨rfl, rfl⟩
  go_wp2_with fail
  refine (waiting_nil _).mono ?_
  rintro e w' ⟨rfl, rfl⟩
  go_wp2_with fail
  refine (power_nil _).mono ?_
  rintro e w' ⟨rfl, rfl⟩
  go_wp2_with fail
  refine (image_nil _).mono ?_
  rintro e w' ⟨rfl, rfl⟩
  go_wp2_with fail
  go_ret
  exact ⟨rfl, H3.out.trans HF3.out⟩
#print axioms known_walk
end Go.Proofs.Ythcklgelbckffaa
