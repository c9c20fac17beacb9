/-
  awake of chapter 08.
-/
import Derived.Test.YthcklgelbckffaaDkB
namespace Go.Proofs.Ythcklgelbckffaa
open Go.RowKit
set_option linter.unusedVariables false
set_option linter.unusedSimpArgs false
def r5 : List Nat := List.replicate 64 5
def r6 : List Nat := List.replicate 64 6
def aw1 : DS := (newS 3).writeS 3 1 r5
def aw2 : DS := aw1.crash [] (-1) 0
def aw3 : DS := aw2.writeS 3 1 r5
def aw4 : DS := aw3.writeS 3 1 r6
def aw5 : DS := aw4.crash [true, true] 1 2
theorem aw_w1 : writeN 3 (newS 3) 1 64 = 0 := by decide
theorem aw_r1 : aw1.readS 3 1 = r5 ∧ readN 3 aw1 1 = 0 ∧ aw1.sf = zeros 192 ∧ aw1.row.length = 1 ∧ aw1.wr = 1 := by decide +kernel
theorem aw_r2 : aw2.readS 3 1 = List.replicate 64 0 ∧ readN 3 aw2 1 = 0 ∧ aw2.row.length = 0 ∧ aw2.wr = 1 := by decide +kernel
theorem aw_r3 : aw3.row.length = 1 ∧ aw3.wr = 2 := by decide +kernel
theorem aw_r5 : aw5.readS 3 1 = 6 :: 6 :: List.replicate 62 5 ∧ readN 3 aw5 1 = 0 ∧ aw5.wr = 3 ∧ aw5.sy = 0 := by decide +kernel
/-- Calls of a disk, told by DN; what they answer by names. -/
theorem write_is {w0 w : World} {p n : Nat} {F : Nat → Prop} {s s' : DS} {er : Int} (h : DN w0 w p n F s) (at_ : Int) (A : Option Addr) (m c : Nat) (d : List Nat) (hm : m = d.length) (he : writeN n s at_ m = er) (hs : s.writeS n at_ d = s') (hd : Sl w 1 A m (d.map bn)) (hr : (s.row.length + 1) * 72 ≤ 140737488355328) (hwr : s.wr < 8000000000000000000)
    (hap : ∀ b, (∃ o, A = some ⟨b, o, none⟩) → ¬ F b) :
    Calls Try.prog 12 #[.pointer (some ⟨p, 0, none⟩), .int .i64 at_, .slice A m c] w fun e w' => e = .returned (.int .i64 er) ∧ ∃ F', DN w0 w' p n F' s' ∧ Fr F w w' ∧ ∀ k, k < w.heap.size → F' k → F k := by
  subst he; subst hs
  exact (write_any h.di at_ A m c d hm hd hr hwr hap).mono fun e w' ⟨h1, h2⟩ => ⟨h1, h.out h2⟩
theorem sync_is {w0 w : World} {p n : Nat} {F : Nat → Prop} {s s' : DS} {er : Int} (h : DN w0 w p n F s) (he : syncN s = er) (hs : s.syncS = s') (hsy : s.sy < 8000000000000000000) :
    Calls Try.prog 14 #[.pointer (some ⟨p, 0, none⟩)] w fun e w' => e = .returned (.int .i64 er) ∧ ∃ F', DN w0 w' p n F' s' ∧ Fr F w w' ∧ ∀ k, k < w.heap.size → F' k → F k := by
  subst he; subst hs
  exact (sync_any h.di hsy).mono fun e w' ⟨h1, h2⟩ => ⟨h1, h.out h2⟩
theorem fuse_is {w0 w : World} {p n : Nat} {F : Nat → Prop} {s s' : DS} (h : DN w0 w p n F s) (k : Int) (hk : k ≤ 9223372036854775807) (hs : ({ s with fuse := if k < 0 then -1 else k } : DS) = s') :
    Calls Try.prog 11 #[.pointer (some ⟨p, 0, none⟩), .int .i64 k] w fun e w' => e = .returned (.tuple #[]) ∧ ∃ F', DN w0 w' p n F' s' ∧ Fr F w w' ∧ ∀ k, k < w.heap.size → F' k → F k := by
  subst hs
  exact (fuse_any k hk h.di).mono fun e w' ⟨h1, h2⟩ => ⟨h1, h.out h2⟩
theorem crash_is {w0 w : World} {p n : Nat} {F : Nat → Prop} {s s' : DS} (h : DN w0 w p n F s) (KA : Option Addr) (kn kc : Nat) (keep : List Bool) (hkn : kn = keep.length) (hK : Sl w 1 KA kn (keep.map .bool)) (tn cut : Int) (hs : s.crash keep tn cut = s') (hap : ∀ b, (∃ o, KA = some ⟨b, o, none⟩) → ¬ F b) :
    Calls Try.prog 19 #[.pointer (some ⟨p, 0, none⟩), .slice KA kn kc, .int .i64 tn, .int .i64 cut] w fun e w' => e = .returned (.tuple #[]) ∧ ∃ F', DN w0 w' p n F' s' ∧ Fr F w w' ∧ ∀ k, k < w.heap.size → F' k → F k := by
  subst hs
  exact (crash_any h.di KA kn kc keep hkn hK tn cut hap).mono fun e w' ⟨h1, h2⟩ => ⟨h1, h.out h2⟩
theorem read_is {w0 w : World} {p n : Nat} {F : Nat → Prop} {s : DS} {xs : List Nat} {er : Int} (h : DN w0 w p n F s) (at_ : Int) (m : Nat) (hx : s.readS n at_ = xs) (he : readN n s at_ = er) (hm : xs.length = m) :
    Calls Try.prog 20 #[.pointer (some ⟨p, 0, none⟩), .int .i64 at_] w fun e w' => ∃ A g e0, e = .returned (.tuple #[.slice A m m, .int .i64 er]) ∧ DN w0 w' p n F s ∧ Ow w' e0 1 A m m (xs.map bn) g ∧ (∀ b, g = some b → w.heap.size ≤ b) ∧ Fr (fun _ => False) w w' := by
  subst hx; subst he; subst hm
  refine (read_any h.di at_).mono ?_
  rintro e w' ⟨⟨A, g, e0, h1, h2, h3⟩, h4⟩
  exact ⟨A, g, e0, h1, h.step h4, h2, h3, h4⟩
theorem image_is {w0 w : World} {p n : Nat} {F : Nat → Prop} {s : DS} (h : DN w0 w p n F s) (m : Nat) (hm : s.sf.length = m) :
    Calls Try.prog 18 #[.pointer (some ⟨p, 0, none⟩)] w fun e w' => ∃ A g, e = .returned (.slice A m m) ∧ DN w0 w' p n F s ∧ Ow w' 5 1 A m m (s.sf.map bn) g ∧ (∀ b, g = some b → w.heap.size ≤ b) ∧ Fr (fun _ => False) w w' := by
  subst hm
  refine (image_any h.di).mono ?_
  rintro e w' ⟨A, g, h1, h2, h3, h4⟩
  exact ⟨A, g, h1, h.step h4, h2, h3, h4⟩
theorem full_is (w : World) (b : Nat) : Calls Try.prog 31 #[.int .u8 (b : Int)] w fun e w' => ∃ A c g, e = .returned (.slice A 64 c) ∧ Ow w' 5 1 A 64 c ((List.replicate 64 b).map bn) (some g) ∧ w.heap.size ≤ g ∧ Fr (fun _ => False) w w' := full_any w b
set_option maxHeartbeats 4000000 in
set_option maxRecDepth 8000 in
theorem awake_any (w : World) : Calls Try.prog 8 #[] w fun e w' => e = .returned (.bool true) ∧ Fr (fun _ => False) w w' := by
  go_enter Try.func8, Try.ntmps8
  go_wp2_with fail
  refine (new_ok w 3 (by omega) (by omega)).mono ?_
  intro e w1 hN
  obtain ⟨p, F, rfl, hD⟩ := DN.of hN
  clear hN
  have HD := hide hD
  clear hD
  go_wp2_with fail
  refine (num_any _ _).mono ?_
  rintro e w' ⟨rfl, rfl⟩
  go_wp2_with fail
  refine (sectors_any HD.out.di).mono ?_
  rintro e w' ⟨rfl, rfl⟩
  go_wp2_with fail
  refine (power_any HD.out.di).mono ?_
  rintro e w' ⟨rfl, rfl⟩
  have hpw : decide ((newS 3).fuse ≠ 0) = true := by decide
  rw [hpw]
  clear hpw
  go_wp2_with fail
  refine (full_is w1 5).mono ?_
  rintro e w2 ⟨A, c, g, rfl, hO, hg, hf⟩
  have HO := hide hO
  have Hg := hide hg
  have Hf := hide hf
  clear hO hg hf
  go_wp2_with fail
  refine (write_is (er := 0) (s' := aw1) (HD.out.step Hf.out) 1 A 64 c r5 rfl aw_w1 rfl (HO.out.sl) (by decide) (by decide) (Ow.apart HD.out.di HO.out (fun b hb => by cases hb; exact Hg.out))).mono ?_
  rintro e w3 ⟨rfl, F2, hD2, -, -⟩
  have HD2 := hide hD2
  clear hD2
  go_wp2_with fail
  refine (read_is HD2.out 1 64 aw_r1.1 aw_r1.2.1 (by decide)).mono ?_
  rintro e w4 ⟨A4, g4, e4, rfl, hD4, hO4, -, -⟩
  have HD4 := hide hD4
  have HO4 := hide hO4
  clear hD4 hO4 HD2 HO Hg Hf
  go_wp2_with fail
  refine (image_is HD4.out 192 (by decide +kernel)).mono ?_
  rintro e w5 ⟨A5, g5, rfl, hD5, hO5, -, hf5⟩
  have HD5 := hide hD5
  have HO5 := hide hO5
  have HO4' := hide (HO4.out.fr hf5 (fun _ _ => id))
  clear hD5 hO5 HD4 HO4 hf5
  go_wp2_with fail
  refine (num_any _ _).mono ?_
  rintro e w' ⟨rfl, rfl⟩
  go_wp2_with fail
  refine (num_any _ _).mono ?_
  rintro e w' ⟨rfl, rfl⟩
  go_wp2_with fail
  refine (full_is w5 5).mono ?_
  rintro e w6 ⟨A6, c6, g6, rfl, hO6, -, hf6⟩
  have HO6 := hide hO6
  have HD6 := hide (HD5.out.step hf6)
  have HI6 := hide (HO5.out.fr hf6 (fun _ _ => id))
  have HP6 := hide (HO4'.out.fr hf6 (fun _ _ => id))
  clear hO6 hf6 HD5 HO5 HO4'
  go_wp2_with fail
  refine (same_q w6 r5 A4 A6 64 c6 64 rfl (by omega) HP6.out.sl HO6.out.sl).mono ?_
  rintro e w7 ⟨rfl, hq7⟩
  have hf7 := fr_of_drewN hq7
  have HD7 := hide (HD6.out.step hf7)
  have HI7 := hide (HI6.out.fr hf7 (fun _ _ => id))
  clear hf7 hq7 HD6 HI6 HP6 HO6
  obtain ⟨b5, o5, rfl, -, c5, -⟩ := HI7.out.look (j := 64) (u := .int .u8 0) (by rw [aw_r1.2.2.1]; rfl)
  go_wp2_with fail
  refine (waiting_any HD7.out.di).mono ?_
  rintro e w' ⟨rfl, rfl⟩
  rw [aw_r1.2.2.2.1]
  clear c5 HI7
  go_wp2_with fail
  refine (crash_is (s' := aw2) HD7.out none 0 0 [] rfl (Sl.nil_ _ _ _) (-1) 0 rfl (fun b h => by obtain ⟨o, h⟩ := h; cases h)).mono ?_
  rintro e w8 ⟨rfl, F8, hD8, -, -⟩
  have HD8 := hide hD8
  clear hD8 HD7
  go_wp2_with fail
  refine (read_is HD8.out 1 64 aw_r2.1 aw_r2.2.1 (by decide)).mono ?_
  rintro e w9 ⟨A9, g9, e9, rfl, hD9, hO9, -, -⟩
  have HD9 := hide hD9
  have HO9 := hide hO9
  clear hD9 hO9 HD8
  go_wp2_with fail
  refine (num_any _ _).mono ?_
  rintro e w' ⟨rfl, rfl⟩
  go_wp2_with fail
  refine (full_is w9 0).mono ?_
  rintro e wa ⟨Aa, ca, ga, rfl, hOa, -, hfa⟩
  have HOa := hide hOa
  have HDa := hide (HD9.out.step hfa)
  have HPa := hide (HO9.out.fr hfa (fun _ _ => id))
  clear hOa hfa HD9 HO9
  go_wp2_with fail
  refine (same_q wa (List.replicate 64 0) A9 Aa 64 ca 64 (by decide) (by omega) HPa.out.sl HOa.out.sl).mono ?_
  rintro e wb ⟨rfl, hqb⟩
  have HDb := hide (HDa.out.step (fr_of_drewN hqb))
  clear hqb HDa HPa HOa
  go_wp2_with fail
  refine (waiting_any HDb.out.di).mono ?_
  rintro e w' ⟨rfl, rfl⟩
  rw [aw_r2.2.2.1]
  go_wp2_with fail
  refine (full_is wb 5).mono ?_
  rintro e wc ⟨Ac, cc, gc, rfl, hOc, hgc, hfc⟩
  have HOc := hide hOc
  have HDc := hide (HDb.out.step hfc)
  have Hapc := hide (Ow.apart HDb.out.di hOc (fun b hb => by cases hb; exact hgc))
  clear hOc hfc hgc HDb
  go_wp2_with fail
  refine (write_is (er := 0) (s' := aw3) HDc.out 1 Ac 64 cc r5 rfl (by decide +kernel) rfl HOc.out.sl (by rw [aw_r2.2.2.1]; omega) (by rw [aw_r2.2.2.2]; omega) Hapc.out).mono ?_
  rintro e wd ⟨rfl, Fd, hDd, -, -⟩
  have HDd := hide hDd
  clear hDd HDc Hapc HOc
  go_wp2_with fail
  refine (full_is wd 6).mono ?_
  rintro e we ⟨Ae, ce, ge, rfl, hOe, hge, hfe⟩
  have HOe := hide hOe
  have HDe := hide (HDd.out.step hfe)
  have Hape := hide (Ow.apart HDd.out.di hOe (fun b hb => by cases hb; exact hge))
  clear hOe hfe hge HDd
  go_wp2_with fail
  refine (write_is (er := 0) (s' := aw4) HDe.out 1 Ae 64 ce r6 rfl (by decide +kernel) rfl HOe.out.sl (by rw [aw_r3.1]; omega) (by rw [aw_r3.2]; omega) Hape.out).mono ?_
  rintro e wf ⟨rfl, Ff, hDf, -, -⟩
  have HDf := hide hDf
  clear hDf HDe Hape HOe
  go_wp2_with fail
  refine (crash_is (s' := aw5) (HDf.out.step ((Fr.refl _ _).alloc _)) _ 2 2 [true, true] rfl (Sl.row wf [.bool true, .bool true] _ 1 2 rfl) 1 2 rfl (fun b h hF => by obtain ⟨o, h⟩ := h; cases h; exact absurd (HDf.out.di.lt hF) (Nat.lt_irrefl _))).mono ?_
  rintro e wg ⟨rfl, Fg, hDg, -, -⟩
  have HDg := hide hDg
  clear hDg HDf
  go_wp2_with fail
  refine (read_is HDg.out 1 64 aw_r5.1 aw_r5.2.1 (by decide)).mono ?_
  rintro e wh ⟨Ah, gh, eh, rfl, hDh, hOh, -, -⟩
  have HDh := hide hDh
  obtain ⟨bh, oh, rfl, -, k1, -⟩ := hOh.look (j := 1) (u := .int .u8 6) (by rfl)
  obtain ⟨bh2, oh2, q2, -, k2, -⟩ := hOh.look (j := 2) (u := .int .u8 5) (by rfl)
  obtain ⟨bh3, oh3, q3, -, k3, -⟩ := hOh.look (j := 63) (u := .int .u8 5) (by rfl)
  cases q2; cases q3
  clear hDh hOh HDg
  go_wp2_with fail
  refine (acts_any HDh.out.di).mono ?_
  rintro e wi ⟨rfl, hfi⟩
  rw [aw_r5.2.2.1, aw_r5.2.2.2]
  have m1 := (hfi.cell (World.block_lt_of_cell? wh _ k1) id).trans k1
  have m2 := (hfi.cell (World.block_lt_of_cell? wh _ k2) id).trans k2
  have m3 := (hfi.cell (World.block_lt_of_cell? wh _ k3) id).trans k3
  have HDi := hide (HDh.out.step hfi)
  clear k1 k2 k3 hfi HDh
  go_wp2_with fail
  refine (num_any _ _).mono ?_
  rintro e w' ⟨rfl, rfl⟩
  go_wp2_with fail
  go_ret
  exact ⟨rfl, HDi.out.fr⟩
#print axioms awake_any
end Go.Proofs.Ythcklgelbckffaa
