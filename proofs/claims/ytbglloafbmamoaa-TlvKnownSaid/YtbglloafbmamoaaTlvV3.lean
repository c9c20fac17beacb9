/-
  TlvKnown: faults (of readers and of a writer). (printed by kn_faults.py)
-/
import Derived.Test.YtbglloafbmamoaaTlvV1
namespace Go.Proofs.Ytbglloafbmamoaa
open Go.RowKit
set_option linter.unusedVariables false
set_option linter.unusedSimpArgs false
def kF (a e : Int) : RF := ⟨a, e⟩
def kBytes : List Nat := [5, 4, 1, 2, 172, 2]
def kD (tk : List Bool) : RD := ⟨kBytes, 0, [⟨5, 0, 2, 6⟩], tk⟩
def kE (tk : List Bool) : RD := ⟨[1, 2, 172, 2], 2, [⟨1, 0, 2, 4⟩], tk⟩
theorem k1 : (WS.fresh.number 3 1) = ⟨[3, 1, 1], 3, 0⟩ := by kernel_rfl
theorem k2 : (⟨[3, 1, 1], 3, 0⟩ : WS).number 3 1 = ⟨[3, 1, 1], 3, 21⟩ := by kernel_rfl
theorem k3 : numberS (awakeD [false, false]) ⟨0, 0⟩ 1 299 = (0, ⟨2, 3⟩) := by kernel_rfl
theorem k4 : (awakeD [false, false]).took ⟨0, 0⟩ 1 = awakeD [true, false] := by kernel_rfl
theorem k5 : rawS (awakeD [true, false]) ⟨2, 3⟩ 3 9 = ([], ⟨2, 3⟩) := by kernel_rfl
theorem k6 : numberS (awakeD [false, false]) ⟨0, 0⟩ 1 1000 = (300, ⟨0, 0⟩) := by kernel_rfl
theorem k7 : endS (awakeD [true, false]) ⟨0, 0⟩ = ⟨4, 20⟩ := by kernel_rfl
theorem k8 : rawS (awakeD [true, false]) ⟨4, 20⟩ 3 2 = ([], ⟨4, 20⟩) := by kernel_rfl
theorem k9 : readS ⟨0, 0⟩ 0 kBytes = (kD [false], ⟨0, 0⟩) := by kernel_rfl
theorem k10 : recordS (kD [false]) ⟨0, 0⟩ 5 = (kE [false], ⟨0, 0⟩) := by kernel_rfl
theorem k11 : (kD [false]).took ⟨0, 0⟩ 5 = kD [true] := by kernel_rfl
theorem k12 : numberS (kE [false]) ⟨0, 0⟩ 1 299 = (0, ⟨4, 3⟩) := by kernel_rfl
theorem k13 : (awakeD [true, false]).took ⟨2, 3⟩ 3 = awakeD [true, false] := by kernel_rfl
theorem k14 : (awakeD [true, false]).took ⟨4, 20⟩ 3 = awakeD [true, false] := by kernel_rfl
theorem strNil : strOf [] = ⟨#[]⟩ := rfl
set_option maxHeartbeats 2000000 in
set_option maxRecDepth 4000 in
theorem kfault {w : World} {p pf : Nat} {f : RF} (hp : w.cell? ⟨p, 0, none⟩ = some (.pointer (some ⟨pf, 0, none⟩))) (hF : Flt w 135 pf f) :
    Calls Try.prog 56 #[.pointer (some ⟨p, 0, none⟩)] w fun e w' => e = .returned (.tuple #[.int .i64 f.place, .int .i64 f.e]) ∧ Fr (fun _ => False) w w' := by
  have e0 : w.cell? ⟨pf, 0, none⟩ = some (.int .i64 f.place) := Bl.cell' hF rfl
  have e1 : w.cell? ⟨pf, 1, none⟩ = some (.int .i64 f.e) := Bl.cell' hF rfl
  have hn := none_some w p pf hp
  unfold rp at hn
  clear hF
  go_enter Try.func56, Try.ntmps56
  go_wp2_with fail
  refine hn.mono ?_
  rintro e w' ⟨rfl, rfl⟩
  go_wp2_with fail
  go_quiet (fail)
  go_wp2_with fail
  go_ret2
  exact ⟨rfl, (Fr.refl _ _).drewN _⟩
set_option maxHeartbeats 2000000 in
set_option maxRecDepth 8000 in
theorem faults_any (W : World) : Calls Try.prog 63 #[] W fun e w' => e = .returned (.bool true) ∧ Fr (fun _ => False) W w' := by
  have hB := Bl.new W tWr wcell
  have hT := wat_at hB
  have HF0 : Hid (Fr (fun _ => False) W (W.alloc (.cells wcell tWr))) := (Fr.refl _ _).alloc _
  unfold wcell at hT HF0
  clear hB
  go_enter Try.func63, Try.ntmps63
  go_wp2_with fail
  refine (tnumber_any _ (wat W.heap.size) WS.fresh 3 1 (by decide) hT).mono ?_
  rintro e w1 ⟨rfl, o1, hp1, hT1, hft1, hf1⟩
  rw [k1] at hT1
  have HF1 : Hid (Fr (fun _ => False) W w1) := HF0.out.comp hf1 fun x hx e => by have := wat_foot e; omega
  have c2 := tnumber_any w1 o1 _ 3 1 (by decide) hT1
  rw [hp1, k2] at c2
  clear hT hf1
  go_wp2_with fail
  refine c2.mono ?_
  rintro e w2 ⟨rfl, o2, hp2, hT2, hft2, hf2⟩
  have HF2 : Hid (Fr (fun _ => False) W w2) := HF1.out.comp hf2 fun x hx e => by
    rcases hft1 x e with h | h
    · have := wat_foot h; omega
    · have := HF0.out.size; omega
  have c3 := tform_any' w2 o2 _ hT2
  unfold FormPost at c3
  rw [hp2, hp1] at c3
  clear c2 hT1 hT2 hf2 hft1 hft2 HF0 HF1
  go_wp2_with fail
  refine c3.mono ?_
  rintro e w3 ⟨A, n, c, g, rfl, -, -, hf3⟩
  have HF := hide (HF2.out.trans hf3)
  clear c3 hf3 HF2 hp1 hp2 o1 o2
  go_wp2_with fail
  refine (tnew_any _ awakeBytes _ 8 8 (by omega) (by decide) (Sl.row w3 #[.int .u8 1, .int .u8 2, .int .u8 172, .int .u8 2, .int .u8 3, .int .u8 2, .int .u8 97, .int .u8 98] 5 1 8 rfl)).mono ?_
  rintro e w4 ⟨r4, pf4, b4, rfl, hT, hFl, hpf, hft, -, hf⟩
  rw [awakeRead] at hT hFl
  have HT := hide hT
  have HFl := hide hFl
  have Hpf : Hid (W.heap.size ≤ pf4 ∧ ∀ y, r4.foot y → W.heap.size ≤ y) := ⟨by have := HF.out.size; simp at hpf; omega, fun y hy => by have := HF.out.size; have := hft y hy; simp at this; omega⟩
  have HF4 : Hid (Fr (fun _ => False) W w4) := HF.out.trans (Fr.trans (by (repeat (first | with_reducible exact Fr.refl _ _ | with_reducible assumption | with_reducible refine Fr.drew ?_ | with_reducible refine Fr.drewN ?_ _ | with_reducible refine Fr.alloc ?_ _ | with_reducible refine Fr.setIn ?_ (by first | exact Or.inl rfl | exact Or.inr (by simp; done) | exact Or.inr (by simp; omega) | exact Or.inr (by omega)) _))) hf)
  clear hT hFl hpf hft hf HF
  have HF := HF4
  clear HF4
  obtain ⟨q4, hq4⟩ : ∃ q, r4.p = q := ⟨_, rfl⟩
  simp only [rp]
  rw [hq4]
  have Hq := hide hq4
  clear hq4
  go_wp2_with fail
  refine (num_any _ _).mono ?_
  rintro e w' ⟨rfl, rfl⟩
  have c5 := trnum_any w4 pf4 b4 r4 (awakeD [false, false]) ⟨0, 0⟩ 1 299 (by decide) HT.out HFl.out
  simp only [k3, k4] at c5
  simp only [rp] at c5
  rw [Hq.out] at c5
  go_wp2_with fail
  refine c5.mono ?_
  rintro e w5 ⟨rfl, hP⟩
  have HT5 := hide hP.tr
  have HFl5 := hide hP.flt
  have HF5 : Hid (Fr (fun _ => False) W w5) := HF.out.comp hP.fr fun x hx e => by
    rcases e with e | e
    · have := Hpf.out.1; omega
    · have := Hpf.out.2 x e; omega
  clear c5 hP HT HFl HF
  have HT := HT5
  have HFl := HFl5
  have HF := HF5
  clear HT5 HFl5 HF5
  have c6 := kfault (p := q4) (by rw [← Hq.out]; exact HT.out.bl.cell' rfl) HFl.out
  go_wp2_with fail
  refine c6.mono ?_
  rintro e w6 ⟨rfl, hf⟩
  have HT6 := hide (HT.out.quiet hf)
  have HFl6 := hide (HFl.out.fr hf id)
  have HF6 := hide (HF.out.trans hf)
  clear c6 hf HT HFl HF
  have HT := HT6
  have HFl := HFl6
  have HF := HF6
  clear HT6 HFl6 HF6
  go_wp2_with fail
  refine (num_any _ _).mono ?_
  rintro e w' ⟨rfl, rfl⟩
  have c7 := trtext_any w6 pf4 b4 r4 (awakeD [true, false]) ⟨2, 3⟩ 3 9 HT.out HFl.out
  simp only [k5, k13, strNil] at c7
  simp only [rp] at c7
  rw [Hq.out] at c7
  go_wp2_with fail
  refine c7.mono ?_
  rintro e w7 ⟨rfl, hP⟩
  have HT7 := hide hP.tr
  have HFl7 := hide hP.flt
  have HF7 : Hid (Fr (fun _ => False) W w7) := HF.out.comp hP.fr fun x hx e => by
    rcases e with e | e
    · have := Hpf.out.1; omega
    · have := Hpf.out.2 x e; omega
  clear c7 hP HT HFl HF
  have HT := HT7
  have HFl := HFl7
  have HF := HF7
  clear HT7 HFl7 HF7
  clear HT HFl Hpf Hq
  go_wp2_with fail
  refine (tnew_any _ awakeBytes _ 8 8 (by omega) (by decide) (Sl.row w7 #[.int .u8 1, .int .u8 2, .int .u8 172, .int .u8 2, .int .u8 3, .int .u8 2, .int .u8 97, .int .u8 98] 5 1 8 rfl)).mono ?_
  rintro e w8 ⟨r8, pf8, b8, rfl, hT, hFl, hpf, hft, -, hf⟩
  rw [awakeRead] at hT hFl
  have HT := hide hT
  have HFl := hide hFl
  have Hpf : Hid (W.heap.size ≤ pf8 ∧ ∀ y, r8.foot y → W.heap.size ≤ y) := ⟨by have := HF.out.size; simp at hpf; omega, fun y hy => by have := HF.out.size; have := hft y hy; simp at this; omega⟩
  have HF8 : Hid (Fr (fun _ => False) W w8) := HF.out.trans (Fr.trans (by (repeat (first | with_reducible exact Fr.refl _ _ | with_reducible assumption | with_reducible refine Fr.drew ?_ | with_reducible refine Fr.drewN ?_ _ | with_reducible refine Fr.alloc ?_ _ | with_reducible refine Fr.setIn ?_ (by first | exact Or.inl rfl | exact Or.inr (by simp; done) | exact Or.inr (by simp; omega) | exact Or.inr (by omega)) _))) hf)
  clear hT hFl hpf hft hf HF
  have HF := HF8
  clear HF8
  obtain ⟨q8, hq8⟩ : ∃ q, r8.p = q := ⟨_, rfl⟩
  simp only [rp]
  rw [hq8]
  have Hq := hide hq8
  clear hq8
  have c9 := trnum_any w8 pf8 b8 r8 (awakeD [false, false]) ⟨0, 0⟩ 1 1000 (by decide) HT.out HFl.out
  simp only [k6, k4] at c9
  simp only [rp] at c9
  rw [Hq.out] at c9
  go_wp2_with fail
  refine c9.mono ?_
  rintro e w9 ⟨rfl, hP⟩
  have HT9 := hide hP.tr
  have HFl9 := hide hP.flt
  have HF9 : Hid (Fr (fun _ => False) W w9) := HF.out.comp hP.fr fun x hx e => by
    rcases e with e | e
    · have := Hpf.out.1; omega
    · have := Hpf.out.2 x e; omega
  clear c9 hP HT HFl HF
  have HT := HT9
  have HFl := HFl9
  have HF := HF9
  clear HT9 HFl9 HF9
  have c10 := tend_any w9 pf8 b8 r8 (awakeD [true, false]) ⟨0, 0⟩ HT.out HFl.out
  simp only [k7] at c10
  simp only [rp] at c10
  rw [Hq.out] at c10
  go_wp2_with fail
  refine c10.mono ?_
  rintro e w10 ⟨rfl, hP⟩
  have HT10 := hide hP.tr
  have HFl10 := hide hP.flt
  have HF10 : Hid (Fr (fun _ => False) W w10) := HF.out.comp hP.fr fun x hx e => by
    rcases e with e | e
    · have := Hpf.out.1; omega
    · have := Hpf.out.2 x e; omega
  clear c10 hP HT HFl HF
  have HT := HT10
  have HFl := HFl10
  have HF := HF10
  clear HT10 HFl10 HF10
  have c11 := kfault (p := q8) (by rw [← Hq.out]; exact HT.out.bl.cell' rfl) HFl.out
  go_wp2_with fail
  refine c11.mono ?_
  rintro e w11 ⟨rfl, hf⟩
  have HT11 := hide (HT.out.quiet hf)
  have HFl11 := hide (HFl.out.fr hf id)
  have HF11 := hide (HF.out.trans hf)
  clear c11 hf HT HFl HF
  have HT := HT11
  have HFl := HFl11
  have HF := HF11
  clear HT11 HFl11 HF11
  go_wp2_with fail
  refine (num_any _ _).mono ?_
  rintro e w' ⟨rfl, rfl⟩
  go_wp2_with fail
  refine (num_any _ _).mono ?_
  rintro e w' ⟨rfl, rfl⟩
  have c12 := trtext_any w11 pf8 b8 r8 (awakeD [true, false]) ⟨4, 20⟩ 3 2 HT.out HFl.out
  simp only [k8, k14, strNil] at c12
  simp only [rp] at c12
  rw [Hq.out] at c12
  go_wp2_with fail
  refine c12.mono ?_
  rintro e w12 ⟨rfl, hP⟩
  have HT12 := hide hP.tr
  have HFl12 := hide hP.flt
  have HF12 : Hid (Fr (fun _ => False) W w12) := HF.out.comp hP.fr fun x hx e => by
    rcases e with e | e
    · have := Hpf.out.1; omega
    · have := Hpf.out.2 x e; omega
  clear c12 hP HT HFl HF
  have HT := HT12
  have HFl := HFl12
  have HF := HF12
  clear HT12 HFl12 HF12
  clear HT HFl Hpf Hq
  go_wp2_with fail
  refine (tnew_any _ kBytes _ 6 6 (by omega) (by decide) (Sl.row w12 #[.int .u8 5, .int .u8 4, .int .u8 1, .int .u8 2, .int .u8 172, .int .u8 2] 5 1 6 rfl)).mono ?_
  rintro e w13 ⟨r13, pf13, b13, rfl, hT, hFl, hpf, hft, -, hf⟩
  rw [k9] at hT hFl
  have HT := hide hT
  have HFl := hide hFl
  have Hpf : Hid (W.heap.size ≤ pf13 ∧ ∀ y, r13.foot y → W.heap.size ≤ y) := ⟨by have := HF.out.size; simp at hpf; omega, fun y hy => by have := HF.out.size; have := hft y hy; simp at this; omega⟩
  have HF13 : Hid (Fr (fun _ => False) W w13) := HF.out.trans (Fr.trans (by (repeat (first | with_reducible exact Fr.refl _ _ | with_reducible assumption | with_reducible refine Fr.drew ?_ | with_reducible refine Fr.drewN ?_ _ | with_reducible refine Fr.alloc ?_ _ | with_reducible refine Fr.setIn ?_ (by first | exact Or.inl rfl | exact Or.inr (by simp; done) | exact Or.inr (by simp; omega) | exact Or.inr (by omega)) _))) hf)
  clear hT hFl hpf hft hf HF
  have HF := HF13
  clear HF13
  obtain ⟨q13, hq13⟩ : ∃ q, r13.p = q := ⟨_, rfl⟩
  simp only [rp]
  rw [hq13]
  have Hq := hide hq13
  clear hq13
  have c14 := trrecord_any w13 pf13 b13 r13 (kD [false]) ⟨0, 0⟩ 5 HT.out HFl.out
  simp only [k10, k11] at c14
  simp only [rp] at c14
  rw [Hq.out] at c14
  go_wp2_with fail
  refine c14.mono ?_
  rintro e w14 ⟨r14, rfl, hP, hT2, hn2⟩
  have HTop : Hid (w14.cell? ⟨q13, 0, none⟩ = some (.pointer (some ⟨pf13, 0, none⟩)) ∧ Typed w14 q13 147) := by rw [← Hq.out]; exact ⟨hP.tr.bl.cell' rfl, hP.tr.bl.typed⟩
  have HT14 := hide hT2
  have HFl14 := hide hP.flt
  have HF14 : Hid (Fr (fun _ => False) W w14) := HF.out.comp hP.fr fun x hx e => by
    rcases e with e | e
    · have := Hpf.out.1; omega
    · have := Hpf.out.2 x e; omega
  have Hpf14 : Hid (W.heap.size ≤ pf13 ∧ ∀ y, r14.foot y → W.heap.size ≤ y) := ⟨Hpf.out.1, fun y hy => by have := HF.out.size; have := hn2 y hy; omega⟩
  obtain ⟨q14, hq14⟩ : ∃ q, r14.p = q := ⟨_, rfl⟩
  simp only [rp]
  rw [hq14]
  clear c14 hP hT2 hn2 HT HFl HF Hpf Hq
  have Hq := hide hq14
  have HT := HT14
  have HFl := HFl14
  have HF := HF14
  have Hpf := Hpf14
  clear hq14 HT14 HFl14 HF14 Hpf14
  have c15 := trnum_any w14 pf13 b13 r14 (kE [false]) ⟨0, 0⟩ 1 299 (by decide) HT.out HFl.out
  simp only [k12] at c15
  simp only [rp] at c15
  rw [Hq.out] at c15
  go_wp2_with fail
  refine c15.mono ?_
  rintro e w15 ⟨rfl, hP⟩
  have HFl15 := hide hP.flt
  have HTop15 : Hid (w15.cell? ⟨q13, 0, none⟩ = some (.pointer (some ⟨pf13, 0, none⟩))) := (hP.fr.cell (p := ⟨q13, 0, none⟩) (World.block_lt_of_cell? w14 _ HTop.out.1) (Within.not (HFl.out.within.or HT.out.within) HTop.out.2 (by unfold Turns; decide))).trans HTop.out.1
  have HF15 : Hid (Fr (fun _ => False) W w15) := HF.out.comp hP.fr fun x hx e => by
    rcases e with e | e
    · have := Hpf.out.1; omega
    · have := Hpf.out.2 x e; omega
  have c9 := kfault (p := q13) HTop15.out HFl15.out
  clear c15 hP HT HFl HF Hpf Hq HTop
  go_wp2_with fail
  refine c9.mono ?_
  rintro e wz ⟨rfl, hf⟩
  have HFz := hide (HF15.out.trans hf)
  clear c9 hf HF15
  go_wp2_with fail
  refine (num_any _ _).mono ?_
  rintro e w' ⟨rfl, rfl⟩
  go_wp2_with fail
  go_ret
  exact ⟨rfl, HFz.out⟩
end Go.Proofs.Ytbglloafbmamoaa
