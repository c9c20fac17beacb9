/-
  TlvKnown: the walk. (printed by kn_known.py)
-/
import Derived.Test.YtbglloafbmamoaaTlvV2
import Derived.Test.YtbglloafbmamoaaTlvV3
import Derived.Laws.StructEq
namespace Go.Proofs.Ytbglloafbmamoaa
open Go.RowKit
set_option linter.unusedVariables false
set_option linter.unusedSimpArgs false
theorem eqg (w : World) (x y : Operand) (xs ys : Array Value) : (eqGuard .neq 117 x y (.agg xs) (.agg ys)).run Try.prog w = .ok () w := run_eqGuard_agg w _ _ _ _ _ _ (by kernel_rfl)
theorem neq0 (w : World) : (binOp .neq 117 (.agg #[.int .i64 0, .int .i64 4, .int .i64 21]) (.agg #[.int .i64 0, .int .i64 4, .int .i64 21])).run Try.prog w = .ok (.bool false) w := by kernel_rfl
theorem neq1 (w : World) : (binOp .neq 117 (.agg #[.int .i64 0, .int .i64 1, .int .i64 20]) (.agg #[.int .i64 0, .int .i64 1, .int .i64 20])).run Try.prog w = .ok (.bool false) w := by kernel_rfl
theorem neq2 (w : World) : (binOp .neq 117 (.agg #[.int .i64 0, .int .i64 2, .int .i64 22]) (.agg #[.int .i64 0, .int .i64 2, .int .i64 22])).run Try.prog w = .ok (.bool false) w := by kernel_rfl
theorem neq3 (w : World) : (binOp .neq 117 (.agg #[.int .i64 0, .int .i64 1, .int .i64 22]) (.agg #[.int .i64 0, .int .i64 1, .int .i64 22])).run Try.prog w = .ok (.bool false) w := by kernel_rfl
theorem neq4 (w : World) : (binOp .neq 117 (.agg #[.int .i64 0, .int .i64 0, .int .i64 21]) (.agg #[.int .i64 0, .int .i64 0, .int .i64 21])).run Try.prog w = .ok (.bool false) w := by kernel_rfl
theorem neq5 (w : World) : (binOp .neq 117 (.agg #[.int .i64 0, .int .i64 0, .int .i64 0]) (.agg #[.int .i64 0, .int .i64 0, .int .i64 0])).run Try.prog w = .ok (.bool false) w := by kernel_rfl
set_option maxHeartbeats 4000000 in
set_option maxRecDepth 100000 in
theorem known_walk (W : World) : Calls Try.prog 14 #[] W fun e w' => e = .returned (.bool true) ∧ Fr (fun _ => False) W w' := by
  go_enter Try.func14, Try.ntmps14
  go_wp2_with fail
  refine (awake_any W).mono ?_
  rintro e w0 ⟨rfl, hf⟩
  have HF := hide hf
  clear hf
  go_wp2_with fail
  refine (kshort (bs := [0]) (n := 0) (k := 1) _ (by decide) (by kernel_rfl) rfl).mono ?_
  rintro e w1 ⟨Aw1, cw1, gw1, rfl, hO, hg, hf⟩
  have HSw1 := hide hO.sl
  have HF2 : Hid (Fr (fun _ => False) W w1) := HF.out.trans (Fr.trans (by (repeat (first | with_reducible exact Fr.refl _ _ | with_reducible assumption | with_reducible refine Fr.drew ?_ | with_reducible refine Fr.drewN ?_ _ | with_reducible refine Fr.alloc ?_ _ | with_reducible refine Fr.setIn ?_ (by first | exact Or.inl rfl | exact Or.inr (by simp; done) | exact Or.inr (by simp; omega) | exact Or.inr (by omega)) _))) hf)
  clear HF
  have HF := HF2
  clear HF2
  clear hO hg hf
  go_wp2_with fail
  refine (ksame (xs := [0]) _ (by rfl) (by omega) (Sl.fr' ((Fr.refl (fun _ => False) _).alloc _) HSw1.out fun _ _ _ _ => id) (Sl.row w1 #[.int .u8 0] 5 1 1 rfl)).mono ?_
  rintro e w2 ⟨rfl, hf⟩
  clear HSw1
  have HF2 : Hid (Fr (fun _ => False) W w2) := HF.out.trans (Fr.trans (by (repeat (first | with_reducible exact Fr.refl _ _ | with_reducible assumption | with_reducible refine Fr.drew ?_ | with_reducible refine Fr.drewN ?_ _ | with_reducible refine Fr.alloc ?_ _ | with_reducible refine Fr.setIn ?_ (by first | exact Or.inl rfl | exact Or.inr (by simp; done) | exact Or.inr (by simp; omega) | exact Or.inr (by omega)) _))) hf)
  clear HF
  have HF := HF2
  clear HF2
  clear hf
  go_wp2_with fail
  refine (kshort (bs := [127]) (n := 127) (k := 1) _ (by decide) (by kernel_rfl) rfl).mono ?_
  rintro e w3 ⟨Aw3, cw3, gw3, rfl, hO, hg, hf⟩
  have HSw3 := hide hO.sl
  have HF2 : Hid (Fr (fun _ => False) W w3) := HF.out.trans (Fr.trans (by (repeat (first | with_reducible exact Fr.refl _ _ | with_reducible assumption | with_reducible refine Fr.drew ?_ | with_reducible refine Fr.drewN ?_ _ | with_reducible refine Fr.alloc ?_ _ | with_reducible refine Fr.setIn ?_ (by first | exact Or.inl rfl | exact Or.inr (by simp; done) | exact Or.inr (by simp; omega) | exact Or.inr (by omega)) _))) hf)
  clear HF
  have HF := HF2
  clear HF2
  clear hO hg hf
  go_wp2_with fail
  refine (ksame (xs := [127]) _ (by rfl) (by omega) (Sl.fr' ((Fr.refl (fun _ => False) _).alloc _) HSw3.out fun _ _ _ _ => id) (Sl.row w3 #[.int .u8 127] 5 1 1 rfl)).mono ?_
  rintro e w4 ⟨rfl, hf⟩
  clear HSw3
  have HF2 : Hid (Fr (fun _ => False) W w4) := HF.out.trans (Fr.trans (by (repeat (first | with_reducible exact Fr.refl _ _ | with_reducible assumption | with_reducible refine Fr.drew ?_ | with_reducible refine Fr.drewN ?_ _ | with_reducible refine Fr.alloc ?_ _ | with_reducible refine Fr.setIn ?_ (by first | exact Or.inl rfl | exact Or.inr (by simp; done) | exact Or.inr (by simp; omega) | exact Or.inr (by omega)) _))) hf)
  clear HF
  have HF := HF2
  clear HF2
  clear hf
  go_wp2_with fail
  refine (kshort (bs := [128, 1]) (n := 128) (k := 2) _ (by decide) (by kernel_rfl) rfl).mono ?_
  rintro e w5 ⟨Aw5, cw5, gw5, rfl, hO, hg, hf⟩
  have HSw5 := hide hO.sl
  have HF2 : Hid (Fr (fun _ => False) W w5) := HF.out.trans (Fr.trans (by (repeat (first | with_reducible exact Fr.refl _ _ | with_reducible assumption | with_reducible refine Fr.drew ?_ | with_reducible refine Fr.drewN ?_ _ | with_reducible refine Fr.alloc ?_ _ | with_reducible refine Fr.setIn ?_ (by first | exact Or.inl rfl | exact Or.inr (by simp; done) | exact Or.inr (by simp; omega) | exact Or.inr (by omega)) _))) hf)
  clear HF
  have HF := HF2
  clear HF2
  clear hO hg hf
  go_wp2_with fail
  refine (ksame (xs := [128, 1]) _ (by rfl) (by omega) (Sl.fr' ((Fr.refl (fun _ => False) _).alloc _) HSw5.out fun _ _ _ _ => id) (Sl.row w5 #[.int .u8 128, .int .u8 1] 5 1 2 rfl)).mono ?_
  rintro e w6 ⟨rfl, hf⟩
  clear HSw5
  have HF2 : Hid (Fr (fun _ => False) W w6) := HF.out.trans (Fr.trans (by (repeat (first | with_reducible exact Fr.refl _ _ | with_reducible assumption | with_reducible refine Fr.drew ?_ | with_reducible refine Fr.drewN ?_ _ | with_reducible refine Fr.alloc ?_ _ | with_reducible refine Fr.setIn ?_ (by first | exact Or.inl rfl | exact Or.inr (by simp; done) | exact Or.inr (by simp; omega) | exact Or.inr (by omega)) _))) hf)
  clear HF
  have HF := HF2
  clear HF2
  clear hf
  go_wp2_with fail
  refine (kshort (bs := [172, 2]) (n := 300) (k := 2) _ (by decide) (by kernel_rfl) rfl).mono ?_
  rintro e w7 ⟨Aw7, cw7, gw7, rfl, hO, hg, hf⟩
  have HSw7 := hide hO.sl
  have HF2 : Hid (Fr (fun _ => False) W w7) := HF.out.trans (Fr.trans (by (repeat (first | with_reducible exact Fr.refl _ _ | with_reducible assumption | with_reducible refine Fr.drew ?_ | with_reducible refine Fr.drewN ?_ _ | with_reducible refine Fr.alloc ?_ _ | with_reducible refine Fr.setIn ?_ (by first | exact Or.inl rfl | exact Or.inr (by simp; done) | exact Or.inr (by simp; omega) | exact Or.inr (by omega)) _))) hf)
  clear HF
  have HF := HF2
  clear HF2
  clear hO hg hf
  go_wp2_with fail
  refine (ksame (xs := [172, 2]) _ (by rfl) (by omega) (Sl.fr' ((Fr.refl (fun _ => False) _).alloc _) HSw7.out fun _ _ _ _ => id) (Sl.row w7 #[.int .u8 172, .int .u8 2] 5 1 2 rfl)).mono ?_
  rintro e w8 ⟨rfl, hf⟩
  clear HSw7
  have HF2 : Hid (Fr (fun _ => False) W w8) := HF.out.trans (Fr.trans (by (repeat (first | with_reducible exact Fr.refl _ _ | with_reducible assumption | with_reducible refine Fr.drew ?_ | with_reducible refine Fr.drewN ?_ _ | with_reducible refine Fr.alloc ?_ _ | with_reducible refine Fr.setIn ?_ (by first | exact Or.inl rfl | exact Or.inr (by simp; done) | exact Or.inr (by simp; omega) | exact Or.inr (by omega)) _))) hf)
  clear HF
  have HF := HF2
  clear HF2
  clear hf
  go_wp2_with fail
  refine (kshort (bs := [255, 255, 255, 255, 255, 255, 255, 255, 255, 1]) (n := 18446744073709551615) (k := 10) _ (by decide) (by kernel_rfl) rfl).mono ?_
  rintro e w9 ⟨Aw9, cw9, gw9, rfl, hO, hg, hf⟩
  have HSw9 := hide hO.sl
  have HOw9 := hide hO
  have Hgw9 : Hid (∀ b, gw9 = some b → W.heap.size ≤ b) := fun b e => by have := hg b e; have := HF.out.size; simp at *; omega
  have HF2 : Hid (Fr (fun _ => False) W w9) := HF.out.trans (Fr.trans (by (repeat (first | with_reducible exact Fr.refl _ _ | with_reducible assumption | with_reducible refine Fr.drew ?_ | with_reducible refine Fr.drewN ?_ _ | with_reducible refine Fr.alloc ?_ _ | with_reducible refine Fr.setIn ?_ (by first | exact Or.inl rfl | exact Or.inr (by simp; done) | exact Or.inr (by simp; omega) | exact Or.inr (by omega)) _))) hf)
  clear HF
  have HF := HF2
  clear HF2
  clear hO hg hf
  obtain ⟨bb, bo, rfl, hgb, e8, -⟩ := HOw9.out.look (j := 8) (u := .int .u8 255) rfl
  obtain ⟨bb', bo', eb, -, e9, z9⟩ := HOw9.out.look (j := 9) (u := .int .u8 1) rfl
  cases eb
  have Hbg := Hgw9.out bb hgb
  subst hgb
  clear Hgw9 HSw9
  have HOb := HOw9
  clear HOw9
  go_wp2_with fail
  refine (kread (xs := [172, 2]) (N := 300) (t := 2) (er := 0) _ (by rfl) (by omega) (by decide) (Sl.row w9 #[.int .u8 172, .int .u8 2] 5 1 2 rfl) (by kernel_rfl)).mono ?_
  rintro e w' ⟨rfl, rfl⟩
  obtain ⟨wz, hwz⟩ : ∃ wz, wz = (w9.alloc (.cells #[.int .u8 172, .int .u8 2] 5)) := ⟨_, rfl⟩
  have hf : Fr (fun _ => False) w9 wz := by rw [hwz]; exact (Fr.refl _ _).alloc _
  rw [← hwz]
  clear hwz
  obtain ⟨w10, rfl⟩ : ∃ w10, w10 = wz := ⟨_, rfl⟩
  have HOb2 := hide (Ow.fr (S := fun _ => False) HOb.out (Fr.trans (w := w9) (Fr.refl _ _) hf) (fun _ _ => id))
  clear HOb
  have HOb := HOb2
  clear HOb2
  have HF2 : Hid (Fr (fun _ => False) W w10) := HF.out.trans (Fr.trans (Fr.refl _ _) hf)
  clear HF
  have HF := HF2
  clear HF2
  clear hf
  go_wp2_with fail
  refine (kread (xs := [172, 2]) (N := 0) (t := 0) (er := 22) _ (by rfl) (by omega) (by decide) (Sl.row w10 #[.int .u8 172, .int .u8 2] 5 1 2 rfl) (by kernel_rfl)).mono ?_
  rintro e w' ⟨rfl, rfl⟩
  obtain ⟨wz, hwz⟩ : ∃ wz, wz = (w10.alloc (.cells #[.int .u8 172, .int .u8 2] 5)) := ⟨_, rfl⟩
  have hf : Fr (fun _ => False) w10 wz := by rw [hwz]; exact (Fr.refl _ _).alloc _
  rw [← hwz]
  clear hwz
  obtain ⟨w11, rfl⟩ : ∃ w11, w11 = wz := ⟨_, rfl⟩
  have HOb2 := hide (Ow.fr (S := fun _ => False) HOb.out (Fr.trans (w := w10) (Fr.refl _ _) hf) (fun _ _ => id))
  clear HOb
  have HOb := HOb2
  clear HOb2
  have HF2 : Hid (Fr (fun _ => False) W w11) := HF.out.trans (Fr.trans (Fr.refl _ _) hf)
  clear HF
  have HF := HF2
  clear HF2
  clear hf
  go_wp2_with fail
  refine (kread (xs := [172, 2]) (N := 0) (t := 0) (er := 2) _ (by rfl) (by omega) (by decide) (Sl.row w11 #[.int .u8 172, .int .u8 2] 5 1 2 rfl) (by kernel_rfl)).mono ?_
  rintro e w' ⟨rfl, rfl⟩
  obtain ⟨wz, hwz⟩ : ∃ wz, wz = (w11.alloc (.cells #[.int .u8 172, .int .u8 2] 5)) := ⟨_, rfl⟩
  have hf : Fr (fun _ => False) w11 wz := by rw [hwz]; exact (Fr.refl _ _).alloc _
  rw [← hwz]
  clear hwz
  obtain ⟨w12, rfl⟩ : ∃ w12, w12 = wz := ⟨_, rfl⟩
  have HOb2 := hide (Ow.fr (S := fun _ => False) HOb.out (Fr.trans (w := w11) (Fr.refl _ _) hf) (fun _ _ => id))
  clear HOb
  have HOb := HOb2
  clear HOb2
  have HF2 : Hid (Fr (fun _ => False) W w12) := HF.out.trans (Fr.trans (Fr.refl _ _) hf)
  clear HF
  have HF := HF2
  clear HF2
  clear hf
  go_wp2_with fail
  refine (kread (xs := [128, 0]) (N := 0) (t := 0) (er := 20) _ (by rfl) (by omega) (by decide) (Sl.row w12 #[.int .u8 128, .int .u8 0] 5 1 2 rfl) (by kernel_rfl)).mono ?_
  rintro e w' ⟨rfl, rfl⟩
  obtain ⟨wz, hwz⟩ : ∃ wz, wz = (w12.alloc (.cells #[.int .u8 128, .int .u8 0] 5)) := ⟨_, rfl⟩
  have hf : Fr (fun _ => False) w12 wz := by rw [hwz]; exact (Fr.refl _ _).alloc _
  rw [← hwz]
  clear hwz
  obtain ⟨w13, rfl⟩ : ∃ w13, w13 = wz := ⟨_, rfl⟩
  have HOb2 := hide (Ow.fr (S := fun _ => False) HOb.out (Fr.trans (w := w12) (Fr.refl _ _) hf) (fun _ _ => id))
  clear HOb
  have HOb := HOb2
  clear HOb2
  have HF2 : Hid (Fr (fun _ => False) W w13) := HF.out.trans (Fr.trans (Fr.refl _ _) hf)
  clear HF
  have HF := HF2
  clear HF2
  clear hf
  obtain ⟨bb2, bo2, eb, -, f9, y9⟩ := HOb.out.look (j := 9) (u := .int .u8 1) rfl
  cases eb
  have hO2 := Ow.put HOb.out (j := 9) (by omega) (.int .u8 2)
  have hS2 : Sl _ 1 _ 10 ([255, 255, 255, 255, 255, 255, 255, 255, 255, 2].map bn) := hO2.sl
  have HS2 := hide hS2
  have HFs : Hid (Fr (fun _ => False) W _) := Fr.set (S := fun _ => False) HF.out (p := ⟨bb, bo + 9, none⟩) (.inr Hbg) (.int .u8 2)
  clear hO2 hS2 HOb HF e8 e9 z9
  go_wp2_with fail
  refine (kread (xs := [255, 255, 255, 255, 255, 255, 255, 255, 255, 2]) (N := 0) (t := 0) (er := 20) _ (by rfl) (by omega) (by decide) HS2.out (by kernel_rfl)).mono ?_
  rintro e w' ⟨rfl, rfl⟩
  obtain ⟨wz, hwz⟩ : ∃ wz, wz = w13.setCell ⟨bb, bo + 9, none⟩ (.int .u8 2) := ⟨_, rfl⟩
  rw [← hwz] at HFs ⊢
  clear hwz HS2 f9 y9
  obtain ⟨w14, rfl⟩ : ∃ w14, w14 = wz := ⟨_, rfl⟩
  have HF := HFs
  clear HFs Hbg
  go_wp2_with fail
  refine (num_any _ _).mono ?_
  rintro e w' ⟨rfl, rfl⟩
  go_wp2_with fail
  refine (num_any _ _).mono ?_
  rintro e w' ⟨rfl, rfl⟩
  go_wp2_with fail
  refine (num_any _ _).mono ?_
  rintro e w' ⟨rfl, rfl⟩
  go_wp2_with fail
  refine (num_any _ _).mono ?_
  rintro e w' ⟨rfl, rfl⟩
  go_wp2_with fail
  refine (num_any _ _).mono ?_
  rintro e w' ⟨rfl, rfl⟩
  have hcv1 := convB (w := w14) (g := w14.heap.size) (by simp) #[.int .u8 97, .int .u8 98] 2 rfl
  go_wp2_with fail
  clear hcv1
  have hb : Bl (((w14.alloc (.cells #[.int .u8 97, .int .u8 98] 5 (2, 3))).alloc (.cells #[.int .u8 0] 5)).alloc (.cells #[.int .i64 1, .slice (some ⟨w14.heap.size, 0, none⟩) 2 2, .int .i64 200, .slice (some ⟨w14.heap.size + 1, 0, none⟩) 1 1] 40)) (w14.heap.size + 1 + 1) 40 #[.int .i64 1, .slice (some ⟨w14.heap.size, 0, none⟩) 2 2, .int .i64 200, .slice (some ⟨w14.heap.size + 1, 0, none⟩) 1 1] := Bl.newAt (by simp)
  have hv0 : Sl (((w14.alloc (.cells #[.int .u8 97, .int .u8 98] 5 (2, 3))).alloc (.cells #[.int .u8 0] 5)).alloc (.cells #[.int .i64 1, .slice (some ⟨w14.heap.size, 0, none⟩) 2 2, .int .i64 200, .slice (some ⟨w14.heap.size + 1, 0, none⟩) 1 1] 40)) 1 (some ⟨w14.heap.size, 0, none⟩) 2 ([97, 98].map bn) := by
    have h := Sl.markAt (w := w14) (g := w14.heap.size) (by simp) #[.int .u8 97, .int .u8 98] 5 (2, 3) 1 2 rfl
    exact Sl.fr' (by (repeat (first | with_reducible exact Fr.refl _ _ | with_reducible assumption | with_reducible refine Fr.drew ?_ | with_reducible refine Fr.drewN ?_ _ | with_reducible refine Fr.alloc ?_ _ | with_reducible refine Fr.setIn ?_ (by first | exact Or.inl rfl | exact Or.inr (by simp; done) | exact Or.inr (by simp; omega) | exact Or.inr (by omega)) _))) h fun _ _ _ _ => id
  have hv1 : Sl (((w14.alloc (.cells #[.int .u8 97, .int .u8 98] 5 (2, 3))).alloc (.cells #[.int .u8 0] 5)).alloc (.cells #[.int .i64 1, .slice (some ⟨w14.heap.size, 0, none⟩) 2 2, .int .i64 200, .slice (some ⟨w14.heap.size + 1, 0, none⟩) 1 1] 40)) 1 (some ⟨w14.heap.size + 1, 0, none⟩) 1 ([0].map bn) := by
    have h := Sl.rowAt (w := (w14.alloc (.cells #[.int .u8 97, .int .u8 98] 5 (2, 3)))) (g := w14.heap.size + 1) (by simp) #[.int .u8 0] 5 1 1 rfl
    exact Sl.fr' (by (repeat (first | with_reducible exact Fr.refl _ _ | with_reducible assumption | with_reducible refine Fr.drew ?_ | with_reducible refine Fr.drewN ?_ _ | with_reducible refine Fr.alloc ?_ _ | with_reducible refine Fr.setIn ?_ (by first | exact Or.inl rfl | exact Or.inr (by simp; done) | exact Or.inr (by simp; omega) | exact Or.inr (by omega)) _))) h fun _ _ _ _ => id
  have hA : FAt (((w14.alloc (.cells #[.int .u8 97, .int .u8 98] 5 (2, 3))).alloc (.cells #[.int .u8 0] 5)).alloc (.cells #[.int .i64 1, .slice (some ⟨w14.heap.size, 0, none⟩) 2 2, .int .i64 200, .slice (some ⟨w14.heap.size + 1, 0, none⟩) 1 1] 40)) 2 (some ⟨(w14.heap.size + 1 + 1), 0, none⟩) 2 [(1, [97, 98]), (200, [0])] := FAt.two hb hv0 hv1
  have c1 := fun c => kput (c := c) (((w14.alloc (.cells #[.int .u8 97, .int .u8 98] 5 (2, 3))).alloc (.cells #[.int .u8 0] 5)).alloc (.cells #[.int .i64 1, .slice (some ⟨w14.heap.size, 0, none⟩) 2 2, .int .i64 200, .slice (some ⟨w14.heap.size + 1, 0, none⟩) 1 1] 40)) hA (by omega) (by decide) (bs := [1, 2, 97, 98, 200, 1, 0]) (er := 0) (k := 7) (by kernel_rfl) (by kernel_rfl) rfl
  clear hb hA hv0 hv1
  refine (c1 _).mono ?_
  clear c1
  rintro e w15 ⟨Aw15, cw15, rfl, hS, hf⟩
  have HSw15 := hide hS
  have HF2 : Hid (Fr (fun _ => False) W w15) := HF.out.trans (Fr.trans (by (repeat (first | with_reducible exact Fr.refl _ _ | with_reducible assumption | with_reducible refine Fr.drew ?_ | with_reducible refine Fr.drewN ?_ _ | with_reducible refine Fr.alloc ?_ _ | with_reducible refine Fr.setIn ?_ (by first | exact Or.inl rfl | exact Or.inr (by simp; done) | exact Or.inr (by simp; omega) | exact Or.inr (by omega)) _))) hf)
  clear HF
  have HF := HF2
  clear HF2
  clear hS hf
  have hcv2 := convB (w := w15) (g := w15.heap.size) (by simp) #[.int .u8 97] 1 rfl
  have hcv3 := convB (w := (w15.alloc (.cells #[.int .u8 97] 5 (1, 2)))) (g := w15.heap.size + 1) (by simp) #[.int .u8 98] 1 rfl
  go_wp2_with fail
  clear hcv2 hcv3
  have hb : Bl (((w15.alloc (.cells #[.int .u8 97] 5 (1, 2))).alloc (.cells #[.int .u8 98] 5 (1, 2))).alloc (.cells #[.int .i64 1, .slice (some ⟨w15.heap.size, 0, none⟩) 1 1, .int .i64 1, .slice (some ⟨w15.heap.size + 1, 0, none⟩) 1 1] 40)) (w15.heap.size + 1 + 1) 40 #[.int .i64 1, .slice (some ⟨w15.heap.size, 0, none⟩) 1 1, .int .i64 1, .slice (some ⟨w15.heap.size + 1, 0, none⟩) 1 1] := Bl.newAt (by simp)
  have hv0 : Sl (((w15.alloc (.cells #[.int .u8 97] 5 (1, 2))).alloc (.cells #[.int .u8 98] 5 (1, 2))).alloc (.cells #[.int .i64 1, .slice (some ⟨w15.heap.size, 0, none⟩) 1 1, .int .i64 1, .slice (some ⟨w15.heap.size + 1, 0, none⟩) 1 1] 40)) 1 (some ⟨w15.heap.size, 0, none⟩) 1 ([97].map bn) := by
    have h := Sl.markAt (w := w15) (g := w15.heap.size) (by simp) #[.int .u8 97] 5 (1, 2) 1 1 rfl
    exact Sl.fr' (by (repeat (first | with_reducible exact Fr.refl _ _ | with_reducible assumption | with_reducible refine Fr.drew ?_ | with_reducible refine Fr.drewN ?_ _ | with_reducible refine Fr.alloc ?_ _ | with_reducible refine Fr.setIn ?_ (by first | exact Or.inl rfl | exact Or.inr (by simp; done) | exact Or.inr (by simp; omega) | exact Or.inr (by omega)) _))) h fun _ _ _ _ => id
  have hv1 : Sl (((w15.alloc (.cells #[.int .u8 97] 5 (1, 2))).alloc (.cells #[.int .u8 98] 5 (1, 2))).alloc (.cells #[.int .i64 1, .slice (some ⟨w15.heap.size, 0, none⟩) 1 1, .int .i64 1, .slice (some ⟨w15.heap.size + 1, 0, none⟩) 1 1] 40)) 1 (some ⟨w15.heap.size + 1, 0, none⟩) 1 ([98].map bn) := by
    have h := Sl.markAt (w := (w15.alloc (.cells #[.int .u8 97] 5 (1, 2)))) (g := w15.heap.size + 1) (by simp) #[.int .u8 98] 5 (1, 2) 1 1 rfl
    exact Sl.fr' (by (repeat (first | with_reducible exact Fr.refl _ _ | with_reducible assumption | with_reducible refine Fr.drew ?_ | with_reducible refine Fr.drewN ?_ _ | with_reducible refine Fr.alloc ?_ _ | with_reducible refine Fr.setIn ?_ (by first | exact Or.inl rfl | exact Or.inr (by simp; done) | exact Or.inr (by simp; omega) | exact Or.inr (by omega)) _))) h fun _ _ _ _ => id
  have hA : FAt (((w15.alloc (.cells #[.int .u8 97] 5 (1, 2))).alloc (.cells #[.int .u8 98] 5 (1, 2))).alloc (.cells #[.int .i64 1, .slice (some ⟨w15.heap.size, 0, none⟩) 1 1, .int .i64 1, .slice (some ⟨w15.heap.size + 1, 0, none⟩) 1 1] 40)) 2 (some ⟨(w15.heap.size + 1 + 1), 0, none⟩) 2 [(1, [97]), (1, [98])] := FAt.two hb hv0 hv1
  have c1 := fun c => kput (c := c) (((w15.alloc (.cells #[.int .u8 97] 5 (1, 2))).alloc (.cells #[.int .u8 98] 5 (1, 2))).alloc (.cells #[.int .i64 1, .slice (some ⟨w15.heap.size, 0, none⟩) 1 1, .int .i64 1, .slice (some ⟨w15.heap.size + 1, 0, none⟩) 1 1] 40)) hA (by omega) (by decide) (bs := ([] : List Nat)) (er := 21) (k := 0) (by kernel_rfl) (by kernel_rfl) rfl
  clear hb hA hv0 hv1
  refine (c1 _).mono ?_
  clear c1
  rintro e w16 ⟨Aw16, cw16, rfl, hS, hf⟩
  have HSw16 := hide hS
  have HF2 : Hid (Fr (fun _ => False) W w16) := HF.out.trans (Fr.trans (by (repeat (first | with_reducible exact Fr.refl _ _ | with_reducible assumption | with_reducible refine Fr.drew ?_ | with_reducible refine Fr.drewN ?_ _ | with_reducible refine Fr.alloc ?_ _ | with_reducible refine Fr.setIn ?_ (by first | exact Or.inl rfl | exact Or.inr (by simp; done) | exact Or.inr (by simp; omega) | exact Or.inr (by omega)) _))) hf)
  have HSw152 := hide (Sl.fr' (Fr.trans (w := w15) (by (repeat (first | with_reducible exact Fr.refl _ _ | with_reducible assumption | with_reducible refine Fr.drew ?_ | with_reducible refine Fr.drewN ?_ _ | with_reducible refine Fr.alloc ?_ _ | with_reducible refine Fr.setIn ?_ (by first | exact Or.inl rfl | exact Or.inr (by simp; done) | exact Or.inr (by simp; omega) | exact Or.inr (by omega)) _))) hf) HSw15.out fun _ _ _ _ => id)
  clear HF HSw15
  have HF := HF2
  clear HF2
  have HSw15 := HSw152
  clear HSw152
  clear hS hf
  clear HSw16
  have hcv4 := convB (w := w16) (g := w16.heap.size) (by simp) #[.int .u8 97] 1 rfl
  go_wp2_with fail
  clear hcv4
  have hb : Bl ((w16.alloc (.cells #[.int .u8 97] 5 (1, 2))).alloc (.cells #[.int .i64 0, .slice (some ⟨w16.heap.size, 0, none⟩) 1 1] 40)) (w16.heap.size + 1) 40 #[.int .i64 0, .slice (some ⟨w16.heap.size, 0, none⟩) 1 1] := Bl.newAt (by simp)
  have hv0 : Sl ((w16.alloc (.cells #[.int .u8 97] 5 (1, 2))).alloc (.cells #[.int .i64 0, .slice (some ⟨w16.heap.size, 0, none⟩) 1 1] 40)) 1 (some ⟨w16.heap.size, 0, none⟩) 1 ([97].map bn) := by
    have h := Sl.markAt (w := w16) (g := w16.heap.size) (by simp) #[.int .u8 97] 5 (1, 2) 1 1 rfl
    exact Sl.fr' (by (repeat (first | with_reducible exact Fr.refl _ _ | with_reducible assumption | with_reducible refine Fr.drew ?_ | with_reducible refine Fr.drewN ?_ _ | with_reducible refine Fr.alloc ?_ _ | with_reducible refine Fr.setIn ?_ (by first | exact Or.inl rfl | exact Or.inr (by simp; done) | exact Or.inr (by simp; omega) | exact Or.inr (by omega)) _))) h fun _ _ _ _ => id
  have hA : FAt ((w16.alloc (.cells #[.int .u8 97] 5 (1, 2))).alloc (.cells #[.int .i64 0, .slice (some ⟨w16.heap.size, 0, none⟩) 1 1] 40)) 2 (some ⟨(w16.heap.size + 1), 0, none⟩) 1 [(0, [97])] := FAt.one hb hv0
  have c1 := fun c => kput (c := c) ((w16.alloc (.cells #[.int .u8 97] 5 (1, 2))).alloc (.cells #[.int .i64 0, .slice (some ⟨w16.heap.size, 0, none⟩) 1 1] 40)) hA (by omega) (by decide) (bs := ([] : List Nat)) (er := 21) (k := 0) (by kernel_rfl) (by kernel_rfl) rfl
  clear hb hA hv0
  refine (c1 _).mono ?_
  clear c1
  rintro e w17 ⟨Aw17, cw17, rfl, hS, hf⟩
  have HSw17 := hide hS
  have HF2 : Hid (Fr (fun _ => False) W w17) := HF.out.trans (Fr.trans (by (repeat (first | with_reducible exact Fr.refl _ _ | with_reducible assumption | with_reducible refine Fr.drew ?_ | with_reducible refine Fr.drewN ?_ _ | with_reducible refine Fr.alloc ?_ _ | with_reducible refine Fr.setIn ?_ (by first | exact Or.inl rfl | exact Or.inr (by simp; done) | exact Or.inr (by simp; omega) | exact Or.inr (by omega)) _))) hf)
  have HSw152 := hide (Sl.fr' (Fr.trans (w := w16) (by (repeat (first | with_reducible exact Fr.refl _ _ | with_reducible assumption | with_reducible refine Fr.drew ?_ | with_reducible refine Fr.drewN ?_ _ | with_reducible refine Fr.alloc ?_ _ | with_reducible refine Fr.setIn ?_ (by first | exact Or.inl rfl | exact Or.inr (by simp; done) | exact Or.inr (by simp; omega) | exact Or.inr (by omega)) _))) hf) HSw15.out fun _ _ _ _ => id)
  clear HF HSw15
  have HF := HF2
  clear HF2
  have HSw15 := HSw152
  clear HSw152
  clear hS hf
  clear HSw17
  have hcv5 := convB (w := w17) (g := w17.heap.size) (by simp) #[.int .u8 97] 1 rfl
  go_wp2_with fail
  clear hcv5
  have hb : Bl ((w17.alloc (.cells #[.int .u8 97] 5 (1, 2))).alloc (.cells #[.int .i64 256, .slice (some ⟨w17.heap.size, 0, none⟩) 1 1] 40)) (w17.heap.size + 1) 40 #[.int .i64 256, .slice (some ⟨w17.heap.size, 0, none⟩) 1 1] := Bl.newAt (by simp)
  have hv0 : Sl ((w17.alloc (.cells #[.int .u8 97] 5 (1, 2))).alloc (.cells #[.int .i64 256, .slice (some ⟨w17.heap.size, 0, none⟩) 1 1] 40)) 1 (some ⟨w17.heap.size, 0, none⟩) 1 ([97].map bn) := by
    have h := Sl.markAt (w := w17) (g := w17.heap.size) (by simp) #[.int .u8 97] 5 (1, 2) 1 1 rfl
    exact Sl.fr' (by (repeat (first | with_reducible exact Fr.refl _ _ | with_reducible assumption | with_reducible refine Fr.drew ?_ | with_reducible refine Fr.drewN ?_ _ | with_reducible refine Fr.alloc ?_ _ | with_reducible refine Fr.setIn ?_ (by first | exact Or.inl rfl | exact Or.inr (by simp; done) | exact Or.inr (by simp; omega) | exact Or.inr (by omega)) _))) h fun _ _ _ _ => id
  have hA : FAt ((w17.alloc (.cells #[.int .u8 97] 5 (1, 2))).alloc (.cells #[.int .i64 256, .slice (some ⟨w17.heap.size, 0, none⟩) 1 1] 40)) 2 (some ⟨(w17.heap.size + 1), 0, none⟩) 1 [(256, [97])] := FAt.one hb hv0
  have c1 := fun c => kput (c := c) ((w17.alloc (.cells #[.int .u8 97] 5 (1, 2))).alloc (.cells #[.int .i64 256, .slice (some ⟨w17.heap.size, 0, none⟩) 1 1] 40)) hA (by omega) (by decide) (bs := ([] : List Nat)) (er := 21) (k := 0) (by kernel_rfl) (by kernel_rfl) rfl
  clear hb hA hv0
  refine (c1 _).mono ?_
  clear c1
  rintro e w18 ⟨Aw18, cw18, rfl, hS, hf⟩
  have HSw18 := hide hS
  have HF2 : Hid (Fr (fun _ => False) W w18) := HF.out.trans (Fr.trans (by (repeat (first | with_reducible exact Fr.refl _ _ | with_reducible assumption | with_reducible refine Fr.drew ?_ | with_reducible refine Fr.drewN ?_ _ | with_reducible refine Fr.alloc ?_ _ | with_reducible refine Fr.setIn ?_ (by first | exact Or.inl rfl | exact Or.inr (by simp; done) | exact Or.inr (by simp; omega) | exact Or.inr (by omega)) _))) hf)
  have HSw152 := hide (Sl.fr' (Fr.trans (w := w17) (by (repeat (first | with_reducible exact Fr.refl _ _ | with_reducible assumption | with_reducible refine Fr.drew ?_ | with_reducible refine Fr.drewN ?_ _ | with_reducible refine Fr.alloc ?_ _ | with_reducible refine Fr.setIn ?_ (by first | exact Or.inl rfl | exact Or.inr (by simp; done) | exact Or.inr (by simp; omega) | exact Or.inr (by omega)) _))) hf) HSw15.out fun _ _ _ _ => id)
  clear HF HSw15
  have HF := HF2
  clear HF2
  have HSw15 := HSw152
  clear HSw152
  clear hS hf
  clear HSw18
  go_wp2_with fail
  have hb : Bl (w18.alloc (.cells #[.int .i64 1, .slice none 0 0] 40)) (w18.heap.size) 40 #[.int .i64 1, .slice none 0 0] := Bl.newAt (by simp)
  have hA : FAt (w18.alloc (.cells #[.int .i64 1, .slice none 0 0] 40)) 2 (some ⟨(w18.heap.size), 0, none⟩) 1 [(1, [])] := FAt.one hb (Sl.nil_ _ _ _)
  have c1 := fun c => kput (c := c) (w18.alloc (.cells #[.int .i64 1, .slice none 0 0] 40)) hA (by omega) (by decide) (bs := ([] : List Nat)) (er := 20) (k := 0) (by kernel_rfl) (by kernel_rfl) rfl
  clear hb hA
  refine (c1 _).mono ?_
  clear c1
  rintro e w19 ⟨Aw19, cw19, rfl, hS, hf⟩
  have HSw19 := hide hS
  have HF2 : Hid (Fr (fun _ => False) W w19) := HF.out.trans (Fr.trans (by (repeat (first | with_reducible exact Fr.refl _ _ | with_reducible assumption | with_reducible refine Fr.drew ?_ | with_reducible refine Fr.drewN ?_ _ | with_reducible refine Fr.alloc ?_ _ | with_reducible refine Fr.setIn ?_ (by first | exact Or.inl rfl | exact Or.inr (by simp; done) | exact Or.inr (by simp; omega) | exact Or.inr (by omega)) _))) hf)
  have HSw152 := hide (Sl.fr' (Fr.trans (w := w18) (by (repeat (first | with_reducible exact Fr.refl _ _ | with_reducible assumption | with_reducible refine Fr.drew ?_ | with_reducible refine Fr.drewN ?_ _ | with_reducible refine Fr.alloc ?_ _ | with_reducible refine Fr.setIn ?_ (by first | exact Or.inl rfl | exact Or.inr (by simp; done) | exact Or.inr (by simp; omega) | exact Or.inr (by omega)) _))) hf) HSw15.out fun _ _ _ _ => id)
  clear HF HSw15
  have HF := HF2
  clear HF2
  have HSw15 := HSw152
  clear HSw152
  clear hS hf
  clear HSw19
  go_wp2_with fail
  refine (ksame (xs := [1, 2, 97, 98, 200, 1, 0]) _ (by rfl) (by omega) (Sl.fr' ((Fr.refl (fun _ => False) _).alloc _) HSw15.out fun _ _ _ _ => id) (Sl.row w19 #[.int .u8 1, .int .u8 2, .int .u8 97, .int .u8 98, .int .u8 200, .int .u8 1, .int .u8 0] 5 1 7 rfl)).mono ?_
  rintro e w20 ⟨rfl, hf⟩
  clear HSw15
  have HF2 : Hid (Fr (fun _ => False) W w20) := HF.out.trans (Fr.trans (by (repeat (first | with_reducible exact Fr.refl _ _ | with_reducible assumption | with_reducible refine Fr.drew ?_ | with_reducible refine Fr.drewN ?_ _ | with_reducible refine Fr.alloc ?_ _ | with_reducible refine Fr.setIn ?_ (by first | exact Or.inl rfl | exact Or.inr (by simp; done) | exact Or.inr (by simp; omega) | exact Or.inr (by omega)) _))) hf)
  clear HF
  have HF := HF2
  clear HF2
  clear hf
  go_wp2_with fail
  refine (num_any _ _).mono ?_
  rintro e w' ⟨rfl, rfl⟩
  go_wp2_with fail
  refine (num_any _ _).mono ?_
  rintro e w' ⟨rfl, rfl⟩
  go_wp2_with fail
  refine (num_any _ _).mono ?_
  rintro e w' ⟨rfl, rfl⟩
  go_wp2_with fail
  refine (num_any _ _).mono ?_
  rintro e w' ⟨rfl, rfl⟩
  go_wp2_with fail
  refine (num_any _ _).mono ?_
  rintro e w' ⟨rfl, rfl⟩
  have n0 := neq0
  have n1 := neq1
  have n2 := neq2
  have n3 := neq3
  have n4 := neq4
  have n5 := neq5
  have ng := eqg
  go_wp2_with fail
  refine (got_any _ [1, 2, 97, 98, 1, 1, 99] _ 7 7 (by omega) (by omega) (by omega) (by rfl) (by decide) (Sl.row w20 #[.int .u8 1, .int .u8 2, .int .u8 97, .int .u8 98, .int .u8 1, .int .u8 1, .int .u8 99] 5 1 7 rfl) (k := 0) (p := 4) (er := 21) (by kernel_rfl) (by kernel_rfl) (by kernel_rfl)).mono ?_
  rintro e w21 ⟨rfl, hf⟩
  have HF2 : Hid (Fr (fun _ => False) W w21) := HF.out.trans (Fr.trans (by (repeat (first | with_reducible exact Fr.refl _ _ | with_reducible assumption | with_reducible refine Fr.drew ?_ | with_reducible refine Fr.drewN ?_ _ | with_reducible refine Fr.alloc ?_ _ | with_reducible refine Fr.setIn ?_ (by first | exact Or.inl rfl | exact Or.inr (by simp; done) | exact Or.inr (by simp; omega) | exact Or.inr (by omega)) _))) hf)
  clear HF
  have HF := HF2
  clear HF2
  clear hf
  go_wp2_with fail
  refine (got_any _ [1, 0] _ 2 2 (by omega) (by omega) (by omega) (by rfl) (by decide) (Sl.row w21 #[.int .u8 1, .int .u8 0] 5 1 2 rfl) (k := 0) (p := 1) (er := 20) (by kernel_rfl) (by kernel_rfl) (by kernel_rfl)).mono ?_
  rintro e w22 ⟨rfl, hf⟩
  have HF2 : Hid (Fr (fun _ => False) W w22) := HF.out.trans (Fr.trans (by (repeat (first | with_reducible exact Fr.refl _ _ | with_reducible assumption | with_reducible refine Fr.drew ?_ | with_reducible refine Fr.drewN ?_ _ | with_reducible refine Fr.alloc ?_ _ | with_reducible refine Fr.setIn ?_ (by first | exact Or.inl rfl | exact Or.inr (by simp; done) | exact Or.inr (by simp; omega) | exact Or.inr (by omega)) _))) hf)
  clear HF
  have HF := HF2
  clear HF2
  clear hf
  go_wp2_with fail
  refine (got_any _ [1, 2, 97] _ 3 3 (by omega) (by omega) (by omega) (by rfl) (by decide) (Sl.row w22 #[.int .u8 1, .int .u8 2, .int .u8 97] 5 1 3 rfl) (k := 0) (p := 2) (er := 22) (by kernel_rfl) (by kernel_rfl) (by kernel_rfl)).mono ?_
  rintro e w23 ⟨rfl, hf⟩
  have HF2 : Hid (Fr (fun _ => False) W w23) := HF.out.trans (Fr.trans (by (repeat (first | with_reducible exact Fr.refl _ _ | with_reducible assumption | with_reducible refine Fr.drew ?_ | with_reducible refine Fr.drewN ?_ _ | with_reducible refine Fr.alloc ?_ _ | with_reducible refine Fr.setIn ?_ (by first | exact Or.inl rfl | exact Or.inr (by simp; done) | exact Or.inr (by simp; omega) | exact Or.inr (by omega)) _))) hf)
  clear HF
  have HF := HF2
  clear HF2
  clear hf
  go_wp2_with fail
  refine (got_any _ [1] _ 1 1 (by omega) (by omega) (by omega) (by rfl) (by decide) (Sl.row w23 #[.int .u8 1] 5 1 1 rfl) (k := 0) (p := 1) (er := 22) (by kernel_rfl) (by kernel_rfl) (by kernel_rfl)).mono ?_
  rintro e w24 ⟨rfl, hf⟩
  have HF2 : Hid (Fr (fun _ => False) W w24) := HF.out.trans (Fr.trans (by (repeat (first | with_reducible exact Fr.refl _ _ | with_reducible assumption | with_reducible refine Fr.drew ?_ | with_reducible refine Fr.drewN ?_ _ | with_reducible refine Fr.alloc ?_ _ | with_reducible refine Fr.setIn ?_ (by first | exact Or.inl rfl | exact Or.inr (by simp; done) | exact Or.inr (by simp; omega) | exact Or.inr (by omega)) _))) hf)
  clear HF
  have HF := HF2
  clear HF2
  clear hf
  go_wp2_with fail
  refine (got_any _ [0] _ 1 1 (by omega) (by omega) (by omega) (by rfl) (by decide) (Sl.row w24 #[.int .u8 0] 5 1 1 rfl) (k := 0) (p := 0) (er := 21) (by kernel_rfl) (by kernel_rfl) (by kernel_rfl)).mono ?_
  rintro e w25 ⟨rfl, hf⟩
  have HF2 : Hid (Fr (fun _ => False) W w25) := HF.out.trans (Fr.trans (by (repeat (first | with_reducible exact Fr.refl _ _ | with_reducible assumption | with_reducible refine Fr.drew ?_ | with_reducible refine Fr.drewN ?_ _ | with_reducible refine Fr.alloc ?_ _ | with_reducible refine Fr.setIn ?_ (by first | exact Or.inl rfl | exact Or.inr (by simp; done) | exact Or.inr (by simp; omega) | exact Or.inr (by omega)) _))) hf)
  clear HF
  have HF := HF2
  clear HF2
  clear hf
  go_wp2_with fail
  refine (got_any _ ([] : List Nat) _ 0 0 (by omega) (by omega) (by omega) (by rfl) (by decide) (Sl.nil_ _ _ _) (k := 0) (p := 0) (er := 0) (by kernel_rfl) (by kernel_rfl) (by kernel_rfl)).mono ?_
  rintro e w26 ⟨rfl, hf⟩
  have HF2 : Hid (Fr (fun _ => False) W w26) := HF.out.trans (Fr.trans (by (repeat (first | with_reducible exact Fr.refl _ _ | with_reducible assumption | with_reducible refine Fr.drew ?_ | with_reducible refine Fr.drewN ?_ _ | with_reducible refine Fr.alloc ?_ _ | with_reducible refine Fr.setIn ?_ (by first | exact Or.inl rfl | exact Or.inr (by simp; done) | exact Or.inr (by simp; omega) | exact Or.inr (by omega)) _))) hf)
  clear HF
  have HF := HF2
  clear HF2
  clear hf
  clear n0 n1 n2 n3 n4
  go_wp2_with fail
  refine (kitems (xs := [1, 97, 0]) (vs := [[97], []]) (p := 0) (k := 2) (er := 0) (n := 3) (c := 3) _ (by rfl) (by omega) (by omega) (by omega) (by decide) (Sl.row w26 #[.int .u8 1, .int .u8 97, .int .u8 0] 5 1 3 rfl) (by kernel_rfl) (by kernel_rfl) rfl).mono ?_
  rintro e w27 ⟨Aw27, cw27, rfl, hL, hf⟩
  have HL := hide hL
  have HF2 : Hid (Fr (fun _ => False) W w27) := HF.out.trans (Fr.trans (by (repeat (first | with_reducible exact Fr.refl _ _ | with_reducible assumption | with_reducible refine Fr.drew ?_ | with_reducible refine Fr.drewN ?_ _ | with_reducible refine Fr.alloc ?_ _ | with_reducible refine Fr.setIn ?_ (by first | exact Or.inl rfl | exact Or.inr (by simp; done) | exact Or.inr (by simp; omega) | exact Or.inr (by omega)) _))) hf)
  clear HF
  have HF := HF2
  clear HF2
  clear hf hL
  go_wp2_with fail
  refine (kitems (xs := [2, 97]) (vs := []) (p := 1) (k := 0) (er := 22) (n := 2) (c := 2) _ (by rfl) (by omega) (by omega) (by omega) (by decide) (Sl.row w27 #[.int .u8 2, .int .u8 97] 5 1 2 rfl) (by kernel_rfl) (by kernel_rfl) rfl).mono ?_
  rintro e w28 ⟨Aw28, cw28, rfl, hL, hf⟩
  have HF2 : Hid (Fr (fun _ => False) W w28) := HF.out.trans (Fr.trans (by (repeat (first | with_reducible exact Fr.refl _ _ | with_reducible assumption | with_reducible refine Fr.drew ?_ | with_reducible refine Fr.drewN ?_ _ | with_reducible refine Fr.alloc ?_ _ | with_reducible refine Fr.setIn ?_ (by first | exact Or.inl rfl | exact Or.inr (by simp; done) | exact Or.inr (by simp; omega) | exact Or.inr (by omega)) _))) hf)
  clear HF
  have HF := HF2
  clear HF2
  have HL2 := hide (LAt.quiet HL.out (Fr.trans (w := w27) (by (repeat (first | with_reducible exact Fr.refl _ _ | with_reducible assumption | with_reducible refine Fr.drew ?_ | with_reducible refine Fr.drewN ?_ _ | with_reducible refine Fr.alloc ?_ _ | with_reducible refine Fr.setIn ?_ (by first | exact Or.inl rfl | exact Or.inr (by simp; done) | exact Or.inr (by simp; omega) | exact Or.inr (by omega)) _))) hf))
  clear HL
  have HL := HL2
  clear HL2
  clear hf hL
  go_wp2_with fail
  refine (kitems (xs := ([] : List Nat)) (vs := []) (p := 0) (k := 0) (er := 20) (n := 0) (c := 0) _ (by rfl) (by omega) (by omega) (by omega) (by decide) (Sl.nil_ _ _ _) (by kernel_rfl) (by kernel_rfl) rfl).mono ?_
  rintro e w29 ⟨Aw29, cw29, rfl, hL, hf⟩
  have HF2 : Hid (Fr (fun _ => False) W w29) := HF.out.trans (Fr.trans (by (repeat (first | with_reducible exact Fr.refl _ _ | with_reducible assumption | with_reducible refine Fr.drew ?_ | with_reducible refine Fr.drewN ?_ _ | with_reducible refine Fr.alloc ?_ _ | with_reducible refine Fr.setIn ?_ (by first | exact Or.inl rfl | exact Or.inr (by simp; done) | exact Or.inr (by simp; omega) | exact Or.inr (by omega)) _))) hf)
  clear HF
  have HF := HF2
  clear HF2
  have HL2 := hide (LAt.quiet HL.out (Fr.trans (w := w28) (by (repeat (first | with_reducible exact Fr.refl _ _ | with_reducible assumption | with_reducible refine Fr.drew ?_ | with_reducible refine Fr.drewN ?_ _ | with_reducible refine Fr.alloc ?_ _ | with_reducible refine Fr.setIn ?_ (by first | exact Or.inl rfl | exact Or.inr (by simp; done) | exact Or.inr (by simp; omega) | exact Or.inr (by omega)) _))) hf))
  clear HL
  have HL := HL2
  clear HL2
  clear hf hL
  have hcv6 := convB (w := w29) (g := w29.heap.size) (by simp) #[.int .u8 97] 1 rfl
  go_wp2_with fail
  clear hcv6
  have hb : Bl ((w29.alloc (.cells #[.int .u8 97] 5 (1, 2))).alloc (.cells #[.slice (some ⟨w29.heap.size, 0, none⟩) 1 1, .slice none 0 0] 23)) (w29.heap.size + 1) 23 #[.slice (some ⟨w29.heap.size, 0, none⟩) 1 1, .slice none 0 0] := Bl.newAt (by simp)
  have hv : Sl ((w29.alloc (.cells #[.int .u8 97] 5 (1, 2))).alloc (.cells #[.slice (some ⟨w29.heap.size, 0, none⟩) 1 1, .slice none 0 0] 23)) 1 (some ⟨w29.heap.size, 0, none⟩) 1 ([97].map bn) := Sl.fr' (by (repeat (first | with_reducible exact Fr.refl _ _ | with_reducible assumption | with_reducible refine Fr.drew ?_ | with_reducible refine Fr.drewN ?_ _ | with_reducible refine Fr.alloc ?_ _ | with_reducible refine Fr.setIn ?_ (by first | exact Or.inl rfl | exact Or.inr (by simp; done) | exact Or.inr (by simp; omega) | exact Or.inr (by omega)) _))) (Sl.markAt (w := w29) rfl #[.int .u8 97] 5 (1, 2) 1 1 rfl) fun _ _ _ _ => id
  have hA : LAt ((w29.alloc (.cells #[.int .u8 97] 5 (1, 2))).alloc (.cells #[.slice (some ⟨w29.heap.size, 0, none⟩) 1 1, .slice none 0 0] 23)) ((w29.alloc (.cells #[.int .u8 97] 5 (1, 2))).alloc (.cells #[.slice (some ⟨w29.heap.size, 0, none⟩) 1 1, .slice none 0 0] 23)).heap.size (some ⟨w29.heap.size + 1, 0, none⟩) 2 [[97], []] := LAt.two hb hv (Sl.nil_ _ _ _) (by omega) (by omega)
  have c1 := fun c => klist (c := c) ((w29.alloc (.cells #[.int .u8 97] 5 (1, 2))).alloc (.cells #[.slice (some ⟨w29.heap.size, 0, none⟩) 1 1, .slice none 0 0] 23)) (by omega) (by decide) (bs := [1, 97, 0]) (k := 3) (by kernel_rfl) rfl (by omega) hA
  clear hb hv hA
  refine (c1 _).mono ?_
  clear c1
  rintro e w30 ⟨Aw30, cw30, rfl, hS, hf⟩
  have HSw30 := hide hS
  have HL2 := hide (LAt.quiet HL.out (Fr.trans (w := w29) (by (repeat (first | with_reducible exact Fr.refl _ _ | with_reducible assumption | with_reducible refine Fr.drew ?_ | with_reducible refine Fr.drewN ?_ _ | with_reducible refine Fr.alloc ?_ _ | with_reducible refine Fr.setIn ?_ (by first | exact Or.inl rfl | exact Or.inr (by simp; done) | exact Or.inr (by simp; omega) | exact Or.inr (by omega)) _))) hf))
  clear HL
  have HL := HL2
  clear HL2
  have HF2 : Hid (Fr (fun _ => False) W w30) := HF.out.trans (Fr.trans (by (repeat (first | with_reducible exact Fr.refl _ _ | with_reducible assumption | with_reducible refine Fr.drew ?_ | with_reducible refine Fr.drewN ?_ _ | with_reducible refine Fr.alloc ?_ _ | with_reducible refine Fr.setIn ?_ (by first | exact Or.inl rfl | exact Or.inr (by simp; done) | exact Or.inr (by simp; omega) | exact Or.inr (by omega)) _))) hf)
  clear HF
  have HF := HF2
  clear HF2
  clear hS hf
  go_wp2_with fail
  refine (ksame (xs := [1, 97, 0]) _ (by rfl) (by omega) (Sl.fr' ((Fr.refl (fun _ => False) _).alloc _) HSw30.out fun _ _ _ _ => id) (Sl.row w30 #[.int .u8 1, .int .u8 97, .int .u8 0] 5 1 3 rfl)).mono ?_
  rintro e w31 ⟨rfl, hf⟩
  clear HSw30
  have HL2 := hide (LAt.quiet HL.out (Fr.trans (w := w30) (by (repeat (first | with_reducible exact Fr.refl _ _ | with_reducible assumption | with_reducible refine Fr.drew ?_ | with_reducible refine Fr.drewN ?_ _ | with_reducible refine Fr.alloc ?_ _ | with_reducible refine Fr.setIn ?_ (by first | exact Or.inl rfl | exact Or.inr (by simp; done) | exact Or.inr (by simp; omega) | exact Or.inr (by omega)) _))) hf))
  clear HL
  have HL := HL2
  clear HL2
  have HF2 : Hid (Fr (fun _ => False) W w31) := HF.out.trans (Fr.trans (by (repeat (first | with_reducible exact Fr.refl _ _ | with_reducible assumption | with_reducible refine Fr.drew ?_ | with_reducible refine Fr.drewN ?_ _ | with_reducible refine Fr.alloc ?_ _ | with_reducible refine Fr.setIn ?_ (by first | exact Or.inl rfl | exact Or.inr (by simp; done) | exact Or.inr (by simp; omega) | exact Or.inr (by omega)) _))) hf)
  clear HF
  have HF := HF2
  clear HF2
  clear hf
  go_wp2_with fail
  refine (klist (xss := []) (n := 0) _ (by omega) (by decide) (bs := ([] : List Nat)) (k := 0) (by kernel_rfl) rfl (by omega) ⟨rfl, fun h => absurd h (by omega)⟩).mono ?_
  rintro e w32 ⟨Aw32, cw32, rfl, hS, hf⟩
  have HL2 := hide (LAt.quiet HL.out (Fr.trans (w := w31) (by (repeat (first | with_reducible exact Fr.refl _ _ | with_reducible assumption | with_reducible refine Fr.drew ?_ | with_reducible refine Fr.drewN ?_ _ | with_reducible refine Fr.alloc ?_ _ | with_reducible refine Fr.setIn ?_ (by first | exact Or.inl rfl | exact Or.inr (by simp; done) | exact Or.inr (by simp; omega) | exact Or.inr (by omega)) _))) hf))
  clear HL
  have HL := HL2
  clear HL2
  have HF2 : Hid (Fr (fun _ => False) W w32) := HF.out.trans (Fr.trans (by (repeat (first | with_reducible exact Fr.refl _ _ | with_reducible assumption | with_reducible refine Fr.drew ?_ | with_reducible refine Fr.drewN ?_ _ | with_reducible refine Fr.alloc ?_ _ | with_reducible refine Fr.setIn ?_ (by first | exact Or.inl rfl | exact Or.inr (by simp; done) | exact Or.inr (by simp; omega) | exact Or.inr (by omega)) _))) hf)
  clear HF
  have HF := HF2
  clear HF2
  clear hS hf
  obtain ⟨lb, lo, rfl, -, hcl⟩ := HL.out.2 (by omega)
  obtain ⟨V0, m0, d0, e0, -, -, hS0, -⟩ := hcl 0 (by decide)
  obtain ⟨V1, m1, d1, e1, -, -, hS1, -⟩ := hcl 1 (by decide)
  obtain rfl : m0 = 1 := hS0.len
  obtain rfl : m1 = 0 := hS1.len
  have HS0 := hide hS0
  rw [Nat.add_zero] at e0
  clear hcl hS0 hS1
  have hcv7 := convB (w := w32) (g := w32.heap.size) (by simp) #[.int .u8 97] 1 rfl
  go_wp2_with fail
  clear hcv7
  refine (ksame (xs := [97]) _ (by rfl) (by omega) (Sl.fr' ((Fr.refl (fun _ => False) _).alloc _) HS0.out fun _ _ _ _ => id) (Sl.markAt (w := w32) rfl #[.int .u8 97] 5 (1, 2) 1 1 rfl)).mono ?_
  rintro e w33 ⟨rfl, hf⟩
  have e1' : w33.cell? ⟨lb, lo + 1, none⟩ = some (.slice V1 0 d1) := (Fr.cell (Fr.trans (w := w32) (by (repeat (first | with_reducible exact Fr.refl _ _ | with_reducible assumption | with_reducible refine Fr.drew ?_ | with_reducible refine Fr.drewN ?_ _ | with_reducible refine Fr.alloc ?_ _ | with_reducible refine Fr.setIn ?_ (by first | exact Or.inl rfl | exact Or.inr (by simp; done) | exact Or.inr (by simp; omega) | exact Or.inr (by omega)) _))) hf) (p := ⟨lb, lo + 1, none⟩) (World.block_lt_of_cell? w32 _ e1) id).trans e1
  clear e0 e1 HS0 HL
  have HF2 : Hid (Fr (fun _ => False) W w33) := HF.out.trans (Fr.trans (by (repeat (first | with_reducible exact Fr.refl _ _ | with_reducible assumption | with_reducible refine Fr.drew ?_ | with_reducible refine Fr.drewN ?_ _ | with_reducible refine Fr.alloc ?_ _ | with_reducible refine Fr.setIn ?_ (by first | exact Or.inl rfl | exact Or.inr (by simp; done) | exact Or.inr (by simp; omega) | exact Or.inr (by omega)) _))) hf)
  clear HF
  have HF := HF2
  clear HF2
  clear hf
  go_wp2_with fail
  refine (num_any _ _).mono ?_
  rintro e w' ⟨rfl, rfl⟩
  go_wp2_with fail
  refine (num_any _ _).mono ?_
  rintro e w' ⟨rfl, rfl⟩
  go_wp2_with fail
  refine (num_any _ _).mono ?_
  rintro e w' ⟨rfl, rfl⟩
  clear e1'
  go_wp2_with fail
  refine (faults_any _).mono ?_
  rintro e wa ⟨rfl, hfa⟩
  have HFa := hide (HF.out.trans hfa)
  clear hfa HF
  go_wp2_with fail
  refine (nothing_any _).mono ?_
  rintro e wb ⟨rfl, hfb⟩
  go_wp2_with fail
  go_ret
  exact ⟨rfl, HFa.out.trans hfb⟩
end Go.Proofs.Ytbglloafbmamoaa
